/-
  GaugeSteps: for all three numbers and a count the law returns true (Ticks, Power and Mix of the program answer as the document's), and the argument reads as before. No condition.
-/
import Derived.Test.YtmadogmahggpeaaRK
import Derived.Test.YtmadogmahggpeaaGF
namespace Go.Proofs.Ytmadogmahggpeaa
namespace GaugeStepsRow
open Go.ChangeShapes Go.WideShapes Go.ChangeAt Go.RowKit Go.Joins

set_option linter.unusedVariables false
set_option maxRecDepth 100000 in
set_option maxHeartbeats 400000 in
theorem lifted (os : Os) (started : os.Started) (H : Type) (enc : TypeId × Value → H) :
    ReturnsInHanded {} Try.checked os 13 .any (Rows.gaugeStepsSpec.pre6 enc Try.prog Try.f13 Rows.gaugeStepsRow.domain false) (Rows.gaugeStepsSpec.post enc Try.prog Try.f13 false true false false) := by
  refine returnsInHanded_of_change (C := Try.checked) own started (by kernel_rfl) Try.func13
    (ChangeSpec.witness6 (enc := enc) (C := Try.checked) false ⟨#[], #[.agg #[.float .f64 0, .float .f64 0, .float .f64 0, .int .i64 0]], []⟩ 8 (by kernel_rfl) (by kernel_rfl) (by kernel_rfl) (by kernel_rfl)) ?_
  intro W base args ds gs before hval0 hW _ _
  have hval : ∀ (j : Nat) t v, Try.f13.params[j]? = some t → args[j]? = some v → Value.okWide Try.prog W .any base t v := hval0
  have hW' := hW
  obtain ⟨p, q, hA0, hV, rfl, _, _⟩ := hW
  have hA : DataW.TrodAll enc Try.prog W 0 (fun _ => true) true Try.f13.params.toList args.toList ds p := hA0
  rw [Try.params13] at hA hval
  obtain ⟨v0, d0, rfl, rfl, h0⟩ := trodAll_one hA
  obtain ⟨rfl, rfl⟩ := trodVars_none hV
  have k0 := h0
  obtain ⟨c00, c01, c02, c03, y0, y1, y2, y3, m, rfl, e0, q0, hy0, hy1, hy2, hy3⟩ := open_agg4 Try.underlying51 (by kernel_rfl) cells51 (hval 0 51 v0 rfl rfl) h0
  obtain ⟨a00, z0, _, w00⟩ := trod_flt Try.underlying22 hy0
  simp at z0
  subst z0
  have b00 := wf_flt w00
  obtain ⟨a01, z1, _, w01⟩ := trod_flt Try.underlying22 hy1
  simp at z1
  subst z1
  have b01 := wf_flt w01
  obtain ⟨a02, z2, _, w02⟩ := trod_flt Try.underlying22 hy2
  simp at z2
  subst z2
  have b02 := wf_flt w02
  obtain ⟨a03, z3, _, w03⟩ := DataW.trod_int Try.underlying3 hy3
  simp at z3
  subst z3
  have b03 := wf_int w03
  clear hA0 hval0
  simp only [List.append_nil] at hW'
  have hlt : ∀ x ∈ p, x.block < W.heap.size := fun x hx => by simpa using hW'.lt x hx
  refine (steps_walk a00 a01 a02 a03 W).mono fun e W' ⟨he, hb⟩ => ?_
  subst he
  exact ⟨_, rfl, _, _, _, [], _, [], hW', trodAll_mk1 (shut_bool Try.underlying4 true), trodAll_mk1 (Below.trod laidOut (by kernel_rfl) (of_decide_eq_true (by kernel_rfl)) k0 hb (fun x hx => hlt x (by simp [hx]))), rfl, hb.frame _, fun h => by cases h⟩

theorem holds : Rows.GaugeStepsSaid :=
  OpenClaim.holds_of_wide 13 Try.f13 rfl rfl rfl rfl rfl rfl rfl ⟨rfl, rfl, rfl, rfl, rfl⟩ rfl rfl rfl rfl rfl (by kernel_rfl) Try.func13 (by kernel_rfl)
    (of_decide_eq_true (by kernel_rfl)) (by unfold Func.isWrapper; rw [if_neg (of_decide_eq_false (by kernel_rfl))]; exact ⟨rfl, rfl⟩)
    (fun os started H enc _ => lifted os started H enc)

end GaugeStepsRow
theorem GaugeSteps_holds : Rows.GaugeStepsSaid := GaugeStepsRow.holds
end Go.Proofs.Ytmadogmahggpeaa
