/-
  The walk of the law BackoffPlans.
-/
import Derived.Test.YtmadogmahggpeaaWP
import Derived.Deep.QuietTactic
import Derived.BigQuiet
namespace Go.Proofs.Ytmadogmahggpeaa
open Go.RowKit

/-- What an owned list of numbers gives to a reader. -/
theorem Owns.shape {B : Nat} {v : Value} {l : List Int} {w : World} (h : Owns B v l w) : ∃ ao cap, v = .slice ao l.length cap ∧ (0 < l.length → ∃ g, ao = some ⟨g, 0, none⟩ ∧ B ≤ g ∧ g < w.heap.size ∧ ∀ j, j < l.length → w.cell? ⟨g, j, none⟩ = some (.int .i64 (l.getD j 0))) := by
  have h0 := h
  obtain ⟨_, ⟨rfl, hz⟩ | ⟨g, cap, cur, rfl, hg, hh, _⟩⟩ := h
  · exact ⟨none, 0, by rw [hz], fun hp => by omega⟩
  · refine ⟨_, _, rfl, fun _ => ⟨g, rfl, hg, (Array.getElem?_eq_some_iff.1 hh).1, fun j hj => ?_⟩⟩
    have := World.ownsRow.cellAt h0 j (by omega)
    rw [this]
    simp [List.getD, List.getElem?_eq_getElem hj]

set_option maxHeartbeats 1000000 in
theorem plans_no (base factor cap : Nat) (now tries : Int) (w : World) (h : now < 0 ∨ 1099511627776 < now ∨ tries < 0 ∨ 1000 < tries) :
    Calls Try.prog 5 #[setting base factor cap, .int .i64 now, .int .i64 tries] w fun e w' => e = .returned (.bool true) ∧ Below w.heap.size w w' := by
  have h' := Lib.hid h
  clear h
  go_enter Try.func5, Try.ntmps5
  go_wp2_with fail
  refine (known_any _).mono ?_
  rintro e w1 ⟨rfl, hb1⟩
  have B1 := (boxed_new base factor cap w 24).below hb1
  have L1 : Below w.heap.size w w1 := ((Below.refl _ _).alloc (Nat.le_refl _) _).trans (hb1.mono (by simp))
  clear hb1
  obtain ⟨z1, c10, c11, c12⟩ := id B1
  go_wp2_with fail
  refine (docplan_no _ _ _ _ _ _ h'.out).mono ?_
  rintro e w2 ⟨rfl, rfl⟩
  go_wp2_with fail
  refine (plan_no _ _ _ _ _ _ h'.out).mono ?_
  rintro e w3 ⟨rfl, hb3⟩
  have L3 := L1.trans (hb3.mono L1.size)
  clear hb3 c10 c11 c12
  go_wp2_with fail
  refine wp_loop_rounds 1 ?_
  rw [rounds_succ]
  go_wp2_with fail
  go_ret
  exact ⟨rfl, L3⟩

set_option maxHeartbeats 1000000 in
theorem plans_yes (base factor cap : Nat) (now : Int) (n : Nat) (w : World) (h0 : 0 ≤ now) (h1 : now ≤ 1099511627776) (hn : n ≤ 1000) (hc : cap < 18446744073709551616) :
    Calls Try.prog 5 #[setting base factor cap, .int .i64 now, .int .i64 n] w fun e w' => e = .returned (.bool true) ∧ Below w.heap.size w w' := by
  have hlen := planL_length base factor cap now n
  have Hlen := Lib.hid hlen
  clear hlen
  go_enter Try.func5, Try.ntmps5
  go_wp2_with fail
  refine (known_any _).mono ?_
  rintro e w1 ⟨rfl, hb1⟩
  have B1 := (boxed_new base factor cap w 24).below hb1
  have L1 : Below w.heap.size w w1 := ((Below.refl _ _).alloc (Nat.le_refl _) _).trans (hb1.mono (by simp))
  clear hb1
  obtain ⟨z1, c10, c11, c12⟩ := id B1
  go_wp2_with fail
  refine (docplan_yes _ _ _ _ _ _ h0 h1 hn).mono ?_
  rintro e w2 ⟨va, rfl, hown2, hb2⟩
  have B2 := B1.below hb2
  have L2 := L1.trans (hb2.mono L1.size)
  clear hb2 B1 L1 c10 c11 c12 z1
  obtain ⟨z1, c10, c11, c12⟩ := id B2
  obtain ⟨aa, ca, rfl, ha⟩ := hown2.shape
  have Ha := Lib.hid ha
  clear ha hown2
  rw [Hlen.out]
  go_wp2_with fail
  refine (plan_yes _ _ _ _ _ _ h0 h1 hn hc).mono ?_
  rintro e w3 ⟨vb, rfl, hown3, hb3⟩
  have L3 := L2.trans (hb3.mono L2.size)
  obtain ⟨ab, cb, rfl, hb⟩ := hown3.shape
  have Hb := Lib.hid hb
  have Hb3 := Lib.hid hb3
  clear hb hown3 hb3 c10 c11 c12 B2 L2 z1
  rw [Hlen.out]
  go_wp2_with fail
  go_loopw [11] (fun i wr => ∃ k m : Nat, k ≤ n ∧ i = .int .i64 k ∧ wr = w3.drewN m) (fun i _ => n - (intOf i).toNat)
  case atStart => exact ⟨0, 0, Nat.zero_le _, rfl, rfl⟩
  case round =>
    obtain ⟨k, m, hk, rfl, rfl⟩ := hrel
    by_cases hlt : k < n
    · obtain ⟨ga, ea, hga, hga2, fa⟩ := Ha.out (by rw [Hlen.out]; omega)
      obtain ⟨gb, eb, _, _, fb⟩ := Hb.out (by rw [Hlen.out]; omega)
      subst ea eb
      have fa' := (Hb3.out.cell (p := ⟨ga, k, none⟩) (by exact hga2)).trans (fa k (by rw [Hlen.out]; omega))
      have fb' := fb k (by rw [Hlen.out]; omega)
      clear fa fb
      go_wp2_with fail
      go_quiet (fail)
      go_wp2_with fail
      go_roundw
      case rel => exact ⟨k + 1, _, by omega, by go_num, rfl⟩
      case measure => simp [intOf]; omega
    · go_wp2_with fail
      go_ret
      exact ⟨rfl, below_drewN L3 m⟩

theorem plans_walk (base factor cap : Nat) (now tries : Int) (w : World) (hc : cap < 18446744073709551616) :
    Calls Try.prog 5 #[setting base factor cap, .int .i64 now, .int .i64 tries] w fun e w' => e = .returned (.bool true) ∧ Below w.heap.size w w' := by
  by_cases h : now < 0 ∨ 1099511627776 < now ∨ tries < 0 ∨ 1000 < tries
  · exact plans_no base factor cap now tries w h
  · obtain ⟨n, rfl⟩ := Int.eq_ofNat_of_zero_le (show 0 ≤ tries by omega)
    exact plans_yes base factor cap now n w (by omega) (by omega) (by omega) hc

end Go.Proofs.Ytmadogmahggpeaa
