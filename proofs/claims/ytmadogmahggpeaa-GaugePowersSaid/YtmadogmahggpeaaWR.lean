/-
  The walk of the law BackoffShifts.
-/
import Derived.Test.YtmadogmahggpeaaWQ
namespace Go.Proofs.Ytmadogmahggpeaa
open Go.RowKit

theorem acc_shift (base factor cap : Nat) (now later : Int) (k : Nat) : acc base factor cap (now + later) k = acc base factor cap now k + later := by
  induction k with
  | zero => rfl
  | succ k ih => simp only [acc]; rw [ih]; omega

theorem planL_get (base factor cap : Nat) (now : Int) {n k : Nat} (h : k < n) : (planL base factor cap now n).getD k 0 = acc base factor cap now (k + 1) := by
  unfold planL
  rw [List.getD_eq_getElem?_getD, List.getElem?_map, List.getElem?_range h]; rfl

theorem mod_wrap (n : Int) (c : Nat) (h0 : 0 < c) (h1 : c ≤ 9223372036854775808) : ∃ m : Nat, m < c ∧ wrap64 ((IntKind.u64.wrap n).tmod (c : Int)) = (m : Int) := by
  have h2 : 0 ≤ IntKind.u64.wrap n := by rw [IntKind.wrap_u64]; exact Int.emod_nonneg _ (by decide)
  have h3 := Int.emod_nonneg (IntKind.u64.wrap n) (show (c : Int) ≠ 0 by omega)
  have h4 := Int.emod_lt_of_pos (IntKind.u64.wrap n) (show 0 < (c : Int) by omega)
  refine ⟨(IntKind.u64.wrap n % (c : Int)).toNat, by omega, ?_⟩
  rw [Int.tmod_eq_emod_of_nonneg h2]
  unfold wrap64
  omega

set_option maxHeartbeats 1000000 in
theorem shifts_walk (base factor cap : Nat) (now later : Int) (w : World) (hc : cap < 18446744073709551616) :
    Calls Try.prog 7 #[setting base factor cap, .int .i64 now, .int .i64 later] w fun e w' => e = .returned (.bool true) ∧ Below w.heap.size w w' := by
  go_enter Try.func7, Try.ntmps7
  go_wp2_with fail
  refine (known_any _).mono ?_
  rintro e w1 ⟨rfl, hb1⟩
  have B1 := (boxed_new base factor cap w 24).below hb1
  have L1 : Below w.heap.size w w1 := ((Below.refl _ _).alloc (Nat.le_refl _) _).trans (hb1.mono (by simp))
  clear hb1
  obtain ⟨z1, c10, c11, c12⟩ := id B1
  go_wp2_with fail
  obtain ⟨m1, hm1, e1⟩ := mod_wrap now 100000 (by decide) (by decide)
  obtain ⟨m2, hm2, e2⟩ := mod_wrap later 100000 (by decide) (by decide)
  rw [show ((100000 : Nat) : Int) = 100000 from rfl] at e1 e2
  rw [e1, e2]
  clear e1 e2
  have G := fun k (h : k < 20) => planL_get base factor cap m1 h
  have G2 := fun k (h : k < 20) => planL_get base factor cap (m1 + m2) h
  have A := fun k => acc_shift base factor cap m1 m2 k
  have R := fun k => acc_range base factor cap m1 k
  have Hl1 := Lib.hid (planL_length base factor cap m1 20)
  have Hl2 := Lib.hid (planL_length base factor cap (m1 + m2) 20)
  have HG := Lib.hid G
  have HG2 := Lib.hid G2
  have HA := Lib.hid A
  have HR := Lib.hid R
  clear G G2 A R
  refine (plan_yes _ _ _ _ 20 _ (by omega) (by omega) (by omega) hc).mono ?_
  rintro e w2 ⟨va, rfl, hown2, hb2⟩
  have B2 := B1.below hb2
  have L2 := L1.trans (hb2.mono L1.size)
  clear hb2 B1 L1 c10 c11 c12 z1
  obtain ⟨z1, c10, c11, c12⟩ := id B2
  obtain ⟨aa, ca, rfl, ha⟩ := hown2.shape
  obtain ⟨ga, rfl, hga, hga2, fa⟩ := ha (by rw [Hl1.out]; omega)
  have Fa := Lib.hid fa
  clear ha hown2 fa
  rw [Hl1.out]
  go_wp2_with fail
  refine (plan_yes _ _ _ _ 20 _ (by omega) (by omega) (by omega) hc).mono ?_
  rintro e w3 ⟨vb, rfl, hown3, hb3⟩
  have L3 := L2.trans (hb3.mono L2.size)
  obtain ⟨ab, cb, rfl, hb⟩ := hown3.shape
  obtain ⟨gb, rfl, hgb, hgb2, fb⟩ := hb (by rw [Hl2.out]; omega)
  have Fb := Lib.hid fb
  have Hb3 := Lib.hid hb3
  clear hb hown3 hb3 c10 c11 c12 B2 L2 z1 fb
  rw [Hl2.out]
  go_wp2_with fail
  go_loopw [11] (fun i wr => ∃ k m : Nat, k ≤ 20 ∧ i = .int .i64 k ∧ wr = w3.drewN m) (fun i _ => 20 - (intOf i).toNat)
  case atStart => exact ⟨0, 0, Nat.zero_le _, rfl, rfl⟩
  case round =>
    obtain ⟨k, m, hk, rfl, rfl⟩ := hrel
    by_cases hlt : k < 20
    · have fa' := (Hb3.out.cell (p := ⟨ga, k, none⟩) (by exact hga2)).trans (Fa.out k (by rw [Hl1.out]; omega))
      have fb' := Fb.out k (by rw [Hl2.out]; omega)
      rw [HG.out k hlt] at fa'
      rw [HG2.out k hlt, HA.out] at fb'
      have hr := HR.out (k + 1)
      generalize acc base factor cap m1 (k + 1) = x at *
      go_wp2_with fail
      go_quiet (fail)
      go_wp2_with fail
      go_roundw
      case rel => exact ⟨k + 1, _, by omega, by go_num, rfl⟩
      case measure => simp [intOf]; omega
    · go_wp2_with fail
      go_ret
      exact ⟨rfl, below_drewN L3 m⟩

end Go.Proofs.Ytmadogmahggpeaa
