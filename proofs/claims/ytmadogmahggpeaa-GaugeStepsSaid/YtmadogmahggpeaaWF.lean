/-
  The walk of the reference's key: by halving the range of keys.
-/
import Derived.Test.YtmadogmahggpeaaWE
namespace Go.Proofs.Ytmadogmahggpeaa
open Go.RowKit

theorem key_num_bounds {x : Nat} (hn : Fl.nanB x = false) : -9218868437227405313 ≤ Fl.keyZ x ∧ Fl.keyZ x ≤ 9218868437227405312 := by
  have := Fl.not_nan hn
  unfold Fl.keyZ; rw [hn]; simp only [Bool.false_eq_true, if_false]; split <;> omega

theorem ofV_in {k : Int} (h0 : -9218868437227405313 ≤ k) (h1 : k ≤ 9218868437227405312) : ofV k = ofKey k := by
  unfold ofV; rw [if_neg (by omega), if_neg (by omega), if_neg (by omega)]

theorem mid_of (l h : Int) (r1 : -9218868437227405313 ≤ l) (hlt : l < h) (r4 : h ≤ 9218868437227405312) :
    ∃ m : Int, l ≤ m ∧ m < h ∧ wrap64 (l + wrap64 (IntKind.u64.wrap ((IntKind.u64.wrap (IntKind.u64.wrap h - IntKind.u64.wrap l)).tdiv 2))) = m := by
  refine ⟨l + (h - l) / 2, by omega, by omega, ?_⟩
  have e1 : IntKind.u64.wrap (IntKind.u64.wrap h - IntKind.u64.wrap l) = h - l := by simp only [IntKind.wrap_u64]; omega
  rw [e1, Int.tdiv_eq_ediv_of_nonneg (by omega)]
  have e2 : IntKind.u64.wrap ((h - l) / 2) = (h - l) / 2 := by simp only [IntKind.wrap_u64]; omega
  rw [e2]
  unfold wrap64
  omega

set_option maxHeartbeats 400000 in
theorem rkey_num (x : Nat) (w : World) (hn : Fl.nanB x = false) :
    Calls Try.prog 30 #[.float .f64 x] w fun e w' => e = .returned (.int .i64 (Fl.keyZ x)) ∧ w = w' := by
  obtain ⟨b0, b1⟩ := key_num_bounds hn
  go_enter Try.func30, Try.ntmps30
  go_wp2_with ((with_reducible refine (nan_any _ _).mono ?_); rintro e w' ⟨rfl, rfl⟩)
  go_loop [3, 4] (fun lo hi => ∃ l h : Int, -9218868437227405313 ≤ l ∧ l ≤ Fl.keyZ x ∧ Fl.keyZ x ≤ h ∧ h ≤ 9218868437227405312 ∧ lo = .int .i64 l ∧ hi = .int .i64 h) (fun lo hi => (intOf hi - intOf lo).toNat)
  case atStart => exact ⟨_, _, by omega, b0, b1, by omega, rfl, rfl⟩
  case round =>
    obtain ⟨l, h, r1, r2, r3, r4, rfl, rfl⟩ := hrel
    by_cases hlt : l < h
    · obtain ⟨m, hm1, hm2, hm⟩ := mid_of l h r1 hlt r4
      have Hm := Lib.hid hm
      clear hm
      have hk := ofKey_spec m (by omega) (by omega)
      have c1 := @cmpZ_neg (ofKey m) x
      rw [hk.1] at c1
      have hv := ofV_in (k := m) (by omega) (by omega)
      have HV := Lib.hid hv
      clear hk hv
      by_cases hb : m < Fl.keyZ x
      · have c2 := c1.2 hb
        clear c1
        go_wp2_with fail
        rw [Hm.out]
        refine (rof_any m _ (by omega)).mono ?_
        rintro e w' ⟨rfl, rfl⟩
        rw [HV.out]
        go_wp2_with fail
        refine (rcmp_any _ _ _).mono ?_
        rintro e w' ⟨rfl, rfl⟩
        go_wp2_with fail
        go_round
        case rel => exact ⟨m + 1, h, by omega, by omega, by omega, by omega, by go_num, rfl⟩
        case measure => simp [intOf]; omega
      · have c2 : ¬ Fl.cmpZ (ofKey m) x < 0 := fun h => hb (c1.1 h)
        clear c1
        go_wp2_with fail
        rw [Hm.out]
        refine (rof_any m _ (by omega)).mono ?_
        rintro e w' ⟨rfl, rfl⟩
        rw [HV.out]
        go_wp2_with fail
        refine (rcmp_any _ _ _).mono ?_
        rintro e w' ⟨rfl, rfl⟩
        go_wp2_with fail
        go_round
        case rel => exact ⟨l, m, by omega, by omega, by omega, by omega, rfl, rfl⟩
        case measure => simp [intOf]; omega
    · go_wp2_with fail
      go_ret
      exact ⟨ret_int (by omega), rfl⟩

theorem rkey_any (x : Nat) (w : World) :
    Calls Try.prog 30 #[.float .f64 x] w fun e w' => e = .returned (.int .i64 (Fl.keyZ x)) ∧ w = w' := by
  cases hn : Fl.nanB x
  · exact rkey_num x w hn
  · have T := Lib.hid (Fl.key_nan hn)
    go_enter Try.func30, Try.ntmps30
    go_wp2_with ((with_reducible refine (nan_any _ _).mono ?_); rintro e w' ⟨rfl, rfl⟩)
    go_ret
    exact ⟨ret_int T.out.symm, rfl⟩

end Go.Proofs.Ytmadogmahggpeaa
