/-
  The walk of the law GaugeKeeps.
-/
import Derived.Test.YtmadogmahggpeaaGH
import Derived.Deep.DeepCutAuto
namespace Go.Proofs.Ytmadogmahggpeaa
open Go.RowKit

theorem one_mul {x : Nat} (hx : x < 18446744073709551616) : Fl.Eqv (Fl.mulC 4607182418800017408 x) x := by
  show Fl.Eqv (Fl.mulC Fl.ONE x) x
  rcases Fl.read_cases x with ⟨h, _⟩ | ⟨_, hr, hd⟩ | ⟨_, hr, _⟩
  · right; unfold Fl.mulC; rw [Fl.mul_none_r h]; exact ⟨Fl.nan_NAN, h⟩
  · left
    obtain ⟨m, p, e1, _, _, e2⟩ := Fl.read_fin (x := Fl.ONE) (by decide)
    have hm : m ≠ 0 := by intro h0; rw [h0, Nat.zero_mul, Fl.one_mg] at e2; have := Fl.U_pos; omega
    have : Fl.mulC Fl.ONE x = Ieee.double.word (Fl.sgn x) 9218868437227405312 := by
      unfold Fl.mulC Ieee.Format.mul
      rw [e1, hd, show Fl.sgn Fl.ONE = false by decide]
      simp [Ieee.Datum.product, hm, Ieee.Format.write, Fl.d_inf]
    rw [this]
    have h2 := Fl.word_eq hx
    rw [hr] at h2
    exact h2.symm
  · left
    obtain ⟨r, e, hR⟩ := Fl.mul_fin (x := Fl.ONE) (y := x) (by decide) hr
    rw [Fl.one_mg, Nat.mul_comm, Fl.U_eq] at hR
    obtain rfl := hR.unique (Fl.IsRound.exact Fl.KE (Fl.rung x))
    unfold Fl.mulC
    rw [e, show Fl.sgn Fl.ONE = false by decide, Bool.false_xor, Nat.min_eq_left (by omega)]
    exact (Fl.word_eq hx).symm

theorem clamp_in {x lo hi : Nat} (h : ¬ Fl.keyZ hi < Fl.keyZ lo) : Fl.keyZ lo ≤ Fl.keyZ (clampV x lo hi) ∧ Fl.keyZ (clampV x lo hi) ≤ Fl.keyZ hi := by
  unfold clampV; rw [if_neg h]; split
  · omega
  · split <;> omega
theorem clamp_twice {x lo hi : Nat} (h : ¬ Fl.keyZ hi < Fl.keyZ lo) : clampV (clampV x lo hi) lo hi = clampV x lo hi := by
  obtain ⟨h1, h2⟩ := clamp_in (x := x) h
  generalize clampV x lo hi = y at *
  unfold clampV; rw [if_neg h, if_neg (by omega), if_neg (by omega)]

set_option maxRecDepth 100000 in
set_option maxHeartbeats 1000000 in
theorem keeps_out (x lo hi : Nat) (w : World) (hx : x < 18446744073709551616) (hl : lo < 18446744073709551616) (hh : hi < 18446744073709551616) (hc : 0 < Fl.cmpZ lo hi) :
    Calls Try.prog 16 #[.float .f64 x, .float .f64 lo, .float .f64 hi] w fun e w' => e = .returned (.bool true) ∧ Below w.heap.size w w' := by
  have h := cmpZ_pos.1 hc
  have V := Lib.hid (show clampV x lo hi = 0 ∧ clampE lo hi = 1 by unfold clampV clampE; rw [if_pos h, if_pos h]; exact ⟨rfl, rfl⟩)
  clear h
  go_enter Try.func16, Try.ntmps16
  go_wp2_with fail
  refine (known4_any _).mono ?_
  rintro e w1 ⟨rfl, rfl⟩
  go_wp2_with fail
  refine (clamp_any _ _ _ _ hx hl hh).mono ?_
  rintro e w1 ⟨rfl, rfl⟩
  rw [V.out.1, V.out.2]
  go_wp2_with fail
  refine (cmp_any _ _ _ hl hh).mono ?_
  rintro e w1 ⟨rfl, rfl⟩
  go_wp2_with fail
  refine (same_yes _ _ _ (.refl _)).mono ?_
  rintro e w1 ⟨rfl, rfl⟩
  go_wp2_with fail
  go_ret
  exact ⟨rfl, Below.refl _ _⟩

set_option maxRecDepth 100000 in
set_option maxHeartbeats 2000000 in
theorem keeps_in (x lo hi : Nat) (w : World) (hx : x < 18446744073709551616) (hl : lo < 18446744073709551616) (hh : hi < 18446744073709551616) (hc : ¬ 0 < Fl.cmpZ lo hi) :
    Calls Try.prog 16 #[.float .f64 x, .float .f64 lo, .float .f64 hi] w fun e w' => e = .returned (.bool true) ∧ Below w.heap.size w w' := by
  have h : ¬ Fl.keyZ hi < Fl.keyZ lo := fun h => hc (cmpZ_pos.2 h)
  have V := Lib.hid (show clampE lo hi = 0 by unfold clampE; rw [if_neg h])
  have T := Lib.hid (clamp_twice (x := x) h)
  have hy := clamp_lt (lo := lo) (hi := hi) hx hl hh
  obtain ⟨k1, k2⟩ := clamp_in (x := x) h
  have c1 : ¬ Fl.cmpZ (clampV x lo hi) lo < 0 := fun hh => by have := cmpZ_neg.1 hh; omega
  have c2 : ¬ 0 < Fl.cmpZ (clampV x lo hi) hi := fun hh => by have := cmpZ_pos.1 hh; omega
  have r1 := Fl.tk_range lo
  have r2 := Fl.tk_range hi
  have hm : Fl.nanB hi = false → Fl.tk lo ≤ Fl.tk hi := fun hn => tk_mono hn (by omega)
  have Hm := Lib.hid hm
  have c3 : Fl.cmpZ (leastZ x lo) (mostZ x lo) ≤ 0 := cmpZ_le.2 (by rw [key_least, key_most]; omega)
  have ll := least_lt hx hl
  have lm := most_lt hx hl
  have O := Lib.hid (one_mul hx)
  have eo : Hid ((FloatKind.f64.format.order hi hi == some .eq) = !Fl.nanB hi) := Lib.hid (Fl.order_self hi)
  clear h k1 k2 hm
  go_enter Try.func16, Try.ntmps16
  go_wp2_with fail
  refine (known4_any _).mono ?_
  rintro e w1 ⟨rfl, rfl⟩
  go_wp2_with fail
  refine (clamp_any _ _ _ _ hx hl hh).mono ?_
  rintro e w1 ⟨rfl, rfl⟩
  rw [V.out]
  go_wp2_with fail
  refine (cmp_any _ _ _ hl hh).mono ?_
  rintro e w1 ⟨rfl, rfl⟩
  go_wp2_with fail
  refine (clamp_any _ _ _ _ hy hl hh).mono ?_
  rintro e w1 ⟨rfl, rfl⟩
  rw [V.out, T.out]
  go_wp2_with fail
  refine (same_yes _ _ _ (.refl _)).mono ?_
  rintro e w1 ⟨rfl, rfl⟩
  go_wp2_with fail
  refine (cmp_any _ _ _ hy hl).mono ?_
  rintro e w1 ⟨rfl, rfl⟩
  go_wp2_with fail
  refine (cmp_any _ _ _ hy hh).mono ?_
  rintro e w1 ⟨rfl, rfl⟩
  go_wp2_with fail
  refine (ticks_any _ _).mono ?_
  rintro e w1 ⟨rfl, rfl⟩
  go_wp2_with fail
  refine (ticks_any _ _).mono ?_
  rintro e w1 ⟨rfl, rfl⟩
  go_upto_region 10 with fail
  go_cut [82] (fun s wx => s = .bool false ∧ w = wx)
  case first =>
    by_cases hab : Fl.tk hi < Fl.tk lo
    · have e1 : (FloatKind.f64.format.order hi hi == some .eq) = false := by
        rw [eo.out]
        cases hn : Fl.nanB hi
        · have := Hm.out hn; omega
        · rfl
      go_wp2_with fail
      go_meet
      exact ⟨congrArg Value.bool (by simp; omega), rfl⟩
    · go_wp2_with fail
      go_meet
      exact ⟨congrArg Value.bool (by simp; omega), rfl⟩
  case rest =>
    obtain ⟨rfl, rfl⟩ := hcut
    go_wp2_with fail
    refine (least_any _ _ _ hx hl).mono ?_
    rintro e w1 ⟨rfl, rfl⟩
    go_wp2_with fail
    refine (most_any _ _ _ hx hl).mono ?_
    rintro e w1 ⟨rfl, rfl⟩
    go_wp2_with fail
    refine (cmp_any _ _ _ ll lm).mono ?_
    rintro e w1 ⟨rfl, rfl⟩
    go_wp2_with fail
    refine (power_any _ _ _).mono ?_
    rintro e w1 ⟨p1, n1, rfl, q1, l1, rfl⟩
    have Q1 := Lib.hid (show Fl.Eqv p1 4607182418800017408 from q1)
    clear q1 l1
    go_wp2_with fail
    refine (same_yes _ _ _ Q1.out).mono ?_
    rintro e w1 ⟨rfl, rfl⟩
    go_wp2_with fail
    refine (power_any _ _ _).mono ?_
    rintro e w1 ⟨p2, n2, rfl, q2, l2, rfl⟩
    have Q2 := Lib.hid (show Fl.Eqv p2 x from q2.trans O.out)
    clear q2 l2
    go_wp2_with fail
    refine (same_yes _ _ _ Q2.out).mono ?_
    rintro e w1 ⟨rfl, rfl⟩
    go_wp2_with fail
    go_ret
    exact ⟨rfl, below_drewN (Below.refl _ _) _⟩

theorem keeps_walk (x lo hi : Nat) (w : World) (hx : x < 18446744073709551616) (hl : lo < 18446744073709551616) (hh : hi < 18446744073709551616) :
    Calls Try.prog 16 #[.float .f64 x, .float .f64 lo, .float .f64 hi] w fun e w' => e = .returned (.bool true) ∧ Below w.heap.size w w' := by
  by_cases hc : 0 < Fl.cmpZ lo hi
  · exact keeps_out x lo hi w hx hl hh hc
  · exact keeps_in x lo hi w hx hl hh hc

end Go.Proofs.Ytmadogmahggpeaa
