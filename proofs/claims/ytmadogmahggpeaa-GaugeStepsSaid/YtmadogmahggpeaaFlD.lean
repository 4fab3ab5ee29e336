/-
  Plain facts on 64-bit floating words: the constants of the program; ticks by comparisons; whole numbers as words; signs; powers of two.
-/
import Derived.Test.YtmadogmahggpeaaFlC
namespace Go.Proofs.Ytmadogmahggpeaa
namespace Fl
open Ieee

def HUN : Nat := 4681608360884174848
theorem hun_mg : mg (rung HUN) = 100000 * U := by
  obtain ⟨j, hj⟩ : ∃ j : Nat, j = 1038 := ⟨_, rfl⟩
  have := mg_at (E := j) (k := 6871947673600000) (by omega) (.inr (by omega))
  have hr : rung HUN = j * 4503599627370496 + 6871947673600000 := by rw [hj]; decide
  have hK := KE_eq
  rw [hr, this, show (6871947673600000 : Nat) = 100000 * 2 ^ 36 by decide, Nat.mul_assoc, ← Nat.pow_add, show 36 + j = KE by omega, U_eq]
theorem nan_ONE : nanB ONE = false := by decide
theorem nan_HUN : nanB HUN = false := by decide
theorem nan_0 : nanB 0 = false := by decide
theorem sv_ONE : sv ONE = (U : Int) := by unfold sv; rw [show sgn ONE = false by decide, one_mg]; rfl
theorem sv_HUN : sv HUN = ((100000 * U : Nat) : Int) := by unfold sv; rw [show sgn HUN = false by decide, hun_mg]; rfl
theorem sv_0 : sv 0 = 0 := by unfold sv; rw [show sgn 0 = false by decide, show rung 0 = 0 by decide, mg_zero]; rfl

theorem sv_pos {x : Nat} (h : sgn x = false) : sv x = (mg (rung x) : Int) := by unfold sv; rw [h]; rfl
theorem sv_neg {x : Nat} (h : sgn x = true) : sv x = -(mg (rung x) : Int) := by unfold sv; rw [h]; rfl

theorem fl_lt {x n : Nat} : mg (rung x) < n * U ↔ fl x < n := by unfold fl; rw [Nat.div_lt_iff_lt_mul U_pos]

/-- Below one. -/
theorem tk_small {x : Nat} (h : nanB x = true ∨ sv x < (U : Int)) : tk x = 0 := by
  unfold tk
  rcases h with h | h
  · rw [if_pos h]
  · split
    · rfl
    · split
      · rfl
      · rename_i h2
        rw [sv_pos (by simpa using h2)] at h
        have : fl x < 1 := fl_lt.1 (by omega)
        rw [if_neg (by omega)]; omega
theorem tk_big {x : Nat} (hn : nanB x = false) (h : ((100000 * U : Nat) : Int) ≤ sv x) : tk x = 100000 := by
  have hU := U_pos
  have hs : sgn x = false := by
    cases hs : sgn x
    · rfl
    · rw [sv_neg hs] at h; omega
  rw [sv_pos hs] at h
  have : ¬ fl x < 100000 := fun h' => by have := fl_lt.2 h'; omega
  unfold tk
  rw [hn, hs]
  simp only [Bool.false_eq_true, if_false]
  rw [if_pos (by omega)]
theorem tk_mid {x : Nat} (hn : nanB x = false) (h0 : (U : Int) ≤ sv x) (h : sv x < ((100000 * U : Nat) : Int)) : tk x = (fl x : Int) ∧ sgn x = false ∧ rung x < 9218868437227405312 ∧ fl x < 100000 := by
  have hU := U_pos
  have hs : sgn x = false := by
    cases hs : sgn x
    · rfl
    · rw [sv_neg hs] at h0; omega
  rw [sv_pos hs] at h
  have h1 : fl x < 100000 := fl_lt.1 (by omega)
  refine ⟨?_, hs, ?_, h1⟩
  · unfold tk
    rw [hn, hs]
    simp only [Bool.false_eq_true, if_false]
    rw [if_neg (by omega)]
  · have h2 := not_nan hn
    rcases Nat.lt_or_eq_of_le h2 with h3 | h3
    · exact h3
    · exfalso
      obtain ⟨r, hr1, hr2⟩ := whole_rung 100000 (by decide)
      have := mg_mono_lt hr1
      rw [h3] at h
      omega

theorem tk_range (x : Nat) : 0 ≤ tk x ∧ tk x ≤ 100000 := by unfold tk; split <;> (try split) <;> (try split) <;> omega

/-- By the reference's words: a number from nought on, up to the bound. -/
theorem tk_ref {x : Nat} (hn : nanB x = false) (h0 : 0 ≤ sv x) (h : sv x ≤ ((100000 * U : Nat) : Int)) : (double.read x).toInt .zero = some (tk x) := by
  have hfin : rung x < 9218868437227405312 := by
    rcases Nat.lt_or_eq_of_le (not_nan hn) with h3 | h3
    · exact h3
    · exfalso
      obtain ⟨r, hr1, hr2⟩ := whole_rung 100000 (by decide)
      have h4 := mg_mono_lt hr1
      have hp := mg_inf_pos
      rw [sv_inf h3] at h h0
      cases hs : sgn x
      · rw [hs] at h; simp only [Bool.false_eq_true, if_false] at h; omega
      · rw [hs] at h0; simp only [if_true] at h0; omega
  rw [toInt_fin hfin]
  unfold tk
  rw [hn]
  cases hs : sgn x
  · rw [sv_pos hs] at h
    have hU := U_pos
    have : fl x ≤ 100000 := by
      have := fl_lt (x := x) (n := 100001)
      have h5 : mg (rung x) < 100001 * U := by omega
      have := this.1 h5; omega
    simp only [Bool.false_eq_true, if_false]
    split <;> congr 1; omega
  · rw [sv_neg hs] at h0
    have h1 : mg (rung x) = 0 := by omega
    have : fl x = 0 := by unfold fl; rw [h1, Nat.zero_div]
    simp [this]

theorem to_int_val {x : Nat} {n : Int} (h : (double.read x).toInt .zero = some n) (h1 : -9223372036854775808 ≤ n) (h2 : n ≤ 9223372036854775807) : floatToIntVal .f64 x .i64 = some n := by
  unfold floatToIntVal
  have : FloatKind.f64.decode x = double.read x := rfl
  rw [this, h]
  simp only
  rw [if_pos]
  exact ⟨by simpa [IntKind.min, IntKind.bits, IntKind.signed] using h1, by simpa [IntKind.max, IntKind.bits, IntKind.signed] using h2⟩

/-- A whole number from nought on, as a word. -/
def wholeW (q : Nat) : Nat := double.nearest false q 0
theorem wholeW_spec {q : Nat} (hq : q < 9007199254740992) : nanB (wholeW q) = false ∧ sgn (wholeW q) = false ∧ rung (wholeW q) < 9218868437227405312 ∧ mg (rung (wholeW q)) = q * U ∧ wholeW q < 9223372036854775808 := by
  obtain ⟨r, h1, h2, h3⟩ := nearest_whole false q hq
  unfold wholeW
  rw [h1]
  obtain ⟨h4, h5⟩ := word_rung (s := false) (r := r) (by omega)
  refine ⟨nanB_false (by omega), h5, by omega, by rw [h4, h3], ?_⟩
  rw [word_val]; simp only [Bool.false_eq_true, if_false]; omega
theorem wholeW_fl {q : Nat} (hq : q < 9007199254740992) : fl (wholeW q) = q := fl_whole (wholeW_spec hq).2.2.2.1

/-- The floor, then the integer. -/
theorem floor_int {x : Nat} (hn : rung x < 9218868437227405312) (hs : sgn x = false) (h : fl x < 100000) : floatToIntVal .f64 (double.write ((double.read x).integral .down)) .i64 = some (fl x : Int) := by
  rw [floor_fin hn hs]
  show floatToIntVal .f64 (wholeW (fl x)) .i64 = _
  obtain ⟨h1, h2, h3, h4, _⟩ := wholeW_spec (q := fl x) (by omega)
  have h5 := toInt_fin h3
  rw [h2, wholeW_fl (by omega)] at h5
  exact to_int_val h5 (by omega) (by omega)

theorem ofInt_whole (q : Nat) : floatOfInt .f64 (q : Int) = wholeW q := by
  show double.nearest (decide ((q : Int) < 0)) (q : Int).natAbs 0 = _
  rw [decide_eq_false (by omega)]; rfl

/-! ### Signs -/
def negW (x : Nat) : Nat := x ^^^ 9223372036854775808
theorem neg_val {x : Nat} (hx : x < 18446744073709551616) : negW x = if sgn x then x - 9223372036854775808 else x + 9223372036854775808 := by
  unfold negW sgn
  by_cases h : x < 9223372036854775808
  · rw [show x / 9223372036854775808 = 0 by omega]
    have h2 := Nat.two_pow_add_eq_or_of_lt (i := 63) (b := x) (by omega) 1
    have h3 : (2 : Nat) ^ 63 = 9223372036854775808 := by decide
    have h4 : 9223372036854775808 ^^^ x = 9223372036854775808 + x := by
      have := Nat.two_pow_add_eq_or_of_lt (i := 63) (b := x) (by omega) 1
      rw [h3, Nat.mul_one] at this
      rw [this]
      apply Nat.eq_of_testBit_eq
      intro i
      rw [Nat.testBit_xor, Nat.testBit_or]
      by_cases hi : i = 63
      · subst hi
        have : x.testBit 63 = false := Nat.testBit_lt_two_pow (by omega)
        rw [this]; simp
      · have : (9223372036854775808 : Nat).testBit i = false := by
          rw [← h3, Nat.testBit_two_pow]; simp; omega
        rw [this]; simp
    rw [Nat.xor_comm, h4]; simp; omega
  · obtain ⟨y, rfl⟩ : ∃ y, x = 9223372036854775808 + y := ⟨x - 9223372036854775808, by omega⟩
    have h3 : (2 : Nat) ^ 63 = 9223372036854775808 := by decide
    have h5 : (9223372036854775808 + y) ^^^ 9223372036854775808 = y := by
      have := Nat.two_pow_add_eq_or_of_lt (i := 63) (b := y) (by omega) 1
      rw [h3, Nat.mul_one] at this
      rw [this]
      apply Nat.eq_of_testBit_eq
      intro i
      rw [Nat.testBit_xor, Nat.testBit_or]
      by_cases hi : i = 63
      · subst hi
        have : y.testBit 63 = false := Nat.testBit_lt_two_pow (by omega)
        rw [this]; simp [← h3]
      · have : (9223372036854775808 : Nat).testBit i = false := by
          rw [← h3, Nat.testBit_two_pow]; simp; omega
        rw [this]; simp
    rw [h5, show (9223372036854775808 + y) / 9223372036854775808 = 1 by omega]; simp
theorem negW_spec {x : Nat} (hx : x < 18446744073709551616) : negW x < 18446744073709551616 ∧ rung (negW x) = rung x ∧ sgn (negW x) = !sgn x := by
  rw [neg_val hx]
  by_cases h : x < 9223372036854775808
  · have h1 : sgn x = false := by unfold sgn; rw [show x / 9223372036854775808 = 0 by omega]; rfl
    rw [h1]; simp only [Bool.false_eq_true, if_false]
    refine ⟨by omega, by unfold rung; omega, ?_⟩
    unfold sgn; rw [show (x + 9223372036854775808) / 9223372036854775808 = 1 by omega]; rfl
  · have h1 : sgn x = true := by unfold sgn; rw [show x / 9223372036854775808 = 1 by omega]; rfl
    rw [h1]; simp only [if_true]
    refine ⟨by omega, by unfold rung; omega, ?_⟩
    unfold sgn; rw [show (x - 9223372036854775808) / 9223372036854775808 = 0 by omega]; rfl

/-- A word is its sign and its rung. -/
theorem word_eq {x : Nat} (hx : x < 18446744073709551616) : x = double.word (sgn x) (rung x) := by
  rw [word_val]; unfold sgn rung
  by_cases h : x < 9223372036854775808
  · rw [show x / 9223372036854775808 = 0 by omega]; simp; omega
  · rw [show x / 9223372036854775808 = 1 by omega]; simp; omega
theorem word_inj {x y : Nat} (hx : x < 18446744073709551616) (hy : y < 18446744073709551616) (hs : sgn x = sgn y) (hr : rung x = rung y) : x = y := by
  rw [word_eq hx, word_eq hy, hs, hr]
theorem key_inj {x y : Nat} (hx : x < 18446744073709551616) (hy : y < 18446744073709551616) (h : keyZ x = keyZ y) : Eqv x y := by
  unfold keyZ at h
  cases h1 : nanB x <;> cases h2 : nanB y
  · left
    rw [h1, h2] at h
    have := not_nan h1
    have := not_nan h2
    simp only [Bool.false_eq_true, if_false] at h
    cases h3 : sgn x <;> cases h4 : sgn y <;> rw [h3, h4] at h <;> simp only [Bool.false_eq_true, if_false, if_true] at h
    · exact word_inj hx hy (h3.trans h4.symm) (by omega)
    · omega
    · omega
    · exact word_inj hx hy (h3.trans h4.symm) (by omega)
  · have := not_nan h1
    rw [h1, h2] at h; simp only [Bool.false_eq_true, if_false, if_true] at h; split at h <;> omega
  · have := not_nan h2
    rw [h1, h2] at h; simp only [Bool.false_eq_true, if_false, if_true] at h; split at h <;> omega
  · exact .inr ⟨h1, h2⟩

/-! ### One over nought -/
theorem div_zero {x : Nat} (h : rung x = 0) : double.div ONE x = some (double.word (sgn x) 9218868437227405312) := by
  obtain ⟨m, p, e1, _, _, e2⟩ := read_fin (x := ONE) (by decide)
  obtain ⟨n, q, e3, _, _, e4⟩ := read_fin (x := x) (by omega)
  have hm : m ≠ 0 := by
    intro h0; rw [h0, Nat.zero_mul, one_mg] at e2; have := U_pos; omega
  have hn : n = 0 := by
    rw [h, mg_zero] at e4
    have := Nat.two_pow_pos (q + 1074).toNat
    rcases Nat.mul_eq_zero.1 e4.symm with h | h
    · exact h
    · omega
  unfold Format.div
  rw [e1, e3, hn]
  simp only [Datum.quotient, if_pos, if_neg hm, Option.map_some]
  rw [show sgn ONE = false by decide, Bool.false_xor]
  simp [Format.write, d_inf]

end Fl
end Go.Proofs.Ytmadogmahggpeaa
