/-
  Plain facts on 64-bit floating words (no Go program in sight): the place of a word's magnitude, the order of words, how the exact value is rounded.
-/
import GoSem.Core.Float
namespace Go.Proofs.Ytmadogmahggpeaa
namespace Fl
open Ieee

def rung (x : Nat) : Nat := x % 9223372036854775808
def sgn (x : Nat) : Bool := x / 9223372036854775808 % 2 == 1
def nanB (x : Nat) : Bool := decide (9218868437227405312 < rung x)
def mg (r : Nat) : Nat := if r < 4503599627370496 then r else (4503599627370496 + r % 4503599627370496) * 2 ^ (r / 4503599627370496 - 1)
def sv (x : Nat) : Int := if sgn x then -(mg (rung x) : Int) else (mg (rung x) : Int)

theorem f64 : FloatKind.f64.format = double := rfl
theorem d_sw : double.signWeight = 9223372036854775808 := by decide
theorem d_bin : double.binade = 4503599627370496 := by decide
theorem d_inf : double.infRung = 9218868437227405312 := by decide
theorem d_lp : double.leastPlace = -1074 := by decide
theorem d_fb : double.fractionBits = 52 := rfl

theorem rung_lt (x : Nat) : rung x < 9223372036854775808 := Nat.mod_lt _ (by decide)

theorem mg_low {r : Nat} (h : r < 4503599627370496) : mg r = r := by unfold mg; rw [if_pos h]
theorem mg_high {r : Nat} (h : 4503599627370496 ≤ r) : mg r = (4503599627370496 + r % 4503599627370496) * 2 ^ (r / 4503599627370496 - 1) := by
  unfold mg; rw [if_neg (by omega)]

/-- 'E' binades up, 'k' the digits: a significand with its leading digit, or (at E = 0) any below two binades. -/
theorem mg_at {E k : Nat} (h1 : k ≤ 9007199254740992) (h0 : E = 0 ∨ 4503599627370496 ≤ k) : mg (E * 4503599627370496 + k) = k * 2 ^ E := by
  by_cases hk : k < 4503599627370496
  · obtain rfl : E = 0 := by omega
    rw [mg_low (by omega)]; simp
  · by_cases hk2 : k = 9007199254740992
    · subst hk2
      rw [mg_high (by omega)]
      rw [show (E * 4503599627370496 + 9007199254740992) % 4503599627370496 = 0 by omega, show (E * 4503599627370496 + 9007199254740992) / 4503599627370496 - 1 = E + 1 by omega, Nat.pow_succ]
      omega
    · rw [mg_high (by omega)]
      rw [show (E * 4503599627370496 + k) % 4503599627370496 = k - 4503599627370496 by omega, show (E * 4503599627370496 + k) / 4503599627370496 - 1 = E by omega]
      rw [show 4503599627370496 + (k - 4503599627370496) = k by omega]

theorem mg_lt_succ (r : Nat) : mg r < mg (r + 1) := by
  by_cases h : r < 4503599627370496
  · have e1 := mg_at (E := 0) (k := r) (by omega) (.inl rfl)
    have e2 := mg_at (E := 0) (k := r + 1) (by omega) (.inl rfl)
    simp only [Nat.zero_mul, Nat.zero_add, Nat.pow_zero, Nat.mul_one] at e1 e2
    omega
  · have e1 := mg_at (E := r / 4503599627370496 - 1) (k := 4503599627370496 + r % 4503599627370496) (by omega) (.inr (by omega))
    have e2 := mg_at (E := r / 4503599627370496 - 1) (k := 4503599627370496 + r % 4503599627370496 + 1) (by omega) (.inr (by omega))
    rw [show (r / 4503599627370496 - 1) * 4503599627370496 + (4503599627370496 + r % 4503599627370496) = r by omega] at e1
    rw [show (r / 4503599627370496 - 1) * 4503599627370496 + (4503599627370496 + r % 4503599627370496 + 1) = r + 1 by omega] at e2
    rw [e1, e2]
    exact Nat.mul_lt_mul_of_pos_right (by omega) (Nat.two_pow_pos _)

theorem mg_mono_lt {r s : Nat} (h : r < s) : mg r < mg s := by
  obtain ⟨d, rfl⟩ : ∃ d, s = r + 1 + d := ⟨s - r - 1, by omega⟩
  clear h
  induction d with
  | zero => exact mg_lt_succ r
  | succ d ih => exact Nat.lt_trans ih (mg_lt_succ _)
theorem mg_mono {r s : Nat} (h : r ≤ s) : mg r ≤ mg s := by
  rcases Nat.lt_or_eq_of_le h with h | h
  · exact Nat.le_of_lt (mg_mono_lt h)
  · rw [h]; exact Nat.le_refl _
theorem mg_lt_iff {r s : Nat} : mg r < mg s ↔ r < s := ⟨fun h => by
  rcases Nat.lt_or_ge r s with h' | h'
  · exact h'
  · have := mg_mono h'; omega, mg_mono_lt⟩
theorem mg_le_iff {r s : Nat} : mg r ≤ mg s ↔ r ≤ s := ⟨fun h => by
  rcases Nat.lt_or_ge s r with h' | h'
  · have := mg_mono_lt h'; omega
  · exact h', mg_mono⟩
theorem mg_inj {r s : Nat} (h : mg r = mg s) : r = s := by
  have := mg_le_iff.1 (Nat.le_of_eq h); have := mg_le_iff.1 (Nat.le_of_eq h.symm); omega
theorem mg_zero : mg 0 = 0 := rfl
theorem mg_eq_zero {r : Nat} : mg r = 0 ↔ r = 0 := ⟨fun h => mg_inj (by rw [h, mg_zero]), fun h => by rw [h, mg_zero]⟩

/-! ### Reading a word -/

theorem read_nan {x : Nat} (h : nanB x = true) : ∃ s t, double.read x = .nan s t := by
  unfold nanB rung at h
  simp only [decide_eq_true_eq] at h
  unfold Format.read
  simp only [d_sw, d_bin, d_inf, d_lp]
  rw [if_neg (by omega), if_neg (by omega), if_neg (by omega)]
  exact ⟨_, _, rfl⟩
theorem read_inf {x : Nat} (h : rung x = 9218868437227405312) : double.read x = .infinity (sgn x) := by
  unfold rung at h
  unfold Format.read sgn
  simp only [d_sw, d_bin, d_inf, d_lp]
  rw [if_neg (by omega), if_neg (by omega), if_pos (by omega)]
theorem read_fin {x : Nat} (h : rung x < 9218868437227405312) : ∃ (m : Nat) (p : Int), double.read x = .number (sgn x) m p ∧ -1074 ≤ p ∧ m < 9007199254740992 ∧ mg (rung x) = m * 2 ^ (p + 1074).toNat := by
  unfold rung at h
  unfold Format.read sgn rung
  simp only [d_sw, d_bin, d_inf, d_lp]
  generalize x % 9223372036854775808 = r at *
  by_cases h1 : r < 4503599627370496
  · rw [if_pos h1]
    exact ⟨r, -1074, rfl, by omega, by omega, by rw [mg_low h1]; simp⟩
  · rw [if_neg h1, if_pos h]
    refine ⟨_, _, rfl, by omega, by omega, ?_⟩
    rw [mg_high (by omega), show ((-1074 : Int) + ((r / 4503599627370496 - 1 : Nat) : Int) + 1074).toNat = r / 4503599627370496 - 1 by omega]

theorem compare_mul (a b : Int) (k : Nat) : compare (a * (2 ^ k : Nat)) (b * (2 ^ k : Nat)) = compare a b := by
  have hk : (0 : Int) < ((2 ^ k : Nat) : Int) := by have := Nat.two_pow_pos k; omega
  simp only [compare, compareOfLessAndEq]
  have h1 : (a * ((2 ^ k : Nat) : Int) < b * ((2 ^ k : Nat) : Int)) ↔ a < b := Int.mul_lt_mul_right hk
  have h2 : (a * ((2 ^ k : Nat) : Int) = b * ((2 ^ k : Nat) : Int)) ↔ a = b := ⟨fun h => Int.eq_of_mul_eq_mul_right (by omega) h, fun h => by rw [h]⟩
  simp only [h1, h2]

theorem signed_scale (s : Bool) (m up k : Nat) : signed s m up * (2 ^ k : Nat) = if s then -((m * 2 ^ (up + k) : Nat) : Int) else ((m * 2 ^ (up + k) : Nat) : Int) := by
  unfold signed
  cases s <;> simp [Nat.shiftLeft_eq, Int.natCast_mul, Int.mul_assoc, Nat.pow_add, Int.neg_mul]

theorem sv_fin {x m : Nat} {p : Int} (h : mg (rung x) = m * 2 ^ (p + 1074).toNat) (base : Int) (h1 : -1074 ≤ base) (h2 : base ≤ p) : sv x = signed (sgn x) m (p - base).toNat * (2 ^ (base + 1074).toNat : Nat) := by
  rw [signed_scale]
  unfold sv
  rw [h, show (p - base).toNat + (base + 1074).toNat = (p + 1074).toNat by omega]

theorem mg_fin_lt_inf {r : Nat} (h : r < 9218868437227405312) : mg r < mg 9218868437227405312 := mg_mono_lt h
theorem mg_inf_pos : 0 < mg 9218868437227405312 := by have := mg_mono_lt (r := 0) (s := 9218868437227405312) (by decide); omega

theorem sv_inf {x : Nat} (h : rung x = 9218868437227405312) : sv x = if sgn x then -(mg 9218868437227405312 : Int) else (mg 9218868437227405312 : Int) := by
  unfold sv; rw [h]
theorem sv_lt {x : Nat} (h : rung x < 9218868437227405312) : -(mg 9218868437227405312 : Int) < sv x ∧ sv x < (mg 9218868437227405312 : Int) := by
  have := mg_fin_lt_inf h
  unfold sv
  split <;> omega

theorem cmp_lt {a b : Int} (h : a < b) : compare a b = .lt := by simp only [compare, compareOfLessAndEq]; rw [if_pos h]
theorem cmp_gt {a b : Int} (h : b < a) : compare a b = .gt := by simp only [compare, compareOfLessAndEq]; rw [if_neg (by omega), if_neg (by omega)]
theorem cmp_eq {a b : Int} (h : a = b) : compare a b = .eq := by simp only [compare, compareOfLessAndEq]; rw [if_neg (by omega), if_pos h]

/-- THE ORDER OF TWO WORDS: that of their values. -/
theorem order_eq (x y : Nat) : double.order x y = if nanB x || nanB y then none else some (compare (sv x) (sv y)) := by
  unfold Format.order
  by_cases hx : nanB x = true
  · obtain ⟨s, t, e⟩ := read_nan hx
    rw [e]; simp [hx, Datum.order]
  by_cases hy : nanB y = true
  · obtain ⟨s, t, e⟩ := read_nan hy
    rw [e]; cases double.read x <;> simp [hy, Datum.order]
  simp only [hx, hy, Bool.or_self, Bool.false_eq_true, if_false]
  have hx' : rung x ≤ 9218868437227405312 := by unfold nanB at hx; simpa using hx
  have hy' : rung y ≤ 9218868437227405312 := by unfold nanB at hy; simpa using hy
  have hp := mg_inf_pos
  rcases Nat.lt_or_eq_of_le hx' with hxf | hxi
  · obtain ⟨m, p, e1, h1, _, e2⟩ := read_fin hxf
    have hb := sv_lt hxf
    rcases Nat.lt_or_eq_of_le hy' with hyf | hyi
    · obtain ⟨n, q, e3, h3, _, e4⟩ := read_fin hyf
      rw [e1, e3]
      simp only [Datum.order]
      have hmin : -1074 ≤ min p q := by omega
      rw [sv_fin e2 (min p q) hmin (by omega), sv_fin e4 (min p q) hmin (by omega), compare_mul]
    · rw [e1, read_inf hyi, sv_inf hyi]
      simp only [Datum.order]
      cases sgn y
      · simp only [Bool.false_eq_true, if_false]; rw [cmp_lt hb.2]
      · simp only [if_true]; rw [cmp_gt hb.1]
  · rcases Nat.lt_or_eq_of_le hy' with hyf | hyi
    · obtain ⟨n, q, e3, h3, _, e4⟩ := read_fin hyf
      have hb := sv_lt hyf
      rw [e3, read_inf hxi, sv_inf hxi]
      simp only [Datum.order]
      cases sgn x
      · simp only [Bool.false_eq_true, if_false]; rw [cmp_gt hb.2]
      · simp only [if_true]; rw [cmp_lt hb.1]
    · rw [read_inf hxi, read_inf hyi, sv_inf hxi, sv_inf hyi]
      simp only [Datum.order]
      cases sgn x <;> cases sgn y <;> simp only [Bool.false_eq_true, if_false, if_true, Bool.toNat_false, Bool.toNat_true]
      · rw [cmp_eq rfl]; rfl
      · rw [cmp_gt (by omega)]; rfl
      · rw [cmp_lt (by omega)]; rfl
      · rw [cmp_eq rfl]; rfl

end Fl
end Go.Proofs.Ytmadogmahggpeaa
