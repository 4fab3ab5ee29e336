/-
  Plain facts on 64-bit floating words: products, sums and quotients as words; keys; ticks.
-/
import Derived.Test.YtmadogmahggpeaaFlB
import Derived.Laws.FloatArith
namespace Go.Proofs.Ytmadogmahggpeaa
namespace Fl
open Ieee

/-- Two words that no program here tells apart: the same, or both no number. -/
def Eqv (a b : Nat) : Prop := a = b ∨ (nanB a = true ∧ nanB b = true)
theorem Eqv.refl (a : Nat) : Eqv a a := .inl rfl
theorem Eqv.symm {a b : Nat} (h : Eqv a b) : Eqv b a := h.elim (fun h => .inl h.symm) (fun h => .inr ⟨h.2, h.1⟩)
theorem Eqv.trans {a b c : Nat} (h : Eqv a b) (h' : Eqv b c) : Eqv a c := by
  rcases h with rfl | h
  · exact h'
  · rcases h' with rfl | h'
    · exact .inr h
    · exact .inr ⟨h.1, h'.2⟩
theorem Eqv.nan {a b : Nat} (h : Eqv a b) : nanB a = nanB b := by
  rcases h with rfl | h
  · rfl
  · rw [h.1, h.2]
theorem Eqv.eq {a b : Nat} (h : Eqv a b) (h' : nanB a = false) : a = b := by
  rcases h with rfl | h
  · rfl
  · rw [h.1] at h'; cases h'

def NAN : Nat := 9221120237041090561
theorem nan_NAN : nanB NAN = true := by decide
def ONE : Nat := 4607182418800017408
def addC (x y : Nat) : Nat := (double.add x y).getD NAN
def subC (x y : Nat) : Nat := (double.sub x y).getD NAN
def mulC (x y : Nat) : Nat := (double.mul x y).getD NAN
def divC (x y : Nat) : Nat := (double.div x y).getD NAN

theorem word_rung {s : Bool} {r : Nat} (h : r < 9223372036854775808) : rung (double.word s r) = r ∧ sgn (double.word s r) = s := by
  rw [word_val]; unfold rung sgn
  cases s
  · simp only [Bool.false_eq_true, if_false]
    exact ⟨Nat.mod_eq_of_lt h, by rw [Nat.div_eq_of_lt h]; rfl⟩
  · simp only [if_true]
    refine ⟨by omega, ?_⟩
    rw [show (9223372036854775808 + r) / 9223372036854775808 = 1 by omega]; rfl

theorem write_num_nan (s : Bool) (m : Nat) (p : Int) : nanB (double.write (.number s m p)) = false := by
  obtain ⟨r, e, _⟩ := nearest_round s m p
  show nanB (double.nearest s m p) = false
  rw [e]; unfold nanB; rw [(word_rung (by omega)).1]; simp; omega
theorem write_inf_nan (s : Bool) : nanB (double.write (.infinity s)) = false := by
  show nanB (double.word s double.infRung) = false
  rw [d_inf]; unfold nanB; rw [(word_rung (by decide)).1]; decide

theorem not_nan {x : Nat} (h : nanB x = false) : rung x ≤ 9218868437227405312 := by unfold nanB at h; simpa using h
theorem nanB_false {x : Nat} (h : rung x ≤ 9218868437227405312) : nanB x = false := by unfold nanB; simpa using h

/-- What reading gives, by kinds. -/
theorem read_cases (x : Nat) : (nanB x = true ∧ ∃ s t, double.read x = .nan s t) ∨ (nanB x = false ∧ rung x = 9218868437227405312 ∧ double.read x = .infinity (sgn x)) ∨
    (nanB x = false ∧ rung x < 9218868437227405312 ∧ ∃ (m : Nat) (p : Int), double.read x = .number (sgn x) m p ∧ -1074 ≤ p ∧ m < 9007199254740992 ∧ mg (rung x) = m * 2 ^ (p + 1074).toNat) := by
  by_cases h : nanB x = true
  · exact .inl ⟨h, read_nan h⟩
  · have h' : nanB x = false := by simpa using h
    have := not_nan h'
    rcases Nat.lt_or_eq_of_le this with h1 | h1
    · exact .inr (.inr ⟨h', h1, read_fin h1⟩)
    · exact .inr (.inl ⟨h', h1, read_inf h1⟩)

theorem mul_none_l {x y : Nat} (h : nanB x = true) : double.mul x y = none := by
  obtain ⟨s, t, e⟩ := read_nan h; unfold Format.mul; rw [e]; simp [Datum.product]
theorem mul_none_r {x y : Nat} (h : nanB y = true) : double.mul x y = none := by
  obtain ⟨s, t, e⟩ := read_nan h; unfold Format.mul; rw [e]; cases double.read x <;> simp [Datum.product]
theorem add_none_l {x y : Nat} (h : nanB x = true) : double.add x y = none := by
  obtain ⟨s, t, e⟩ := read_nan h; unfold Format.add; rw [e]; simp [Datum.sum]
theorem add_none_r {x y : Nat} (h : nanB y = true) : double.add x y = none := by
  obtain ⟨s, t, e⟩ := read_nan h; unfold Format.add; rw [e]; cases double.read x <;> simp [Datum.sum]
theorem sub_none_l {x y : Nat} (h : nanB x = true) : double.sub x y = none := by
  obtain ⟨s, t, e⟩ := read_nan h; unfold Format.sub; rw [e]; simp [Datum.sum]
theorem sub_none_r {x y : Nat} (h : nanB y = true) : double.sub x y = none := by
  obtain ⟨s, t, e⟩ := read_nan h; unfold Format.sub; rw [e]; cases double.read x <;> simp [Datum.sum, Datum.opposite]
theorem div_none_l {x y : Nat} (h : nanB x = true) : double.div x y = none := by
  obtain ⟨s, t, e⟩ := read_nan h; unfold Format.div; rw [e]; simp [Datum.quotient]

theorem map_write_nan {o : Option Datum} {r : Nat} (h : o.map double.write = some r) (hn : ∀ d, o = some d → (∃ s m p, d = .number s m p) ∨ ∃ s, d = .infinity s) : nanB r = false := by
  cases o with
  | none => cases h
  | some d =>
    cases h
    rcases hn d rfl with ⟨s, m, p, rfl⟩ | ⟨s, rfl⟩
    · exact write_num_nan ..
    · exact write_inf_nan ..

theorem product_kind (a b d : Datum) (h : a.product b = some d) : (∃ s m p, d = .number s m p) ∨ ∃ s, d = .infinity s := by
  cases a <;> cases b <;> simp only [Datum.product, reduceCtorEq, Option.some.injEq] at h
  · exact .inl ⟨_, _, _, h.symm⟩
  · split at h
    · cases h
    · cases h; exact .inr ⟨_, rfl⟩
  · split at h
    · cases h
    · cases h; exact .inr ⟨_, rfl⟩
  · exact .inr ⟨_, h.symm⟩
theorem sum_kind (a b d : Datum) (h : a.sum b = some d) : (∃ s m p, d = .number s m p) ∨ ∃ s, d = .infinity s := by
  cases a <;> cases b <;> simp only [Datum.sum, reduceCtorEq, Option.some.injEq] at h
  · exact .inl ⟨_, _, _, h.symm⟩
  · exact .inr ⟨_, h.symm⟩
  · exact .inr ⟨_, h.symm⟩
  · split at h
    · cases h; exact .inr ⟨_, rfl⟩
    · cases h

theorem mul_nan {x y r : Nat} (h : double.mul x y = some r) : nanB r = false := map_write_nan h fun d => product_kind _ _ d
theorem add_nan {x y r : Nat} (h : double.add x y = some r) : nanB r = false := map_write_nan h fun d => sum_kind _ _ d
theorem sub_nan {x y r : Nat} (h : double.sub x y = some r) : nanB r = false := map_write_nan h fun d => sum_kind _ _ d

theorem mulC_lt (x y : Nat) : mulC x y < 18446744073709551616 := by
  unfold mulC
  cases h : double.mul x y with
  | none => decide
  | some r => exact Format.mul_lt _ h
theorem addC_lt (x y : Nat) : addC x y < 18446744073709551616 := by
  unfold addC
  cases h : double.add x y with
  | none => decide
  | some r => exact Format.add_lt _ h
theorem subC_lt (x y : Nat) : subC x y < 18446744073709551616 := by
  unfold subC
  cases h : double.sub x y with
  | none => decide
  | some r => exact Format.sub_lt _ h

theorem mulC_congr {x x' y y' : Nat} (h : Eqv x x') (h' : Eqv y y') : mulC x y = mulC x' y' := by
  unfold mulC
  rcases h with rfl | ⟨h1, h2⟩
  · rcases h' with rfl | ⟨h3, h4⟩
    · rfl
    · rw [mul_none_r h3, mul_none_r h4]
  · rw [mul_none_l h1, mul_none_l h2]
theorem addC_congr {x x' y y' : Nat} (h : Eqv x x') (h' : Eqv y y') : addC x y = addC x' y' := by
  unfold addC
  rcases h with rfl | ⟨h1, h2⟩
  · rcases h' with rfl | ⟨h3, h4⟩
    · rfl
    · rw [add_none_r h3, add_none_r h4]
  · rw [add_none_l h1, add_none_l h2]

/-- The places below the point of the least number. -/
def KE : Nat := 1074
theorem KE_eq : KE = 1074 := rfl
attribute [irreducible] KE

/-- The product of two numbers: the rounding of the product of what they stand for. -/
theorem mul_fin {x y : Nat} (hx : rung x < 9218868437227405312) (hy : rung y < 9218868437227405312) :
    ∃ r, double.mul x y = some (double.word (sgn x ^^ sgn y) (min r 9218868437227405312)) ∧ IsRound (mg (rung x) * mg (rung y)) KE r := by
  obtain ⟨m, p, e1, h1, _, e2⟩ := read_fin hx
  obtain ⟨n, q, e3, h3, _, e4⟩ := read_fin hy
  obtain ⟨r, hr, hR⟩ := nearest_round (sgn x ^^ sgn y) (m * n) (p + q)
  refine ⟨r, ?_, ?_⟩
  · unfold Format.mul; rw [e1, e3]; simp only [Datum.product, Option.map_some]; exact congrArg some hr
  · have hK := KE_eq
    have := hR KE (by omega)
    rw [show (p + q + 1074 + (KE : Int)).toNat = (p + 1074).toNat + (q + 1074).toNat by omega, Nat.pow_add, Nat.mul_mul_mul_comm, ← e2, ← e4] at this
    exact this

/-! ### Keys -/
def keyZ (x : Nat) : Int := if nanB x then 9223372036854775807 else if sgn x then -(rung x : Int) - 1 else (rung x : Int)
def cmpI (a b : Int) : Int := if a < b then -1 else if b < a then 1 else 0
def cmpZ (x y : Nat) : Int := cmpI (keyZ x) (keyZ y)

theorem key_bounds (x : Nat) : -9218868437227405313 ≤ keyZ x ∧ keyZ x ≤ 9223372036854775807 := by
  unfold keyZ
  by_cases h : nanB x = true
  · rw [if_pos h]; omega
  · have := not_nan (by simpa using h)
    rw [if_neg h]; split <;> omega
theorem key_eqv {a b : Nat} (h : Eqv a b) : keyZ a = keyZ b := by
  rcases h with rfl | ⟨h1, h2⟩
  · rfl
  · unfold keyZ; rw [if_pos h1, if_pos h2]

theorem sv_cases {x y : Nat} (_hx : nanB x = false) (_hy : nanB y = false) : (sv x < sv y → keyZ x < keyZ y) ∧ (sv x = sv y → sgn x = sgn y → keyZ x = keyZ y) ∧ (sv x = sv y → sgn x = true → sgn y = false → keyZ x < keyZ y) := by
  unfold keyZ sv
  rw [_hx, _hy]
  simp only [Bool.false_eq_true, if_false]
  have i1 := @mg_lt_iff (rung x) (rung y)
  have i2 := @mg_lt_iff (rung y) (rung x)
  have i3 := @mg_inj (rung x) (rung y)
  have i4 := @mg_eq_zero (rung x)
  have i5 := @mg_eq_zero (rung y)
  cases sgn x <;> cases sgn y <;> simp only [Bool.false_eq_true, if_false, if_true, reduceCtorEq] <;> refine ⟨?_, ?_, ?_⟩ <;> intros <;> first | omega | contradiction

theorem order_nan {x y : Nat} (h : (nanB x || nanB y) = true) : double.order x y = none := by rw [order_eq, if_pos h]
theorem order_some {x y : Nat} (hx : nanB x = false) (hy : nanB y = false) : double.order x y = some (compare (sv x) (sv y)) := by
  rw [order_eq, hx, hy]; rfl
theorem order_self (x : Nat) : (double.order x x == some .eq) = !nanB x := by
  cases h : nanB x
  · rw [order_some h h, cmp_eq rfl]; rfl
  · rw [order_nan (by simp [h])]; rfl
theorem order_self_ne (x : Nat) : (double.order x x != some .eq) = nanB x := by
  rw [bne, order_self]; simp

theorem lt_iff {x y : Nat} (hx : nanB x = false) (hy : nanB y = false) : (double.order x y == some .lt) = decide (sv x < sv y) := by
  rw [order_some hx hy]
  rcases Int.lt_trichotomy (sv x) (sv y) with h | h | h
  · rw [cmp_lt h]; simp [h]
  · rw [cmp_eq h]; simp [h]
  · rw [cmp_gt h]; simp; omega
theorem gt_iff {x y : Nat} (hx : nanB x = false) (hy : nanB y = false) : (double.order x y == some .gt) = decide (sv y < sv x) := by
  rw [order_some hx hy]
  rcases Int.lt_trichotomy (sv x) (sv y) with h | h | h
  · rw [cmp_lt h]; simp; omega
  · rw [cmp_eq h]; simp [h]
  · rw [cmp_gt h]; simp [h]
theorem eq_iff {x y : Nat} (hx : nanB x = false) (hy : nanB y = false) : (double.order x y == some .eq) = decide (sv x = sv y) := by
  rw [order_some hx hy]
  rcases Int.lt_trichotomy (sv x) (sv y) with h | h | h
  · rw [cmp_lt h]; simp; omega
  · rw [cmp_eq h]; simp [h]
  · rw [cmp_gt h]; simp; omega

/-- The reference's comparison. -/
theorem cmp_ref {x y : Nat} (hx : nanB x = false) (hy : nanB y = false) :
    cmpZ x y = if sv x < sv y then -1 else if sv y < sv x then 1 else if sgn x = sgn y then 0 else if sgn x = true then -1 else 1 := by
  obtain ⟨a1, a2, a3⟩ := sv_cases hx hy
  obtain ⟨b1, b2, b3⟩ := sv_cases hy hx
  unfold cmpZ cmpI
  by_cases h1 : sv x < sv y
  · rw [if_pos h1, if_pos (a1 h1)]
  · rw [if_neg h1]
    by_cases h2 : sv y < sv x
    · have := b1 h2
      rw [if_pos h2, if_neg (by omega), if_pos this]
    · rw [if_neg h2]
      have h3 : sv x = sv y := by omega
      by_cases h4 : sgn x = sgn y
      · have := a2 h3 h4
        rw [if_pos h4, if_neg (by omega), if_neg (by omega)]
      · rw [if_neg h4]
        by_cases h5 : sgn x = true
        · have h6 : sgn y = false := by cases h7 : sgn y; rfl; exact absurd (h5.trans h7.symm) h4
          rw [if_pos h5, if_pos (a3 h3 h5 h6)]
        · have h5' : sgn x = false := by simpa using h5
          have h6 : sgn y = true := by cases h7 : sgn y; exact absurd (h5'.trans h7.symm) h4; rfl
          have := b3 h3.symm h6 h5'
          rw [if_neg h5, if_neg (by omega), if_pos this]

theorem key_lt_nan {x y : Nat} (hx : nanB x = false) (hy : nanB y = true) : keyZ x < keyZ y := by
  have := not_nan hx
  unfold keyZ; rw [hx, hy]; simp only [Bool.false_eq_true, if_false, if_true]; split <;> omega
theorem key_nan {x : Nat} (hx : nanB x = true) : keyZ x = 9223372036854775807 := by unfold keyZ; rw [if_pos hx]

/-! ### Ticks -/
def U : Nat := 2 ^ KE
theorem U_eq : U = 2 ^ KE := rfl
theorem U_pos : 0 < U := Nat.two_pow_pos _
attribute [irreducible] U
/-- The whole part of what a word stands for, its sign aside. -/
def fl (x : Nat) : Nat := mg (rung x) / U
def tk (x : Nat) : Int := if nanB x then 0 else if sgn x then 0 else if 100000 ≤ fl x then 100000 else (fl x : Int)

theorem mg_of {E k : Nat} (h1 : k ≤ 9007199254740992) (h0 : E = 0 ∨ 4503599627370496 ≤ k) (r : Nat) (h : r = E * 4503599627370496 + k) : mg r = k * 2 ^ E := by rw [h]; exact mg_at h1 h0

/-- A whole number below 2^53 has its word, just that. -/
theorem whole_rung (q : Nat) (hq : q < 9007199254740992) : ∃ r, r < 9218868437227405312 ∧ mg r = q * U := by
  by_cases h0 : q = 0
  · exact ⟨0, by decide, by rw [h0, mg_zero, Nat.zero_mul]⟩
  obtain ⟨lo, hi⟩ := log2_bounds h0
  generalize q.log2 = l at *
  have hl : l ≤ 52 := by
    rcases Nat.lt_or_ge 52 l with h | h
    · have h2 : 2 ^ 53 ≤ 2 ^ l := Nat.pow_le_pow_right (by decide) (by omega)
      have : (2 : Nat) ^ 53 = 9007199254740992 := by decide
      omega
    · exact h
  have h1 : q * 2 ^ (52 - l) < 9007199254740992 := by
    have := Nat.mul_lt_mul_of_pos_right hi (Nat.two_pow_pos (52 - l))
    rw [← Nat.pow_add, show l + 1 + (52 - l) = 53 by omega, show (2 : Nat) ^ 53 = 9007199254740992 by decide] at this
    exact this
  have h2 : 4503599627370496 ≤ q * 2 ^ (52 - l) := by
    have := Nat.mul_le_mul_right (2 ^ (52 - l)) lo
    rw [← Nat.pow_add, show l + (52 - l) = 52 by omega, show (2 : Nat) ^ 52 = 4503599627370496 by decide] at this
    exact this
  refine ⟨(1022 + l) * 4503599627370496 + q * 2 ^ (52 - l), by omega, ?_⟩
  have hK := KE_eq
  rw [mg_at (by omega) (.inr h2), Nat.mul_assoc, ← Nat.pow_add, show 52 - l + (1022 + l) = KE by omega, U_eq]

theorem nearest_whole (s : Bool) (q : Nat) (hq : q < 9007199254740992) : ∃ r, double.nearest s q 0 = double.word s r ∧ r < 9218868437227405312 ∧ mg r = q * U := by
  obtain ⟨r, hr, hR⟩ := nearest_round s q 0
  obtain ⟨r0, h0, h1⟩ := whole_rung q hq
  have h2 := hR 0 (by omega)
  have h3 := IsRound.exact 0 r0
  rw [h1] at h3
  have hK := KE_eq
  rw [show ((0 : Int) + 1074 + ((0 : Nat) : Int)).toNat = KE by omega, ← U_eq] at h2
  rw [Nat.pow_zero, Nat.mul_one] at h3
  have e : r = r0 := h2.unique h3
  rw [e, Nat.min_eq_left (by omega)] at hr
  exact ⟨r0, hr, h0, h1⟩

theorem one_mg : mg (rung ONE) = U := by
  obtain ⟨j, hj⟩ : ∃ j : Nat, j = 1022 := ⟨_, rfl⟩
  have := mg_at (E := j) (k := 4503599627370496) (by omega) (.inr (by omega))
  have hr : rung ONE = j * 4503599627370496 + 4503599627370496 := by rw [hj]; decide
  have hK := KE_eq
  rw [hr, this, show (4503599627370496 : Nat) = 2 ^ 52 by decide, ← Nat.pow_add, show 52 + j = KE by omega, U_eq]

theorem cut_zero_eq (s : Bool) (n d : Nat) : Toward.zero.cut s n d = n / 2 ^ d := by
  simp only [Toward.cut, Nat.shiftLeft_eq, Nat.one_mul, Bool.toNat_false, Nat.add_zero]
  by_cases h : d ≤ n.log2 + 2
  · rw [Nat.min_eq_left h]
  · rw [Nat.min_eq_right (by omega)]
    have h1 : n < 2 ^ (n.log2 + 2) := Nat.lt_of_lt_of_le Nat.lt_log2_self (Nat.pow_le_pow_right (by decide) (by omega))
    have h2 : n < 2 ^ d := Nat.lt_of_lt_of_le h1 (Nat.pow_le_pow_right (by decide) (by omega))
    rw [Nat.div_eq_of_lt h1, Nat.div_eq_of_lt h2]
theorem cut_down_eq (n d : Nat) : Toward.down.cut false n d = n / 2 ^ d := by
  have := cut_zero_eq false n d
  rw [← this]; simp [Toward.cut]

theorem shift_whole {m : Nat} {i : Int} (h : -1074 ≤ i) : (m <<< i.toNat) / 2 ^ (-i).toNat = m * 2 ^ (i + 1074).toNat / U := by
  rw [Nat.shiftLeft_eq]
  have hK := KE_eq
  by_cases h0 : 0 ≤ i
  · rw [show (-i).toNat = 0 by omega, Nat.pow_zero, Nat.div_one, show (i + 1074).toNat = i.toNat + KE by omega, Nat.pow_add, ← Nat.mul_assoc, ← U_eq]
    exact (Nat.mul_div_cancel _ U_pos).symm
  · rw [show i.toNat = 0 by omega, Nat.pow_zero, Nat.mul_one]
    have : U = 2 ^ (-i).toNat * 2 ^ (i + 1074).toNat := by
      rw [← Nat.pow_add, show (-i).toNat + (i + 1074).toNat = KE by omega, U_eq]
    rw [this, Nat.mul_div_mul_right _ _ (Nat.two_pow_pos _)]

/-- Cut to an integer. -/
theorem toInt_fin {x : Nat} (hx : rung x < 9218868437227405312) : (double.read x).toInt .zero = some (if sgn x then -(fl x : Int) else (fl x : Int)) := by
  obtain ⟨m, p, e1, h1, _, e2⟩ := read_fin hx
  rw [e1]
  simp only [Datum.toInt, Datum.integral, cut_zero_eq, shift_whole h1, signed, Nat.shiftLeft_zero]
  unfold fl; rw [e2]
/-- The floor of a number from nought on, as a word. -/
theorem floor_fin {x : Nat} (hx : rung x < 9218868437227405312) (hs : sgn x = false) : (double.read x).integral .down = .number false (fl x) 0 := by
  obtain ⟨m, p, e1, h1, _, e2⟩ := read_fin hx
  rw [e1, hs]
  simp only [Datum.integral, cut_down_eq, shift_whole h1]
  unfold fl; rw [e2]

theorem fl_whole {x q : Nat} (h : mg (rung x) = q * U) : fl x = q := by unfold fl; rw [h, Nat.mul_div_cancel _ U_pos]

theorem sv_word {s : Bool} {r : Nat} (h : r < 9223372036854775808) : sv (double.word s r) = if s then -(mg r : Int) else (mg r : Int) := by
  unfold sv; rw [(word_rung h).1, (word_rung h).2]

end Fl
end Go.Proofs.Ytmadogmahggpeaa
