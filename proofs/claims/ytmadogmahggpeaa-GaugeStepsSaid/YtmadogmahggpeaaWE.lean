/-
  The walks of the keys' ways back, of clamping, and of the reference's key by halving.
-/
import Derived.Test.YtmadogmahggpeaaWD
namespace Go.Proofs.Ytmadogmahggpeaa
open Go.RowKit

theorem mnan_any (w : World) : Calls Try.prog 46 #[] w fun e w' => e = .returned (.float .f64 Fl.NAN) ∧ w = w' := by
  have cf := call_from 9221120237041090561
  go_enter Try.func46, Try.ntmps46
  go_wp2
  go_ret
  exact ⟨rfl, rfl⟩

/-- The word with a key. -/
def ofKey (k : Int) : Nat := if k < 0 then 9223372036854775808 + (-(k + 1)).toNat else k.toNat

set_option maxHeartbeats 400000 in
theorem of_last (w : World) : Calls Try.prog 28 #[.int .i64 9223372036854775807] w fun e w' => e = .returned (.tuple #[.float .f64 Fl.NAN, .int .i64 0]) ∧ w = w' := by
  go_enter Try.func28, Try.ntmps28
  go_wp2_with ((with_reducible refine (mnan_any _).mono ?_); rintro e w' ⟨rfl, rfl⟩)
  go_ret2
  exact ⟨rfl, rfl⟩
set_option maxHeartbeats 400000 in
theorem of_out (k : Int) (w : World) (h0 : -9223372036854775808 ≤ k) (h1 : k < 9223372036854775807) (h : k < -9218868437227405313 ∨ 9218868437227405312 < k) :
    Calls Try.prog 28 #[.int .i64 k] w fun e w' => e = .returned (.tuple #[.float .f64 0, .int .i64 1]) ∧ w = w' := by
  have hne : (k == 9223372036854775807) = false := by rw [beq_eq_false_iff_ne]; omega
  rcases h with h | h
  · have hk : k < 0 := by omega
    go_enter Try.func28, Try.ntmps28
    go_wp2_with fail
    go_ret2
    exact ⟨rfl, rfl⟩
  · go_enter Try.func28, Try.ntmps28
    go_wp2_with fail
    go_ret2
    exact ⟨rfl, rfl⟩
set_option maxHeartbeats 400000 in
theorem of_in (k : Int) (w : World) (h0 : -9218868437227405313 ≤ k) (h1 : k ≤ 9218868437227405312) :
    Calls Try.prog 28 #[.int .i64 k] w fun e w' => e = .returned (.tuple #[.float .f64 (ofKey k), .int .i64 0]) ∧ w = w' := by
  have hne : (k == 9223372036854775807) = false := by rw [beq_eq_false_iff_ne]; omega
  by_cases hk : k < 0
  · have T : Hid (ofKey k = (-(k + 1) + 9223372036854775808).toNat) := Lib.hid (by unfold ofKey; rw [if_pos hk]; omega)
    have hs := set_sign (-(k + 1)) (by omega) (by omega)
    have cf := call_from (-(k + 1) + 9223372036854775808)
    go_enter Try.func28, Try.ntmps28
    go_wp2
    go_ret2
    exact ⟨ret_fi T.out.symm rfl, rfl⟩
  · have T : Hid (ofKey k = k.toNat) := Lib.hid (by unfold ofKey; rw [if_neg hk])
    have hs : bits BinOp.or IntKind.u64 k 0 = k := by
      obtain ⟨n, rfl⟩ := Int.eq_ofNat_of_zero_le (show 0 ≤ k by omega)
      have := u64_or_nat n 0 (by omega) (by decide)
      rw [Nat.or_zero] at this; exact this
    have cf := call_from k
    go_enter Try.func28, Try.ntmps28
    go_wp2
    go_ret2
    exact ⟨ret_fi T.out.symm rfl, rfl⟩

set_option maxHeartbeats 400000 in
theorem rof_last (w : World) : Calls Try.prog 45 #[.int .i64 9223372036854775807] w fun e w' => e = .returned (.tuple #[.float .f64 Fl.NAN, .bool true]) ∧ w = w' := by
  go_enter Try.func45, Try.ntmps45
  go_wp2_with ((with_reducible refine (mnan_any _).mono ?_); rintro e w' ⟨rfl, rfl⟩)
  go_ret2
  exact ⟨rfl, rfl⟩
set_option maxHeartbeats 400000 in
theorem rof_out (k : Int) (w : World) (h1 : k < 9223372036854775807) (h : k < -9218868437227405313 ∨ 9218868437227405312 < k) :
    Calls Try.prog 45 #[.int .i64 k] w fun e w' => e = .returned (.tuple #[.float .f64 0, .bool false]) ∧ w = w' := by
  have hne : (k == 9223372036854775807) = false := by rw [beq_eq_false_iff_ne]; omega
  rcases h with h | h
  · have hk : k < 0 := by omega
    go_enter Try.func45, Try.ntmps45
    go_wp2_with fail
    go_ret2
    exact ⟨rfl, rfl⟩
  · go_enter Try.func45, Try.ntmps45
    go_wp2_with fail
    go_ret2
    exact ⟨rfl, rfl⟩
set_option maxHeartbeats 400000 in
theorem rof_in (k : Int) (w : World) (h0 : -9218868437227405313 ≤ k) (h1 : k ≤ 9218868437227405312) :
    Calls Try.prog 45 #[.int .i64 k] w fun e w' => e = .returned (.tuple #[.float .f64 (ofKey k), .bool true]) ∧ w = w' := by
  have hne : (k == 9223372036854775807) = false := by rw [beq_eq_false_iff_ne]; omega
  by_cases hk : k < 0
  · have T : Hid (ofKey k = (-(k + 1) + 9223372036854775808).toNat) := Lib.hid (by unfold ofKey; rw [if_pos hk]; omega)
    have hs := set_sign (-(k + 1)) (by omega) (by omega)
    have cf := call_from (-(k + 1) + 9223372036854775808)
    go_enter Try.func45, Try.ntmps45
    go_wp2
    go_ret2
    exact ⟨by show Ending.returned (.tuple #[.float .f64 (-(k + 1) + 9223372036854775808).toNat, .bool true]) = _; rw [T.out], rfl⟩
  · have T : Hid (ofKey k = k.toNat) := Lib.hid (by unfold ofKey; rw [if_neg hk])
    have cf := call_from k
    go_enter Try.func45, Try.ntmps45
    go_wp2
    go_ret2
    exact ⟨by show Ending.returned (.tuple #[.float .f64 k.toNat, .bool true]) = _; rw [T.out], rfl⟩

def ofV (k : Int) : Nat := if k = 9223372036854775807 then Fl.NAN else if k < -9218868437227405313 then 0 else if 9218868437227405312 < k then 0 else ofKey k
def ofE (k : Int) : Int := if k = 9223372036854775807 then 0 else if k < -9218868437227405313 then 1 else if 9218868437227405312 < k then 1 else 0
def ofB (k : Int) : Bool := if k = 9223372036854775807 then true else if k < -9218868437227405313 then false else if 9218868437227405312 < k then false else true

theorem ofKey_spec (k : Int) (h0 : -9218868437227405313 ≤ k) (h1 : k ≤ 9218868437227405312) : Fl.keyZ (ofKey k) = k ∧ ofKey k < 18446744073709551616 ∧ Fl.nanB (ofKey k) = false := by
  have hw : ofKey k = Ieee.double.word (decide (k < 0)) (if k < 0 then (-(k + 1)).toNat else k.toNat) := by
    rw [Fl.word_val]; unfold ofKey
    by_cases h : k < 0
    · simp [h]
    · simp [h]
  have hr : (if k < 0 then (-(k + 1)).toNat else k.toNat) ≤ 9218868437227405312 := by split <;> omega
  obtain ⟨w1, w2⟩ := Fl.word_rung (s := decide (k < 0)) (r := if k < 0 then (-(k + 1)).toNat else k.toNat) (by omega)
  have hn : Fl.nanB (ofKey k) = false := Fl.nanB_false (by rw [hw, w1]; exact hr)
  refine ⟨?_, ?_, hn⟩
  · unfold Fl.keyZ
    rw [hn, hw, w1, w2]
    by_cases h : k < 0
    · simp [h]; omega
    · simp [h]; omega
  · unfold ofKey; split <;> omega

theorem of_any (k : Int) (w : World) (h0 : -9223372036854775808 ≤ k) (h1 : k ≤ 9223372036854775807) :
    Calls Try.prog 28 #[.int .i64 k] w fun e w' => e = .returned (.tuple #[.float .f64 (ofV k), .int .i64 (ofE k)]) ∧ w = w' := by
  unfold ofV ofE
  by_cases a : k = 9223372036854775807
  · rw [if_pos a, if_pos a, a]; exact of_last w
  · rw [if_neg a, if_neg a]
    by_cases b : k < -9218868437227405313
    · rw [if_pos b, if_pos b]; exact of_out k w h0 (by omega) (.inl b)
    · rw [if_neg b, if_neg b]
      by_cases c : 9218868437227405312 < k
      · rw [if_pos c, if_pos c]; exact of_out k w h0 (by omega) (.inr c)
      · rw [if_neg c, if_neg c]; exact of_in k w (by omega) (by omega)
theorem rof_any (k : Int) (w : World) (h1 : k ≤ 9223372036854775807) :
    Calls Try.prog 45 #[.int .i64 k] w fun e w' => e = .returned (.tuple #[.float .f64 (ofV k), .bool (ofB k)]) ∧ w = w' := by
  unfold ofV ofB
  by_cases a : k = 9223372036854775807
  · rw [if_pos a, if_pos a, a]; exact rof_last w
  · rw [if_neg a, if_neg a]
    by_cases b : k < -9218868437227405313
    · rw [if_pos b, if_pos b]; exact rof_out k w (by omega) (.inl b)
    · rw [if_neg b, if_neg b]
      by_cases c : 9218868437227405312 < k
      · rw [if_pos c, if_pos c]; exact rof_out k w (by omega) (.inr c)
      · rw [if_neg c, if_neg c]; exact rof_in k w (by omega) (by omega)
theorem docof_any (k : Int) (w : World) (h1 : k ≤ 9223372036854775807) :
    Calls Try.prog 27 #[.int .i64 k] w fun e w' => e = .returned (.tuple #[.float .f64 (ofV k), .int .i64 (ofE k)]) ∧ w = w' := by
  cases hb : ofB k
  · have T : Hid (ofE k = 1 ∧ ofV k = 0) := Lib.hid (by
      unfold ofB at hb; unfold ofE ofV
      by_cases a : k = 9223372036854775807
      · rw [if_pos a] at hb; cases hb
      · rw [if_neg a] at hb ⊢
        rw [if_neg a]
        by_cases b : k < -9218868437227405313
        · rw [if_pos b, if_pos b]; exact ⟨rfl, rfl⟩
        · rw [if_neg b] at hb ⊢
          rw [if_neg b]
          by_cases c : 9218868437227405312 < k
          · rw [if_pos c, if_pos c]; exact ⟨rfl, rfl⟩
          · rw [if_neg c] at hb; cases hb)
    go_enter Try.func27, Try.ntmps27
    go_wp2_with ((with_reducible refine (rof_any _ _ h1).mono ?_); rintro e w' ⟨rfl, rfl⟩)
    go_ret2
    exact ⟨ret_fi T.out.2.symm T.out.1.symm, rfl⟩
  · have T : Hid (ofE k = 0) := Lib.hid (by
      unfold ofB at hb; unfold ofE
      by_cases a : k = 9223372036854775807
      · rw [if_pos a]
      · rw [if_neg a] at hb ⊢
        by_cases b : k < -9218868437227405313
        · rw [if_pos b] at hb; cases hb
        · rw [if_neg b] at hb ⊢
          by_cases c : 9218868437227405312 < k
          · rw [if_pos c] at hb; cases hb
          · rw [if_neg c])
    go_enter Try.func27, Try.ntmps27
    go_wp2_with ((with_reducible refine (rof_any _ _ h1).mono ?_); rintro e w' ⟨rfl, rfl⟩)
    go_ret2
    exact ⟨ret_fi rfl T.out.symm, rfl⟩

/-! ### Clamping -/
def clampV (x lo hi : Nat) : Nat := if Fl.keyZ hi < Fl.keyZ lo then 0 else if Fl.keyZ x < Fl.keyZ lo then lo else if Fl.keyZ hi < Fl.keyZ x then hi else x
def clampE (lo hi : Nat) : Int := if Fl.keyZ hi < Fl.keyZ lo then 1 else 0
theorem cmpI_pos {a b : Int} : 0 < Fl.cmpI a b ↔ b < a := by unfold Fl.cmpI; split <;> (try split) <;> omega
theorem cmpI_neg {a b : Int} : Fl.cmpI a b < 0 ↔ a < b := by unfold Fl.cmpI; split <;> (try split) <;> omega
theorem cmpZ_pos {x y : Nat} : 0 < Fl.cmpZ x y ↔ Fl.keyZ y < Fl.keyZ x := cmpI_pos
theorem cmpZ_neg {x y : Nat} : Fl.cmpZ x y < 0 ↔ Fl.keyZ x < Fl.keyZ y := cmpI_neg

set_option maxHeartbeats 400000 in
theorem clamp_any (x lo hi : Nat) (w : World) (hx : x < 18446744073709551616) (hl : lo < 18446744073709551616) (hh : hi < 18446744073709551616) :
    Calls Try.prog 42 #[.float .f64 x, .float .f64 lo, .float .f64 hi] w fun e w' => e = .returned (.tuple #[.float .f64 (clampV x lo hi), .int .i64 (clampE lo hi)]) ∧ w = w' := by
  have c1 := @cmpZ_pos lo hi
  have c2 := @cmpZ_neg x lo
  have c3 := @cmpZ_pos x hi
  by_cases h1 : 0 < Fl.cmpZ lo hi
  · have T : Hid (clampV x lo hi = 0 ∧ clampE lo hi = 1) := Lib.hid (by unfold clampV clampE; rw [if_pos (c1.1 h1), if_pos (c1.1 h1)]; exact ⟨rfl, rfl⟩)
    clear c1 c2 c3
    go_enter Try.func42, Try.ntmps42
    go_wp2_with ((with_reducible refine (cmp_any _ _ _ (by assumption) (by assumption)).mono ?_); rintro e w' ⟨rfl, rfl⟩)
    go_ret2
    exact ⟨ret_fi T.out.1.symm T.out.2.symm, rfl⟩
  · have n1 : ¬ Fl.keyZ hi < Fl.keyZ lo := fun h => h1 (c1.2 h)
    by_cases h2 : Fl.cmpZ x lo < 0
    · have T : Hid (clampV x lo hi = lo ∧ clampE lo hi = 0) := Lib.hid (by unfold clampV clampE; rw [if_neg n1, if_neg n1, if_pos (c2.1 h2)]; exact ⟨rfl, rfl⟩)
      clear c1 c2 c3 n1
      go_enter Try.func42, Try.ntmps42
      go_wp2_with ((with_reducible refine (cmp_any _ _ _ (by assumption) (by assumption)).mono ?_); rintro e w' ⟨rfl, rfl⟩)
      go_ret2
      exact ⟨ret_fi T.out.1.symm T.out.2.symm, rfl⟩
    · have n2 : ¬ Fl.keyZ x < Fl.keyZ lo := fun h => h2 (c2.2 h)
      by_cases h3 : 0 < Fl.cmpZ x hi
      · have T : Hid (clampV x lo hi = hi ∧ clampE lo hi = 0) := Lib.hid (by unfold clampV clampE; rw [if_neg n1, if_neg n1, if_neg n2, if_pos (c3.1 h3)]; exact ⟨rfl, rfl⟩)
        clear c1 c2 c3 n1 n2
        go_enter Try.func42, Try.ntmps42
        go_wp2_with ((with_reducible refine (cmp_any _ _ _ (by assumption) (by assumption)).mono ?_); rintro e w' ⟨rfl, rfl⟩)
        go_ret2
        exact ⟨ret_fi T.out.1.symm T.out.2.symm, rfl⟩
      · have n3 : ¬ Fl.keyZ hi < Fl.keyZ x := fun h => h3 (c3.2 h)
        have T : Hid (clampV x lo hi = x ∧ clampE lo hi = 0) := Lib.hid (by unfold clampV clampE; rw [if_neg n1, if_neg n1, if_neg n2, if_neg n3]; exact ⟨rfl, rfl⟩)
        clear c1 c2 c3 n1 n2 n3
        go_enter Try.func42, Try.ntmps42
        go_wp2_with ((with_reducible refine (cmp_any _ _ _ (by assumption) (by assumption)).mono ?_); rintro e w' ⟨rfl, rfl⟩)
        go_ret2
        exact ⟨ret_fi T.out.1.symm T.out.2.symm, rfl⟩

def docclampV (x lo hi : Nat) : Nat := if Fl.keyZ hi < Fl.keyZ lo then 0 else mostZ lo (leastZ x hi)
theorem docclamp_any (x lo hi : Nat) (w : World) :
    Calls Try.prog 41 #[.float .f64 x, .float .f64 lo, .float .f64 hi] w fun e w' => e = .returned (.tuple #[.float .f64 (docclampV x lo hi), .int .i64 (clampE lo hi)]) ∧ w = w' := by
  have c1 := @cmpZ_pos lo hi
  by_cases h1 : 0 < Fl.cmpZ lo hi
  · have T : Hid (docclampV x lo hi = 0 ∧ clampE lo hi = 1) := Lib.hid (by unfold docclampV clampE; rw [if_pos (c1.1 h1), if_pos (c1.1 h1)]; exact ⟨rfl, rfl⟩)
    clear c1
    go_enter Try.func41, Try.ntmps41
    go_wp2_with ((with_reducible refine (rcmp_any _ _ _).mono ?_); rintro e w' ⟨rfl, rfl⟩)
    go_ret2
    exact ⟨ret_fi T.out.1.symm T.out.2.symm, rfl⟩
  · have n1 : ¬ Fl.keyZ hi < Fl.keyZ lo := fun h => h1 (c1.2 h)
    have T : Hid (docclampV x lo hi = mostZ lo (leastZ x hi) ∧ clampE lo hi = 0) := Lib.hid (by unfold docclampV clampE; rw [if_neg n1, if_neg n1]; exact ⟨rfl, rfl⟩)
    clear c1 n1
    go_enter Try.func41, Try.ntmps41
    go_wp2_with (first | ((with_reducible refine (rcmp_any _ _ _).mono ?_); rintro e w' ⟨rfl, rfl⟩) | ((with_reducible refine (rleast_any _ _ _).mono ?_); rintro e w' ⟨rfl, rfl⟩) | ((with_reducible refine (rmost_any _ _ _).mono ?_); rintro e w' ⟨rfl, rfl⟩))
    go_ret2
    exact ⟨ret_fi T.out.1.symm T.out.2.symm, rfl⟩

end Go.Proofs.Ytmadogmahggpeaa
