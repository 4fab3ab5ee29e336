/-
  The walks of the reference's comparison, of the picks that lean on it, and of the keys' ways back.
-/
import Derived.Test.YtmadogmahggpeaaWC
namespace Go.Proofs.Ytmadogmahggpeaa
open Go.RowKit

theorem sv_zero_rung {x : Nat} (h : Fl.sv x = 0) : Fl.rung x = 0 := by
  unfold Fl.sv at h
  exact Fl.mg_eq_zero.1 (by split at h <;> omega)

set_option maxHeartbeats 400000 in
theorem neg_any (x : Nat) (w : World) (hn : Fl.nanB x = false) :
    Calls Try.prog 50 #[.float .f64 x] w fun e w' => e = .returned (.bool (Fl.sgn x)) ∧ w = w' := by
  have e1 : (FloatKind.f64.format.order x 0 == some .lt) = decide (Fl.sv x < 0) := by rw [f_lt hn Fl.nan_0, Fl.sv_0]
  have e2 : (FloatKind.f64.format.order x 0 == some .eq) = decide (Fl.sv x = 0) := by rw [f_eq hn Fl.nan_0, Fl.sv_0]
  by_cases h1 : Fl.sv x < 0
  · have T : Hid (Fl.sgn x = true) := Lib.hid (by
      cases hs : Fl.sgn x
      · rw [Fl.sv_pos hs] at h1; omega
      · rfl)
    have t1 : (FloatKind.f64.format.order x 0 == some .lt) = true := by rw [e1]; simpa using h1
    clear e1 e2 h1
    go_enter Try.func50, Try.ntmps50
    go_wp2
    go_ret
    exact ⟨ret_bool T.out.symm, rfl⟩
  · have t1 : (FloatKind.f64.format.order x 0 == some .lt) = false := by rw [e1]; simpa using h1
    by_cases h2 : Fl.sv x = 0
    · have t2 : (FloatKind.f64.format.order x 0 == some .eq) = true := by rw [e2]; simpa using h2
      have hr := sv_zero_rung h2
      have hd := Fl.div_zero hr
      have hq := fun w => run_float_arith (P := Try.prog) w .quo 22 .f64 Fl.ONE x _ hd
      have hw : Fl.nanB (Ieee.double.word (Fl.sgn x) 9218868437227405312) = false := by unfold Fl.nanB; rw [(Fl.word_rung (by decide)).1]; decide
      have t3 : (FloatKind.f64.format.order (Ieee.double.word (Fl.sgn x) 9218868437227405312) 0 == some .lt) = Fl.sgn x := by
        rw [f_lt hw Fl.nan_0, Fl.sv_0, Fl.sv_word (by decide)]
        have := Fl.mg_inf_pos
        cases Fl.sgn x
        · simp
        · simp; omega
      rw [show Fl.ONE = 4607182418800017408 from rfl] at hq
      clear e1 e2 h1 h2 hr hd hw
      generalize Ieee.double.word (Fl.sgn x) 9218868437227405312 = W at *
      generalize Fl.sgn x = s at *
      go_enter Try.func50, Try.ntmps50
      go_wp2
      go_ret
      exact ⟨rfl, rfl⟩
    · have t2 : (FloatKind.f64.format.order x 0 == some .eq) = false := by rw [e2]; simpa using h2
      have T : Hid (Fl.sgn x = false) := Lib.hid (by
        cases hs : Fl.sgn x
        · rfl
        · rw [Fl.sv_neg hs] at h1 h2; omega)
      clear e1 e2 h1 h2
      go_enter Try.func50, Try.ntmps50
      go_wp2
      go_ret
      exact ⟨ret_bool T.out.symm, rfl⟩

theorem cmp_nan_l {x y : Nat} (hx : Fl.nanB x = true) (hy : Fl.nanB y = false) : Fl.cmpZ x y = 1 := by
  have := Fl.key_lt_nan hy hx
  unfold Fl.cmpZ Fl.cmpI; rw [if_neg (by omega), if_pos this]
theorem cmp_nan_r {x y : Nat} (hx : Fl.nanB x = false) (hy : Fl.nanB y = true) : Fl.cmpZ x y = -1 := by
  have := Fl.key_lt_nan hx hy
  unfold Fl.cmpZ Fl.cmpI; rw [if_pos this]
theorem cmp_nan_b {x y : Nat} (hx : Fl.nanB x = true) (hy : Fl.nanB y = true) : Fl.cmpZ x y = 0 := by
  unfold Fl.cmpZ Fl.cmpI; rw [Fl.key_nan hx, Fl.key_nan hy]; rfl

set_option maxHeartbeats 400000 in
theorem rcmp_nan (x y : Nat) (w : World) (h : Fl.nanB x = true ∨ Fl.nanB y = true) :
    Calls Try.prog 32 #[.float .f64 x, .float .f64 y] w fun e w' => e = .returned (.int .i64 (Fl.cmpZ x y)) ∧ w = w' := by
  cases hx : Fl.nanB x <;> cases hy : Fl.nanB y
  · simp [hx, hy] at h
  · have T := Lib.hid (cmp_nan_r hx hy)
    clear h
    go_enter Try.func32, Try.ntmps32
    go_wp2_with ((with_reducible refine (nan_any _ _).mono ?_); rintro e w' ⟨rfl, rfl⟩)
    go_ret
    exact ⟨ret_int T.out.symm, rfl⟩
  · have T := Lib.hid (cmp_nan_l hx hy)
    clear h
    go_enter Try.func32, Try.ntmps32
    go_wp2_with ((with_reducible refine (nan_any _ _).mono ?_); rintro e w' ⟨rfl, rfl⟩)
    go_ret
    exact ⟨ret_int T.out.symm, rfl⟩
  · have T := Lib.hid (cmp_nan_b hx hy)
    clear h
    go_enter Try.func32, Try.ntmps32
    go_wp2_with ((with_reducible refine (nan_any _ _).mono ?_); rintro e w' ⟨rfl, rfl⟩)
    go_ret
    exact ⟨ret_int T.out.symm, rfl⟩

set_option maxHeartbeats 400000 in
theorem rcmp_num (x y : Nat) (w : World) (hx : Fl.nanB x = false) (hy : Fl.nanB y = false) :
    Calls Try.prog 32 #[.float .f64 x, .float .f64 y] w fun e w' => e = .returned (.int .i64 (Fl.cmpZ x y)) ∧ w = w' := by
  have C := Fl.cmp_ref hx hy
  have e1 := f_lt hx hy
  have e2 := f_gt hx hy
  by_cases h1 : Fl.sv x < Fl.sv y
  · rw [if_pos h1] at C
    have T := Lib.hid C
    have t1 : (FloatKind.f64.format.order x y == some .lt) = true := by rw [e1]; simpa using h1
    clear C e1 e2 h1
    go_enter Try.func32, Try.ntmps32
    go_wp2_with ((with_reducible refine (nan_any _ _).mono ?_); rintro e w' ⟨rfl, rfl⟩)
    go_ret
    exact ⟨ret_int T.out.symm, rfl⟩
  · rw [if_neg h1] at C
    have t1 : (FloatKind.f64.format.order x y == some .lt) = false := by rw [e1]; simpa using h1
    by_cases h2 : Fl.sv y < Fl.sv x
    · rw [if_pos h2] at C
      have T := Lib.hid C
      have t2 : (FloatKind.f64.format.order x y == some .gt) = true := by rw [e2]; simpa using h2
      clear C e1 e2 h1 h2
      go_enter Try.func32, Try.ntmps32
      go_wp2_with ((with_reducible refine (nan_any _ _).mono ?_); rintro e w' ⟨rfl, rfl⟩)
      go_ret
      exact ⟨ret_int T.out.symm, rfl⟩
    · rw [if_neg h2] at C
      have t2 : (FloatKind.f64.format.order x y == some .gt) = false := by rw [e2]; simpa using h2
      clear e1 e2 h1 h2
      cases sx : Fl.sgn x <;> cases sy : Fl.sgn y <;> rw [sx, sy] at C <;> simp at C
      all_goals
        have T := Lib.hid C
        clear C
        go_enter Try.func32, Try.ntmps32
        go_wp2_with (first | ((with_reducible refine (nan_any _ _).mono ?_); rintro e w' ⟨rfl, rfl⟩) | ((with_reducible refine (neg_any _ _ (by assumption)).mono ?_); rintro e w' ⟨rfl, rfl⟩))
        go_ret
        exact ⟨ret_int T.out.symm, rfl⟩

theorem rcmp_any (x y : Nat) (w : World) :
    Calls Try.prog 32 #[.float .f64 x, .float .f64 y] w fun e w' => e = .returned (.int .i64 (Fl.cmpZ x y)) ∧ w = w' := by
  cases hx : Fl.nanB x
  · cases hy : Fl.nanB y
    · exact rcmp_num x y w hx hy
    · exact rcmp_nan x y w (.inr hy)
  · exact rcmp_nan x y w (.inl hx)

theorem cmpI_le {a b : Int} : Fl.cmpI a b ≤ 0 ↔ ¬ b < a := by unfold Fl.cmpI; split <;> (try split) <;> omega
theorem cmpI_ge {a b : Int} : 0 ≤ Fl.cmpI a b ↔ ¬ a < b := by unfold Fl.cmpI; split <;> (try split) <;> omega
theorem cmpZ_le {x y : Nat} : Fl.cmpZ x y ≤ 0 ↔ ¬ Fl.keyZ y < Fl.keyZ x := cmpI_le
theorem cmpZ_ge {x y : Nat} : 0 ≤ Fl.cmpZ x y ↔ ¬ Fl.keyZ x < Fl.keyZ y := cmpI_ge

theorem rleast_any (x y : Nat) (w : World) :
    Calls Try.prog 43 #[.float .f64 x, .float .f64 y] w fun e w' => e = .returned (.float .f64 (leastZ x y)) ∧ w = w' := by
  by_cases h : Fl.cmpZ x y ≤ 0
  case pos =>
    have e1 : Hid (leastZ x y = x) := Lib.hid (by unfold leastZ; rw [if_neg (cmpZ_le.1 h)])
    go_enter Try.func43, Try.ntmps43
    go_wp2_with ((with_reducible refine (rcmp_any _ _ _).mono ?_); rintro e w' ⟨rfl, rfl⟩)
    go_ret
    exact ⟨ret_float e1.out.symm, rfl⟩
  case neg =>
    have e1 : Hid (leastZ x y = y) := Lib.hid (by unfold leastZ; rw [if_pos (by have := @cmpZ_le x y; omega)])
    go_enter Try.func43, Try.ntmps43
    go_wp2_with ((with_reducible refine (rcmp_any _ _ _).mono ?_); rintro e w' ⟨rfl, rfl⟩)
    go_ret
    exact ⟨ret_float e1.out.symm, rfl⟩
theorem rmost_any (x y : Nat) (w : World) :
    Calls Try.prog 44 #[.float .f64 x, .float .f64 y] w fun e w' => e = .returned (.float .f64 (mostZ x y)) ∧ w = w' := by
  by_cases h : 0 ≤ Fl.cmpZ x y
  case pos =>
    have e1 : Hid (mostZ x y = x) := Lib.hid (by unfold mostZ; rw [if_neg (cmpZ_ge.1 h)])
    go_enter Try.func44, Try.ntmps44
    go_wp2_with ((with_reducible refine (rcmp_any _ _ _).mono ?_); rintro e w' ⟨rfl, rfl⟩)
    go_ret
    exact ⟨ret_float e1.out.symm, rfl⟩
  case neg =>
    have e1 : Hid (mostZ x y = y) := Lib.hid (by unfold mostZ; rw [if_pos (by have := @cmpZ_ge x y; omega)])
    go_enter Try.func44, Try.ntmps44
    go_wp2_with ((with_reducible refine (rcmp_any _ _ _).mono ?_); rintro e w' ⟨rfl, rfl⟩)
    go_ret
    exact ⟨ret_float e1.out.symm, rfl⟩

theorem same_yes (x y : Nat) (w : World) (h : Fl.Eqv x y) :
    Calls Try.prog 33 #[.float .f64 x, .float .f64 y] w fun e w' => e = .returned (.bool true) ∧ w = w' := by
  cases hx : Fl.nanB x <;> cases hy : Fl.nanB y
  case true.true =>
    go_enter Try.func33, Try.ntmps33
    go_wp2_with ((with_reducible refine (nan_any _ _).mono ?_); rintro e w' ⟨rfl, rfl⟩)
    go_ret
    exact ⟨rfl, rfl⟩
  all_goals
    obtain rfl : x = y := by
      rcases h with h | ⟨h1, h2⟩
      · exact h
      · simp_all
    have cb := call_bits x
    first
    | (simp_all; done)
    | (clear hy h
       go_enter Try.func33, Try.ntmps33
       go_wp2_with ((with_reducible refine (nan_any _ _).mono ?_); rintro e w' ⟨rfl, rfl⟩)
       go_ret
       exact ⟨rfl, rfl⟩)

end Go.Proofs.Ytmadogmahggpeaa
