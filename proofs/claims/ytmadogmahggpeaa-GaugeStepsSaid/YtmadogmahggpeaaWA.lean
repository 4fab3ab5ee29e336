/-
  The walks of the small functions of package gauge and of its reference: keys, comparisons, picks.
-/
import Derived.Test.YtmadogmahggpeaaRows
import Derived.Test.YtmadogmahggpeaaFlC
import Derived.WalkKit
import Derived.WalkSpells
import Derived.WalkLawsBesides
import Derived.Laws.BitsAllLaws
import Derived.Lib.Hide
namespace Go.Proofs.Ytmadogmahggpeaa
open Go.RowKit

theorem call_bits (x : Nat) (w : World) : (callFunc 48 #[.float .f64 x]).run Try.prog w = .ok (.value (.int .u64 x)) w := by
  rw [run_callFunc_extern Try.func48 (by kernel_rfl) (by kernel_rfl) (by kernel_rfl) (e := Extern.MathFloatBits.float64bits) (by kernel_rfl)]
  rfl
theorem call_from (n : Int) (w : World) : (callFunc 47 #[.int .u64 n]).run Try.prog w = .ok (.value (.float .f64 n.toNat)) w := by
  rw [run_callFunc_extern Try.func47 (by kernel_rfl) (by kernel_rfl) (by kernel_rfl) (e := Extern.MathFloatBits.float64frombits) (by kernel_rfl)]
  rfl
theorem call_floor (x : Nat) (w : World) (h : Fl.nanB x = false) : (callFunc 54 #[.float .f64 x]).run Try.prog w = .ok (.value (.float .f64 (Ieee.double.write ((Ieee.double.read x).integral .down)))) w := by
  rw [run_callFunc_extern Try.func54 (by kernel_rfl) (by kernel_rfl) (by kernel_rfl) (e := Extern.MathFloor.toIntegral "math.archFloor" .down) (by kernel_rfl)]
  have key : ∀ d : Ieee.Datum, Ieee.double.read x = d → (∀ s t, d ≠ .nan s t) →
      (Extern.MathFloor.toIntegral "math.archFloor" .down #[.float .f64 x]).run Try.prog w = .ok (.float .f64 (Ieee.double.write (d.integral .down))) w := by
    intro d hd hn
    change (Sem.run Try.prog (match Ieee.double.read x with
      | .nan s t =>
        if FloatKind.f64.format.quiet t = t then pure (Value.float .f64 x) else do
        let kept ← choose (.extern "math.Floor,Ceil,Trunc,RoundToEven.signallingNaN kept" 2)
        pure (Value.float .f64 (if kept == 1 then x else FloatKind.f64.encode (.nan s (FloatKind.f64.format.quiet t))))
      | d => pure (Value.float .f64 (FloatKind.f64.encode (d.integral .down)))) w) = _
    rw [hd]
    cases d with
    | nan s t => exact absurd rfl (hn s t)
    | number s m p => rfl
    | infinity s => rfl
  rw [key _ rfl ?_]
  · rfl
  · intro s t e
    rcases Fl.read_cases x with ⟨h1, _⟩ | ⟨_, _, h1⟩ | ⟨_, _, m, p, h1, _⟩
    · rw [h] at h1; cases h1
    · rw [h1] at e; cases e
    · rw [h1] at e; cases e

theorem ret_bool {a b : Bool} (h : a = b) : Ending.returned (.bool a) = .returned (.bool b) := by rw [h]
theorem ret_int {k : IntKind} {a b : Int} (h : a = b) : Ending.returned (.int k a) = .returned (.int k b) := by rw [h]
theorem ret_float {a b : Nat} (h : a = b) : Ending.returned (.float .f64 a) = .returned (.float .f64 b) := by rw [h]
theorem ret_fi {a b : Nat} {c d : Int} (h : a = b) (h' : c = d) : Ending.returned (.tuple #[.float .f64 a, .int .i64 c]) = .returned (.tuple #[.float .f64 b, .int .i64 d]) := by rw [h, h']

theorem nan_any (x : Nat) (w : World) :
    Calls Try.prog 35 #[.float .f64 x] w fun e w' => e = .returned (.bool (Fl.nanB x)) ∧ w = w' := by
  go_enter Try.func35, Try.ntmps35
  go_wp2
  go_ret
  exact ⟨ret_bool (Fl.order_self_ne x), rfl⟩
theorem isnan_any (x : Nat) (w : World) :
    Calls Try.prog 51 #[.float .f64 x] w fun e w' => e = .returned (.bool (Fl.nanB x)) ∧ w = w' := by
  go_enter Try.func51, Try.ntmps51
  go_wp2
  go_ret
  exact ⟨ret_bool (Fl.order_self_ne x), rfl⟩

theorem clear_sign (x : Nat) (hx : x < 18446744073709551616) : bits BinOp.andNot IntKind.u64 (↑x) 9223372036854775808 = ((Fl.rung x : Nat) : Int) := by
  have := u64_andNot_nat x 9223372036854775808 hx (by decide)
  rw [show ((9223372036854775808 : Nat) : Int) = 9223372036854775808 from rfl] at this
  rw [this]
  unfold Fl.rung
  rw [show 18446744073709551615 - 9223372036854775808 = 2 ^ 63 - 1 by decide, Nat.and_two_pow_sub_one_eq_mod]
theorem set_sign (n : Int) (h0 : 0 ≤ n) (h : n < 9223372036854775808) : bits BinOp.or IntKind.u64 n 9223372036854775808 = n + 9223372036854775808 := by
  obtain ⟨k, rfl⟩ := Int.eq_ofNat_of_zero_le h0
  have := u64_or_nat k 9223372036854775808 (by omega) (by decide)
  rw [show ((9223372036854775808 : Nat) : Int) = 9223372036854775808 from rfl] at this
  rw [this]
  have h2 := Nat.two_pow_add_eq_or_of_lt (i := 63) (b := k) (by omega) 1
  rw [show (2 : Nat) ^ 63 * 1 = 9223372036854775808 by decide, Nat.or_comm] at h2
  rw [← h2]; omega

theorem sgn_shift (x : Nat) (hx : x < 18446744073709551616) : (((x : Int) / 9223372036854775808) == 1) = Fl.sgn x := by
  unfold Fl.sgn
  rw [Bool.eq_iff_iff]; simp; omega

set_option maxHeartbeats 400000 in
theorem key_any (x : Nat) (w : World) (hx : x < 18446744073709551616) :
    Calls Try.prog 29 #[.float .f64 x] w fun e w' => e = .returned (.int .i64 (Fl.keyZ x)) ∧ w = w' := by
  have cb := call_bits x
  have hb := clear_sign x hx
  have hs := sgn_shift x hx
  have hr := Fl.rung_lt x
  have e1 : Hid (Fl.keyZ x = if Fl.nanB x then 9223372036854775807 else if Fl.sgn x then -(Fl.rung x : Int) - 1 else (Fl.rung x : Int)) := Lib.hid rfl
  by_cases hn : 9218868437227405312 < Fl.rung x
  · have e2 : Hid (Fl.nanB x = true) := Lib.hid (by unfold Fl.nanB; simpa using hn)
    go_enter Try.func29, Try.ntmps29
    go_wp2
    go_ret
    exact ⟨ret_int (by rw [e1.out, e2.out]; rfl), rfl⟩
  · have e2 : Hid (Fl.nanB x = false) := Lib.hid (by unfold Fl.nanB; simpa using hn)
    cases hsg : Fl.sgn x
    · have e3 := Lib.hid hsg
      rw [hsg] at hs
      clear hsg
      go_enter Try.func29, Try.ntmps29
      go_wp2
      go_ret
      exact ⟨ret_int (by rw [e1.out, e2.out, e3.out]; rfl), rfl⟩
    · have e3 := Lib.hid hsg
      rw [hsg] at hs
      clear hsg
      go_enter Try.func29, Try.ntmps29
      go_wp2
      go_ret
      exact ⟨ret_int (by rw [e1.out, e2.out, e3.out]; rfl), rfl⟩

theorem compare_any (a b : Int) (w : World) :
    Calls Try.prog 49 #[.int .i64 a, .int .i64 b] w fun e w' => e = .returned (.int .i64 (Fl.cmpI a b)) ∧ w = w' := by
  by_cases h1 : a < b
  · have e1 : Hid (Fl.cmpI a b = -1) := Lib.hid (by unfold Fl.cmpI; rw [if_pos h1])
    go_enter Try.func49, Try.ntmps49
    go_wp2
    go_ret
    exact ⟨ret_int e1.out.symm, rfl⟩
  · by_cases h2 : b < a
    · have e1 : Hid (Fl.cmpI a b = 1) := Lib.hid (by unfold Fl.cmpI; rw [if_neg h1, if_pos h2])
      go_enter Try.func49, Try.ntmps49
      go_wp2
      go_ret
      exact ⟨ret_int e1.out.symm, rfl⟩
    · have e1 : Hid (Fl.cmpI a b = 0) := Lib.hid (by unfold Fl.cmpI; rw [if_neg h1, if_neg h2])
      go_enter Try.func49, Try.ntmps49
      go_wp2
      go_ret
      exact ⟨ret_int e1.out.symm, rfl⟩

theorem cmp_any (x y : Nat) (w : World) (hx : x < 18446744073709551616) (hy : y < 18446744073709551616) :
    Calls Try.prog 31 #[.float .f64 x, .float .f64 y] w fun e w' => e = .returned (.int .i64 (Fl.cmpZ x y)) ∧ w = w' := by
  go_enter Try.func31, Try.ntmps31
  go_wp2_with fail
  refine (key_any _ _ hx).mono ?_
  rintro e w' ⟨rfl, rfl⟩
  go_wp2_with fail
  refine (key_any _ _ hy).mono ?_
  rintro e w' ⟨rfl, rfl⟩
  go_wp2_with fail
  refine (compare_any _ _ _).mono ?_
  rintro e w' ⟨rfl, rfl⟩
  go_wp2_with fail
  go_ret
  exact ⟨rfl, rfl⟩

def leastZ (a b : Nat) : Nat := if Fl.keyZ b < Fl.keyZ a then b else a
def mostZ (a b : Nat) : Nat := if Fl.keyZ a < Fl.keyZ b then b else a

theorem least_any (x y : Nat) (w : World) (hx : x < 18446744073709551616) (hy : y < 18446744073709551616) :
    Calls Try.prog 39 #[.float .f64 x, .float .f64 y] w fun e w' => e = .returned (.float .f64 (leastZ x y)) ∧ w = w' := by
  by_cases h : Fl.keyZ y < Fl.keyZ x
  case pos =>
    have e1 : Hid (leastZ x y = y) := Lib.hid (by unfold leastZ; rw [if_pos h])
    go_enter Try.func39, Try.ntmps39
    go_wp2_with fail
    refine (key_any _ _ hy).mono ?_
    rintro e w' ⟨rfl, rfl⟩
    go_wp2_with fail
    refine (key_any _ _ hx).mono ?_
    rintro e w' ⟨rfl, rfl⟩
    go_wp2_with fail
    go_ret
    exact ⟨ret_float e1.out.symm, rfl⟩
  case neg =>
    have e1 : Hid (leastZ x y = x) := Lib.hid (by unfold leastZ; rw [if_neg h])
    go_enter Try.func39, Try.ntmps39
    go_wp2_with fail
    refine (key_any _ _ hy).mono ?_
    rintro e w' ⟨rfl, rfl⟩
    go_wp2_with fail
    refine (key_any _ _ hx).mono ?_
    rintro e w' ⟨rfl, rfl⟩
    go_wp2_with fail
    go_ret
    exact ⟨ret_float e1.out.symm, rfl⟩
theorem most_any (x y : Nat) (w : World) (hx : x < 18446744073709551616) (hy : y < 18446744073709551616) :
    Calls Try.prog 40 #[.float .f64 x, .float .f64 y] w fun e w' => e = .returned (.float .f64 (mostZ x y)) ∧ w = w' := by
  by_cases h : Fl.keyZ x < Fl.keyZ y
  case pos =>
    have e1 : Hid (mostZ x y = y) := Lib.hid (by unfold mostZ; rw [if_pos h])
    go_enter Try.func40, Try.ntmps40
    go_wp2_with fail
    refine (key_any _ _ hy).mono ?_
    rintro e w' ⟨rfl, rfl⟩
    go_wp2_with fail
    refine (key_any _ _ hx).mono ?_
    rintro e w' ⟨rfl, rfl⟩
    go_wp2_with fail
    go_ret
    exact ⟨ret_float e1.out.symm, rfl⟩
  case neg =>
    have e1 : Hid (mostZ x y = x) := Lib.hid (by unfold mostZ; rw [if_neg h])
    go_enter Try.func40, Try.ntmps40
    go_wp2_with fail
    refine (key_any _ _ hy).mono ?_
    rintro e w' ⟨rfl, rfl⟩
    go_wp2_with fail
    refine (key_any _ _ hx).mono ?_
    rintro e w' ⟨rfl, rfl⟩
    go_wp2_with fail
    go_ret
    exact ⟨ret_float e1.out.symm, rfl⟩

end Go.Proofs.Ytmadogmahggpeaa
