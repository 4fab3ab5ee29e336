/-
  The walk of the law GaugeOrders; what the gauge's laws know beforehand.
-/
import Derived.Test.YtmadogmahggpeaaWF
namespace Go.Proofs.Ytmadogmahggpeaa
open Go.RowKit

theorem ofV_lt (k : Int) : ofV k < 18446744073709551616 := by
  unfold ofV
  split
  · decide
  · split
    · decide
    · split
      · decide
      · exact (ofKey_spec k (by omega) (by omega)).2.1

theorem known_minus : ofV (-1) = 9223372036854775808 ∧ ofE (-1) = 0 := by decide +kernel
theorem known_key : Fl.keyZ 4607182418800017408 = 4607182418800017408 := by decide +kernel
theorem known_cmp : Fl.cmpZ 9223372036854775808 0 = -1 := by decide +kernel
theorem known_ticks : Fl.tk 4613712638259704627 = 2 := by decide +kernel

set_option maxHeartbeats 400000 in
theorem known4_any (w : World) : Calls Try.prog 26 #[] w fun e w' => e = .returned (.bool true) ∧ w = w' := by
  have k1 := Lib.hid known_minus
  have k2 := Lib.hid known_key
  have k3 := Lib.hid known_cmp
  have k4 := Lib.hid known_ticks
  go_enter Try.func26, Try.ntmps26
  go_wp2_with fail
  refine (of_any _ _ (by omega) (by omega)).mono ?_
  rintro e w1 ⟨rfl, rfl⟩
  rw [k1.out.1, k1.out.2]
  go_wp2_with fail
  refine (key_any _ _ (by decide)).mono ?_
  rintro e w1 ⟨rfl, rfl⟩
  rw [k2.out]
  go_wp2_with fail
  refine (cmp_any _ _ _ (by decide) (by decide)).mono ?_
  rintro e w1 ⟨rfl, rfl⟩
  rw [k3.out]
  go_wp2_with fail
  refine (ticks_any _ _).mono ?_
  rintro e w1 ⟨rfl, rfl⟩
  rw [k4.out]
  go_wp2_with fail
  go_ret
  exact ⟨rfl, rfl⟩

set_option maxHeartbeats 400000 in
theorem orders_walk (a b : Nat) (k : Int) (w : World) (ha : a < 18446744073709551616) (hb : b < 18446744073709551616) (k0 : -9223372036854775808 ≤ k) (k1 : k ≤ 9223372036854775807) :
    Calls Try.prog 8 #[.float .f64 a, .float .f64 b, .int .i64 k] w fun e w' => e = .returned (.bool true) ∧ Below w.heap.size w w' := by
  go_enter Try.func8, Try.ntmps8
  go_wp2_with fail
  refine (known4_any _).mono ?_
  rintro e w1 ⟨rfl, rfl⟩
  go_wp2_with fail
  refine (docof_any _ _ k1).mono ?_
  rintro e w1 ⟨rfl, rfl⟩
  go_wp2_with fail
  refine (of_any _ _ k0 k1).mono ?_
  rintro e w1 ⟨rfl, rfl⟩
  go_wp2_with fail
  refine (key_any _ _ ha).mono ?_
  rintro e w1 ⟨rfl, rfl⟩
  go_wp2_with fail
  refine (rkey_any _ _).mono ?_
  rintro e w1 ⟨rfl, rfl⟩
  go_wp2_with fail
  refine (cmp_any _ _ _ ha hb).mono ?_
  rintro e w1 ⟨rfl, rfl⟩
  go_wp2_with fail
  refine (rcmp_any _ _ _).mono ?_
  rintro e w1 ⟨rfl, rfl⟩
  go_wp2_with fail
  refine (same_yes _ _ _ (.refl _)).mono ?_
  rintro e w1 ⟨rfl, rfl⟩
  go_wp2_with fail
  go_ret
  exact ⟨rfl, Below.refl _ _⟩

end Go.Proofs.Ytmadogmahggpeaa
