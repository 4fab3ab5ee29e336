/-
  The walk of the law GaugePowers.
-/
import Derived.Test.YtmadogmahggpeaaGA
import Derived.Test.YtmadogmahggpeaaWR
namespace Go.Proofs.Ytmadogmahggpeaa
open Go.RowKit

theorem pow_one (n : Nat) : powC 4607182418800017408 n = 4607182418800017408 := by
  induction n with
  | zero => rfl
  | succ n ih => unfold powC; rw [ih]; decide +kernel
theorem pow_nought (n : Nat) : powC 0 (n + 1) = 0 := by
  induction n with
  | zero => decide +kernel
  | succ n ih => unfold powC; rw [ih]; decide +kernel

set_option maxRecDepth 100000 in
set_option maxHeartbeats 1000000 in
theorem powers_walk (x : Nat) (n : Int) (w : World) :
    Calls Try.prog 12 #[.float .f64 x, .int .i64 n] w fun e w' => e = .returned (.bool true) ∧ Below w.heap.size w w' := by
  obtain ⟨m, hm, em⟩ := mod_wrap n 60 (by decide) (by decide)
  rw [show ((60 : Nat) : Int) = 60 from rfl] at em
  have Em := Lib.hid em
  clear em
  have T0 := Lib.hid (show times (m : Int) = m by unfold times; omega)
  have T1 := Lib.hid (show times ((m : Int) + 1) = m + 1 by unfold times; omega)
  have T2 := Lib.hid (show times (-(m : Int)) = 0 by unfold times; omega)
  have T3 := Lib.hid (show times 60 = times 61 by decide)
  go_enter Try.func12, Try.ntmps12
  go_wp2_with fail
  refine (known4_any _).mono ?_
  rintro e w1 ⟨rfl, rfl⟩
  go_wp2_with fail
  rw [Em.out]
  refine (power_any _ _ _).mono ?_
  rintro e w1 ⟨r1, k1, rfl, q1, l1, rfl⟩
  rw [T0.out] at q1
  have Q1 := Lib.hid q1
  clear q1 l1
  go_wp2_with fail
  refine (power_any _ _ _).mono ?_
  rintro e w1 ⟨r2, k2, rfl, q2, l2, rfl⟩
  rw [T1.out] at q2
  obtain ⟨r3, k3, h3, q3, l3⟩ := run_mul ((w.drewN k1).drewN k2) 22 r1 x
  simp only [World.drewN_drewN] at h3
  have Q3 := Lib.hid (show Fl.Eqv r2 r3 from q2.trans (q3.trans (.inl (Fl.mulC_congr Q1.out (.refl _)))).symm)
  clear q2 l2 q3 l3
  go_wp2_with fail
  refine (same_yes _ _ _ Q3.out).mono ?_
  rintro e w1 ⟨rfl, rfl⟩
  go_wp2_with fail
  refine (power_any _ _ _).mono ?_
  rintro e w1 ⟨r4, k4, rfl, q4, l4, rfl⟩
  rw [pow_one] at q4
  have Q4 := Lib.hid q4
  clear q4 l4
  go_wp2_with fail
  refine (same_yes _ _ _ Q4.out).mono ?_
  rintro e w1 ⟨rfl, rfl⟩
  go_wp2_with fail
  refine (power_any _ _ _).mono ?_
  rintro e w1 ⟨r5, k5, rfl, q5, l5, rfl⟩
  rw [T1.out, pow_nought] at q5
  have Q5 := Lib.hid q5
  clear q5 l5
  go_wp2_with fail
  refine (same_yes _ _ _ Q5.out).mono ?_
  rintro e w1 ⟨rfl, rfl⟩
  go_wp2_with fail
  refine (power_any _ _ _).mono ?_
  rintro e w1 ⟨r6, k6, rfl, q6, l6, rfl⟩
  rw [T2.out] at q6
  have Q6 := Lib.hid q6
  clear q6 l6
  go_wp2_with fail
  refine (same_yes _ _ _ Q6.out).mono ?_
  rintro e w1 ⟨rfl, rfl⟩
  go_wp2_with fail
  refine (power_any _ _ _).mono ?_
  rintro e w1 ⟨r7, k7, rfl, q7, l7, rfl⟩
  have Q7 := Lib.hid q7
  clear q7 l7
  go_wp2_with fail
  refine (power_any _ _ _).mono ?_
  rintro e w1 ⟨r8, k8, rfl, q8, l8, rfl⟩
  rw [← T3.out] at q8
  have Q8 := Lib.hid (Q7.out.trans q8.symm)
  clear q8 l8
  go_wp2_with fail
  refine (same_yes _ _ _ Q8.out).mono ?_
  rintro e w1 ⟨rfl, rfl⟩
  go_wp2_with fail
  go_ret
  exact ⟨rfl, below_drewN (Below.refl _ _) _⟩

end Go.Proofs.Ytmadogmahggpeaa
