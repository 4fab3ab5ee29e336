/-
  The walk of the law GaugePicks.
-/
import Derived.Test.YtmadogmahggpeaaGA
import Derived.Test.YtmadogmahggpeaaFE
namespace Go.Proofs.Ytmadogmahggpeaa
open Go.RowKit

theorem key_most (a b : Nat) : Fl.keyZ (mostZ a b) = max (Fl.keyZ a) (Fl.keyZ b) := by
  unfold mostZ; split <;> omega
theorem least_lt {a b : Nat} (ha : a < 18446744073709551616) (hb : b < 18446744073709551616) : leastZ a b < 18446744073709551616 := by unfold leastZ; split <;> assumption
theorem most_lt {a b : Nat} (ha : a < 18446744073709551616) (hb : b < 18446744073709551616) : mostZ a b < 18446744073709551616 := by unfold mostZ; split <;> assumption
theorem clamp_lt {x lo hi : Nat} (hx : x < 18446744073709551616) (hl : lo < 18446744073709551616) (hh : hi < 18446744073709551616) : clampV x lo hi < 18446744073709551616 := by
  unfold clampV; split
  · decide
  · split
    · exact hl
    · split <;> assumption

theorem clamp_same {x lo hi : Nat} (hx : x < 18446744073709551616) (hl : lo < 18446744073709551616) (hh : hi < 18446744073709551616) : Fl.Eqv (docclampV x lo hi) (clampV x lo hi) := by
  have hc := clamp_lt hx hl hh
  unfold docclampV
  by_cases h : Fl.keyZ hi < Fl.keyZ lo
  · rw [if_pos h]; unfold clampV; rw [if_pos h]; exact .refl _
  · rw [if_neg h]
    refine Fl.key_inj (most_lt hl (least_lt hx hh)) hc ?_
    rw [key_most, key_least]
    unfold clampV
    rw [if_neg h]
    split
    · omega
    · split <;> omega

set_option maxRecDepth 100000 in
set_option maxHeartbeats 1000000 in
theorem picks_walk (a b c : Nat) (w : World) (ha : a < 18446744073709551616) (hb : b < 18446744073709551616) (hc : c < 18446744073709551616) :
    Calls Try.prog 15 #[.float .f64 a, .float .f64 b, .float .f64 c] w fun e w' => e = .returned (.bool true) ∧ Below w.heap.size w w' := by
  have Q := Lib.hid (clamp_same ha hb hc)
  go_enter Try.func15, Try.ntmps15
  go_wp2_with fail
  refine (known4_any _).mono ?_
  rintro e w1 ⟨rfl, rfl⟩
  go_wp2_with fail
  refine (docclamp_any _ _ _ _).mono ?_
  rintro e w1 ⟨rfl, rfl⟩
  go_wp2_with fail
  refine (clamp_any _ _ _ _ ha hb hc).mono ?_
  rintro e w1 ⟨rfl, rfl⟩
  go_wp2_with fail
  refine (least_any _ _ _ ha hb).mono ?_
  rintro e w1 ⟨rfl, rfl⟩
  go_wp2_with fail
  refine (rleast_any _ _ _).mono ?_
  rintro e w1 ⟨rfl, rfl⟩
  go_wp2_with fail
  refine (same_yes _ _ _ (.refl _)).mono ?_
  rintro e w1 ⟨rfl, rfl⟩
  go_wp2_with fail
  refine (most_any _ _ _ ha hb).mono ?_
  rintro e w1 ⟨rfl, rfl⟩
  go_wp2_with fail
  refine (rmost_any _ _ _).mono ?_
  rintro e w1 ⟨rfl, rfl⟩
  go_wp2_with fail
  refine (same_yes _ _ _ (.refl _)).mono ?_
  rintro e w1 ⟨rfl, rfl⟩
  go_wp2_with fail
  refine (same_yes _ _ _ Q.out).mono ?_
  rintro e w1 ⟨rfl, rfl⟩
  go_wp2_with fail
  go_ret
  exact ⟨rfl, Below.refl _ _⟩

end Go.Proofs.Ytmadogmahggpeaa
