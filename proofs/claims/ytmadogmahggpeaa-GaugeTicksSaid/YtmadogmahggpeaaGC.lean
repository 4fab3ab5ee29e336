/-
  The walk of the law GaugeTicks.
-/
import Derived.Test.YtmadogmahggpeaaGA
import Derived.Test.YtmadogmahggpeaaWR
import Derived.Test.YtmadogmahggpeaaFE
namespace Go.Proofs.Ytmadogmahggpeaa
open Go.RowKit

theorem tk_whole {q : Nat} (h : q ≤ 100000) : Fl.tk (Fl.wholeW q) = q := by
  obtain ⟨a, b, _, _, _⟩ := Fl.wholeW_spec (q := q) (by omega)
  unfold Fl.tk
  rw [a, b, Fl.wholeW_fl (by omega)]
  simp only [Bool.false_eq_true, if_false]
  split <;> omega

theorem wholeW_wf {q : Nat} (h : q ≤ 100000) : Fl.wholeW q < 18446744073709551616 := by
  have := (Fl.wholeW_spec (q := q) (by omega)).2.2.2.2; omega

set_option maxHeartbeats 1000000 in
theorem gticks_walk (a b : Nat) (n : Int) (w : World) (ha : a < 18446744073709551616) (hb : b < 18446744073709551616) :
    Calls Try.prog 10 #[.float .f64 a, .float .f64 b, .int .i64 n] w fun e w' => e = .returned (.bool true) ∧ Below w.heap.size w w' := by
  obtain ⟨m, hm, em⟩ := mod_wrap n 100001 (by decide) (by decide)
  rw [show ((100001 : Nat) : Int) = 100001 from rfl] at em
  have Em := Lib.hid em
  have Tk := Lib.hid (tk_whole (show m ≤ 100000 by omega))
  have Ow := Lib.hid (Fl.ofInt_whole m)
  have c1 := @cmpZ_pos a b
  have C1 := Lib.hid c1
  clear em c1
  by_cases h : Fl.nanB a = true ∨ Fl.nanB b = true ∨ 0 < Fl.cmpZ a b
  · cases hna : Fl.nanB a
    · cases hnb : Fl.nanB b
      · have hc : 0 < Fl.cmpZ a b := by simpa [hna, hnb] using h
        clear h
        go_enter Try.func10, Try.ntmps10
        go_wp2_with fail
        refine (known4_any _).mono ?_
        rintro e w1 ⟨rfl, rfl⟩
        go_wp2_with fail
        rw [Em.out, Ow.out]
        refine (ticks_any _ _).mono ?_
        rintro e w1 ⟨rfl, rfl⟩
        rw [Tk.out]
        go_wp2_with fail
        refine (nan_any _ _).mono ?_
        rintro e w1 ⟨rfl, rfl⟩
        go_wp2_with fail
        refine (nan_any _ _).mono ?_
        rintro e w1 ⟨rfl, rfl⟩
        go_wp2_with fail
        refine (cmp_any _ _ _ ha hb).mono ?_
        rintro e w1 ⟨rfl, rfl⟩
        go_wp2_with fail
        go_ret
        exact ⟨rfl, Below.refl _ _⟩
      · clear h
        go_enter Try.func10, Try.ntmps10
        go_wp2_with fail
        refine (known4_any _).mono ?_
        rintro e w1 ⟨rfl, rfl⟩
        go_wp2_with fail
        rw [Em.out, Ow.out]
        refine (ticks_any _ _).mono ?_
        rintro e w1 ⟨rfl, rfl⟩
        rw [Tk.out]
        go_wp2_with fail
        refine (nan_any _ _).mono ?_
        rintro e w1 ⟨rfl, rfl⟩
        go_wp2_with fail
        refine (nan_any _ _).mono ?_
        rintro e w1 ⟨rfl, rfl⟩
        go_wp2_with fail
        go_ret
        exact ⟨rfl, Below.refl _ _⟩
    · clear h
      go_enter Try.func10, Try.ntmps10
      go_wp2_with fail
      refine (known4_any _).mono ?_
      rintro e w1 ⟨rfl, rfl⟩
      go_wp2_with fail
      rw [Em.out, Ow.out]
      refine (ticks_any _ _).mono ?_
      rintro e w1 ⟨rfl, rfl⟩
      rw [Tk.out]
      go_wp2_with fail
      refine (nan_any _ _).mono ?_
      rintro e w1 ⟨rfl, rfl⟩
      go_wp2_with fail
      go_ret
      exact ⟨rfl, Below.refl _ _⟩
  · have hna : Fl.nanB a = false := by cases hx : Fl.nanB a; rfl; exact absurd (.inl hx) h
    have hnb : Fl.nanB b = false := by cases hx : Fl.nanB b; rfl; exact absurd (.inr (.inl hx)) h
    have hc : ¬ 0 < Fl.cmpZ a b := fun hx => h (.inr (.inr hx))
    have hle : Fl.tk a ≤ Fl.tk b := tk_mono hnb (by have := C1.out; omega)
    clear h
    go_enter Try.func10, Try.ntmps10
    go_wp2_with fail
    refine (known4_any _).mono ?_
    rintro e w1 ⟨rfl, rfl⟩
    go_wp2_with fail
    rw [Em.out, Ow.out]
    refine (ticks_any _ _).mono ?_
    rintro e w1 ⟨rfl, rfl⟩
    rw [Tk.out]
    go_wp2_with fail
    refine (nan_any _ _).mono ?_
    rintro e w1 ⟨rfl, rfl⟩
    go_wp2_with fail
    refine (nan_any _ _).mono ?_
    rintro e w1 ⟨rfl, rfl⟩
    go_wp2_with fail
    refine (cmp_any _ _ _ ha hb).mono ?_
    rintro e w1 ⟨rfl, rfl⟩
    go_wp2_with fail
    refine (ticks_any _ _).mono ?_
    rintro e w1 ⟨rfl, rfl⟩
    go_wp2_with fail
    refine (ticks_any _ _).mono ?_
    rintro e w1 ⟨rfl, rfl⟩
    go_wp2_with fail
    go_ret
    exact ⟨rfl, Below.refl _ _⟩

end Go.Proofs.Ytmadogmahggpeaa
