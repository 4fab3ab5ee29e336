/-
  The walk of the law GaugeSteps.
-/
import Derived.Test.YtmadogmahggpeaaGA
import Derived.Test.YtmadogmahggpeaaLR
namespace Go.Proofs.Ytmadogmahggpeaa
open Go.RowKit

set_option maxRecDepth 100000 in
set_option maxHeartbeats 2000000 in
theorem steps_walk (a b c : Nat) (n : Int) (w : World) :
    Calls Try.prog 13 #[.agg #[.float .f64 a, .float .f64 b, .float .f64 c, .int .i64 n]] w fun e w' => e = .returned (.bool true) ∧ Below w.heap.size w w' := by
  go_enter Try.func13, Try.ntmps13
  go_wp2_with fail
  apply Loose.wp_region (C := fun w' => ∃ n_1, w' = (w.alloc (Obj.cells #[Value.float FloatKind.f64 a, Value.float FloatKind.f64 b, Value.float FloatKind.f64 c, Value.int IntKind.i64 n] 51)).drewN n_1) (hm := by kernel_rfl) (hB := by kernel_rfl) (hC := ⟨1, rfl⟩)
  · repeat (
      apply Loose.walk_one
      · rfl
      · rintro _ ⟨m, rfl⟩
        go_simp
        try rfl
      simp only [Act.put, List.setIfInBounds_toArray, List.set_cons_succ, List.set_cons_zero])
    apply Loose.walk_want (fun v => v = .bool true)
    · rfl
    · rintro _ ⟨m, rfl⟩
      unfold Loose.At
      go_simp
      refine Calls.mono (known4_any _) ?_
      rintro e w' ⟨rfl, rfl⟩
      exact ⟨_, rfl, rfl, _, rfl⟩
    rintro _ rfl
    simp only [Act.put, List.setIfInBounds_toArray, List.set_cons_succ, List.set_cons_zero]
    repeat (
      apply Loose.walk_one
      · rfl
      · rintro _ ⟨m, rfl⟩
        go_simp
        try rfl
      simp only [Act.put, List.setIfInBounds_toArray, List.set_cons_succ, List.set_cons_zero])
    apply Loose.walk_want (fun v => v = .int .i64 (Fl.tk a))
    · rfl
    · rintro _ ⟨m, rfl⟩
      unfold Loose.At
      go_simp
      refine Calls.mono (ticks_any _ _) ?_
      rintro e w' ⟨rfl, rfl⟩
      exact ⟨_, rfl, rfl, _, rfl⟩
    rintro _ rfl
    simp only [Act.put, List.setIfInBounds_toArray, List.set_cons_succ, List.set_cons_zero]
    repeat (
      apply Loose.walk_one
      · rfl
      · rintro _ ⟨m, rfl⟩
        go_simp
        try rfl
      simp only [Act.put, List.setIfInBounds_toArray, List.set_cons_succ, List.set_cons_zero])
    apply Loose.walk_want (fun v => v = .int .i64 (Fl.tk a))
    · rfl
    · rintro _ ⟨m, rfl⟩
      unfold Loose.At
      go_simp
      refine Calls.mono (rticks_any _ _) ?_
      rintro e w' ⟨rfl, rfl⟩
      exact ⟨_, rfl, rfl, _, rfl⟩
    rintro _ rfl
    simp only [Act.put, List.setIfInBounds_toArray, List.set_cons_succ, List.set_cons_zero]
    repeat (
      apply Loose.walk_one
      · rfl
      · rintro _ ⟨m, rfl⟩
        go_simp
        try rfl
      simp only [Act.put, List.setIfInBounds_toArray, List.set_cons_succ, List.set_cons_zero])
    apply Loose.walk_want (fun v => ∃ r, v = .float .f64 r ∧ Fl.Eqv r (powC a (times n)) ∧ r < 18446744073709551616)
    · rfl
    · rintro _ ⟨m, rfl⟩
      unfold Loose.At
      go_simp
      refine Calls.mono (power_any _ _ _) ?_
      rintro e w' ⟨r, k, rfl, hq, hr, rfl⟩
      exact ⟨_, rfl, ⟨r, rfl, hq, hr⟩, _, World.drewN_drewN _ _ _⟩
    rintro _ ⟨r1, rfl, hq, hr⟩
    have Qr1 := Lib.hid hq
    clear hq hr
    simp only [Act.put, List.setIfInBounds_toArray, List.set_cons_succ, List.set_cons_zero]
    repeat (
      apply Loose.walk_one
      · rfl
      · rintro _ ⟨m, rfl⟩
        go_simp
        try rfl
      simp only [Act.put, List.setIfInBounds_toArray, List.set_cons_succ, List.set_cons_zero])
    apply Loose.walk_want (fun v => ∃ r, v = .float .f64 r ∧ Fl.Eqv r (powC a (times n)) ∧ r < 18446744073709551616)
    · rfl
    · rintro _ ⟨m, rfl⟩
      unfold Loose.At
      go_simp
      refine Calls.mono (rpower_any _ _ _) ?_
      rintro e w' ⟨r, k, rfl, hq, hr, rfl⟩
      exact ⟨_, rfl, ⟨r, rfl, hq, hr⟩, _, World.drewN_drewN _ _ _⟩
    rintro _ ⟨r2, rfl, hq, hr⟩
    have Qr2 := Lib.hid hq
    clear hq hr
    simp only [Act.put, List.setIfInBounds_toArray, List.set_cons_succ, List.set_cons_zero]
    repeat (
      apply Loose.walk_one
      · rfl
      · rintro _ ⟨m, rfl⟩
        go_simp
        try rfl
      simp only [Act.put, List.setIfInBounds_toArray, List.set_cons_succ, List.set_cons_zero])
    apply Loose.walk_want (fun v => v = .bool true)
    · rfl
    · rintro _ ⟨m, rfl⟩
      unfold Loose.At
      go_simp
      refine Calls.mono (same_yes _ _ _ (Qr1.out.trans Qr2.out.symm)) ?_
      rintro e w' ⟨rfl, rfl⟩
      exact ⟨_, rfl, rfl, _, rfl⟩
    rintro _ rfl
    simp only [Act.put, List.setIfInBounds_toArray, List.set_cons_succ, List.set_cons_zero]
    repeat (
      apply Loose.walk_one
      · rfl
      · rintro _ ⟨m, rfl⟩
        go_simp
        try rfl
      simp only [Act.put, List.setIfInBounds_toArray, List.set_cons_succ, List.set_cons_zero])
    apply Loose.walk_want (fun v => ∃ r, v = .float .f64 r ∧ Fl.Eqv r (mixC a b c) ∧ r < 18446744073709551616)
    · rfl
    · rintro _ ⟨m, rfl⟩
      unfold Loose.At
      go_simp
      refine Calls.mono (mix_any _ _ _ _) ?_
      rintro e w' ⟨r, k, rfl, hq, hr, rfl⟩
      exact ⟨_, rfl, ⟨r, rfl, hq, hr⟩, _, World.drewN_drewN _ _ _⟩
    rintro _ ⟨r3, rfl, hq, hr⟩
    have Qr3 := Lib.hid hq
    clear hq hr
    simp only [Act.put, List.setIfInBounds_toArray, List.set_cons_succ, List.set_cons_zero]
    repeat (
      apply Loose.walk_one
      · rfl
      · rintro _ ⟨m, rfl⟩
        go_simp
        try rfl
      simp only [Act.put, List.setIfInBounds_toArray, List.set_cons_succ, List.set_cons_zero])
    apply Loose.walk_want (fun v => ∃ r, v = .float .f64 r ∧ Fl.Eqv r (mixC a b c) ∧ r < 18446744073709551616)
    · rfl
    · rintro _ ⟨m, rfl⟩
      unfold Loose.At
      go_simp
      refine Calls.mono (rmix_any _ _ _ _) ?_
      rintro e w' ⟨r, k, rfl, hq, hr, rfl⟩
      exact ⟨_, rfl, ⟨r, rfl, hq, hr⟩, _, World.drewN_drewN _ _ _⟩
    rintro _ ⟨r4, rfl, hq, hr⟩
    have Qr4 := Lib.hid hq
    clear hq hr
    simp only [Act.put, List.setIfInBounds_toArray, List.set_cons_succ, List.set_cons_zero]
    repeat (
      apply Loose.walk_one
      · rfl
      · rintro _ ⟨m, rfl⟩
        go_simp
        try rfl
      simp only [Act.put, List.setIfInBounds_toArray, List.set_cons_succ, List.set_cons_zero])
    apply Loose.walk_want (fun v => v = .bool true)
    · rfl
    · rintro _ ⟨m, rfl⟩
      unfold Loose.At
      go_simp
      refine Calls.mono (same_yes _ _ _ (Qr3.out.trans Qr4.out.symm)) ?_
      rintro e w' ⟨rfl, rfl⟩
      exact ⟨_, rfl, rfl, _, rfl⟩
    rintro _ rfl
    simp only [Act.put, List.setIfInBounds_toArray, List.set_cons_succ, List.set_cons_zero]
    repeat (
      apply Loose.walk_one
      · rfl
      · rintro _ ⟨m, rfl⟩
        go_simp
        try rfl
      simp only [Act.put, List.setIfInBounds_toArray, List.set_cons_succ, List.set_cons_zero])
    refine Loose.walk_nil ?_
    rintro _ ⟨m, rfl⟩
    go_wp2_with fail
    go_ret
    exact ⟨rfl, below_drewN ((Below.refl _ _).alloc (Nat.le_refl _) _) _⟩

end Go.Proofs.Ytmadogmahggpeaa
