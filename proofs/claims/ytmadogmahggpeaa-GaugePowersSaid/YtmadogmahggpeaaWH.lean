/-
  The walk of the law BackoffDelays.
-/
import Derived.Test.YtmadogmahggpeaaWG
namespace Go.Proofs.Ytmadogmahggpeaa
open Go.RowKit

abbrev setting (base factor cap : Nat) : Value := .agg #[.float .f64 base, .float .f64 factor, .float .f64 cap]

/-- The three cells of a boxed setting. -/
def Boxed (base factor cap b : Nat) (w : World) : Prop := b < w.heap.size ∧ w.cell? ⟨b, 0, none⟩ = some (.float .f64 base) ∧ w.cell? ⟨b, 1, none⟩ = some (.float .f64 factor) ∧ w.cell? ⟨b, 2, none⟩ = some (.float .f64 cap)
theorem boxed_new (base factor cap : Nat) (w : World) (t : TypeId) : Boxed base factor cap w.heap.size (w.alloc (.cells #[.float .f64 base, .float .f64 factor, .float .f64 cap] t)) :=
  ⟨by simp, by rw [World.cell?_alloc_at _ _ _ _ rfl]; rfl, by rw [World.cell?_alloc_at _ _ _ _ rfl]; rfl, by rw [World.cell?_alloc_at _ _ _ _ rfl]; rfl⟩
theorem Boxed.below {base factor cap b : Nat} {w w' : World} (h : Boxed base factor cap b w) (hb : Below w.heap.size w w') : Boxed base factor cap b w' :=
  ⟨Nat.lt_of_lt_of_le h.1 hb.size, (hb.cell (by exact h.1)).trans h.2.1, (hb.cell (by exact h.1)).trans h.2.2.1, (hb.cell (by exact h.1)).trans h.2.2.2⟩

set_option maxHeartbeats 1000000 in
theorem delays_walk (base factor cap : Nat) (now failed : Int) (w : World) (hc : cap < 18446744073709551616) (hf : -9223372036854775808 ≤ failed) (hf2 : failed ≤ 9223372036854775807) :
    Calls Try.prog 4 #[setting base factor cap, .int .i64 now, .int .i64 failed] w fun e w' => e = .returned (.bool true) ∧ Below w.heap.size w w' := by
  go_enter Try.func4, Try.ntmps4
  go_wp2_with fail
  refine (known_any _).mono ?_
  rintro e w1 ⟨rfl, hb1⟩
  have B1 := (boxed_new base factor cap w 24).below hb1
  have L1 : Below w.heap.size w w1 := ((Below.refl _ _).alloc (Nat.le_refl _) _).trans (hb1.mono (by simp))
  clear hb1
  obtain ⟨z1, c10, c11, c12⟩ := id B1
  go_wp2_with fail
  refine (docdue_any _ _ _ _ _ _ hf hf2).mono ?_
  rintro e w2 ⟨n2, rfl, rfl⟩
  go_wp2_with fail
  refine (due_any _ _ _ _ _ _ hf2 hc).mono ?_
  rintro e w3 ⟨rfl, hb3⟩
  have B3 := B1.below (w' := w3) ((below_drewN (Below.refl _ _) n2).trans hb3)
  have L3 := L1.trans (((below_drewN (Below.refl _ _) n2).trans hb3).mono L1.size)
  clear hb3 L1 c10 c11 c12 z1 B1
  go_wp2_with fail
  apply Loose.wp_region (C := fun w' => Below w3.heap.size w3 w') (hm := by kernel_rfl) (hB := by kernel_rfl) (hC := (Below.refl _ _).drew)
  · repeat (
      apply Loose.walk_one
      · rfl
      · intro w' hb
        obtain ⟨_, c0, c1, c2⟩ := B3.below hb
        clear hb
        go_simp
        try rfl
      simp only [Act.put, List.setIfInBounds_toArray, List.set_cons_succ, List.set_cons_zero])
    apply Loose.walk_want (fun v => v = .int .i64 (delayZ base factor cap failed))
    · rfl
    · intro w' hb
      unfold Loose.At
      go_simp
      refine Calls.mono (delay_any _ _ _ _ _ hf2 hc) ?_
      rintro e w'' ⟨rfl, hb'⟩
      exact ⟨_, rfl, rfl, hb.trans (hb'.mono hb.size)⟩
    rintro _ rfl
    simp only [Act.put, List.setIfInBounds_toArray, List.set_cons_succ, List.set_cons_zero]
    repeat (
      apply Loose.walk_one
      · rfl
      · intro w' hb
        obtain ⟨_, c0, c1, c2⟩ := B3.below hb
        clear hb
        go_simp
        try rfl
      simp only [Act.put, List.setIfInBounds_toArray, List.set_cons_succ, List.set_cons_zero])
    apply Loose.walk_want (fun v => v = .int .i64 (delayZ base factor cap failed))
    · rfl
    · intro w' hb
      unfold Loose.At
      go_simp
      refine Calls.mono (rdelay_any _ _ _ _ _ hf hf2) ?_
      rintro e w'' ⟨n, rfl, rfl⟩
      exact ⟨_, rfl, rfl, below_drewN hb _⟩
    rintro _ rfl
    simp only [Act.put, List.setIfInBounds_toArray, List.set_cons_succ, List.set_cons_zero]
    repeat (
      apply Loose.walk_one
      · rfl
      · intro w' hb
        obtain ⟨_, c0, c1, c2⟩ := B3.below hb
        clear hb
        go_simp
        try rfl
      simp only [Act.put, List.setIfInBounds_toArray, List.set_cons_succ, List.set_cons_zero])
    refine Loose.walk_nil ?_
    intro w' hb
    have L4 := L3.trans (hb.mono L3.size)
    clear hb
    go_wp2_with fail
    go_ret
    exact ⟨rfl, L4⟩

end Go.Proofs.Ytmadogmahggpeaa
