/-
  The walk of the law BackoffEdges.
-/
import Derived.Test.YtmadogmahggpeaaWR
import Derived.Test.YtmadogmahggpeaaFE
namespace Go.Proofs.Ytmadogmahggpeaa
open Go.RowKit

theorem sub_self_num {c : Nat} (h : Fl.rung c < 9218868437227405312) : Ieee.double.sub c c = some 0 := by
  obtain ⟨m, p, e, _, _, _⟩ := Fl.read_fin h
  unfold Ieee.Format.sub
  rw [e]
  simp only [Ieee.Datum.opposite, Ieee.Datum.sum, Int.min_self, Int.sub_self, Int.toNat_zero, Option.map_some]
  have : Ieee.signed (Fl.sgn c) m 0 + Ieee.signed (!Fl.sgn c) m 0 = 0 := by
    unfold Ieee.signed; cases Fl.sgn c <;> simp <;> omega
  rw [this]
  cases Fl.sgn c <;> rfl

theorem sub_self (c : Nat) : Fl.nanB (Fl.subC c c) = true ∨ Fl.subC c c = 0 := by
  rcases Fl.read_cases c with ⟨h, _⟩ | ⟨_, hr, hd⟩ | ⟨_, hr, _⟩
  · left; unfold Fl.subC; rw [Fl.sub_none_l h]; exact Fl.nan_NAN
  · left
    have : Ieee.double.sub c c = none := by
      unfold Ieee.Format.sub; rw [hd]; cases Fl.sgn c <;> rfl
    unfold Fl.subC; rw [this]; exact Fl.nan_NAN
  · right; unfold Fl.subC; rw [sub_self_num hr]; rfl

theorem div_self_none {x : Nat} (h : Fl.nanB x = true ∨ x = 0) : Ieee.double.div x x = none := by
  rcases h with h | rfl
  · exact Fl.div_none_l h
  · decide

/-- The law's way to no number. -/
theorem run_nan (w : World) (t : TypeId) (x c : Nat) (h : Fl.Eqv x (Fl.subC c c)) :
    ∃ r n, (binOp .quo t (.float .f64 x) (.float .f64 x)).run Try.prog w = .ok (.float .f64 r) (w.drewN n) ∧ Fl.nanB r = true ∧ r < 18446744073709551616 := by
  obtain ⟨r, n, h1, h2, h3, _⟩ := run_float_any Try.prog w .quo t x x (.inr (.inr (.inr rfl)))
  refine ⟨r, n, h1, ?_, h3⟩
  have hx : Fl.nanB x = true ∨ x = 0 := by
    rcases sub_self c with hs | hs
    · left; rw [h.nan]; exact hs
    · rw [hs] at h; right; exact h.symm.eq Fl.nan_0 ▸ rfl
  have : floatBits .quo .f64 x x = none := div_self_none hx
  rw [this] at h2
  rw [h2.nan]; exact Fl.nan_NAN

theorem least_nan {c p : Nat} (hc : Fl.nanB c = true) : Fl.tk (leastZ c p) = Fl.tk p := by
  cases hp : Fl.nanB p
  · have := Fl.key_lt_nan hp hc
    unfold leastZ; rw [if_pos this]
  · have h1 := Fl.key_nan hc
    have h2 := Fl.key_nan hp
    unfold leastZ; rw [if_neg (by omega)]
    rw [Fl.tk_small (.inl hc), Fl.tk_small (.inl hp)]

theorem tk_eqv {a b : Nat} (h : Fl.Eqv a b) : Fl.tk a = Fl.tk b := by
  rcases h with rfl | ⟨h1, h2⟩
  · rfl
  · rw [Fl.tk_small (.inl h1), Fl.tk_small (.inl h2)]

theorem free_delay (base factor c : Nat) (f : Int) (hf : 1 ≤ f) (hc : Fl.nanB c = true) : delayZ base factor c f = Fl.tk (Fl.mulC base (powC factor (times (f - 1)))) := by
  unfold delayZ; rw [if_neg (by omega), least_nan hc]

theorem none_delay (base factor : Nat) (f : Int) : delayZ base factor 13830554455654793216 f = 0 := by
  unfold delayZ
  split
  · rfl
  · have h1 := Fl.tk_range (leastZ 13830554455654793216 (Fl.mulC base (powC factor (times (f - 1)))))
    have h2 : Fl.tk (leastZ 13830554455654793216 (Fl.mulC base (powC factor (times (f - 1))))) ≤ Fl.tk 13830554455654793216 := tk_mono (by decide) (by rw [key_least]; omega)
    have h3 : Fl.tk 13830554455654793216 = 0 := by unfold Fl.tk; rw [show Fl.nanB 13830554455654793216 = false by decide, show Fl.sgn 13830554455654793216 = true by decide]; rfl
    omega

theorem two_pows : ∀ n : Fin 61, Fl.rung (powC 4611686018427387904 n) < 9218868437227405312 := by decide +kernel

theorem zero_delay (cap : Nat) (f : Int) : delayZ 0 4611686018427387904 cap f = 0 := by
  unfold delayZ
  split
  · rfl
  · have ht := times_le (f - 1)
    have hq := two_pows ⟨times (f - 1), by omega⟩
    simp only at hq
    obtain ⟨m1, _⟩ := mul_zero (b := 0) (q := powC 4611686018427387904 (times (f - 1))) (by decide)
    obtain ⟨hn, hr⟩ := m1 hq
    have h1 := Fl.tk_range (leastZ cap (Fl.mulC 0 (powC 4611686018427387904 (times (f - 1)))))
    have h2 : Fl.tk (leastZ cap (Fl.mulC 0 (powC 4611686018427387904 (times (f - 1))))) ≤ Fl.tk (Fl.mulC 0 (powC 4611686018427387904 (times (f - 1)))) := tk_mono hn (by rw [key_least]; omega)
    rw [tk_zero hr] at h2
    omega

set_option maxRecDepth 100000 in
set_option maxHeartbeats 2000000 in
theorem edges_walk (base factor cap : Nat) (failed : Int) (w : World) (hc : cap < 18446744073709551616) :
    Calls Try.prog 3 #[setting base factor cap, .int .i64 failed] w fun e w' => e = .returned (.bool true) ∧ Below w.heap.size w w' := by
  obtain ⟨m, hm, em⟩ := mod_wrap failed 80 (by decide) (by decide)
  rw [show ((80 : Nat) : Int) = 80 from rfl] at em
  obtain ⟨f, hf1, hf2, Em⟩ : ∃ f : Int, 1 ≤ f ∧ f ≤ 80 ∧ Hid (wrap64 (1 + wrap64 ((IntKind.u64.wrap failed).tmod 80)) = f) := ⟨1 + m, by omega, by omega, Lib.hid (by rw [em]; unfold wrap64; omega)⟩
  clear em hm
  go_enter Try.func3, Try.ntmps3
  go_wp2_with fail
  refine (known_any _).mono ?_
  rintro e w1 ⟨rfl, hb1⟩
  have B1 := (boxed_new base factor cap w 24).below hb1
  have L1 : Below w.heap.size w w1 := ((Below.refl _ _).alloc (Nat.le_refl _) _).trans (hb1.mono (by simp))
  clear hb1
  obtain ⟨z1, c10, c11, c12⟩ := id B1
  obtain ⟨x, n1, hx, qx, lx⟩ := run_sub w1 22 cap cap
  obtain ⟨y, n2, hy, qy, ly⟩ := run_nan (w1.drewN n1) 22 x cap qx
  rw [World.drewN_drewN] at hy
  have Qy := Lib.hid qy
  clear qx qy
  go_wp2_with fail
  rw [Em.out]
  refine (delay_any _ _ _ _ _ (by omega) ly).mono ?_
  rintro e w2 ⟨rfl, hb2⟩
  have HB := (below_drewN (Below.refl w1.heap.size w1) (n1 + n2)).trans hb2
  have B2 := B1.below HB
  have L2 := L1.trans (HB.mono L1.size)
  clear hb2 HB B1 L1 c10 c11 c12 z1 hx hy
  obtain ⟨z1, c10, c11, c12⟩ := id B2
  have hwr : IntKind.i64.wrap (f - 1) = f - 1 := by rw [IntKind.wrap_i64]; omega
  go_wp2_with fail
  apply Loose.wp_region (C := fun w' => ∃ n, w' = w2.drewN n) (hm := by kernel_rfl) (hB := by kernel_rfl) (hC := ⟨1, rfl⟩)
  · repeat (
      apply Loose.walk_one
      · rfl
      · rintro _ ⟨n, rfl⟩
        go_simp
        try rfl
      simp only [Act.put, List.setIfInBounds_toArray, List.set_cons_succ, List.set_cons_zero])
    apply Loose.walk_want (fun v => ∃ r, v = .float .f64 r ∧ Fl.Eqv r (powC factor (times (f - 1))) ∧ r < 18446744073709551616)
    · rfl
    · rintro _ ⟨n, rfl⟩
      unfold Loose.At
      go_simp
      refine Calls.mono (rpower_any _ _ _) ?_
      rintro e w' ⟨r, m, rfl, hq, hr, rfl⟩
      exact ⟨_, rfl, ⟨r, rfl, hq, hr⟩, _, World.drewN_drewN _ _ _⟩
    rintro _ ⟨r, rfl, hq, hr⟩
    have Hq := Lib.hid hq
    clear hq hr
    simp only [Act.put, List.setIfInBounds_toArray, List.set_cons_succ, List.set_cons_zero]
    apply Loose.walk_want (fun v => ∃ p, v = .float .f64 p ∧ Fl.Eqv p (Fl.mulC base (powC factor (times (f - 1)))) ∧ p < 18446744073709551616)
    · rfl
    · rintro _ ⟨n, rfl⟩
      obtain ⟨p, m', hrun, hq2, hr2⟩ := run_mul (w2.drewN n) 22 base r
      have Hq2 := Lib.hid hq2
      rw [World.drewN_drewN] at hrun
      clear hq2
      unfold Loose.At
      go_simp
      exact ⟨⟨_, rfl⟩, p, rfl, Hq2.out.trans (.inl (Fl.mulC_congr (.refl _) Hq.out)), hr2⟩
    rintro _ ⟨p, rfl, hq2, hp⟩
    have Hq2 := Lib.hid hq2
    clear hq2 Hq
    simp only [Act.put, List.setIfInBounds_toArray, List.set_cons_succ, List.set_cons_zero]
    apply Loose.walk_want (fun v => ∃ p, v = .float .f64 p ∧ Fl.Eqv p (Fl.mulC base (powC factor (times (f - 1)))) ∧ p < 18446744073709551616)
    · rfl
    · rintro _ ⟨n, rfl⟩
      unfold Loose.At
      go_simp
      exact ⟨⟨_, rfl⟩, p, rfl, Hq2.out, hp⟩
    clear Hq2 hp
    rintro _ ⟨q, rfl, hq3, hq4⟩
    have Q3 := Lib.hid hq3
    clear hq3
    simp only [Act.put, List.setIfInBounds_toArray, List.set_cons_succ, List.set_cons_zero]
    refine Loose.walk_nil ?_
    rintro _ ⟨n, rfl⟩
    have B3 := B2.below (below_drewN (Below.refl _ _) n)
    have L3 := below_drewN L2 n
    obtain ⟨z1, c10, c11, c12⟩ := id B3
    have FD := Lib.hid (free_delay base factor y f hf1 Qy.out)
    have TE := Lib.hid (tk_eqv Q3.out)
    clear B2 L2
    go_wp2_with fail
    refine (rticks_any _ _).mono ?_
    rintro e w4 ⟨rfl, rfl⟩
    rw [TE.out, FD.out]
    go_wp2_with fail
    refine (delay_any _ _ _ _ _ (by omega) (by decide)).mono ?_
    rintro e w5 ⟨rfl, hb5⟩
    rw [none_delay]
    have B5 := B3.below hb5
    have L5 := L3.trans (hb5.mono L3.size)
    clear hb5 B3 L3 c10 c11 c12 z1
    obtain ⟨z1, c10, c11, c12⟩ := id B5
    go_wp2_with fail
    refine (delay_any _ _ _ _ _ (by omega) hc).mono ?_
    rintro e w6 ⟨rfl, hb6⟩
    rw [zero_delay]
    have L6 := L5.trans (hb6.mono L5.size)
    clear hb6 B5 L5 c10 c11 c12 z1
    go_wp2_with fail
    go_ret
    exact ⟨rfl, L6⟩

end Go.Proofs.Ytmadogmahggpeaa
