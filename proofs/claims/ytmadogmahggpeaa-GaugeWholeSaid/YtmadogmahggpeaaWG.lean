/-
  The walks of package backoff and of its reference: delays.
-/
import Derived.Test.YtmadogmahggpeaaWF
import Derived.Test.YtmadogmahggpeaaLR
namespace Go.Proofs.Ytmadogmahggpeaa
open Go.RowKit

def delayZ (base factor cap : Nat) (failed : Int) : Int := if failed ≤ 0 then 0 else Fl.tk (leastZ cap (Fl.mulC base (powC factor (times (failed - 1)))))

theorem leastZ_congr {c p q : Nat} (h : Fl.Eqv p q) : leastZ c p = leastZ c q := by
  rcases h with rfl | ⟨h1, h2⟩
  · rfl
  · have := Fl.key_bounds c
    unfold leastZ
    rw [Fl.key_nan h1, Fl.key_nan h2, if_neg (by omega), if_neg (by omega)]
theorem leastZ_lt {c p : Nat} (hc : c < 18446744073709551616) (hp : p < 18446744073709551616) : leastZ c p < 18446744073709551616 := by unfold leastZ; split <;> assumption

/-- A number comes back; the world is as it was but for draws. -/
def Nv (v : Int) (w : World) (e : Ending) (w' : World) : Prop := ∃ n, e = .returned (.int .i64 v) ∧ w' = w.drewN n

theorem rdelay_any (base factor cap : Nat) (failed : Int) (w : World) (hf : -9223372036854775808 ≤ failed) (hf2 : failed ≤ 9223372036854775807) :
    Calls Try.prog 23 #[.float .f64 base, .float .f64 factor, .float .f64 cap, .int .i64 failed] w (Nv (delayZ base factor cap failed) w) := by
  by_cases h : failed ≤ 0
  · have T : Hid (delayZ base factor cap failed = 0) := Lib.hid (by unfold delayZ; rw [if_pos h])
    go_enter Try.func23, Try.ntmps23
    go_wp2
    go_ret
    exact ⟨0, ret_int T.out.symm, rfl⟩
  · have T : Hid (delayZ base factor cap failed = Fl.tk (leastZ cap (Fl.mulC base (powC factor (times (failed - 1)))))) := Lib.hid (by unfold delayZ; rw [if_neg h])
    go_enter Try.func23, Try.ntmps23
    go_wp2_with fail
    refine (rpower_any _ _ _).mono ?_
    rintro e w' ⟨r, m, rfl, hq, hr, rfl⟩
    obtain ⟨p, m', hrun, hq2, hr2⟩ := run_mul (w.drewN m) 22 base r
    have Q : Hid (leastZ cap p = leastZ cap (Fl.mulC base (powC factor (times (failed - 1))))) := Lib.hid (leastZ_congr (hq2.trans (.inl (Fl.mulC_congr (.refl _) hq))))
    rw [World.drewN_drewN] at hrun
    clear hq hr hq2 hr2
    go_wp2_with fail
    refine (rleast_any _ _ _).mono ?_
    rintro e w' ⟨rfl, rfl⟩
    go_wp2_with fail
    refine (rticks_any _ _).mono ?_
    rintro e w' ⟨rfl, rfl⟩
    go_wp2_with fail
    go_ret
    exact ⟨_, ret_int (by rw [T.out, Q.out]), rfl⟩

theorem delay_no (base factor cap : Nat) (failed : Int) (w : World) (h : failed ≤ 0) :
    Calls Try.prog 18 #[.agg #[.float .f64 base, .float .f64 factor, .float .f64 cap], .int .i64 failed] w fun e w' => e = .returned (.int .i64 0) ∧ Below w.heap.size w w' := by
  go_enter Try.func18, Try.ntmps18
  go_wp2
  go_ret
  exact ⟨rfl, (Below.refl _ _).alloc (Nat.le_refl _) _⟩

set_option maxHeartbeats 1000000 in
theorem delay_yes (base factor cap : Nat) (failed : Int) (w : World) (h : ¬ failed ≤ 0) (hf2 : failed ≤ 9223372036854775807) (hc : cap < 18446744073709551616) :
    Calls Try.prog 18 #[.agg #[.float .f64 base, .float .f64 factor, .float .f64 cap], .int .i64 failed] w fun e w' => e = .returned (.int .i64 (delayZ base factor cap failed)) ∧ Below w.heap.size w w' := by
  have T : Hid (delayZ base factor cap failed = Fl.tk (leastZ cap (Fl.mulC base (powC factor (times (failed - 1)))))) := Lib.hid (by unfold delayZ; rw [if_neg h])
  have hwr : IntKind.i64.wrap (failed - 1) = failed - 1 := by rw [IntKind.wrap_i64]; omega
  go_enter Try.func18, Try.ntmps18
  go_wp2_with fail
  apply Loose.wp_region (C := fun w' => ∃ n, w' = (w.alloc (Obj.cells #[Value.float FloatKind.f64 base, Value.float FloatKind.f64 factor, Value.float FloatKind.f64 cap] 24)).drewN n) (hm := by kernel_rfl) (hB := by kernel_rfl) (hC := ⟨1, rfl⟩)
  · repeat (
      apply Loose.walk_one
      · rfl
      · rintro _ ⟨n, rfl⟩
        go_simp
        rfl
      simp only [Act.put, List.setIfInBounds_toArray, List.set_cons_succ, List.set_cons_zero])
    apply Loose.walk_want (fun v => ∃ r, v = .float .f64 r ∧ Fl.Eqv r (powC factor (times (failed - 1))) ∧ r < 18446744073709551616)
    · rfl
    · rintro _ ⟨n, rfl⟩
      unfold Loose.At
      go_simp
      refine Calls.mono (power_any _ _ _) ?_
      rintro e w' ⟨r, m, rfl, hq, hr, rfl⟩
      exact ⟨_, rfl, ⟨r, rfl, hq, hr⟩, _, World.drewN_drewN _ _ _⟩
    rintro _ ⟨r, rfl, hq, hr⟩
    have Hq := Lib.hid hq
    clear hq hr
    simp only [Act.put, List.setIfInBounds_toArray, List.set_cons_succ, List.set_cons_zero]
    apply Loose.walk_want (fun v => ∃ p, v = .float .f64 p ∧ Fl.Eqv p (Fl.mulC base (powC factor (times (failed - 1)))) ∧ p < 18446744073709551616)
    · rfl
    · rintro _ ⟨n, rfl⟩
      obtain ⟨p, m', hrun, hq2, hr2⟩ := run_mul ((w.alloc (Obj.cells #[Value.float FloatKind.f64 base, Value.float FloatKind.f64 factor, Value.float FloatKind.f64 cap] 24)).drewN n) 22 base r
      have Hq2 := Lib.hid hq2
      rw [World.drewN_drewN] at hrun
      clear hq2
      unfold Loose.At
      go_simp
      exact ⟨⟨_, rfl⟩, p, rfl, Hq2.out.trans (.inl (Fl.mulC_congr (.refl _) Hq.out)), hr2⟩
    rintro _ ⟨p, rfl, hq2, hp⟩
    have Hq2 := Lib.hid hq2
    clear hq2 Hq
    simp only [Act.put, List.setIfInBounds_toArray, List.set_cons_succ, List.set_cons_zero]
    apply Loose.walk_want (fun v => v = .float .f64 (leastZ cap (Fl.mulC base (powC factor (times (failed - 1))))))
    · rfl
    · rintro _ ⟨n, rfl⟩
      unfold Loose.At
      go_simp
      refine Calls.mono (least_any _ _ _ hc hp) ?_
      rintro e w' ⟨rfl, rfl⟩
      exact ⟨_, rfl, by rw [leastZ_congr Hq2.out], _, rfl⟩
    rintro _ rfl
    simp only [Act.put, List.setIfInBounds_toArray, List.set_cons_succ, List.set_cons_zero]
    apply Loose.walk_want (fun v => v = .int .i64 (Fl.tk (leastZ cap (Fl.mulC base (powC factor (times (failed - 1)))))))
    · rfl
    · rintro _ ⟨n, rfl⟩
      unfold Loose.At
      go_simp
      refine Calls.mono (ticks_any _ _) ?_
      rintro e w' ⟨rfl, rfl⟩
      exact ⟨_, rfl, rfl, _, rfl⟩
    rintro _ rfl
    simp only [Act.put, List.setIfInBounds_toArray, List.set_cons_succ, List.set_cons_zero]
    repeat (
      apply Loose.walk_one
      · rfl
      · rintro _ ⟨n, rfl⟩
        go_simp
        rfl
      simp only [Act.put, List.setIfInBounds_toArray, List.set_cons_succ, List.set_cons_zero])
    refine Loose.walk_nil ?_
    rintro _ ⟨n, rfl⟩
    clear hwr
    go_wp2_with fail
    go_ret
    refine ⟨ret_int T.out.symm, ?_⟩
    exact below_drewN ((Below.refl _ _).alloc (Nat.le_refl _) _) _

theorem delay_any (base factor cap : Nat) (failed : Int) (w : World) (hf2 : failed ≤ 9223372036854775807) (hc : cap < 18446744073709551616) :
    Calls Try.prog 18 #[.agg #[.float .f64 base, .float .f64 factor, .float .f64 cap], .int .i64 failed] w fun e w' => e = .returned (.int .i64 (delayZ base factor cap failed)) ∧ Below w.heap.size w w' := by
  by_cases h : failed ≤ 0
  · have e : delayZ base factor cap failed = 0 := by unfold delayZ; rw [if_pos h]
    rw [e]; exact delay_no base factor cap failed w h
  · exact delay_yes base factor cap failed w h hf2 hc

theorem delay_range (base factor cap : Nat) (failed : Int) : 0 ≤ delayZ base factor cap failed ∧ delayZ base factor cap failed ≤ 100000 := by
  unfold delayZ
  split
  · omega
  · exact Fl.tk_range _

theorem known_delay : delayZ 4607182418800017408 4611686018427387904 4621819117588971520 4 = 8 := by decide +kernel

set_option maxHeartbeats 400000 in
theorem known_any (w : World) : Calls Try.prog 17 #[] w fun e w' => e = .returned (.bool true) ∧ Below w.heap.size w w' := by
  have k4 := Lib.hid known_delay
  go_enter Try.func17, Try.ntmps17
  go_wp2_with fail
  refine (delay_any _ _ _ _ _ (by omega) (by decide)).mono ?_
  rintro e w1 ⟨rfl, hb1⟩
  rw [k4.out]
  go_wp2_with fail
  refine (delay_no _ _ _ _ _ (by omega)).mono ?_
  rintro e w2 ⟨rfl, hb2⟩
  have hs := hb1.size
  go_wp2_with fail
  go_ret
  exact ⟨rfl, hb1.trans (hb2.mono hs)⟩

def dueV (base factor cap : Nat) (now failed : Int) : Int := if now < 0 ∨ 1099511627776 < now then 0 else now + delayZ base factor cap failed
def dueE (now : Int) : Int := if now < 0 ∨ 1099511627776 < now then 1 else 0
theorem ret_ii {a b c d : Int} (h : a = b) (h' : c = d) : Ending.returned (.tuple #[.int .i64 a, .int .i64 c]) = .returned (.tuple #[.int .i64 b, .int .i64 d]) := by rw [h, h']

set_option maxHeartbeats 400000 in
theorem due_any (base factor cap : Nat) (now failed : Int) (w : World) (hf2 : failed ≤ 9223372036854775807) (hc : cap < 18446744073709551616) :
    Calls Try.prog 22 #[.agg #[.float .f64 base, .float .f64 factor, .float .f64 cap], .int .i64 now, .int .i64 failed] w fun e w' => e = .returned (.tuple #[.int .i64 (dueV base factor cap now failed), .int .i64 (dueE now)]) ∧ Below w.heap.size w w' := by
  by_cases h1 : now < 0
  · have T : Hid (dueV base factor cap now failed = 0 ∧ dueE now = 1) := Lib.hid (by unfold dueV dueE; rw [if_pos (.inl h1), if_pos (.inl h1)]; exact ⟨rfl, rfl⟩)
    go_enter Try.func22, Try.ntmps22
    go_wp2_with fail
    go_ret2
    exact ⟨ret_ii T.out.1.symm T.out.2.symm, (Below.refl _ _).alloc (Nat.le_refl _) _⟩
  · by_cases h2 : 1099511627776 < now
    · have T : Hid (dueV base factor cap now failed = 0 ∧ dueE now = 1) := Lib.hid (by unfold dueV dueE; rw [if_pos (.inr h2), if_pos (.inr h2)]; exact ⟨rfl, rfl⟩)
      go_enter Try.func22, Try.ntmps22
      go_wp2_with fail
      go_ret2
      exact ⟨ret_ii T.out.1.symm T.out.2.symm, (Below.refl _ _).alloc (Nat.le_refl _) _⟩
    · have T : Hid (dueV base factor cap now failed = now + delayZ base factor cap failed ∧ dueE now = 0) := Lib.hid (by unfold dueV dueE; rw [if_neg (by omega), if_neg (by omega)]; exact ⟨rfl, rfl⟩)
      have hd := delay_range base factor cap failed
      go_enter Try.func22, Try.ntmps22
      go_wp2_with fail
      refine (delay_any _ _ _ _ _ hf2 hc).mono ?_
      rintro e w1 ⟨rfl, hb1⟩
      go_wp2_with fail
      go_ret2
      exact ⟨ret_ii T.out.1.symm T.out.2.symm, ((Below.refl _ _).alloc (Nat.le_refl _) _).trans (hb1.mono (by simp))⟩

/-- Two numbers come back; the world is as it was but for draws. -/
def Nv2 (u v : Int) (w : World) (e : Ending) (w' : World) : Prop := ∃ n, e = .returned (.tuple #[.int .i64 u, .int .i64 v]) ∧ w' = w.drewN n

set_option maxHeartbeats 400000 in
theorem docdue_any (base factor cap : Nat) (now failed : Int) (w : World) (hf : -9223372036854775808 ≤ failed) (hf2 : failed ≤ 9223372036854775807) :
    Calls Try.prog 21 #[.float .f64 base, .float .f64 factor, .float .f64 cap, .int .i64 now, .int .i64 failed] w (Nv2 (dueV base factor cap now failed) (dueE now) w) := by
  by_cases h1 : now < 0
  · have T : Hid (dueV base factor cap now failed = 0 ∧ dueE now = 1) := Lib.hid (by unfold dueV dueE; rw [if_pos (.inl h1), if_pos (.inl h1)]; exact ⟨rfl, rfl⟩)
    go_enter Try.func21, Try.ntmps21
    go_wp2_with fail
    go_ret2
    exact ⟨0, ret_ii T.out.1.symm T.out.2.symm, rfl⟩
  · by_cases h2 : 1099511627776 < now
    · have T : Hid (dueV base factor cap now failed = 0 ∧ dueE now = 1) := Lib.hid (by unfold dueV dueE; rw [if_pos (.inr h2), if_pos (.inr h2)]; exact ⟨rfl, rfl⟩)
      go_enter Try.func21, Try.ntmps21
      go_wp2_with fail
      go_ret2
      exact ⟨0, ret_ii T.out.1.symm T.out.2.symm, rfl⟩
    · have T : Hid (dueV base factor cap now failed = now + delayZ base factor cap failed ∧ dueE now = 0) := Lib.hid (by unfold dueV dueE; rw [if_neg (by omega), if_neg (by omega)]; exact ⟨rfl, rfl⟩)
      have hd := delay_range base factor cap failed
      go_enter Try.func21, Try.ntmps21
      go_wp2_with fail
      refine (rdelay_any _ _ _ _ _ hf hf2).mono ?_
      rintro e w1 ⟨n, rfl, rfl⟩
      go_wp2_with fail
      go_ret2
      exact ⟨_, ret_ii T.out.1.symm T.out.2.symm, rfl⟩

end Go.Proofs.Ytmadogmahggpeaa
