/-
  The walks of the functions of package gauge and of its reference that reckon with floats: products, powers, mixes (a result that is no number draws its bits from the tape).
-/
import Derived.Test.YtmadogmahggpeaaWA
import Derived.Deep.Draws
import Derived.Laws.NewFold
namespace Go.Proofs.Ytmadogmahggpeaa
open Go.RowKit

theorem cut_nan (x y t : Nat) : Fl.nanB ((Question.nanBits .f64 x y).cut t) = true ∧ (Question.nanBits .f64 x y).cut t < 18446744073709551616 := by
  show Fl.nanB ((t % 2) * 2 ^ 63 + 0x7ff0000000000000 + 1 + (t / 2) % (2 ^ 52 - 1)) = true ∧ (t % 2) * 2 ^ 63 + 0x7ff0000000000000 + 1 + (t / 2) % (2 ^ 52 - 1) < 18446744073709551616
  have h1 : (2 : Nat) ^ 63 = 9223372036854775808 := by decide
  have h2 : (2 : Nat) ^ 52 - 1 = 4503599627370495 := by decide
  rw [h1, h2]
  unfold Fl.nanB Fl.rung
  simp only [decide_eq_true_eq]
  have h3 : t % 2 < 2 := Nat.mod_lt _ (by decide)
  have h4 : t / 2 % 4503599627370495 < 4503599627370495 := Nat.mod_lt _ (by decide)
  generalize t % 2 = a at *
  generalize t / 2 % 4503599627370495 = b at *
  rcases (by omega : a = 0 ∨ a = 1) with rfl | rfl <;> omega

/-- What an operation on floats gives: the word that IEEE fixes, or some word that is no number. -/
theorem run_float_any (P : Program) (w : World) (op : BinOp) (t : TypeId) (x y : Nat) (hop : op = .add ∨ op = .sub ∨ op = .mul ∨ op = .quo) :
    ∃ r n, (binOp op t (.float .f64 x) (.float .f64 y)).run P w = .ok (.float .f64 r) (w.drewN n) ∧ Fl.Eqv r ((floatBits op .f64 x y).getD Fl.NAN) ∧ r < 18446744073709551616 ∧ ((floatBits op .f64 x y).isSome = true → n = 0) := by
  cases hb : floatBits op .f64 x y with
  | some r =>
    refine ⟨r, 0, run_float_arith w op t .f64 x y r hb, .inl rfl, ?_, fun _ => rfl⟩
    have := floatBits_wf hb
    simpa [Lit.wf] using this
  | none =>
    obtain ⟨h1, h2⟩ := cut_nan x y (w.tape w.drawn (.nanBits .f64 x y))
    refine ⟨_, 1, ?_, .inr ⟨h1, Fl.nan_NAN⟩, h2, fun h => by cases h⟩
    rcases hop with rfl | rfl | rfl | rfl
    all_goals
      simp only [floatBits] at hb
      simp only [binOp, Op.floatArith, hb]
      rfl

theorem run_mul (w : World) (t : TypeId) (x y : Nat) :
    ∃ r n, (binOp .mul t (.float .f64 x) (.float .f64 y)).run Try.prog w = .ok (.float .f64 r) (w.drewN n) ∧ Fl.Eqv r (Fl.mulC x y) ∧ r < 18446744073709551616 := by
  obtain ⟨r, n, h1, h2, h3, _⟩ := run_float_any Try.prog w .mul t x y (.inr (.inr (.inl rfl)))
  exact ⟨r, n, h1, h2, h3⟩
theorem run_add (w : World) (t : TypeId) (x y : Nat) :
    ∃ r n, (binOp .add t (.float .f64 x) (.float .f64 y)).run Try.prog w = .ok (.float .f64 r) (w.drewN n) ∧ Fl.Eqv r (Fl.addC x y) ∧ r < 18446744073709551616 := by
  obtain ⟨r, n, h1, h2, h3, _⟩ := run_float_any Try.prog w .add t x y (.inl rfl)
  exact ⟨r, n, h1, h2, h3⟩
theorem run_sub (w : World) (t : TypeId) (x y : Nat) :
    ∃ r n, (binOp .sub t (.float .f64 x) (.float .f64 y)).run Try.prog w = .ok (.float .f64 r) (w.drewN n) ∧ Fl.Eqv r (Fl.subC x y) ∧ r < 18446744073709551616 := by
  obtain ⟨r, n, h1, h2, h3, _⟩ := run_float_any Try.prog w .sub t x y (.inr (.inl rfl))
  exact ⟨r, n, h1, h2, h3⟩

/-- The call gives a word that is 'v' or, like it, no number; the world is as it was but for draws. -/
def Fv (v : Nat) (w : World) (e : Ending) (w' : World) : Prop := ∃ r n, e = .returned (.float .f64 r) ∧ Fl.Eqv r v ∧ r < 18446744073709551616 ∧ w' = w.drewN n

def powC (x : Nat) : Nat → Nat
  | 0 => Fl.ONE
  | n + 1 => Fl.mulC (powC x n) x
def times (n : Int) : Nat := (min (max n 0) 60).toNat
def mixC (old now wt : Nat) : Nat := Fl.addC old (Fl.mulC wt (Fl.subC now old))

theorem mix_any (old now wt : Nat) (w : World) : Calls Try.prog 36 #[.float .f64 old, .float .f64 now, .float .f64 wt] w (Fv (mixC old now wt) w) := by
  obtain ⟨r1, n1, h1, q1, l1⟩ := run_sub w 22 now old
  obtain ⟨r2, n2, h2, q2, l2⟩ := run_mul (w.drewN n1) 22 wt r1
  obtain ⟨r3, n3, h3, q3, l3⟩ := run_add ((w.drewN n1).drewN n2) 22 old r2
  simp only [World.drewN_drewN] at h2 h3
  have Q : Hid (Fl.Eqv r3 (mixC old now wt) ∧ r3 < 18446744073709551616) := Lib.hid ⟨by
    refine q3.trans (.inl ?_)
    exact Fl.addC_congr (.refl _) (q2.trans (.inl (Fl.mulC_congr (.refl _) q1))), l3⟩
  clear q1 q2 q3 l1 l2 l3
  go_enter Try.func36, Try.ntmps36
  go_wp2
  go_ret
  exact ⟨_, _, rfl, Q.out.1, Q.out.2, rfl⟩

theorem rmix_any (old now wt : Nat) (w : World) : Calls Try.prog 38 #[.float .f64 old, .float .f64 now, .float .f64 wt] w (Fv (mixC old now wt) w) := by
  obtain ⟨r1, n1, h1, q1, l1⟩ := run_sub w 22 now old
  obtain ⟨r2, n2, h2, q2, l2⟩ := run_mul (w.drewN n1) 22 wt r1
  obtain ⟨r3, n3, h3, q3, l3⟩ := run_add ((w.drewN n1).drewN n2) 22 old r2
  simp only [World.drewN_drewN] at h2 h3
  have Q : Hid (Fl.Eqv r3 (mixC old now wt) ∧ r3 < 18446744073709551616) := Lib.hid ⟨by
    refine q3.trans (.inl ?_)
    exact Fl.addC_congr (.refl _) (q2.trans (.inl (Fl.mulC_congr (.refl _) q1))), l3⟩
  clear q1 q2 q3 l1 l2 l3
  go_enter Try.func38, Try.ntmps38
  go_wp2
  go_ret
  exact ⟨_, _, rfl, Q.out.1, Q.out.2, rfl⟩

theorem times_le (n : Int) : times n ≤ 60 := by unfold times; omega

theorem one_lt : Fl.ONE < 18446744073709551616 := by decide

/-- The rounds' value: 'k' products made. -/
def PowAt (x k : Nat) (w : World) (v : Value) (wr : World) : Prop := ∃ r m, v = .float .f64 r ∧ Fl.Eqv r (powC x k) ∧ r < 18446744073709551616 ∧ wr = w.drewN m

theorem pow_round {x k r m : Nat} {w : World} (heq : Fl.Eqv r (powC x k)) : ∃ r' m', (binOp .mul 22 (.float .f64 r) (.float .f64 x)).run Try.prog (w.drewN m) = .ok (.float .f64 r') (w.drewN m') ∧ Hid (Fl.Eqv r' (powC x (k + 1)) ∧ r' < 18446744073709551616) := by
  obtain ⟨r', n, h1, h2, h3⟩ := run_mul (w.drewN m) 22 r x
  rw [World.drewN_drewN] at h1
  exact ⟨r', _, h1, h2.trans (.inl (Fl.mulC_congr heq (.refl _))), h3⟩

set_option maxHeartbeats 400000 in
theorem power_mid (x c : Nat) (w : World) (_hc : c ≤ 60) : Calls Try.prog 37 #[.float .f64 x, .int .i64 c] w (Fv (powC x c) w) := by
  go_enter Try.func37, Try.ntmps37
  go_wp2
  go_loopw [5, 9] (fun v i wr => ∃ k : Nat, k ≤ c ∧ i = .int .i64 k ∧ PowAt x k w v wr) (fun _ i _ => c - (intOf i).toNat)
  case atStart => exact ⟨0, Nat.zero_le _, rfl, Fl.ONE, 0, rfl, .refl _, one_lt, rfl⟩
  case round =>
    obtain ⟨k, hk, rfl, r, m, rfl, heq, hr, rfl⟩ := hrel
    obtain ⟨r', m', hrun, hQ⟩ := pow_round (w := w) (m := m) heq
    have Heq := Lib.hid (And.intro heq hr)
    clear heq hr
    by_cases hlt : k < c
    · go_wp2
      go_roundw
      case rel => exact ⟨k + 1, by omega, by go_num, _, _, rfl, hQ.out.1, hQ.out.2, rfl⟩
      case measure => simp [intOf]; omega
    · go_wp2
      go_ret
      obtain rfl : k = c := by omega
      exact ⟨_, _, rfl, Heq.out.1, Heq.out.2, rfl⟩

set_option maxHeartbeats 400000 in
theorem power_big (x : Nat) (n : Int) (w : World) (_hn : 60 < n) : Calls Try.prog 37 #[.float .f64 x, .int .i64 n] w (Fv (powC x 60) w) := by
  go_enter Try.func37, Try.ntmps37
  go_wp2
  go_loopw [5, 9] (fun v i wr => ∃ k : Nat, k ≤ 60 ∧ i = .int .i64 k ∧ PowAt x k w v wr) (fun _ i _ => 60 - (intOf i).toNat)
  case atStart => exact ⟨0, Nat.zero_le _, rfl, Fl.ONE, 0, rfl, .refl _, one_lt, rfl⟩
  case round =>
    obtain ⟨k, hk, rfl, r, m, rfl, heq, hr, rfl⟩ := hrel
    obtain ⟨r', m', hrun, hQ⟩ := pow_round (w := w) (m := m) heq
    have Heq := Lib.hid (And.intro heq hr)
    clear heq hr
    by_cases hlt : k < 60
    · go_wp2
      go_roundw
      case rel => exact ⟨k + 1, by omega, by go_num, _, _, rfl, hQ.out.1, hQ.out.2, rfl⟩
      case measure => simp [intOf]; omega
    · go_wp2
      go_ret
      obtain rfl : k = 60 := by omega
      exact ⟨_, _, rfl, Heq.out.1, Heq.out.2, rfl⟩

set_option maxHeartbeats 400000 in
theorem power_neg (x : Nat) (n : Int) (w : World) (_hn : n < 0) : Calls Try.prog 37 #[.float .f64 x, .int .i64 n] w (Fv (powC x 0) w) := by
  go_enter Try.func37, Try.ntmps37
  go_wp2
  go_loopw [5, 9] (fun v i wr => ∃ k : Nat, k ≤ 0 ∧ i = .int .i64 k ∧ PowAt x k w v wr) (fun _ i _ => 0 - (intOf i).toNat)
  case atStart => exact ⟨0, Nat.zero_le _, rfl, Fl.ONE, 0, rfl, .refl _, one_lt, rfl⟩
  case round =>
    obtain ⟨k, hk, rfl, r, m, rfl, heq, hr, rfl⟩ := hrel
    have Heq := Lib.hid (And.intro heq hr)
    clear heq hr
    go_wp2
    go_ret
    obtain rfl : k = 0 := by omega
    exact ⟨_, _, rfl, Heq.out.1, Heq.out.2, rfl⟩

set_option maxHeartbeats 400000 in
theorem rpower_mid (x c : Nat) (w : World) (_hc : c ≤ 60) : Calls Try.prog 19 #[.float .f64 x, .int .i64 c] w (Fv (powC x c) w) := by
  go_enter Try.func19, Try.ntmps19
  go_wp2
  go_loopw [5, 6] (fun v i wr => ∃ k : Nat, k ≤ c ∧ i = .int .i64 k ∧ PowAt x k w v wr) (fun _ i _ => c - (intOf i).toNat)
  case atStart => exact ⟨0, Nat.zero_le _, rfl, Fl.ONE, 0, rfl, .refl _, one_lt, rfl⟩
  case round =>
    obtain ⟨k, hk, rfl, r, m, rfl, heq, hr, rfl⟩ := hrel
    obtain ⟨r', m', hrun, hQ⟩ := pow_round (w := w) (m := m) heq
    have Heq := Lib.hid (And.intro heq hr)
    clear heq hr
    by_cases hlt : k < c
    · go_wp2
      go_roundw
      case rel => exact ⟨k + 1, by omega, by go_num, _, _, rfl, hQ.out.1, hQ.out.2, rfl⟩
      case measure => simp [intOf]; omega
    · go_wp2
      go_ret
      obtain rfl : k = c := by omega
      exact ⟨_, _, rfl, Heq.out.1, Heq.out.2, rfl⟩

set_option maxHeartbeats 400000 in
theorem rpower_big (x : Nat) (n : Int) (w : World) (_hn : 60 < n) : Calls Try.prog 19 #[.float .f64 x, .int .i64 n] w (Fv (powC x 60) w) := by
  go_enter Try.func19, Try.ntmps19
  go_wp2
  go_loopw [5, 6] (fun v i wr => ∃ k : Nat, k ≤ 60 ∧ i = .int .i64 k ∧ PowAt x k w v wr) (fun _ i _ => 60 - (intOf i).toNat)
  case atStart => exact ⟨0, Nat.zero_le _, rfl, Fl.ONE, 0, rfl, .refl _, one_lt, rfl⟩
  case round =>
    obtain ⟨k, hk, rfl, r, m, rfl, heq, hr, rfl⟩ := hrel
    obtain ⟨r', m', hrun, hQ⟩ := pow_round (w := w) (m := m) heq
    have Heq := Lib.hid (And.intro heq hr)
    clear heq hr
    by_cases hlt : k < 60
    · go_wp2
      go_roundw
      case rel => exact ⟨k + 1, by omega, by go_num, _, _, rfl, hQ.out.1, hQ.out.2, rfl⟩
      case measure => simp [intOf]; omega
    · go_wp2
      go_ret
      obtain rfl : k = 60 := by omega
      exact ⟨_, _, rfl, Heq.out.1, Heq.out.2, rfl⟩

set_option maxHeartbeats 400000 in
theorem rpower_neg (x : Nat) (n : Int) (w : World) (_hn : n < 0) : Calls Try.prog 19 #[.float .f64 x, .int .i64 n] w (Fv (powC x 0) w) := by
  go_enter Try.func19, Try.ntmps19
  go_wp2
  go_loopw [5, 6] (fun v i wr => ∃ k : Nat, k ≤ 0 ∧ i = .int .i64 k ∧ PowAt x k w v wr) (fun _ i _ => 0 - (intOf i).toNat)
  case atStart => exact ⟨0, Nat.zero_le _, rfl, Fl.ONE, 0, rfl, .refl _, one_lt, rfl⟩
  case round =>
    obtain ⟨k, hk, rfl, r, m, rfl, heq, hr, rfl⟩ := hrel
    have Heq := Lib.hid (And.intro heq hr)
    clear heq hr
    go_wp2
    go_ret
    obtain rfl : k = 0 := by omega
    exact ⟨_, _, rfl, Heq.out.1, Heq.out.2, rfl⟩

theorem power_any (x : Nat) (n : Int) (w : World) : Calls Try.prog 37 #[.float .f64 x, .int .i64 n] w (Fv (powC x (times n)) w) := by
  by_cases h1 : n < 0
  · rw [show times n = 0 by unfold times; omega]; exact power_neg x n w h1
  · by_cases h2 : 60 < n
    · rw [show times n = 60 by unfold times; omega]; exact power_big x n w h2
    · obtain ⟨c, rfl⟩ := Int.eq_ofNat_of_zero_le (show 0 ≤ n by omega)
      rw [show times (c : Int) = c by unfold times; omega]; exact power_mid x c w (by omega)

theorem rpower_any (x : Nat) (n : Int) (w : World) : Calls Try.prog 19 #[.float .f64 x, .int .i64 n] w (Fv (powC x (times n)) w) := by
  by_cases h1 : n < 0
  · rw [show times n = 0 by unfold times; omega]; exact rpower_neg x n w h1
  · by_cases h2 : 60 < n
    · rw [show times n = 60 by unfold times; omega]; exact rpower_big x n w h2
    · obtain ⟨c, rfl⟩ := Int.eq_ofNat_of_zero_le (show 0 ≤ n by omega)
      rw [show times (c : Int) = c by unfold times; omega]; exact rpower_mid x c w (by omega)

end Go.Proofs.Ytmadogmahggpeaa
