/-
  Plain facts on delays: they don't shrink where the base is from nought on and the factor from one on; they don't pass the cap.
-/
import Derived.Test.YtmadogmahggpeaaWG
namespace Go.Proofs.Ytmadogmahggpeaa
open Fl

theorem key_val {x : Nat} (h : nanB x = false) : keyZ x = if sgn x then -(rung x : Int) - 1 else (rung x : Int) := by unfold keyZ; rw [h]; rfl

/-- What stands ahead has no more ticks. -/
theorem tk_mono {a b : Nat} (hb : nanB b = false) (h : keyZ a ≤ keyZ b) : tk a ≤ tk b := by
  have ha : nanB a = false := by
    cases hn : nanB a
    · rfl
    · have := key_lt_nan hb hn; omega
  rw [key_val ha, key_val hb] at h
  have r1 := tk_range b
  unfold tk
  rw [ha, hb]
  simp only [Bool.false_eq_true, if_false]
  cases sa : sgn a <;> cases sb : sgn b <;> rw [sa, sb] at h <;> simp only [Bool.false_eq_true, if_false, if_true] at h ⊢
  · have hr : rung a ≤ rung b := by omega
    have : fl a ≤ fl b := Nat.div_le_div_right (mg_mono hr)
    split <;> split <;> omega
  · omega
  · split <;> omega
  · omega

theorem key_least (c p : Nat) : keyZ (leastZ c p) = min (keyZ c) (keyZ p) := by
  unfold leastZ; split <;> omega
theorem least_num {c p : Nat} (h : nanB c = false ∨ nanB p = false) : nanB (leastZ c p) = false := by
  cases hn : nanB (leastZ c p)
  · rfl
  · exfalso
    have h1 := key_nan hn
    have h2 := key_least c p
    rcases h with h | h
    · have := not_nan h
      rw [key_val h] at h2
      have := key_bounds p
      split at h2 <;> omega
    · have := not_nan h
      rw [key_val h] at h2
      have := key_bounds c
      split at h2 <;> omega

theorem least_mono {c p q : Nat} (hq : nanB q = false) (h : keyZ p ≤ keyZ q) : tk (leastZ c p) ≤ tk (leastZ c q) :=
  tk_mono (least_num (.inr hq)) (by rw [key_least, key_least]; omega)

/-- A number from nought on. -/
def Pos (x : Nat) : Prop := nanB x = false ∧ sgn x = false
theorem pos_key {x : Nat} (h : Pos x) : keyZ x = rung x := by rw [key_val h.1, h.2]; rfl
theorem pos_word {r : Nat} (h : r ≤ 9218868437227405312) : Pos (Ieee.double.word false r) ∧ rung (Ieee.double.word false r) = r := by
  obtain ⟨h1, h2⟩ := word_rung (s := false) (r := r) (by omega)
  exact ⟨⟨nanB_false (by omega), h2⟩, h1⟩

/-- The product of two numbers above nought, or of one and an infinity. -/
theorem mul_pos {x y : Nat} (hx : Pos x) (hy : Pos y) (hx0 : rung x ≠ 0) (hy0 : rung y ≠ 0) : Pos (mulC x y) ∧
    (rung x = 9218868437227405312 ∨ rung y = 9218868437227405312 → rung (mulC x y) = 9218868437227405312) ∧
    (rung x < 9218868437227405312 → rung y < 9218868437227405312 → ∃ r, rung (mulC x y) = min r 9218868437227405312 ∧ IsRound (mg (rung x) * mg (rung y)) KE r) := by
  rcases read_cases x with ⟨h, _⟩ | ⟨_, hr, hd⟩ | ⟨_, hr, m, p, hd, _, _, hm⟩
  · rw [hx.1] at h; cases h
  · have key : mulC x y = Ieee.double.word false 9218868437227405312 := by
      unfold mulC Ieee.Format.mul
      rcases read_cases y with ⟨h, _⟩ | ⟨_, hr2, hd2⟩ | ⟨_, hr2, n, q, hd2, _, _, hn⟩
      · rw [hy.1] at h; cases h
      · rw [hd, hd2, hx.2, hy.2]; simp [Ieee.Datum.product, Ieee.Format.write, d_inf]
      · rw [hd, hd2, hx.2, hy.2]
        have : n ≠ 0 := by intro h0; rw [h0, Nat.zero_mul] at hn; exact hy0 (mg_eq_zero.1 hn)
        simp [Ieee.Datum.product, Ieee.Format.write, d_inf, this]
    obtain ⟨k1, k2⟩ := pos_word (r := 9218868437227405312) (by omega)
    rw [key]
    exact ⟨k1, fun _ => k2, fun h => by omega⟩
  · have hn0 : m ≠ 0 := by intro h0; rw [h0, Nat.zero_mul] at hm; exact hx0 (mg_eq_zero.1 hm)
    rcases Nat.lt_or_eq_of_le (not_nan hy.1) with hy1 | hy1
    · obtain ⟨r, e, hR⟩ := mul_fin hr hy1
      have key : mulC x y = Ieee.double.word false (min r 9218868437227405312) := by
        unfold mulC; rw [e, hx.2, hy.2]; rfl
      obtain ⟨k1, k2⟩ := pos_word (r := min r 9218868437227405312) (by omega)
      rw [key]
      exact ⟨k1, fun h => by omega, fun _ _ => ⟨r, k2, hR⟩⟩
    · have hd2 := read_inf hy1
      have key : mulC x y = Ieee.double.word false 9218868437227405312 := by
        unfold mulC Ieee.Format.mul
        rw [hd, hd2, hx.2, hy.2]; simp [Ieee.Datum.product, Ieee.Format.write, d_inf, hn0]
      obtain ⟨k1, k2⟩ := pos_word (r := 9218868437227405312) (by omega)
      rw [key]
      exact ⟨k1, fun _ => k2, fun _ h => by omega⟩

theorem inf_ne : (9218868437227405312 : Nat) ≠ 0 := by decide

/-- A product doesn't shrink with its second factor. -/
theorem mul_mono_r {x y z : Nat} (hx : Pos x) (hy : Pos y) (hz : Pos z) (hx0 : rung x ≠ 0) (hy0 : rung y ≠ 0) (h : rung y ≤ rung z) : rung (mulC x y) ≤ rung (mulC x z) := by
  obtain ⟨p1, i1, f1⟩ := mul_pos hx hy hx0 hy0
  obtain ⟨p2, i2, f2⟩ := mul_pos hx hz hx0 (by omega)
  have b1 := not_nan p1.1
  by_cases hc : rung x = 9218868437227405312 ∨ rung z = 9218868437227405312
  · rw [i2 hc]; exact b1
  · have n1 := not_nan hx.1
    have n2 := not_nan hz.1
    obtain ⟨r, e1, R1⟩ := f1 (by omega) (by omega)
    obtain ⟨s, e2, R2⟩ := f2 (by omega) (by omega)
    have := R1.mono R2 (Nat.mul_le_mul_left _ (mg_mono h))
    omega

/-- A product with a factor from one on doesn't shrink. -/
theorem mul_grow {x y : Nat} (hx : Pos x) (hy : Pos y) (hx0 : rung x ≠ 0) (h : U ≤ mg (rung y)) : rung x ≤ rung (mulC x y) := by
  have hU := U_pos
  have hy0 : rung y ≠ 0 := by intro h0; rw [h0, mg_zero] at h; omega
  obtain ⟨p1, i1, f1⟩ := mul_pos hx hy hx0 hy0
  have b := not_nan hx.1
  by_cases hc : rung x = 9218868437227405312 ∨ rung y = 9218868437227405312
  · rw [i1 hc]; exact b
  · have n2 := not_nan hy.1
    obtain ⟨r, e1, R1⟩ := f1 (by omega) (by omega)
    have R0 := IsRound.exact KE (rung x)
    rw [← U_eq] at R0
    have := R0.mono R1 (Nat.mul_le_mul_left _ h)
    omega

/-- Powers of a number from one on. -/
theorem pow_pos {f : Nat} (hf : Pos f) (h : U ≤ mg (rung f)) (n : Nat) : Pos (powC f n) ∧ rung (powC f n) ≠ 0 ∧ rung (powC f n) ≤ rung (powC f (n + 1)) := by
  have hU := U_pos
  have hf0 : rung f ≠ 0 := by intro h0; rw [h0, mg_zero] at h; omega
  induction n with
  | zero =>
    have p : Pos (powC f 0) := ⟨(by decide : nanB ONE = false), (by decide : sgn ONE = false)⟩
    have z : rung (powC f 0) ≠ 0 := by show rung ONE ≠ 0; decide
    exact ⟨p, z, mul_grow p hf z h⟩
  | succ n ih =>
    have p := (mul_pos ih.1 hf ih.2.1 hf0).1
    have z : rung (powC f (n + 1)) ≠ 0 := by have := ih.2.1; have := ih.2.2; omega
    exact ⟨p, z, mul_grow p hf z h⟩

/-- A product with nought. -/
theorem mul_zero {b q : Nat} (h0 : rung b = 0) : (rung q < 9218868437227405312 → nanB (mulC b q) = false ∧ rung (mulC b q) = 0) ∧ (rung q = 9218868437227405312 → mulC b q = NAN) := by
  refine ⟨fun hq1 => ?_, fun hq1 => ?_⟩
  · obtain ⟨r, e, hR⟩ := mul_fin (x := b) (y := q) (by omega) hq1
    rw [h0, mg_zero, Nat.zero_mul] at hR
    have R0 := IsRound.exact KE 0
    rw [mg_zero, Nat.zero_mul] at R0
    obtain rfl := hR.unique R0
    have key : mulC b q = Ieee.double.word (sgn b ^^ sgn q) 0 := by unfold mulC; rw [e]; rfl
    obtain ⟨h1, h2⟩ := word_rung (s := sgn b ^^ sgn q) (r := 0) (by decide)
    rw [key]
    exact ⟨nanB_false (by omega), h1⟩
  · obtain ⟨m, p, hd, _, _, hm⟩ := read_fin (x := b) (by omega)
    have hm0 : m = 0 := by
      rw [h0, mg_zero] at hm
      have := Nat.two_pow_pos (p + 1074).toNat
      rcases Nat.mul_eq_zero.1 hm.symm with h | h
      · exact h
      · omega
    unfold mulC Ieee.Format.mul
    rw [hd, read_inf hq1, hm0]; simp [Ieee.Datum.product]

theorem tk_zero {x : Nat} (h : rung x = 0) : tk x = 0 := by
  refine tk_small ?_
  have hU := U_pos
  right
  unfold sv; rw [h, mg_zero]; split <;> omega

/-- DELAYS DON'T SHRINK. -/
theorem delay_step (b f c : Nat) (hb : nanB b = false) (hbs : sgn b = false ∨ rung b = 0) (hf : Pos f) (hf1 : U ≤ mg (rung f)) (n : Nat) :
    tk (leastZ c (mulC b (powC f n))) ≤ tk (leastZ c (mulC b (powC f (n + 1)))) := by
  obtain ⟨p1, z1, l1⟩ := pow_pos hf hf1 n
  obtain ⟨p2, z2, _⟩ := pow_pos hf hf1 (n + 1)
  have b1 := not_nan p1.1
  have b2 := not_nan p2.1
  by_cases h0 : rung b = 0
  · obtain ⟨m1, m2⟩ := mul_zero (q := powC f n) h0
    obtain ⟨m3, m4⟩ := mul_zero (q := powC f (n + 1)) h0
    rcases Nat.lt_or_eq_of_le b1 with hl | he
    · obtain ⟨hn, hr⟩ := m1 hl
      have h3 : tk (leastZ c (mulC b (powC f n))) ≤ tk (mulC b (powC f n)) := tk_mono hn (by rw [key_least]; omega)
      rw [tk_zero hr] at h3
      have := (tk_range (leastZ c (mulC b (powC f (n + 1))))).1
      omega
    · rw [m2 he, m4 (by omega)]; exact Int.le_refl _
  · have hbp : Pos b := ⟨hb, by rcases hbs with h | h; exact h; exact absurd h h0⟩
    have q1 := (mul_pos hbp p1 h0 z1).1
    have q2 := (mul_pos hbp p2 h0 z2).1
    refine least_mono q2.1 ?_
    rw [pos_key q1, pos_key q2]
    have := mul_mono_r hbp p1 p2 h0 z1 l1
    omega

theorem delay_up (b f c : Nat) (hb : nanB b = false) (hbs : 0 ≤ sv b) (hfn : nanB f = false) (hf1 : (U : Int) ≤ sv f) (k : Nat) : delayZ b f c k ≤ delayZ b f c (k + 1) := by
  have hU := U_pos
  have hfs : sgn f = false := by
    cases hs : sgn f
    · rfl
    · rw [sv_neg hs] at hf1; omega
  rw [sv_pos hfs] at hf1
  have hbs' : sgn b = false ∨ rung b = 0 := by
    cases hs : sgn b
    · exact .inl rfl
    · rw [sv_neg hs] at hbs; exact .inr (mg_eq_zero.1 (by omega))
  by_cases h0 : k = 0
  · have h1 : delayZ b f c k = 0 := by unfold delayZ; rw [if_pos (by omega)]
    have := (delay_range b f c (k + 1)).1
    omega
  · have e1 : delayZ b f c k = tk (leastZ c (mulC b (powC f (times (k - 1))))) := by unfold delayZ; rw [if_neg (by omega)]
    have e2 : delayZ b f c (k + 1) = tk (leastZ c (mulC b (powC f (times k)))) := by
      unfold delayZ; rw [if_neg (by omega), show (k : Int) + 1 - 1 = k by omega]
    rw [e1, e2]
    by_cases h6 : k ≤ 60
    · obtain ⟨j, rfl⟩ : ∃ j, k = j + 1 := ⟨k - 1, by omega⟩
      have t1 : times (((j + 1 : Nat) : Int) - 1) = j := by unfold times; omega
      have t2 : times ((j + 1 : Nat) : Int) = j + 1 := by unfold times; omega
      rw [t1, t2]
      exact delay_step b f c hb hbs' ⟨hfn, hfs⟩ (by omega) j
    · have t1 : times ((k : Int) - 1) = 60 := by unfold times; omega
      have t2 : times (k : Int) = 60 := by unfold times; omega
      rw [t1, t2]; exact Int.le_refl _

/-- A DELAY DOESN'T PASS A CAP from nought on. -/
theorem delay_cap (b f c : Nat) (k : Int) (hc : nanB c = false) (h0 : 0 ≤ sv c) : delayZ b f c k * (U : Int) ≤ sv c := by
  have hU := U_pos
  have h1 : delayZ b f c k ≤ tk c := by
    unfold delayZ
    split
    · exact (tk_range c).1
    · exact tk_mono hc (by rw [key_least]; omega)
  have h2 : tk c * (U : Int) ≤ sv c := by
    unfold tk
    rw [hc]
    simp only [Bool.false_eq_true, if_false]
    cases hs : sgn c
    · simp only [Bool.false_eq_true, if_false]
      rw [sv_pos hs]
      have h3 : fl c * U ≤ mg (rung c) := Nat.div_mul_le_self _ _
      have h4 : ((fl c : Int)) * (U : Int) ≤ (mg (rung c) : Int) := by exact_mod_cast h3
      split
      · rename_i h5
        have : (100000 : Int) * (U : Int) ≤ (fl c : Int) * (U : Int) := Int.mul_le_mul_of_nonneg_right (by omega) (by omega)
        omega
      · exact h4
    · simp only [if_true]; omega
  have h3 := Int.mul_le_mul_of_nonneg_right h1 (show (0 : Int) ≤ (U : Int) by omega)
  omega

end Go.Proofs.Ytmadogmahggpeaa
