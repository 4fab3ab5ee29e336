/-
  Plain facts on sets of bits in one 64-bit word (no Go program in sight): how many, which, the least one; counting by fields.
-/
import Derived.Lib.TrailingZeros
namespace Go.Proofs.YtfkmjepbckafdaaDoor
namespace Bt

/-- How many below n. -/
def cntP (n : Nat) (p : Nat → Bool) : Nat := ((List.range n).filter p).length
theorem cntP_zero (p : Nat → Bool) : cntP 0 p = 0 := rfl
theorem cntP_succ (n : Nat) (p : Nat → Bool) : cntP (n + 1) p = cntP n p + (p n).toNat := by
  unfold cntP
  rw [List.range_succ, List.filter_append, List.length_append]
  cases h : p n <;> simp [h]
theorem cntP_le (n : Nat) (p : Nat → Bool) : cntP n p ≤ n := by
  have := List.length_filter_le p (List.range n)
  unfold cntP; simpa using this
theorem cntP_congr {n : Nat} {p q : Nat → Bool} (h : ∀ i, i < n → p i = q i) : cntP n p = cntP n q := by
  induction n with
  | zero => rfl
  | succ n ih => rw [cntP_succ, cntP_succ, ih (fun i hi => h i (by omega)), h n (by omega)]
theorem cntP_none {n : Nat} {p : Nat → Bool} (h : ∀ i, i < n → p i = false) : cntP n p = 0 := by
  induction n with
  | zero => rfl
  | succ n ih => rw [cntP_succ, ih (fun i hi => h i (by omega)), h n (by omega)]; rfl
theorem cntP_more {n m : Nat} {p : Nat → Bool} (hnm : n ≤ m) (h : ∀ i, n ≤ i → i < m → p i = false) : cntP m p = cntP n p := by
  obtain ⟨d, rfl⟩ : ∃ d, m = n + d := ⟨m - n, by omega⟩
  clear hnm
  induction d with
  | zero => rfl
  | succ d ih => rw [← Nat.add_assoc, cntP_succ, ih (fun i h1 h2 => h i h1 (by omega)), h (n + d) (by omega) (by omega)]; rfl
/-- One more is in. -/
theorem cntP_add {n b : Nat} {p q : Nat → Bool} (hb : b < n) (h0 : p b = false) (h1 : q b = true) (h : ∀ i, i < n → i ≠ b → q i = p i) : cntP n q = cntP n p + 1 := by
  induction n with
  | zero => omega
  | succ n ih =>
    rw [cntP_succ, cntP_succ]
    by_cases hbn : b = n
    · subst hbn
      rw [cntP_congr (n := b) (p := q) (q := p) (fun i hi => h i (by omega) (by omega)), h0, h1]; rfl
    · rw [ih (by omega) (fun i hi hne => h i (by omega) hne), h n (by omega) (by omega)]; omega
/-- Those of two that share none, and the rest. -/
theorem cntP_split {n : Nat} {p q r : Nat → Bool} (h : ∀ i, i < n → (p i).toNat + (q i).toNat + (r i).toNat = 1) : cntP n p + cntP n q + cntP n r = n := by
  induction n with
  | zero => rfl
  | succ n ih =>
    have := ih (fun i hi => h i (by omega))
    have := h n (by omega)
    rw [cntP_succ, cntP_succ, cntP_succ]; omega
theorem cntP_pos {n : Nat} {p : Nat → Bool} (h : 0 < cntP n p) : ∃ i, i < n ∧ p i = true := by
  induction n with
  | zero => rw [cntP_zero] at h; omega
  | succ n ih =>
    rw [cntP_succ] at h
    cases hp : p n
    · rw [hp] at h
      obtain ⟨i, hi, hpi⟩ := ih h
      exact ⟨i, by omega, hpi⟩
    · exact ⟨n, by omega, hp⟩
theorem cntP_all {n : Nat} {p : Nat → Bool} (h : cntP n p = 0) : ∀ i, i < n → p i = false := by
  intro i hi
  cases hp : p i
  · rfl
  · exfalso
    induction n with
    | zero => omega
    | succ n ih =>
      rw [cntP_succ] at h
      by_cases hin : i = n
      · subst hin; rw [hp] at h; simp at h
      · exact ih (by omega) (by omega)

/-! ### The bits of a word -/
def cnt (x : Nat) : Nat := cntP 64 x.testBit
def full : Nat := 18446744073709551615

theorem testBit_high {x n i : Nat} (h : x < 2 ^ n) (hi : n ≤ i) : x.testBit i = false :=
  Nat.testBit_lt_two_pow (Nat.lt_of_lt_of_le h (Nat.pow_le_pow_right (by decide) hi))
theorem cnt_below {x n : Nat} (h : x < 2 ^ n) (hn : n ≤ 64) : cnt x = cntP n x.testBit := cntP_more hn (fun _ h1 _ => testBit_high h h1)

theorem or_bit (x b i : Nat) : (x ||| 2 ^ b).testBit i = (x.testBit i || decide (b = i)) := by
  rw [Nat.testBit_or, Nat.testBit_two_pow]
theorem or_lt {x b n : Nat} (h : x < 2 ^ n) (hb : b < n) : x ||| 2 ^ b < 2 ^ n := Nat.or_lt_two_pow h (Nat.pow_lt_pow_right (by decide) hb)

theorem full_bit (i : Nat) : full.testBit i = decide (i < 64) := by
  have : full = 2 ^ 64 - 1 := by decide
  rw [this, Nat.testBit_two_pow_sub_one]
theorem compl_bit {x : Nat} (h : x < 2 ^ 64) (i : Nat) : (full - x).testBit i = (decide (i < 64) && !x.testBit i) := by
  have : full - x = 2 ^ 64 - (x + 1) := by have : full = 2 ^ 64 - 1 := by decide
                                           omega
  rw [this, Nat.testBit_two_pow_sub_succ h]
theorem clear_bit {x b : Nat} (hb : b < 64) (hx : x < 2 ^ 64) (i : Nat) : (x &&& (full - 2 ^ b)).testBit i = (x.testBit i && !decide (b = i)) := by
  have h2 : 2 ^ b < 2 ^ 64 := Nat.pow_lt_pow_right (by decide) hb
  rw [Nat.testBit_and, compl_bit h2, Nat.testBit_two_pow]
  by_cases hi : i < 64
  · simp [hi]
  · rw [testBit_high hx (by omega)]; simp
theorem clear_lt {x y n : Nat} (h : x < 2 ^ n) : x &&& y < 2 ^ n := Nat.lt_of_le_of_lt Nat.and_le_left h

/-! ### The least bit -/
theorem ctz_spec {x : Nat} (h0 : x ≠ 0) (h : x < 2 ^ 64) : Lib.ctz 64 x < 64 ∧ x.testBit (Lib.ctz 64 x) = true ∧ ∀ i, i < Lib.ctz 64 x → x.testBit i = false := by
  obtain ⟨m, hm, hk⟩ := Lib.ctzFrom_spec 64 x (by omega) h
  have e : Lib.ctz 64 x = Lib.ctzFrom 64 x := by simp [Lib.ctz, h0]
  rw [e]
  generalize Lib.ctzFrom 64 x = k at *
  subst hm
  refine ⟨hk, ?_, fun i hi => ?_⟩
  · rw [Nat.testBit_two_pow_mul]; simp
  · rw [Nat.testBit_two_pow_mul]; simp; omega
theorem ctz_least {x b : Nat} (h : x < 2 ^ 64) (h1 : x.testBit b = true) (h2 : ∀ i, i < b → x.testBit i = false) : Lib.ctz 64 x = b := by
  have h0 : x ≠ 0 := by intro e; rw [e] at h1; simp at h1
  obtain ⟨a1, a2, a3⟩ := ctz_spec h0 h
  rcases Nat.lt_trichotomy (Lib.ctz 64 x) b with hl | he | hg
  · rw [h2 _ hl] at a2; cases a2
  · exact he
  · rw [a3 _ hg] at h1; cases h1

/-- The least bit struck. -/
theorem strike_bit {x : Nat} (h0 : x ≠ 0) (h : x < 2 ^ 64) (i : Nat) : (x &&& (x - 1)).testBit i = (x.testBit i && !decide (Lib.ctz 64 x = i)) := by
  obtain ⟨m, hm, hk⟩ := Lib.ctzFrom_spec 64 x (by omega) h
  have e : Lib.ctz 64 x = Lib.ctzFrom 64 x := by simp [Lib.ctz, h0]
  rw [e]
  generalize Lib.ctzFrom 64 x = k at *
  have hp := Nat.two_pow_pos k
  have e1 : x - 1 = 2 ^ k * (2 * m) + (2 ^ k - 1) := by rw [hm, Nat.mul_add, Nat.mul_one]; omega
  rw [Nat.testBit_and, e1, Nat.testBit_two_pow_mul_add _ (by omega), hm, Nat.testBit_two_pow_mul]
  by_cases hi : i < k
  · simp [hi]; omega
  · have hki : k ≤ i := by omega
    simp only [hi, if_false, hki, decide_true, Bool.true_and]
    by_cases he : i = k
    · subst he; simp
    · obtain ⟨j, hj⟩ : ∃ j, i - k = j + 1 := ⟨i - k - 1, by omega⟩
      rw [hj, Nat.testBit_succ, Nat.testBit_succ, show (2 * m + 1) / 2 = m by omega, show 2 * m / 2 = m by omega]
      have : ¬ k = i := by omega
      simp [this]
theorem strike_lt {x : Nat} (h0 : x ≠ 0) : x &&& (x - 1) < x := by
  have : x &&& (x - 1) ≤ x - 1 := Nat.and_le_right
  omega

/-- The bits of a word, rising. -/
def bitsL (x : Nat) : List Nat := (List.range 64).filter x.testBit
theorem bitsL_length (x : Nat) : (bitsL x).length = cnt x := rfl

theorem filter_first {p : Nat → Bool} {b : Nat} : ∀ (n : Nat), b < n → p b = true → (∀ i, i < b → p i = false) → (List.range n).filter p = b :: (List.range n).filter (fun i => p i && !decide (b = i))
  | 0, h, _, _ => by omega
  | n + 1, h, h1, h2 => by
    rw [List.range_succ, List.filter_append, List.filter_append]
    by_cases hb : b = n
    · subst hb
      have z1 : (List.range b).filter p = [] := by rw [List.filter_eq_nil_iff]; intro i hi; rw [h2 i (List.mem_range.1 hi)]; simp
      have z2 : (List.range b).filter (fun i => p i && !decide (b = i)) = [] := by rw [List.filter_eq_nil_iff]; intro i hi; rw [h2 i (List.mem_range.1 hi)]; simp
      rw [z1, z2]
      simp [h1]
    · rw [filter_first n (by omega) h1 h2]
      have : decide (b = n) = false := decide_eq_false hb
      simp [List.filter_cons, this]
theorem bitsL_step {x : Nat} (h0 : x ≠ 0) (h : x < 2 ^ 64) : bitsL x = Lib.ctz 64 x :: bitsL (x &&& (x - 1)) := by
  obtain ⟨a1, a2, a3⟩ := ctz_spec h0 h
  unfold bitsL
  rw [filter_first 64 a1 a2 a3]
  congr 1
  apply List.filter_congr
  intro i _
  rw [strike_bit h0 h]
theorem bitsL_zero : bitsL 0 = [] := by decide
theorem cnt_zero : cnt 0 = 0 := by decide

/-! ### Counting by fields -/
/-- 'k' bytes: each through 'f'. -/
def val (f : Nat → Nat) : Nat → Nat → Nat
  | 0, _ => 0
  | k + 1, x => f (x % 256) + 256 * val f k (x / 256)
def rep (m : Nat) : Nat → Nat
  | 0 => 0
  | k + 1 => m + 256 * rep m k
theorem and_split {a b m M : Nat} (ha : a < 256) (hm : m < 256) : (a + 256 * b) &&& (m + 256 * M) = (a &&& m) + 256 * (b &&& M) := by
  have e : (256 : Nat) = 2 ^ 8 := by decide
  have h1 : a &&& m < 256 := Nat.lt_of_le_of_lt Nat.and_le_left ha
  apply Nat.eq_of_testBit_eq
  intro i
  rw [Nat.add_comm a, Nat.add_comm m, Nat.add_comm (a &&& m), e, Nat.testBit_and, Nat.testBit_two_pow_mul_add _ (by omega), Nat.testBit_two_pow_mul_add _ (by omega), Nat.testBit_two_pow_mul_add _ (by omega)]
  by_cases hi : i < 8
  · simp [hi]
  · simp [hi]

theorem low1 : ∀ r, r < 256 → ∀ t, t < 2 → (r / 2 + 128 * t) &&& 85 = (r / 2) &&& 85 := by decide +kernel
theorem low2 : ∀ r, r < 256 → ∀ t, t < 4 → (r / 4 + 64 * t) &&& 51 = (r / 4) &&& 51 := by decide +kernel

def f1 (r : Nat) : Nat := ((r / 2) &&& 85) + (r &&& 85)
def f2 (r : Nat) : Nat := ((r / 4) &&& 51) + (r &&& 51)
theorem f1_lt : ∀ r, r < 256 → f1 r < 256 := by decide +kernel
theorem f2_lt : ∀ r, r < 256 → f2 r < 256 := by decide +kernel

theorem step1 : ∀ (k x : Nat), x < 256 ^ k → ((x / 2) &&& rep 85 k) + (x &&& rep 85 k) = val f1 k x
  | 0, x, h => by simp [rep, val]
  | k + 1, x, h => by
    have hx : x / 256 < 256 ^ k := by rw [Nat.pow_succ] at h; exact Nat.div_lt_of_lt_mul (by rw [Nat.mul_comm]; exact h)
    have ih := step1 k (x / 256) hx
    have e1 : x / 2 = (x % 256 / 2 + 128 * (x / 256 % 2)) + 256 * (x / 256 / 2) := by omega
    have e2 : x = x % 256 + 256 * (x / 256) := by omega
    have r1 : x % 256 < 256 := Nat.mod_lt _ (by decide)
    unfold rep val
    rw [e1, and_split (by omega) (by decide)]
    rw [show x &&& (85 + 256 * rep 85 k) = (x % 256 &&& 85) + 256 * (x / 256 &&& rep 85 k) by
      have := and_split (a := x % 256) (b := x / 256) (m := 85) (M := rep 85 k) r1 (by decide)
      rwa [← e2] at this]
    rw [low1 _ r1 _ (Nat.mod_lt _ (by decide)), ← ih]
    unfold f1
    omega
theorem step2 : ∀ (k x : Nat), x < 256 ^ k → ((x / 4) &&& rep 51 k) + (x &&& rep 51 k) = val f2 k x
  | 0, x, h => by simp [rep, val]
  | k + 1, x, h => by
    have hx : x / 256 < 256 ^ k := by rw [Nat.pow_succ] at h; exact Nat.div_lt_of_lt_mul (by rw [Nat.mul_comm]; exact h)
    have ih := step2 k (x / 256) hx
    have e1 : x / 4 = (x % 256 / 4 + 64 * (x / 256 % 4)) + 256 * (x / 256 / 4) := by omega
    have e2 : x = x % 256 + 256 * (x / 256) := by omega
    have r1 : x % 256 < 256 := Nat.mod_lt _ (by decide)
    unfold rep val
    rw [e1, and_split (by omega) (by decide)]
    rw [show x &&& (51 + 256 * rep 51 k) = (x % 256 &&& 51) + 256 * (x / 256 &&& rep 51 k) by
      have := and_split (a := x % 256) (b := x / 256) (m := 51) (M := rep 51 k) r1 (by decide)
      rwa [← e2] at this]
    rw [low2 _ r1 _ (Nat.mod_lt _ (by decide)), ← ih]
    unfold f2
    omega

theorem val_lt (f : Nat → Nat) (hf : ∀ r, r < 256 → f r < 256) : ∀ (k x : Nat), val f k x < 256 ^ k
  | 0, x => by simp [val]
  | k + 1, x => by
    have := val_lt f hf k (x / 256)
    have := hf (x % 256) (Nat.mod_lt _ (by decide))
    unfold val
    rw [Nat.pow_succ]; omega
theorem val_val (f g : Nat → Nat) (hf : ∀ r, r < 256 → f r < 256) : ∀ (k x : Nat), val g k (val f k x) = val (fun r => g (f r)) k x
  | 0, x => rfl
  | k + 1, x => by
    have h1 := hf (x % 256) (Nat.mod_lt _ (by decide))
    have ih := val_val f g hf k (x / 256)
    have e : val f (k + 1) x = f (x % 256) + 256 * val f k (x / 256) := rfl
    show g (val f (k + 1) x % 256) + 256 * val g k (val f (k + 1) x / 256) = g (f (x % 256)) + 256 * val (fun r => g (f r)) k (x / 256)
    rw [e, show (f (x % 256) + 256 * val f k (x / 256)) % 256 = f (x % 256) by omega, show (f (x % 256) + 256 * val f k (x / 256)) / 256 = val f k (x / 256) by omega, ih]

/-- How many bits of a byte. -/
def pop8 (r : Nat) : Nat := cntP 8 r.testBit
theorem nib3 : ∀ r, r < 256 → r / 16 ≤ 4 → r % 16 ≤ 4 → ∀ t, t ≤ 4 → (r / 16 + 16 * t + r) &&& 15 = r / 16 + r % 16 := by decide +kernel
theorem byte2 : ∀ r, r < 256 → f2 (f1 r) < 256 ∧ f2 (f1 r) / 16 ≤ 4 ∧ f2 (f1 r) % 16 ≤ 4 ∧ f2 (f1 r) / 16 + f2 (f1 r) % 16 = pop8 r ∧ pop8 r ≤ 8 := by decide +kernel

/-- Each byte's two halves are at most four. -/
def Nib : Nat → Nat → Prop
  | 0, _ => True
  | k + 1, y => y % 256 / 16 ≤ 4 ∧ y % 16 ≤ 4 ∧ Nib k (y / 256)
theorem nib_val (g : Nat → Nat) (hg : ∀ r, r < 256 → g r < 256 ∧ g r / 16 ≤ 4 ∧ g r % 16 ≤ 4) : ∀ (k x : Nat), Nib k (val g k x)
  | 0, _ => trivial
  | k + 1, x => by
    obtain ⟨a, b, c⟩ := hg (x % 256) (Nat.mod_lt _ (by decide))
    have ih := nib_val g hg k (x / 256)
    have e : val g (k + 1) x = g (x % 256) + 256 * val g k (x / 256) := rfl
    refine ⟨?_, ?_, ?_⟩
    · rw [e]; omega
    · rw [e]; omega
    · rw [e, show (g (x % 256) + 256 * val g k (x / 256)) / 256 = val g k (x / 256) by omega]; exact ih

theorem step3 : ∀ (k y : Nat), y < 256 ^ k → Nib k y → (y / 16 + y) &&& rep 15 k = val (fun r => r / 16 + r % 16) k y
  | 0, y, h, _ => by simp [rep, val]
  | k + 1, y, h, hn => by
    obtain ⟨n1, n2, n3⟩ := hn
    have hx : y / 256 < 256 ^ k := by rw [Nat.pow_succ] at h; exact Nat.div_lt_of_lt_mul (by rw [Nat.mul_comm]; exact h)
    have ih := step3 k (y / 256) hx n3
    have n4 : k = 0 ∨ y / 256 % 16 ≤ 4 := by
      cases k with
      | zero => exact .inl rfl
      | succ k => exact .inr n3.2.1
    have n5 : y / 256 % 16 ≤ 4 := by
      rcases n4 with rfl | n4
      · simp at hx; omega
      · exact n4
    have r1 : y % 256 < 256 := Nat.mod_lt _ (by decide)
    have e1 : y / 16 + y = (y % 256 / 16 + 16 * (y / 256 % 16) + y % 256) + 256 * (y / 256 / 16 + y / 256) := by omega
    unfold rep val
    rw [e1, and_split (by omega) (by decide), nib3 _ r1 n1 (by omega) _ n5, ih]

def popN : Nat → Nat → Nat
  | 0, _ => 0
  | k + 1, x => pop8 (x % 256) + popN k (x / 256)

theorem cntP_shift (a m : Nat) (p : Nat → Bool) : cntP (a + m) p = cntP a p + cntP m (fun i => p (a + i)) := by
  induction m with
  | zero => rfl
  | succ m ih => rw [← Nat.add_assoc, cntP_succ, cntP_succ, ih]; omega
theorem cnt_pop : ∀ (k x : Nat), cntP (8 * k) x.testBit = popN k x
  | 0, _ => rfl
  | k + 1, x => by
    have e : (256 : Nat) = 2 ^ 8 := by decide
    rw [Nat.mul_succ, Nat.add_comm, cntP_shift]
    have h1 : cntP 8 x.testBit = pop8 (x % 256) := by
      unfold pop8
      refine cntP_congr fun i hi => ?_
      rw [e, Nat.testBit_mod_two_pow]; simp [hi]
    have h2 : cntP (8 * k) (fun i => x.testBit (8 + i)) = cntP (8 * k) (x / 256).testBit := by
      refine cntP_congr fun i _ => ?_
      rw [e, Nat.testBit_div_two_pow, Nat.add_comm]
    rw [h1, h2, cnt_pop k (x / 256)]
    rfl

theorem pop8_le (r : Nat) : pop8 r ≤ 8 := cntP_le 8 _

theorem fold1 {a0 a1 a2 q1 q2 q3 z : Nat} (hz : z = a0 + 256 * q1) (h1 : q1 = a1 + 256 * q2) (h2 : q2 = a2 + 256 * q3) (b0 : a0 ≤ 8) (b1 : a1 ≤ 8) (b2 : a2 ≤ 8) :
    z + z / 256 = a0 + a1 + 256 * (q1 + q2) ∧ (z + z / 256) / 65536 = q2 + q3 := by
  have e : z / 256 = q1 := by omega
  rw [e]; omega
theorem fold2 {a0 a1 a2 a3 a4 a5 q1 q2 q3 q4 q5 q6 q7 z1 a6 : Nat} (hz : z1 = a0 + a1 + 256 * (q1 + q2)) (h1 : q1 = a1 + 256 * q2) (h2 : q2 = a2 + 256 * q3) (h3 : q3 = a3 + 256 * q4) (h4 : q4 = a4 + 256 * q5) (h5 : q5 = a5 + 256 * q6) (h6 : q6 = a6 + 256 * q7)
    (b0 : a0 ≤ 8) (b1 : a1 ≤ 8) (b2 : a2 ≤ 8) (b3 : a3 ≤ 8) (b4 : a4 ≤ 8) (b5 : a5 ≤ 8) (b6 : a6 ≤ 8) :
    z1 + (q2 + q3) = a0 + a1 + a2 + a3 + 256 * (q1 + q2 + q3 + q4) ∧ (z1 + (q2 + q3)) / 4294967296 = q4 + q5 + q6 + q7 := by
  have e1 : z1 + (q2 + q3) = a0 + a1 + a2 + a3 + 256 * (q1 + q2 + q3 + q4) := by omega
  have e2 : q1 + q2 + q3 + q4 = a1 + a2 + a3 + a4 + 256 * (q2 + q3 + q4 + q5) := by omega
  have e3 : q2 + q3 + q4 + q5 = a2 + a3 + a4 + a5 + 256 * (q3 + q4 + q5 + q6) := by omega
  have e4 : q3 + q4 + q5 + q6 = a3 + a4 + a5 + a6 + 256 * (q4 + q5 + q6 + q7) := by omega
  refine ⟨e1, ?_⟩
  rw [e1, e2, e3, e4]
  clear hz h1 h2 h3 h4 h5 h6 e1 e2 e3 e4
  generalize q4 + q5 + q6 + q7 = q at *
  omega

theorem sum_fold (x : Nat) : (let z := val pop8 8 x
    let z1 := z + z / 256
    let z2 := z1 + z1 / 65536
    let z3 := z2 + z2 / 4294967296
    z3 % 128 = popN 8 x ∧ z1 < 18446744073709551616 ∧ z2 < 18446744073709551616 ∧ z3 < 9223372036854775808) := by
  intro z z1 z2 z3
  have hz : z = val pop8 8 x := rfl
  simp only [val, popN] at hz ⊢
  have c0 := pop8_le (x % 256)
  have c1 := pop8_le (x / 256 % 256)
  have c2 := pop8_le (x / 256 / 256 % 256)
  have c3 := pop8_le (x / 256 / 256 / 256 % 256)
  have c4 := pop8_le (x / 256 / 256 / 256 / 256 % 256)
  have c5 := pop8_le (x / 256 / 256 / 256 / 256 / 256 % 256)
  have c6 := pop8_le (x / 256 / 256 / 256 / 256 / 256 / 256 % 256)
  have c7 := pop8_le (x / 256 / 256 / 256 / 256 / 256 / 256 / 256 % 256)
  generalize pop8 (x % 256) = a0 at *
  generalize pop8 (x / 256 % 256) = a1 at *
  generalize pop8 (x / 256 / 256 % 256) = a2 at *
  generalize pop8 (x / 256 / 256 / 256 % 256) = a3 at *
  generalize pop8 (x / 256 / 256 / 256 / 256 % 256) = a4 at *
  generalize pop8 (x / 256 / 256 / 256 / 256 / 256 % 256) = a5 at *
  generalize pop8 (x / 256 / 256 / 256 / 256 / 256 / 256 % 256) = a6 at *
  generalize pop8 (x / 256 / 256 / 256 / 256 / 256 / 256 / 256 % 256) = a7 at *
  obtain ⟨q7, h7⟩ : ∃ q, q = a7 + 256 * 0 := ⟨_, rfl⟩
  obtain ⟨q6, h6⟩ : ∃ q, q = a6 + 256 * q7 := ⟨_, rfl⟩
  obtain ⟨q5, h5⟩ : ∃ q, q = a5 + 256 * q6 := ⟨_, rfl⟩
  obtain ⟨q4, h4⟩ : ∃ q, q = a4 + 256 * q5 := ⟨_, rfl⟩
  obtain ⟨q3, h3⟩ : ∃ q, q = a3 + 256 * q4 := ⟨_, rfl⟩
  obtain ⟨q2, h2⟩ : ∃ q, q = a2 + 256 * q3 := ⟨_, rfl⟩
  obtain ⟨q1, h1⟩ : ∃ q, q = a1 + 256 * q2 := ⟨_, rfl⟩
  rw [← h7, ← h6, ← h5, ← h4, ← h3, ← h2, ← h1] at hz
  obtain ⟨r1, r2⟩ := fold1 hz h1 h2 c0 c1 c2
  have hz1 : z1 = a0 + a1 + 256 * (q1 + q2) := r1
  have hz1' : z1 / 65536 = q2 + q3 := r2
  obtain ⟨r3, r4⟩ := fold2 hz1 h1 h2 h3 h4 h5 h6 c0 c1 c2 c3 c4 c5 c6
  have hz2 : z2 = a0 + a1 + a2 + a3 + 256 * (q1 + q2 + q3 + q4) := by show z1 + z1 / 65536 = _; rw [hz1', r3]
  have hz2' : z2 / 4294967296 = q4 + q5 + q6 + q7 := by
    have : z2 = z1 + (q2 + q3) := by show z1 + z1 / 65536 = _; rw [hz1']
    rw [this]; exact r4
  have hz3 : z3 = z2 + (q4 + q5 + q6 + q7) := by show z2 + z2 / 4294967296 = _; rw [hz2']
  have d7 : q7 ≤ 8 := by omega
  have d6 : q6 ≤ 2056 := by omega
  have d5 : q5 ≤ 526344 := by omega
  have d4 : q4 ≤ 134744072 := by omega
  have d3 : q3 ≤ 34494482440 := by omega
  have d2 : q2 ≤ 8830587504648 := by omega
  have d1 : q1 ≤ 2260630401189896 := by omega
  have e : z3 = (a0 + a1 + a2 + a3 + a4 + a5 + a6 + a7) + 256 * (q1 + q2 + q3 + q4 + q5 + q6 + q7) := by omega
  refine ⟨?_, by omega, by omega, by omega⟩
  rw [e]
  clear hz h1 h2 h3 h4 h5 h6 h7 r1 r2 r3 r4 hz1 hz1' hz2 hz2' hz3 e
  omega

theorem val_le (f : Nat → Nat) (c : Nat) (hf : ∀ r, r < 256 → f r ≤ c) : ∀ (k x : Nat), 255 * val f k x + c ≤ c * 256 ^ k
  | 0, x => by simp [val]
  | k + 1, x => by
    have := val_le f c hf k (x / 256)
    have := hf (x % 256) (Nat.mod_lt _ (by decide))
    unfold val
    rw [Nat.pow_succ, ← Nat.mul_assoc]; omega

/-- COUNTING BY FIELDS, whole. -/
theorem ones {x : Nat} (h : x < 18446744073709551616) :
    let y1 := ((x / 2) &&& 6148914691236517205) + (x &&& 6148914691236517205)
    let y2 := ((y1 / 4) &&& 3689348814741910323) + (y1 &&& 3689348814741910323)
    let y3 := (y2 / 16 + y2) &&& 1085102592571150095
    y1 < 18446744073709551616 ∧ y2 < 18446744073709551616 ∧ y2 / 16 + y2 < 18446744073709551616 ∧ y3 = val pop8 8 x := by
  intro y1 y2 y3
  have m1 : (6148914691236517205 : Nat) = rep 85 8 := by decide
  have m2 : (3689348814741910323 : Nat) = rep 51 8 := by decide
  have m3 : (1085102592571150095 : Nat) = rep 15 8 := by decide
  have p8 : (256 : Nat) ^ 8 = 18446744073709551616 := by decide
  have e1 : y1 = val f1 8 x := by show _ + _ = _; rw [m1]; exact step1 8 x (by omega)
  have l1 := val_lt f1 f1_lt 8 x
  have e2 : y2 = val (fun r => f2 (f1 r)) 8 x := by
    show _ + _ = _
    rw [m2, step2 8 y1 (by rw [e1]; exact l1), e1, val_val f1 f2 f1_lt]
  have g : ∀ r, r < 256 → f2 (f1 r) < 256 ∧ f2 (f1 r) / 16 ≤ 4 ∧ f2 (f1 r) % 16 ≤ 4 := fun r hr => ⟨(byte2 r hr).1, (byte2 r hr).2.1, (byte2 r hr).2.2.1⟩
  have l2 := val_lt (fun r => f2 (f1 r)) (fun r hr => (g r hr).1) 8 x
  have hn := nib_val (fun r => f2 (f1 r)) g 8 x
  have e3 : y3 = val pop8 8 x := by
    show (y2 / 16 + y2) &&& _ = _
    rw [m3, step3 8 y2 (by rw [e2]; exact l2) (by rw [e2]; exact hn), e2, val_val (fun r => f2 (f1 r)) (fun r => r / 16 + r % 16) (fun r hr => (g r hr).1)]
    have : ∀ (k x : Nat), val (fun r => f2 (f1 r) / 16 + f2 (f1 r) % 16) k x = val pop8 k x := by
      intro k
      induction k with
      | zero => intro x; rfl
      | succ k ih => intro x; unfold val; rw [ih, (byte2 (x % 256) (Nat.mod_lt _ (by decide))).2.2.2.1]
    exact this 8 x
  have hy2 : y2 ≤ 4919131752989213764 := by
    have := val_le (fun r => f2 (f1 r)) 68 (fun r hr => by have := g r hr; omega) 8 x
    rw [← e2, p8] at this
    omega
  refine ⟨by rw [e1]; omega, by rw [e2]; omega, by omega, e3⟩

theorem ones_parts {x : Nat} (h : x < 18446744073709551616) : ∃ y1 y2 z z1 z2 z3 : Nat,
    y1 = ((x / 2) &&& 6148914691236517205) + (x &&& 6148914691236517205) ∧ y1 < 18446744073709551616 ∧
    y2 = ((y1 / 4) &&& 3689348814741910323) + (y1 &&& 3689348814741910323) ∧ y2 < 18446744073709551616 ∧ y2 / 16 + y2 < 18446744073709551616 ∧
    z = (y2 / 16 + y2) &&& 1085102592571150095 ∧ z1 = z + z / 256 ∧ z1 < 18446744073709551616 ∧ z2 = z1 + z1 / 65536 ∧ z2 < 18446744073709551616 ∧ z3 = z2 + z2 / 4294967296 ∧ z3 < 9223372036854775808 ∧ z3 % 128 = cnt x := by
  obtain ⟨b1, b2, b3, e3⟩ := ones h
  obtain ⟨c1, c2, c3, c4⟩ := sum_fold x
  rw [← e3] at c1 c2 c3 c4
  refine ⟨_, _, _, _, _, _, rfl, b1, rfl, b2, b3, rfl, rfl, c2, rfl, c3, rfl, c4, ?_⟩
  rw [c1]; exact (cnt_pop 8 x).symm

end Bt
end Go.Proofs.YtfkmjepbckafdaaDoor
