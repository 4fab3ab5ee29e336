/-
  Plain facts on 64-bit floating words: rounding. A rung r is the rounding of an exact value v (in units of 2^-L of the least number) if v lies between the midpoints below and above r, on a midpoint only where r is even.
-/
import Derived.Test.YtmadogmahggpeaaFlA
namespace Go.Proofs.Ytmadogmahggpeaa
namespace Fl
open Ieee

def IsRound (v L r : Nat) : Prop :=
  (2 * v < (mg r + mg (r + 1)) * 2 ^ L ∨ (2 * v = (mg r + mg (r + 1)) * 2 ^ L ∧ r % 2 = 0)) ∧
  (r = 0 ∨ (mg (r - 1) + mg r) * 2 ^ L < 2 * v ∨ ((mg (r - 1) + mg r) * 2 ^ L = 2 * v ∧ r % 2 = 0))

theorem IsRound.mono {v v' L r r' : Nat} (h : IsRound v L r) (h' : IsRound v' L r') (hv : v ≤ v') : r ≤ r' := by
  rcases Nat.lt_or_ge r' r with hlt | hge
  · exfalso
    obtain ⟨hu, _⟩ := h'
    obtain ⟨_, hl⟩ := h
    have h0 : r ≠ 0 := by omega
    have m1 : mg r' ≤ mg (r - 1) := mg_mono (by omega)
    have m2 : mg (r' + 1) ≤ mg r := mg_mono (by omega)
    have hk := Nat.mul_le_mul_right (2 ^ L) (show mg r' + mg (r' + 1) ≤ mg (r - 1) + mg r by omega)
    have hp : 0 < 2 ^ L := Nat.two_pow_pos L
    rcases hl with hl | hl | ⟨hl, ev⟩
    · exact h0 hl
    · rcases hu with hu | ⟨hu, _⟩ <;> omega
    · rcases hu with hu | ⟨hu, ev'⟩
      · omega
      · have heq : (mg r' + mg (r' + 1)) * 2 ^ L = (mg (r - 1) + mg r) * 2 ^ L := by omega
        have heq2 := Nat.eq_of_mul_eq_mul_right hp heq
        have e1 : mg r' = mg (r - 1) := by omega
        have := mg_inj e1
        omega
  · exact hge

theorem IsRound.unique {v L r r' : Nat} (h : IsRound v L r) (h' : IsRound v L r') : r = r' :=
  Nat.le_antisymm (h.mono h' (Nat.le_refl _)) (h'.mono h (Nat.le_refl _))

theorem IsRound.exact (L r : Nat) : IsRound (mg r * 2 ^ L) L r := by
  have hp : 0 < 2 ^ L := Nat.two_pow_pos L
  refine ⟨.inl ?_, ?_⟩
  · have := Nat.mul_lt_mul_of_pos_right (mg_lt_succ r) hp
    rw [Nat.add_mul]; omega
  · by_cases h0 : r = 0
    · exact .inl h0
    · have := Nat.mul_lt_mul_of_pos_right (mg_mono_lt (r := r - 1) (s := r) (by omega)) hp
      refine .inr (.inl ?_)
      rw [Nat.add_mul]; omega

theorem IsRound.scale {v L r : Nat} (h : IsRound v L r) (k : Nat) : IsRound (v * 2 ^ k) (L + k) r := by
  have hp : 0 < 2 ^ k := Nat.two_pow_pos k
  obtain ⟨hu, hl⟩ := h
  have e : ∀ a b : Nat, (a * 2 ^ (L + k) = b * 2 ^ k * 2 ↔ a * 2 ^ L = b * 2) := fun a b => by
    rw [Nat.pow_add, ← Nat.mul_assoc, Nat.mul_right_comm b]; exact ⟨Nat.eq_of_mul_eq_mul_right hp, fun h => by rw [h]⟩
  have l1 : ∀ a b : Nat, (b * 2 < a * 2 ^ L → b * 2 ^ k * 2 < a * 2 ^ (L + k)) := fun a b h => by
    rw [Nat.pow_add, ← Nat.mul_assoc, Nat.mul_right_comm b]; exact Nat.mul_lt_mul_of_pos_right h hp
  have l2 : ∀ a b : Nat, (a * 2 ^ L < b * 2 → a * 2 ^ (L + k) < b * 2 ^ k * 2) := fun a b h => by
    rw [Nat.pow_add, ← Nat.mul_assoc, Nat.mul_right_comm b]; exact Nat.mul_lt_mul_of_pos_right h hp
  simp only [Nat.mul_comm 2] at hu hl
  refine ⟨?_, ?_⟩
  · rw [Nat.mul_comm 2]
    rcases hu with h | ⟨h, ev⟩
    · exact .inl (l1 _ _ h)
    · exact .inr ⟨((e _ _).2 h.symm).symm, ev⟩
  · rw [Nat.mul_comm 2]
    rcases hl with h | h | ⟨h, ev⟩
    · exact .inl h
    · exact .inr (.inl (l2 _ _ h))
    · exact .inr (.inr ⟨(e _ _).2 h, ev⟩)

theorem cut_even_zero (s : Bool) (n : Nat) : Toward.even.cut s n 0 = n := by
  simp [Toward.cut, Nat.mod_one, Nat.div_one]

theorem toNat_decide (p : Prop) [Decidable p] : (decide p).toNat = if p then 1 else 0 := by by_cases h : p <;> simp [h]

/-- Half-even cutting: what is kept is nearest. -/
theorem cut_even_near (s : Bool) (m d : Nat) (hd : d ≤ m.log2 + 2) (hd0 : 0 < d) :
    let k := Toward.even.cut s m d
    (2 * m < (2 * k + 1) * 2 ^ d ∨ (2 * m = (2 * k + 1) * 2 ^ d ∧ k % 2 = 0)) ∧ (2 * k * 2 ^ d < 2 * m + 2 ^ d ∨ (2 * k * 2 ^ d = 2 * m + 2 ^ d ∧ k % 2 = 0)) ∧ m / 2 ^ d ≤ k ∧ k ≤ m / 2 ^ d + 1 := by
  intro k
  have hk : k = Toward.even.cut s m d := rfl
  unfold Toward.cut at hk
  rw [Nat.min_eq_left hd, Nat.shiftLeft_eq, Nat.one_mul] at hk
  simp only at hk
  obtain ⟨G, hG⟩ : ∃ G, 2 ^ d = 2 * G := ⟨2 ^ (d - 1), by rw [show d = d - 1 + 1 by omega, Nat.pow_succ, Nat.add_sub_cancel]; omega⟩
  have hGp : 0 < G := by have := Nat.two_pow_pos d; omega
  rw [hG] at hk ⊢
  have hdm := Nat.div_add_mod m (2 * G)
  have hlt := Nat.mod_lt m (show 0 < 2 * G by omega)
  generalize m / (2 * G) = low at *
  generalize m % (2 * G) = rest at *
  have hm : m = 2 * (low * G) + rest := by rw [← hdm, Nat.mul_assoc, Nat.mul_comm G]
  have ex : ∀ x : Nat, (2 * x + 1) * (2 * G) = 4 * (x * G) + 2 * G := fun x => by rw [Nat.add_mul, Nat.one_mul, Nat.mul_mul_mul_comm]
  have ex2 : ∀ x : Nat, 2 * x * (2 * G) = 4 * (x * G) := fun x => by rw [Nat.mul_mul_mul_comm]
  rw [ex, ex2]
  by_cases c : 2 * G < 2 * rest ∨ (2 * G = 2 * rest ∧ low % 2 = 1)
  · have hk1 : k = low + 1 := by
      rw [hk]; congr 1
      have : (decide (2 * G < 2 * rest) || (2 * G == 2 * rest && low % 2 == 1)) = true := by simpa using c
      rw [this]; rfl
    have e3 : k * G = low * G + G := by rw [hk1, Nat.add_mul, Nat.one_mul]
    rw [e3]
    omega
  · have hk1 : k = low := by
      rw [hk]
      have : (decide (2 * G < 2 * rest) || (2 * G == 2 * rest && low % 2 == 1)) = false := by
        rw [Bool.eq_false_iff]; intro h; exact c (by simpa using h)
      rw [this]; rfl
    rw [hk1]
    omega

theorem log2_bounds {m : Nat} (h : m ≠ 0) : 2 ^ m.log2 ≤ m ∧ m < 2 ^ (m.log2 + 1) := ⟨Nat.log2_self_le h, Nat.lt_log2_self⟩

theorem word_val (s : Bool) (r : Nat) : double.word s r = if s then 9223372036854775808 + r else r := by
  unfold Format.word; rw [d_sw]

/-- THE NEAREST WORD IS THE ROUNDING, held below infinity. -/
theorem nearest_round (s : Bool) (m : Nat) (p : Int) : ∃ r, double.nearest s m p = double.word s (min r 9218868437227405312) ∧ ∀ L : Nat, 0 ≤ p + 1074 + L → IsRound (m * 2 ^ (p + 1074 + L).toNat) L r := by
  by_cases hm : m = 0
  · subst hm
    refine ⟨0, by simp [Format.nearest], fun L _ => ?_⟩
    have := IsRound.exact L 0
    simpa [mg_zero] using this
  obtain ⟨lo, hi⟩ := log2_bounds hm
  unfold Format.nearest
  rw [if_neg hm]
  simp only [d_lp, d_bin, d_inf, d_fb]
  generalize hl : m.log2 = l at *
  generalize hlast : max (p + (l : Int) - (52 : Nat)) (-1074) = last
  have hE : (last - -1074).toNat = (last + 1074).toNat := by omega
  rw [hE]
  generalize hEE : (last + 1074).toNat = E
  have hlE : last = (E : Int) - 1074 := by omega
  by_cases hpl : last ≤ p
  · rw [show (last - p).toNat = 0 by omega, cut_even_zero, Nat.shiftLeft_eq]
    obtain ⟨u, hu⟩ : ∃ u : Nat, p - last = u := ⟨(p - last).toNat, by omega⟩
    rw [show (p - last).toNat = u by omega]
    have h1 : m * 2 ^ u < 9007199254740992 := by
      have : m * 2 ^ u < 2 ^ (l + 1) * 2 ^ u := Nat.mul_lt_mul_of_pos_right hi (Nat.two_pow_pos _)
      rw [← Nat.pow_add] at this
      have h2 : 2 ^ (l + 1 + u) ≤ 2 ^ 53 := Nat.pow_le_pow_right (by decide) (by omega)
      have : (2 : Nat) ^ 53 = 9007199254740992 := by decide
      omega
    have h2 : E = 0 ∨ 4503599627370496 ≤ m * 2 ^ u := by
      by_cases h0 : E = 0
      · exact .inl h0
      · right
        have h3 : 2 ^ l * 2 ^ u ≤ m * 2 ^ u := Nat.mul_le_mul_right _ lo
        rw [← Nat.pow_add, show l + u = 52 by omega] at h3
        have : (2 : Nat) ^ 52 = 4503599627370496 := by decide
        omega
    refine ⟨_, rfl, fun L hL => ?_⟩
    have h3 := mg_at (by omega) h2
    have h4 := IsRound.exact L (E * 4503599627370496 + m * 2 ^ u)
    rw [h3] at h4
    rw [show (p + 1074 + (L : Int)).toNat = u + E + L by omega]
    rwa [Nat.pow_add, Nat.pow_add, ← Nat.mul_assoc, ← Nat.mul_assoc]
  · rw [show (p - last).toNat = 0 by omega, Nat.shiftLeft_zero]
    obtain ⟨d, hd⟩ : ∃ d : Nat, last - p = d := ⟨(last - p).toNat, by omega⟩
    rw [show (last - p).toNat = d by omega]
    have hd0 : 0 < d := by omega
    refine ⟨_, rfl, fun L hL => ?_⟩
    obtain ⟨e, he⟩ : ∃ e : Nat, p + 1074 + (L : Int) = e := ⟨(p + 1074 + (L : Int)).toNat, by omega⟩
    rw [show (p + 1074 + (L : Int)).toNat = e by omega]
    have hEL : E + L = d + e := by omega
    by_cases hdl : d ≤ l + 2
    · obtain ⟨c1, c2, c3, c4⟩ := cut_even_near s m d (by omega) hd0
      have low_lt : m / 2 ^ d < 9007199254740992 := by
        rw [Nat.div_lt_iff_lt_mul (Nat.two_pow_pos _)]
        have h2 : 2 ^ (l + 1) ≤ 2 ^ (53 + d) := Nat.pow_le_pow_right (by decide) (by omega)
        rw [Nat.pow_add 2 53 d, show (2 : Nat) ^ 53 = 9007199254740992 by decide] at h2
        omega
      have low_ge : E = 0 ∨ 4503599627370496 ≤ m / 2 ^ d := by
        by_cases h0 : E = 0
        · exact .inl h0
        · right
          rw [Nat.le_div_iff_mul_le (Nat.two_pow_pos _)]
          have h2 : 2 ^ (52 + d) ≤ 2 ^ l := Nat.pow_le_pow_right (by decide) (by omega)
          rw [Nat.pow_add 2 52 d, show (2 : Nat) ^ 52 = 4503599627370496 by decide] at h2
          omega
      generalize hk : Toward.even.cut s m d = k at *
      have hmg := mg_at (E := E) (k := k) (by omega) (by omega)
      have hsplit : ∀ a : Nat, a * 2 ^ E * 2 ^ L = a * 2 ^ d * 2 ^ e := fun a => by rw [Nat.mul_assoc, Nat.mul_assoc, ← Nat.pow_add, ← Nat.pow_add, hEL]
      have hep : 0 < 2 ^ e := Nat.two_pow_pos e
      have hpar : (E * 4503599627370496 + k) % 2 = k % 2 := by omega
      refine ⟨?_, ?_⟩
      · have hup : (k + 1) * 2 ^ E ≤ mg (E * 4503599627370496 + k + 1) := by
          by_cases hk9 : k = 9007199254740992
          · have := mg_at (E := E + 1) (k := 4503599627370496 + 1) (by omega) (by omega)
            rw [show (E + 1) * 4503599627370496 + (4503599627370496 + 1) = E * 4503599627370496 + k + 1 by omega] at this
            rw [this, hk9, Nat.pow_succ, Nat.mul_comm (2 ^ E) 2, ← Nat.mul_assoc]
            exact Nat.mul_le_mul_right _ (by omega)
          · have := mg_at (E := E) (k := k + 1) (by omega) (by omega)
            rw [show E * 4503599627370496 + (k + 1) = E * 4503599627370496 + k + 1 by omega] at this
            rw [this]; exact Nat.le_refl _
        have hX : (2 * k + 1) * 2 ^ d * 2 ^ e ≤ (mg (E * 4503599627370496 + k) + mg (E * 4503599627370496 + k + 1)) * 2 ^ L := by
          rw [← hsplit]
          refine Nat.mul_le_mul_right _ ?_
          rw [hmg, show 2 * k + 1 = k + (k + 1) by omega, Nat.add_mul]
          omega
        rcases c1 with c1 | ⟨c1, ev⟩
        · left
          have := Nat.mul_lt_mul_of_pos_right c1 hep
          rw [Nat.mul_assoc] at this
          omega
        · have h5 : 2 * (m * 2 ^ e) = (2 * k + 1) * 2 ^ d * 2 ^ e := by rw [← c1, Nat.mul_assoc]
          rw [hpar]
          omega
      · by_cases hr0 : E * 4503599627370496 + k = 0
        · exact .inl hr0
        right
        by_cases hkb : k = 4503599627370496 ∧ 0 < E
        · left
          obtain ⟨hk5, hE0⟩ := hkb
          have hlow : m / 2 ^ d = k := by omega
          have h6 : k * 2 ^ d ≤ m := by rw [← hlow]; exact Nat.div_mul_le_self m _
          have h7 := Nat.mul_le_mul_right (2 ^ e) h6
          have h8 : mg (E * 4503599627370496 + k) * 2 ^ L ≤ m * 2 ^ e := by rw [hmg, hsplit]; exact h7
          have h9 := Nat.mul_lt_mul_of_pos_right (mg_mono_lt (r := E * 4503599627370496 + k - 1) (s := E * 4503599627370496 + k) (by omega)) (Nat.two_pow_pos L)
          rw [Nat.add_mul]; omega
        · have hk1 : 1 ≤ k := by omega
          have := mg_at (E := E) (k := k - 1) (by omega) (by omega)
          rw [show E * 4503599627370496 + (k - 1) = E * 4503599627370496 + k - 1 by omega] at this
          have hX : (mg (E * 4503599627370496 + k - 1) + mg (E * 4503599627370496 + k)) * 2 ^ L = (2 * k - 1) * 2 ^ d * 2 ^ e := by
            rw [← hsplit, this, hmg, ← Nat.add_mul, show k - 1 + k = 2 * k - 1 by omega]
          have hY : (2 * k - 1) * 2 ^ d + 2 ^ d = 2 * k * 2 ^ d := by
            rw [← Nat.succ_mul, show (2 * k - 1).succ = 2 * k by omega]
          rw [hX, hpar]
          rcases c2 with c2 | ⟨c2, ev⟩
          · left
            have := Nat.mul_lt_mul_of_pos_right (show (2 * k - 1) * 2 ^ d < 2 * m by omega) hep
            rw [Nat.mul_assoc 2] at this
            exact this
          · right
            refine ⟨?_, ev⟩
            rw [← Nat.mul_assoc 2, show 2 * m = (2 * k - 1) * 2 ^ d by omega]
    · have hE0 : E = 0 := by omega
      have hcut : Toward.even.cut s m d = 0 := by
        unfold Toward.cut
        rw [hl, Nat.min_eq_right (by omega), Nat.shiftLeft_eq, Nat.one_mul]
        have h10 : 2 ^ (l + 2) = 2 * 2 ^ (l + 1) := by rw [Nat.pow_succ _ (l + 1), Nat.mul_comm]
        have h11 : m < 2 ^ (l + 2) := by omega
        simp only [Nat.div_eq_of_lt h11, Nat.mod_eq_of_lt h11]
        have h12 : ¬ (2 ^ (l + 2) < 2 * m) := by omega
        simp [h12]
      rw [hcut, hE0]
      refine ⟨.inl ?_, .inl rfl⟩
      simp only [Nat.zero_mul, Nat.zero_add, mg_zero]
      have h1 : mg 1 = 1 := mg_low (by decide)
      rw [h1, Nat.one_mul]
      have h14 : 2 ^ (l + 2 + e) ≤ 2 ^ L := Nat.pow_le_pow_right (by decide) (by omega)
      rw [Nat.pow_add] at h14
      have h10 : 2 ^ (l + 2) = 2 * 2 ^ (l + 1) := by rw [Nat.pow_succ _ (l + 1), Nat.mul_comm]
      have h15 := Nat.mul_lt_mul_of_pos_right (show 2 * m < 2 ^ (l + 2) by omega) (Nat.two_pow_pos e)
      rw [Nat.mul_assoc] at h15
      omega

end Fl
end Go.Proofs.Ytmadogmahggpeaa
