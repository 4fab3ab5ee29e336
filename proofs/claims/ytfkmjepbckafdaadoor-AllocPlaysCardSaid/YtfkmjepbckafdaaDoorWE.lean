/-
  Take, Give, Settle, Reserve, Release.
-/
import Derived.Test.YtfkmjepbckafdaaDoorWD
namespace Go.Proofs.YtfkmjepbckafdaaDoor
open Go.RowKit

/-- The blocks of an allocator. -/
def Loc.own (a : Loc) (k : Nat) : Prop := k = a.p ∨ k = a.u ∨ k = a.l

/-- The free places, as a word; the least. -/
def St.hole (s : St) : Nat := Bt.full - (s.U ||| s.L)
def St.least (s : St) : Nat := Lib.ctz 64 s.hole
def St.takeS (s : St) : St := if s.free = 0 then s else { s with U := s.U ||| 2 ^ s.least }
def St.takeB (s : St) : Nat := if s.free = 0 then 0 else s.least
def St.takeE (s : St) : Int := if s.free = 0 then 5 else 0

theorem or_any (x y i : Nat) : (x ||| y).testBit i = (x.testBit i || y.testBit i) := Nat.testBit_or ..

theorem hole_bit {s : St} (h : Ok s) (i : Nat) : s.hole.testBit i = (decide (i < 64) && !(s.U.testBit i || s.L.testBit i)) := by
  unfold St.hole
  rw [Bt.compl_bit (Nat.or_lt_two_pow (pow_le64 h.U h.n64) (pow_le64 h.L h.n64)), Nat.testBit_or]

theorem hole_some {s : St} (h : Ok s) (hf : s.free ≠ 0) : ∃ i, i < s.n ∧ s.U.testBit i = false ∧ s.L.testBit i = false := by
  have e := Bt.cntP_split (n := s.n) (p := s.U.testBit) (q := s.L.testBit) (r := fun i => !(s.U.testBit i || s.L.testBit i)) (fun i _ => by
    have := h.UL i
    cases hu : s.U.testBit i <;> cases hl : s.L.testBit i <;> simp_all)
  rw [← Bt.cnt_below h.U h.n64, ← Bt.cnt_below h.L h.n64] at e
  obtain ⟨i, hi, hp⟩ := Bt.cntP_pos (n := s.n) (p := fun i => !(s.U.testBit i || s.L.testBit i)) (by unfold St.free at hf; omega)
  refine ⟨i, hi, ?_⟩
  simpa using hp

theorem hole_lt (s : St) : s.hole < 18446744073709551616 := by unfold St.hole Bt.full; omega
theorem hole_ne {s : St} (h : Ok s) (hf : s.free ≠ 0) : s.hole ≠ 0 := by
  obtain ⟨i, hi, hu, hl⟩ := hole_some h hf
  intro e
  have := hole_bit h i
  rw [e, hu, hl] at this
  have := h.n64
  simp at *
  omega
theorem least_spec {s : St} (h : Ok s) (hf : s.free ≠ 0) : s.least < s.n ∧ s.U.testBit s.least = false ∧ s.L.testBit s.least = false ∧ ∀ i, i < s.least → s.U.testBit i = true ∨ s.L.testBit i = true := by
  obtain ⟨i, hi, hu, hl⟩ := hole_some h hf
  obtain ⟨h1, h2, h3⟩ := Bt.ctz_spec (hole_ne h hf) (hole_lt s)
  have hb : ∀ i, i < 64 → s.hole.testBit i = !(s.U.testBit i || s.L.testBit i) := fun i hi => by rw [hole_bit h i]; simp [hi]
  have e2 := hb s.least h1
  rw [show s.hole.testBit s.least = true from h2] at e2
  have hle : s.least ≤ i := by
    rcases Nat.lt_or_ge i s.least with hlt | hge
    · have := h3 i hlt
      rw [hb i (by have := h.n64; omega), hu, hl] at this
      cases this
    · exact hge
  refine ⟨by omega, ?_⟩
  simp at e2
  refine ⟨e2.1, e2.2, fun j hj => ?_⟩
  have := h3 j hj
  rw [hb j (Nat.lt_trans hj h1)] at this
  cases hu : s.U.testBit j <;> simp_all

theorem Ok.take {s : St} (h : Ok s) : Ok s.takeS := by
  unfold St.takeS
  split
  · exact h
  · rename_i hf
    obtain ⟨h1, h2, h3, -⟩ := least_spec h hf
    refine ⟨h.n1, h.n64, Bt.or_lt h.U h1, h.L, fun i => ?_, ?_⟩
    · simp only [Bt.or_bit]
      have := h.UL i
      by_cases e : s.least = i
      · subst e; simp [h3]
      · simpa [e] using this
    · simp only
      have e1 : Bt.cnt (s.U ||| 2 ^ s.least) = Bt.cnt s.U + 1 := Bt.cntP_add (by have := h.n64; omega) h2 (by simp) (fun i _ hi => by simp [Ne.symm hi])
      unfold St.free at hf
      omega

/-- The free places, as the code reckons them. -/
theorem compl_xor (x : Nat) (h : x < 18446744073709551616) : 18446744073709551615 ^^^ x = 18446744073709551615 - x := by
  apply Nat.eq_of_testBit_eq
  intro i
  have e1 := Bt.full_bit i
  have e2 := Bt.compl_bit (x := x) (by exact h) i
  unfold Bt.full at e1 e2
  rw [Nat.testBit_xor, e1, e2]
  by_cases hi : i < 64
  · simp [hi]
  · rw [Bt.testBit_high (n := 64) h (by omega)]; simp [hi]

theorem hole_text (s : St) (hU : s.U < 18446744073709551616) (hL : s.L < 18446744073709551616) :
    bits BinOp.xor IntKind.u64 (if IntKind.u64.signed = true then -1 else IntKind.u64.max) (bits BinOp.or IntKind.u64 (s.U : Int) (s.L : Int)) = (s.hole : Int) := by
  have h64 : s.U ||| s.L < 18446744073709551616 := Nat.or_lt_two_pow (n := 64) hU hL
  rw [u64_or_nat _ _ hU hL, if_neg (by decide), show IntKind.u64.max = ((18446744073709551615 : Nat) : Int) by decide, u64_xor_nat _ _ (by decide) h64, compl_xor _ h64]
  rfl

theorem Touch.same {S : Nat → Prop} (w : World) (k : Nat) : Touch S w (w.drewN k) := (Touch.refl S w).drewN k

set_option maxHeartbeats 400000 in
theorem take_any (a : Loc) (s : St) (w : World) (hT : Tab w) (hs : Ok s) (h : At a s w) :
    Calls Tryd.prog 11 #[.pointer (some ⟨a.p, 0, none⟩)] w fun e w' => e = .returned (.tuple #[.int .i64 s.takeB, .int .i64 s.takeE]) ∧ At a s.takeS w' ∧ Touch a.own w w' := by
  have Hs := Lib.hid hs
  have H := Lib.hid h
  have HT := Lib.hid hT
  obtain ⟨c0, c1, c2, c3, cU, cL, f3, fU, fL, pu, pl, ul⟩ := h
  have hU' := pow_le64 hs.U hs.n64
  have hL' := pow_le64 hs.L hs.n64
  clear hT hs
  by_cases hf : s.free = 0
  · go_enter Tryd.func11, Tryd.ntmps11
    go_wp2_with fail
    refine (free_any a s _ Hs.out H.out).mono ?_
    rintro e w1 ⟨rfl, k, rfl⟩
    rw [hf]
    go_wp2_with fail
    go_ret2
    refine ⟨by simp [St.takeB, St.takeE, hf], ?_, Touch.same _ _⟩
    simp only [St.takeS, hf, if_true]
    exact H.out.drewN _
  · have hpos : (0 : Int) < s.free := by omega
    have E := hole_text s hU' hL'
    have hn := hole_ne Hs.out hf
    have hl := hole_lt s
    have hb : ((s.hole : Int) != 0) = true := by simp; omega
    have hr : (s.takeB, s.takeE, s.takeS) = (Lib.ctz 64 s.hole, 0, { s with U := s.U ||| 2 ^ Lib.ctz 64 s.hole }) := by simp [St.takeB, St.takeE, St.takeS, hf, St.least]
    have Hr := Lib.hid hr
    have Hc := Bt.ctz_spec hn hl
    have hc1 : Lib.ctz 64 s.hole < 64 := Hc.1
    clear hr Hc
    go_enter Tryd.func11, Tryd.ntmps11
    go_wp2_with fail
    refine (free_any a s _ Hs.out H.out).mono ?_
    rintro e w1 ⟨rfl, k, rfl⟩
    go_wp2_with fail
    go_loopw [19] (fun i wr => i = .int .i64 0 ∧ ∃ k, wr = w.drewN k) (fun _ _ => 0)
    case atStart => exact ⟨rfl, _, rfl⟩
    case round =>
      obtain ⟨rfl, k2, rfl⟩ := hrel
      go_wp2
      go_quiet (fail)
      go_wp2_with fail
      refine (tz_any s.hole _ hl hn ?_).mono ?_
      · exact fun j hj => by rw [World.cell?_drewN]; exact HT.out j hj
      rintro e w1 ⟨rfl, rfl⟩
      go_wp2_with fail
      refine (add_any s.U (Lib.ctz 64 s.hole) a.u a.cu _ hc1 hU' ?_ ?_).mono ?_
      · rw [World.cell?_drewN]; exact cU
      · rw [World.frozen?_drewN]; exact fU
      rintro e w1 ⟨rfl, rfl⟩
      go_wp2_with fail
      go_ret2
      have Hr := Hr.out
      simp only [Prod.mk.injEq] at Hr
      obtain ⟨r1, r2, r3⟩ := Hr
      rw [r1, r2, r3]
      exact ⟨rfl, ((H.out.drewN _).setU _).drew, ((Touch.same w _).setCell _ _ (fun _ => .inr (.inl rfl))).drew⟩

/-- Give. -/
def St.giveE (s : St) (b : Int) : Int := if b < 0 ∨ (s.n : Int) ≤ b then 1 else if s.U.testBit b.toNat then 0 else 7
def St.giveS (s : St) (b : Int) : St := if s.giveE b = 0 then { s with U := s.U &&& (Bt.full - 2 ^ b.toNat), L := s.L ||| 2 ^ b.toNat } else s

theorem Ok.give {s : St} (h : Ok s) (b : Int) : Ok (s.giveS b) := by
  unfold St.giveS
  split
  · rename_i he
    unfold St.giveE at he
    split at he
    · simp at he
    · rename_i hb
      split at he
      · rename_i hU
        have hlt : b.toNat < s.n := by omega
        have h64 : b.toNat < 64 := by have := h.n64; omega
        have hx := pow_le64 h.U h.n64
        have hL0 : s.L.testBit b.toNat = false := by
          have := h.UL b.toNat
          simpa [hU] using this
        refine ⟨h.n1, h.n64, Bt.clear_lt h.U, Bt.or_lt h.L hlt, fun i => ?_, ?_⟩
        · simp only [Bt.or_bit, Bt.clear_bit h64 hx]
          have := h.UL i
          by_cases e : b.toNat = i
          · simp [e]
          · simpa [e] using this
        · simp only
          have e1 : Bt.cnt (s.L ||| 2 ^ b.toNat) = Bt.cnt s.L + 1 := Bt.cntP_add h64 hL0 (by simp) (fun i _ hi => by simp [Ne.symm hi])
          have e2 : Bt.cnt s.U = Bt.cnt (s.U &&& (Bt.full - 2 ^ b.toNat)) + 1 := Bt.cntP_add h64 (by simp [Bt.clear_bit h64 hx]) hU (fun i _ hi => by simp [Bt.clear_bit h64 hx, Ne.symm hi])
          have := h.b
          omega
      · simp at he
  · exact h

set_option maxHeartbeats 400000 in
theorem give_any (a : Loc) (s : St) (b : Int) (w : World) (hs : Ok s) (h : At a s w) :
    Calls Tryd.prog 12 #[.pointer (some ⟨a.p, 0, none⟩), .int .i64 b] w fun e w' => e = .returned (.int .i64 (s.giveE b)) ∧ At a (s.giveS b) w' ∧ Touch a.own w w' := by
  have Hs := Lib.hid hs
  have H := Lib.hid h
  obtain ⟨c0, c1, c2, c3, cU, cL, f3, fU, fL, pu, pl, ul⟩ := h
  have hU' := pow_le64 hs.U hs.n64
  have hL' := pow_le64 hs.L hs.n64
  have hn64 := hs.n64
  clear hs
  by_cases h1 : b < 0
  · have E1 : Hid (s.giveE b = 1) := Lib.hid (by simp [St.giveE, h1])
    go_enter Tryd.func12, Tryd.ntmps12
    go_wp2_with fail
    go_ret
    refine ⟨ret_int E1.out.symm, ?_, Touch.refl _ _⟩
    simp only [St.giveS, E1.out]; exact H.out
  · by_cases h2 : (s.n : Int) ≤ b
    · have E1 : Hid (s.giveE b = 1) := Lib.hid (by simp [St.giveE, h2])
      go_enter Tryd.func12, Tryd.ntmps12
      go_wp2_with fail
      go_ret
      refine ⟨ret_int E1.out.symm, ?_, Touch.refl _ _⟩
      simp only [St.giveS, E1.out]; exact H.out
    · obtain ⟨m, rfl⟩ : ∃ m : Nat, b = m := ⟨b.toNat, by omega⟩
      have hm : m < s.n := by omega
      cases hU : s.U.testBit m with
      | false =>
        have e1 : s.giveE m = 7 := by simp only [St.giveE, Int.toNat_natCast, hU]; rw [if_neg (by omega)]; rfl
        have E1 := Lib.hid e1
        clear e1
        go_enter Tryd.func12, Tryd.ntmps12
        go_wp2_with fail
        refine (has_any s.U m a.u a.cu _ (by omega) hU' cU).mono ?_
        rintro e w1 ⟨rfl, rfl⟩
        rw [hU]
        go_wp2_with fail
        go_ret
        refine ⟨ret_int E1.out.symm, ?_, Touch.refl _ _⟩
        simp only [St.giveS, E1.out]; exact H.out
      | true =>
        have e1 : s.giveE m = 0 := by simp only [St.giveE, Int.toNat_natCast, hU]; rw [if_neg (by omega)]; rfl
        have E1 := Lib.hid e1
        clear e1
        go_enter Tryd.func12, Tryd.ntmps12
        go_wp2_with fail
        refine (has_any s.U m a.u a.cu _ (by omega) hU' cU).mono ?_
        rintro e w1 ⟨rfl, rfl⟩
        rw [hU]
        go_wp2_with fail
        refine (drop_any s.U m a.u a.cu _ (by omega) hU' cU fU).mono ?_
        rintro e w1 ⟨rfl, rfl⟩
        have A1 := (H.out.setU (s.U &&& (Bt.full - 2 ^ m))).drew
        have HA1 := Lib.hid A1
        obtain ⟨d0, d1, d2, d3, dU, dL, g3, gU, gL, -, -, -⟩ := A1
        go_wp2_with fail
        refine (add_any s.L m a.l a.cl _ (by omega) hL' ?_ ?_).mono ?_
        · exact dL
        · exact gL
        rintro e w1 ⟨rfl, rfl⟩
        go_wp2_with fail
        go_ret
        refine ⟨ret_int E1.out.symm, ?_, (((Touch.refl _ w).setCell _ _ (fun _ => .inr (.inl rfl))).drew.setCell _ _ (fun _ => .inr (.inr rfl))).drew⟩
        simp only [St.giveS, E1.out, Int.toNat_natCast, if_true]
        exact (HA1.out.setL _).drew

end Go.Proofs.YtfkmjepbckafdaaDoor
