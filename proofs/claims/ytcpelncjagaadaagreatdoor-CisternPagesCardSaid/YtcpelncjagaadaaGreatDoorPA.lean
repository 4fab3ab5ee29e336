/-
  The plain law: what a crash leaves of writes that wait; writes and flushes as the power goes. · The plain law: what a disk holds: its supers; its log and its pages' places. · The plain law: a transaction's records, and pages, written so far as the power lets.
-/
import Derived.Test.YtcpelncjagaadaaGreatDoorXU
namespace Go.Proofs.YtcpelncjagaadaaGreatDoor
open Go.RowKit Go.Maps

section
variable {α : Type}
/-- What a crash may leave of some writes: each sector that none of them meets is as it was; each other one as it was, or written whole, or torn. -/
def Part (s : Nat → Sec α) (W : List (Nat × α)) (s' : Nat → Sec α) : Prop :=
  ∀ a, s' a = s a ∨ (∃ r, (a, r) ∈ W ∧ s' a = ⟨some r, false⟩) ∨ ((∃ r, (a, r) ∈ W) ∧ s' a = ⟨(s a).b, true⟩)
theorem Part.refl (s : Nat → Sec α) (W : List (Nat × α)) : Part s W s := fun _ => .inl rfl
theorem Part.mono {s s' : Nat → Sec α} {W W' : List (Nat × α)} (h : Part s W s') (hW : ∀ x ∈ W, x ∈ W') : Part s W' s' := by
  intro a
  rcases h a with h | ⟨r, h1, h2⟩ | ⟨⟨r, h1⟩, h2⟩
  · exact .inl h
  · exact .inr (.inl ⟨r, hW _ h1, h2⟩)
  · exact .inr (.inr ⟨⟨r, hW _ h1⟩, h2⟩)
theorem Part.out {s s' : Nat → Sec α} {W : List (Nat × α)} (h : Part s W s') {a : Nat} (ha : ∀ r, (a, r) ∉ W) : s' a = s a := by
  rcases h a with h | ⟨r, h1, h2⟩ | ⟨⟨r, h1⟩, h2⟩
  · exact h
  · exact absurd h1 (ha r)
  · exact absurd h1 (ha r)
/-- No two of the writes meet one sector. -/
def Apart (W : List (Nat × α)) : Prop := W.Pairwise fun x y => x.1 ≠ y.1
theorem crash_part (W : List (Nat × α)) (hW : Apart W) (s : Nat → Sec α) (L : List Int) : Part s W (crashAll s W L) := by
  unfold crashAll
  induction W generalizing s L with
  | nil => exact Part.refl _ _
  | cons x t ih =>
    unfold Apart at hW
    rw [List.pairwise_cons] at hW
    cases L with
    | nil => exact Part.refl _ _
    | cons p L =>
      rw [List.zip_cons_cons, List.foldl_cons]
      have hh := ih hW.2 (cstep s (x, p)) L
      intro a
      by_cases ha : a = x.1
      · have h1 := Part.out hh (a := a) (fun r hr => hW.1 _ hr (by rw [ha]))
        rw [h1, ha]
        unfold cstep
        split
        · exact .inr (.inl ⟨x.2, by simp, by rw [upd_at]⟩)
        · split
          · exact .inr (.inr ⟨⟨x.2, by simp⟩, by rw [upd_at]⟩)
          · exact .inl rfl
      · have h0 : cstep s (x, p) a = s a := by
          unfold cstep
          split
          · simp [upd, ha]
          · split
            · simp [upd, ha]
            · rfl
        rcases hh a with h | ⟨r, h1, h2⟩ | ⟨⟨r, h1⟩, h2⟩
        · exact .inl (h.trans h0)
        · exact .inr (.inl ⟨r, by simp [h1], h2⟩)
        · exact .inr (.inr ⟨⟨r, by simp [h1]⟩, by rw [h2, h0]⟩)
/-- What a flush leaves. -/
theorem last_out (W : List (Nat × α)) (s : Nat → Sec α) {a : Nat} (ha : ∀ r, (a, r) ∉ W) : lastAll s W a = s a := by
  unfold lastAll
  induction W generalizing s with
  | nil => rfl
  | cons x t ih =>
    rw [List.foldl_cons, ih _ (fun r hr => ha r (by simp [hr]))]
    have : a ≠ x.1 := fun e => ha x.2 (by rw [e]; simp)
    simp [upd, this]
theorem last_in (W : List (Nat × α)) (hW : Apart W) (s : Nat → Sec α) {a : Nat} {r : α} (ha : (a, r) ∈ W) : lastAll s W a = ⟨some r, false⟩ := by
  unfold lastAll
  induction W generalizing s with
  | nil => cases ha
  | cons x t ih =>
    unfold Apart at hW
    rw [List.pairwise_cons] at hW
    rw [List.foldl_cons]
    rcases List.mem_cons.1 ha with rfl | ha
    · have := last_out t (upd s a ⟨some r, false⟩) (a := a) (fun r' hr => hW.1 _ hr rfl)
      unfold lastAll at this
      rw [this, upd_at]
    · exact ih hW.2 _ ha
theorem last_part (W : List (Nat × α)) (hW : Apart W) (s : Nat → Sec α) : Part s W (lastAll s W) := by
  intro a
  by_cases h : ∃ r, (a, r) ∈ W
  · obtain ⟨r, h⟩ := h
    exact .inr (.inl ⟨r, h, last_in W hW s h⟩)
  · exact .inl (last_out W s (fun r hr => h ⟨r, hr⟩))
theorem Apart.take {W : List (Nat × α)} (h : Apart W) (k : Nat) : Apart (W.take k) := List.Pairwise.sublist (List.take_sublist k W) h

/-! ### the device as the power goes -/
theorem spend_on {D : Dev α} (h : D.off = false) : (D.spend.1 = true ∧ D.spend.2.off = false) ∨ (D.spend.1 = false ∧ D.spend.2.off = true) := by
  unfold Dev.spend
  split
  · exact .inr ⟨rfl, rfl⟩
  · rw [h]
    simp only [Bool.false_eq_true, if_false]
    split
    · exact .inl ⟨rfl, rfl⟩
    · exact .inl ⟨rfl, h⟩
theorem spend_off {D : Dev α} (h : D.off = true) : D.spend = (false, D) := by
  unfold Dev.spend
  split
  · obtain ⟨n, s, w, o, a, l⟩ := D; simp only at h; subst h; rfl
  · first | rfl | rw [if_pos h]
theorem write_off {D : Dev α} (h : D.off = true) (a : Nat) (r : α) : D.write a r = (4, D) := by unfold Dev.write; rw [spend_off h]; rfl
theorem flush_off {D : Dev α} (h : D.off = true) : D.flush = (4, D) := by unfold Dev.flush; rw [spend_off h]; rfl
theorem writes_off {D : Dev α} (h : D.off = true) {W : List (Nat × α)} (hW : W ≠ []) : D.writes W = (4, D) := by
  cases W with
  | nil => exact absurd rfl hW
  | cons x t => simp only [Dev.writes, write_off h]; rfl
theorem write_on {D : Dev α} (h : D.off = false) (a : Nat) (r : α) : (D.write a r).2.s = D.s ∧ (D.write a r).2.n = D.n ∧ (((D.write a r).1 = 0 ∧ (D.write a r).2.off = false ∧ (D.write a r).2.waits = D.waits ++ [(a, r)]) ∨ ((D.write a r).1 = 4 ∧ (D.write a r).2.off = true ∧ (D.write a r).2.waits = D.waits)) := by
  unfold Dev.write
  rcases spend_on h with ⟨h1, h2⟩ | ⟨h1, h2⟩
  · rw [if_pos h1]; exact ⟨spend_s D, spend_n D, .inl ⟨rfl, h2, by rw [spend_waits]⟩⟩
  · rw [if_neg (by rw [h1]; simp)]; exact ⟨spend_s D, spend_n D, .inr ⟨rfl, h2, spend_waits D⟩⟩
theorem writes_on {D : Dev α} (h : D.off = false) (W : List (Nat × α)) : (D.writes W).2.s = D.s ∧ (D.writes W).2.n = D.n ∧ (((D.writes W).1 = 0 ∧ (D.writes W).2.off = false ∧ (D.writes W).2.waits = D.waits ++ W) ∨ ((D.writes W).1 = 4 ∧ (D.writes W).2.off = true ∧ ∃ k, (D.writes W).2.waits = D.waits ++ W.take k)) := by
  induction W generalizing D with
  | nil => exact ⟨rfl, rfl, .inl ⟨rfl, h, by simp [Dev.writes]⟩⟩
  | cons x t ih =>
    obtain ⟨h1, h2, h3⟩ := write_on h x.1 x.2
    simp only [Dev.writes]
    rcases h3 with ⟨a1, a2, a3⟩ | ⟨a1, a2, a3⟩
    · rw [if_pos a1]
      obtain ⟨b1, b2, b3⟩ := ih a2
      refine ⟨b1.trans h1, b2.trans h2, ?_⟩
      rcases b3 with ⟨c1, c2, c3⟩ | ⟨c1, c2, k, c3⟩
      · exact .inl ⟨c1, c2, by rw [c3, a3]; simp⟩
      · exact .inr ⟨c1, c2, k + 1, by rw [c3, a3]; simp⟩
    · rw [if_neg (by rw [a1]; simp)]
      exact ⟨h1, h2, .inr ⟨a1, a2, 0, by rw [a3]; simp⟩⟩
theorem flush_on {D : Dev α} (h : D.off = false) : D.flush.2.n = D.n ∧ ((D.flush.1 = 0 ∧ D.flush.2.off = false ∧ D.flush.2.waits = [] ∧ D.flush.2.s = lastAll D.s D.waits) ∨ (D.flush.1 = 4 ∧ D.flush.2.off = true ∧ D.flush.2.waits = D.waits ∧ D.flush.2.s = D.s)) := by
  unfold Dev.flush
  rcases spend_on h with ⟨h1, h2⟩ | ⟨h1, h2⟩
  · rw [if_pos h1]; exact ⟨spend_n D, .inl ⟨rfl, h2, rfl, rfl⟩⟩
  · rw [if_neg (by rw [h1]; simp)]; exact ⟨spend_n D, .inr ⟨rfl, h2, spend_waits D, spend_s D⟩⟩
end

end Go.Proofs.YtcpelncjagaadaaGreatDoor

namespace Go.Proofs.YtcpelncjagaadaaGreatDoor
open Go.RowKit Go.Maps

/-! ### the supers -/
structure SupAt (s : Nat → Sec Rec) (g e t : Nat) : Prop where
  sec : ∀ j, j < 2 → SupSec (s j)
  best : supOf (s (g % 2)) = some (g, e, t)
  other : ∀ x, supOf (s ((g + 1) % 2)) = some x → x.1 < g
theorem SupAt.best2 {s : Nat → Sec Rec} {g e t : Nat} (h : SupAt s g e t) : bestTo s 2 = some (g, e, t) := by
  show better (better none (supOf (s 0))) (supOf (s 1)) = _
  rcases Nat.mod_two_eq_zero_or_one g with h0 | h0
  · have h1 := h.best
    have h2 := h.other
    rw [h0] at h1
    rw [show (g + 1) % 2 = 1 by omega] at h2
    rw [h1]
    cases hs : supOf (s 1) with
    | none => rfl
    | some x =>
      have := h2 x hs
      simp only [better]
      rw [if_neg (show ¬ x.1 > g by omega)]
  · have h1 := h.best
    have h2 := h.other
    rw [h0] at h1
    rw [show (g + 1) % 2 = 0 by omega] at h2
    rw [h1]
    cases hs : supOf (s 0) with
    | none => rfl
    | some x =>
      have := h2 x hs
      simp only [better]
      rw [if_pos (show g > x.1 by omega)]
theorem SupAt.keep {s s' : Nat → Sec Rec} {g e t : Nat} (h : SupAt s g e t) (hs : ∀ j, j < 2 → s' j = s j) : SupAt s' g e t :=
  ⟨fun j hj => by rw [hs j hj]; exact h.sec j hj, by rw [hs _ (Nat.mod_lt _ (by decide))]; exact h.best, by rw [hs _ (Nat.mod_lt _ (by decide))]; exact h.other⟩
theorem SupAt.set {s s' : Nat → Sec Rec} {g e t e' t' : Nat} (h : SupAt s g e t) (hok : (Rec.sup (g + 1) e' t').ok) (hn : s' ((g + 1) % 2) = ⟨some (.sup (g + 1) e' t'), false⟩) (ho : s' (g % 2) = s (g % 2)) : SupAt s' (g + 1) e' t' := by
  have hg : (g + 1 + 1) % 2 = g % 2 := by omega
  refine ⟨fun j hj => ?_, by rw [hn]; rfl, ?_⟩
  · have : j = g % 2 ∨ j = (g + 1) % 2 := by omega
    rcases this with rfl | rfl
    · rw [ho]; exact h.sec _ hj
    · rw [hn]; intro r hr; injection hr with hr; exact ⟨_, _, _, hr.symm, by rw [← hr]; exact hok⟩
  · rw [hg, ho, h.best]
    intro x hx
    injection hx with hx
    rw [← hx]
    exact Nat.lt_succ_self g
theorem SupAt.part {s s' : Nat → Sec Rec} {g e t e' t' : Nat} (h : SupAt s g e t) (hok : (Rec.sup (g + 1) e' t').ok) (hp : Part s [((g + 1) % 2, .sup (g + 1) e' t')] s') : SupAt s' g e t ∨ SupAt s' (g + 1) e' t' := by
  have ho : s' (g % 2) = s (g % 2) := hp.out (fun r hr => by simp at hr; omega)
  rcases hp ((g + 1) % 2) with h1 | ⟨r, h1, h2⟩ | ⟨-, h2⟩
  · refine .inl (h.keep (fun j hj => ?_))
    have : j = g % 2 ∨ j = (g + 1) % 2 := by omega
    rcases this with rfl | rfl
    · exact ho
    · exact h1
  · simp at h1
    subst h1
    exact .inr (h.set hok h2 ho)
  · refine .inl ⟨fun j hj => ?_, by rw [ho]; exact h.best, ?_⟩
    · have : j = g % 2 ∨ j = (g + 1) % 2 := by omega
      rcases this with rfl | rfl
      · rw [ho]; exact h.sec _ hj
      · rw [h2]; exact h.sec _ hj
    · rw [h2]; intro x hx; simp [supOf] at hx

/-! ### the log -/
abbrev Tx : Type := Nat × List Img
def Chain (z : Nat) (s : Nat → Sec Rec) (t : Nat) : List Tx → Nat → Nat → Nat → Prop
  | [], q, _, nx => q = nx
  | x :: r, q, least, nx => txL z s q least (z - (q - t)) = some (x.2, x.1) ∧ x.2 ≠ [] ∧ Chain z s t r (q + x.2.length + 1) x.1 nx
abbrev got (z : Nat) (s : Nat → Sec Rec) (q : Nat) (x : LR) : Prop := gotL (secOf z s q) q = (x, true)
theorem txL_inv {z : Nat} {s : Nat → Sec Rec} {q least room e : Nat} {l : List Img} (h : txL z s q least room = some (l, e)) : ∃ x, recAt z s q 0 = (x, true) ∧ ¬ x.e < least ∧ ¬ x.c ≥ room ∧ (∀ j, j < x.c + 1 → txOk z s q x j = true) ∧ l = imgs z s q x.c ∧ e = x.e := by
  unfold txL at h
  split at h
  · cases h
  · rename_i hn
    split at h
    · rename_i ha
      injection h with h
      injection h with h1 h2
      rcases hx : recAt z s q 0 with ⟨x, b⟩
      rw [hx] at hn ha h1 h2
      simp only [not_or] at hn
      refine ⟨x, ?_, hn.2.1, hn.2.2, ?_, h1.symm, h2.symm⟩
      · cases b with
        | true => rfl
        | false => exact absurd rfl hn.1
      · intro j hj
        rw [List.all_eq_true] at ha
        exact ha j (by simpa using hj)
    · cases h
theorem txOk_got {z : Nat} {s : Nat → Sec Rec} {q j : Nat} {r : LR} (h : txOk z s q r j = true) : ∃ x, got z s (q + j) x ∧ x = wantL r q j x := by
  unfold txOk at h
  rcases hx : recAt z s q j with ⟨x, b⟩
  rw [hx] at h
  simp only [Bool.and_eq_true, decide_eq_true_eq] at h
  exact ⟨x, by unfold got; rw [← h.1]; exact hx, h.2⟩
theorem txL_congr {z : Nat} {s s' : Nat → Sec Rec} {q least room e : Nat} {l : List Img} (h : txL z s q least room = some (l, e)) (hs : ∀ j, j ≤ l.length → secOf z s' (q + j) = secOf z s (q + j)) : txL z s' q least room = some (l, e) := by
  obtain ⟨x, h1, h2, h3, h4, h5, h6⟩ := txL_inv h
  have hl : l.length = x.c := by rw [h5, imgs_length]
  have hr : ∀ j, j ≤ x.c → recAt z s' q j = recAt z s q j := fun j hj => by unfold recAt; rw [hs j (by omega)]
  have := txL_some (z := z) (s := s') (next := q) (least := least) (room := room) (r := x) (by rw [hr 0 (Nat.zero_le _)]; exact h1) h2 h3 (fun j hj => by unfold txOk; rw [hr j (by omega)]; exact h4 j hj)
  rw [this, h6, h5]
  congr 2
  unfold imgs
  apply List.map_congr_left
  intro j hj
  rw [hr j (by simp at hj; omega)]
theorem Chain.le {z : Nat} {s : Nat → Sec Rec} {t : Nat} {txs : List Tx} {q least nx : Nat} (h : Chain z s t txs q least nx) : q ≤ nx := by
  induction txs generalizing q least with
  | nil => exact Nat.le_of_eq h
  | cons x r ih => have := ih h.2.2; omega
theorem Chain.congr {z : Nat} {s s' : Nat → Sec Rec} {t : Nat} {txs : List Tx} {q least nx : Nat} (h : Chain z s t txs q least nx) (hs : ∀ k, q ≤ k → k < nx → secOf z s' k = secOf z s k) : Chain z s' t txs q least nx := by
  induction txs generalizing q least with
  | nil => exact h
  | cons x r ih =>
    have hle := h.2.2.le
    exact ⟨txL_congr h.1 (fun j hj => hs _ (by omega) (by omega)), h.2.1, ih h.2.2 (fun k h1 h2 => hs k (by omega) h2)⟩
theorem Chain.scan {z : Nat} {s : Nat → Sec Rec} {t : Nat} {txs : List Tx} {q least nx f : Nat} (h : Chain z s t txs q least nx) (hn : ∀ least room, txL z s nx least room = none) (hq : t ≤ q) (hf : z - (q - t) < f) : scanL z s t f q least = (txs.map (·.2), nx) := by
  induction txs generalizing q least f with
  | nil =>
    obtain ⟨f, rfl⟩ : ∃ k, f = k + 1 := ⟨f - 1, by omega⟩
    have h : q = nx := h
    subst h
    rw [scan_none (hn _ _)]; rfl
  | cons x r ih =>
    obtain ⟨f, rfl⟩ : ∃ k, f = k + 1 := ⟨f - 1, by omega⟩
    have hr := txL_room h.1
    rw [scan_some h.1, ih h.2.2 (by omega) (by omega)]
    rfl
theorem Chain.snoc {z : Nat} {s : Nat → Sec Rec} {t : Nat} {txs : List Tx} {q least nx e : Nat} {l : List Img} (h : Chain z s t txs q least nx) (he : ∀ x ∈ txs, x.1 ≤ e) (hle : least ≤ e) (hl : l ≠ []) (hx : ∀ least, least ≤ e → txL z s nx least (z - (nx - t)) = some (l, e)) : Chain z s t (txs ++ [(e, l)]) q least (nx + l.length + 1) := by
  induction txs generalizing q least with
  | nil =>
    have h : q = nx := h
    subst h
    exact ⟨hx _ hle, hl, rfl⟩
  | cons x r ih => exact ⟨h.1, h.2.1, ih h.2.2 (fun y hy => he y (by simp [hy])) (he x (by simp))⟩
theorem Chain.room {z : Nat} {s : Nat → Sec Rec} {t : Nat} {txs : List Tx} {q least nx : Nat} (h : Chain z s t txs q least nx) : q + txs.length ≤ nx ∧ ∀ x ∈ txs, q + x.2.length < nx ∨ txs = [] := by
  induction txs generalizing q least with
  | nil => exact ⟨Nat.le_of_eq h, fun x hx => by cases hx⟩
  | cons y r ih =>
    have h3 := ih h.2.2
    refine ⟨by simp only [List.length_cons]; omega, fun x hx => .inl ?_⟩
    have hle := h.2.2.le
    rcases List.mem_cons.1 hx with rfl | hx
    · omega
    · rcases h3.2 x hx with h4 | h4
      · omega
      · rw [h4] at hx; cases hx

def homeText (x : Sec Rec) : ByteArray := match x.b with
  | some (.home _ d) => d
  | _ => ⟨#[]⟩
abbrev mapOf (pg : Nat) (txs : List Tx) : Mp := applyAll pg (txs.map (·.2))
structure Core (z pg : Nat) (s : Nat → Sec Rec) (e t : Nat) (txs : List Tx) (nx : Nat) (C : Nat → ByteArray) : Prop where
  log : ∀ j, LogSec (s (2 + j % z))
  old : ∀ q x, got z s q x → x.t ≤ nx ∧ x.e ≤ e
  chain : Chain z s t txs t 0 nx
  eps : ∀ x ∈ txs, x.1 ≤ e
  le : t ≤ nx ∧ nx ≤ t + z
  stop : ∀ least room, txL z s nx least room = none
  sizes : ∀ x ∈ txs, ∀ y ∈ x.2, y.1 < pg ∧ y.2.size ≤ 160
  home : ∀ p, p < pg → HomeSec p (s (2 + z + p))
  text : ∀ p, p < pg → match look (mapOf pg txs) p with
    | some d => C p = d
    | none => (s (2 + z + p)).torn = false ∧ C p = homeText (s (2 + z + p))
theorem Core.keep {z pg : Nat} {s s' : Nat → Sec Rec} {e t : Nat} {txs : List Tx} {nx : Nat} {C : Nat → ByteArray} (h : Core z pg s e t txs nx C) (hs : ∀ j, 2 ≤ j → s' j = s j) : Core z pg s' e t txs nx C := by
  have h1 : ∀ q, secOf z s' q = secOf z s q := fun q => hs _ (by omega)
  have h2 : ∀ q j, recAt z s' q j = recAt z s q j := fun q j => by unfold recAt; rw [h1]
  refine ⟨fun j => by rw [hs _ (by omega)]; exact h.log j, fun q x hx => h.old q x (by unfold got at *; rw [← h1]; exact hx), h.chain.congr (fun k _ _ => h1 k), h.eps, h.le, fun least room => ?_, h.sizes, fun p hp => by rw [hs _ (by omega)]; exact h.home p hp, fun p hp => by rw [hs _ (by omega)]; exact h.text p hp⟩
  have := h.stop least room
  cases hx : txL z s' nx least room with
  | none => rfl
  | some x =>
    have := txL_congr (s' := s) (l := x.1) (e := x.2) hx (fun j _ => (h1 _).symm)
    rw [h.stop] at this
    cases this
theorem Core.epoch {z pg : Nat} {s : Nat → Sec Rec} {e e' t : Nat} {txs : List Tx} {nx : Nat} {C : Nat → ByteArray} (h : Core z pg s e t txs nx C) (he : e ≤ e') : Core z pg s e' t txs nx C :=
  { h with old := fun q x hx => ⟨(h.old q x hx).1, Nat.le_trans (h.old q x hx).2 he⟩, eps := fun x hx => Nat.le_trans (h.eps x hx) he }
/-- All pages stand in their places. -/
def Cur (z pg : Nat) (s : Nat → Sec Rec) (C : Nat → ByteArray) : Prop := ∀ p, p < pg → (s (2 + z + p)).torn = false ∧ C p = homeText (s (2 + z + p))
theorem Core.trim {z pg : Nat} {s : Nat → Sec Rec} {e t : Nat} {txs : List Tx} {nx : Nat} {C : Nat → ByteArray} (h : Core z pg s e t txs nx C) (hc : Cur z pg s C) : Core z pg s e nx [] nx C :=
  ⟨h.log, h.old, rfl, fun x hx => (by cases hx), ⟨Nat.le_refl _, Nat.le_add_right _ _⟩, h.stop, fun x hx => (by cases hx), h.home, fun p hp => hc p hp⟩

end Go.Proofs.YtcpelncjagaadaaGreatDoor

namespace Go.Proofs.YtcpelncjagaadaaGreatDoor
open Go.RowKit Go.Maps

/-- A content with some pages laid over. -/
def over (l : Mp) (C : Nat → ByteArray) (p : Nat) : ByteArray := (look l p).getD (C p)
theorem applyTx_merge {pg : Nat} {m : Mp} {l : List Img} (h : ∀ x ∈ l, x.1 < pg) : applyTx pg m l = merge m l := by
  unfold applyTx merge
  induction l generalizing m with
  | nil => rfl
  | cons x t ih =>
    rw [List.foldl_cons, List.foldl_cons, ih (fun y hy => h y (by simp [hy]))]
    unfold putImg
    rw [if_pos (h x (by simp))]
theorem mapOf_snoc (pg : Nat) (txs : List Tx) (e : Nat) (l : List Img) : mapOf pg (txs ++ [(e, l)]) = applyTx pg (mapOf pg txs) l := by
  simp [mapOf, applyAll]
theorem mod_ne {z a b : Nat} (h1 : a < b) (h2 : b < a + z) : a % z ≠ b % z := by
  intro h
  have h3 : (b - a) % z = 0 := Nat.sub_mod_eq_zero_of_mod_eq h.symm
  rw [Nat.mod_eq_of_lt (by omega)] at h3
  omega

section
variable {z t nx e : Nat} {l : List Img}
abbrev walOf (z t nx e : Nat) : Wal := ⟨z, t, nx, e⟩
theorem txWs_mem {a : Nat} {r : Rec} : (a, r) ∈ txWs (walOf z t nx e) l ↔ ∃ i, i ≤ l.length ∧ a = 2 + (nx + i) % z ∧ r = (recOf (walOf z t nx e) l i).r := by
  simp only [txWs, recsOf, List.mem_map, List.mem_range, Prod.mk.injEq]
  constructor
  · rintro ⟨x, ⟨i, hi, rfl⟩, h1, h2⟩
    exact ⟨i, by omega, by rw [← h1, recOf_s], h2.symm⟩
  · rintro ⟨i, hi, rfl, rfl⟩
    exact ⟨_, ⟨i, by omega, rfl⟩, by rw [recOf_s], rfl⟩
theorem recOf_e (i : Nat) : (recOf (walOf z t nx e) l i).e = e := by unfold recOf; split <;> rfl
theorem recOf_t (i : Nat) : (recOf (walOf z t nx e) l i).t = nx := by unfold recOf; split <;> rfl
theorem recOf_c (i : Nat) : (recOf (walOf z t nx e) l i).c = l.length := by unfold recOf; split <;> rfl
theorem recOf_i (i : Nat) : (recOf (walOf z t nx e) l i).i = i := by unfold recOf; split <;> rfl
theorem recOf_k (i : Nat) : i ≤ l.length → (recOf (walOf z t nx e) l i).k = if i = l.length then 2 else 1 := by
  intro hi
  unfold recOf; split
  · rw [if_neg (by omega)]
  · rw [if_pos (by omega)]
theorem txWs_apart (hn : l.length + 1 ≤ z) : Apart (txWs (walOf z t nx e) l) := by
  unfold Apart txWs recsOf
  rw [List.map_map, List.pairwise_map]
  apply List.Pairwise.imp_of_mem (R := fun a b => a < b)
  · intro a b ha hb hlt
    simp only [Function.comp, recOf_s]
    simp at hb
    have := mod_ne (z := z) (a := nx + a) (b := nx + b) (by omega) (by omega)
    show 2 + (nx + a) % z ≠ 2 + (nx + b) % z
    omega
  · exact List.pairwise_lt_range
/-- What is read behind a crash: what was read before, or a record of the transaction. -/
theorem app_got {s s' : Nat → Sec Rec} (hp : Part s (txWs (walOf z t nx e) l) s') {q : Nat} {x : LR} (h : got z s' q x) : (got z s q x ∧ secOf z s' q = secOf z s q) ∨ ∃ i, i ≤ l.length ∧ q = nx + i ∧ x = recOf (walOf z t nx e) l i ∧ secOf z s' q = ⟨some (recOf (walOf z t nx e) l i).r, false⟩ := by
  rcases hp (2 + q % z) with h1 | ⟨r, h1, h2⟩ | ⟨-, h2⟩
  · refine .inl ⟨?_, h1⟩
    unfold got at *
    rw [show secOf z s q = secOf z s' q from h1.symm]
    exact h
  · obtain ⟨i, hi, ha, rfl⟩ := txWs_mem.1 h1
    have h3 : secOf z s' q = ⟨some (recOf (walOf z t nx e) l i).r, false⟩ := h2
    unfold got at h
    rw [h3] at h
    simp only [gotL, Bool.false_eq_true, if_false, Prod.mk.injEq, beq_iff_eq, recOf_s] at h
    refine .inr ⟨i, hi, h.2.symm, ?_, h3⟩
    rw [← h.1]
    show LR.mk _ _ _ _ _ _ _ _ = _
    rw [← recOf_s (walOf z t nx e) l i]
  · unfold got at h
    rw [show secOf z s' q = ⟨(s (2 + q % z)).b, true⟩ from h2] at h
    simp [gotL] at h
end

section
variable {z pg e t nx : Nat} {s s' : Nat → Sec Rec} {txs : List Tx} {C : Nat → ByteArray} {l : List Img}
/-- What an append asks of the disk. -/
structure AppFit (z pg : Nat) (s : Nat → Sec Rec) (e t nx : Nat) (l : List Img) : Prop where
  new : ∀ q x, got z s q x → x.t = nx → x.e < e
  ne : l ≠ []
  two : 2 ≤ z
  room : l.length + 1 ≤ z - (nx - t)
  ok : ∀ i, i ≤ l.length → (recOf (walOf z t nx e) l i).r.ok
  pages : PagesOk pg l

theorem Core.app_log (h : Core z pg s e t txs nx C) (hf : AppFit z pg s e t nx l) (hp : Part s (txWs (walOf z t nx e) l) s') : ∀ j, LogSec (s' (2 + j % z)) := by
  intro j r hr
  rcases hp (2 + j % z) with h1 | ⟨r', h1, h2⟩ | ⟨-, h2⟩
  · rw [h1] at hr; exact h.log j r hr
  · obtain ⟨i, hi, -, rfl⟩ := txWs_mem.1 h1
    rw [h2] at hr
    injection hr with hr
    exact ⟨_, hr.symm, by rw [← hr]; exact hf.ok i hi⟩
  · rw [h2] at hr; exact h.log j r hr
theorem Core.app_old (h : Core z pg s e t txs nx C) (hp : Part s (txWs (walOf z t nx e) l) s') {nx' : Nat} (hx : nx ≤ nx') : ∀ q x, got z s' q x → x.t ≤ nx' ∧ x.e ≤ e := by
  intro q x hg
  rcases app_got hp hg with ⟨h1, -⟩ | ⟨i, -, -, rfl, -⟩
  · have := h.old q x h1; exact ⟨by omega, this.2⟩
  · rw [recOf_t, recOf_e]; exact ⟨hx, Nat.le_refl _⟩
theorem Core.app_kept (h : Core z pg s e t txs nx C) (hf : AppFit z pg s e t nx l) (hp : Part s (txWs (walOf z t nx e) l) s') : ∀ k, t ≤ k → k < nx → secOf z s' k = secOf z s k := by
  intro k h1 h2
  refine hp.out (fun r hr => ?_)
  obtain ⟨i, hi, ha, -⟩ := txWs_mem.1 hr
  have h3 := hf.room
  have h4 := h.le
  have := mod_ne (z := z) (a := k) (b := nx + i) (by omega) (by omega)
  omega
theorem Core.app_home (_h : Core z pg s e t txs nx C) (hf : AppFit z pg s e t nx l) (hp : Part s (txWs (walOf z t nx e) l) s') : ∀ p, s' (2 + z + p) = s (2 + z + p) := by
  intro p
  refine hp.out (fun r hr => ?_)
  obtain ⟨i, hi, ha, -⟩ := txWs_mem.1 hr
  have h3 := hf.two
  have := Nat.mod_lt (nx + i) (show z > 0 by omega)
  omega
theorem app_sup (_hf : AppFit z pg s e t nx l) (hp : Part s (txWs (walOf z t nx e) l) s') : ∀ j, j < 2 → s' j = s j := by
  intro j hj
  refine hp.out (fun r hr => ?_)
  obtain ⟨i, hi, ha, -⟩ := txWs_mem.1 hr
  omega
theorem mapOf_pages (h : Core z pg s e t txs nx C) : PagesOk pg (mapOf pg txs) :=
  PagesOk.applyAll (fun l hl x hx => by
    obtain ⟨y, hy, rfl⟩ := List.mem_map.1 hl
    exact (h.sizes y hy x hx).2)

theorem Core.app_full (h : Core z pg s e t txs nx C) (hf : AppFit z pg s e t nx l) (hp : Part s (txWs (walOf z t nx e) l) s') (hw : ∀ i, i ≤ l.length → s' (2 + (nx + i) % z) = ⟨some (recOf (walOf z t nx e) l i).r, false⟩) : Core z pg s' e t (txs ++ [(e, l)]) (nx + l.length + 1) (over l C) := by
  have hroom := hf.room
  have hle := h.le
  have hr : ∀ i, i ≤ l.length → recAt z s' nx i = (recOf (walOf z t nx e) l i, true) := by
    intro i hi
    unfold recAt secOf
    rw [hw i hi]
    simp only [gotL, Bool.false_eq_true, if_false, recOf_s, beq_self_eq_true]
    show (LR.mk _ _ _ _ _ _ _ _, _) = _
    rw [← recOf_s (walOf z t nx e) l i]
  have hlen : 0 < l.length := by cases l with
    | nil => exact absurd rfl hf.ne
    | cons a b => simp
  have htx : ∀ least, least ≤ e → txL z s' nx least (z - (nx - t)) = some (l, e) := by
    intro least hl
    have := txL_some (z := z) (s := s') (next := nx) (least := least) (room := z - (nx - t)) (hr 0 (Nat.zero_le _)) (by rw [recOf_e]; omega) (by rw [recOf_c]; omega) (fun j hj => by
      rw [recOf_c] at hj
      refine txOk_yes (hr j (by omega)) ?_
      unfold wantL
      rw [recOf_c, recOf_e]
      have a1 := recOf_k (z := z) (t := t) (nx := nx) (e := e) (l := l) j (by omega)
      have a2 := recOf_e (z := z) (t := t) (nx := nx) (e := e) (l := l) j
      have a3 := recOf_s (walOf z t nx e) l j
      have a4 := recOf_t (z := z) (t := t) (nx := nx) (e := e) (l := l) j
      have a5 := recOf_i (z := z) (t := t) (nx := nx) (e := e) (l := l) j
      have a6 := recOf_c (z := z) (t := t) (nx := nx) (e := e) (l := l) j
      rcases hx : recOf (walOf z t nx e) l j with ⟨b1, b2, b3, b4, b5, b6, b7, b8⟩
      rw [hx] at a1 a2 a3 a4 a5 a6
      simp only at a1 a2 a3 a4 a5 a6
      rw [a1, a2, a3, a4, a5, a6])
    rw [this, recOf_e, recOf_c]
    congr 2
    unfold imgs
    apply List.ext_getElem?
    intro m
    rw [List.getElem?_map]
    by_cases hm : m < l.length
    · rw [List.getElem?_range hm]
      simp only [Option.map_some]
      rw [hr m (by omega)]
      have e1 : l.getD m (0, ⟨#[]⟩) = l[m] := by simp [List.getD, hm]
      unfold recOf
      rw [if_pos hm]
      simp only
      rw [e1, List.getElem?_eq_getElem hm]
    · rw [List.getElem?_eq_none (by simp; omega), List.getElem?_eq_none (by omega)]; rfl
  refine ⟨h.app_log hf hp, h.app_old hp (by omega), ?_, ?_, ⟨by omega, by omega⟩, ?_, ?_, ?_, ?_⟩
  · exact (h.chain.congr (h.app_kept hf hp)).snoc h.eps (Nat.zero_le _) hf.ne htx
  · intro x hx
    rcases List.mem_append.1 hx with hx | hx
    · exact h.eps x hx
    · simp at hx; subst hx; exact Nat.le_refl _
  · intro least room
    cases hx : txL z s' (nx + l.length + 1) least room with
    | none => rfl
    | some y =>
      obtain ⟨x, h1, -, -, h4, -, -⟩ := txL_inv (l := y.1) (e := y.2) hx
      obtain ⟨x', h5, h6⟩ := txOk_got (h4 0 (by omega))
      have h7 := (h.app_old hp (nx' := nx) (Nat.le_refl _) _ _ h5).1
      rw [h6] at h7
      simp only [wantL] at h7
      omega
  · intro x hx
    rcases List.mem_append.1 hx with hx | hx
    · exact h.sizes x hx
    · simp at hx; subst hx; exact fun y hy => hf.pages.2 y hy
  · intro p hpp
    rw [h.app_home hf hp]
    exact h.home p hpp
  · intro p hpp
    rw [mapOf_snoc, applyTx_merge (fun x hx => (hf.pages.2 x hx).1), look_merge hf.pages.1, h.app_home hf hp]
    have ht := h.text p hpp
    unfold over
    cases hq : look l p with
    | some d => simp
    | none => simpa using ht
theorem Core.app_part (h : Core z pg s e t txs nx C) (hf : AppFit z pg s e t nx l) (hp : Part s (txWs (walOf z t nx e) l) s') : Core z pg s' e t txs nx C ∨ Core z pg s' e t (txs ++ [(e, l)]) (nx + l.length + 1) (over l C) := by
  by_cases hw : ∀ i, i ≤ l.length → s' (2 + (nx + i) % z) = ⟨some (recOf (walOf z t nx e) l i).r, false⟩
  · exact .inr (h.app_full hf hp hw)
  · refine .inl ⟨h.app_log hf hp, h.app_old hp (Nat.le_refl _), h.chain.congr (h.app_kept hf hp), h.eps, h.le, ?_, h.sizes, fun p hpp => by rw [h.app_home hf hp]; exact h.home p hpp, fun p hpp => by rw [h.app_home hf hp]; exact h.text p hpp⟩
    intro least room
    cases hx : txL z s' nx least room with
    | none => rfl
    | some y =>
      exfalso
      obtain ⟨x, h1, h2, h3, h4, h5, h6⟩ := txL_inv (l := y.1) (e := y.2) hx
      have h1' : got z s' nx x := h1
      rcases app_got hp h1' with ⟨g1, -⟩ | ⟨i, hi, hq, rfl, -⟩
      · -- the head is old: all of it is old
        obtain ⟨x0, g2, g3⟩ := txOk_got (h4 0 (by omega))
        have e0 : x0 = x := by
          have a := g2
          unfold got at a h1'
          rw [Nat.add_zero, h1'] at a
          injection a with a _
          exact a.symm
        subst e0
        have ht : x0.t = nx := by rw [g3]; rfl
        have hlt := hf.new _ _ g1 ht
        have hall : ∀ j, j < x0.c + 1 → secOf z s' (nx + j) = secOf z s (nx + j) := by
          intro j hj
          obtain ⟨xj, gj, wj⟩ := txOk_got (h4 j hj)
          rcases app_got hp gj with ⟨-, g5⟩ | ⟨i, -, -, rfl, -⟩
          · exact g5
          · have := congrArg LR.e wj
            rw [recOf_e] at this
            simp only [wantL] at this
            omega
        have hc : y.1.length = x0.c := by rw [h5, imgs_length]
        have := txL_congr (s' := s) (l := y.1) (e := y.2) hx (fun j hj => (hall j (by omega)).symm)
        rw [h.stop] at this
        cases this
      · -- the head is new: all of it is new
        have hi0 : i = 0 := by omega
        subst hi0
        refine hw (fun i hi => ?_)
        obtain ⟨xi, gi, wi⟩ := txOk_got (h4 i (by rw [recOf_c]; omega))
        rcases app_got hp gi with ⟨g5, -⟩ | ⟨i', -, hq', -, g6⟩
        · have a1 : xi.t = nx := by rw [wi]; rfl
          have a2 : xi.e = e := by rw [wi]; simp only [wantL]; exact recOf_e 0
          have := hf.new _ _ g5 a1
          omega
        · have : i' = i := by omega
          subst this
          exact g6

/-! ### pages into their places -/
def homesOf (z : Nat) (m : Mp) : List (Nat × Rec) := m.map fun x => (2 + z + x.1, .home x.1 x.2)
theorem homes_mem {m : Mp} {a : Nat} {r : Rec} : (a, r) ∈ homesOf z m ↔ ∃ x ∈ m, a = 2 + z + x.1 ∧ r = .home x.1 x.2 := by
  simp only [homesOf, List.mem_map, Prod.mk.injEq]
  constructor
  · rintro ⟨x, hx, h1, h2⟩; exact ⟨x, hx, h1.symm, h2.symm⟩
  · rintro ⟨x, hx, h1, h2⟩; exact ⟨x, hx, h1.symm, h2.symm⟩
theorem homes_apart {m : Mp} (h : Mp.ok m) : Apart (homesOf z m) := by
  unfold Apart homesOf
  rw [List.pairwise_map]
  exact h.imp (fun hab => by simp only; omega)
theorem home_ok {p : Nat} {d : ByteArray} (h1 : p < 900) (h2 : d.size ≤ 160) : (Rec.home p d).ok := ⟨by have h9 : 900 < big := (by decide); omega, h2⟩
theorem Core.homes (h : Core z pg s e t txs nx C) (hz : 2 ≤ z) (hpg : pg ≤ 900) (hp : Part s (homesOf z (mapOf pg txs)) s') : Core z pg s' e t txs nx C ∧ ∀ j, j < 2 → s' j = s j := by
  have hm := mapOf_pages h
  have h0 : ∀ a, a < 2 + z → s' a = s a := fun a ha => hp.out (fun r hr => by
    obtain ⟨x, -, h1, -⟩ := homes_mem.1 hr
    omega)
  have h1 : ∀ q, secOf z s' q = secOf z s q := fun q => h0 _ (by have := Nat.mod_lt q (show z > 0 by omega); omega)
  have h2 : ∀ j, s' (2 + j % z) = s (2 + j % z) := h1
  refine ⟨⟨fun j => by rw [h2]; exact h.log j, fun q x hx => h.old q x (by unfold got at *; rw [← h1]; exact hx), h.chain.congr (fun k _ _ => h1 k), h.eps, h.le, fun least room => ?_, h.sizes, ?_, ?_⟩, fun j hj => h0 j (by omega)⟩
  · cases hx : txL z s' nx least room with
    | none => rfl
    | some x =>
      have := txL_congr (s' := s) (l := x.1) (e := x.2) hx (fun j _ => (h1 _).symm)
      rw [h.stop] at this
      cases this
  · intro p hpp r hr
    rcases hp (2 + z + p) with a1 | ⟨r', a1, a2⟩ | ⟨-, a2⟩
    · rw [a1] at hr; exact h.home p hpp r hr
    · obtain ⟨x, hx, b1, rfl⟩ := homes_mem.1 a1
      have : x.1 = p := by omega
      subst this
      rw [a2] at hr
      injection hr with hr
      exact ⟨x.2, hr.symm, by rw [← hr]; exact home_ok (by omega) (hm.2 x hx).2⟩
    · rw [a2] at hr; exact h.home p hpp r hr
  · intro p hpp
    have ht := h.text p hpp
    cases hq : look (mapOf pg txs) p with
    | some d => rw [hq] at ht; exact ht
    | none =>
      rw [hq] at ht
      rw [hp.out (fun r hr => by
        obtain ⟨x, hx, b1, -⟩ := homes_mem.1 hr
        have : x.1 = p := by omega
        have h5 := look_mem hm.1 hx
        rw [this, hq] at h5
        cases h5)]
      exact ht
theorem look_some {m : Mp} {p : Nat} {d : ByteArray} (h : look m p = some d) : (p, d) ∈ m := by
  unfold look at h
  cases hf : m.find? (fun x => x.1 == p) with
  | none => rw [hf] at h; cases h
  | some x =>
    rw [hf] at h
    have h1 := List.mem_of_find?_eq_some hf
    have h2 := List.find?_some hf
    simp at h h2
    rcases x with ⟨a, b⟩
    simp only at h h2
    subst h h2
    exact h1
theorem Core.cur (h : Core z pg s e t txs nx C) : Cur z pg (lastAll s (homesOf z (mapOf pg txs))) C := by
  intro p hpp
  have hm := mapOf_pages h
  have ht := h.text p hpp
  cases hq : look (mapOf pg txs) p with
  | some d =>
    rw [hq] at ht
    have hx := look_some hq
    rw [last_in _ (homes_apart hm.1) s (a := 2 + z + p) (r := .home p d) (homes_mem.2 ⟨(p, d), hx, rfl, rfl⟩)]
    exact ⟨rfl, ht⟩
  | none =>
    rw [hq] at ht
    rw [last_out _ s (a := 2 + z + p) (fun r hr => by
        obtain ⟨x, hx, b1, -⟩ := homes_mem.1 hr
        have : x.1 = p := by omega
        have h5 := look_mem hm.1 hx
        rw [this, hq] at h5
        cases h5)]
    exact ht
end

end Go.Proofs.YtcpelncjagaadaaGreatDoor
