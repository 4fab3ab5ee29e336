/-
  The plain law: a store that is on, a device that is off; what Checkpoint, Commit and Mount do to them. · The plain law: Commit, Mount, Format. · The plain law: what a page holds; two pages in step.
-/
import Derived.Test.YtcpelncjagaadaaGreatDoorPA
namespace Go.Proofs.YtcpelncjagaadaaGreatDoor
open Go.RowKit Go.Maps

structure On (S : Sto) (D : RD) (txs : List Tx) (C : Nat → ByteArray) : Prop where
  ok : S.ok
  n : 2 + S.L.sz + S.pg ≤ D.n
  left : D.left ≤ 1000
  off : D.off = false
  waits : D.waits = []
  sup : SupAt D.s S.gen S.epoch S.L.tail
  core : Core S.L.sz S.pg D.s S.epoch S.L.tail txs S.L.next C
  new : ∀ q x, got S.L.sz D.s q x → x.t = S.L.next → x.e < S.epoch
  ep : S.L.epoch = S.epoch
  lasts : S.lasts = mapOf S.pg txs
/-- What stands on a disk. -/
def Stands (z pg b : Nat) (s : Nat → Sec Rec) (P : (Nat → ByteArray) → Prop) : Prop := ∃ g e t txs nx C, g ≤ b ∧ e ≤ b ∧ nx ≤ 1000 * b ∧ P C ∧ SupAt s g e t ∧ Core z pg s e t txs nx C
theorem Stands.mono {z pg b b' : Nat} {s : Nat → Sec Rec} {P Q : (Nat → ByteArray) → Prop} (h : Stands z pg b s P) (hb : b ≤ b') (hP : ∀ C, P C → Q C) : Stands z pg b' s Q := by
  obtain ⟨g, e, t, txs, nx, C, h1, h2, h3, h4, h5, h6⟩ := h
  exact ⟨g, e, t, txs, nx, C, by omega, by omega, by omega, hP C h4, h5, h6⟩
structure Off (z pg b : Nat) (D : RD) (P : (Nat → ByteArray) → Prop) : Prop where
  off : D.off = true
  dev : DevOk D 1000
  n : 2 + z + pg ≤ D.n
  disk : ∀ L, Stands z pg b (crashAll D.s D.waits L) P
theorem Off.mono {z pg b b' : Nat} {D : RD} {P Q : (Nat → ByteArray) → Prop} (h : Off z pg b D P) (hb : b ≤ b') (hP : ∀ C, P C → Q C) : Off z pg b' D Q :=
  ⟨h.off, h.dev, h.n, fun L => (h.disk L).mono hb hP⟩
theorem Off.arm {z pg b k : Nat} {D : RD} {P : (Nat → ByteArray) → Prop} (h : Off z pg b D P) (hk : k ≤ 1000) : Off z pg b (D.arm k) P :=
  ⟨h.off, ⟨hk, h.dev.len, h.dev.ats⟩, h.n, h.disk⟩
theorem On.arm {S : Sto} {D : RD} {txs : List Tx} {C : Nat → ByteArray} {k : Nat} (h : On S D txs C) (hk : k ≤ 1000) : On S (D.arm k) txs C :=
  ⟨h.ok, h.n, hk, h.off, h.waits, h.sup, h.core, h.new, h.ep, h.lasts⟩
theorem On.fit {S : Sto} {D : RD} {txs : List Tx} {C : Nat → ByteArray} (h : On S D txs C) : DevFit D := .inl ⟨h.left, by rw [h.waits]; simp, by rw [h.waits]; simp⟩
theorem Off.fit {z pg b : Nat} {D : RD} {P : (Nat → ByteArray) → Prop} (h : Off z pg b D P) : DevFit D := .inr ⟨h.off, h.dev⟩
theorem crash_none (s : Nat → Sec Rec) (L : List Int) : crashAll s [] L = s := rfl
theorem On.stands {S : Sto} {D : RD} {txs : List Tx} {C : Nat → ByteArray} {b : Nat} (h : On S D txs C) (h1 : S.gen ≤ b) (h2 : S.epoch ≤ b) (h3 : S.L.next ≤ 1000 * b) (L : List Int) : Stands S.L.sz S.pg b (crashAll D.s D.waits L) (· = C) := by
  rw [h.waits, crash_none]
  exact ⟨_, _, _, _, _, _, h1, h2, h3, rfl, h.sup, h.core⟩

/-! ### the map is empty only where the log is -/
theorem insAt_ne (x : Img) (m : Mp) : insAt x m ≠ [] := by
  intro h
  have := congrArg List.length h
  rw [insAt_length] at this
  simp at this
theorem merge_ne {m l : Mp} (hl : l ≠ []) : merge m l ≠ [] := by
  unfold merge
  have h2 : ∀ (l m : Mp), m ≠ [] → l.foldl (fun m x => ins x.1 x.2 m) m ≠ [] := by
    intro l
    induction l with
    | nil => exact fun m h => h
    | cons x t ih => exact fun m h => ih _ (insAt_ne _ _)
  cases l with
  | nil => exact absurd rfl hl
  | cons x t => exact h2 t _ (insAt_ne _ _)
theorem Chain.nonempty {z : Nat} {s : Nat → Sec Rec} {t : Nat} {txs : List Tx} {q least nx : Nat} (h : Chain z s t txs q least nx) : ∀ x ∈ txs, x.2 ≠ [] := by
  induction txs generalizing q least with
  | nil => intro x hx; cases hx
  | cons y r ih =>
    intro x hx
    rcases List.mem_cons.1 hx with rfl | hx
    · exact h.2.1
    · exact ih h.2.2 x hx
theorem Core.full {z pg e t nx : Nat} {s : Nat → Sec Rec} {txs : List Tx} {C : Nat → ByteArray} (h : Core z pg s e t txs nx C) (he : mapOf pg txs = []) : t = nx := by
  rcases List.eq_nil_or_concat txs with rfl | ⟨r, x, rfl⟩
  · exact h.chain
  · exfalso
    rw [List.concat_eq_append] at he h
    have hx : x ∈ r ++ [x] := by simp
    rw [show r ++ [x] = r ++ [(x.1, x.2)] from rfl, mapOf_snoc, applyTx_merge (fun y hy => (h.sizes x hx y hy).1)] at he
    exact merge_ne (h.chain.nonempty x hx) he
theorem On.com {S : Sto} {D : RD} {txs : List Tx} {C : Nat → ByteArray} (h : On S D txs C) : ComFit S D :=
  ⟨h.ok, fun _ he => h.core.full (by rw [← h.lasts]; exact he), h.n, h.fit, fun _ => h.waits⟩
theorem Off.com {z pg b : Nat} {D : RD} {P : (Nat → ByteArray) → Prop} {S : Sto} (h : Off z pg b D P) (hS : S.ok) (hz : S.L.sz = z) (hp : S.pg = pg) : ComFit S D :=
  ⟨hS, fun ho => (by rw [h.off] at ho; cases ho), (by rw [hz, hp]; exact h.n), h.fit, fun ho => (by rw [h.off] at ho; cases ho)⟩

/-! ### Checkpoint -/
theorem homesW_eq (S : Sto) : homesW S = homesOf S.L.sz S.lasts := rfl
theorem offOf {z pg b : Nat} {D D' : RD} {W : List (Nat × Rec)} {P : (Nat → ByteArray) → Prop} (ho : D'.off = true) (hn : 2 + z + pg ≤ D'.n) (hl : D'.left ≤ 1000) (hs : D'.s = D.s) (hA : Apart W) (hw : ∃ k, D'.waits = W.take k) (hlen : W.length ≤ 1000) (hat : ∀ x ∈ W, x.1 < D'.n) (hP : ∀ s', Part D.s W s' → Stands z pg b s' P) : Off z pg b D' P := by
  obtain ⟨k, hk⟩ := hw
  refine ⟨ho, ⟨hl, by rw [hk, List.length_take]; omega, fun x hx => hat x (by rw [hk] at hx; exact List.mem_of_mem_take hx)⟩, hn, fun L => hP _ ?_⟩
  rw [hk, hs]
  exact (crash_part _ (hA.take k) _ L).mono (fun x hx => List.mem_of_mem_take hx)
/-- What a batch of writes and its flush come to. -/
theorem batch {z pg b : Nat} {D : RD} {W : List (Nat × Rec)} {P : (Nat → ByteArray) → Prop} (ho : D.off = false) (hw : D.waits = []) (hn : 2 + z + pg ≤ D.n) (hl : D.left ≤ 1000) (hA : Apart W) (hlen : W.length ≤ 1000) (hat : ∀ x ∈ W, x.1 < D.n) (hP : ∀ s', Part D.s W s' → Stands z pg b s' P) :
    ((D.writes W).1 = 4 ∧ Off z pg b (D.writes W).2 P) ∨ ((D.writes W).1 = 0 ∧ ((((D.writes W).2.flush.1 = 4) ∧ Off z pg b (D.writes W).2.flush.2 P) ∨ ((D.writes W).2.flush.1 = 0 ∧ (D.writes W).2.flush.2.off = false ∧ (D.writes W).2.flush.2.waits = [] ∧ (D.writes W).2.flush.2.s = lastAll D.s W ∧ (D.writes W).2.flush.2.n = D.n ∧ (D.writes W).2.flush.2.left ≤ 1000))) := by
  obtain ⟨h1, h2, h3⟩ := writes_on ho W
  rcases h3 with ⟨a1, a2, a3⟩ | ⟨a1, a2, k, a3⟩
  · rw [hw, List.nil_append] at a3
    refine .inr ⟨a1, ?_⟩
    obtain ⟨b1, b2⟩ := flush_on a2
    rcases b2 with ⟨c1, c2, c3, c4⟩ | ⟨c1, c2, c3, c4⟩
    · exact .inr ⟨c1, c2, c3, by rw [c4, a3, h1], by rw [b1, h2], flush_left _ (writes_left _ _ hl)⟩
    · exact .inl ⟨c1, offOf (D := D) c2 (by rw [b1, h2]; exact hn) (flush_left _ (writes_left _ _ hl)) (by rw [c4, h1]) hA ⟨W.length, by rw [c3, a3, List.take_length]⟩ hlen (by rw [b1, h2]; exact hat) hP⟩
  · rw [hw, List.nil_append] at a3
    exact .inl ⟨a1, offOf (D := D) a2 (by rw [h2]; exact hn) (writes_left _ _ hl) h1 hA ⟨k, a3⟩ hlen (by rw [h2]; exact hat) hP⟩
theorem writes_one (D : RD) (a : Nat) (r : Rec) : D.writes [(a, r)] = D.write a r := by
  simp only [Dev.writes]
  split
  · rename_i h; rw [← h]
  · rfl
theorem sup_writes (D : RD) (g e t : Nat) : D.sup g e t = if (D.writes [(g % 2, .sup g e t)]).1 = 0 then (D.writes [(g % 2, .sup g e t)]).2.flush else D.writes [(g % 2, .sup g e t)] := by
  rw [writes_one]; rfl
/-- A super written and flushed. -/
theorem sup_batch {z pg b g e t : Nat} {D : RD} {P : (Nat → ByteArray) → Prop} (ho : D.off = false) (hw : D.waits = []) (hn : 2 + z + pg ≤ D.n) (hl : D.left ≤ 1000) (hP : ∀ s', Part D.s [(g % 2, .sup g e t)] s' → Stands z pg b s' P) :
    ((D.sup g e t).1 = 4 ∧ Off z pg b (D.sup g e t).2 P) ∨ ((D.sup g e t).1 = 0 ∧ (D.sup g e t).2.off = false ∧ (D.sup g e t).2.waits = [] ∧ (D.sup g e t).2.s = lastAll D.s [(g % 2, .sup g e t)] ∧ (D.sup g e t).2.n = D.n ∧ (D.sup g e t).2.left ≤ 1000) := by
  rw [sup_writes]
  rcases batch (W := [(g % 2, .sup g e t)]) ho hw hn hl (by simp [Apart]) (by simp) (by intro x hx; simp at hx; subst hx; simp only; omega) hP with ⟨h1, h2⟩ | ⟨h1, ⟨h2, h3⟩ | h2⟩
  · rw [if_neg (by rw [h1]; simp)]; exact .inl ⟨h1, h2⟩
  · rw [if_pos h1]; exact .inl ⟨h2, h3⟩
  · rw [if_pos h1]; exact .inr h2

theorem chk_on {S : Sto} {D : RD} {txs : List Tx} {C : Nat → ByteArray} {b : Nat} (h : On S D txs C) (hg : S.gen + 1 ≤ b) (hb : b ≤ 1000000) (he : S.epoch ≤ b) (hx : S.L.next ≤ 1000 * b) :
    ((S.checkpoint D).1 = 4 ∧ (S.checkpoint D).2.1 = S ∧ Off S.L.sz S.pg b (S.checkpoint D).2.2 (· = C)) ∨ ((S.checkpoint D).1 = 0 ∧ ∃ txs', On (S.checkpoint D).2.1 (S.checkpoint D).2.2 txs' C ∧ (S.checkpoint D).2.1.waits = S.waits) := by
  have hok := h.ok
  by_cases hl : S.lasts = []
  · have e : S.checkpoint D = (0, S, D) := by unfold Sto.checkpoint; rw [if_pos hl]
    rw [e]
    exact .inr ⟨rfl, txs, h, rfl⟩
  · have hz := hok.sz
    have hpg := hok.pg
    have hm := mapOf_pages h.core
    rw [← h.lasts] at hm
    have hlen : (homesW S).length ≤ 1000 := by rw [homesW_length]; have := hm.length; omega
    have hA : Apart (homesW S) := homes_apart hm.1
    have hP : ∀ s', Part D.s (homesW S) s' → Stands S.L.sz S.pg b s' (· = C) := by
      intro s' hp
      rw [homesW_eq, h.lasts] at hp
      obtain ⟨h1, h2⟩ := h.core.homes (by omega) (by omega) hp
      exact ⟨_, _, _, _, _, _, by omega, he, hx, rfl, h.sup.keep h2, h1⟩
    unfold Sto.checkpoint
    rw [if_neg hl]
    rcases batch (W := homesW S) h.off h.waits h.n h.left hA hlen (fun x hx => by
      simp only [homesW, List.mem_map] at hx
      obtain ⟨y, hy, rfl⟩ := hx
      have := (hm.2 y hy).1
      have := h.n
      simp only
      omega) hP with ⟨h1, h2⟩ | ⟨h1, ⟨h2, h3⟩ | ⟨f1, f2, f3, f4, f5, f6⟩⟩
    · rw [if_pos (by rw [h1]; simp)]; exact .inl ⟨h1, rfl, h2⟩
    · rw [if_neg (by rw [h1]; simp), if_pos (by rw [h2]; simp)]; exact .inl ⟨h2, rfl, h3⟩
    · rw [if_neg (by rw [h1]; simp), if_neg (by rw [f1]; simp)]
      generalize (D.writes (homesW S)).2.flush.2 = D2 at *
      have hc : Cur S.L.sz S.pg D2.s C := by rw [f4, homesW_eq, h.lasts]; exact h.core.cur
      have hp2 := last_part (homesW S) hA D.s
      rw [← f4, homesW_eq, h.lasts] at hp2
      obtain ⟨k1, k2⟩ := h.core.homes (by omega) (by omega) hp2
      have hs2 := h.sup.keep k2
      have hok1 : (Rec.sup (S.gen + 1) S.epoch S.L.next).ok := by
        have h9 : 10000000 < big := by decide
        have := hok.gen
        have := hok.epoch
        have := hok.L.next
        exact ⟨by omega, by omega, by omega⟩
      have htr := k1.trim hc
      have hout : ∀ s', Part D2.s [((S.gen + 1) % 2, Rec.sup (S.gen + 1) S.epoch S.L.next)] s' → ∀ j, 2 ≤ j → s' j = D2.s j := by
        intro s' hp j hj
        exact hp.out (fun r hr => by simp at hr; omega)
      have hP2 : ∀ s', Part D2.s [((S.gen + 1) % 2, .sup (S.gen + 1) S.epoch S.L.next)] s' → Stands S.L.sz S.pg b s' (· = C) := by
        intro s' hp
        rcases hs2.part hok1 hp with h3 | h3
        · exact ⟨_, _, _, _, _, _, by omega, he, hx, rfl, h3, k1.keep (hout s' hp)⟩
        · exact ⟨_, _, _, _, _, _, hg, he, hx, rfl, h3, htr.keep (hout s' hp)⟩
      rcases sup_batch (D := D2) (z := S.L.sz) (pg := S.pg) f2 f3 (by rw [f5]; exact h.n) f6 hP2 with ⟨m1, m2⟩ | ⟨m1, m2, m3, m4, m5, m6⟩
      · rw [if_pos (by rw [m1]; simp)]; exact .inl ⟨m1, rfl, m2⟩
      · rw [if_neg (by rw [m1]; simp)]
        have hA2 : Apart [((S.gen + 1) % 2, Rec.sup (S.gen + 1) S.epoch S.L.next)] := by simp [Apart]
        have hp3 := last_part [((S.gen + 1) % 2, Rec.sup (S.gen + 1) S.epoch S.L.next)] hA2 D2.s
        rw [← m4] at hp3
        have hin := last_in _ hA2 D2.s (a := (S.gen + 1) % 2) (r := Rec.sup (S.gen + 1) S.epoch S.L.next) (by simp)
        rw [← m4] at hin
        have hL := hok.L
        refine .inr ⟨rfl, [], ⟨⟨⟨Nat.le_refl _, Nat.le_add_right _ _, hL.sz, hL.next, hL.epoch⟩, hok.sz, hok.pg, by show S.gen + 1 ≤ 1000000; omega, hok.epoch, hok.turn, ⟨List.Pairwise.nil, by simp⟩, hok.waits⟩, by rw [m5, f5]; exact h.n, m6, m2, m3, hs2.set hok1 hin (hp3.out (fun r hr => by simp at hr; omega)), htr.keep (hout _ hp3), ?_, h.ep, rfl⟩, rfl⟩
        intro q x hx
        have hx2 : got S.L.sz D.s q x := by
          unfold got at *
          have e1 : secOf S.L.sz (D2.sup (S.gen + 1) S.epoch S.L.next).2.s q = secOf S.L.sz D.s q := by
            have e2 := hout _ hp3 (2 + q % S.L.sz) (by omega)
            refine e2.trans ?_
            rw [f4]
            refine last_out _ _ (fun r hr => ?_)
            rw [homesW_eq] at hr
            obtain ⟨y, -, hy, -⟩ := homes_mem.1 hr
            have := Nat.mod_lt q (show S.L.sz > 0 by omega)
            omega
          rw [← e1]; exact hx
        exact h.new q x hx2

end Go.Proofs.YtcpelncjagaadaaGreatDoor

namespace Go.Proofs.YtcpelncjagaadaaGreatDoor
open Go.RowKit Go.Maps

theorem over_mem {l : Mp} {C : Nat → ByteArray} {p : Nat} {d : ByteArray} (h : look l p = some d) : over l C p = d := by unfold over; rw [h]; rfl
theorem over_out {l : Mp} {C : Nat → ByteArray} {p : Nat} (h : look l p = none) : over l C p = C p := by unfold over; rw [h]; rfl

/-- What is told of a store behind a commit that failed. -/
structure Left (S S' : Sto) : Prop where
  ok : S'.ok
  sz : S'.L.sz = S.L.sz
  pg : S'.pg = S.pg
  waits : S'.waits = S.waits
theorem logged_ok {S : Sto} (hS : S.ok) (hr : S.waits.length + 1 ≤ S.L.sz - (S.L.next - S.L.tail)) (hx : S.L.next + S.waits.length + 1 ≤ 1000000) : S.logged.ok := by
  have h1 := hS.L
  have h2 := h1.le
  have h3 := h1.room
  exact ⟨⟨by show S.L.tail ≤ S.L.next + S.waits.length + 1; omega, by show S.L.next + S.waits.length + 1 ≤ S.L.tail + S.L.sz; omega, h1.sz, hx, h1.epoch⟩, hS.sz, hS.pg, hS.gen, hS.epoch, hS.turn, hS.lasts, hS.waits⟩

theorem app_on {S : Sto} {D : RD} {txs : List Tx} {C : Nat → ByteArray} {b : Nat} (h : On S D txs C) (hw : S.waits ≠ []) (hr : S.waits.length + 1 ≤ S.L.sz - (S.L.next - S.L.tail)) (hg : S.gen ≤ b) (he : S.epoch ≤ b) (hx : S.L.next + S.waits.length + 1 ≤ 1000 * b) (hb : b ≤ 900) (ht : S.turn + 1 ≤ 1000000) :
    ((S.append D).1 = 4 ∧ Left S (S.append D).2.1 ∧ Off S.L.sz S.pg b (S.append D).2.2 (fun C' => C' = C ∨ C' = over S.waits C)) ∨ ((S.append D).1 = 0 ∧ (S.append D).2.1 = S.done ∧ ∃ txs', On S.done (S.append D).2.2 txs' (over S.waits C)) := by
  have hok := h.ok
  have hz := hok.sz
  have hL := hok.L
  have hLw : S.L = walOf S.L.sz S.L.tail S.L.next S.epoch := by rw [← h.ep]
  have hwl := hok.waits.length
  have hpg := hok.pg
  have hF : AppFit S.L.sz S.pg D.s S.epoch S.L.tail S.L.next S.waits :=
    ⟨h.new, hw, by omega, hr, fun i hi => by
      have := recOf_ok S.L hL S.waits (by omega) (fun x hx => ⟨by have h9 : 900 < big := (by decide); have := (hok.waits.2 x hx).1; omega, (hok.waits.2 x hx).2⟩) i (by omega)
      rw [← hLw]; exact this, hok.waits⟩
  have hA : Apart (txWs S.L S.waits) := by rw [hLw]; exact txWs_apart (by omega)
  have hlen : (txWs S.L S.waits).length ≤ 1000 := by rw [txWs_length]; omega
  have hP : ∀ s', Part D.s (txWs S.L S.waits) s' → Stands S.L.sz S.pg b s' (fun C' => C' = C ∨ C' = over S.waits C) := by
    intro s' hp
    rw [hLw] at hp
    rcases h.core.app_part hF hp with h1 | h1
    · exact ⟨_, _, _, _, _, _, hg, he, by omega, .inl rfl, h.sup.keep (app_sup hF hp), h1⟩
    · exact ⟨_, _, _, _, _, _, hg, he, hx, .inr rfl, h.sup.keep (app_sup hF hp), h1⟩
  have hlg := logged_ok hok hr (by omega)
  have hleft : Left S S := ⟨hok, rfl, rfl, rfl⟩
  unfold Sto.append
  rcases batch (W := txWs S.L S.waits) h.off h.waits h.n h.left hA hlen (fun x hx => by
      exact txWs_ats hL.sz.1 (by have := h.n; omega) x hx) hP with ⟨h1, h2⟩ | ⟨h1, ⟨h2, h3⟩ | ⟨f1, f2, f3, f4, f5, f6⟩⟩
  · rw [if_pos (by rw [h1]; simp)]; exact .inl ⟨h1, hleft, h2⟩
  · rw [if_neg (by rw [h1]; simp), if_pos (by rw [h2]; simp)]; exact .inl ⟨h2, ⟨hlg, rfl, rfl, rfl⟩, h3⟩
  · rw [if_neg (by rw [h1]; simp), if_neg (by rw [f1]; simp)]
    refine .inr ⟨rfl, rfl, txs ++ [(S.epoch, S.waits)], ?_⟩
    generalize (D.writes (txWs S.L S.waits)).2.flush.2 = D2 at *
    have hp := last_part (txWs S.L S.waits) hA D.s
    rw [← f4] at hp
    have hin : ∀ i, i ≤ S.waits.length → D2.s (2 + (S.L.next + i) % S.L.sz) = ⟨some (recOf (walOf S.L.sz S.L.tail S.L.next S.epoch) S.waits i).r, false⟩ := by
      intro i hi
      rw [f4]
      refine last_in _ hA D.s ?_
      rw [hLw]
      exact txWs_mem.2 ⟨i, hi, rfl, rfl⟩
    have hp' := hp
    rw [hLw] at hp'
    have hcore := h.core.app_full hF hp' hin
    have hlasts : S.done.lasts = mapOf S.pg (txs ++ [(S.epoch, S.waits)]) := by
      rw [mapOf_snoc, applyTx_merge (fun x hx => (hok.waits.2 x hx).1), ← h.lasts]; rfl
    refine ⟨⟨⟨hlg.L.le, hlg.L.room, hL.sz, hlg.L.next, hL.epoch⟩, hz, hpg, hok.gen, hok.epoch, ht, ?_, ⟨List.Pairwise.nil, by simp [Sto.done]⟩⟩, by show 2 + S.L.sz + S.pg ≤ D2.n; rw [f5]; exact h.n, f6, f2, f3, h.sup.keep (app_sup hF hp'), hcore, ?_, h.ep, hlasts⟩
    · rw [hlasts]; exact mapOf_pages hcore
    · intro q x hx1 hx2
      have h7 := (h.core.app_old hp' (Nat.le_refl _) q x hx1).1
      have h8 : x.t = S.L.next + S.waits.length + 1 := hx2
      omega
theorem On.flushed {S : Sto} {D D' : RD} {txs : List Tx} {C : Nat → ByteArray} (h : On S D txs C) (h1 : D'.s = D.s) (h2 : D'.off = false) (h3 : D'.waits = []) (h4 : D'.n = D.n) (h5 : D'.left ≤ 1000) : On S D' txs C :=
  ⟨h.ok, by rw [h4]; exact h.n, h5, h2, h3, by rw [h1]; exact h.sup, by rw [h1]; exact h.core, by rw [h1]; exact h.new, h.ep, h.lasts⟩
theorem On.cut {S : Sto} {D D' : RD} {txs : List Tx} {C : Nat → ByteArray} {b : Nat} (h : On S D txs C) (hg : S.gen ≤ b) (he : S.epoch ≤ b) (hx : S.L.next ≤ 1000 * b) (h1 : D'.s = D.s) (h2 : D'.off = true) (h3 : D'.waits = []) (h4 : D'.n = D.n) (h5 : D'.left ≤ 1000) : Off S.L.sz S.pg b D' (· = C) :=
  ⟨h2, ⟨h5, by rw [h3]; simp, by rw [h3]; simp⟩, by rw [h4]; exact h.n, fun L => by
    rw [h1, h3, crash_none]
    exact ⟨_, _, _, _, _, _, hg, he, hx, rfl, h.sup, h.core⟩⟩
theorem flush_law {S : Sto} {D : RD} {txs : List Tx} {C : Nat → ByteArray} {b : Nat} (h : On S D txs C) (hg : S.gen ≤ b) (he : S.epoch ≤ b) (hx : S.L.next ≤ 1000 * b) :
    (D.flush.1 = 4 ∧ Off S.L.sz S.pg b D.flush.2 (· = C)) ∨ (D.flush.1 = 0 ∧ On S D.flush.2 txs C) := by
  obtain ⟨h1, h2⟩ := flush_on h.off
  rcases h2 with ⟨a1, a2, a3, a4⟩ | ⟨a1, a2, a3, a4⟩
  · exact .inr ⟨a1, h.flushed (by rw [a4, h.waits]; rfl) a2 a3 h1 (flush_left _ h.left)⟩
  · exact .inl ⟨a1, h.cut hg he hx a4 a2 (by rw [a3, h.waits]) h1 (flush_left _ h.left)⟩

/-- Commit, the power on. -/
theorem com_on {S : Sto} {D : RD} {txs : List Tx} {C : Nat → ByteArray} {b : Nat} (h : On S D txs C) (hw : S.waits ≠ []) (hl : S.waits.length + 1 ≤ S.L.sz) (hg : S.gen + 1 ≤ b) (he : S.epoch ≤ b) (hx : S.L.next + S.waits.length + 1 ≤ 1000 * b) (hb : b ≤ 900) (ht : S.turn + 1 ≤ 1000000) :
    ((S.commit D).1 = 4 ∧ Left S (S.commit D).2.1 ∧ Off S.L.sz S.pg b (S.commit D).2.2 (fun C' => C' = C ∨ C' = over S.waits C)) ∨ ((S.commit D).1 = 0 ∧ (S.commit D).2.1.waits = [] ∧ (S.commit D).2.1.L.sz = S.L.sz ∧ (S.commit D).2.1.pg = S.pg ∧ (S.commit D).2.1.gen ≤ S.gen + 1 ∧ (S.commit D).2.1.epoch = S.epoch ∧ (S.commit D).2.1.L.next = S.L.next + S.waits.length + 1 ∧ (S.commit D).2.1.turn = S.turn + 1 ∧ ∃ txs', On (S.commit D).2.1 (S.commit D).2.2 txs' (over S.waits C)) := by
  have hok := h.ok
  have hleft : Left S S := ⟨hok, rfl, rfl, rfl⟩
  unfold Sto.commit
  rw [if_neg hw, if_neg (by omega)]
  rcases flush_law (b := b) h (by omega) he (by omega) with ⟨h1, h2⟩ | ⟨h1, h2⟩
  · rw [if_pos (by rw [h1]; simp)]; exact .inl ⟨h1, hleft, h2.mono (Nat.le_refl _) (fun _ => .inl)⟩
  · rw [if_neg (by rw [h1]; simp)]
    by_cases hr : S.waits.length + 1 > S.L.sz - (S.L.next - S.L.tail)
    · rw [if_pos hr]
      rcases chk_on (b := b) h2 hg (by omega) he (by omega) with ⟨c1, c2, c3⟩ | ⟨c1, txs', c2, c3⟩
      · rw [if_pos (by rw [c1]; simp)]; exact .inl ⟨c1, by rw [c2]; exact hleft, c3.mono (Nat.le_refl _) (fun _ => .inl)⟩
      · rw [if_neg (by rw [c1]; simp)]
        obtain ⟨r1, r2, r3, r4, r5, r6, r7, r8, r9, r10⟩ := chk_room c1 (fun he => h2.core.full (by rw [← h2.lasts]; exact he))
        generalize (S.checkpoint D.flush.2).2.1 = S1 at *
        generalize (S.checkpoint D.flush.2).2.2 = D1 at *
        rcases app_on (b := b) c2 (by rw [r3]; exact hw) (by rw [r3]; omega) (by omega) (by omega) (by rw [r3]; omega) hb (by omega) with ⟨a1, a2, a3⟩ | ⟨a1, a2, txs2, a3⟩
        · rw [r2, r7, r3] at a3
          exact .inl ⟨a1, ⟨a2.ok, by rw [a2.sz, r2], by rw [a2.pg, r7], by rw [a2.waits, r3]⟩, a3⟩
        · rw [r3] at a3
          rw [a2]
          exact .inr ⟨a1, rfl, r2, r7, r8, r9, by show S1.L.next + S1.waits.length + 1 = _; rw [r5, r3], by show S1.turn + 1 = _; rw [r10], txs2, a3⟩
    · rw [if_neg hr]
      rcases app_on (b := b) h2 hw (by omega) (by omega) he hx hb ht with ⟨a1, a2, a3⟩ | ⟨a1, a2, txs2, a3⟩
      · exact .inl ⟨a1, a2, a3⟩
      · rw [a2]
        exact .inr ⟨a1, rfl, rfl, rfl, Nat.le_succ _, rfl, rfl, rfl, txs2, a3⟩
/-- Commit, the power off. -/
theorem com_off {S : Sto} {D : RD} (ho : D.off = true) (hl : S.waits.length + 1 ≤ S.L.sz) : S.commit D = (4, S, D) := by
  unfold Sto.commit
  rw [flush_off ho]
  split
  · rfl
  · rw [if_neg (by omega), if_pos (by simp)]
theorem chk_off {S : Sto} {D : RD} (ho : D.off = true) : (S.checkpoint D).2 = (S, D) ∧ ((S.checkpoint D).1 = 0 ∨ (S.checkpoint D).1 = 4) := by
  refine ⟨?_, chk_cases S D⟩
  unfold Sto.checkpoint
  split
  · rfl
  · rename_i hl
    have hW : homesW S ≠ [] := by
      intro e
      have := congrArg List.length e
      rw [homesW_length] at this
      exact hl (List.length_eq_zero_iff.1 this)
    rw [writes_off ho hW, if_pos (by simp)]

/-! ### Mount, Format -/
theorem sup_free {D : RD} (h1 : D.off = false) (h2 : D.armed = false) (h3 : D.waits = []) (g e t : Nat) : D.sup g e t = (0, { D with s := lastAll D.s [(g % 2, .sup g e t)], waits := [] }) := by
  obtain ⟨n, s, w, o, a, l⟩ := D
  simp only at h1 h2 h3
  subst h1 h2 h3
  simp [Dev.sup, Dev.write, Dev.flush, Dev.spend]
theorem mount_on {z pg g e t nx b : Nat} {D : RD} {txs : List Tx} {C : Nat → ByteArray} (h1 : D.off = false) (h2 : D.armed = false) (h3 : D.waits = []) (hz : 4 ≤ z ∧ z ≤ 900) (hpg : 1 ≤ pg ∧ pg ≤ 900) (hn : 2 + z + pg ≤ D.n) (hl : D.left ≤ 1000) (hs : SupAt D.s g e t) (hc : Core z pg D.s e t txs nx C) (hb : b + 1 ≤ 900) (hg : g ≤ b) (he : e ≤ b) (hx : nx ≤ 1000 * b) :
    mounted z pg D.s g e t = ⟨⟨z, t, nx, e + 1⟩, pg, g, e + 1, mapOf pg txs, [], 0⟩ ∧ On { mounted z pg D.s g e t with gen := g + 1 } (D.sup (g + 1) (e + 1) t).2 txs C := by
  have hsc := hc.chain.scan hc.stop (Nat.le_refl _) (show z - (t - t) < z + 1 by omega)
  have e1 : mounted z pg D.s g e t = ⟨⟨z, t, nx, e + 1⟩, pg, g, e + 1, mapOf pg txs, [], 0⟩ := by
    unfold mounted; rw [hsc]
  refine ⟨e1, ?_⟩
  rw [e1, sup_free h1 h2 h3]
  have hle := hc.le
  have hok1 : (Rec.sup (g + 1) (e + 1) t).ok := by
    have h9 : 10000000 < big := by decide
    exact ⟨by omega, by omega, by omega⟩
  have hA2 : Apart [((g + 1) % 2, Rec.sup (g + 1) (e + 1) t)] := by simp [Apart]
  have hp3 := last_part [((g + 1) % 2, Rec.sup (g + 1) (e + 1) t)] hA2 D.s
  have hin := last_in _ hA2 D.s (a := (g + 1) % 2) (r := Rec.sup (g + 1) (e + 1) t) (by simp)
  have hout : ∀ j, 2 ≤ j → lastAll D.s [((g + 1) % 2, Rec.sup (g + 1) (e + 1) t)] j = D.s j := fun j hj => hp3.out (fun r hr => by simp at hr; omega)
  refine ⟨⟨⟨hle.1, hle.2, ⟨by show 2 ≤ z; omega, by show z ≤ 1000; omega⟩, by show nx ≤ 1000000; omega, by show e + 1 ≤ 1000000; omega⟩, hz, hpg, by show g + 1 ≤ 1000000; omega, by show e + 1 ≤ 1000000; omega, Nat.zero_le _, mapOf_pages hc, ⟨List.Pairwise.nil, by simp⟩⟩, hn, hl, h1, rfl, hs.set hok1 hin (hp3.out (fun r hr => by simp at hr; omega)), (hc.epoch (Nat.le_succ _)).keep hout, ?_, rfl, rfl⟩
  intro q x hx1 _
  have : got z D.s q x := by
    unfold got at *
    have e2 : secOf z (lastAll D.s [((g + 1) % 2, Rec.sup (g + 1) (e + 1) t)]) q = secOf z D.s q := hout _ (by omega)
    rw [← e2]; exact hx1
  have h5 := (hc.old q x this).2
  show x.e < e + 1
  omega

/-- Mount of what stands. -/
theorem mount_law [Inhabited Bs] (p z pg b : Nat) (D : RD) (w : World) {P : (Nat → ByteArray) → Prop} (h : DevAt Rec.bytes w p D) (h1 : D.off = false) (h2 : D.armed = false) (h3 : D.waits = []) (hz : 4 ≤ z ∧ z ≤ 900) (hpg : 1 ≤ pg ∧ pg ≤ 900) (hn : 2 + z + pg ≤ D.n) (hl : D.left ≤ 1000) (hb : b + 1 ≤ 900) (hS : Stands z pg b D.s P) :
    Calls Tryz.prog 7 #[.pointer (some ⟨p, 0, none⟩), .int .i64 z, .int .i64 pg] w fun ee w' => ∃ a S D' txs C, ee = .returned (.tuple #[.pointer (some ⟨a, 0, none⟩), .int .i64 0]) ∧ StoAt w' a p S D' ∧ On S D' txs C ∧ P C ∧ S.L.sz = z ∧ S.pg = pg ∧ S.gen ≤ b + 1 ∧ S.epoch ≤ b + 1 ∧ S.L.next ≤ 1000 * b ∧ S.waits = [] ∧ S.turn = 0 ∧ D'.n = D.n ∧ Kept stoT w w' := by
  obtain ⟨g, e, t, txs, nx, C, hg, he, hx, hP, hs, hc⟩ := hS
  obtain ⟨e1, hon⟩ := mount_on h1 h2 h3 hz hpg hn hl hs hc hb hg he hx
  have hsc := hc.chain.scan hc.stop (Nat.le_refl _) (show z - (t - t) < z + 1 by omega)
  have hle := hc.le
  have hr := hc.chain.room
  refine (mount_any p z pg D w h h1 h3 hz hpg hn hl (fun j hj => hs.sec j hj) hc.log g e t hs.best2 (by omega) (by rw [sup_free h1 h2 h3]) ?_ ?_ ?_).mono ?_
  · rw [hsc]
    intro l hl2
    obtain ⟨y, hy, rfl⟩ := List.mem_map.1 hl2
    rcases hr.2 y hy with h5 | h5
    · omega
    · rw [h5] at hy; cases hy
  · rw [hsc, List.length_map]; omega
  · rw [hsc]
    intro l hl2 x hx2
    obtain ⟨y, hy, rfl⟩ := List.mem_map.1 hl2
    exact (hc.sizes y hy x hx2).2
  · rintro ee w' ⟨a, rfl, hst, hk⟩
    refine ⟨a, _, _, txs, C, rfl, hst, hon, hP, ?_, ?_, ?_, ?_, ?_, ?_, ?_, ?_, hk⟩
    all_goals first | (rw [sup_free h1 h2 h3]; done) | (rw [e1]; done) | (rw [e1]; show _ ≤ _; simp only; omega)

theorem format_law (n z pg : Nat) (hz : 2 ≤ z) : ((Dev.new n : RD).sup 1 0 0).1 = 0 ∧ ((Dev.new n : RD).sup 1 0 0).2.off = false ∧ ((Dev.new n : RD).sup 1 0 0).2.armed = false ∧ ((Dev.new n : RD).sup 1 0 0).2.waits = [] ∧ ((Dev.new n : RD).sup 1 0 0).2.n = n ∧ ((Dev.new n : RD).sup 1 0 0).2.left = 0 ∧ Stands z pg 1 ((Dev.new n : RD).sup 1 0 0).2.s (· = fun _ => ⟨#[]⟩) := by
  rw [sup_free rfl rfl rfl]
  refine ⟨rfl, rfl, rfl, rfl, rfl, rfl, 1, 0, 0, [], 0, _, Nat.le_refl _, by omega, by omega, rfl, ?_, ?_⟩
  · refine ⟨fun j hj r hr => ?_, rfl, fun x hx => (by cases hx)⟩
    have : j = 0 ∨ j = 1 := by omega
    rcases this with rfl | rfl
    · cases hr
    · injection hr with hr
      exact ⟨1, 0, 0, hr.symm, by rw [← hr]; exact ⟨by decide, by decide, by decide⟩⟩
  · have h0 : ∀ j, 2 ≤ j → lastAll (Dev.new n : RD).s [(1 % 2, Rec.sup 1 0 0)] j = ⟨none, false⟩ := by
      intro j hj
      exact last_out _ _ (fun r hr => by simp at hr; omega)
    have h1 : ∀ q j, recAt z (lastAll (Dev.new n : RD).s [(1 % 2, Rec.sup 1 0 0)]) q j = (LR.zero, false) := by
      intro q j
      unfold recAt secOf
      rw [h0 _ (by omega)]
      rfl
    show Core z pg (lastAll (Dev.new n : RD).s [(1 % 2, Rec.sup 1 0 0)]) 0 0 [] 0 _
    generalize lastAll (Dev.new n : RD).s [(1 % 2, Rec.sup 1 0 0)] = s0 at *
    refine ⟨fun j r hr => ?_, fun q x hx => ?_, rfl, fun x hx => (by cases hx), ⟨Nat.le_refl _, Nat.zero_le _⟩, fun least room => ?_, fun x hx => (by cases hx), fun p hp r hr => ?_, fun p hp => ?_⟩
    · rw [h0 _ (by omega)] at hr; cases hr
    · have := h1 q 0
      unfold recAt at this
      unfold got at hx
      rw [Nat.add_zero, hx] at this
      cases this
    · unfold txL; rw [h1]; simp
    · rw [h0 _ (by omega)] at hr; cases hr
    · show (s0 (2 + z + p)).torn = false ∧ _ = homeText (s0 (2 + z + p))
      rw [h0 _ (by omega)]
      exact ⟨rfl, rfl⟩

end Go.Proofs.YtcpelncjagaadaaGreatDoor

namespace Go.Proofs.YtcpelncjagaadaaGreatDoor
open Go.RowKit Go.Maps

theorem readH_home {x : Sec Rec} (ht : x.torn = false) : readH x = (homeText x, 0) := by
  obtain ⟨y, t⟩ := x
  simp only at ht
  subst ht
  rcases y with _ | _ | _ | _ <;> rfl
theorem get_law {S : Sto} {D : RD} {txs : List Tx} {C : Nat → ByteArray} (h : On S D txs C) (hw : S.waits = []) {k : Nat} (hk : k < S.pg) : S.get D k = (C k, 0) := by
  have ht := h.core.text k hk
  unfold Sto.get
  rw [hw]
  show (match look S.lasts k with | some d => (d, 0) | none => readH (D.s (2 + S.L.sz + k))) = _
  rw [h.lasts]
  cases hl : look (mapOf S.pg txs) k with
  | some d => rw [hl] at ht; simp only at ht ⊢; rw [ht]
  | none =>
    rw [hl] at ht
    simp only at ht ⊢
    rw [readH_home ht.1, ht.2]

theorem app_gen (S : Sto) (D : RD) : (S.append D).2.1.gen = S.gen := by
  unfold Sto.append
  split
  · rfl
  · split <;> rfl
theorem chk_gen (S : Sto) (D : RD) : (S.checkpoint D).2.1.gen ≤ S.gen + 1 := by
  unfold Sto.checkpoint; repeat' split
  all_goals first | exact Nat.le_succ _ | exact Nat.le_refl _
theorem com_gen (S : Sto) (D : RD) : (S.commit D).2.1.gen ≤ S.gen + 1 := by
  unfold Sto.commit; repeat' split
  all_goals first | exact Nat.le_succ _ | exact chk_gen _ _ | (rw [app_gen]; first | exact chk_gen _ _ | exact Nat.le_succ _)
theorem On.put {S : Sto} {D : RD} {txs : List Tx} {C : Nat → ByteArray} (h : On S D txs C) {l : Mp} (hl : PagesOk S.pg l) : On { S with waits := l } D txs C :=
  ⟨⟨h.ok.L, h.ok.sz, h.ok.pg, h.ok.gen, h.ok.epoch, h.ok.turn, h.ok.lasts, hl⟩, h.n, h.left, h.off, h.waits, h.sup, h.core, h.new, h.ep, h.lasts⟩

/-- The two pages that go in step. -/
def Two (s m : ByteArray) (C : Nat → ByteArray) : Prop := C 3 = C 8 ∧ (C 3 = s ∨ C 3 = m)
def two (v : ByteArray) : Mp := [(3, v), (8, v)]
theorem ins_two_nil (v : ByteArray) : ins 8 v (ins 3 v []) = two v := rfl
theorem ins_two (x v : ByteArray) : ins 8 v (ins 3 v (two x)) = two v := rfl
theorem two_ok {v : ByteArray} (hv : v.size ≤ 160) : PagesOk 10 (two v) := by
  refine ⟨by unfold Mp.ok two; simp, fun x hx => ?_⟩
  unfold two at hx
  simp at hx
  rcases hx with rfl | rfl
  · exact ⟨show 3 < 10 by decide, hv⟩
  · exact ⟨show 8 < 10 by decide, hv⟩
theorem over_two (v : ByteArray) (C : Nat → ByteArray) : over (two v) C 3 = v ∧ over (two v) C 8 = v := ⟨rfl, rfl⟩

/-- The store between two steps of the play. -/
structure Play (S : Sto) (D : RD) (b : Nat) (s m : ByteArray) : Prop where
  sok : S.ok
  sz : S.L.sz = 6
  pg : S.pg = 10
  gen : S.gen ≤ b
  st : (∃ txs C, On S D txs C ∧ C 3 = s ∧ C 8 = s ∧ m = s ∧ S.waits = [] ∧ S.epoch ≤ b ∧ S.L.next ≤ 1000 * b ∧ S.turn ≤ b) ∨ (Off 6 10 b D (Two s m) ∧ (S.waits = [] ∨ ∃ x, x.size ≤ 160 ∧ S.waits = two x))

theorem Play.left {S : Sto} {D : RD} {b : Nat} {s m : ByteArray} (h : Play S D b s m) : D.left ≤ 1000 := by
  rcases h.st with ⟨txs, C, ho, -⟩ | ⟨ho, -⟩
  · exact ho.left
  · exact ho.dev.left
theorem Play.n {S : Sto} {D : RD} {b : Nat} {s m : ByteArray} (h : Play S D b s m) : 2 + S.L.sz + S.pg ≤ D.n := by
  rcases h.st with ⟨txs, C, ho, -⟩ | ⟨ho, -⟩
  · exact ho.n
  · rw [h.sz, h.pg]; exact ho.n
theorem Play.devs {S : Sto} {D : RD} {b : Nat} {s m : ByteArray} (h : Play S D b s m) : D.waits.length ≤ 1000 ∧ ∀ x ∈ D.waits, x.1 < D.n := by
  rcases h.st with ⟨txs, C, ho, -⟩ | ⟨ho, -⟩
  · rw [ho.waits]; simp
  · exact ⟨ho.dev.len, ho.dev.ats⟩
theorem Play.fit {S : Sto} {D : RD} {b : Nat} {s m : ByteArray} (h : Play S D b s m) : DevFit D := by
  rcases h.st with ⟨txs, C, ho, -⟩ | ⟨ho, -⟩
  · exact ho.fit
  · exact ho.fit
theorem Play.len {S : Sto} {D : RD} {b : Nat} {s m : ByteArray} (h : Play S D b s m) : S.waits.length ≤ 2 := by
  rcases h.st with ⟨txs, C, ho, -, -, -, hw, -⟩ | ⟨ho, hw | ⟨x, -, hw⟩⟩ <;> rw [hw] <;> simp [two]
theorem Play.mono {S : Sto} {D : RD} {b b' : Nat} {s m : ByteArray} (h : Play S D b s m) (hb : b ≤ b') : Play S D b' s m := by
  refine ⟨h.sok, h.sz, h.pg, by have := h.gen; omega, ?_⟩
  rcases h.st with ⟨txs, C, ho, h1, h2, h3, h4, h5, h6, h7⟩ | ⟨ho, hw⟩
  · exact .inl ⟨txs, C, ho, h1, h2, h3, h4, by omega, by omega, by omega⟩
  · exact .inr ⟨ho.mono hb (fun _ h => h), hw⟩
theorem Play.arm {S : Sto} {D : RD} {b k : Nat} {s m : ByteArray} (h : Play S D b s m) (hk : k ≤ 1000) : Play S (D.arm k) b s m := by
  refine ⟨h.sok, h.sz, h.pg, h.gen, ?_⟩
  rcases h.st with ⟨txs, C, ho, h1⟩ | ⟨ho, hw⟩
  · exact .inl ⟨txs, C, ho.arm hk, h1⟩
  · exact .inr ⟨ho.arm hk, hw⟩
/-- Behind the power's fail. -/
theorem Play.stands {S : Sto} {D : RD} {b : Nat} {s m : ByteArray} (h : Play S D b s m) (L : List Int) : Stands 6 10 b (crashAll D.s D.waits L) (Two s m) := by
  rcases h.st with ⟨txs, C, ho, h1, h2, h3, h4, h5, h6, h7⟩ | ⟨ho, hw⟩
  · have := ho.stands h.gen h5 h6 L
    rw [h.sz, h.pg] at this
    exact this.mono (Nat.le_refl _) (fun C' hC => by rw [hC]; exact ⟨by rw [h1, h2], .inl h1⟩)
  · exact ho.disk L
theorem Play.of_on {S : Sto} {D : RD} {b : Nat} {txs : List Tx} {C : Nat → ByteArray} (h : On S D txs C) (h1 : S.L.sz = 6) (h2 : S.pg = 10) (h3 : S.gen ≤ b) (h4 : S.epoch ≤ b) (h5 : S.L.next ≤ 1000 * b) (h6 : S.turn ≤ b) (h7 : S.waits = []) (h8 : C 8 = C 3) : Play S D b (C 3) (C 3) :=
  ⟨h.ok, h1, h2, h3, .inl ⟨txs, C, h, rfl, h8, rfl, h7, h4, h5, h6⟩⟩
theorem Play.chk {S : Sto} {D : RD} {b : Nat} {s m : ByteArray} (h : Play S D b s m) (hb : b + 1 ≤ 900) : Play (S.checkpoint D).2.1 (S.checkpoint D).2.2 (b + 1) s m ∧ ((S.checkpoint D).1 = 0 ∨ (S.checkpoint D).1 = 4) := by
  refine ⟨?_, chk_cases S D⟩
  have hg := h.gen
  rcases h.st with ⟨txs, C, ho, h1, h2, h3, h4, h5, h6, h7⟩ | ⟨ho, hw⟩
  · rcases chk_on (b := b + 1) ho (by omega) (by omega) (by omega) (by omega) with ⟨c1, c2, c3⟩ | ⟨c1, txs', c2, c3⟩
    · rw [c2]
      rw [h.sz, h.pg] at c3
      exact ⟨h.sok, h.sz, h.pg, by omega, .inr ⟨c3.mono (Nat.le_refl _) (fun C' hC => by rw [hC]; exact ⟨by rw [h1, h2], .inl h1⟩), .inl h4⟩⟩
    · obtain ⟨r1, r2, r3, r4, r5, r6, r7, r8, r9, r10⟩ := chk_room c1 (fun he => ho.core.full (by rw [← ho.lasts]; exact he))
      exact ⟨c2.ok, by rw [r2, h.sz], by rw [r7, h.pg], by omega, .inl ⟨txs', C, c2, h1, h2, h3, by rw [c3, h4], by omega, by omega, by omega⟩⟩
  · rw [(chk_off ho.off).1]
    exact h.mono (Nat.le_succ _)
/-- Behind the two Puts. -/
theorem Play.puts {S : Sto} {D : RD} {b : Nat} {s m : ByteArray} (h : Play S D b s m) (v : ByteArray) : ins 8 v (ins 3 v S.waits) = two v := by
  rcases h.st with ⟨txs, C, ho, -, -, -, hw, -⟩ | ⟨ho, hw | ⟨x, -, hw⟩⟩ <;> rw [hw] <;> rfl
theorem Play.fits {S : Sto} {D : RD} {b : Nat} {s m : ByteArray} (h : Play S D b s m) {v : ByteArray} (hv : v.size ≤ 160) : ComFit { S with waits := two v } D := by
  have hw : PagesOk S.pg (two v) := by rw [h.pg]; exact two_ok hv
  rcases h.st with ⟨txs, C, ho, h1⟩ | ⟨ho, h1⟩
  · exact (ho.put hw).com
  · exact ho.com (S := { S with waits := two v }) ⟨h.sok.L, h.sok.sz, h.sok.pg, h.sok.gen, h.sok.epoch, h.sok.turn, h.sok.lasts, hw⟩ h.sz h.pg
theorem Play.com {S : Sto} {D : RD} {b : Nat} {s m : ByteArray} (h : Play S D b s m) {v : ByteArray} (hv : v.size ≤ 160) (hb : b + 1 ≤ 900) :
    (({ S with waits := two v } : Sto).commit D).1 = 0 ∧ Play (({ S with waits := two v } : Sto).commit D).2.1 (({ S with waits := two v } : Sto).commit D).2.2 (b + 1) v v ∨
    (({ S with waits := two v } : Sto).commit D).1 = 4 ∧ Play (({ S with waits := two v } : Sto).commit D).2.1 (({ S with waits := two v } : Sto).commit D).2.2 (b + 1) s (if m = s then v else m) := by
  have hg := h.gen
  have hsz := h.sz
  have hw : PagesOk S.pg (two v) := by rw [h.pg]; exact two_ok hv
  rcases h.st with ⟨txs, C, ho, h1, h2, h3, h4, h5, h6, h7⟩ | ⟨ho, h1⟩
  · have hgg := com_gen { S with waits := two v } D
    rcases com_on (b := b + 1) (ho.put hw) (by simp [two]) (by simp only [two, List.length_cons, List.length_nil]; omega) (by show S.gen + 1 ≤ _; omega) (by show S.epoch ≤ _; omega) (by simp only [two, List.length_cons, List.length_nil]; omega) hb (by show S.turn + 1 ≤ _; omega) with ⟨a1, a2, a3⟩ | ⟨a1, a2, a3, a4, a5, a6, a7, a8, txs', a9⟩
    · refine .inr ⟨a1, a2.ok, by rw [a2.sz]; exact h.sz, by rw [a2.pg]; exact h.pg, by simp only at hgg; omega, .inr ⟨?_, .inr ⟨v, hv, a2.waits⟩⟩⟩
      have a4 : Off 6 10 (b + 1) (({ S with waits := two v } : Sto).commit D).2.2 (fun C' => C' = C ∨ C' = over (two v) C) := by have := a3; simp only [hsz] at this; have e := h.pg; revert this; generalize (({ S with waits := two v } : Sto).commit D).2.2 = D'; intro this; rw [e] at this; exact this
      rw [if_pos h3]
      refine a4.mono (Nat.le_refl _) (fun C' hC => ?_)
      rcases hC with rfl | rfl
      · exact ⟨by rw [h1, h2], .inl h1⟩
      · exact ⟨rfl, .inr rfl⟩
    · exact .inl ⟨a1, a9.ok, by rw [a3]; exact h.sz, by rw [a4]; exact h.pg, by simp only at hgg; omega, .inl ⟨txs', _, a9, rfl, rfl, rfl, a2, by rw [a6]; show S.epoch ≤ _; omega, by rw [a7]; simp only [two, List.length_cons, List.length_nil]; omega, by rw [a8]; show S.turn + 1 ≤ _; omega⟩⟩
  · rw [com_off ho.off (by simp only [two, List.length_cons, List.length_nil]; omega)]
    refine .inr ⟨rfl, (h.fits hv).ok, h.sz, h.pg, by show S.gen ≤ _; omega, .inr ⟨?_, .inr ⟨v, hv, rfl⟩⟩⟩
    refine ho.mono (Nat.le_succ _) (fun C hC => ⟨hC.1, ?_⟩)
    rcases hC.2 with h9 | h9
    · exact .inl h9
    · split
      · rename_i h8; rw [h8] at h9; exact .inl h9
      · exact .inr h9

end Go.Proofs.YtcpelncjagaadaaGreatDoor
