/-
  Copy; AllocCopies' walk.
-/
import Derived.Test.YtfkmjepbckafdaaDoorWO
import Derived.Deep.RegionHeld3
import Derived.Deep.AppendLies
import Derived.Deep.DrawnRows
import Derived.Outline
namespace Go.Proofs.YtfkmjepbckafdaaDoor
open Go.RowKit

attribute [local go_sem ↓] Go.wp_at_zero Go.wp_at_succ

theorem news_one {w : World} {b : Nat} {v : Value} (h : w.cell? ⟨b, 0, none⟩ = some v) : ∀ (j : Nat) (u : Value), [v][j]? = some u → w.cell? ((⟨b, 0, none⟩ : Addr).add j) = some u := by
  intro j u hu
  obtain rfl : j = 0 := by have := (List.getElem?_eq_some_iff.1 hu).1; simp at this; omega
  simp at hu
  subst hu
  rw [add0]; exact h

theorem grown_old {w w1 : World} (h : w.grownBy w1 (Value.ownBlock (.slice none 0 0))) : (∀ b o, b < w.heap.size → w1.cell? ⟨b, o, none⟩ = w.cell? ⟨b, o, none⟩) ∧ (∀ b o, b < w.heap.size → w1.frozen? ⟨b, o, none⟩ = w.frozen? ⟨b, o, none⟩) ∧ w.heap.size ≤ w1.heap.size :=
  ⟨fun b o hb => h.cell_far ⟨b, o, none⟩ hb (by simp [Value.ownBlock]), fun b o hb => h.frozen_far ⟨b, o, none⟩ hb (by simp [Value.ownBlock]), h.size⟩

theorem cell_far2 {w : World} {b o b' o' : Nat} {v : Value} (h : b ≠ b') : (w.setCell ⟨b, o, none⟩ v).cell? ⟨b', o', none⟩ = w.cell? ⟨b', o', none⟩ := cell_far h
theorem Tryd.info25' : (Tryd.prog.info? 25).map (fun i => (i.zero, i.size, i.bytes)) = some (some (.int .u64 0), 1, 8) := by kernel_rfl

/-- A new row of one word, in a world that has grown. -/
structure New1 (B g : Nat) (x : Nat) (w : World) : Prop where
  new : B ≤ g
  lt : g < w.heap.size
  cell : w.cell? ⟨g, 0, none⟩ = some (.int .u64 x)
  soft : w.frozen? ⟨g, 0, none⟩ = false
theorem New1.of {B g cap x : Nat} {w : World} {xs : List Value} (h : w.ownsRow B 25 1 (.slice (some ⟨g, 0, none⟩) 1 cap) 1 xs) (hx : xs[0]? = some (.int .u64 x)) (hlt : g < w.heap.size) : New1 B g x w :=
  ⟨(h.lt g rfl).1, hlt, by rw [World.ownsRow.cellAt h 0 (by decide), hx], World.ownsRow.frozenAt h 0⟩

theorem copy_end (s : St) {P gu gl cu cl : Nat} {wl : World} {v1 v2 : Value} (hb : wl.heap[P]? = some (.cells #[.int .i64 s.n, v1, v2, .int .i64 s.b] 51 (0, 0)))
    (hU : wl.cell? ⟨gu, 0, none⟩ = some (.int .u64 s.U)) (fU : wl.frozen? ⟨gu, 0, none⟩ = false) (hL : wl.cell? ⟨gl, 0, none⟩ = some (.int .u64 s.L)) (fL : wl.frozen? ⟨gl, 0, none⟩ = false)
    (n1 : P ≠ gu) (n2 : P ≠ gl) (n3 : gu ≠ gl) :
    At ⟨P, gu, gl, cu, cl⟩ s ((wl.setCell ⟨P, 1, none⟩ (.slice (some ⟨gu, 0, none⟩) 1 cu)).setCell ⟨P, 2, none⟩ (.slice (some ⟨gl, 0, none⟩) 1 cl)) := by
  have k0 := cell_of_row wl P 0 _ _ _ hb
  have k1 := cell_of_row wl P 1 _ _ _ hb
  have k2 := cell_of_row wl P 2 _ _ _ hb
  have k3 := cell_of_row wl P 3 _ _ _ hb
  have f3 := frozen_of_row wl P 3 _ _ hb
  refine ⟨?_, ?_, ?_, ?_, ?_, ?_, ?_, ?_, ?_, n1, n2, n3⟩
  · rw [cell_off (by decide), cell_off (by decide)]; exact k0
  · rw [cell_off (by decide)]; exact cell_at k1 _
  · exact cell_at (by rw [cell_off (by decide)]; exact k2) _
  · rw [cell_off (by decide), cell_off (by decide)]; exact k3
  · rw [cell_far2 n1, cell_far2 n1]; exact hU
  · rw [cell_far2 n2, cell_far2 n2]; exact hL
  · simpa using f3
  · simpa using fU
  · simpa using fL

set_option maxHeartbeats 1000000 in
theorem copy_any (a : Loc) (s : St) (w : World) (h : At a s w) :
    Calls Tryd.prog 10 #[.pointer (some ⟨a.p, 0, none⟩)] w fun e w' => ∃ a' : Loc, e = .returned (.pointer (some ⟨a'.p, 0, none⟩)) ∧ w.heap.size ≤ a'.p ∧ w.heap.size ≤ a'.u ∧ w.heap.size ≤ a'.l ∧ At a' s w' ∧ Touch (fun _ => False) w w' := by
  obtain ⟨i0, hi, hz0, hz1, hz2⟩ := info_parts Tryd.info25'
  obtain ⟨l1, l2, l3⟩ := h.lt
  obtain ⟨c0, c1, c2, c3, cU, cL, f3, fU, fL, pu, pl, ul⟩ := h
  go_enter Tryd.func10, Tryd.ntmps10
  go_wp2_with fail
  have hA : ∀ (o : Obj), Touch (fun _ => False) w (w.alloc o) := fun o => (Touch.refl _ w).alloc o
  have k1 := (hA (.cells #[.int .i64 s.n, .slice (some ⟨a.u, 0, none⟩) 1 a.cu, .slice (some ⟨a.l, 0, none⟩) 1 a.cl, .int .i64 s.b] 51)).some c1 id
  have k2 := (hA (.cells #[.int .i64 s.n, .slice (some ⟨a.u, 0, none⟩) 1 a.cu, .slice (some ⟨a.l, 0, none⟩) 1 a.cl, .int .i64 s.b] 51)).some c2 id
  have kU := (hA (.cells #[.int .i64 s.n, .slice (some ⟨a.u, 0, none⟩) 1 a.cu, .slice (some ⟨a.l, 0, none⟩) 1 a.cl, .int .i64 s.b] 51)).some cU id
  have kL := (hA (.cells #[.int .i64 s.n, .slice (some ⟨a.u, 0, none⟩) 1 a.cu, .slice (some ⟨a.l, 0, none⟩) 1 a.cl, .int .i64 s.b] 51)).some cL id
  have hT := hA (.cells #[.int .i64 s.n, .slice (some ⟨a.u, 0, none⟩) 1 a.cu, .slice (some ⟨a.l, 0, none⟩) 1 a.cl, .int .i64 s.b] 51)
  have hb : (w.alloc (.cells #[.int .i64 s.n, .slice (some ⟨a.u, 0, none⟩) 1 a.cu, .slice (some ⟨a.l, 0, none⟩) 1 a.cl, .int .i64 s.b] 51)).heap[w.heap.size]? = some (.cells #[.int .i64 s.n, .slice (some ⟨a.u, 0, none⟩) 1 a.cu, .slice (some ⟨a.l, 0, none⟩) 1 a.cl, .int .i64 s.b] 51 (0, 0)) := heap_alloc_new w _
  have hsz : (w.alloc (.cells #[.int .i64 s.n, .slice (some ⟨a.u, 0, none⟩) 1 a.cu, .slice (some ⟨a.l, 0, none⟩) 1 a.cl, .int .i64 s.b] 51)).heap.size = w.heap.size + 1 := by simp
  generalize w.alloc (.cells #[.int .i64 s.n, .slice (some ⟨a.u, 0, none⟩) 1 a.cu, .slice (some ⟨a.l, 0, none⟩) 1 a.cl, .int .i64 s.b] 51) = wA at *
  have p1 : wA.cell? ⟨w.heap.size, 1, none⟩ = some (.slice (some ⟨a.u, 0, none⟩) 1 a.cu) := cell_of_row wA w.heap.size 1 _ _ _ hb
  have p2 : wA.cell? ⟨w.heap.size, 2, none⟩ = some (.slice (some ⟨a.l, 0, none⟩) 1 a.cl) := cell_of_row wA w.heap.size 2 _ _ _ hb
  have q1 := frozen_of_row wA w.heap.size 1 _ _ hb
  have q2 := frozen_of_row wA w.heap.size 2 _ _ hb
  have q0 : w.heap.size < wA.heap.size := by omega
  have HB := Lib.hid (And.intro hb (And.intro hT hsz))
  have g1 : a.p < wA.heap.size := by omega
  have g2 : a.u < wA.heap.size := by omega
  have g3 : a.l < wA.heap.size := by omega
  clear hA c0 c1 c2 c3 cU cL f3 fU fL hb hT hsz
  generalize hP : w.heap.size = P at *
  have HP := Lib.hid (Nat.le_of_eq hP)
  clear hP
  go_region_held3 (fun w' => w'.cell? ⟨a.p, 1, none⟩ = some (.slice (some ⟨a.u, 0, none⟩) 1 a.cu) ∧ w'.cell? ⟨a.p, 2, none⟩ = some (.slice (some ⟨a.l, 0, none⟩) 1 a.cl) ∧ w'.cell? ⟨a.u, 0, none⟩ = some (.int .u64 s.U) ∧ w'.cell? ⟨a.l, 0, none⟩ = some (.int .u64 s.L))
    (first
      | go_keep
      | (go_split_ands
         refine ⟨?_, ?_, ?_, ?_⟩
         all_goals first | assumption | (refine (cell_far2 (by omega)).trans ?_; assumption) | (rw [hc _ _ (by first | omega | (simp; omega; done))]; assumption)))
    (first
     | ((refine step_append_lies _ (by rfl) _ _ _ (by rfl) P 25 i0 _ 1 8 Tryd.underlying49 hi hz0 hz1 hz2 rfl (by omega) (.slice none 0 0) 0 [] (by rfl) (World.ownsRow_nil _ _ _ _) ⟨a.u, 0, none⟩ 1 a.cu [.int .u64 s.U] (by rfl) (by rfl) (news_one (by first | assumption | (go_split_ands; assumption))) (by simp [Value.oneCell']) (by omega) (by unfold maxLen; omega) (by omega) (by first | omega | (simp; omega; done)) _ rfl ?_; intro gu capu wu hownu hgrowu hatu hltu; obtain ⟨hc, hf, hz⟩ := grown_old hgrowu; (try simp only [World.drew] at hz); have p1 := (hc P 1 (by first | omega | (simp; omega; done))).trans p1; have p2 := (hc P 2 (by first | omega | (simp; omega; done))).trans p2; have q1 := (hf P 1 (by first | omega | (simp; omega; done))).trans q1; have q2 := (hf P 2 (by first | omega | (simp; omega; done))).trans q2; have q0 : P < wu.heap.size := by omega))
     | ((refine step_append_lies _ (by rfl) _ _ _ (by rfl) P 25 i0 _ 1 8 Tryd.underlying49 hi hz0 hz1 hz2 rfl (by omega) (.slice none 0 0) 0 [] (by rfl) (World.ownsRow_nil _ _ _ _) ⟨a.l, 0, none⟩ 1 a.cl [.int .u64 s.L] (by rfl) (by rfl) (news_one (by first | assumption | (go_split_ands; assumption))) (by simp [Value.oneCell']) (by omega) (by unfold maxLen; omega) (by omega) (by first | omega | (simp; omega; done)) _ rfl ?_; intro gl capl wl hownl hgrowl hatl hltl; obtain ⟨hc, hf, hz⟩ := grown_old hgrowl; (try simp only [World.drew] at hz); have p1 := (hc P 1 (by first | omega | (simp; omega; done))).trans p1; have p2 := (hc P 2 (by first | omega | (simp; omega; done))).trans p2; have q1 := (hf P 1 (by first | omega | (simp; omega; done))).trans q1; have q2 := (hf P 2 (by first | omega | (simp; omega; done))).trans q2; have q0 : P < wl.heap.size := by omega)))
  go_wp2_with fail
  go_ret
  obtain ⟨hb, hT, hsz⟩ := HB.out
  have hPo := HP.out
  have eu : gu = wA.heap.size := by
    rcases hatu with h | h
    · simp [Value.ownBlock] at h
    · exact h
  have el : gl = wu.heap.size := by
    rcases hatl with h | h
    · simp [Value.ownBlock] at h
    · exact h
  have b1 : wu.heap[P]? = wA.heap[P]? := hgrowu.block P (by first | omega | (simp; omega)) (by simp [Value.ownBlock])
  have b2 : wl.heap[P]? = wu.heap[P]? := hgrowl.block P (by first | omega | (simp; omega)) (by simp [Value.ownBlock])
  have hb2 := b2.trans (b1.trans hb)
  have nu := New1.of (x := s.U) hownu rfl hltu
  have nl := New1.of (x := s.L) hownl rfl hltl
  have t1 : Touch (fun _ => False) w wu := hT.drew.grown hgrowu (fun k hk => by simp [Value.ownBlock] at hk)
  have t2 : Touch (fun _ => False) w wl := t1.grown hgrowl (fun k hk => by simp [Value.ownBlock] at hk)
  refine ⟨⟨P, gu, gl, capu, capl⟩, rfl, HP.out, by show _ ≤ gu; omega, by show _ ≤ gl; omega, ?_, (t2.setCell _ _ (fun hh => ?_)).setCell _ _ (fun hh => ?_)⟩
  · refine copy_end s hb2 ?_ ?_ nl.cell nl.soft (by omega) (by omega) (by omega)
    · rw [hgrowl.cell_far ⟨gu, 0, none⟩ (by simpa using hltu) (by simp [Value.ownBlock])]; exact nu.cell
    · rw [hgrowl.frozen_far ⟨gu, 0, none⟩ (by simpa using hltu) (by simp [Value.ownBlock])]; exact nu.soft
  · have := HP.out; simp at hh; omega
  · have := HP.out; simp at hh; omega

theorem Mine.copy {W : World} {a : Loc} {s : St} {w : World} (h : Mine W a s w) :
    Calls Tryd.prog 10 #[.pointer (some ⟨a.p, 0, none⟩)] w fun e w' => ∃ c : Loc, e = .returned (.pointer (some ⟨c.p, 0, none⟩)) ∧ Mine W a s w' ∧ Mine W c s w' ∧ (∀ k, a.own k → ¬ c.own k) :=
  (copy_any a s w h.at_).mono fun e w' ⟨c, he, h1, h2, h3, hA, hT⟩ => by
    have hs := h.touch.size
    obtain ⟨l1, l2, l3⟩ := h.at_.lt
    have hTW : Touch (fun _ => False) W w' := h.touch.trans hT (fun _ _ hh => hh.elim id id)
    refine ⟨c, he, ⟨h.p, h.u, h.l, h.ok, h.tab, h.at_.touch hT id id id, hTW⟩, ⟨by omega, by omega, by omega, h.ok, h.tab, hA, hTW⟩, fun k hk hc => ?_⟩
    rcases hk with e | e | e <;> rcases hc with e' | e' | e' <;> omega

theorem Mine.drew1 {W : World} {a : Loc} {s : St} {w : World} (h : Mine W a s w) : Mine W a s w.drew := h.drewN 1
theorem Touch.of_drew1 {S : Nat → Prop} {w w' : World} (h : Touch S w.drew w') : Touch S w w' := ⟨h.os, h.tape, h.output, h.size, h.block⟩
/-- What one allocator does leaves the other one alone. -/
theorem Mine.other {W : World} {a c : Loc} {s s' : St} {w w' : World} (h : Mine W c s w) (ha : Mine W a s' w') (hT : Touch a.own w w') (hd : ∀ k, a.own k → ¬ c.own k) : Mine W c s w' :=
  ⟨h.p, h.u, h.l, h.ok, h.tab, h.at_.touch hT (fun e => hd _ e (.inl rfl)) (fun e => hd _ e (.inr (.inl rfl))) (fun e => hd _ e (.inr (.inr rfl))), ha.touch⟩
theorem apart_symm {a c : Loc} (hd : ∀ k, a.own k → ¬ c.own k) : ∀ k, c.own k → ¬ a.own k := fun k hc ha => hd k ha hc

/-- What came in stands. -/
theorem Mine.came {W : World} {a : Loc} {s : St} {w : World} (h : Mine W a s w) {b o : Nat} {v : Value} (hc : W.cell? ⟨b, o, none⟩ = some v) : w.cell? ⟨b, o, none⟩ = some v := h.touch.some hc id

set_option maxRecDepth 100000
set_option maxHeartbeats 2000000 in
theorem copies_walk (v : Value) (used : List Int) (v2 : Value) (ops : List (Int × Int)) (w : World) (hT : Tab w) (hr : Reads v used w) (hops : ReadsOps v2 ops w) :
    Calls Tryd.prog 3 #[v, v2] w fun e w' => e = .returned (.bool true) ∧ Touch (fun _ => False) w w' := by
  obtain ⟨i0, hi, hz0, hz1, hz2⟩ := info_parts Tryd.info3
  have HT := Lib.hid hT
  obtain ⟨ao, cap, rfl, hr⟩ := hr
  obtain ⟨ao2, cap2, rfl, hr2⟩ := hops
  have HR := Lib.hid hr
  have HR2 := Lib.hid hr2
  clear hT hr hr2
  go_enter Tryd.func3, Tryd.ntmps3
  go_wp2_with fail
  refine (known_any _ HT.out).mono ?_
  rintro e w1 ⟨rfl, ht1⟩
  have H0 := Lib.hid ht1
  clear ht1
  go_wp2_with fail
  go_loopw [5, 6] (fun q i wr => ∃ (j : Nat) (l : List Int), j ≤ used.length ∧ j ≤ 20 ∧ i = .int .i64 j ∧ l.length = j ∧ (∀ x ∈ l, 0 ≤ x ∧ x < ((30 : Nat) : Int)) ∧ wr.ownsRow w.heap.size 3 1 q l.length (l.map (Value.int .i64)) ∧ Touch (fun _ => False) w wr) (fun _ i _ => 20 - (intOf i).toNat)
  case atStart => exact ⟨0, [], by omega, by omega, rfl, rfl, by simp, World.ownsRow_nil _ _ _ _, H0.out⟩
  case round =>
    obtain ⟨j, l, hj1, hj2, rfl, rfl, hm, hown, ht⟩ := hrel
    have H := Lib.hid (And.intro hm (And.intro hown ht))
    clear hm hown ht
    go_upto_region 5 with fail
    go_cut [25] (fun q wx => q = .bool (decide (l.length < used.length ∧ l.length < 20)) ∧ wr = wx)
    case first =>
      by_cases hj : l.length < used.length
      · by_cases hj3 : l.length < 20
        · go_wp2_with fail
          go_meet
          exact ⟨by first | (simp [hj, hj3]; done) | (simp [hj, hj3]; omega), rfl⟩
        · go_wp2_with fail
          go_meet
          exact ⟨by first | (simp [hj3]; done) | (simp [hj3]; omega), rfl⟩
      · go_wp2_with fail
        go_meet
        exact ⟨by first | (simp [hj]; done) | (simp [hj]; omega), rfl⟩
    case rest =>
    obtain ⟨rfl, rfl⟩ := hcut
    by_cases hjj : l.length < used.length ∧ l.length < 20
    · as_aux_lemma =>
      have hj := hjj.1
      have hj3 := hjj.2
      rw [decide_eq_true hjj]
      clear hjj
      obtain ⟨gu, o, rfl, hgu, hc⟩ := HR.out (by omega)
      have c0 : wr.cell? ⟨gu, o + l.length, none⟩ = some (.int .i64 (used.getD l.length 0)) := (H.out.2.2.some (hc _ hj) id)
      clear hc
      generalize used.getD l.length 0 = x at c0
      obtain ⟨k, hk, ek⟩ := mod_wrap x 30 (by omega) (by omega)
      rw [show ((30 : Nat) : Int) = 30 from rfl] at ek
      go_wp2_with (first | (rw [ek]) | (at_builtin; refine wpList_append_own_at _ rfl _ _ 22 rfl w.heap.size 3 i0 (.int .i64 0) 1 8 Tryd.underlying22 hi hz0 hz1 hz2 rfl (by decide) _ _ _ rfl (H.out.2.1.alloc _) ⟨wr.heap.size, 0, none⟩ 1 1 [.int .i64 k] rfl rfl ?c1 ?c2 ?c3 ?c4 ?c5 ?_))
      case c1 => exact one_at _ _ _
      case c2 => intro u hu; simp at hu; subst hu; rfl
      case c3 => unfold maxLen; omega
      case c4 => omega
      case c5 => have := H.out.2.2.size; simp; omega
      intro v' w1 hown1 hg1 _ hat
      have ht1 : Touch (fun _ => False) w w1 := (H.out.2.2.alloc _).grownNew (H.out.2.1.alloc _) (Nat.le_refl _) hg1
      have R := Lib.hid (And.intro hown1 ht1)
      clear hown1 hg1 hat ht1
      go_wp2_with fail
      go_roundw
      case rel =>
        refine ⟨l.length + 1, l ++ [(k : Int)], by omega, by omega, by go_num, by simp, fun y hy => ?_, ?_, R.out.2⟩
        · rw [List.mem_append] at hy
          rcases hy with hy | hy
          · exact H.out.1 y hy
          · simp at hy; subst hy; omega
        · simpa using R.out.1
      case measure => simp [intOf]; omega
    · as_aux_lemma =>
      rw [decide_eq_false hjj]
      clear hjj
      go_wp2_with fail
      refine (new_good 30 _ l _ (by omega) (by omega) (by omega) (reads_of_own H.out.2.1) H.out.1).mono ?_
      rintro e w2 hg
      cases hadd : addAll 0 l with
      | none =>
        obtain ⟨ht, ⟨_, rfl⟩ | ⟨V, hV, _⟩⟩ := hg
        · have H2 := Lib.hid (H.out.2.2.trans ht (fun _ _ h => h.elim id id))
          clear ht hadd
          go_wp2_with fail
          go_ret
          exact ⟨rfl, H2.out⟩
        · rw [hadd] at hV; cases hV
      | some U =>
      obtain ⟨a, rfl, hm, -, -, -⟩ := hg.mine (W := w) (by omega) (by omega) H.out.1 hadd H.out.2.2 HT.out
      have M0 := Lib.hid hm
      clear hm hg hadd
      go_wp2_with fail
      go_loopw [7, 9] (fun q i wy => ∃ (j : Nat) (a : Loc) (s : St), j ≤ ops.length ∧ j ≤ 40 ∧ i = .int .i64 j ∧ q = .pointer (some ⟨a.p, 0, none⟩) ∧ Mine w a s wy) (fun _ i _ => 40 - (intOf i).toNat)
      case atStart => exact ⟨0, a, _, by omega, by omega, rfl, rfl, M0.out⟩
      case round =>
        clear M0
        obtain ⟨j, a, s, hj1, hj2, rfl, rfl, hm⟩ := hrel
        have M := Lib.hid hm
        clear hm
        go_upto_region 12 with fail
        go_cut [54] (fun q wx => q = .bool (decide (j < ops.length ∧ j < 40)) ∧ wr = wx)
        case first =>
          by_cases hj : j < ops.length
          · by_cases hj3 : j < 40
            · go_wp2_with fail
              go_meet
              exact ⟨by first | (simp [hj, hj3]; done) | (simp [hj, hj3]; omega), rfl⟩
            · go_wp2_with fail
              go_meet
              exact ⟨by first | (simp [hj3]; done) | (simp [hj3]; omega), rfl⟩
          · go_wp2_with fail
            go_meet
            exact ⟨by first | (simp [hj]; done) | (simp [hj]; omega), rfl⟩
        case rest =>
        obtain ⟨rfl, rfl⟩ := hcut
        by_cases hjj : j < ops.length ∧ j < 40
        · have hj := hjj.1
          have hj3 := hjj.2
          rw [decide_eq_true hjj]
          clear hjj
          obtain ⟨g', o, rfl, hg', hc⟩ := HR2.out (by omega)
          obtain ⟨c0, c1⟩ := hc j hj
          clear hc
          generalize (ops.getD j (0, 0)).1 = kd at c0
          generalize (ops.getD j (0, 0)).2 = x at c1
          have HC := Lib.hid (And.intro c0 c1)
          clear c0 c1
          go_wp2_with fail
          refine M.out.copy.mono ?_
          rintro e w3 ⟨c, rfl, hma, hmc, hd⟩
          have M1 := Lib.hid (And.intro hma (And.intro hmc hd))
          clear hma hmc hd
          go_wp2_with fail
          refine M1.out.1.take.mono ?_
          rintro e w4 ⟨rfl, hma, ht⟩
          have M2 := Lib.hid (And.intro hma (M1.out.2.1.other hma ht M1.out.2.2))
          clear hma ht
          go_wp2_with fail
          refine M2.out.2.take.mono ?_
          rintro e w5 ⟨rfl, hmc, ht⟩
          have M3 := Lib.hid (And.intro (M2.out.1.other hmc ht (apart_symm M1.out.2.2)) hmc)
          clear hmc ht
          have c1 := M3.out.1.came HC.out.2
          go_upto_region 17 with fail
          go_cut [93] (fun q wx => q = .bool false ∧ Mine w a (s.takeS.giveS x) wx ∧ Mine w c (s.takeS.giveS x) wx)
          case first =>
            have e1 : ((s.takeB : Int) != s.takeB) = false := by simp
            have e2 : (s.takeE != s.takeE) = false := by simp
            have e3 : (s.takeS.giveE x != s.takeS.giveE x) = false := by simp
            go_region_held3 (fun w' => w'.cell? ⟨g', o + j * 2 + 1, none⟩ = some (.int .i64 x))
              (first | go_keep | assumption)
              (first
                | ((go_at_call 12; (with_reducible refine (M3.out.1.drew1.give x).mono ?_); rintro e w7 ⟨rfl, hm7, ht7⟩; have d1 := hm7.came HC.out.2; have Q7 := Lib.hid (And.intro hm7 (M3.out.2.other hm7 ht7.of_drew1 M1.out.2.2)); clear hm7 ht7))
                | ((go_at_call 12; (with_reducible refine (Q7.out.2.give x).mono ?_); rintro e w8 ⟨rfl, hm8, ht8⟩; have d1 := hm8.came HC.out.2; have Q8 := Lib.hid (And.intro (Q7.out.1.other hm8 ht8 (apart_symm M1.out.2.2)) hm8); clear hm8 ht8)))
            all_goals
              go_wp2_with fail
              go_meet
              exact ⟨by first | rfl | simp, Q8.out⟩
          case rest =>
            obtain ⟨rfl, hma, hmc⟩ := hcut
            have M4 := Lib.hid (And.intro hma hmc)
            clear hma hmc c1
            generalize s.takeS.giveS x = s4 at M4
            go_wp2_with fail
            refine M4.out.2.free.mono ?_
            rintro e w6 ⟨rfl, n1, rfl⟩
            have M5 := Lib.hid (And.intro (M4.out.1.drewN n1) (M4.out.2.drewN n1))
            go_wp2_with fail
            refine M5.out.1.settle.mono ?_
            rintro e w7 ⟨rfl, hma, ht⟩
            have M6 := Lib.hid (And.intro hma (M5.out.2.other hma ht M1.out.2.2))
            clear hma ht
            go_wp2_with fail
            refine M6.out.1.take.mono ?_
            rintro e w8 ⟨rfl, hma, ht⟩
            have M7 := Lib.hid (And.intro hma (M6.out.2.other hma ht M1.out.2.2))
            clear hma ht
            have e1 : ((s4.free : Int) != s4.free) = false := by simp
            go_wp2_with fail
            refine M7.out.2.free.mono ?_
            rintro e w9 ⟨rfl, n2, rfl⟩
            have M8 := Lib.hid (And.intro (M7.out.1.drewN n2) (M7.out.2.drewN n2))
            have c0 := M8.out.1.came HC.out.1
            by_cases hk : kd.tmod 2 = 0
            · have hb : (kd.tmod 2 == 0) = true := by simp [hk]
              clear hk
              go_wp2_with fail
              go_roundw
              case rel => exact ⟨j + 1, c, _, by omega, by omega, by go_num, rfl, M8.out.2⟩
              case measure => simp [intOf]; omega
            · have hb : (kd.tmod 2 == 0) = false := by simp [hk]
              clear hk
              go_wp2_with fail
              go_roundw
              case rel => exact ⟨j + 1, a, _, by omega, by omega, by go_num, rfl, M8.out.1⟩
              case measure => simp [intOf]; omega
        · rw [decide_eq_false hjj]
          clear hjj
          go_wp2_with fail
          go_ret
          exact ⟨rfl, M.out.touch⟩

end Go.Proofs.YtfkmjepbckafdaaDoor
