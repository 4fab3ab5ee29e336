/-
  AllocPlays' walk.
-/
import Derived.Test.YtfkmjepbckafdaaDoorWU
namespace Go.Proofs.YtfkmjepbckafdaaDoor
open Go.RowKit

attribute [local go_sem ↓] Go.wp_at_zero Go.wp_at_succ

/-- Both allocators, in blocks of the call's own, apart. -/
structure Two (W : World) (a : Loc) (q : RLoc) (s : St) (w : World) : Prop where
  mine : Mine W a s w
  rat : RAt q s w
  rp : W.heap.size ≤ q.p
  rg : W.heap.size ≤ q.g
  apart : ∀ k, a.own k → ¬ q.own k

theorem Two.drewN {W : World} {a : Loc} {q : RLoc} {s : St} {w : World} (h : Two W a q s w) (n : Nat) : Two W a q s (w.drewN n) := ⟨h.mine.drewN n, h.rat.drewN n, h.rp, h.rg, h.apart⟩
theorem Two.drew {W : World} {a : Loc} {q : RLoc} {s : St} {w : World} (h : Two W a q s w) : Two W a q s w.drew := h.drewN 1
/-- The program's one has gone on; the reference's one follows. -/
structure Half (W : World) (a : Loc) (q : RLoc) (s s' : St) (w : World) : Prop where
  mine : Mine W a s' w
  rat : RAt q s w
  rp : W.heap.size ≤ q.p
  rg : W.heap.size ≤ q.g
  apart : ∀ k, a.own k → ¬ q.own k
  ok : Ok s
theorem Two.half {W : World} {a : Loc} {q : RLoc} {s s' : St} {w w' : World} (h : Two W a q s w) (hm : Mine W a s' w') (ht : Touch a.own w w') : Half W a q s s' w' :=
  ⟨hm, h.rat.touch ht (fun e => h.apart _ e (.inl rfl)) (fun e => h.apart _ e (.inr rfl)), h.rp, h.rg, h.apart, h.mine.ok⟩
theorem Half.two {W : World} {a : Loc} {q : RLoc} {s s' : St} {w w' : World} (h : Half W a q s s' w) (hr : RAt q s' w') (ht : Touch q.own w w') : Two W a q s' w' := by
  refine ⟨⟨h.mine.p, h.mine.u, h.mine.l, h.mine.ok, h.mine.tab, h.mine.at_.touch ht (fun e => h.apart _ (.inl rfl) e) (fun e => h.apart _ (.inr (.inl rfl)) e) (fun e => h.apart _ (.inr (.inr rfl)) e), ?_⟩, hr, h.rp, h.rg, h.apart⟩
  exact h.mine.touch.trans ht (fun k hk hh => by
    rcases hh with hh | hh
    · exact hh
    · have := h.rp; have := h.rg; rcases hh with e | e <;> omega)
theorem Two.touch {W : World} {a : Loc} {q : RLoc} {s : St} {w w' : World} (h : Two W a q s w) (ht : Touch (fun _ => False) w w') : Two W a q s w' :=
  ⟨⟨h.mine.p, h.mine.u, h.mine.l, h.mine.ok, h.mine.tab, h.mine.at_.touch ht id id id, h.mine.touch.both ht⟩, h.rat.touch ht id id, h.rp, h.rg, h.apart⟩

def Err (nb : Int) (l : List Int) (e : Int) : Prop :=
  ((nb < 1 ∨ 4096 < nb) ∧ e = 1) ∨ (1 ≤ nb ∧ nb ≤ 64 ∧ (¬ ∀ x ∈ l, 0 ≤ x ∧ x < nb) ∧ e = 1) ∨ (1 ≤ nb ∧ nb ≤ 64 ∧ (∀ x ∈ l, 0 ≤ x ∧ x < nb) ∧ addAll 0 l = none ∧ e = 8)

/-- Behind alloc.New. -/
structure GotA (W : World) (nb : Int) (l : List Int) (vi : Value) (n : Nat) (va ea : Value) (w : World) : Prop where
  own : Own w W.heap.size vi n
  touch : Touch (fun _ => False) W w
  got : (va = .pointer none ∧ ∃ e : Int, ea = .int .i64 e ∧ Err nb l e) ∨
    ∃ (a : Loc) (m U : Nat), nb = m ∧ 1 ≤ m ∧ m ≤ 64 ∧ (∀ x ∈ l, 0 ≤ x ∧ x < (m : Int)) ∧ addAll 0 l = some U ∧ va = .pointer (some ⟨a.p, 0, none⟩) ∧ ea = .int .i64 0 ∧ Mine W a ⟨m, U, 0, 0⟩ w ∧ ∀ g, vi.ownBlock = some g → ¬ a.own g

theorem Own.blk {w : World} {base n : Nat} {v : Value} (h : Own w base v n) {g : Nat} (hg : v.ownBlock = some g) : base ≤ g ∧ g < w.heap.size := by
  obtain ⟨xs, h⟩ := h; exact h.lt g hg
theorem Own.kept {w w' : World} {base n : Nat} {v : Value} (h : Own w base v n) (ht : Touch (fun _ => False) w w') : Own w' base v n := h.touch ht (fun _ _ h => h)

theorem newA_any (nb : Int) (l : List Int) (vi : Value) (W w : World) (hT : Tab W) (hl : l.length ≤ 17592186044416) (hnb : (nb < 1 ∨ 4096 < nb) ∨ (1 ≤ nb ∧ nb ≤ 64)) (ho : w.ownsRow W.heap.size 3 1 vi l.length (l.map (Value.int .i64))) (ht : Touch (fun _ => False) W w) :
    Calls Tryd.prog 9 #[.int .i64 nb, vi] w fun e w' => ∃ va ea, e = .returned (.tuple #[va, ea]) ∧ GotA W nb l vi l.length va ea w' := by
  rcases hnb with hnb | ⟨h1, h2⟩
  · exact (new_wide nb vi w hnb).mono fun e w' ⟨he, hw⟩ => ⟨_, _, he, by subst hw; exact ⟨⟨_, ho⟩, ht, .inl ⟨rfl, 1, rfl, .inl ⟨hnb, rfl⟩⟩⟩⟩
  · by_cases hg : ∀ x ∈ l, 0 ≤ x ∧ x < nb
    · obtain ⟨m, rfl⟩ : ∃ m : Nat, nb = m := ⟨nb.toNat, by omega⟩
      refine (new_good_long m vi l w (by omega) (by omega) hl (reads_of_own ho) hg).mono fun e w' h => ?_
      have htw := h.touch
      cases hadd : addAll 0 l with
      | none =>
        obtain ⟨-, ⟨_, he⟩ | ⟨V, hV, _⟩⟩ := h
        · exact ⟨_, _, he, (Own.of ho).kept htw, ht.both htw, .inl ⟨rfl, 8, rfl, .inr (.inr ⟨h1, h2, hg, hadd, rfl⟩)⟩⟩
        · rw [hadd] at hV; cases hV
      | some U =>
        obtain ⟨a, he, hm, q1, q2, q3⟩ := h.mine (W := W) (by omega) (by omega) hg hadd ht hT
        exact ⟨_, _, he, (Own.of ho).kept htw, ht.both htw, .inr ⟨a, m, U, rfl, by omega, by omega, hg, hadd, rfl, rfl, hm, fun g hb ha => by
          have := (ho.lt g hb).2
          rcases ha with e | e | e <;> omega⟩⟩
    · exact (new_bad_long nb vi l w h1 (by omega) hl (reads_of_own ho) hg).mono fun e w' ⟨he, hw⟩ => ⟨_, _, he, by subst hw; exact ⟨⟨_, ho⟩, ht, .inl ⟨rfl, 1, rfl, .inr (.inl ⟨h1, h2, hg, rfl⟩)⟩⟩⟩

/-- Behind both New's. -/
structure GotB (W : World) (vi : Value) (n : Nat) (va ea vq eq : Value) (w : World) : Prop where
  own : Own w W.heap.size vi n
  touch : Touch (fun _ => False) W w
  got : (∃ e : Int, va = .pointer none ∧ vq = .pointer none ∧ ea = .int .i64 e ∧ eq = .int .i64 e) ∨
    ∃ (a : Loc) (q : RLoc) (s : St), va = .pointer (some ⟨a.p, 0, none⟩) ∧ vq = .pointer (some ⟨q.p, 0, none⟩) ∧ ea = .int .i64 0 ∧ eq = .int .i64 0 ∧ Two W a q s w ∧ ∀ g, vi.ownBlock = some g → ¬ a.own g ∧ ¬ q.own g

theorem newQ_any (nb : Int) (l : List Int) (v vi va ea : Value) (W w : World) (hl : l.length ≤ 17592186044416) (hr : Reads v l W) (h : GotA W nb l vi l.length va ea w) :
    Calls Tryd.prog 19 #[.int .i64 nb, v] w fun e w' => ∃ vq eq, e = .returned (.tuple #[vq, eq]) ∧ GotB W vi l.length va ea vq eq w' := by
  have hrw : Reads v l w := hr.touch h.touch (fun _ _ h => h)
  rcases h.got with ⟨rfl, e1, rfl, hc⟩ | ⟨a, m, U, rfl, h1, h2, hg, hadd, rfl, rfl, hm, hd⟩
  · rcases hc with ⟨hn, rfl⟩ | ⟨h1, h2, hg, rfl⟩ | ⟨h1, h2, hg, hadd, rfl⟩
    · exact (rnew_wide nb v w hn).mono fun e w' ⟨he, hw⟩ => ⟨_, _, he, by subst hw; exact ⟨h.own, h.touch, .inl ⟨_, rfl, rfl, rfl, rfl⟩⟩⟩
    · exact (rnew_bad nb v l w h1 (by omega) hl hrw hg).mono fun e w' ⟨he, hw⟩ => ⟨_, _, he, by subst hw; exact ⟨h.own, h.touch, .inl ⟨_, rfl, rfl, rfl, rfl⟩⟩⟩
    · obtain ⟨m, rfl⟩ : ∃ m : Nat, nb = m := ⟨nb.toNat, by omega⟩
      refine (rnew_good m v l w (by omega) (by omega) hl hrw hg).mono fun e w' h' => ?_
      have htw := h'.touch
      obtain ⟨-, ⟨_, he⟩ | ⟨V, hV, _⟩⟩ := h'
      · exact ⟨_, _, he, h.own.kept htw, h.touch.both htw, .inl ⟨_, rfl, rfl, rfl, rfl⟩⟩
      · rw [hadd] at hV; cases hV
  · refine (rnew_good m v l w h1 h2 hl hrw hg).mono fun e w' h' => ?_
    have htw := h'.touch
    have hsz := h.touch.size
    obtain ⟨l1, l2, l3⟩ := hm.at_.lt
    obtain ⟨-, ⟨hno, _⟩ | ⟨V, hV, q, he, q1, q2, hR⟩⟩ := h'
    · rw [hadd] at hno; cases hno
    · rw [hadd] at hV
      cases hV
      refine ⟨_, _, he, h.own.kept htw, h.touch.both htw, .inr ⟨a, q, _, rfl, rfl, rfl, rfl, ⟨⟨hm.p, hm.u, hm.l, hm.ok, hm.tab, hm.at_.touch htw id id id, hm.touch.both htw⟩, hR, by omega, by omega, fun k ha hq => ?_⟩, fun g hb => ⟨hd g hb, fun hq => ?_⟩⟩⟩
      · rcases ha with e | e | e <;> rcases hq with e' | e' <;> omega
      · have := (h.own.blk hb).2
        rcases hq with e' | e' <;> omega

/-- A store into the row. -/
theorem GotB.set {W : World} {n g cap : Nat} {va ea vq eq : Value} {w : World} (h : GotB W (.slice (some ⟨g, 0, none⟩) n cap) n va ea vq eq w) (j : Nat) (u : Value) : GotB W (.slice (some ⟨g, 0, none⟩) n cap) n va ea vq eq (w.setCell ⟨g, j, none⟩ u) := by
  have hg := h.own.blk (g := g) rfl
  have ht : Touch (fun k => k = g) w (w.setCell ⟨g, j, none⟩ u) := (Touch.refl _ w).setCell _ _ (fun _ => rfl)
  have hTW : Touch (fun _ => False) W (w.setCell ⟨g, j, none⟩ u) := h.touch.setCell _ _ (fun hh => by simp at hh; omega)
  refine ⟨h.own.set j u, hTW, ?_⟩
  rcases h.got with h1 | ⟨a, q, s, e1, e2, e3, e4, h2, hd⟩
  · exact .inl h1
  · obtain ⟨d1, d2⟩ := hd g rfl
    exact .inr ⟨a, q, s, e1, e2, e3, e4, ⟨⟨h2.mine.p, h2.mine.u, h2.mine.l, h2.mine.ok, h2.mine.tab, h2.mine.at_.touch ht (fun e => d1 (.inl e.symm)) (fun e => d1 (.inr (.inl e.symm))) (fun e => d1 (.inr (.inr e.symm))), hTW⟩,
      h2.rat.touch ht (fun e => d2 (.inl e.symm)) (fun e => d2 (.inr e.symm)), h2.rp, h2.rg, h2.apart⟩, hd⟩

theorem reads_cells {ad : Addr} {l : List Int} {w w' : World} (h : 0 < l.length → ∃ g o, some ad = some ⟨g, o, none⟩ ∧ g < w.heap.size ∧ ∀ j, j < l.length → w.cell? ⟨g, o + j, none⟩ = some (.int .i64 (l.getD j 0))) (ht : Touch (fun _ => False) w w') :
    ∀ (j : Nat) (u : Value), (l.map (Value.int .i64))[j]? = some u → w'.cell? (ad.add j) = some u := by
  intro j u hu
  have hj : j < l.length := by simpa using (List.getElem?_eq_some_iff.1 hu).1
  obtain ⟨g, o, e, -, hc⟩ := h (by omega)
  cases e
  have e2 : (⟨g, o, none⟩ : Addr).add j = ⟨g, o + j, none⟩ := by simp [Addr.add]
  rw [e2, ht.some (hc j hj) id]
  simp [hj] at hu
  simp [List.getD, hj, hu]

theorem Two.copy {W : World} {a : Loc} {q : RLoc} {s : St} {w : World} (h : Two W a q s w) :
    Calls Tryd.prog 10 #[.pointer (some ⟨a.p, 0, none⟩)] w fun e w' => ∃ c : Loc, e = .returned (.pointer (some ⟨c.p, 0, none⟩)) ∧ Mine W a s w' ∧ Two W c q s w' ∧ (∀ k, a.own k → ¬ c.own k) :=
  (copy_any a s w h.mine.at_).mono fun e w' ⟨c, he, h1, h2, h3, hA, hT⟩ => by
    have hs := h.mine.touch.size
    obtain ⟨l1, l2, l3⟩ := h.mine.at_.lt
    obtain ⟨l4, l5⟩ := h.rat.lt
    have hTW : Touch (fun _ => False) W w' := h.mine.touch.trans hT (fun _ _ hh => hh.elim id id)
    refine ⟨c, he, ⟨h.mine.p, h.mine.u, h.mine.l, h.mine.ok, h.mine.tab, h.mine.at_.touch hT id id id, hTW⟩, ⟨⟨by omega, by omega, by omega, h.mine.ok, h.mine.tab, hA, hTW⟩, h.rat.touch hT id id, h.rp, h.rg, fun k hk hc => ?_⟩, fun k hk hc => ?_⟩
    · rcases hk with e | e | e <;> rcases hc with e' | e' <;> omega
    · rcases hk with e | e | e <;> rcases hc with e' | e' | e' <;> omega
theorem Two.other {W : World} {a c : Loc} {q : RLoc} {s s' : St} {w w' : World} (h : Two W c q s w) (ha : Mine W a s' w') (ht : Touch a.own w w') (hd : ∀ k, a.own k → ¬ c.own k) (hq : ∀ k, a.own k → ¬ q.own k) : Two W c q s w' :=
  ⟨h.mine.other ha ht hd, h.rat.touch ht (fun e => hq _ e (.inl rfl)) (fun e => hq _ e (.inr rfl)), h.rp, h.rg, h.apart⟩
theorem Half.drew {W : World} {a : Loc} {q : RLoc} {s s' : St} {w : World} (h : Half W a q s s' w) : Half W a q s s' w.drew := ⟨h.mine.drew1, h.rat.drew, h.rp, h.rg, h.apart, h.ok⟩

set_option maxRecDepth 100000
set_option maxHeartbeats 2000000 in
theorem plays_walk (blocks : Int) (v : Value) (used : List Int) (v2 : Value) (ops : List (Int × Int)) (w : World) (hT : Tab w) (hl : used.length ≤ 17592186044416) (hr : Reads v used w) (hops : ReadsOps v2 ops w) :
    Calls Tryd.prog 7 #[.int .i64 blocks, v, v2] w fun e w' => e = .returned (.bool true) ∧ Touch (fun _ => False) w w' := by
  obtain ⟨i0, hi, hz0, hz1, hz2⟩ := info_parts Tryd.info3
  have HT := Lib.hid hT
  obtain ⟨ao2, cap2, rfl, hr2⟩ := hops
  have HR := Lib.hid hr
  have HR2 := Lib.hid hr2
  obtain ⟨ao, cap, rfl, hr⟩ := hr
  have HRr := Lib.hid hr
  clear hT hr hr2
  go_enter Tryd.func7, Tryd.ntmps7
  go_wp2_with fail
  refine (known_any _ HT.out).mono ?_
  rintro e w1 ⟨rfl, ht1⟩
  have H0 := Lib.hid ht1
  clear ht1
  go_upto_region 3 with (first
    | ((go_at_call 18; (with_reducible refine (nobody_any _).mono ?_); rintro e w' ⟨rfl, rfl⟩))
    | ((go_at_call 13; (with_reducible refine (free_nil _).mono ?_); rintro e w' ⟨rfl, rfl⟩))
    | ((go_at_call 12; (with_reducible refine (give_nil _ _).mono ?_); rintro e w' ⟨rfl, rfl⟩))
    | ((go_at_call 10; (with_reducible refine (copy_nil _).mono ?_); rintro e w' ⟨rfl, rfl⟩)))
  go_cut [41] (fun q wx => q = .bool (decide (64 < blocks ∧ blocks ≤ 4096)) ∧ w1 = wx)
  case first =>
    by_cases hj : 64 < blocks
    · by_cases hj3 : blocks ≤ 4096
      · go_wp2_with fail
        go_meet
        exact ⟨by first | (simp [hj, hj3]; done) | (simp [hj, hj3]; omega), rfl⟩
      · go_wp2_with fail
        go_meet
        exact ⟨by first | (simp [hj3]; done) | (simp [hj3]; omega), rfl⟩
    · go_wp2_with fail
      go_meet
      exact ⟨by first | (simp; done) | (simp; omega), rfl⟩
  case rest =>
  obtain ⟨rfl, rfl⟩ := hcut
  go_upto_if 41 with fail
  go_cut [0] (fun q wx => ∃ nb : Int, q = .int .i64 nb ∧ ((nb < 1 ∨ 4096 < nb) ∨ (1 ≤ nb ∧ nb ≤ 64)) ∧ w1 = wx)
  case first =>
    by_cases hj : 64 < blocks ∧ blocks ≤ 4096
    · rw [decide_eq_true hj]
      go_wp2_with fail
      go_meet
      exact ⟨64, rfl, by omega, rfl⟩
    · rw [decide_eq_false hj]
      go_wp2_with fail
      go_meet
      exact ⟨blocks, rfl, by omega, rfl⟩
  case rest =>
  obtain ⟨nb, rfl, hnb, rfl⟩ := hcut
  go_upto_region 5 with fail
  go_cut [7] (fun q wx => ∃ A c, q = .slice A used.length c ∧ wx.ownsRow w.heap.size 3 1 (.slice A used.length c) used.length (used.map (Value.int .i64)) ∧ Touch (fun _ => False) w wx)
  case first =>
    have hs := H0.out.size
    cases ao with
    | none =>
      have h0 : used.length = 0 := by
        rcases Nat.eq_zero_or_pos used.length with h | h
        · exact h
        · obtain ⟨g, o, h, -⟩ := HRr.out h
          cases h
      have hnil : used = [] := List.eq_nil_of_length_eq_zero h0
      subst hnil
      clear h0
      go_wp2_with fail
      go_meet
      exact ⟨_, _, rfl, World.ownsRow_made w1 #[] 0 hs (by decide) rfl, H0.out.alloc _⟩
    | some ad =>
      have hc := Lib.hid (reads_cells HRr.out (H0.out.alloc (.cells #[] 3)))
      go_wp2_with ((at_builtin; refine wpList_append_own_at _ rfl _ _ 22 rfl w.heap.size 3 i0 (.int .i64 0) 1 8 Tryd.underlying22 hi hz0 hz1 hz2 rfl (by decide) _ _ _ rfl (World.ownsRow_made w1 #[] 0 hs (by decide) rfl) ad used.length cap (used.map (Value.int .i64)) rfl (by simp) ?c1 ?c2 ?c3 ?c4 ?c5 ?_))
      case c1 => exact hc.out
      case c2 => intro u hu; simp at hu; obtain ⟨x, -, rfl⟩ := hu; rfl
      case c3 => unfold maxLen; omega
      case c4 => omega
      case c5 => simp; omega
      intro v' w2 hown1 hg1 _ _
      obtain ⟨A, c, rfl⟩ := own_form hown1
      have ht1 : Touch (fun _ => False) w w2 := (H0.out.alloc _).grownNew (World.ownsRow_made (size := 1) w1 #[] 0 hs (by decide) (by simp)) (Nat.le_refl _) hg1
      have R := Lib.hid (And.intro hown1 ht1)
      clear hown1 ht1 hg1
      go_wp2_with fail
      go_meet
      exact ⟨A, c, rfl, R.out.1, R.out.2⟩
  case rest =>
  obtain ⟨A, cu, rfl, hown, ht⟩ := hcut
  have H1 := Lib.hid (And.intro hown ht)
  clear hown ht
  go_wp2_with fail
  refine (newA_any nb used _ w _ HT.out hl hnb H1.out.1 H1.out.2).mono ?_
  rintro e w2 ⟨va, ea, rfl, hA⟩
  have HA := Lib.hid hA
  clear hA hnb H1
  go_wp2_with fail
  refine (newQ_any nb used _ _ va ea w _ hl HR.out HA.out).mono ?_
  rintro e w3 ⟨vq, eq, rfl, hB⟩
  have HB := Lib.hid hB
  clear hB HA
  go_wp2_with fail
  go_loopw [12] (fun i wr => ∃ j : Nat, j ≤ used.length ∧ i = .int .i64 j ∧ GotB w (.slice A used.length cu) used.length va ea vq eq wr) (fun i _ => used.length - (intOf i).toNat)
  case atStart => exact ⟨0, by omega, rfl, HB.out⟩
  case round =>
    obtain ⟨j, hj, rfl, hB⟩ := hrel
    have HB2 := Lib.hid hB
    clear hB
    by_cases hlt : j < used.length
    · as_aux_lemma =>
      obtain ⟨g, rfl, hg1, -⟩ := HB2.out.own.addr (by omega)
      obtain ⟨⟨u, d0⟩, d1⟩ := HB2.out.own.facts hlt
      have R := Lib.hid (HB2.out.set j (.int .i64 0))
      go_wp2_with fail
      go_roundw
      case rel => exact ⟨j + 1, by omega, by go_num, R.out⟩
      case measure => simp [intOf]; omega
    · obtain rfl : j = used.length := by omega
      rcases HB2.out.got with ⟨e, rfl, rfl, rfl, rfl⟩ | ⟨a, q, s, rfl, rfl, rfl, rfl, h2, -⟩
      · as_aux_lemma =>
        have hb : (e != e) = false := by simp
        go_wp2_with fail
        go_ret
        exact ⟨rfl, HB2.out.touch⟩
      · have H2 := Lib.hid h2
        clear h2 HB2 HB hlt
        go_wp2_with fail
        clear HRr HR H0 hi hz0 hz1 hz2
        go_loopw [8, 13] (fun p i wy => ∃ (j : Nat) (a : Loc) (s : St), j ≤ ops.length ∧ j ≤ 150 ∧ i = .int .i64 j ∧ p = .pointer (some ⟨a.p, 0, none⟩) ∧ Two w a q s wy) (fun _ i _ => 150 - (intOf i).toNat)
        case atStart => exact ⟨0, a, s, by omega, by omega, rfl, rfl, H2.out⟩
        case round =>
          clear H2
          obtain ⟨j, a, s, hj1, hj2, rfl, rfl, h2⟩ := hrel
          have H := Lib.hid h2
          clear h2
          go_upto_region 17 with fail
          go_cut [85] (fun q wx => q = .bool (decide (j < ops.length ∧ j < 150)) ∧ wr = wx)
          case first => as_aux_lemma =>
            by_cases hj : j < ops.length
            · by_cases hj3 : j < 150
              · go_wp2_with fail
                go_meet
                exact ⟨by first | (simp; done) | (simp [hj, hj3]; done) | (simp [hj, hj3]; omega), rfl⟩
              · go_wp2_with fail
                go_meet
                exact ⟨by first | (simp; done) | (simp [hj3]; done) | (simp [hj3]; omega), rfl⟩
            · go_wp2_with fail
              go_meet
              exact ⟨by first | (simp; done) | (simp [hj]; done) | (simp [hj]; omega), rfl⟩
          case rest =>
          obtain ⟨rfl, rfl⟩ := hcut
          by_cases hjj : j < ops.length ∧ j < 150
          · have hj := hjj.1
            have hj3 := hjj.2
            rw [decide_eq_true hjj]
            clear hjj
            obtain ⟨g', o, rfl, hg', hc⟩ := HR2.out (by omega)
            obtain ⟨c0, c1⟩ := hc j hj
            clear hc
            generalize (ops.getD j (0, 0)).1 = kd at c0
            generalize (ops.getD j (0, 0)).2 = x at c1
            have HC := Lib.hid (And.intro c0 c1)
            clear c0 c1
            have c0 := H.out.mine.came HC.out.1
            have c1 := H.out.mine.came HC.out.2
            go_upto_block 4 with fail
            go_cut [8] (fun p wx => ∃ (a' : Loc) (s' : St), p = .pointer (some ⟨a'.p, 0, none⟩) ∧ Two w a' q s' wx)
            case first => as_aux_lemma =>
              by_cases k1 : kd = 1
              · subst k1
                clear c1
                have e1 : ((s.takeB : Int) != s.takeB) = false := by simp
                have e2 : (s.takeE != s.takeE) = false := by simp
                go_wp2_with fail
                refine H.out.mine.take.mono ?_
                rintro e w7 ⟨rfl, hm, ht⟩
                have Q := Lib.hid (H.out.half hm ht)
                clear hm ht
                go_wp2_with fail
                refine (rtake_any q s _ Q.out.ok Q.out.rat).mono ?_
                rintro e w8 ⟨rfl, hr, ht⟩
                have R := Lib.hid (Q.out.two hr ht)
                clear hr ht
                go_wp2_with fail
                go_meet
                exact ⟨a, _, rfl, R.out⟩
              by_cases k2 : kd = 2
              · subst k2
                go_wp2_with fail
                have e1 : (s.giveE x != s.giveE x) = false := by simp
                go_upto_region 26 with fail
                go_cut [129] (fun b wx => b = .bool false ∧ Two w a q (s.giveS x) wx)
                case first =>
                  go_region_held3 (fun w' => w'.cell? ⟨g', o + j * 2 + 1, none⟩ = some (.int .i64 x))
                    (first | go_keep | assumption)
                    (first
                      | ((go_at_call 12; (with_reducible refine (H.out.drew.mine.give x).mono ?_); rintro e w7 ⟨rfl, hm7, ht7⟩; have d1 := hm7.came HC.out.2; have Q7 := Lib.hid (H.out.drew.half hm7 ht7); clear hm7 ht7))
                      | ((go_at_call 21; (with_reducible refine (rgive_any q s x _ Q7.out.ok Q7.out.rat).mono ?_); rintro e w8 ⟨rfl, hr8, ht8⟩; have Q8 := Lib.hid (Q7.out.two hr8 ht8); clear hr8 ht8; have d1 := Q8.out.mine.came HC.out.2)))
                  all_goals
                    go_wp2_with fail
                    go_meet
                    exact ⟨by first | rfl | simp, Q8.out⟩
                case rest =>
                  obtain ⟨rfl, h2⟩ := hcut
                  have R := Lib.hid h2
                  clear h2
                  go_wp2_with fail
                  go_meet
                  exact ⟨a, _, rfl, R.out⟩
              by_cases k3 : kd = 3
              · subst k3
                clear c1
                have e1 : ((Bt.cnt s.L : Int) != Bt.cnt s.L) = false := by simp
                go_wp2_with fail
                refine H.out.mine.settle.mono ?_
                rintro e w7 ⟨rfl, hm, ht⟩
                have Q := Lib.hid (H.out.half hm ht)
                clear hm ht
                go_wp2_with fail
                refine (rsettle_any q s _ Q.out.ok Q.out.rat).mono ?_
                rintro e w8 ⟨rfl, hr, ht⟩
                have R := Lib.hid (Q.out.two hr ht)
                clear hr ht
                go_wp2_with fail
                go_meet
                exact ⟨a, _, rfl, R.out⟩
              by_cases k4 : kd = 4
              · subst k4
                go_wp2_with fail
                have e1 : (s.reserveE x != s.reserveE x) = false := by simp
                go_upto_region 32 with fail
                go_cut [153] (fun b wx => b = .bool false ∧ Two w a q (s.reserveS x) wx)
                case first =>
                  go_region_held3 (fun w' => w'.cell? ⟨g', o + j * 2 + 1, none⟩ = some (.int .i64 x))
                    (first | go_keep | assumption)
                    (first
                      | ((go_at_call 16; (with_reducible refine (H.out.drew.mine.reserve x).mono ?_); rintro e w7 ⟨rfl, hm7, ht7⟩; have d1 := hm7.came HC.out.2; have Q7 := Lib.hid (H.out.drew.half hm7 ht7); clear hm7 ht7))
                      | ((go_at_call 23; (with_reducible refine (rreserve_any q s x _ Q7.out.ok Q7.out.rat).mono ?_); rintro e w8 ⟨rfl, hr8, ht8⟩; have Q8 := Lib.hid (Q7.out.two hr8 ht8); clear hr8 ht8; have d1 := Q8.out.mine.came HC.out.2)))
                  all_goals
                    go_wp2_with fail
                    go_meet
                    exact ⟨by first | rfl | simp, Q8.out⟩
                case rest =>
                  obtain ⟨rfl, h2⟩ := hcut
                  have R := Lib.hid h2
                  clear h2
                  go_wp2_with fail
                  go_meet
                  exact ⟨a, _, rfl, R.out⟩
              by_cases k5 : kd = 5
              · subst k5
                go_wp2_with fail
                have e1 : (s.releaseE x != s.releaseE x) = false := by simp
                go_upto_region 35 with fail
                go_cut [170] (fun b wx => b = .bool false ∧ Two w a q (s.releaseS x) wx)
                case first =>
                  go_region_held3 (fun w' => w'.cell? ⟨g', o + j * 2 + 1, none⟩ = some (.int .i64 x))
                    (first | go_keep | assumption)
                    (first
                      | ((go_at_call 17; (with_reducible refine (H.out.drew.mine.release x).mono ?_); rintro e w7 ⟨rfl, hm7, ht7⟩; have d1 := hm7.came HC.out.2; have Q7 := Lib.hid (H.out.drew.half hm7 ht7); clear hm7 ht7))
                      | ((go_at_call 24; (with_reducible refine (rrelease_any q s x _ Q7.out.ok Q7.out.rat).mono ?_); rintro e w8 ⟨rfl, hr8, ht8⟩; have Q8 := Lib.hid (Q7.out.two hr8 ht8); clear hr8 ht8; have d1 := Q8.out.mine.came HC.out.2)))
                  all_goals
                    go_wp2_with fail
                    go_meet
                    exact ⟨by first | rfl | simp, Q8.out⟩
                case rest =>
                  obtain ⟨rfl, h2⟩ := hcut
                  have R := Lib.hid h2
                  clear h2
                  go_wp2_with fail
                  go_meet
                  exact ⟨a, _, rfl, R.out⟩
              by_cases k6 : kd = 6
              · subst k6
                clear c1
                go_wp2_with fail
                refine H.out.copy.mono ?_
                rintro e w7 ⟨c, rfl, hma, hmc, hd⟩
                have Q := Lib.hid (And.intro hma (And.intro hmc hd))
                clear hma hmc hd
                go_wp2_with fail
                refine Q.out.1.take.mono ?_
                rintro e w8 ⟨rfl, hm, ht⟩
                have Q2 := Lib.hid (And.intro hm (Q.out.2.1.other hm ht Q.out.2.2 H.out.apart))
                clear hm ht
                go_wp2_with fail
                refine Q2.out.1.settle.mono ?_
                rintro e w9 ⟨rfl, hm, ht⟩
                have R := Lib.hid (Q2.out.2.other hm ht Q.out.2.2 H.out.apart)
                clear hm ht
                go_wp2_with fail
                go_meet
                exact ⟨c, _, rfl, R.out⟩
              go_wp2_with fail
              go_meet
              exact ⟨a, s, rfl, H.out⟩
            case rest => as_aux_lemma =>
              obtain ⟨a', s', rfl, h2⟩ := hcut
              have H' := Lib.hid h2
              clear h2 c0 c1 H
              go_wp2_with fail
              refine (alike_any a' q s' _ H'.out.mine.tabw H'.out.mine.ok H'.out.mine.at_ H'.out.rat).mono ?_
              rintro e w9 ⟨rfl, ht⟩
              have R := Lib.hid (H'.out.touch ht)
              clear ht
              go_wp2_with fail
              go_roundw
              case rel => exact ⟨j + 1, a', s', by omega, by omega, by go_num, rfl, R.out⟩
              case measure => simp [intOf]; omega
          · rw [decide_eq_false hjj]
            clear hjj
            go_wp2_with fail
            go_ret
            exact ⟨rfl, H.out.mine.touch⟩

end Go.Proofs.YtfkmjepbckafdaaDoor
