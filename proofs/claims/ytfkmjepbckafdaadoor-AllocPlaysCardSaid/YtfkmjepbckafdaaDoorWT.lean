/-
  Same, alike; the calls on no allocator; the reference's New.
-/
import Derived.Test.YtfkmjepbckafdaaDoorWS
namespace Go.Proofs.YtfkmjepbckafdaaDoor
open Go.RowKit

attribute [local go_sem ↓] Go.wp_at_zero Go.wp_at_succ

theorem own_slot {w : World} {base n : Nat} {e : TypeId} {size : Nat} {v : Value} {xs : List Value} (h : w.ownsRow base e size v n xs) (hn : 0 < n) : ∃ g cap, v = .slice (some ⟨g, 0, none⟩) n cap ∧ base ≤ g ∧ g < w.heap.size := by
  have hlt := h.lt
  rcases h.2 with ⟨rfl, rfl⟩ | ⟨g, cap, cur, rfl, hb, hg, -⟩
  · omega
  · exact ⟨g, cap, rfl, hb, (hlt g rfl).2⟩

theorem own_addr {w : World} {base n cap : Nat} {e : TypeId} {size : Nat} {A : Option Addr} {xs : List Value} (h : w.ownsRow base e size (.slice A n cap) n xs) (hn : 0 < n) : ∃ g, A = some ⟨g, 0, none⟩ ∧ base ≤ g ∧ g < w.heap.size := by
  obtain ⟨g, cap', e1, hb, hg⟩ := own_slot h hn
  injection e1 with e1 _ _
  exact ⟨g, e1, hb, hg⟩

set_option maxHeartbeats 400000 in
theorem same_any (l : List Nat) (v1 v2 : Value) (b1 b2 : Nat) (w : World) (hl : l.length ≤ 64) (h1 : w.ownsRow b1 3 1 v1 l.length (ofNats l)) (h2 : w.ownsRow b2 3 1 v2 l.length (ofNats l)) :
    Calls Tryd.prog 35 #[v1, v2] w fun e w' => e = .returned (.bool true) ∧ ∃ k, w' = w.drewN k := by
  obtain ⟨A1, c1, rfl⟩ := own_form h1
  obtain ⟨A2, c2, rfl⟩ := own_form h2
  have H := Lib.hid (And.intro h1 h2)
  have hb : ((l.length : Int) != l.length) = false := by simp
  clear h1 h2
  go_enter Tryd.func35, Tryd.ntmps35
  go_wp2_with fail
  go_loopw [5] (fun i wr => ∃ j k : Nat, j ≤ l.length ∧ i = .int .i64 j ∧ wr = w.drewN k) (fun i _ => l.length - (intOf i).toNat)
  case atStart => exact ⟨0, 0, by omega, rfl, rfl⟩
  case round =>
    obtain ⟨j, k, hj, rfl, rfl⟩ := hrel
    by_cases hlt : j < l.length
    · obtain ⟨g1, rfl, -, -⟩ := own_addr H.out.1 (by omega)
      obtain ⟨g2, rfl, -, -⟩ := own_addr H.out.2 (by omega)
      have d1 := own_read H.out.1 hlt
      have d2 := own_read H.out.2 hlt
      generalize l.getD j 0 = x at d1 d2
      have hx : ((x : Int) != x) = false := by simp
      go_wp2_with fail
      go_quiet (fail)
      go_wp2_with fail
      go_roundw
      case rel => exact ⟨j + 1, _, by omega, by go_num, rfl⟩
      case measure => simp [intOf]; omega
    · obtain rfl : j = l.length := by omega
      go_wp2_with fail
      go_ret
      exact ⟨rfl, _, rfl⟩

theorem nobody_any (w : World) : Calls Tryd.prog 18 #[] w fun e w' => e = .returned (.pointer none) ∧ w = w' := by
  go_enter Tryd.func18, Tryd.ntmps18
  go_wp2
  go_ret
  exact ⟨rfl, rfl⟩
theorem free_nil (w : World) : Calls Tryd.prog 13 #[.pointer none] w fun e w' => e = .returned (.int .i64 0) ∧ w = w' := by
  go_enter Tryd.func13, Tryd.ntmps13
  go_wp2
  go_ret
  exact ⟨rfl, rfl⟩
theorem give_nil (w : World) (b : Int) : Calls Tryd.prog 12 #[.pointer none, .int .i64 b] w fun e w' => e = .returned (.int .i64 1) ∧ w = w' := by
  go_enter Tryd.func12, Tryd.ntmps12
  go_wp2
  go_ret
  exact ⟨rfl, rfl⟩
theorem copy_nil (w : World) : Calls Tryd.prog 10 #[.pointer none] w fun e w' => e = .returned (.pointer none) ∧ w = w' := by
  go_enter Tryd.func10, Tryd.ntmps10
  go_wp2
  go_ret
  exact ⟨rfl, rfl⟩

/-- A row of numbers of the call's own, whatever it holds. -/
def Own (w : World) (base : Nat) (v : Value) (n : Nat) : Prop := ∃ xs, w.ownsRow base 3 1 v n xs
theorem Own.of {w : World} {base : Nat} {v : Value} {n : Nat} {xs : List Value} (h : w.ownsRow base 3 1 v n xs) : Own w base v n := ⟨xs, h⟩
theorem Own.slot {w : World} {base : Nat} {v : Value} {n : Nat} (h : Own w base v n) (hn : 0 < n) : ∃ g cap, v = .slice (some ⟨g, 0, none⟩) n cap ∧ base ≤ g ∧ g < w.heap.size := by
  obtain ⟨xs, h⟩ := h
  exact own_slot h hn
theorem Own.facts {w : World} {base n g cap : Nat} (h : Own w base (.slice (some ⟨g, 0, none⟩) n cap) n) {j : Nat} (hj : j < n) : (∃ u, w.cell? ⟨g, j, none⟩ = some u) ∧ w.frozen? ⟨g, j, none⟩ = false := by
  obtain ⟨xs, h⟩ := h
  refine ⟨⟨xs[j]'(by have := h.1; omega), ?_⟩, World.ownsRow.frozenAt h j⟩
  rw [World.ownsRow.cellAt h j (by omega), List.getElem?_eq_getElem]
theorem Own.set {w : World} {base n g cap : Nat} (h : Own w base (.slice (some ⟨g, 0, none⟩) n cap) n) (j : Nat) (u : Value) : Own (w.setCell ⟨g, j, none⟩ u) base (.slice (some ⟨g, 0, none⟩) n cap) n := by
  obtain ⟨xs, h⟩ := h
  exact ⟨_, (World.ownsRow.stored h j u).1⟩
theorem Own.touch {w w' : World} {base : Nat} {v : Value} {n : Nat} {S : Nat → Prop} (h : Own w base v n) (ht : Touch S w w') (hS : ∀ g, v.ownBlock = some g → ¬ S g) : Own w' base v n := by
  obtain ⟨xs, h⟩ := h
  refine ⟨xs, h.1, ?_⟩
  rcases h.2 with hn | ⟨g, cap, cur, rfl, hb, hg, rest⟩
  · exact .inl hn
  · exact .inr ⟨g, cap, cur, rfl, hb, by rw [ht.block g (Array.getElem?_eq_some_iff.1 hg).1 (hS g rfl)]; exact hg, rest⟩

theorem _root_.Go.World.ownsRow.touched {w w' : World} {base n size : Nat} {e : TypeId} {v : Value} {xs : List Value} (h : w.ownsRow base e size v n xs) (ht : Touch (fun _ => False) w w') : w'.ownsRow base e size v n xs := by
  refine ⟨h.1, ?_⟩
  rcases h.2 with hn | ⟨g, cap, cur, rfl, hb, hg, rest⟩
  · exact .inl hn
  · exact .inr ⟨g, cap, cur, rfl, hb, by rw [ht.block g (Array.getElem?_eq_some_iff.1 hg).1 id]; exact hg, rest⟩
theorem _root_.Go.World.ownsRow.drawn {w : World} {base n size : Nat} {e : TypeId} {v : Value} {xs : List Value} (h : w.ownsRow base e size v n xs) (k : Nat) : (w.drewN k).ownsRow base e size v n xs := h.touched ((Touch.refl _ w).drewN k)
theorem Touch.both {a b c : World} (h : Touch (fun _ => False) a b) (h' : Touch (fun _ => False) b c) : Touch (fun _ => False) a c := h.trans h' (fun _ _ h => h.elim id id)
theorem Own.more {w : World} {b b' : Nat} {v : Value} {n : Nat} (h : Own w b v n) (hb : b' ≤ b) : Own w b' v n := by
  obtain ⟨xs, h⟩ := h
  refine ⟨xs, h.1, ?_⟩
  rcases h.2 with hn | ⟨g, cap, cur, rfl, hb2, hg, rest⟩
  · exact .inl hn
  · exact .inr ⟨g, cap, cur, rfl, by omega, hg, rest⟩
theorem own_of_form {w : World} {base : Nat} {v : Value} {n : Nat} {xs : List Value} (h : w.ownsRow base 3 1 v n xs) : ∃ A cap, v = .slice A n cap ∧ Own w base (.slice A n cap) n := by
  obtain ⟨A, cap, rfl⟩ := own_form h
  exact ⟨A, cap, rfl, xs, h⟩
theorem Own.addr {w : World} {base n cap : Nat} {A : Option Addr} (h : Own w base (.slice A n cap) n) (hn : 0 < n) : ∃ g, A = some ⟨g, 0, none⟩ ∧ base ≤ g ∧ g < w.heap.size := by
  obtain ⟨xs, h⟩ := h
  exact own_addr h hn

set_option maxRecDepth 100000 in
set_option maxHeartbeats 2000000 in
/-- Both keep the same. -/
theorem alike_any (a : Loc) (q : RLoc) (s : St) (w : World) (hT : Tab w) (hs : Ok s) (hA : At a s w) (hR : RAt q s w) :
    Calls Tryd.prog 25 #[.pointer (some ⟨a.p, 0, none⟩), .pointer (some ⟨q.p, 0, none⟩)] w fun e w' => e = .returned (.bool true) ∧ Touch (fun _ => False) w w' := by
  have H0 := Lib.hid (And.intro hT (And.intro hs (And.intro hA hR)))
  have lu := bits_len 64 s.U.testBit
  have ll := bits_len 64 s.L.testBit
  have eu := Lib.hid (hL_used hs)
  have el := Lib.hid (hL_leaving hs)
  clear hT hs hA hR
  go_enter Tryd.func25, Tryd.ntmps25
  go_wp2_with fail
  refine (used_any a s _ H0.out.1 H0.out.2.1 H0.out.2.2.1).mono ?_
  intro e w1 hg
  obtain ⟨v1, rfl, ho, ht⟩ := hg
  obtain ⟨A1, c1, rfl⟩ := own_form ho
  have H1 := Lib.hid (And.intro ho ht)
  clear ho ht
  go_wp2_with fail
  refine (leaving_any a s _ (H0.out.1.touch H1.out.2 id) H0.out.2.1 (H0.out.2.2.1.touch H1.out.2 id id id)).mono ?_
  intro e w2 hg
  obtain ⟨v2, rfl, ho, ht⟩ := hg
  obtain ⟨A2, c2, rfl⟩ := own_form ho
  have H2 := Lib.hid (And.intro ho (And.intro (H1.out.2.both ht) ht))
  clear ho ht
  go_wp2_with fail
  refine (rlist_any q s 1 _ H0.out.2.1 (H0.out.2.2.2.touch H2.out.2.1 id id)).mono ?_
  intro e w3 hg
  obtain ⟨v3, rfl, ho, ht⟩ := hg
  rw [eu.out] at ho
  have o1 := (H1.out.1.touched (H2.out.2.2.both ht))
  have H3 := Lib.hid (And.intro (And.intro o1 ho) (And.intro (H2.out.1.touched ht) (H2.out.2.1.both ht)))
  clear ho ht o1
  go_wp2_with fail
  refine (same_any _ _ _ _ _ _ lu H3.out.1.1 H3.out.1.2).mono ?_
  rintro e w4 ⟨rfl, n1, rfl⟩
  have H4 := Lib.hid (And.intro (And.intro (H3.out.1.1.drawn n1) (H3.out.2.1.drawn n1)) (H3.out.2.2.drewN n1))
  go_wp2_with fail
  refine (rlist_any q s 2 _ H0.out.2.1 (H0.out.2.2.2.touch H4.out.2 id id)).mono ?_
  intro e w5 hg
  obtain ⟨v5, rfl, ho, ht⟩ := hg
  rw [el.out] at ho
  have H5 := Lib.hid (And.intro (And.intro (H4.out.1.1.touched ht) (H4.out.1.2.touched ht)) (And.intro ho (H4.out.2.both ht)))
  clear ho ht
  go_wp2_with fail
  refine (same_any _ _ _ _ _ _ ll H5.out.1.2 H5.out.2.1).mono ?_
  rintro e w6 ⟨rfl, n2, rfl⟩
  have H6 := Lib.hid (And.intro (And.intro (H5.out.1.1.drawn n2) (H5.out.1.2.drawn n2)) (H5.out.2.2.drewN n2))
  go_wp2_with fail
  refine (free_any a s _ H0.out.2.1 (H0.out.2.2.1.touch H6.out.2 id id id)).mono ?_
  rintro e w7 ⟨rfl, n3, rfl⟩
  have H7 := Lib.hid (And.intro (And.intro (H5.out.1.1.drawn (n2 + n3)) (H5.out.1.2.drawn (n2 + n3))) (H5.out.2.2.drewN (n2 + n3)))
  go_wp2_with fail
  refine (rfree_any q s _ H0.out.2.1 (H0.out.2.2.2.touch H7.out.2 id id)).mono ?_
  rintro e w8 ⟨rfl, ht⟩
  have H8 := Lib.hid (And.intro (And.intro (Own.of (H7.out.1.1.touched ht)) (Own.of (H7.out.1.2.touched ht))) (H7.out.2.both ht))
  have hb : ((s.free : Int) == s.free) = true := by simp
  have D1 : Hid (∀ g, (Value.slice A1 (bitsN 64 s.U.testBit).length c1).ownBlock = some g → g < w1.heap.size) := Lib.hid (fun g hg => (H1.out.1.lt g hg).2)
  have hw1 := H1.out.2.size
  clear ht
  generalize (bitsN 64 s.U.testBit).length = N1 at lu H8 D1 ⊢
  generalize (bitsN 64 s.L.testBit).length = N2 at ll H8 ⊢
  clear H7 H6 H5 H4 H3 H2 H1 eu el
  go_wp2_with fail
  go_loopw [8] (fun i wr => ∃ j : Nat, j ≤ N1 ∧ i = .int .i64 j ∧ Own wr w.heap.size (.slice A1 N1 c1) N1 ∧ Own wr w1.heap.size (.slice A2 N2 c2) N2 ∧ Touch (fun _ => False) w wr) (fun i _ => N1 - (intOf i).toNat)
  case atStart => exact ⟨0, by omega, rfl, H8.out.1.1, H8.out.1.2, H8.out.2⟩
  case round =>
    obtain ⟨j, hj, rfl, o1, o2, ht⟩ := hrel
    have H := Lib.hid (And.intro o1 (And.intro o2 ht))
    clear o1 o2 ht
    by_cases hlt : j < N1
    · obtain ⟨g, rfl, hg1, -⟩ := H.out.1.addr (by omega)
      have hg2 := D1.out g rfl
      obtain ⟨⟨u, d0⟩, d1⟩ := H.out.1.facts hlt
      have R : Hid (Own (wr.setCell ⟨g, j, none⟩ (.int .i64 (-7))) w.heap.size (.slice (some ⟨g, 0, none⟩) N1 c1) N1 ∧ Own (wr.setCell ⟨g, j, none⟩ (.int .i64 (-7))) w1.heap.size (.slice A2 N2 c2) N2 ∧ Touch (fun _ => False) w (wr.setCell ⟨g, j, none⟩ (.int .i64 (-7)))) :=
        Lib.hid ⟨H.out.1.set j _, H.out.2.1.touch (S := fun k => k = g) ((Touch.refl _ wr).setCell _ _ (fun _ => rfl)) (fun g' hg' e => by
          obtain ⟨xs, h⟩ := H.out.2.1
          have := (h.lt g' hg').1
          omega), H.out.2.2.setCell _ _ (fun hh => by simp at hh; omega)⟩
      go_wp2_with fail
      go_roundw
      case rel => exact ⟨j + 1, by omega, by go_num, R.out⟩
      case measure => simp [intOf]; omega
    · obtain rfl : j = N1 := by omega
      go_wp2_with fail
      go_loopw [9] (fun i wy => ∃ j : Nat, j ≤ N2 ∧ i = .int .i64 j ∧ Own wy w1.heap.size (.slice A2 N2 c2) N2 ∧ Touch (fun _ => False) w wy) (fun i _ => N2 - (intOf i).toNat)
      case atStart => exact ⟨0, by omega, rfl, H.out.2.1, H.out.2.2⟩
      case round =>
        obtain ⟨i, hi, rfl, o2, ht⟩ := hrel
        have G := Lib.hid (And.intro o2 ht)
        clear o2 ht
        by_cases hlt : i < N2
        · obtain ⟨g, rfl, hg1, -⟩ := G.out.1.addr (by omega)
          obtain ⟨⟨u, d0⟩, d1⟩ := G.out.1.facts hlt
          have R : Hid (Own (wr.setCell ⟨g, i, none⟩ (.int .i64 (-8))) w1.heap.size (.slice (some ⟨g, 0, none⟩) N2 c2) N2 ∧ Touch (fun _ => False) w (wr.setCell ⟨g, i, none⟩ (.int .i64 (-8)))) :=
            Lib.hid ⟨G.out.1.set i _, G.out.2.setCell _ _ (fun hh => by simp at hh; omega)⟩
          go_wp2_with fail
          go_roundw
          case rel => exact ⟨i + 1, by omega, by go_num, R.out⟩
          case measure => simp [intOf]; omega
        · obtain rfl : i = N2 := by omega
          go_wp2_with fail
          go_ret
          exact ⟨rfl, G.out.2⟩

end Go.Proofs.YtfkmjepbckafdaaDoor
