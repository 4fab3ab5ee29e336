/-
  wal: records, the walk.
-/
import Derived.Test.YtcpelncjagaadaaGreatDoorXH
namespace Go.Proofs.YtcpelncjagaadaaGreatDoor
open Go.RowKit

attribute [local go_sem ↓] Go.wp_at_zero Go.wp_at_succ

theorem imgCells_get (l : List Img) (j : Nat) (h : j < l.length) : (imgCells l)[j * 2]? = some (.int .i64 (l.getD j (0, ⟨#[]⟩)).1) ∧ (imgCells l)[j * 2 + 1]? = some (.string (l.getD j (0, ⟨#[]⟩)).2) := by
  induction l generalizing j with
  | nil => simp at h
  | cons a t ih =>
    have e : imgCells (a :: t) = [.int .i64 a.1, .string a.2] ++ imgCells t := by simp [imgCells]
    rw [e]
    cases j with
    | zero => simp
    | succ j =>
      have := ih j (by simpa using h)
      rw [List.getElem?_append_right (by simp; omega), List.getElem?_append_right (by simp; omega)]
      simp only [List.length_cons, List.length_nil, List.getD_cons_succ]
      rw [show (j + 1) * 2 - (0 + 1 + 1) = j * 2 by omega, show (j + 1) * 2 + 1 - (0 + 1 + 1) = j * 2 + 1 by omega]
      exact this
/-- How far the records stand: the first j, noughts behind. -/
def recsTo (L : Wal) (l : List Img) (j : Nat) : List LR := (List.range (l.length + 1)).map fun i => if i < j then recOf L l i else LR.zero
theorem recsTo_length (L : Wal) (l : List Img) (j : Nat) : (recsTo L l j).length = l.length + 1 := by simp [recsTo]
theorem recsTo_zero (L : Wal) (l : List Img) : recsTo L l 0 = List.replicate (l.length + 1) LR.zero := by
  simp [recsTo, List.eq_replicate_iff]
theorem recsTo_all (L : Wal) (l : List Img) : recsTo L l (l.length + 1) = recsOf L l := by
  unfold recsTo recsOf
  apply List.map_congr_left
  intro i hi
  rw [if_pos (by simpa using hi)]
theorem recsTo_set (L : Wal) (l : List Img) (j : Nat) (r : LR) (hr : r = recOf L l j) : (recsTo L l j).set j r = recsTo L l (j + 1) := by
  subst hr
  apply List.ext_getElem?
  intro m
  simp only [List.getElem?_set, recsTo, List.getElem?_map, List.length_map, List.length_range]
  by_cases h : j = m
  · subst h
    by_cases h2 : j < l.length + 1
    · rw [if_pos rfl, if_pos h2, List.getElem?_range h2]; simp
    · rw [if_pos rfl, if_neg h2, List.getElem?_eq_none (by simp; omega)]; rfl
  · rw [if_neg h]
    by_cases h2 : m < l.length + 1
    · rw [List.getElem?_range h2]
      simp only [Option.map_some]
      by_cases h3 : m < j
      · rw [if_pos h3, if_pos (by omega)]
      · rw [if_neg h3, if_neg (by omega)]
    · rw [List.getElem?_eq_none (by simp; omega)]; rfl
theorem recsTo_old (L : Wal) (l : List Img) (j i : Nat) (h : j < l.length + 1) (hi : i < 8) : (recCells (recsTo L l j)).toArray[j * 8 + i]? = zc[i]? := by
  rw [List.getElem?_toArray, recCells_get, show (j * 8 + i) / 8 = j by omega, show (j * 8 + i) % 8 = i by omega]
  unfold recsTo
  rw [List.getElem?_map, List.getElem?_range h]
  simp only [Option.map_some, Nat.lt_irrefl, if_false, Option.bind_some]
  rfl
theorem far3 {w : World} {b b' o' o0 o1 o2 : Nat} {v0 v1 v2 : Value} (h : b ≠ b') : (((w.setCell ⟨b, o0, none⟩ v0).setCell ⟨b, o1, none⟩ v1).setCell ⟨b, o2, none⟩ v2).cell? ⟨b', o', none⟩ = w.cell? ⟨b', o', none⟩ :=
  (cell_far2 h).trans ((cell_far2 h).trans (cell_far2 h))
theorem far8 {w : World} {b b' o' o0 o1 o2 o3 o4 o5 o6 o7 : Nat} {v0 v1 v2 v3 v4 v5 v6 v7 : Value} (h : b ≠ b') : ((((((((w.setCell ⟨b, o0, none⟩ v0).setCell ⟨b, o1, none⟩ v1).setCell ⟨b, o2, none⟩ v2).setCell ⟨b, o3, none⟩ v3).setCell ⟨b, o4, none⟩ v4).setCell ⟨b, o5, none⟩ v5).setCell ⟨b, o6, none⟩ v6).setCell ⟨b, o7, none⟩ v7).cell? ⟨b', o', none⟩ = w.cell? ⟨b', o', none⟩ :=
  (cell_far2 h).trans ((cell_far2 h).trans (far3 h |>.trans (far3 h)))
theorem touch8b {S : Nat → Prop} {a w : World} {b : Nat} (h : Touch S a w) (hb : a.heap.size ≤ b) (o0 o1 o2 o3 o4 o5 o6 o7 : Nat) (v0 v1 v2 v3 v4 v5 v6 v7 : Value) : Touch S a ((((((((w.setCell ⟨b, o0, none⟩ v0).setCell ⟨b, o1, none⟩ v1).setCell ⟨b, o2, none⟩ v2).setCell ⟨b, o3, none⟩ v3).setCell ⟨b, o4, none⟩ v4).setCell ⟨b, o5, none⟩ v5).setCell ⟨b, o6, none⟩ v6).setCell ⟨b, o7, none⟩ v7) := by
  have k : ∀ (x : World) (o : Nat) (v : Value), Touch S a x → Touch S a (x.setCell ⟨b, o, none⟩ v) := fun x o v hx => hx.setCell _ _ (fun hh => absurd hb (Nat.not_le.2 hh))
  exact k _ _ _ (k _ _ _ (k _ _ _ (k _ _ _ (k _ _ _ (k _ _ _ (k _ _ _ (k _ _ _ h)))))))
theorem touch3b {S : Nat → Prop} {a w : World} {b : Nat} (h : Touch S a w) (hb : a.heap.size ≤ b) (o0 o1 o2 : Nat) (v0 v1 v2 : Value) : Touch S a (((w.setCell ⟨b, o0, none⟩ v0).setCell ⟨b, o1, none⟩ v1).setCell ⟨b, o2, none⟩ v2) := by
  have k : ∀ (x : World) (o : Nat) (v : Value), Touch S a x → Touch S a (x.setCell ⟨b, o, none⟩ v) := fun x o v hx => hx.setCell _ _ (fun hh => absurd hb (Nat.not_le.2 hh))
  exact k _ _ _ (k _ _ _ (k _ _ _ h))
def recBase (L : Wal) (l : List Img) (j : Nat) : LR := ⟨2, L.epoch, L.next + j, L.next, j, l.length, 0, ⟨#[]⟩⟩
theorem recBase_old (L : Wal) (l : List Img) (j i : Nat) (h : j < l.length + 1) (hi : i < 8) : (recCells ((recsTo L l j).set j (recBase L l j))).toArray[j * 8 + i]? = (recBase L l j).cs[i]? := by
  rw [List.getElem?_toArray, recCells_get, show (j * 8 + i) / 8 = j by omega, show (j * 8 + i) % 8 = i by omega, List.getElem?_set, if_pos rfl, if_pos (by rw [recsTo_length]; exact h)]
  rfl
theorem recOf_last (L : Wal) (l : List Img) (j : Nat) (h : ¬ j < l.length) : recBase L l j = recOf L l j := by unfold recOf recBase; rw [if_neg h]
theorem recOf_image (L : Wal) (l : List Img) (j : Nat) (h : j < l.length) : { recBase L l j with k := 1, p := (l.getD j (0, ⟨#[]⟩)).1, d := (l.getD j (0, ⟨#[]⟩)).2 } = recOf L l j := by unfold recOf recBase; rw [if_pos h]
theorem recsTo_image {w : World} {g j : Nat} (L : Wal) (l : List Img) (hj : j < l.length) (h : Blk w g 99 (recCells ((recsTo L l j).set j (recBase L l j))).toArray) :
    Blk (((w.setCell ⟨g, j * 8, none⟩ (.int .i64 (1 : Nat))).setCell ⟨g, j * 8 + 6, none⟩ (.int .i64 (l.getD j (0, ⟨#[]⟩)).1)).setCell ⟨g, j * 8 + 7, none⟩ (.string (l.getD j (0, ⟨#[]⟩)).2)) g 99 (recCells (recsTo L l (j + 1))).toArray := by
  have := rec_image h (r := recBase L l j) (by rw [List.getElem?_set, if_pos rfl, if_pos (by rw [recsTo_length]; omega)]) 1 (l.getD j (0, ⟨#[]⟩)).1 (l.getD j (0, ⟨#[]⟩)).2
  rw [List.set_set, recsTo_set L l j _ (recOf_image L l j hj)] at this
  exact this

set_option maxRecDepth 100000 in
set_option maxHeartbeats 8000000 in
theorem records_any [Inhabited Bs] (q p : Nat) (L : Wal) (hL : L.ok) (l : List Img) (v : Value) (w : World) (h : LogAt w q p L) (hl : l.length ≤ 1000) (hv : w.ownsRow 0 67 2 v l.length (imgCells l)) :
    Calls Tryz.prog 47 #[.pointer (some ⟨q, 0, none⟩), v] w fun e w' => ∃ v', e = .returned v' ∧ w'.ownsRow w.heap.size 99 8 v' (l.length + 1) (recCells (recsOf L l)) ∧ Fresh w w' := by
  obtain ⟨A, cap, rfl⟩ := own_form hv
  have HH := Lib.hid (And.intro h hv)
  have hm := make96 (l.length + 1) (by omega) w
  rw [Int.natCast_add, show ((1 : Nat) : Int) = 1 from rfl] at hm
  have hb0 : Blk (w.alloc (.cells (recArr (l.length + 1)) 99)) w.heap.size 99 (recCells (recsTo L l 0)).toArray := by
    rw [recsTo_zero, ← recArr_eq]; exact Blk.new _ _ _
  have HB0 := Lib.hid hb0
  clear h hv hb0
  generalize hn : l.length = n at *
  have HN := Lib.hid hn
  clear hn
  have hnx := hL.next
  go_enter Tryz.func47, Tryz.ntmps47
  go_wp2_with fail
  have HF0 := Lib.hid (show Fresh w (w.alloc (.cells (recArr (n + 1)) 99)) from (Touch.refl _ w).alloc _)
  go_loopw [15] (fun i wr => ∃ j : Nat, j ≤ n + 1 ∧ i = .int .i64 j ∧ Blk wr w.heap.size 99 (recCells (recsTo L l j)).toArray ∧ Fresh w wr) (fun i _ => n + 1 - (intOf i).toNat)
  case atStart => exact ⟨0, Nat.zero_le _, rfl, HB0.out, HF0.out⟩
  case round =>
    obtain ⟨j, hj, rfl, hB, hF⟩ := hrel
    have hlw := LogAt.kept (T := []) HH.out.1 (.of_fresh hF) (by simp)
    by_cases hlt : j < n + 1
    · have c4 := BlkL.cell hlw 4
      have c5 := BlkL.cell hlw 5
      simp only [List.getElem?_toArray, List.getElem?_cons_zero, List.getElem?_cons_succ] at c4 c5
      have f0 := hB.soft (j * 8)
      have f1 := hB.soft (j * 8 + 1)
      have f2 := hB.soft (j * 8 + 2)
      have f3 := hB.soft (j * 8 + 3)
      have f4 := hB.soft (j * 8 + 4)
      have f5 := hB.soft (j * 8 + 5)
      have f6 := hB.soft (j * 8 + 6)
      have f7 := hB.soft (j * 8 + 7)
      have ro := fun i (hi : i < 8) => (hB.cell (j * 8 + i)).trans (recsTo_old L l j i (by rw [HN.out]; exact hlt) hi)
      have r0 := ro 0 (by decide)
      have r1 := ro 1 (by decide)
      have r2 := ro 2 (by decide)
      have r3 := ro 3 (by decide)
      have r4 := ro 4 (by decide)
      have r5 := ro 5 (by decide)
      have r6 := ro 6 (by decide)
      have r7 := ro 7 (by decide)
      simp only [List.getElem?_toArray, List.getElem?_cons_zero, List.getElem?_cons_succ, Nat.add_zero] at r0 r1 r2 r3 r4 r5 r6 r7
      clear ro
      have i0 : (0 : Int) ≤ j := by omega
      have i1 : (j : Int) < (n : Int) + 1 := by omega
      have em : IntKind.i64.wrap ((L.next : Int) + j) = (L.next : Int) + j := by rw [IntKind.wrap_i64]; omega
      have HW := Lib.hid (And.intro hlw (And.intro hB hF))
      clear hlw hB hF
      have hq : w.heap.size ≠ q := by have := BlkL.lt HH.out.1; omega
      go_wp2_with fail
      go_region_held3 (fun w' => w'.cell? ⟨q, 4, none⟩ = some (.int .i64 L.next) ∧ w'.cell? ⟨q, 5, none⟩ = some (.int .i64 L.epoch))
        (first | go_keep | exact ⟨(far8 hq).trans c4, (far8 hq).trans c5⟩)
        (fail)
      have hB1 := rec_put (j := j) HW.out.2.1 (recBase L l j)
      have hF1 := touch8b HW.out.2.2 (Nat.le_refl _) (j * 8) (j * 8 + 1) (j * 8 + 2) (j * 8 + 3) (j * 8 + 4) (j * 8 + 5) (j * 8 + 6) (j * 8 + 7) (.int .i64 2) (.int .i64 L.epoch) (.int .i64 ((L.next : Int) + j)) (.int .i64 L.next) (.int .i64 j) (.int .i64 n) (.int .i64 0) (.string ⟨#[]⟩)
      simp only [recBase, HN.out, Int.natCast_add, show ((2 : Nat) : Int) = 2 from rfl, show ((0 : Nat) : Int) = 0 from rfl] at hB1
      clear c4 c5 f0 f1 f2 f3 f4 f5 f6 f7 r0 r1 r2 r3 r4 r5 r6 r7
      generalize ((((((((wr.setCell ⟨w.heap.size, j * 8, none⟩ (Value.int IntKind.i64 2)).setCell ⟨w.heap.size, j * 8 + 1, none⟩ (Value.int IntKind.i64 ↑L.epoch)).setCell ⟨w.heap.size, j * 8 + 2, none⟩ (Value.int IntKind.i64 (↑L.next + ↑j))).setCell ⟨w.heap.size, j * 8 + 3, none⟩ (Value.int IntKind.i64 ↑L.next)).setCell ⟨w.heap.size, j * 8 + 4, none⟩ (Value.int IntKind.i64 ↑j)).setCell ⟨w.heap.size, j * 8 + 5, none⟩ (Value.int IntKind.i64 ↑n)).setCell ⟨w.heap.size, j * 8 + 6, none⟩ (Value.int IntKind.i64 0)).setCell ⟨w.heap.size, j * 8 + 7, none⟩ (Value.string ⟨#[]⟩)) = W1 at *
      have H1 := Lib.hid (And.intro hB1 hF1)
      clear hB1 hF1
      have hB1 : Blk W1 w.heap.size 99 (recCells ((recsTo L l j).set j (recBase L l j))).toArray := by unfold recBase; rw [HN.out]; exact H1.out.1
      have HB1 := Lib.hid hB1
      by_cases hjn : j < n
      · have hvw := own_fresh HH.out.2 H1.out.2
        obtain ⟨g2, hA, -, hg2⟩ := own_addr HH.out.2 (by omega)
        subst hA
        have y := imgCells_get l j (by rw [HN.out]; exact hjn)
        have d0 := World.ownsRow.cellAt hvw (j * 2) (by omega)
        have d1 := World.ownsRow.cellAt hvw (j * 2 + 1) (by omega)
        rw [y.1] at d0
        rw [y.2] at d1
        clear y hvw
        have r0 := (hB1.cell (j * 8 + 0)).trans (recBase_old L l j 0 (by rw [HN.out]; exact hlt) (by decide))
        have r6 := (hB1.cell (j * 8 + 6)).trans (recBase_old L l j 6 (by rw [HN.out]; exact hlt) (by decide))
        have r7 := (hB1.cell (j * 8 + 7)).trans (recBase_old L l j 7 (by rw [HN.out]; exact hlt) (by decide))
        have f0 := hB1.soft (j * 8)
        have f6 := hB1.soft (j * 8 + 6)
        have f7 := hB1.soft (j * 8 + 7)
        have hI := recsTo_image L l (by rw [HN.out]; exact hjn) hB1
        simp only [recBase, LR.cs, logCs, List.getElem?_toArray, List.getElem?_cons_zero, List.getElem?_cons_succ, Nat.add_zero] at r0 r6 r7
        clear hB1
        generalize l.getD j (0, ⟨#[]⟩) = x at *
        have HI := Lib.hid hI
        clear hI
        have hg : w.heap.size ≠ g2 := by omega
        go_wp2_with fail
        go_region_held3 (fun w' => w'.cell? ⟨g2, j * 2, none⟩ = some (.int .i64 x.1) ∧ w'.cell? ⟨g2, j * 2 + 1, none⟩ = some (.string x.2))
          (first | go_keep | exact ⟨(far3 hg).trans d0, (far3 hg).trans d1⟩ | exact ⟨(cell_far2 hg).trans d0, (cell_far2 hg).trans d1⟩ | exact ⟨(cell_far2 hg).trans ((cell_far2 hg).trans d0), (cell_far2 hg).trans ((cell_far2 hg).trans d1)⟩)
          (fail)
        go_wp2_with fail
        go_roundw
        case rel => exact ⟨j + 1, by omega, by go_num, HI.out.touch (S := fun _ => False) (Touch.refl _ _).drew.drew id, (touch3b H1.out.2 (Nat.le_refl _) _ _ _ _ _ _).drew.drew⟩
        case measure => simp [intOf]; omega
      · clear hB1
        go_wp2_with fail
        go_roundw
        case rel =>
          have := HB1.out
          rw [recsTo_set L l j _ (recOf_last L l j (by rw [HN.out]; exact hjn))] at this
          exact ⟨j + 1, by omega, by go_num, this.touch (S := fun _ => False) (Touch.refl _ _).drew id, H1.out.2.drew⟩
        case measure => simp [intOf]; omega
    · obtain rfl : j = n + 1 := by omega
      have HW := Lib.hid (And.intro hB hF)
      clear hB hF hlw
      go_wp2_with fail
      go_ret
      refine ⟨_, rfl, ?_, HW.out.2⟩
      have := HW.out.1
      rw [← HN.out, recsTo_all] at this
      have h2 := own_recs (base := w.heap.size) this (Nat.le_refl _) (by rw [recsOf_length]; unfold maxLen; rw [HN.out]; omega)
      rw [recsOf_length, HN.out] at h2
      exact h2

end Go.Proofs.YtcpelncjagaadaaGreatDoor
