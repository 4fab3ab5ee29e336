/-
  wal: records.
-/
import Derived.Test.YtcpelncjagaadaaGreatDoorXG
namespace Go.Proofs.YtcpelncjagaadaaGreatDoor
open Go.RowKit

attribute [local go_sem ↓] Go.wp_at_zero Go.wp_at_succ

abbrev Img : Type := Nat × ByteArray
def recOf (L : Wal) (l : List Img) (i : Nat) : LR :=
  if i < l.length then ⟨1, L.epoch, L.next + i, L.next, i, l.length, (l.getD i (0, ⟨#[]⟩)).1, (l.getD i (0, ⟨#[]⟩)).2⟩ else ⟨2, L.epoch, L.next + i, L.next, i, l.length, 0, ⟨#[]⟩⟩
def recsOf (L : Wal) (l : List Img) : List LR := (List.range (l.length + 1)).map (recOf L l)
theorem recsOf_length (L : Wal) (l : List Img) : (recsOf L l).length = l.length + 1 := by simp [recsOf]
def recCells (rs : List LR) : List Value := rs.flatMap fun r => r.cs.toList
theorem recCells_length (rs : List LR) : (recCells rs).length = rs.length * 8 := by
  induction rs with
  | nil => rfl
  | cons a l ih => simp [recCells] at *; omega
theorem recCells_get (rs : List LR) (m : Nat) : (recCells rs)[m]? = (rs[m / 8]?).bind fun r => r.cs[m % 8]? := by
  induction rs generalizing m with
  | nil => simp [recCells]
  | cons a t ih =>
    have e : recCells (a :: t) = a.cs.toList ++ recCells t := by simp [recCells]
    rw [e]
    by_cases h : m < 8
    · rw [List.getElem?_append_left (by simpa using h), show m / 8 = 0 by omega, show m % 8 = m by omega]
      simp
    · rw [List.getElem?_append_right (by simp; omega)]
      have e1 : (m / 8) = (m - 8) / 8 + 1 := by omega
      have e2 : m % 8 = (m - 8) % 8 := by omega
      rw [e1, e2]
      simpa using ih (m - 8)
/-- A whole record is put into its place. -/
theorem recCells_set (rs : List LR) (j : Nat) (r : LR) : recCells (rs.set j r) = ((((((((recCells rs).set (j * 8) (.int .i64 r.k)).set (j * 8 + 1) (.int .i64 r.e)).set (j * 8 + 2) (.int .i64 r.s)).set (j * 8 + 3) (.int .i64 r.t)).set (j * 8 + 4) (.int .i64 r.i)).set (j * 8 + 5) (.int .i64 r.c)).set (j * 8 + 6) (.int .i64 r.p)).set (j * 8 + 7) (.string r.d) := by
  apply List.ext_getElem?
  intro m
  simp only [List.getElem?_set, List.length_set, recCells_get, recCells_length]
  by_cases hm : j = m / 8
  · by_cases hl : j < rs.length
    · obtain ⟨i, hi, rfl⟩ : ∃ i, i < 8 ∧ m = j * 8 + i := ⟨m % 8, Nat.mod_lt _ (by decide), by omega⟩
      have e1 : (j * 8 + i) / 8 = j := by omega
      have e2 : (j * 8 + i) % 8 = i := by omega
      have e3 : i = 0 ∨ i = 1 ∨ i = 2 ∨ i = 3 ∨ i = 4 ∨ i = 5 ∨ i = 6 ∨ i = 7 := by omega
      have l0 : j * 8 < rs.length * 8 := by omega
      have l1 : j * 8 + 1 < rs.length * 8 := by omega
      have l2 : j * 8 + 2 < rs.length * 8 := by omega
      have l3 : j * 8 + 3 < rs.length * 8 := by omega
      have l4 : j * 8 + 4 < rs.length * 8 := by omega
      have l5 : j * 8 + 5 < rs.length * 8 := by omega
      have l6 : j * 8 + 6 < rs.length * 8 := by omega
      have l7 : j * 8 + 7 < rs.length * 8 := by omega
      rw [e1, e2]
      rcases e3 with rfl | rfl | rfl | rfl | rfl | rfl | rfl | rfl <;> simp [hl, l0, l1, l2, l3, l4, l5, l6, l7, LR.cs]
    · have e9 : rs[m / 8]? = none := by rw [List.getElem?_eq_none]; omega
      simp only [e9, if_pos hm, if_neg hl, Option.bind_none]
      repeat' split
      all_goals first | rfl | omega
  · rw [if_neg hm]
    repeat' split
    all_goals first | rfl | omega
theorem rec_put {w : World} {g j : Nat} {rs : List LR} (h : Blk w g 99 (recCells rs).toArray) (r : LR) :
    Blk ((((((((w.setCell ⟨g, j * 8, none⟩ (.int .i64 r.k)).setCell ⟨g, j * 8 + 1, none⟩ (.int .i64 r.e)).setCell ⟨g, j * 8 + 2, none⟩ (.int .i64 r.s)).setCell ⟨g, j * 8 + 3, none⟩ (.int .i64 r.t)).setCell ⟨g, j * 8 + 4, none⟩ (.int .i64 r.i)).setCell ⟨g, j * 8 + 5, none⟩ (.int .i64 r.c)).setCell ⟨g, j * 8 + 6, none⟩ (.int .i64 r.p)).setCell ⟨g, j * 8 + 7, none⟩ (.string r.d)) g 99 (recCells (rs.set j r)).toArray := by
  have hh := (Blk.set (Blk.set (Blk.set (Blk.set (Blk.set (Blk.set (Blk.set (Blk.set h (j * 8) (.int .i64 r.k)) (j * 8 + 1) (.int .i64 r.e)) (j * 8 + 2) (.int .i64 r.s)) (j * 8 + 3) (.int .i64 r.t)) (j * 8 + 4) (.int .i64 r.i)) (j * 8 + 5) (.int .i64 r.c)) (j * 8 + 6) (.int .i64 r.p)) (j * 8 + 7) (.string r.d))
  simp only [List.setIfInBounds_toArray] at hh
  rw [recCells_set]
  exact hh
/-- An image's kind, page and text are put into a record that stands. -/
theorem rec_image {w : World} {g j : Nat} {rs : List LR} (h : Blk w g 99 (recCells rs).toArray) {r : LR} (hr : rs[j]? = some r) (k p : Nat) (d : ByteArray) :
    Blk (((w.setCell ⟨g, j * 8, none⟩ (.int .i64 k)).setCell ⟨g, j * 8 + 6, none⟩ (.int .i64 p)).setCell ⟨g, j * 8 + 7, none⟩ (.string d)) g 99 (recCells (rs.set j { r with k := k, p := p, d := d })).toArray := by
  have hh := (Blk.set (Blk.set (Blk.set h (j * 8) (.int .i64 k)) (j * 8 + 6) (.int .i64 p)) (j * 8 + 7) (.string d))
  simp only [List.setIfInBounds_toArray] at hh
  obtain ⟨hl, hr⟩ := List.getElem?_eq_some_iff.1 hr
  have e : recCells (rs.set j { r with k := k, p := p, d := d }) = (((recCells rs).set (j * 8) (.int .i64 k)).set (j * 8 + 6) (.int .i64 p)).set (j * 8 + 7) (.string d) := by
    rw [recCells_set]
    apply List.ext_getElem?
    intro m
    have c : ∀ i (hi : i < 8), (recCells rs)[j * 8 + i]? = r.cs[i]? := by
      intro i hi
      rw [recCells_get, show (j * 8 + i) / 8 = j by omega, show (j * 8 + i) % 8 = i by omega, List.getElem?_eq_getElem hl, hr]; rfl
    by_cases hm : j = m / 8
    · obtain ⟨i, hi, rfl⟩ : ∃ i, i < 8 ∧ m = j * 8 + i := ⟨m % 8, Nat.mod_lt _ (by decide), by omega⟩
      have c0 := c i hi
      have e3 : i = 0 ∨ i = 1 ∨ i = 2 ∨ i = 3 ∨ i = 4 ∨ i = 5 ∨ i = 6 ∨ i = 7 := by omega
      have hlen : (recCells rs).length = rs.length * 8 := recCells_length rs
      have l0 : j * 8 < (recCells rs).length := by omega
      have l1 : j * 8 + 1 < (recCells rs).length := by omega
      have l2 : j * 8 + 2 < (recCells rs).length := by omega
      have l3 : j * 8 + 3 < (recCells rs).length := by omega
      have l4 : j * 8 + 4 < (recCells rs).length := by omega
      have l5 : j * 8 + 5 < (recCells rs).length := by omega
      simp only [List.getElem?_set, List.length_set]
      clear hlen hh h hm
      rcases e3 with rfl | rfl | rfl | rfl | rfl | rfl | rfl | rfl
      all_goals simp only [Nat.add_zero] at c0 ⊢
      all_goals first
        | (simp [l0, l1, l2, l3, l4, l5]; done)
        | (simp [l1, l2, l3, l4, l5]; exact Option.some.inj (c0.symm.trans (List.getElem?_eq_getElem _)))
    · simp only [List.getElem?_set, List.length_set]
      repeat' split
      all_goals first | rfl | omega
  rw [e]
  exact hh
theorem own_recs {w : World} {base g : Nat} {rs : List LR} (h : Blk w g 99 (recCells rs).toArray) (hb : base ≤ g) (hl : rs.length ≤ maxLen) : w.ownsRow base 99 8 (.slice (some ⟨g, 0, none⟩) rs.length rs.length) rs.length (recCells rs) := by
  refine ⟨recCells_length rs, .inr ⟨g, _, _, rfl, hb, h, Nat.le_refl _, hl, by simp [recCells_length], ?_⟩⟩
  rw [← recCells_length]
  exact List.take_of_length_le (Nat.le_refl _)
theorem Tryz.info99 : (Tryz.prog.info? 99).map (fun i => (i.zero, i.size, i.bytes)) = some (some LR.zero.v, 8, 72) := by kernel_rfl
/-- Noughts of records. -/
@[irreducible] def recArr (n : Nat) : Array Value := (recCells (List.replicate n LR.zero)).toArray
theorem recArr_eq (n : Nat) : recArr n = (recCells (List.replicate n LR.zero)).toArray := by unfold recArr; rfl
theorem recArr_made (n : Nat) : recArr n = madeCells LR.zero.cs (n * 8) := by
  rw [recArr_eq]
  apply Array.ext_getElem?
  intro m
  rw [List.getElem?_toArray, recCells_get]
  unfold madeCells
  rw [Array.getElem?_map, Array.getElem?_range, List.getElem?_replicate]
  by_cases h : m < n * 8
  · rw [if_pos (by omega), if_pos h]
    have e1 : m % 8 < 8 := Nat.mod_lt _ (by decide)
    have e2 : LR.zero.cs.size = 8 := rfl
    simp only [Option.bind_some, Option.map_some, e2]
    rw [Array.getElem?_eq_getElem (by rw [e2]; exact e1), getElem!_pos _ _ (by rw [e2]; exact e1)]
  · rw [if_neg (by omega), if_neg h]; rfl
theorem make96 (n : Nat) (hn : n ≤ 4096) (w : World) : (Instr.makeSlice 96 (.int .i64 n) (.int .i64 n)).run Tryz.prog w = .ok (.slice (some ⟨w.heap.size, 0, none⟩) n n) (w.alloc (.cells (recArr n) 99)) := by
  obtain ⟨i0, hi, hz0, hz1, hz2⟩ := info_parts Tryz.info99
  have h := run_make (P := Tryz.prog) (w := w) 96 99 i0 _ Tryz.underlying96 hi hz0 .i64 .i64 n n (by omega) (by omega) (by rw [hz2]; omega) (by omega)
  rw [h, hz1, recArr_made]
  simp
  rfl

end Go.Proofs.YtcpelncjagaadaaGreatDoor
