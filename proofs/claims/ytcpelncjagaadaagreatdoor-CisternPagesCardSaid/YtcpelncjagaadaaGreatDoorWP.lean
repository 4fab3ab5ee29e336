/-
  record: Home.
-/
import Derived.Test.YtcpelncjagaadaaGreatDoorWO
namespace Go.Proofs.YtcpelncjagaadaaGreatDoor
open Go.RowKit

attribute [local go_sem ↓] Go.wp_at_zero Go.wp_at_succ

set_option maxRecDepth 100000 in
set_option maxHeartbeats 1000000 in
theorem homeRight_any (p : Nat) (d : ByteArray) (w : World) (hd : d.size ≤ 160) : Calls Tryz.prog 51 #[.agg #[.int .i64 p, .string d]] w fun e w' => e = .returned (.bool true) ∧ Fresh w w' := by
  have t1 : decide ((p : Int) ≥ 0) = true := by simp
  have t2 : decide ((d.size : Int) ≤ 160) = true := by simp; omega
  go_enter Tryz.func51, Tryz.ntmps51
  go_wp2_with fail
  go_ret
  exact ⟨rfl, (Touch.refl _ w).alloc _⟩

theorem home_items (p : Nat) (d : ByteArray) : itemCells ([3, p].map Itm.num) ++ [.int .i64 2, .int .i64 0, .string d] = itemCells (Rec.home p d).items := by
  simp [itemCells, Rec.items, recItems, Itm.cells, Itm.kind, Itm.n, Itm.s]

set_option maxRecDepth 100000 in
set_option maxHeartbeats 4000000 in
theorem encodeHome_any (p : Nat) (d : ByteArray) (w : World) (h : (Rec.home p d).ok) : Calls Tryz.prog 32 #[.agg #[.int .i64 p, .string d]] w (OkBytes (Rec.home p d).bytes w) := by
  obtain ⟨i0, hi, hz0, hz1, hz2⟩ := info_parts Tryz.info108
  have HK := Lib.hid (And.intro (Rec.enc_le h) (And.intro (Rec.items_ok h) (home_items p d)))
  have hd := h.2
  clear h
  go_enter Tryz.func32, Tryz.ntmps32
  go_wp2_with fail
  refine (homeRight_any p d _ hd).mono ?_
  rintro e1 w1 ⟨rfl, ht⟩
  have hb : Blk w1 w.heap.size 84 #[.int .i64 p, .string d] := (Blk.new w 84 #[.int .i64 p, .string d]).touch ht id
  have c0 := hb.cell 0
  have c1 := hb.cell 1
  simp only [List.getElem?_toArray, List.getElem?_cons_zero, List.getElem?_cons_succ] at c0 c1
  have H1 := Lib.hid (((Touch.refl (fun _ => False) w).alloc (.cells #[.int .i64 p, .string d] 84)).both ht)
  have hs1 := ht.size
  have HB := Lib.hid hb
  clear ht hb
  have hw1 : w.heap.size ≤ w1.heap.size := H1.out.size
  go_wp2_with fail
  go_region_held3 (fun w' => w'.cell? ⟨w.heap.size, 0, none⟩ = some (.int .i64 p) ∧ w'.cell? ⟨w.heap.size, 1, none⟩ = some (.string d))
    (first | go_keep)
    (first
      | ((go_at_call 53; refine (numbers_any _ [3, p] _ (by simp) ((nums_new w1 [3, p] #[.int .i64 3, .int .i64 p] rfl _ rfl 2 2 rfl).fresh ((Touch.refl _ _).drew))).mono ?_; intro e w2 hg; obtain ⟨v2, rfl, ho, ht⟩ := hg; have H2 := Lib.hid (And.intro (own_base (b' := w.heap.size) ho (by simp; omega)) (And.intro ((H1.out.alloc _).drew.both ht) (((HB.out.alloc _).touch (S := fun _ => False) ((Touch.refl _ _).drew) id).touch ht id))); have k0 := H2.out.2.2.cell 0; have k1 := H2.out.2.2.cell 1; clear ho ht; simp only [List.getElem?_toArray, List.getElem?_cons_zero, List.getElem?_cons_succ] at k0 k1))
      | ((go_at_call 54; refine (text_any d _).mono ?_; rintro e w3 ⟨rfl, ht⟩; have H3 := Lib.hid (And.intro (own_fresh H2.out.1 ht) (And.intro (H2.out.2.1.both ht) (H2.out.2.2.touch ht id))); have k2 := H3.out.2.2.cell 0; have k3 := H3.out.2.2.cell 1; clear ht; simp only [List.getElem?_toArray, List.getElem?_cons_zero, List.getElem?_cons_succ] at k2 k3))
      | ((refine step_append_lies _ (by rfl) _ _ 105 (by rfl) w.heap.size 108 i0 _ 3 32 Tryz.underlying105 hi hz0 hz1 hz2 rfl (by decide) v2 2 _ (by rfl) (H3.out.1.alloc _) ⟨w3.heap.size, 0, none⟩ 1 1 [.int .i64 2, .int .i64 0, .string d] (by rfl) (by rfl) (many_at2 w3 #[.int .i64 2, .int .i64 0, .string d] 108 rfl) (by intro u hu; simp at hu; rcases hu with rfl | rfl | rfl <;> rfl) (by decide) (by unfold maxLen; omega) (by decide) (by have := H3.out.2.1.size; simp; omega) _ rfl ?_; intro g4 cap4 w4 ho hg _ _; have H4 := Lib.hid (And.intro (HK.out.2.2 ▸ ho) (And.intro (H3.out.2.1.appended H3.out.1 (Nat.le_refl _) hg) (H3.out.2.2.appended H3.out.1 (by decide) hg))); have k4 := H4.out.2.2.cell 0; have k5 := H4.out.2.2.cell 1; clear ho hg; simp only [List.getElem?_toArray, List.getElem?_cons_zero, List.getElem?_cons_succ] at k4 k5))
      | ((go_at_call 52; refine (sector_any _ (Rec.home p d).items _ (by simp [Rec.items, recItems]) HK.out.1 HK.out.2.1 (.own H4.out.1)).mono ?_; intro e w5 hg; obtain ⟨v5, rfl, ho, ht⟩ := hg; have H5 := Lib.hid (And.intro (own_base ho (Nat.le_refl _)) (And.intro (H4.out.2.1.both ht) (H4.out.2.2.touch ht id))); have k6 := H5.out.2.2.cell 0; have k7 := H5.out.2.2.cell 1; clear ho ht; simp only [List.getElem?_toArray, List.getElem?_cons_zero, List.getElem?_cons_succ] at k6 k7)))
  go_wp2_with fail
  go_ret2
  exact ⟨_, rfl, own_base H5.out.1 H4.out.2.1.size, H5.out.2.1⟩

set_option maxRecDepth 100000 in
set_option maxHeartbeats 2000000 in
theorem decodeHome_any (p : Nat) (d : ByteArray) (v : Value) (w : World) (h : (Rec.home p d).ok) (hs : Shows v (Rec.home p d).bytes w) :
    Calls Tryz.prog 50 #[v] w fun e' w' => e' = .returned (.tuple #[.agg #[.int .i64 p, .string d], .int .i64 0]) ∧ Fresh w w' := by
  have hd := h.2
  have HK := Lib.hid (And.intro (Rec.enc_le h) (And.intro (Rec.items_ok h) hs))
  clear h hs
  go_enter Tryz.func50, Tryz.ntmps50
  go_wp2_with fail
  refine (open_some v 3 [p] d _ (by simp) (by simp) HK.out.1 HK.out.2.1 (HK.out.2.2.fresh ((Touch.refl _ w).alloc _))).mono ?_
  intro e1 w1 hg
  obtain ⟨v1, rfl, ho, ht⟩ := hg
  obtain ⟨g1, cap1, rfl, hg1, hg2⟩ := own_slot ho (by simp)
  have c0 := own_num ho 0 (by simp) p rfl
  have hb : Blk w1 w.heap.size 84 #[.int .i64 0, .string ⟨#[]⟩] := (Blk.new w 84 #[.int .i64 0, .string ⟨#[]⟩]).touch ht id
  have H1 := Lib.hid (And.intro (((Touch.refl (fun _ => False) w).alloc (.cells #[.int .i64 0, .string ⟨#[]⟩] 84)).both ht) hb)
  clear ho ht hb
  go_wp2_with fail
  refine (homeRight_any p d _ hd).mono ?_
  rintro e2 w2 ⟨rfl, ht⟩
  have hx := Blk.new w1 84 #[.int .i64 p, .string d]
  have hb2 : Blk w2 w1.heap.size 84 #[.int .i64 p, .string d] := hx.touch ht id
  have hr2 : Blk w2 w.heap.size 84 #[.int .i64 0, .string ⟨#[]⟩] := (H1.out.2.touch (S := fun _ => False) ((Touch.refl _ w1).alloc (.cells #[.int .i64 p, .string d] 84)) id).touch ht id
  have k0 := hb2.cell 0
  have k1 := hb2.cell 1
  have r0 := hr2.cell 0
  have r1 := hr2.cell 1
  have s0 := hr2.soft 0
  have s1 := hr2.soft 1
  simp only [List.getElem?_toArray, List.getElem?_cons_zero, List.getElem?_cons_succ] at k0 k1 r0 r1
  have H2 := Lib.hid ((H1.out.1.alloc (.cells #[.int .i64 p, .string d] 84)).both ht)
  clear hx hb2 hr2 ht
  go_wp2_with fail
  have q0 : (w2.setCell ⟨w.heap.size, 0, none⟩ (.int .i64 p)).cell? ⟨w.heap.size, 0, none⟩ = some (.int .i64 p) := cell_at r0 _
  have q1 : ((w2.setCell ⟨w.heap.size, 0, none⟩ (.int .i64 p)).setCell ⟨w.heap.size, 1, none⟩ (.string d)).cell? ⟨w.heap.size, 1, none⟩ = some (.string d) := cell_at ((cell_off (by simp)).trans r1) _
  exact bodyPost_ret (v := .tuple #[.agg #[.int .i64 p, .string d], .int .i64 0]) (by simp [results, Tryz.results50, go_sem, q0, q1]) rfl ⟨rfl, ((H2.out.setNew _ _).setNew _ _)⟩

set_option maxRecDepth 100000 in
set_option maxHeartbeats 2000000 in
theorem decodeHome_noughts (v : Value) (w : World) (h : Shows v noughts w) :
    Calls Tryz.prog 50 #[v] w fun e' w' => e' = .returned (.tuple #[.agg #[.int .i64 0, .string ⟨#[]⟩], .int .i64 2]) ∧ Fresh w w' := by
  have HK := Lib.hid h
  clear h
  go_enter Tryz.func50, Tryz.ntmps50
  go_wp2_with fail
  refine (open_noughts v _ _ _ _ (HK.out.fresh ((Touch.refl _ w).alloc _))).mono ?_
  rintro e1 w1 ⟨rfl, ht⟩
  have hb : Blk w1 w.heap.size 84 #[.int .i64 0, .string ⟨#[]⟩] := (Blk.new w 84 #[.int .i64 0, .string ⟨#[]⟩]).touch ht id
  have r0 := hb.cell 0
  have r1 := hb.cell 1
  have s0 := hb.soft 0
  have s1 := hb.soft 1
  simp only [List.getElem?_toArray, List.getElem?_cons_zero, List.getElem?_cons_succ] at r0 r1
  have H1 := Lib.hid (((Touch.refl (fun _ => False) w).alloc (.cells #[.int .i64 0, .string ⟨#[]⟩] 84)).both ht)
  clear ht hb
  go_wp2_with fail
  have q0 : (w1.setCell ⟨w.heap.size, 0, none⟩ (.int .i64 0)).cell? ⟨w.heap.size, 0, none⟩ = some (.int .i64 0) := cell_at r0 _
  have q1 : ((w1.setCell ⟨w.heap.size, 0, none⟩ (.int .i64 0)).setCell ⟨w.heap.size, 1, none⟩ (.string ⟨#[]⟩)).cell? ⟨w.heap.size, 1, none⟩ = some (.string ⟨#[]⟩) := cell_at ((cell_off (by simp)).trans r1) _
  exact bodyPost_ret (v := .tuple #[.agg #[.int .i64 0, .string ⟨#[]⟩], .int .i64 2]) (by simp [results, Tryz.results50, go_sem, q0, q1]) rfl ⟨rfl, ((H1.out.setNew _ _).setNew _ _)⟩

end Go.Proofs.YtcpelncjagaadaaGreatDoor
