/-
  record: Log. (Printed by genlog.py.)
-/
import Derived.Test.YtcpelncjagaadaaGreatDoorWP
namespace Go.Proofs.YtcpelncjagaadaaGreatDoor
open Go.RowKit

attribute [local go_sem ↓] Go.wp_at_zero Go.wp_at_succ

abbrev logV (k e s t i c p : Nat) (d : ByteArray) : Value := .agg #[.int .i64 k, .int .i64 e, .int .i64 s, .int .i64 t, .int .i64 i, .int .i64 c, .int .i64 p, .string d]
/-- A log's cells. -/
abbrev logCs (k e s t i c p : Nat) (d : ByteArray) : Array Value := #[.int .i64 k, .int .i64 e, .int .i64 s, .int .i64 t, .int .i64 i, .int .i64 c, .int .i64 p, .string d]

set_option maxRecDepth 100000 in
set_option maxHeartbeats 2000000 in
theorem logRight_one (e s t i c p : Nat) (d : ByteArray) (w : World) (hd : d.size ≤ 160) : Calls Tryz.prog 62 #[logV 1 e s t i c p d] w fun e w' => e = .returned (.bool true) ∧ Fresh w w' := by
  have t2 : decide ((d.size : Int) > 160) = false := by simp; omega
  unfold logV
  go_enter Tryz.func62, Tryz.ntmps62
  go_wp2_with fail
  refine (natural_any _ [e, s, t, i, c, p] _ (by simp) ?hn).mono ?_
  case hn => exact nums_new _ _ _ rfl _ (by simp) _ _ rfl
  rintro e1 w1 ⟨rfl, rfl⟩
  go_wp2_with fail
  go_ret
  exact ⟨rfl, ((Touch.refl _ w).alloc _).alloc _⟩

set_option maxRecDepth 100000 in
set_option maxHeartbeats 2000000 in
theorem logRight_two (e s t i c : Nat) (w : World) : Calls Tryz.prog 62 #[logV 2 e s t i c 0 ⟨#[]⟩] w fun e w' => e = .returned (.bool true) ∧ Fresh w w' := by
  unfold logV
  go_enter Tryz.func62, Tryz.ntmps62
  go_wp2_with fail
  refine (natural_any _ [e, s, t, i, c, 0] _ (by simp) ?hn).mono ?_
  case hn => exact nums_new _ _ _ rfl _ (by simp) _ _ rfl
  rintro e1 w1 ⟨rfl, rfl⟩
  go_wp2_with fail
  go_ret
  exact ⟨rfl, ((Touch.refl _ w).alloc _).alloc _⟩

theorem logRight_any (k e s t i c p : Nat) (d : ByteArray) (w : World) (h : (Rec.log k e s t i c p d).ok) : Calls Tryz.prog 62 #[logV k e s t i c p d] w fun e w' => e = .returned (.bool true) ∧ Fresh w w' := by
  obtain ⟨h0, h1, h2, h3, h4, h5, h6, h7⟩ := h
  rcases h0 with rfl | ⟨rfl, rfl, rfl⟩
  · exact logRight_one e s t i c p d w h7
  · exact logRight_two e s t i c w

theorem log_items (k e s t i c p : Nat) (d : ByteArray) : itemCells ([2, k, e, s, t, i, c, p].map Itm.num) ++ [.int .i64 2, .int .i64 0, .string d] = itemCells (Rec.log k e s t i c p d).items := by
  simp [itemCells, Rec.items, recItems, Itm.cells, Itm.kind, Itm.n, Itm.s]

set_option maxRecDepth 100000 in
set_option maxHeartbeats 8000000 in
theorem encodeLog_any (k e s t i c p : Nat) (d : ByteArray) (w : World) (h : (Rec.log k e s t i c p d).ok) : Calls Tryz.prog 48 #[logV k e s t i c p d] w (OkBytes (Rec.log k e s t i c p d).bytes w) := by
  obtain ⟨i0, hi, hz0, hz1, hz2⟩ := info_parts Tryz.info108
  have HK := Lib.hid (And.intro (Rec.enc_le h) (And.intro (Rec.items_ok h) (log_items k e s t i c p d)))
  have HR := Lib.hid h
  clear h
  unfold logV
  go_enter Tryz.func48, Tryz.ntmps48
  go_wp2_with fail
  refine (logRight_any k e s t i c p d _ HR.out).mono ?_
  rintro e1 w1 ⟨rfl, ht⟩
  have hb : Blk w1 w.heap.size 99 (logCs k e s t i c p d) := (Blk.new w 99 _).touch ht id
  have c0 := hb.cell 0; have c1 := hb.cell 1; have c2 := hb.cell 2; have c3 := hb.cell 3; have c4 := hb.cell 4; have c5 := hb.cell 5; have c6 := hb.cell 6; have c7 := hb.cell 7
  unfold logCs at c0 c1 c2 c3 c4 c5 c6 c7
  simp only [List.getElem?_toArray, List.getElem?_cons_zero, List.getElem?_cons_succ] at c0 c1 c2 c3 c4 c5 c6 c7
  have H1 := Lib.hid (((Touch.refl (fun _ => False) w).alloc (.cells (logCs k e s t i c p d) 99)).both ht)
  have HB := Lib.hid hb
  clear ht hb
  have hw1 : w.heap.size ≤ w1.heap.size := H1.out.size
  go_wp2_with fail
  go_region_held3 (fun w' => w'.cell? ⟨w.heap.size, 0, none⟩ = some (.int .i64 k) ∧ w'.cell? ⟨w.heap.size, 1, none⟩ = some (.int .i64 e) ∧ w'.cell? ⟨w.heap.size, 2, none⟩ = some (.int .i64 s) ∧ w'.cell? ⟨w.heap.size, 3, none⟩ = some (.int .i64 t) ∧ w'.cell? ⟨w.heap.size, 4, none⟩ = some (.int .i64 i) ∧ w'.cell? ⟨w.heap.size, 5, none⟩ = some (.int .i64 c) ∧ w'.cell? ⟨w.heap.size, 6, none⟩ = some (.int .i64 p) ∧ w'.cell? ⟨w.heap.size, 7, none⟩ = some (.string d))
    (first | go_keep)
    (first
      | ((go_at_call 53; refine (numbers_any _ [2, k, e, s, t, i, c, p] _ (by simp) ((nums_new w1 [2, k, e, s, t, i, c, p] _ rfl _ rfl 8 8 rfl).fresh ((Touch.refl _ _).drew))).mono ?_; intro e2 w2 hg; obtain ⟨v2, rfl, ho, ht⟩ := hg; have H2 := Lib.hid (And.intro (own_base (b' := w.heap.size) ho (by simp; omega)) (And.intro ((H1.out.alloc _).drew.both ht) (((HB.out.alloc _).touch (S := fun _ => False) ((Touch.refl _ _).drew) id).touch ht id))); have k0 := H2.out.2.2.cell 0; have k1 := H2.out.2.2.cell 1; have k2 := H2.out.2.2.cell 2; have k3 := H2.out.2.2.cell 3; have k4 := H2.out.2.2.cell 4; have k5 := H2.out.2.2.cell 5; have k6 := H2.out.2.2.cell 6; have k7 := H2.out.2.2.cell 7; clear ho ht; unfold logCs at k0 k1 k2 k3 k4 k5 k6 k7; simp only [List.getElem?_toArray, List.getElem?_cons_zero, List.getElem?_cons_succ] at k0 k1 k2 k3 k4 k5 k6 k7))
      | ((go_at_call 54; refine (text_any d _).mono ?_; rintro e3 w3 ⟨rfl, ht⟩; have H3 := Lib.hid (And.intro (own_fresh H2.out.1 ht) (And.intro (H2.out.2.1.both ht) (H2.out.2.2.touch ht id))); have l0 := H3.out.2.2.cell 0; have l1 := H3.out.2.2.cell 1; have l2 := H3.out.2.2.cell 2; have l3 := H3.out.2.2.cell 3; have l4 := H3.out.2.2.cell 4; have l5 := H3.out.2.2.cell 5; have l6 := H3.out.2.2.cell 6; have l7 := H3.out.2.2.cell 7; clear ht; unfold logCs at l0 l1 l2 l3 l4 l5 l6 l7; simp only [List.getElem?_toArray, List.getElem?_cons_zero, List.getElem?_cons_succ] at l0 l1 l2 l3 l4 l5 l6 l7))
      | ((refine step_append_lies _ (by rfl) _ _ 105 (by rfl) w.heap.size 108 i0 _ 3 32 Tryz.underlying105 hi hz0 hz1 hz2 rfl (by decide) v2 8 _ (by rfl) (H3.out.1.alloc _) ⟨w3.heap.size, 0, none⟩ 1 1 [.int .i64 2, .int .i64 0, .string d] (by rfl) (by rfl) (many_at2 w3 #[.int .i64 2, .int .i64 0, .string d] 108 rfl) (by intro u hu; simp at hu; rcases hu with rfl | rfl | rfl <;> rfl) (by decide) (by unfold maxLen; omega) (by decide) (by have := H3.out.2.1.size; simp; omega) _ rfl ?_; intro g4 cap4 w4 ho hg _ _; have H4 := Lib.hid (And.intro (HK.out.2.2 ▸ ho) (And.intro (H3.out.2.1.appended H3.out.1 (Nat.le_refl _) hg) (H3.out.2.2.appended H3.out.1 (by decide) hg))); have m0 := H4.out.2.2.cell 0; have m1 := H4.out.2.2.cell 1; have m2 := H4.out.2.2.cell 2; have m3 := H4.out.2.2.cell 3; have m4 := H4.out.2.2.cell 4; have m5 := H4.out.2.2.cell 5; have m6 := H4.out.2.2.cell 6; have m7 := H4.out.2.2.cell 7; clear ho hg; unfold logCs at m0 m1 m2 m3 m4 m5 m6 m7; simp only [List.getElem?_toArray, List.getElem?_cons_zero, List.getElem?_cons_succ] at m0 m1 m2 m3 m4 m5 m6 m7))
      | ((go_at_call 52; refine (sector_any _ (Rec.log k e s t i c p d).items _ (by simp [Rec.items, recItems]) HK.out.1 HK.out.2.1 (.own H4.out.1)).mono ?_; intro e5 w5 hg; obtain ⟨v5, rfl, ho, ht⟩ := hg; have H5 := Lib.hid (And.intro (own_base ho (Nat.le_refl _)) (And.intro (H4.out.2.1.both ht) (H4.out.2.2.touch ht id))); have n0 := H5.out.2.2.cell 0; have n1 := H5.out.2.2.cell 1; have n2 := H5.out.2.2.cell 2; have n3 := H5.out.2.2.cell 3; have n4 := H5.out.2.2.cell 4; have n5 := H5.out.2.2.cell 5; have n6 := H5.out.2.2.cell 6; have n7 := H5.out.2.2.cell 7; clear ho ht; unfold logCs at n0 n1 n2 n3 n4 n5 n6 n7; simp only [List.getElem?_toArray, List.getElem?_cons_zero, List.getElem?_cons_succ] at n0 n1 n2 n3 n4 n5 n6 n7)))
  go_wp2_with fail
  go_ret2
  exact ⟨_, rfl, own_base H5.out.1 H4.out.2.1.size, H5.out.2.1⟩

set_option maxRecDepth 100000 in
set_option maxHeartbeats 8000000 in
theorem decodeLog_any (k e s t i c p : Nat) (d : ByteArray) (v : Value) (w : World) (h : (Rec.log k e s t i c p d).ok) (hs : Shows v (Rec.log k e s t i c p d).bytes w) :
    Calls Tryz.prog 69 #[v] w fun e' w' => e' = .returned (.tuple #[logV k e s t i c p d, .int .i64 0]) ∧ Fresh w w' := by
  have HK := Lib.hid (And.intro (Rec.enc_le h) (And.intro (Rec.items_ok h) hs))
  have HR := Lib.hid h
  clear h hs
  go_enter Tryz.func69, Tryz.ntmps69
  go_wp2_with fail
  refine (open_some v 2 [k, e, s, t, i, c, p] d _ (by simp) (by simp) HK.out.1 HK.out.2.1 (HK.out.2.2.fresh ((Touch.refl _ w).alloc _))).mono ?_
  intro e1 w1 hg
  obtain ⟨v1, rfl, ho, ht⟩ := hg
  obtain ⟨g1, cap1, rfl, hg1, hg2⟩ := own_slot ho (by simp)
  have d0 := own_num ho 0 (by simp) k rfl
  have d1 := own_num ho 1 (by simp) e rfl
  have d2 := own_num ho 2 (by simp) s rfl
  have d3 := own_num ho 3 (by simp) t rfl
  have d4 := own_num ho 4 (by simp) i rfl
  have d5 := own_num ho 5 (by simp) c rfl
  have d6 := own_num ho 6 (by simp) p rfl
  have hb : Blk w1 w.heap.size 99 (logCs 0 0 0 0 0 0 0 ⟨#[]⟩) := (Blk.new w 99 _).touch ht id
  have H1 := Lib.hid (And.intro (((Touch.refl (fun _ => False) w).alloc (.cells (logCs 0 0 0 0 0 0 0 ⟨#[]⟩) 99)).both ht) hb)
  clear ho ht hb
  go_wp2_with fail
  go_region_held3 (fun w' => w'.cell? ⟨g1, 0, none⟩ = some (.int .i64 k) ∧ w'.cell? ⟨g1, 1, none⟩ = some (.int .i64 e) ∧ w'.cell? ⟨g1, 2, none⟩ = some (.int .i64 s) ∧ w'.cell? ⟨g1, 3, none⟩ = some (.int .i64 t) ∧ w'.cell? ⟨g1, 4, none⟩ = some (.int .i64 i) ∧ w'.cell? ⟨g1, 5, none⟩ = some (.int .i64 c) ∧ w'.cell? ⟨g1, 6, none⟩ = some (.int .i64 p))
    (first | go_keep)
    (fail)
  go_wp2_with fail
  refine (logRight_any k e s t i c p d _ HR.out).mono ?_
  rintro e2 w2 ⟨rfl, ht⟩
  have hx := Blk.new w1.drew 99 (logCs k e s t i c p d)
  have hb2 : Blk w2 w1.heap.size 99 (logCs k e s t i c p d) := hx.touch ht id
  have hr2 : Blk w2 w.heap.size 99 (logCs 0 0 0 0 0 0 0 ⟨#[]⟩) := (H1.out.2.touch (S := fun _ => False) ((Touch.refl _ w1).drew.alloc (.cells (logCs k e s t i c p d) 99)) id).touch ht id
  have k0 := hb2.cell 0
  have k1 := hb2.cell 1
  have k2 := hb2.cell 2
  have k3 := hb2.cell 3
  have k4 := hb2.cell 4
  have k5 := hb2.cell 5
  have k6 := hb2.cell 6
  have k7 := hb2.cell 7
  have r0 := hr2.cell 0
  have r1 := hr2.cell 1
  have r2 := hr2.cell 2
  have r3 := hr2.cell 3
  have r4 := hr2.cell 4
  have r5 := hr2.cell 5
  have r6 := hr2.cell 6
  have r7 := hr2.cell 7
  have s0 := hr2.soft 0
  have s1 := hr2.soft 1
  have s2 := hr2.soft 2
  have s3 := hr2.soft 3
  have s4 := hr2.soft 4
  have s5 := hr2.soft 5
  have s6 := hr2.soft 6
  have s7 := hr2.soft 7
  unfold logCs at k0 k1 k2 k3 k4 k5 k6 k7 r0 r1 r2 r3 r4 r5 r6 r7
  simp only [List.getElem?_toArray, List.getElem?_cons_zero, List.getElem?_cons_succ] at k0 k1 k2 k3 k4 k5 k6 k7 r0 r1 r2 r3 r4 r5 r6 r7
  have H2 := Lib.hid ((H1.out.1.drew.alloc (.cells (logCs k e s t i c p d) 99)).both ht)
  clear hx hb2 hr2 ht
  go_wp2_with fail
  have q0 : ((w2.setCell ⟨w.heap.size, 0, none⟩ (.int .i64 k))).cell? ⟨w.heap.size, 0, none⟩ = some (.int .i64 k) := cell_at r0 _
  have q1 : (((w2.setCell ⟨w.heap.size, 0, none⟩ (.int .i64 k)).setCell ⟨w.heap.size, 1, none⟩ (.int .i64 e))).cell? ⟨w.heap.size, 1, none⟩ = some (.int .i64 e) := cell_at ((cell_off (by simp)).trans r1) _
  have q2 : ((((w2.setCell ⟨w.heap.size, 0, none⟩ (.int .i64 k)).setCell ⟨w.heap.size, 1, none⟩ (.int .i64 e)).setCell ⟨w.heap.size, 2, none⟩ (.int .i64 s))).cell? ⟨w.heap.size, 2, none⟩ = some (.int .i64 s) := cell_at ((cell_off (by simp)).trans ((cell_off (by simp)).trans r2)) _
  have q3 : (((((w2.setCell ⟨w.heap.size, 0, none⟩ (.int .i64 k)).setCell ⟨w.heap.size, 1, none⟩ (.int .i64 e)).setCell ⟨w.heap.size, 2, none⟩ (.int .i64 s)).setCell ⟨w.heap.size, 3, none⟩ (.int .i64 t))).cell? ⟨w.heap.size, 3, none⟩ = some (.int .i64 t) := cell_at ((cell_off (by simp)).trans ((cell_off (by simp)).trans ((cell_off (by simp)).trans r3))) _
  have q4 : ((((((w2.setCell ⟨w.heap.size, 0, none⟩ (.int .i64 k)).setCell ⟨w.heap.size, 1, none⟩ (.int .i64 e)).setCell ⟨w.heap.size, 2, none⟩ (.int .i64 s)).setCell ⟨w.heap.size, 3, none⟩ (.int .i64 t)).setCell ⟨w.heap.size, 4, none⟩ (.int .i64 i))).cell? ⟨w.heap.size, 4, none⟩ = some (.int .i64 i) := cell_at ((cell_off (by simp)).trans ((cell_off (by simp)).trans ((cell_off (by simp)).trans ((cell_off (by simp)).trans r4)))) _
  have q5 : (((((((w2.setCell ⟨w.heap.size, 0, none⟩ (.int .i64 k)).setCell ⟨w.heap.size, 1, none⟩ (.int .i64 e)).setCell ⟨w.heap.size, 2, none⟩ (.int .i64 s)).setCell ⟨w.heap.size, 3, none⟩ (.int .i64 t)).setCell ⟨w.heap.size, 4, none⟩ (.int .i64 i)).setCell ⟨w.heap.size, 5, none⟩ (.int .i64 c))).cell? ⟨w.heap.size, 5, none⟩ = some (.int .i64 c) := cell_at ((cell_off (by simp)).trans ((cell_off (by simp)).trans ((cell_off (by simp)).trans ((cell_off (by simp)).trans ((cell_off (by simp)).trans r5))))) _
  have q6 : ((((((((w2.setCell ⟨w.heap.size, 0, none⟩ (.int .i64 k)).setCell ⟨w.heap.size, 1, none⟩ (.int .i64 e)).setCell ⟨w.heap.size, 2, none⟩ (.int .i64 s)).setCell ⟨w.heap.size, 3, none⟩ (.int .i64 t)).setCell ⟨w.heap.size, 4, none⟩ (.int .i64 i)).setCell ⟨w.heap.size, 5, none⟩ (.int .i64 c)).setCell ⟨w.heap.size, 6, none⟩ (.int .i64 p))).cell? ⟨w.heap.size, 6, none⟩ = some (.int .i64 p) := cell_at ((cell_off (by simp)).trans ((cell_off (by simp)).trans ((cell_off (by simp)).trans ((cell_off (by simp)).trans ((cell_off (by simp)).trans ((cell_off (by simp)).trans r6)))))) _
  have q7 : (((((((((w2.setCell ⟨w.heap.size, 0, none⟩ (.int .i64 k)).setCell ⟨w.heap.size, 1, none⟩ (.int .i64 e)).setCell ⟨w.heap.size, 2, none⟩ (.int .i64 s)).setCell ⟨w.heap.size, 3, none⟩ (.int .i64 t)).setCell ⟨w.heap.size, 4, none⟩ (.int .i64 i)).setCell ⟨w.heap.size, 5, none⟩ (.int .i64 c)).setCell ⟨w.heap.size, 6, none⟩ (.int .i64 p)).setCell ⟨w.heap.size, 7, none⟩ (.string d))).cell? ⟨w.heap.size, 7, none⟩ = some (.string d) := cell_at ((cell_off (by simp)).trans ((cell_off (by simp)).trans ((cell_off (by simp)).trans ((cell_off (by simp)).trans ((cell_off (by simp)).trans ((cell_off (by simp)).trans ((cell_off (by simp)).trans r7))))))) _
  exact bodyPost_ret (v := .tuple #[logV k e s t i c p d, .int .i64 0]) (by simp [results, Tryz.results69, go_sem, q0, q1, q2, q3, q4, q5, q6, q7]) rfl ⟨rfl, ((((((((H2.out.setNew _ _).setNew _ _).setNew _ _).setNew _ _).setNew _ _).setNew _ _).setNew _ _).setNew _ _)⟩

set_option maxRecDepth 100000 in
set_option maxHeartbeats 8000000 in
theorem decodeLog_noughts (v : Value) (w : World) (h : Shows v noughts w) :
    Calls Tryz.prog 69 #[v] w fun e' w' => e' = .returned (.tuple #[logV 0 0 0 0 0 0 0 ⟨#[]⟩, .int .i64 2]) ∧ Fresh w w' := by
  have HK := Lib.hid h
  clear h
  go_enter Tryz.func69, Tryz.ntmps69
  go_wp2_with fail
  refine (open_noughts v _ _ _ _ (HK.out.fresh ((Touch.refl _ w).alloc _))).mono ?_
  rintro e1 w1 ⟨rfl, ht⟩
  have hb : Blk w1 w.heap.size 99 (logCs 0 0 0 0 0 0 0 ⟨#[]⟩) := (Blk.new w 99 _).touch ht id
  have r0 := hb.cell 0
  have r1 := hb.cell 1
  have r2 := hb.cell 2
  have r3 := hb.cell 3
  have r4 := hb.cell 4
  have r5 := hb.cell 5
  have r6 := hb.cell 6
  have r7 := hb.cell 7
  have s0 := hb.soft 0
  have s1 := hb.soft 1
  have s2 := hb.soft 2
  have s3 := hb.soft 3
  have s4 := hb.soft 4
  have s5 := hb.soft 5
  have s6 := hb.soft 6
  have s7 := hb.soft 7
  unfold logCs at r0 r1 r2 r3 r4 r5 r6 r7
  simp only [List.getElem?_toArray, List.getElem?_cons_zero, List.getElem?_cons_succ] at r0 r1 r2 r3 r4 r5 r6 r7
  have H1 := Lib.hid (((Touch.refl (fun _ => False) w).alloc (.cells (logCs 0 0 0 0 0 0 0 ⟨#[]⟩) 99)).both ht)
  clear ht hb
  go_wp2_with fail
  have q0 : ((w1.setCell ⟨w.heap.size, 0, none⟩ (.int .i64 0))).cell? ⟨w.heap.size, 0, none⟩ = some (.int .i64 0) := cell_at r0 _
  have q1 : (((w1.setCell ⟨w.heap.size, 0, none⟩ (.int .i64 0)).setCell ⟨w.heap.size, 1, none⟩ (.int .i64 0))).cell? ⟨w.heap.size, 1, none⟩ = some (.int .i64 0) := cell_at ((cell_off (by simp)).trans r1) _
  have q2 : ((((w1.setCell ⟨w.heap.size, 0, none⟩ (.int .i64 0)).setCell ⟨w.heap.size, 1, none⟩ (.int .i64 0)).setCell ⟨w.heap.size, 2, none⟩ (.int .i64 0))).cell? ⟨w.heap.size, 2, none⟩ = some (.int .i64 0) := cell_at ((cell_off (by simp)).trans ((cell_off (by simp)).trans r2)) _
  have q3 : (((((w1.setCell ⟨w.heap.size, 0, none⟩ (.int .i64 0)).setCell ⟨w.heap.size, 1, none⟩ (.int .i64 0)).setCell ⟨w.heap.size, 2, none⟩ (.int .i64 0)).setCell ⟨w.heap.size, 3, none⟩ (.int .i64 0))).cell? ⟨w.heap.size, 3, none⟩ = some (.int .i64 0) := cell_at ((cell_off (by simp)).trans ((cell_off (by simp)).trans ((cell_off (by simp)).trans r3))) _
  have q4 : ((((((w1.setCell ⟨w.heap.size, 0, none⟩ (.int .i64 0)).setCell ⟨w.heap.size, 1, none⟩ (.int .i64 0)).setCell ⟨w.heap.size, 2, none⟩ (.int .i64 0)).setCell ⟨w.heap.size, 3, none⟩ (.int .i64 0)).setCell ⟨w.heap.size, 4, none⟩ (.int .i64 0))).cell? ⟨w.heap.size, 4, none⟩ = some (.int .i64 0) := cell_at ((cell_off (by simp)).trans ((cell_off (by simp)).trans ((cell_off (by simp)).trans ((cell_off (by simp)).trans r4)))) _
  have q5 : (((((((w1.setCell ⟨w.heap.size, 0, none⟩ (.int .i64 0)).setCell ⟨w.heap.size, 1, none⟩ (.int .i64 0)).setCell ⟨w.heap.size, 2, none⟩ (.int .i64 0)).setCell ⟨w.heap.size, 3, none⟩ (.int .i64 0)).setCell ⟨w.heap.size, 4, none⟩ (.int .i64 0)).setCell ⟨w.heap.size, 5, none⟩ (.int .i64 0))).cell? ⟨w.heap.size, 5, none⟩ = some (.int .i64 0) := cell_at ((cell_off (by simp)).trans ((cell_off (by simp)).trans ((cell_off (by simp)).trans ((cell_off (by simp)).trans ((cell_off (by simp)).trans r5))))) _
  have q6 : ((((((((w1.setCell ⟨w.heap.size, 0, none⟩ (.int .i64 0)).setCell ⟨w.heap.size, 1, none⟩ (.int .i64 0)).setCell ⟨w.heap.size, 2, none⟩ (.int .i64 0)).setCell ⟨w.heap.size, 3, none⟩ (.int .i64 0)).setCell ⟨w.heap.size, 4, none⟩ (.int .i64 0)).setCell ⟨w.heap.size, 5, none⟩ (.int .i64 0)).setCell ⟨w.heap.size, 6, none⟩ (.int .i64 0))).cell? ⟨w.heap.size, 6, none⟩ = some (.int .i64 0) := cell_at ((cell_off (by simp)).trans ((cell_off (by simp)).trans ((cell_off (by simp)).trans ((cell_off (by simp)).trans ((cell_off (by simp)).trans ((cell_off (by simp)).trans r6)))))) _
  have q7 : (((((((((w1.setCell ⟨w.heap.size, 0, none⟩ (.int .i64 0)).setCell ⟨w.heap.size, 1, none⟩ (.int .i64 0)).setCell ⟨w.heap.size, 2, none⟩ (.int .i64 0)).setCell ⟨w.heap.size, 3, none⟩ (.int .i64 0)).setCell ⟨w.heap.size, 4, none⟩ (.int .i64 0)).setCell ⟨w.heap.size, 5, none⟩ (.int .i64 0)).setCell ⟨w.heap.size, 6, none⟩ (.int .i64 0)).setCell ⟨w.heap.size, 7, none⟩ (.string ⟨#[]⟩))).cell? ⟨w.heap.size, 7, none⟩ = some (.string ⟨#[]⟩) := cell_at ((cell_off (by simp)).trans ((cell_off (by simp)).trans ((cell_off (by simp)).trans ((cell_off (by simp)).trans ((cell_off (by simp)).trans ((cell_off (by simp)).trans ((cell_off (by simp)).trans r7))))))) _
  exact bodyPost_ret (v := .tuple #[logV 0 0 0 0 0 0 0 ⟨#[]⟩, .int .i64 2]) (by simp [results, Tryz.results69, go_sem, q0, q1, q2, q3, q4, q5, q6, q7]) rfl ⟨rfl, ((((((((H1.out.setNew _ _).setNew _ _).setNew _ _).setNew _ _).setNew _ _).setNew _ _).setNew _ _).setNew _ _)⟩

end Go.Proofs.YtcpelncjagaadaaGreatDoor
