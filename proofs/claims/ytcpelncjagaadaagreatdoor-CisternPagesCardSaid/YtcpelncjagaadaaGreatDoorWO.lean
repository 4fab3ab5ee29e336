/-
  record: DecodeSuper; Home.
-/
import Derived.Test.YtcpelncjagaadaaGreatDoorWN
namespace Go.Proofs.YtcpelncjagaadaaGreatDoor
open Go.RowKit

attribute [local go_sem ↓] Go.wp_at_zero Go.wp_at_succ

/-- The cells of a list of numbers of the call's own. -/
theorem own_num {w : World} {base g cap : Nat} {N : List Nat} {n : Nat} (h : w.ownsRow base 3 1 (.slice (some ⟨g, 0, none⟩) n cap) n (i64s N)) (i : Nat) (hi : i < n) (x : Nat) (hx : N[i]? = some x) : w.cell? ⟨g, i, none⟩ = some (.int .i64 x) := by
  rw [World.ownsRow.cellAt h i (by omega)]
  simp [i64s, hx]

theorem Touch.setNew {S : Nat → Prop} {a w : World} (h : Touch S a w) (i : Nat) (v : Value) : Touch S a (w.setCell ⟨a.heap.size, i, none⟩ v) :=
  h.setCell _ _ (fun hp => absurd hp (Nat.lt_irrefl _))

set_option maxRecDepth 100000 in
set_option maxHeartbeats 2000000 in
theorem decodeSuper_any (g e t : Nat) (v : Value) (w : World) (h : (Rec.sup g e t).ok) (hs : Shows v (Rec.sup g e t).bytes w) :
    Calls Tryz.prog 42 #[v] w fun e' w' => e' = .returned (.tuple #[.agg #[.int .i64 g, .int .i64 e, .int .i64 t], .int .i64 0]) ∧ Fresh w w' := by
  have HK := Lib.hid (And.intro (Rec.enc_le h) (And.intro (Rec.items_ok h) hs))
  clear h hs
  go_enter Tryz.func42, Tryz.ntmps42
  go_wp2_with fail
  refine (open_none v 1 [g, e, t] _ (by simp) (by simp) HK.out.1 HK.out.2.1 (HK.out.2.2.fresh ((Touch.refl _ w).alloc _))).mono ?_
  intro e1 w1 hg
  obtain ⟨v1, rfl, ho, ht⟩ := hg
  obtain ⟨g1, cap1, rfl, hg1, hg2⟩ := own_slot ho (by simp)
  have c0 := own_num ho 0 (by simp) g rfl
  have c1 := own_num ho 1 (by simp) e rfl
  have c2 := own_num ho 2 (by simp) t rfl
  have hb : Blk w1 w.heap.size 55 #[.int .i64 0, .int .i64 0, .int .i64 0] := (Blk.new w 55 #[.int .i64 0, .int .i64 0, .int .i64 0]).touch ht id
  have H1 := Lib.hid (And.intro (((Touch.refl (fun _ => False) w).alloc (.cells #[.int .i64 0, .int .i64 0, .int .i64 0] 55)).both ht) hb)
  clear ho ht hb
  go_wp2_with fail
  go_region_held3 (fun w' => w'.cell? ⟨g1, 0, none⟩ = some (.int .i64 g) ∧ w'.cell? ⟨g1, 1, none⟩ = some (.int .i64 e) ∧ w'.cell? ⟨g1, 2, none⟩ = some (.int .i64 t))
    (first | go_keep)
    (fail)
  go_wp2_with fail
  refine (supRight_any g e t _).mono ?_
  rintro e2 w2 ⟨rfl, ht⟩
  have hx := Blk.new w1.drew 55 #[.int .i64 g, .int .i64 e, .int .i64 t]
  have hb2 : Blk w2 w1.heap.size 55 #[.int .i64 g, .int .i64 e, .int .i64 t] := hx.touch ht id
  have hr2 : Blk w2 w.heap.size 55 #[.int .i64 0, .int .i64 0, .int .i64 0] := (H1.out.2.touch (S := fun _ => False) ((Touch.refl _ w1).drew.alloc (.cells #[.int .i64 g, .int .i64 e, .int .i64 t] 55)) id).touch ht id
  have k0 := hb2.cell 0
  have k1 := hb2.cell 1
  have k2 := hb2.cell 2
  have r0 := hr2.cell 0
  have r1 := hr2.cell 1
  have r2 := hr2.cell 2
  have s0 := hr2.soft 0
  have s1 := hr2.soft 1
  have s2 := hr2.soft 2
  simp only [List.getElem?_toArray, List.getElem?_cons_zero, List.getElem?_cons_succ] at k0 k1 k2 r0 r1 r2
  have H2 := Lib.hid ((H1.out.1.drew.alloc (.cells #[.int .i64 g, .int .i64 e, .int .i64 t] 55)).both ht)
  clear hx hb2 hr2 ht
  go_wp2_with fail
  go_outline
  have q0 : (w2.setCell ⟨w.heap.size, 0, none⟩ (.int .i64 g)).cell? ⟨w.heap.size, 0, none⟩ = some (.int .i64 g) := cell_at r0 _
  have q1 : ((w2.setCell ⟨w.heap.size, 0, none⟩ (.int .i64 g)).setCell ⟨w.heap.size, 1, none⟩ (.int .i64 e)).cell? ⟨w.heap.size, 1, none⟩ = some (.int .i64 e) := cell_at ((cell_off (by simp)).trans r1) _
  have q2 : (((w2.setCell ⟨w.heap.size, 0, none⟩ (.int .i64 g)).setCell ⟨w.heap.size, 1, none⟩ (.int .i64 e)).setCell ⟨w.heap.size, 2, none⟩ (.int .i64 t)).cell? ⟨w.heap.size, 2, none⟩ = some (.int .i64 t) := cell_at ((cell_off (by simp)).trans ((cell_off (by simp)).trans r2)) _
  exact bodyPost_ret (v := .tuple #[.agg #[.int .i64 g, .int .i64 e, .int .i64 t], .int .i64 0]) (by simp [results, Tryz.results42, go_sem, q0, q1, q2]) rfl ⟨rfl, ((H2.out.setNew _ _).setNew _ _).setNew _ _⟩

set_option maxRecDepth 100000 in
set_option maxHeartbeats 2000000 in
theorem decodeSuper_noughts (v : Value) (w : World) (h : Shows v noughts w) :
    Calls Tryz.prog 42 #[v] w fun e' w' => e' = .returned (.tuple #[.agg #[.int .i64 0, .int .i64 0, .int .i64 0], .int .i64 2]) ∧ Fresh w w' := by
  have HK := Lib.hid h
  clear h
  go_enter Tryz.func42, Tryz.ntmps42
  go_wp2_with fail
  refine (open_noughts v _ _ _ _ (HK.out.fresh ((Touch.refl _ w).alloc _))).mono ?_
  rintro e1 w1 ⟨rfl, ht⟩
  have hb : Blk w1 w.heap.size 55 #[.int .i64 0, .int .i64 0, .int .i64 0] := (Blk.new w 55 #[.int .i64 0, .int .i64 0, .int .i64 0]).touch ht id
  have r0 := hb.cell 0
  have r1 := hb.cell 1
  have r2 := hb.cell 2
  have s0 := hb.soft 0
  have s1 := hb.soft 1
  have s2 := hb.soft 2
  simp only [List.getElem?_toArray, List.getElem?_cons_zero, List.getElem?_cons_succ] at r0 r1 r2
  have H1 := Lib.hid (((Touch.refl (fun _ => False) w).alloc (.cells #[.int .i64 0, .int .i64 0, .int .i64 0] 55)).both ht)
  clear ht hb
  go_wp2_with fail
  go_outline
  have q0 : (w1.setCell ⟨w.heap.size, 0, none⟩ (.int .i64 0)).cell? ⟨w.heap.size, 0, none⟩ = some (.int .i64 0) := cell_at r0 _
  have q1 : ((w1.setCell ⟨w.heap.size, 0, none⟩ (.int .i64 0)).setCell ⟨w.heap.size, 1, none⟩ (.int .i64 0)).cell? ⟨w.heap.size, 1, none⟩ = some (.int .i64 0) := cell_at ((cell_off (by simp)).trans r1) _
  have q2 : (((w1.setCell ⟨w.heap.size, 0, none⟩ (.int .i64 0)).setCell ⟨w.heap.size, 1, none⟩ (.int .i64 0)).setCell ⟨w.heap.size, 2, none⟩ (.int .i64 0)).cell? ⟨w.heap.size, 2, none⟩ = some (.int .i64 0) := cell_at ((cell_off (by simp)).trans ((cell_off (by simp)).trans r2)) _
  exact bodyPost_ret (v := .tuple #[.agg #[.int .i64 0, .int .i64 0, .int .i64 0], .int .i64 2]) (by simp [results, Tryz.results42, go_sem, q0, q1, q2]) rfl ⟨rfl, ((H1.out.setNew _ _).setNew _ _).setNew _ _⟩

end Go.Proofs.YtcpelncjagaadaaGreatDoor
