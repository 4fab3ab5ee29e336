/-
  wal: read, a record.
-/
import Derived.Test.YtcpelncjagaadaaGreatDoorXC
namespace Go.Proofs.YtcpelncjagaadaaGreatDoor
open Go.RowKit

attribute [local go_sem ↓] Go.wp_at_zero Go.wp_at_succ

set_option maxRecDepth 100000 in
set_option maxHeartbeats 8000000 in
theorem lread_some [Inhabited Bs] (q p seq : Nat) (L : Wal) (D : RD) (w : World) (h : LogAt w q p L) (hD : DevAt Rec.bytes w p D) (hoff : D.off = false) (hw : D.waits = []) (hz : 2 ≤ L.sz ∧ L.sz ≤ 1000) (hn : 2 + L.sz ≤ D.n) (k e s t i c p' : Nat) (d : ByteArray) (hx : D.s (2 + seq % L.sz) = ⟨some (.log k e s t i c p' d), false⟩) (hr : (Rec.log k e s t i c p' d).ok) :
    Calls Tryz.prog 58 #[.pointer (some ⟨q, 0, none⟩), .int .i64 seq] w fun ee w' => ee = .returned (.tuple #[logV k e s t i c p' d, .bool ((s : Int) == seq)]) ∧ Fresh w w' := by
  have hf : Fresh w (w.alloc (.cells #[.int .i64 0, .int .i64 0, .int .i64 0, .int .i64 0, .int .i64 0, .int .i64 0, .int .i64 0, .string ⟨#[]⟩] 99)) := (Touch.refl _ w).alloc _
  have h1 := BlkL.alloc h (.cells #[.int .i64 0, .int .i64 0, .int .i64 0, .int .i64 0, .int .i64 0, .int .i64 0, .int .i64 0, .string ⟨#[]⟩] 99)
  have c0 := h1.cell 0
  have c1 := h1.cell 1
  have c2 := h1.cell 2
  simp only [List.getElem?_toArray, List.getElem?_cons_zero, List.getElem?_cons_succ] at c0 c1 c2
  obtain ⟨m, hm0⟩ : ∃ m, 2 + seq % L.sz = m := ⟨_, rfl⟩
  rw [hm0] at hx
  have e2 : IntKind.i64.wrap ((2 : Int) + (seq : Int).tmod L.sz) = (m : Int) := by rw [← hm0]; exact seq_wrap hz
  have hm : m < D.n := by have := Nat.mod_lt seq (show L.sz > 0 by omega); omega
  have t0 : ¬ (L.sz : Int) = 0 := by omega
  have t1 : ¬ L.sz = 0 := by omega
  clear hm0
  have HH := Lib.hid (And.intro h1 (And.intro (hD.fresh hf) (And.intro hf (Blk.new w 99 zc))))
  have HX := Lib.hid hx
  
  clear h hD h1 hf hx
  go_enter Tryz.func58, Tryz.ntmps58
  go_wp2_with fail
  go_region_held3 (fun w' => w'.cell? ⟨q, 0, none⟩ = some (.pointer (some ⟨p, 0, none⟩)) ∧ w'.cell? ⟨q, 1, none⟩ = some (.int .i64 2) ∧ w'.cell? ⟨q, 2, none⟩ = some (.int .i64 L.sz))
    (first | go_keep)
    (((go_at_call 17; refine (read_any p D m _ (HH.out.2.1.fresh ((Touch.refl _ _).drew)) hoff hw hm (by intro r h'; rw [HX.out] at h'; cases h'; have := Rec.bytes_length hr; omega)).mono ?_; intro e2 w2 hg; unfold ReadPost at hg; rw [HX.out] at hg; have hg : OkBytes (Rec.log k e s t i c p' d).bytes _ e2 w2 := hg; obtain ⟨v2, rfl, ho2, hf2⟩ := hg; have hf2 := hf2.of_drew; have H2 := Lib.hid (And.intro (HH.out.1.touch hf2 id) (And.intro (HH.out.2.2.1.both hf2) (And.intro (HH.out.2.2.2.touch hf2 id) ho2))); have k0 := H2.out.1.cell 0; have k1 := H2.out.1.cell 1; have k2 := H2.out.1.cell 2; clear hf2 ho2; simp only [List.getElem?_toArray, List.getElem?_cons_zero, List.getElem?_cons_succ] at k0 k1 k2)))
  go_wp2_with fail
  refine (decodeLog_any k e s t i c p' d v2 _ hr (.own H2.out.2.2.2)).mono ?_
  rintro e3 w3 ⟨rfl, hf3⟩
  have H3 := Lib.hid (And.intro (H2.out.2.1.both hf3) (H2.out.2.2.1.touch hf3 id))
  clear hf3
  go_wp2_with fail
  unfold logV
  have hN : Fresh w3 (w3.alloc (.cells #[.int .i64 k, .int .i64 e, .int .i64 s, .int .i64 t, .int .i64 i, .int .i64 c, .int .i64 p', .string d] 99)) := (Touch.refl _ w3).alloc _
  have hz := Blk.new w3 99 #[.int .i64 k, .int .i64 e, .int .i64 s, .int .i64 t, .int .i64 i, .int .i64 c, .int .i64 p', .string d]
  have o0 := hz.cell 0
  have o1 := hz.cell 1
  have o2 := hz.cell 2
  have o3 := hz.cell 3
  have o4 := hz.cell 4
  have o5 := hz.cell 5
  have o6 := hz.cell 6
  have o7 := hz.cell 7
  simp only [List.getElem?_toArray, List.getElem?_cons_zero, List.getElem?_cons_succ] at o0 o1 o2 o3 o4 o5 o6 o7
  have hr := H3.out.2.touch hN id
  have r0 := hr.cell 0
  have s0 := hr.soft 0
  have r1 := hr.cell 1
  have s1 := hr.soft 1
  have r2 := hr.cell 2
  have s2 := hr.soft 2
  have r3 := hr.cell 3
  have s3 := hr.soft 3
  have r4 := hr.cell 4
  have s4 := hr.soft 4
  have r5 := hr.cell 5
  have s5 := hr.soft 5
  have r6 := hr.cell 6
  have s6 := hr.soft 6
  have r7 := hr.cell 7
  have s7 := hr.soft 7
  simp only [List.getElem?_toArray, List.getElem?_cons_zero, List.getElem?_cons_succ] at r0 r1 r2 r3 r4 r5 r6 r7
  have H4 := Lib.hid (And.intro (H3.out.1.both hN) hr)
  have nb : w.heap.size ≠ w3.heap.size := by have := H3.out.2.lt; omega
  clear hN hz hr
  generalize w3.alloc (.cells #[.int .i64 k, .int .i64 e, .int .i64 s, .int .i64 t, .int .i64 i, .int .i64 c, .int .i64 p', .string d] 99) = w4 at *
  generalize w3.heap.size = bs at *
  go_region
  all_goals
    go_wp2_with fail
    obtain ⟨q0, q1, q2, q3, q4, q5, q6, q7⟩ := at8 H4.out.2 (.int .i64 k) (.int .i64 e) (.int .i64 s) (.int .i64 t) (.int .i64 i) (.int .i64 c) (.int .i64 p') (.string d)
    exact bodyPost_ret (v := .tuple #[logV k e s t i c p' d, .bool ((s : Int) == seq)]) (by simp [results, Tryz.results58, go_sem, q0, q1, q2, q3, q4, q5, q6, q7]) rfl ⟨rfl, (touch8 H4.out.1 ⟨k, e, s, t, i, c, p', d⟩).drew⟩

end Go.Proofs.YtcpelncjagaadaaGreatDoor
