/-
  wal: Room, Next, Trim, read.
-/
import Derived.Test.YtcpelncjagaadaaGreatDoorXA
namespace Go.Proofs.YtcpelncjagaadaaGreatDoor
open Go.RowKit

attribute [local go_sem ↓] Go.wp_at_zero Go.wp_at_succ

abbrev RD : Type := Dev Rec
structure Wal where
  sz : Nat
  tail : Nat
  next : Nat
  epoch : Nat
structure Wal.ok (L : Wal) : Prop where
  le : L.tail ≤ L.next
  room : L.next ≤ L.tail + L.sz
  sz : 2 ≤ L.sz ∧ L.sz ≤ 1000
  next : L.next ≤ 1000000
  epoch : L.epoch ≤ 1000000
def LogAt [Inhabited Bs] (w : World) (q p : Nat) (L : Wal) : Prop := BlkL w q 93 #[.pointer (some ⟨p, 0, none⟩), .int .i64 2, .int .i64 L.sz, .int .i64 L.tail, .int .i64 L.next, .int .i64 L.epoch]
theorem LogAt.kept [Inhabited Bs] {T : List (Option TypeId)} {w w' : World} {q p : Nat} {L : Wal} (h : LogAt w q p L) (hk : Kept T w w') (hT : some 93 ∉ T) : LogAt w' q p L := BlkL.kept h hk hT

set_option maxHeartbeats 1000000 in
theorem room_any [Inhabited Bs] (q p : Nat) (L : Wal) (w : World) (h : LogAt w q p L) (hL : L.ok) : Calls Tryz.prog 25 #[.pointer (some ⟨q, 0, none⟩)] w fun e w' => e = .returned (.int .i64 (L.sz - (L.next - L.tail) : Nat)) ∧ ∃ k, w' = w.drewN k := by
  have c2 := BlkL.cell h 2
  have c3 := BlkL.cell h 3
  have c4 := BlkL.cell h 4
  simp only [List.getElem?_toArray, List.getElem?_cons_zero, List.getElem?_cons_succ] at c2 c3 c4
  have e1 : IntKind.i64.wrap ((L.next : Int) - L.tail) = ((L.next - L.tail : Nat) : Int) := by have := hL.le; have := hL.next; rw [IntKind.wrap_i64]; omega
  have e2 : IntKind.i64.wrap ((L.sz : Int) - ((L.next - L.tail : Nat) : Int)) = ((L.sz - (L.next - L.tail) : Nat) : Int) := by have := hL.le; have := hL.sz; have := hL.room; rw [IntKind.wrap_i64]; omega
  have HE := Lib.hid (And.intro e1 e2)
  clear h
  go_enter Tryz.func25, Tryz.ntmps25
  go_wp2_with fail
  go_quiet (fail)
  go_wp2_with fail
  go_ret
  exact ⟨by first | rfl | exact ret_int (by first | rfl | omega), _, rfl⟩

theorem next_any [Inhabited Bs] (q p : Nat) (L : Wal) (w : World) (h : LogAt w q p L) : Calls Tryz.prog 34 #[.pointer (some ⟨q, 0, none⟩)] w fun e w' => e = .returned (.int .i64 L.next) ∧ w' = w := by
  have c4 := BlkL.cell h 4
  simp only [List.getElem?_toArray, List.getElem?_cons_zero, List.getElem?_cons_succ] at c4
  clear h
  go_enter Tryz.func34, Tryz.ntmps34
  go_wp2_with fail
  go_ret
  exact ⟨rfl, rfl⟩

theorem ltrim_any [Inhabited Bs] (q p : Nat) (L : Wal) (w : World) (h : LogAt w q p L) (hL : L.ok) : Calls Tryz.prog 35 #[.pointer (some ⟨q, 0, none⟩), .int .i64 L.next] w fun e w' => e = .returned (.int .i64 0) ∧ LogAt w' q p { L with tail := L.next } ∧ Kept [some 93] w w' := by
  have c3 := BlkL.cell h 3
  have c4 := BlkL.cell h 4
  have f3 := BlkL.soft h 3
  simp only [List.getElem?_toArray, List.getElem?_cons_zero, List.getElem?_cons_succ] at c3 c4
  have t0 : L.tail ≤ L.next := hL.le
  have HH := Lib.hid h
  clear h
  go_enter Tryz.func35, Tryz.ntmps35
  go_wp2_with fail
  go_ret
  exact ⟨rfl, HH.out.set 3 (.int .i64 L.next), .store HH.out (by simp) _ _⟩

theorem seq_wrap {seq z : Nat} (hz : 2 ≤ z ∧ z ≤ 1000) : IntKind.i64.wrap ((2 : Int) + (seq : Int).tmod (z : Int)) = ((2 + seq % z : Nat) : Int) := by
  have h1 := Nat.mod_lt seq (show z > 0 by omega)
  rw [Int.tmod_eq_emod_of_nonneg (by omega), ← Int.natCast_emod, IntKind.wrap_i64]
  omega

/-- A log record. -/
structure LR where
  k : Nat
  e : Nat
  s : Nat
  t : Nat
  i : Nat
  c : Nat
  p : Nat
  d : ByteArray
abbrev LR.v (r : LR) : Value := logV r.k r.e r.s r.t r.i r.c r.p r.d
abbrev LR.r (r : LR) : Rec := .log r.k r.e r.s r.t r.i r.c r.p r.d
def LR.zero : LR := ⟨0, 0, 0, 0, 0, 0, 0, ⟨#[]⟩⟩
/-- A log's sector: noughts or a log record, torn or not. -/
def LogSec (x : Sec Rec) : Prop := ∀ r, x.b = some r → ∃ l : LR, r = l.r ∧ r.ok
/-- What is read of a sector as the record with a number. -/
def gotL (x : Sec Rec) (seq : Nat) : LR × Bool :=
  if x.torn = true then (LR.zero, false) else match x.b with
    | some (.log k e s t i c p d) => (⟨k, e, s, t, i, c, p, d⟩, s == seq)
    | _ => (LR.zero, false)
abbrev LR.cs (l : LR) : Array Value := logCs l.k l.e l.s l.t l.i l.c l.p l.d
/-- A record stored into a block. -/
abbrev World.put8 (w : World) (b : Nat) (l : LR) : World := ((((((((w.setCell ⟨b, 0, none⟩ (.int .i64 l.k)).setCell ⟨b, 1, none⟩ (.int .i64 l.e)).setCell ⟨b, 2, none⟩ (.int .i64 l.s)).setCell ⟨b, 3, none⟩ (.int .i64 l.t)).setCell ⟨b, 4, none⟩ (.int .i64 l.i)).setCell ⟨b, 5, none⟩ (.int .i64 l.c)).setCell ⟨b, 6, none⟩ (.int .i64 l.p)).setCell ⟨b, 7, none⟩ (.string l.d))
theorem blk8 {w : World} {b : Nat} {o l : LR} (h : Blk w b 99 o.cs) : Blk (World.put8 w b l) b 99 l.cs := by
  unfold LR.cs logCs at *
  have hh := (Blk.set (Blk.set (Blk.set (Blk.set (Blk.set (Blk.set (Blk.set (Blk.set h 0 (.int .i64 l.k)) 1 (.int .i64 l.e)) 2 (.int .i64 l.s)) 3 (.int .i64 l.t)) 4 (.int .i64 l.i)) 5 (.int .i64 l.c)) 6 (.int .i64 l.p)) 7 (.string l.d))
  simp only [List.setIfInBounds_toArray, List.set_cons_zero, List.set_cons_succ] at hh
  exact hh
/-- The cells of no record. -/
abbrev zc : Array Value := #[.int .i64 0, .int .i64 0, .int .i64 0, .int .i64 0, .int .i64 0, .int .i64 0, .int .i64 0, .string ⟨#[]⟩]
theorem zc_eq : LR.zero.cs = zc := rfl
theorem touch8 {S : Nat → Prop} {a w : World} (h : Touch S a w) (l : LR) : Touch S a (World.put8 w a.heap.size l) :=
  (((((((h.setNew _ _).setNew _ _).setNew _ _).setNew _ _).setNew _ _).setNew _ _).setNew _ _).setNew _ _


theorem at8 {w : World} {b : Nat} {u0 u1 u2 u3 u4 u5 u6 u7 : Value} (h : Blk w b 99 #[u0, u1, u2, u3, u4, u5, u6, u7]) (v0 v1 v2 v3 v4 v5 v6 v7 : Value) : (w.setCell ⟨b, 0, none⟩ v0).cell? ⟨b, 0, none⟩ = some v0 ∧ ((w.setCell ⟨b, 0, none⟩ v0).setCell ⟨b, 1, none⟩ v1).cell? ⟨b, 1, none⟩ = some v1 ∧ (((w.setCell ⟨b, 0, none⟩ v0).setCell ⟨b, 1, none⟩ v1).setCell ⟨b, 2, none⟩ v2).cell? ⟨b, 2, none⟩ = some v2 ∧ ((((w.setCell ⟨b, 0, none⟩ v0).setCell ⟨b, 1, none⟩ v1).setCell ⟨b, 2, none⟩ v2).setCell ⟨b, 3, none⟩ v3).cell? ⟨b, 3, none⟩ = some v3 ∧ (((((w.setCell ⟨b, 0, none⟩ v0).setCell ⟨b, 1, none⟩ v1).setCell ⟨b, 2, none⟩ v2).setCell ⟨b, 3, none⟩ v3).setCell ⟨b, 4, none⟩ v4).cell? ⟨b, 4, none⟩ = some v4 ∧ ((((((w.setCell ⟨b, 0, none⟩ v0).setCell ⟨b, 1, none⟩ v1).setCell ⟨b, 2, none⟩ v2).setCell ⟨b, 3, none⟩ v3).setCell ⟨b, 4, none⟩ v4).setCell ⟨b, 5, none⟩ v5).cell? ⟨b, 5, none⟩ = some v5 ∧ (((((((w.setCell ⟨b, 0, none⟩ v0).setCell ⟨b, 1, none⟩ v1).setCell ⟨b, 2, none⟩ v2).setCell ⟨b, 3, none⟩ v3).setCell ⟨b, 4, none⟩ v4).setCell ⟨b, 5, none⟩ v5).setCell ⟨b, 6, none⟩ v6).cell? ⟨b, 6, none⟩ = some v6 ∧ ((((((((w.setCell ⟨b, 0, none⟩ v0).setCell ⟨b, 1, none⟩ v1).setCell ⟨b, 2, none⟩ v2).setCell ⟨b, 3, none⟩ v3).setCell ⟨b, 4, none⟩ v4).setCell ⟨b, 5, none⟩ v5).setCell ⟨b, 6, none⟩ v6).setCell ⟨b, 7, none⟩ v7).cell? ⟨b, 7, none⟩ = some v7 :=
  ⟨cell_at (h.cell 0) _, cell_at ((cell_off (by simp)).trans (h.cell 1)) _, cell_at ((cell_off (by simp)).trans ((cell_off (by simp)).trans (h.cell 2))) _, cell_at ((cell_off (by simp)).trans ((cell_off (by simp)).trans ((cell_off (by simp)).trans (h.cell 3)))) _, cell_at ((cell_off (by simp)).trans ((cell_off (by simp)).trans ((cell_off (by simp)).trans ((cell_off (by simp)).trans (h.cell 4))))) _, cell_at ((cell_off (by simp)).trans ((cell_off (by simp)).trans ((cell_off (by simp)).trans ((cell_off (by simp)).trans ((cell_off (by simp)).trans (h.cell 5)))))) _, cell_at ((cell_off (by simp)).trans ((cell_off (by simp)).trans ((cell_off (by simp)).trans ((cell_off (by simp)).trans ((cell_off (by simp)).trans ((cell_off (by simp)).trans (h.cell 6))))))) _, cell_at ((cell_off (by simp)).trans ((cell_off (by simp)).trans ((cell_off (by simp)).trans ((cell_off (by simp)).trans ((cell_off (by simp)).trans ((cell_off (by simp)).trans ((cell_off (by simp)).trans (h.cell 7)))))))) _⟩

set_option maxRecDepth 100000 in
set_option maxHeartbeats 8000000 in
theorem lread_torn [Inhabited Bs] (q p seq : Nat) (L : Wal) (D : RD) (w : World) (h : LogAt w q p L) (hD : DevAt Rec.bytes w p D) (hoff : D.off = false) (hw : D.waits = []) (hz : 2 ≤ L.sz ∧ L.sz ≤ 1000) (hn : 2 + L.sz ≤ D.n) {b : Option Rec} (hx : D.s (2 + seq % L.sz) = ⟨b, true⟩) (hb : ∀ r, b = some r → r.ok) :
    Calls Tryz.prog 58 #[.pointer (some ⟨q, 0, none⟩), .int .i64 seq] w fun e w' => e = .returned (.tuple #[LR.zero.v, .bool false]) ∧ Fresh w w' := by
  have hf : Fresh w (w.alloc (.cells #[.int .i64 0, .int .i64 0, .int .i64 0, .int .i64 0, .int .i64 0, .int .i64 0, .int .i64 0, .string ⟨#[]⟩] 99)) := (Touch.refl _ w).alloc _
  have h1 := BlkL.alloc h (.cells #[.int .i64 0, .int .i64 0, .int .i64 0, .int .i64 0, .int .i64 0, .int .i64 0, .int .i64 0, .string ⟨#[]⟩] 99)
  have c0 := h1.cell 0
  have c1 := h1.cell 1
  have c2 := h1.cell 2
  simp only [List.getElem?_toArray, List.getElem?_cons_zero, List.getElem?_cons_succ] at c0 c1 c2
  obtain ⟨m, hm0⟩ : ∃ m, 2 + seq % L.sz = m := ⟨_, rfl⟩
  rw [hm0] at hx
  have e2 : IntKind.i64.wrap ((2 : Int) + (seq : Int).tmod L.sz) = (m : Int) := by rw [← hm0]; exact seq_wrap hz
  have hm : m < D.n := by have := Nat.mod_lt seq (show L.sz > 0 by omega); omega
  have t0 : ¬ (L.sz : Int) = 0 := by omega
  have t1 : ¬ L.sz = 0 := by omega
  clear hm0
  have HH := Lib.hid (And.intro h1 (And.intro (hD.fresh hf) (And.intro hf (Blk.new w 99 zc))))
  have HX := Lib.hid hx
  clear h hD h1 hf hx
  go_enter Tryz.func58, Tryz.ntmps58
  go_wp2_with fail
  go_region_held3 (fun w' => w'.cell? ⟨q, 0, none⟩ = some (.pointer (some ⟨p, 0, none⟩)) ∧ w'.cell? ⟨q, 1, none⟩ = some (.int .i64 2) ∧ w'.cell? ⟨q, 2, none⟩ = some (.int .i64 L.sz))
    (first | go_keep)
    (((go_at_call 17; refine (read_any p D m _ (HH.out.2.1.fresh ((Touch.refl _ _).drew)) hoff hw hm (by intro r hr; rw [HX.out] at hr; have := Rec.bytes_length (hb r hr); omega)).mono ?_; intro e2 w2 hg; unfold ReadPost at hg; rw [HX.out] at hg; obtain ⟨rfl, hf2⟩ := hg; have hf2 := hf2.of_drew; have H2 := Lib.hid (And.intro (HH.out.1.touch hf2 id) (And.intro (HH.out.2.2.1.both hf2) (And.intro (HH.out.2.2.2.touch hf2 id) trivial))); have k0 := H2.out.1.cell 0; have k1 := H2.out.1.cell 1; have k2 := H2.out.1.cell 2; clear hf2; simp only [List.getElem?_toArray, List.getElem?_cons_zero, List.getElem?_cons_succ] at k0 k1 k2)))
  have r0 := H2.out.2.2.1.cell 0
  have s0 := H2.out.2.2.1.soft 0
  have r1 := H2.out.2.2.1.cell 1
  have s1 := H2.out.2.2.1.soft 1
  have r2 := H2.out.2.2.1.cell 2
  have s2 := H2.out.2.2.1.soft 2
  have r3 := H2.out.2.2.1.cell 3
  have s3 := H2.out.2.2.1.soft 3
  have r4 := H2.out.2.2.1.cell 4
  have s4 := H2.out.2.2.1.soft 4
  have r5 := H2.out.2.2.1.cell 5
  have s5 := H2.out.2.2.1.soft 5
  have r6 := H2.out.2.2.1.cell 6
  have s6 := H2.out.2.2.1.soft 6
  have r7 := H2.out.2.2.1.cell 7
  have s7 := H2.out.2.2.1.soft 7
  simp only [List.getElem?_toArray, List.getElem?_cons_zero, List.getElem?_cons_succ] at r0 r1 r2 r3 r4 r5 r6 r7
  go_wp2_with fail
  obtain ⟨q0, q1, q2, q3, q4, q5, q6, q7⟩ := at8 H2.out.2.2.1 (.int .i64 0) (.int .i64 0) (.int .i64 0) (.int .i64 0) (.int .i64 0) (.int .i64 0) (.int .i64 0) (.string ⟨#[]⟩)
  exact bodyPost_ret (v := .tuple #[LR.zero.v, .bool false]) (by simp [results, Tryz.results58, go_sem, LR.zero, q0, q1, q2, q3, q4, q5, q6, q7]) rfl ⟨rfl, touch8 H2.out.2.1 ⟨0, 0, 0, 0, 0, 0, 0, ⟨#[]⟩⟩⟩

end Go.Proofs.YtcpelncjagaadaaGreatDoor
