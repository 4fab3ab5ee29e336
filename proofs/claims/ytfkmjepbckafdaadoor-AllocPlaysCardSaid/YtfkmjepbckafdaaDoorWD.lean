/-
  An allocator of at most 64 blocks in memory; Free.
-/
import Derived.Test.YtfkmjepbckafdaaDoorWC
import Derived.Below
import Derived.Deep.RegionWith
namespace Go.Proofs.YtfkmjepbckafdaaDoor
open Go.RowKit

/-- Where an allocator lies: its own block, the blocks of its two sets, their rooms. -/
structure Loc where
  p : Nat
  u : Nat
  l : Nat
  cu : Nat
  cl : Nat

/-- What an allocator keeps: how many blocks, the used ones, the leaving ones, how many are kept back. -/
structure St where
  n : Nat
  U : Nat
  L : Nat
  b : Nat

structure At (a : Loc) (s : St) (w : World) : Prop where
  c0 : w.cell? ⟨a.p, 0, none⟩ = some (.int .i64 s.n)
  c1 : w.cell? ⟨a.p, 1, none⟩ = some (.slice (some ⟨a.u, 0, none⟩) 1 a.cu)
  c2 : w.cell? ⟨a.p, 2, none⟩ = some (.slice (some ⟨a.l, 0, none⟩) 1 a.cl)
  c3 : w.cell? ⟨a.p, 3, none⟩ = some (.int .i64 s.b)
  cU : w.cell? ⟨a.u, 0, none⟩ = some (.int .u64 s.U)
  cL : w.cell? ⟨a.l, 0, none⟩ = some (.int .u64 s.L)
  f3 : w.frozen? ⟨a.p, 3, none⟩ = false
  fU : w.frozen? ⟨a.u, 0, none⟩ = false
  fL : w.frozen? ⟨a.l, 0, none⟩ = false
  pu : a.p ≠ a.u
  pl : a.p ≠ a.l
  ul : a.u ≠ a.l

/-- What a state keeps to. -/
structure Ok (s : St) : Prop where
  n1 : 1 ≤ s.n
  n64 : s.n ≤ 64
  U : s.U < 2 ^ s.n
  L : s.L < 2 ^ s.n
  UL : ∀ i, ¬ (s.U.testBit i = true ∧ s.L.testBit i = true)
  b : Bt.cnt s.U + Bt.cnt s.L + s.b ≤ s.n

theorem pow_le64 {n x : Nat} (h : x < 2 ^ n) (hn : n ≤ 64) : x < 18446744073709551616 := Nat.lt_of_lt_of_le h (Nat.le_trans (Nat.pow_le_pow_right (by decide) hn) (Nat.le_refl _))

/-- How many are free. -/
def St.free (s : St) : Nat := s.n - Bt.cnt s.U - Bt.cnt s.L - s.b

theorem count_q (x u : Nat) (cu : Nat) (w : World) (k : Nat) (hx : x < 18446744073709551616) (hc : w.cell? ⟨u, 0, none⟩ = some (.int .u64 x)) :
    Calls Tryd.prog 30 #[.slice (some ⟨u, 0, none⟩) 1 cu] (w.drewN k) fun e w' => e = .returned (.int .i64 (Bt.cnt x)) ∧ w' = w.drewN k :=
  (count_any x u cu (w.drewN k) hx (by rw [World.cell?_drewN]; exact hc)).mono fun _ _ h => ⟨h.1, h.2.symm⟩

set_option maxHeartbeats 400000 in
theorem free_any (a : Loc) (s : St) (w : World) (hs : Ok s) (h : At a s w) :
    Calls Tryd.prog 13 #[.pointer (some ⟨a.p, 0, none⟩)] w fun e w' => e = .returned (.int .i64 s.free) ∧ ∃ k, w' = w.drewN k := by
  obtain ⟨p, u, l, cu, cl⟩ := a
  obtain ⟨n, U, L, b⟩ := s
  obtain ⟨c0, c1, c2, c3, cU, cL, f3, fU, fL, pu, pl, ul⟩ := h
  have Hs := Lib.hid hs
  obtain ⟨n1, n64, hU, hL, -, hb⟩ := hs
  simp only at *
  have hU' := pow_le64 hU n64
  have hL' := pow_le64 hL n64
  clear hU hL f3 fU fL pu pl ul
  have d1 := cnt_le U
  have d2 := cnt_le L

  go_enter Tryd.func13, Tryd.ntmps13
  go_wp2
  have H0 := fun k => count_q U u cu w k hU' cU
  have H1 := fun k => count_q L l cl w k hL' cL
  go_quiet (first | (go_at_call_of 30 (Value.slice (some ⟨u, 0, none⟩) 1 cu); exact Calls.quiet_of_same (H0 _)) | (go_at_call_of 30 (Value.slice (some ⟨l, 0, none⟩) 1 cl); exact Calls.quiet_of_same (H1 _)))
  go_wp2
  go_ret
  exact ⟨ret_int (by show _ = ((n - Bt.cnt U - Bt.cnt L - b : Nat) : Int); omega), _, rfl⟩

/-- All but the blocks of S is as it was. -/
structure Touch (S : Nat → Prop) (w w' : World) : Prop where
  os : w'.os = w.os
  tape : w'.tape = w.tape
  output : w'.output = w.output
  size : w.heap.size ≤ w'.heap.size
  block : ∀ k, k < w.heap.size → ¬ S k → w'.heap[k]? = w.heap[k]?

theorem Touch.refl (S : Nat → Prop) (w : World) : Touch S w w := ⟨rfl, rfl, rfl, Nat.le_refl _, fun _ _ _ => rfl⟩
theorem Touch.trans {S T R : Nat → Prop} {a b c : World} (h : Touch S a b) (h' : Touch T b c) (hR : ∀ k, k < a.heap.size → (S k ∨ T k) → R k) : Touch R a c :=
  ⟨h'.os.trans h.os, h'.tape.trans h.tape, h'.output.trans h.output, Nat.le_trans h.size h'.size, fun k hk hn =>
    (h'.block k (Nat.lt_of_lt_of_le hk h.size) (fun e => hn (hR k hk (.inr e)))).trans (h.block k hk (fun e => hn (hR k hk (.inl e))))⟩
theorem Touch.drewN {S : Nat → Prop} {a w : World} (h : Touch S a w) (n : Nat) : Touch S a (w.drewN n) := ⟨h.os, h.tape, h.output, h.size, h.block⟩
theorem Touch.drew {S : Nat → Prop} {a w : World} (h : Touch S a w) : Touch S a w.drew := ⟨h.os, h.tape, h.output, h.size, h.block⟩
theorem Touch.mono {S T : Nat → Prop} {a w : World} (h : Touch S a w) (hT : ∀ k, k < a.heap.size → S k → T k) : Touch T a w :=
  ⟨h.os, h.tape, h.output, h.size, fun k hk hn => h.block k hk (fun e => hn (hT k hk e))⟩
theorem Touch.alloc {S : Nat → Prop} {a w : World} (h : Touch S a w) (o : Obj) : Touch S a (w.alloc o) :=
  ⟨h.os, h.tape, h.output, by simp; exact Nat.le_succ_of_le h.size, fun k hk hn => (Below.heap_alloc w o k (Nat.lt_of_lt_of_le hk h.size)).trans (h.block k hk hn)⟩
theorem Touch.setCell {S : Nat → Prop} {a w : World} (h : Touch S a w) (p : Addr) (v : Value) (hp : p.block < a.heap.size → S p.block) : Touch S a (w.setCell p v) :=
  ⟨h.os, h.tape, h.output, by simp [World.setCell]; exact h.size, fun k hk hn => (Below.heap_setCell w p v k (fun e => hn (e ▸ hp (e ▸ hk)))).trans (h.block k hk hn)⟩
theorem Touch.grown {S : Nat → Prop} {a w w' : World} {row : Option Nat} (h : Touch S a w) (hg : w.grownBy w' row) (hr : ∀ k, row = some k → k < a.heap.size → S k) : Touch S a w' :=
  ⟨hg.os.trans h.os, hg.tape.trans h.tape, hg.output.trans h.output, Nat.le_trans h.size hg.size, fun k hk hn =>
    (hg.block k (Nat.lt_of_lt_of_le hk h.size) (fun e => hn (hr k e.symm hk))).trans (h.block k hk hn)⟩
theorem Touch.of_below {w w' : World} (h : Below w.heap.size w w') : Touch (fun _ => False) w w' := ⟨h.os, h.tape, h.output, h.size, fun k hk _ => h.block k hk⟩
theorem Touch.below {w w' : World} (h : Touch (fun _ => False) w w') : Below w.heap.size w w' := ⟨h.os, h.tape, h.output, h.size, fun k hk => h.block k hk id⟩
theorem Touch.cell {S : Nat → Prop} {w w' : World} (h : Touch S w w') {p : Addr} (hp : p.block < w.heap.size) (hn : ¬ S p.block) : w'.cell? p = w.cell? p := World.cell?_of_block (w := w) (h.block _ hp hn)
theorem Touch.frozen {S : Nat → Prop} {w w' : World} (h : Touch S w w') {p : Addr} (hp : p.block < w.heap.size) (hn : ¬ S p.block) : w'.frozen? p = w.frozen? p := World.frozen?_of_block (w := w) (h.block _ hp hn)
theorem Touch.some {S : Nat → Prop} {w w' : World} (h : Touch S w w') {p : Addr} {v : Value} (hc : w.cell? p = some v) (hn : ¬ S p.block) : w'.cell? p = some v := (h.cell (World.block_lt_of_cell? w p hc) hn).trans hc

theorem cell_far {w : World} {p a : Addr} {v : Value} (h : p.block ≠ a.block) : (w.setCell p v).cell? a = w.cell? a :=
  World.cell?_of_block (w := w) (Below.heap_setCell w p v a.block h.symm)
theorem cell_off {w : World} {b i j : Nat} {v : Value} (h : i ≠ j) : (w.setCell ⟨b, i, none⟩ v).cell? ⟨b, j, none⟩ = w.cell? ⟨b, j, none⟩ := by
  simp only [World.cell?, World.setCell, Array.getElem?_modify, if_true]
  cases w.heap[b]? with
  | none => rfl
  | some o => cases o <;> simp [h]
theorem cell_at {w : World} {b i : Nat} {u : Value} (h : w.cell? ⟨b, i, none⟩ = some u) (v : Value) : (w.setCell ⟨b, i, none⟩ v).cell? ⟨b, i, none⟩ = some v := by
  revert h
  simp only [World.cell?, World.setCell, Array.getElem?_modify, if_true]
  cases w.heap[b]? with
  | none => simp
  | some o =>
    cases o <;> simp
    intro hi
    rw [Array.getElem?_setIfInBounds]
    simp
    obtain ⟨h1, -⟩ := Array.getElem?_eq_some_iff.1 hi
    exact h1

theorem At.lt {a : Loc} {s : St} {w : World} (h : At a s w) : a.p < w.heap.size ∧ a.u < w.heap.size ∧ a.l < w.heap.size :=
  ⟨World.block_lt_of_cell? w _ h.c0, World.block_lt_of_cell? w _ h.cU, World.block_lt_of_cell? w _ h.cL⟩
theorem At.drewN {a : Loc} {s : St} {w : World} (h : At a s w) (n : Nat) : At a s (w.drewN n) := ⟨h.c0, h.c1, h.c2, h.c3, h.cU, h.cL, h.f3, h.fU, h.fL, h.pu, h.pl, h.ul⟩
theorem At.drew {a : Loc} {s : St} {w : World} (h : At a s w) : At a s w.drew := ⟨h.c0, h.c1, h.c2, h.c3, h.cU, h.cL, h.f3, h.fU, h.fL, h.pu, h.pl, h.ul⟩
/-- What does not touch its blocks leaves an allocator alone. -/
theorem At.touch {a : Loc} {s : St} {S : Nat → Prop} {w w' : World} (h : At a s w) (ht : Touch S w w') (hp : ¬ S a.p) (hu : ¬ S a.u) (hl : ¬ S a.l) : At a s w' := by
  obtain ⟨l1, l2, l3⟩ := h.lt
  exact ⟨ht.some h.c0 hp, ht.some h.c1 hp, ht.some h.c2 hp, ht.some h.c3 hp, ht.some h.cU hu, ht.some h.cL hl, (ht.frozen (p := ⟨a.p, 3, none⟩) l1 hp).trans h.f3, (ht.frozen (p := ⟨a.u, 0, none⟩) l2 hu).trans h.fU, (ht.frozen (p := ⟨a.l, 0, none⟩) l3 hl).trans h.fL, h.pu, h.pl, h.ul⟩
theorem At.setU {a : Loc} {s : St} {w : World} (h : At a s w) (x : Nat) : At a { s with U := x } (w.setCell ⟨a.u, 0, none⟩ (.int .u64 x)) := by
  obtain ⟨c0, c1, c2, c3, cU, cL, f3, fU, fL, pu, pl, ul⟩ := h
  have hsz := World.block_lt_of_cell? w _ cU
  refine ⟨?_, ?_, ?_, ?_, ?_, ?_, ?_, ?_, ?_, pu, pl, ul⟩
  · rw [cell_far (by exact pu.symm)]; exact c0
  · rw [cell_far (by exact pu.symm)]; exact c1
  · rw [cell_far (by exact pu.symm)]; exact c2
  · rw [cell_far (by exact pu.symm)]; exact c3
  · exact cell_at cU _
  · rw [cell_far (by exact ul)]; exact cL
  · simpa using f3
  · simpa using fU
  · simpa using fL
theorem At.setL {a : Loc} {s : St} {w : World} (h : At a s w) (x : Nat) : At a { s with L := x } (w.setCell ⟨a.l, 0, none⟩ (.int .u64 x)) := by
  obtain ⟨c0, c1, c2, c3, cU, cL, f3, fU, fL, pu, pl, ul⟩ := h
  refine ⟨?_, ?_, ?_, ?_, ?_, ?_, ?_, ?_, ?_, pu, pl, ul⟩
  · rw [cell_far (by exact pl.symm)]; exact c0
  · rw [cell_far (by exact pl.symm)]; exact c1
  · rw [cell_far (by exact pl.symm)]; exact c2
  · rw [cell_far (by exact pl.symm)]; exact c3
  · rw [cell_far (by exact ul.symm)]; exact cU
  · exact cell_at cL _
  · simpa using f3
  · simpa using fU
  · simpa using fL
theorem At.setB {a : Loc} {s : St} {w : World} (h : At a s w) (x : Nat) : At a { s with b := x } (w.setCell ⟨a.p, 3, none⟩ (.int .i64 x)) := by
  obtain ⟨c0, c1, c2, c3, cU, cL, f3, fU, fL, pu, pl, ul⟩ := h
  refine ⟨?_, ?_, ?_, ?_, ?_, ?_, ?_, ?_, ?_, pu, pl, ul⟩
  · rw [cell_off (by decide)]; exact c0
  · rw [cell_off (by decide)]; exact c1
  · rw [cell_off (by decide)]; exact c2
  · exact cell_at c3 _
  · rw [cell_far (by exact pu)]; exact cU
  · rw [cell_far (by exact pl)]; exact cL
  · simpa using f3
  · simpa using fU
  · simpa using fL

end Go.Proofs.YtfkmjepbckafdaaDoor
