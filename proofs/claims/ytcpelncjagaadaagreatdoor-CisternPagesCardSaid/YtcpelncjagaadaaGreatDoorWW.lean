/-
  flash: New, Erase.
-/
import Derived.Test.YtcpelncjagaadaaGreatDoorWV
namespace Go.Proofs.YtcpelncjagaadaaGreatDoor
open Go.RowKit

attribute [local go_sem ↓] Go.wp_at_zero Go.wp_at_succ
variable {α : Type}

theorem Tryz.info81 : (Tryz.prog.info? 81).map (fun i => (i.zero, i.size, i.bytes)) = some (some (.agg #[.slice none 0 0, .bool false]), 2, 32) := by kernel_rfl
@[irreducible] def newSecs (n : Nat) : Array Value := madeCells #[.slice none 0 0, .bool false] (n * 2)
theorem newSecs_eq (n : Nat) : newSecs n = madeCells #[.slice none 0 0, .bool false] (n * 2) := by unfold newSecs; rfl
theorem newSecs_size (n : Nat) : (newSecs n).size = n * 2 := by rw [newSecs_eq, size_madeCells]
theorem newSecs_0 (n j : Nat) (h : j < n) : (newSecs n)[j * 2]? = some (.slice none 0 0) := by
  rw [newSecs_eq]
  unfold madeCells
  rw [Array.getElem?_map, Array.getElem?_range]
  simp [show j * 2 < n * 2 by omega]
theorem newSecs_1 (n j : Nat) (h : j < n) : (newSecs n)[j * 2 + 1]? = some (.bool false) := by
  rw [newSecs_eq]
  unfold madeCells
  rw [Array.getElem?_map, Array.getElem?_range]
  simp [show j * 2 + 1 < n * 2 by omega]
theorem make48 (n : Nat) (hn : n ≤ 4096) (w : World) : (Instr.makeSlice 48 (.int .i64 n) (.int .i64 n)).run Tryz.prog w = .ok (.slice (some ⟨w.heap.size, 0, none⟩) n n) (w.alloc (.cells (newSecs n) 81)) := by
  obtain ⟨i0, hi, hz0, hz1, hz2⟩ := info_parts Tryz.info81
  have h := run_make (P := Tryz.prog) (w := w) 48 81 i0 _ Tryz.underlying48 hi hz0 .i64 .i64 n n (by omega) (by omega) (by rw [hz2]; omega) (by omega)
  rw [h, hz1, newSecs_eq]
  simp
  rfl
def Dev.new (n : Nat) : Dev α := ⟨n, fun _ => ⟨none, false⟩, [], false, false, 0⟩
theorem SecsAt.new [Inhabited Bs] {enc : α → List Nat} (w : World) (n : Nat) (hlo : lo ≤ w.heap.size) : SecsAt enc (w.alloc (.cells (newSecs n) 81)) w.heap.size n (fun _ => ⟨none, false⟩) :=
  ⟨_, ⟨Blk.new _ _ _, hlo⟩, newSecs_size n, fun j hj => ⟨_, newSecs_0 n j hj, rfl, newSecs_1 n j hj⟩⟩

set_option maxHeartbeats 1000000 in
theorem new_any [Inhabited Bs] (enc : α → List Nat) (n : Nat) (w : World) (hlo : lo ≤ w.heap.size) (h1 : 1 ≤ n) (hn : n ≤ 4096) :
    Calls Tryz.prog 5 #[.int .i64 n] w fun e w' => ∃ p, e = .returned (.tuple #[.pointer (some ⟨p, 0, none⟩), .int .i64 0]) ∧ DevAt enc w' p (Dev.new n) ∧ Fresh w w' := by
  have hm := make48 n hn w
  have t1 : decide ((n : Int) < 1) = false := by simp; omega
  have t2 : decide ((n : Int) > 4096) = false := by simp; omega
  go_enter Tryz.func5, Tryz.ntmps5
  go_wp2_with fail
  go_ret2
  have hb := Blk.new (w.alloc (.cells (newSecs n) 81)) 51 (devCs w.heap.size n (.slice none 0 0) false false 0)
  rw [show (w.alloc (.cells (newSecs n) 81)).heap.size = w.heap.size + 1 by simp] at hb
  exact ⟨_, rfl, ⟨_, _, ⟨hb, Nat.le_succ_of_le hlo⟩, (SecsAt.new w n hlo).kept (T := []) ((Kept.refl _ _).alloc _) (by simp) (by simp), .nil _⟩, ((Touch.refl _ w).alloc _).alloc _⟩

theorem erase_any [Inhabited Bs] {enc : α → List Nat} (p : Nat) (D : Dev α) (w : World) (h : DevAt enc w p D) (hn : D.n ≤ 4096) :
    Calls Tryz.prog 19 #[.pointer (some ⟨p, 0, none⟩)] w fun e w' => e = .returned (.tuple #[]) ∧ DevAt enc w' p (Dev.new D.n) ∧ Kept [some 51] w w' := by
  have hm := make48 D.n hn w
  have hlo := h.lo_le
  obtain ⟨g, wv, hp, -, -⟩ := h
  have hpa := BlkL.alloc hp (.cells (newSecs D.n) 81)
  have c0 := hp.cell 0
  have m0 := hpa.cell 0
  have m1 := hpa.cell 1
  have m2 := hpa.cell 2
  have m3 := hpa.cell 3
  have m4 := hpa.cell 4
  have s0 := hpa.soft 0
  have s1 := hpa.soft 1
  have s2 := hpa.soft 2
  have s3 := hpa.soft 3
  have s4 := hpa.soft 4
  simp only [List.getElem?_toArray, List.getElem?_cons_zero, List.getElem?_cons_succ] at c0 m0 m1 m2 m3 m4
  have HP := Lib.hid hpa
  clear hp hpa
  go_enter Tryz.func19, Tryz.ntmps19
  go_wp2_with fail
  have b0 := HP.out.set 0 (.slice (some ⟨w.heap.size, 0, none⟩) D.n D.n)
  have b1 := b0.set 1 (.slice none 0 0)
  have b2 := b1.set 2 (.bool false)
  have b3 := b2.set 3 (.bool false)
  have b4 := b3.set 4 (.int .i64 0)
  have k0 : Kept [some 51] (w.alloc (.cells (newSecs D.n) 81)) _ := .store HP.out (by simp) 0 (.slice (some ⟨w.heap.size, 0, none⟩) D.n D.n)
  have k1 := k0.trans (.store b0 (by simp) 1 (.slice none 0 0))
  have k2 := k1.trans (.store b1 (by simp) 2 (.bool false))
  have k3 := k2.trans (.store b2 (by simp) 3 (.bool false))
  have k4 := k3.trans (.store b3 (by simp) 4 (.int .i64 0))
  exact bodyPost_end (results_none rfl _ _ _) rfl ⟨rfl, ⟨_, _, b4, (SecsAt.new w D.n hlo).kept k4 (by decide) (by decide), .nil _⟩, ((Kept.refl _ w).alloc _).trans k4⟩

end Go.Proofs.YtcpelncjagaadaaGreatDoor
