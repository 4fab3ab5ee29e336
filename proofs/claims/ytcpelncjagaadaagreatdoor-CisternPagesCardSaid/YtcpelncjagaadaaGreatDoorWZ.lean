/-
  awake.
-/
import Derived.Test.YtcpelncjagaadaaGreatDoorWY
namespace Go.Proofs.YtcpelncjagaadaaGreatDoor
open Go.RowKit

attribute [local go_sem ↓] Go.wp_at_zero Go.wp_at_succ

/-- The row behind j rounds. -/
def ckL (n j : Nat) : List Nat := (List.range n).map fun i => if i < j then (3 + i * 7) % 256 else 0
theorem ckL_length (n j : Nat) : (ckL n j).length = n := by simp [ckL]
theorem ckL_zero (n : Nat) : ckL n 0 = List.replicate n 0 := by
  apply List.ext_getElem
  · simp [ckL]
  · intro i h1 h2; simp [ckL]
theorem ckL_set (n j : Nat) : (ckL n j).set j ((3 + j * 7) % 256) = ckL n (j + 1) := by
  apply List.ext_getElem
  · simp [ckL]
  · intro i h1 h2
    rw [List.getElem_set]
    split
    · rename_i e; subst e; simp [ckL]
    · rename_i e
      simp only [ckL, List.getElem_map, List.getElem_range]
      by_cases hi : i < j
      · simp [hi, show i < j + 1 by omega]
      · simp [hi, show ¬ i < j + 1 by omega]
@[irreducible] def ckF (j : Nat) : List Nat := ckL 256 j
theorem ckF_eq (j : Nat) : ckF j = ckL 256 j := by unfold ckF; rfl
theorem ckF_length (j : Nat) : (ckF j).length = 256 := by rw [ckF_eq, ckL_length]
theorem ckF_zero : ckF 0 = List.replicate 256 0 := by rw [ckF_eq, ckL_zero]
theorem ckF_set (j : Nat) : (ckF j).set j ((3 + j * 7) % 256) = ckF (j + 1) := by rw [ckF_eq, ckF_eq, ckL_set]
@[irreducible] def ckA (j : Nat) : Array Value := (u8s (ckF j)).toArray
theorem ckA_eq (j : Nat) : ckA j = (u8s (ckF j)).toArray := by unfold ckA; rfl
theorem ckA_set (j : Nat) : (ckA j).setIfInBounds j (.int .u8 (((3 + j * 7) % 256 : Nat) : Int)) = ckA (j + 1) := by
  rw [ckA_eq, ckA_eq, ← ckF_set]
  apply Array.ext'
  simp [u8s]
theorem ckA_get (j i : Nat) (h : i < 256) : (ckA j)[i]? = some (.int .u8 ((ckF j).getD i 0 : Nat)) := by
  rw [ckA_eq]
  simp [u8s, ckF_length, h, List.getD]

/-- What chunk(3) hands back. -/
def ckB : List Nat := (((ckF 256).set 0 3).set 1 0).set 2 0
theorem ckB_length : ckB.length = 256 := by simp [ckB, ckF_length]
theorem ckB_cells : (((ckA 256).setIfInBounds 0 (.int .u8 3)).setIfInBounds 1 (.int .u8 0)).setIfInBounds 2 (.int .u8 0) = (u8s ckB).toArray := by
  rw [ckA_eq]
  apply Array.ext'
  simp [ckB, u8s]

set_option maxRecDepth 100000 in
set_option maxHeartbeats 2000000 in
theorem chunk_any (w : World) : Calls Tryz.prog 15 #[.int .i64 3] w (NewBytes ckB w) := by
  have hm := make256 w
  go_enter Tryz.func15, Tryz.ntmps15
  go_wp2_with fail
  have hb := Blk.new w 5 zeros
  have ht : Fresh w (w.alloc (.cells zeros 5)) := (Touch.refl _ w).alloc _
  rw [show zeros = ckA 0 by rw [ckA_eq, ckF_zero, zeros_arr]] at hb ht ⊢
  have H0 := Lib.hid (And.intro hb ht)
  clear hb ht hm
  generalize w.alloc (.cells (ckA 0) 5) = W at *
  go_loopw [4] (fun i wr => ∃ j : Nat, j ≤ 256 ∧ i = .int .i64 j ∧ Blk wr w.heap.size 5 (ckA j) ∧ Fresh w wr) (fun i _ => 256 - (intOf i).toNat)
  case atStart => exact ⟨0, Nat.zero_le _, rfl, H0.out.1, H0.out.2⟩
  case round =>
    obtain ⟨j, hj, rfl, hB, hF⟩ := hrel
    have HB := Lib.hid (And.intro hB hF)
    by_cases hlt : j < 256
    · have c0 := hB.cell j
      rw [ckA_get j j hlt] at c0
      have f0 := hB.soft j
      have hu : IntKind.u8.wrap (3 + (j : Int) * 7) = ((3 + j * 7) % 256 : Nat) := by rw [IntKind.wrap_u8]; omega
      clear hB hF
      go_wp2_with fail
      go_roundw
      case rel =>
        refine ⟨j + 1, by omega, by go_num, ?_, HB.out.2.setNew _ _⟩
        have hh := HB.out.1.set j (.int .u8 (((3 + j * 7) % 256 : Nat) : Int))
        rw [ckA_set] at hh
        exact hh
      case measure => simp [intOf]; omega
    · obtain rfl : j = 256 := by omega
      have c0 := hB.cell 0
      have c1 := hB.cell 1
      have c2 := hB.cell 2
      rw [ckA_get 256 _ (by decide)] at c0 c1 c2
      have f0 := hB.soft 0
      have f1 := hB.soft 1
      have f2 := hB.soft 2
      clear hB hF
      go_wp2_with fail
      go_ret
      have hh := ((HB.out.1.set 0 (.int .u8 3)).set 1 (.int .u8 0)).set 2 (.int .u8 0)
      rw [ckB_cells] at hh
      refine ⟨_, rfl, ?_, ((HB.out.2.setNew _ _).setNew _ _).setNew _ _⟩
      have ho := own_of_blk hh (Nat.le_refl _) (by rw [ckB_length]; decide)
      rw [ckB_length] at ho ⊢
      exact ho

end Go.Proofs.YtcpelncjagaadaaGreatDoor
