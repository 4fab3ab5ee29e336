/-
  Frame.
-/
import Derived.Test.YtcpelncjagaadaaGreatDoorWG
import Derived.Laws.CopyOwn
namespace Go.Proofs.YtcpelncjagaadaaGreatDoor
open Go.RowKit

attribute [local go_sem ↓] Go.wp_at_zero Go.wp_at_succ

/-- 256 noughts, by a name. -/
@[irreducible] def zeros : Array Value := madeCells #[.int .u8 0] 256
theorem zeros_eq : zeros = madeCells #[.int .u8 0] 256 := by unfold zeros; rfl
theorem u8s_rep (n : Nat) : u8s (List.replicate n 0) = List.replicate n (.int .u8 0) := by simp [u8s]
theorem zeros_list : zeros.toList = List.replicate 256 (.int .u8 0) := by
  rw [zeros_eq, toList_madeCells_one]
theorem zeros_arr : zeros = (u8s (List.replicate 256 0)).toArray := by
  apply Array.ext'
  rw [zeros_list, u8s_rep]
theorem rep_two (m : Nat) (z x y : Value) : ((List.replicate (m + 2) z).set 0 x).set 1 y = x :: y :: List.replicate m z := rfl
theorem splice_two (m : Nat) (z x y : Value) (cs : List Value) : splice (x :: y :: List.replicate m z) 2 cs = x :: y :: (cs ++ List.replicate (m - cs.length) z) := by
  unfold splice
  rw [show 2 + cs.length = (cs.length + 1) + 1 by omega]
  simp
theorem make256 (w : World) : (Instr.makeSlice 44 (.int .i64 256) (.int .i64 256)).run Tryz.prog w = .ok (.slice (some ⟨w.heap.size, 0, none⟩) 256 256) (w.alloc (.cells zeros 5)) := by
  obtain ⟨i0, hi, hz0, hz1, hz2⟩ := info_parts Tryz.info5
  have h := run_makeSlice (P := Tryz.prog) (w := w) 44 5 i0 (.int .u8 0) Tryz.underlying44 hi hz0 .i64 .i64 256 256 (by decide) (by decide) (by rw [hz1]; decide) (by rw [hz2]; decide) (by decide)
  rw [h, hz1, zeros_eq]
  rfl

/-- A row of bytes that is known whole is owned. -/
theorem own_of_blk {w : World} {base g : Nat} {B : List Nat} (h : Blk w g 5 (u8s B).toArray) (hb : base ≤ g) (hl : B.length ≤ maxLen) : w.ownsRow base 5 1 (.slice (some ⟨g, 0, none⟩) B.length B.length) B.length (u8s B) := by
  refine ⟨by simp [u8s], .inr ⟨g, _, _, rfl, hb, h, Nat.le_refl _, hl, by simp [u8s], ?_⟩⟩
  rw [Nat.mul_one]
  exact List.take_of_length_le (by simp [u8s])

/-- Bytes within a sector. -/
def frameB (B : List Nat) : List Nat := le B.length 2 ++ (B ++ List.replicate (254 - B.length) 0)
theorem frameB_length {B : List Nat} (h : B.length ≤ 254) : (frameB B).length = 256 := by simp [frameB, le_length]; omega
theorem frameB_lt {B : List Nat} (h : ∀ b ∈ B, b < 256) : ∀ b ∈ frameB B, b < 256 := by
  intro b hb
  simp only [frameB, List.mem_append, List.mem_replicate] at hb
  rcases hb with hb | hb | ⟨-, rfl⟩
  · exact le_lt _ _ b hb
  · exact h b hb
  · decide

/-- The row with its first two bytes. -/
@[irreducible] def headed (n : Nat) : List Value := ((List.replicate 256 (Value.int .u8 0)).set 0 (.int .u8 (n : Int))).set 1 (.int .u8 0)
theorem headed_eq (n : Nat) : headed n = ((List.replicate 256 (Value.int .u8 0)).set 0 (.int .u8 (n : Int))).set 1 (.int .u8 0) := by unfold headed; rfl
theorem headed_length (n : Nat) : (headed n).length = 256 := by rw [headed_eq, List.length_set, List.length_set, List.length_replicate]
theorem frame_cells (B : List Nat) (h : B.length ≤ 254) :
    splice (headed B.length) 2 (u8s B) = u8s (frameB B) := by
  have e1 : le B.length 2 = [B.length, 0] := by simp [le, List.range_succ]; omega
  rw [headed_eq, rep_two 254, splice_two]
  unfold frameB
  rw [e1, u8s_append, u8s_append, u8s_rep, u8s_length]
  rfl

theorem size5 : (Tryz.prog.info? 5).map (·.size) = some 1 := by kernel_rfl
theorem u8s_one (B : List Nat) : ∀ v ∈ u8s B, v.oneCell' = true := by
  intro u hu; simp [u8s] at hu; obtain ⟨x, -, rfl⟩ := hu; rfl

set_option maxRecDepth 100000 in
set_option maxHeartbeats 1000000 in
theorem frame_any (v : Value) (B : List Nat) (w : World) (hl : B.length ≤ 254) (h : Shows v B w) : Calls Tryz.prog 64 #[v, .int .i64 256] w (OkBytes (frameB B) w) := by
  have HS := Lib.hid h
  obtain ⟨ao, cap, rfl, hcap, hr⟩ := h
  have hw8 : IntKind.u8.wrap (B.length : Int) = B.length := by rw [IntKind.wrap_u8]; omega
  have hmk := make256 w
  have hd : (B.length : Int) / 256 = 0 := by omega
  clear hr
  go_enter Tryz.func64, Tryz.ntmps64
  go_upto_region 6 with fail
  clear hmk
  have hb := Blk.new w 5 zeros
  have ht : Fresh w (w.alloc (.cells zeros 5)) := (Touch.refl _ w).alloc _
  have HS1 := Lib.hid (HS.out.fresh ht)
  have c0 : (w.alloc (.cells zeros 5)).cell? ⟨w.heap.size, 0, none⟩ = some (.int .u8 0) := by rw [hb.cell, ← Array.getElem?_toList, zeros_list]; rfl
  have c1 : (w.alloc (.cells zeros 5)).cell? ⟨w.heap.size, 1, none⟩ = some (.int .u8 0) := by rw [hb.cell, ← Array.getElem?_toList, zeros_list]; rfl
  have f0 := hb.soft 0
  have f1 := hb.soft 1
  have HB := Lib.hid (And.intro hb ht)
  clear hb ht
  generalize w.alloc (.cells zeros 5) = W at *
  obtain ⟨g, hg⟩ : ∃ g, w.heap.size = g := ⟨_, rfl⟩
  have HG := Lib.hid hg
  rw [hg] at c0 c1 f0 f1 ⊢
  clear hg
  go_upto_region 7 with fail
  have hb2 : Blk ((W.setCell ⟨g, 0, none⟩ (.int .u8 B.length)).setCell ⟨g, 1, none⟩ (.int .u8 0)) g 5 (headed B.length).toArray := by
    have h1 := HB.out.1
    rw [HG.out] at h1
    have h2 := heap_setCell_same W g 0 zeros 5 (.int .u8 B.length) h1
    have h3 := heap_setCell_same _ g 1 _ 5 (.int .u8 0) h2
    unfold Blk
    rw [h3, zeros_arr, u8s_rep, headed_eq]
    simp
  have ht2 : Fresh w ((W.setCell ⟨g, 0, none⟩ (.int .u8 B.length)).setCell ⟨g, 1, none⟩ (.int .u8 0)) := (HB.out.2.setCell _ _ (fun hh => by have := HG.out; simp at hh; omega)).setCell _ _ (fun hh => by have := HG.out; simp at hh; omega)
  have HSh := Lib.hid (HS.out.fresh ht2)
  have H2 := Lib.hid (And.intro hb2 ht2)
  clear hb2 ht2 c0 c1 f0 f1 hw8
  generalize (W.setCell ⟨g, 0, none⟩ (.int .u8 B.length)).setCell ⟨g, 1, none⟩ (.int .u8 0) = W2 at *
  have k1 : Hid ((u8s B).length = Nat.min B.length 254) := Lib.hid (by rw [u8s_length]; exact (Nat.min_eq_left hl).symm)
  have k2 : Hid (0 < (u8s B).length → some (⟨g, 2, none⟩ : Addr) = some ⟨g, 2, none⟩ ∧ ∃ ad, ao = some ad ∧ ∀ (j : Nat) (v : Value), (u8s B)[j]? = some v → W2.cell? (ad.add j) = some v) := Lib.hid (by
    intro hp
    rw [u8s_length] at hp
    obtain ⟨ao', cap', e, -, hh⟩ := HSh.out
    injection e with e1 e2 e3
    obtain ⟨g', o', e4, -⟩ := hh hp
    rw [e4] at e1
    subst e1
    exact ⟨rfl, _, rfl, HSh.out.cells (Touch.refl _ _)⟩)
  have k3 : Hid (2 + (u8s B).length ≤ (headed B.length).length) := Lib.hid (by rw [headed_length, u8s_length]; omega)
  go_wp2_with (refine wpList_copy_splice rfl (.tmp 32) (.tmp 33) 44 44 rfl 5 Tryz.underlying44 size5 (some ⟨g, 2, none⟩) ao 254 254 B.length cap rfl rfl g 2 (headed B.length) 5 H2.out.1 (u8s B) k1.out k2.out k3.out (u8s_one B) w.heap.size w H2.out.2.below (Nat.le_of_eq HG.out) ?_)
  intro W3 hid hbel
  rw [frame_cells B hl] at hid
  have hfl := Lib.hid (frameB_length hl)
  have R := Lib.hid (And.intro (show Blk W3 g 5 (u8s (frameB B)).toArray from hid.out) (Touch.of_below hbel))
  clear hid hbel
  go_wp2_with fail
  go_ret2
  have ho := own_of_blk (base := w.heap.size) R.out.1 (Nat.le_of_eq HG.out) (by rw [hfl.out]; decide)
  rw [hfl.out] at ho
  exact ⟨_, rfl, by rw [hfl.out]; exact ho, R.out.2⟩

end Go.Proofs.YtcpelncjagaadaaGreatDoor
