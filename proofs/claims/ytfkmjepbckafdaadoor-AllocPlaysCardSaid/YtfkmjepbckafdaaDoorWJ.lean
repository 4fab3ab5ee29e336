/-
  A list of calls that a slice shows.
-/
import Derived.Test.YtfkmjepbckafdaaDoorWI
namespace Go.Proofs.YtfkmjepbckafdaaDoor
open Go.RowKit

def ReadsOps (v : Value) (l : List (Int × Int)) (w : World) : Prop :=
  ∃ ao cap, v = .slice ao l.length cap ∧ (0 < l.length → ∃ g o, ao = some ⟨g, o, none⟩ ∧ g < w.heap.size ∧ ∀ j, j < l.length →
    w.cell? ⟨g, o + j * 2, none⟩ = some (.int .i64 (l.getD j (0, 0)).1) ∧ w.cell? ⟨g, o + j * 2 + 1, none⟩ = some (.int .i64 (l.getD j (0, 0)).2))

theorem ReadsOps.touch {v : Value} {l : List (Int × Int)} {S : Nat → Prop} {w w' : World} (h : ReadsOps v l w) (ht : Touch S w w') (hS : 0 < l.length → ∀ g, v.ownBlock = some g → ¬ S g) : ReadsOps v l w' := by
  obtain ⟨ao, cap, rfl, h⟩ := h
  refine ⟨ao, cap, rfl, fun hp => ?_⟩
  obtain ⟨g, o, rfl, hg, hc⟩ := h hp
  refine ⟨g, o, rfl, Nat.lt_of_lt_of_le hg ht.size, fun j hj => ?_⟩
  rw [ht.cell (p := ⟨g, o + j * 2, none⟩) hg (hS hp g rfl), ht.cell (p := ⟨g, o + j * 2 + 1, none⟩) hg (hS hp g rfl)]
  exact hc j hj

end Go.Proofs.YtfkmjepbckafdaaDoor
