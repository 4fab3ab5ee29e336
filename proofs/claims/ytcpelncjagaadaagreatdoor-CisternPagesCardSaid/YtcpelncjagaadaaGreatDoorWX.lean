/-
  flash: slices.Backward over nothing.
-/
import Derived.Test.YtcpelncjagaadaaGreatDoorWW
import Derived.RangeFuncNested
import Derived.RangeFuncBound
import Derived.RangeFuncCalls
import Derived.RangeFuncLeaves
import Derived.RangeFuncFrom
import Derived.OwnWalkIn
import Derived.TacticsInMore
import Derived.LoopNIn
import Derived.LoopIn
namespace Go.Proofs.YtcpelncjagaadaaGreatDoor
open Go.RowKit

attribute [local go_sem ↓] Go.wp_at_zero Go.wp_at_succ
attribute [local go_sem] Oper.semAt_some

theorem backward_any (A : Option Addr) (cap : Nat) (w : World) : Calls Tryz.prog 39 #[.slice A 0 cap] w fun e w' => e = .returned (.func (.func 55) #[] #[.pointer (some ⟨w.heap.size, 0, none⟩)]) ∧ w' = w.alloc (.cells #[.slice A 0 cap] 49) := by
  go_enter Tryz.func39, Tryz.ntmps39
  go_wp2_with fail
  go_ret
  exact ⟨rfl, rfl⟩

set_option maxRecDepth 100000 in
set_option maxHeartbeats 2000000 in
theorem backward_stops (F : Fence) (n : Nat) (h55 : F.fn 55) (hro : F.round = none) (Bn : Nat) (A : Option Addr) (cap : Nat) (W0 : World) (hB : W0.cell? ⟨Bn, 0, none⟩ = some (.slice A 0 cap)) (hlt : Bn < W0.heap.size) :
    SeqStopsK F n Tryz.prog 55 #[.pointer (some ⟨Bn, 0, none⟩)] (fun x : Empty => x.elim) (Below W0.heap.size) (fun _ => True) (fun _ => False) 0 W0 := by
  intro l J Jx W hW hJ hJx hY h0
  have hc : W.cell? ⟨Bn, 0, none⟩ = some (.slice A 0 cap) := (hW.cell (p := ⟨Bn, 0, none⟩) hlt).trans hB
  refine callsIn_of_wp Tryz.func55 rfl h55 ?_ hro
  simp only [Tryz.ntmps55, List.size_toArray, List.length_cons, List.length_nil, Nat.reduceAdd, Nat.reduceSub, Array.replicate_succ, Array.replicate_zero, List.push_toArray, List.append_toArray, List.nil_append, List.cons_append]
  gi_wp2
  gi_loopw [3] (fun i wr => i = .int .i64 (-1) ∧ W = wr) (fun _ _ => 0)
  case atStart => exact ⟨rfl, rfl⟩
  case round =>
    obtain ⟨rfl, rfl⟩ := hrel
    gi_wp2
    exact bodyPost_end (results_none rfl _ _ _) rfl ⟨⟨_, rfl⟩, .inl ⟨[], trivial, h0⟩⟩

end Go.Proofs.YtcpelncjagaadaaGreatDoor
