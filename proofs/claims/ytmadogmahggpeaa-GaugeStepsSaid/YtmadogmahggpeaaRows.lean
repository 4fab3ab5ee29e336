/-
  No cell of these rows narrows 'for every input' (looked for: loops, veiled, ifaces, maps, wideKeys, modest, calm, conditions, laid).
  DERIVED. THE GIVEN ROWS OF THIS SEAT. 14 by the template 'for every input the law returns true; each argument reads behind the call as it read before'; 0 by the template 'total and deterministic' (their statements: YtmadogmahggpeaaTotals.lean).
  GIVEN WITH THE SEED: the statements are not yours to turn. If you find one false, say at which input.
  Laid BY PROGRAM, IN A SANDBOX (cutbox-rows.mjs): the forced cells as the released guide's own fill.sh prints them over the translation 5388c4361095c54b… (all of the seat's roots in one cut). By AI agents, Wed Nov 11 2026. No macro, syntax, notation, axiom, sorry.
-/
import Derived.Test.YtmadogmahggpeaaChecked
import GoSem.Claim
import GoSem.ClaimJoined
import GoSem.ClaimMapViews
import Derived.JoinedTies
import Derived.KernelRfl
namespace Go.Proofs.Ytmadogmahggpeaa
/- THE CELL 'sum', in the pinned program and in every row, IS THE sha256 OF THE DUMP (.gsa) THAT YtmadogmahggpeaaProg.lean LOADS. Nothing in Lean hashes anything: it is a label: what it is worth is what the hold of that sum in a sandbox is worth. -/
noncomputable def Try.pinned : Pinned := { name := "ytmadogmahggpeaa", sum := "5388c4361095c54b7e697e771d30498c3da85ea47604a5aec82f2077e0dd35bc", checked := Try.checked }
namespace Rows
def none {H : Type} : Left H := { results := [], args := [] }

/-- 'cisternlaw06.BackoffEdges': WHATEVER THE INPUT: true; the input reads as it did. -/
def backoffEdgesSpec : ChangeSpec := { name := "backoffEdges", fn := fun _ => fun
  | [d1, d2] => { results := [.lit (.bool true)], args := [d1, d2] }
  | _ => none }
def backoffEdgesRow : OpenClaim := { program := "ytmadogmahggpeaa", sum := "5388c4361095c54b7e697e771d30498c3da85ea47604a5aec82f2077e0dd35bc", func := "cistern/cisternlaw06.BackoffEdges", spec := "backoffEdges", inPlace := ["math.Float64bits", "math.archFloor", "math.Float64frombits", "math.archTrunc"], apart := false }
def BackoffEdgesSaid : Prop := backoffEdgesRow.holds Try.pinned (OpenSpec.ofChange backoffEdgesSpec)

/-- ITS FALSE NEIGHBOUR: 'it returns false'. Refute it at one input. -/
def backoffEdgesWrong : ChangeSpec := { name := "backoffEdges", fn := fun _ => fun
  | [d1, d2] => { results := [.lit (.bool false)], args := [d1, d2] }
  | _ => none }
def BackoffEdgesWrongFalsely : Prop := backoffEdgesRow.holds Try.pinned (OpenSpec.ofChange backoffEdgesWrong)

/-- 'cisternlaw06.BackoffDelays': WHATEVER THE INPUT: true; the input reads as it did. -/
def backoffDelaysSpec : ChangeSpec := { name := "backoffDelays", fn := fun _ => fun
  | [d1, d2, d3] => { results := [.lit (.bool true)], args := [d1, d2, d3] }
  | _ => none }
def backoffDelaysRow : OpenClaim := { program := "ytmadogmahggpeaa", sum := "5388c4361095c54b7e697e771d30498c3da85ea47604a5aec82f2077e0dd35bc", func := "cistern/cisternlaw06.BackoffDelays", spec := "backoffDelays", inPlace := ["math.Float64bits", "math.archFloor", "math.Float64frombits", "math.archTrunc"], apart := false }
def BackoffDelaysSaid : Prop := backoffDelaysRow.holds Try.pinned (OpenSpec.ofChange backoffDelaysSpec)

/-- ITS FALSE NEIGHBOUR: 'it returns false'. Refute it at one input. -/
def backoffDelaysWrong : ChangeSpec := { name := "backoffDelays", fn := fun _ => fun
  | [d1, d2, d3] => { results := [.lit (.bool false)], args := [d1, d2, d3] }
  | _ => none }
def BackoffDelaysWrongFalsely : Prop := backoffDelaysRow.holds Try.pinned (OpenSpec.ofChange backoffDelaysWrong)

/-- 'cisternlaw06.BackoffPlans': WHATEVER THE INPUT: true; the input reads as it did. -/
def backoffPlansSpec : ChangeSpec := { name := "backoffPlans", fn := fun _ => fun
  | [d1, d2, d3] => { results := [.lit (.bool true)], args := [d1, d2, d3] }
  | _ => none }
def backoffPlansRow : OpenClaim := { program := "ytmadogmahggpeaa", sum := "5388c4361095c54b7e697e771d30498c3da85ea47604a5aec82f2077e0dd35bc", func := "cistern/cisternlaw06.BackoffPlans", spec := "backoffPlans", inPlace := ["math.Float64bits", "math.archFloor", "math.Float64frombits", "math.archTrunc"], apart := false }
def BackoffPlansSaid : Prop := backoffPlansRow.holds Try.pinned (OpenSpec.ofChange backoffPlansSpec)

/-- ITS FALSE NEIGHBOUR: 'it returns false'. Refute it at one input. -/
def backoffPlansWrong : ChangeSpec := { name := "backoffPlans", fn := fun _ => fun
  | [d1, d2, d3] => { results := [.lit (.bool false)], args := [d1, d2, d3] }
  | _ => none }
def BackoffPlansWrongFalsely : Prop := backoffPlansRow.holds Try.pinned (OpenSpec.ofChange backoffPlansWrong)

/-- 'cisternlaw06.BackoffBounds': WHATEVER THE INPUT: true; the input reads as it did. -/
def backoffBoundsSpec : ChangeSpec := { name := "backoffBounds", fn := fun _ => fun
  | [d1, d2, d3] => { results := [.lit (.bool true)], args := [d1, d2, d3] }
  | _ => none }
def backoffBoundsRow : OpenClaim := { program := "ytmadogmahggpeaa", sum := "5388c4361095c54b7e697e771d30498c3da85ea47604a5aec82f2077e0dd35bc", func := "cistern/cisternlaw06.BackoffBounds", spec := "backoffBounds", inPlace := ["math.Float64bits", "math.archFloor", "math.Float64frombits", "math.archTrunc"], apart := false }
def BackoffBoundsSaid : Prop := backoffBoundsRow.holds Try.pinned (OpenSpec.ofChange backoffBoundsSpec)

/-- ITS FALSE NEIGHBOUR: 'it returns false'. Refute it at one input. -/
def backoffBoundsWrong : ChangeSpec := { name := "backoffBounds", fn := fun _ => fun
  | [d1, d2, d3] => { results := [.lit (.bool false)], args := [d1, d2, d3] }
  | _ => none }
def BackoffBoundsWrongFalsely : Prop := backoffBoundsRow.holds Try.pinned (OpenSpec.ofChange backoffBoundsWrong)

/-- 'cisternlaw06.BackoffShifts': WHATEVER THE INPUT: true; the input reads as it did. -/
def backoffShiftsSpec : ChangeSpec := { name := "backoffShifts", fn := fun _ => fun
  | [d1, d2, d3] => { results := [.lit (.bool true)], args := [d1, d2, d3] }
  | _ => none }
def backoffShiftsRow : OpenClaim := { program := "ytmadogmahggpeaa", sum := "5388c4361095c54b7e697e771d30498c3da85ea47604a5aec82f2077e0dd35bc", func := "cistern/cisternlaw06.BackoffShifts", spec := "backoffShifts", inPlace := ["math.Float64bits", "math.archFloor", "math.Float64frombits", "math.archTrunc"], apart := false }
def BackoffShiftsSaid : Prop := backoffShiftsRow.holds Try.pinned (OpenSpec.ofChange backoffShiftsSpec)

/-- ITS FALSE NEIGHBOUR: 'it returns false'. Refute it at one input. -/
def backoffShiftsWrong : ChangeSpec := { name := "backoffShifts", fn := fun _ => fun
  | [d1, d2, d3] => { results := [.lit (.bool false)], args := [d1, d2, d3] }
  | _ => none }
def BackoffShiftsWrongFalsely : Prop := backoffShiftsRow.holds Try.pinned (OpenSpec.ofChange backoffShiftsWrong)

/-- 'cisternlaw04.GaugeOrders': WHATEVER THE INPUT: true; the input reads as it did. -/
def gaugeOrdersSpec : ChangeSpec := { name := "gaugeOrders", fn := fun _ => fun
  | [d1, d2, d3] => { results := [.lit (.bool true)], args := [d1, d2, d3] }
  | _ => none }
def gaugeOrdersRow : OpenClaim := { program := "ytmadogmahggpeaa", sum := "5388c4361095c54b7e697e771d30498c3da85ea47604a5aec82f2077e0dd35bc", func := "cistern/cisternlaw04.GaugeOrders", spec := "gaugeOrders", inPlace := ["math.Float64frombits", "math.Float64bits", "math.archFloor", "math.archTrunc"], apart := false }
def GaugeOrdersSaid : Prop := gaugeOrdersRow.holds Try.pinned (OpenSpec.ofChange gaugeOrdersSpec)

/-- ITS FALSE NEIGHBOUR: 'it returns false'. Refute it at one input. -/
def gaugeOrdersWrong : ChangeSpec := { name := "gaugeOrders", fn := fun _ => fun
  | [d1, d2, d3] => { results := [.lit (.bool false)], args := [d1, d2, d3] }
  | _ => none }
def GaugeOrdersWrongFalsely : Prop := gaugeOrdersRow.holds Try.pinned (OpenSpec.ofChange gaugeOrdersWrong)

/-- 'cisternlaw04.GaugeWhole': WHATEVER THE INPUT: true; the input reads as it did. -/
def gaugeWholeSpec : ChangeSpec := { name := "gaugeWhole", fn := fun _ => fun
  | [d1, d2, d3] => { results := [.lit (.bool true)], args := [d1, d2, d3] }
  | _ => none }
def gaugeWholeRow : OpenClaim := { program := "ytmadogmahggpeaa", sum := "5388c4361095c54b7e697e771d30498c3da85ea47604a5aec82f2077e0dd35bc", func := "cistern/cisternlaw04.GaugeWhole", spec := "gaugeWhole", inPlace := ["math.Float64frombits", "math.Float64bits", "math.archFloor", "math.archTrunc"], apart := false }
def GaugeWholeSaid : Prop := gaugeWholeRow.holds Try.pinned (OpenSpec.ofChange gaugeWholeSpec)

/-- ITS FALSE NEIGHBOUR: 'it returns false'. Refute it at one input. -/
def gaugeWholeWrong : ChangeSpec := { name := "gaugeWhole", fn := fun _ => fun
  | [d1, d2, d3] => { results := [.lit (.bool false)], args := [d1, d2, d3] }
  | _ => none }
def GaugeWholeWrongFalsely : Prop := gaugeWholeRow.holds Try.pinned (OpenSpec.ofChange gaugeWholeWrong)

/-- 'cisternlaw04.GaugeTicks': WHATEVER THE INPUT: true; the input reads as it did. -/
def gaugeTicksSpec : ChangeSpec := { name := "gaugeTicks", fn := fun _ => fun
  | [d1, d2, d3] => { results := [.lit (.bool true)], args := [d1, d2, d3] }
  | _ => none }
def gaugeTicksRow : OpenClaim := { program := "ytmadogmahggpeaa", sum := "5388c4361095c54b7e697e771d30498c3da85ea47604a5aec82f2077e0dd35bc", func := "cistern/cisternlaw04.GaugeTicks", spec := "gaugeTicks", inPlace := ["math.Float64frombits", "math.Float64bits", "math.archFloor", "math.archTrunc"], apart := false }
def GaugeTicksSaid : Prop := gaugeTicksRow.holds Try.pinned (OpenSpec.ofChange gaugeTicksSpec)

/-- ITS FALSE NEIGHBOUR: 'it returns false'. Refute it at one input. -/
def gaugeTicksWrong : ChangeSpec := { name := "gaugeTicks", fn := fun _ => fun
  | [d1, d2, d3] => { results := [.lit (.bool false)], args := [d1, d2, d3] }
  | _ => none }
def GaugeTicksWrongFalsely : Prop := gaugeTicksRow.holds Try.pinned (OpenSpec.ofChange gaugeTicksWrong)

/-- 'cisternlaw04.GaugeMixes': WHATEVER THE INPUT: true; the input reads as it did. -/
def gaugeMixesSpec : ChangeSpec := { name := "gaugeMixes", fn := fun _ => fun
  | [d1, d2] => { results := [.lit (.bool true)], args := [d1, d2] }
  | _ => none }
def gaugeMixesRow : OpenClaim := { program := "ytmadogmahggpeaa", sum := "5388c4361095c54b7e697e771d30498c3da85ea47604a5aec82f2077e0dd35bc", func := "cistern/cisternlaw04.GaugeMixes", spec := "gaugeMixes", inPlace := ["math.Float64frombits", "math.Float64bits", "math.archFloor", "math.archTrunc"], apart := false }
def GaugeMixesSaid : Prop := gaugeMixesRow.holds Try.pinned (OpenSpec.ofChange gaugeMixesSpec)

/-- ITS FALSE NEIGHBOUR: 'it returns false'. Refute it at one input. -/
def gaugeMixesWrong : ChangeSpec := { name := "gaugeMixes", fn := fun _ => fun
  | [d1, d2] => { results := [.lit (.bool false)], args := [d1, d2] }
  | _ => none }
def GaugeMixesWrongFalsely : Prop := gaugeMixesRow.holds Try.pinned (OpenSpec.ofChange gaugeMixesWrong)

/-- 'cisternlaw04.GaugePowers': WHATEVER THE INPUT: true; the input reads as it did. -/
def gaugePowersSpec : ChangeSpec := { name := "gaugePowers", fn := fun _ => fun
  | [d1, d2] => { results := [.lit (.bool true)], args := [d1, d2] }
  | _ => none }
def gaugePowersRow : OpenClaim := { program := "ytmadogmahggpeaa", sum := "5388c4361095c54b7e697e771d30498c3da85ea47604a5aec82f2077e0dd35bc", func := "cistern/cisternlaw04.GaugePowers", spec := "gaugePowers", inPlace := ["math.Float64frombits", "math.Float64bits", "math.archFloor", "math.archTrunc"], apart := false }
def GaugePowersSaid : Prop := gaugePowersRow.holds Try.pinned (OpenSpec.ofChange gaugePowersSpec)

/-- ITS FALSE NEIGHBOUR: 'it returns false'. Refute it at one input. -/
def gaugePowersWrong : ChangeSpec := { name := "gaugePowers", fn := fun _ => fun
  | [d1, d2] => { results := [.lit (.bool false)], args := [d1, d2] }
  | _ => none }
def GaugePowersWrongFalsely : Prop := gaugePowersRow.holds Try.pinned (OpenSpec.ofChange gaugePowersWrong)

/-- 'cisternlaw04.GaugeSteps': WHATEVER THE INPUT: true; the input reads as it did. -/
def gaugeStepsSpec : ChangeSpec := { name := "gaugeSteps", fn := fun _ => fun
  | [d] => { results := [.lit (.bool true)], args := [d] }
  | _ => none }
def gaugeStepsRow : OpenClaim := { program := "ytmadogmahggpeaa", sum := "5388c4361095c54b7e697e771d30498c3da85ea47604a5aec82f2077e0dd35bc", func := "cistern/cisternlaw04.GaugeSteps", spec := "gaugeSteps", inPlace := ["math.Float64frombits", "math.Float64bits", "math.archFloor", "math.archTrunc"], apart := false }
def GaugeStepsSaid : Prop := gaugeStepsRow.holds Try.pinned (OpenSpec.ofChange gaugeStepsSpec)

/-- ITS FALSE NEIGHBOUR: 'it returns false'. Refute it at one input. -/
def gaugeStepsWrong : ChangeSpec := { name := "gaugeSteps", fn := fun _ => fun
  | [d] => { results := [.lit (.bool false)], args := [d] }
  | _ => none }
def GaugeStepsWrongFalsely : Prop := gaugeStepsRow.holds Try.pinned (OpenSpec.ofChange gaugeStepsWrong)

/-- 'cisternlaw04.GaugeMirrors': WHATEVER THE INPUT: true; the input reads as it did. -/
def gaugeMirrorsSpec : ChangeSpec := { name := "gaugeMirrors", fn := fun _ => fun
  | [d1, d2] => { results := [.lit (.bool true)], args := [d1, d2] }
  | _ => none }
def gaugeMirrorsRow : OpenClaim := { program := "ytmadogmahggpeaa", sum := "5388c4361095c54b7e697e771d30498c3da85ea47604a5aec82f2077e0dd35bc", func := "cistern/cisternlaw04.GaugeMirrors", spec := "gaugeMirrors", inPlace := ["math.Float64frombits", "math.Float64bits", "math.archFloor", "math.archTrunc"], apart := false }
def GaugeMirrorsSaid : Prop := gaugeMirrorsRow.holds Try.pinned (OpenSpec.ofChange gaugeMirrorsSpec)

/-- ITS FALSE NEIGHBOUR: 'it returns false'. Refute it at one input. -/
def gaugeMirrorsWrong : ChangeSpec := { name := "gaugeMirrors", fn := fun _ => fun
  | [d1, d2] => { results := [.lit (.bool false)], args := [d1, d2] }
  | _ => none }
def GaugeMirrorsWrongFalsely : Prop := gaugeMirrorsRow.holds Try.pinned (OpenSpec.ofChange gaugeMirrorsWrong)

/-- 'cisternlaw04.GaugePicks': WHATEVER THE INPUT: true; the input reads as it did. -/
def gaugePicksSpec : ChangeSpec := { name := "gaugePicks", fn := fun _ => fun
  | [d1, d2, d3] => { results := [.lit (.bool true)], args := [d1, d2, d3] }
  | _ => none }
def gaugePicksRow : OpenClaim := { program := "ytmadogmahggpeaa", sum := "5388c4361095c54b7e697e771d30498c3da85ea47604a5aec82f2077e0dd35bc", func := "cistern/cisternlaw04.GaugePicks", spec := "gaugePicks", inPlace := ["math.Float64frombits", "math.Float64bits", "math.archFloor", "math.archTrunc"], apart := false }
def GaugePicksSaid : Prop := gaugePicksRow.holds Try.pinned (OpenSpec.ofChange gaugePicksSpec)

/-- ITS FALSE NEIGHBOUR: 'it returns false'. Refute it at one input. -/
def gaugePicksWrong : ChangeSpec := { name := "gaugePicks", fn := fun _ => fun
  | [d1, d2, d3] => { results := [.lit (.bool false)], args := [d1, d2, d3] }
  | _ => none }
def GaugePicksWrongFalsely : Prop := gaugePicksRow.holds Try.pinned (OpenSpec.ofChange gaugePicksWrong)

/-- 'cisternlaw04.GaugeKeeps': WHATEVER THE INPUT: true; the input reads as it did. -/
def gaugeKeepsSpec : ChangeSpec := { name := "gaugeKeeps", fn := fun _ => fun
  | [d1, d2, d3] => { results := [.lit (.bool true)], args := [d1, d2, d3] }
  | _ => none }
def gaugeKeepsRow : OpenClaim := { program := "ytmadogmahggpeaa", sum := "5388c4361095c54b7e697e771d30498c3da85ea47604a5aec82f2077e0dd35bc", func := "cistern/cisternlaw04.GaugeKeeps", spec := "gaugeKeeps", inPlace := ["math.Float64frombits", "math.Float64bits", "math.archFloor", "math.archTrunc"], apart := false }
def GaugeKeepsSaid : Prop := gaugeKeepsRow.holds Try.pinned (OpenSpec.ofChange gaugeKeepsSpec)

/-- ITS FALSE NEIGHBOUR: 'it returns false'. Refute it at one input. -/
def gaugeKeepsWrong : ChangeSpec := { name := "gaugeKeeps", fn := fun _ => fun
  | [d1, d2, d3] => { results := [.lit (.bool false)], args := [d1, d2, d3] }
  | _ => none }
def GaugeKeepsWrongFalsely : Prop := gaugeKeepsRow.holds Try.pinned (OpenSpec.ofChange gaugeKeepsWrong)

/- THE SECOND FORM. 'bulk': how many values and letters a reading holds, each counted each time it is reached (what is shared counts as often as it is met; a slice's spare places count too). A statement '..UptoSaid' is the law's where the arguments, and the package variables that the reading takes, are together of bulk at most 1048576: NARROWER than '..Said'. Prove '..Said' where nothing that the law and all that it calls make is longer than what came in: it says more and counts as full. Else prove '..UptoSaid'. A law counts once. -/
mutual
def uptoBulk {H : Type} : DataW H → Nat
  | .lit (.string bytes) => bytes.length + 1
  | .lit _ => 1
  | .nil => 1
  | .ptr d => uptoBulk d + 1
  | .slice elems spare => uptoBulkAll elems + uptoBulkAll spare + 1
  | .agg parts => uptoBulkAll parts + 1
  | .iface _ d => uptoBulk d + 1
  | .map entries => uptoBulkEntries entries + 1
  | .held _ => 1
def uptoBulkAll {H : Type} : List (DataW H) → Nat
  | [] => 0
  | d :: r => uptoBulk d + uptoBulkAll r
def uptoBulkEntries {H : Type} : List (Lit × DataW H) → Nat
  | [] => 0
  | x :: r => uptoBulkEntry x + uptoBulkEntries r
def uptoBulkEntry {H : Type} : Lit × DataW H → Nat
  | (.string bytes, d) => bytes.length + uptoBulk d + 1
  | (_, d) => uptoBulk d + 1
 end
def uptoSmall : (H : Type) → List (DataW H) → Bool := fun _ ds => decide (uptoBulkAll ds ≤ 1048576)
def OpenSpec.upto (s : _root_.Go.ChangeSpec) : _root_.Go.OpenSpec := { _root_.Go.OpenSpec.ofChange s with cond := some uptoSmall }

/-- 'cisternlaw06.BackoffEdges', WHERE WHAT IT READS IS OF BULK AT MOST 1048576: true; the input reads as it did. -/
def backoffEdgesUptoRow : OpenClaim := { program := "ytmadogmahggpeaa", sum := "5388c4361095c54b7e697e771d30498c3da85ea47604a5aec82f2077e0dd35bc", func := "cistern/cisternlaw06.BackoffEdges", spec := "backoffEdges", inPlace := ["math.Float64bits", "math.archFloor", "math.Float64frombits", "math.archTrunc"], apart := false, narrowed := true }
def BackoffEdgesUptoSaid : Prop := backoffEdgesUptoRow.holds Try.pinned (OpenSpec.upto backoffEdgesSpec)

/-- 'cisternlaw06.BackoffDelays', WHERE WHAT IT READS IS OF BULK AT MOST 1048576: true; the input reads as it did. -/
def backoffDelaysUptoRow : OpenClaim := { program := "ytmadogmahggpeaa", sum := "5388c4361095c54b7e697e771d30498c3da85ea47604a5aec82f2077e0dd35bc", func := "cistern/cisternlaw06.BackoffDelays", spec := "backoffDelays", inPlace := ["math.Float64bits", "math.archFloor", "math.Float64frombits", "math.archTrunc"], apart := false, narrowed := true }
def BackoffDelaysUptoSaid : Prop := backoffDelaysUptoRow.holds Try.pinned (OpenSpec.upto backoffDelaysSpec)

/-- 'cisternlaw06.BackoffPlans', WHERE WHAT IT READS IS OF BULK AT MOST 1048576: true; the input reads as it did. -/
def backoffPlansUptoRow : OpenClaim := { program := "ytmadogmahggpeaa", sum := "5388c4361095c54b7e697e771d30498c3da85ea47604a5aec82f2077e0dd35bc", func := "cistern/cisternlaw06.BackoffPlans", spec := "backoffPlans", inPlace := ["math.Float64bits", "math.archFloor", "math.Float64frombits", "math.archTrunc"], apart := false, narrowed := true }
def BackoffPlansUptoSaid : Prop := backoffPlansUptoRow.holds Try.pinned (OpenSpec.upto backoffPlansSpec)

/-- 'cisternlaw06.BackoffBounds', WHERE WHAT IT READS IS OF BULK AT MOST 1048576: true; the input reads as it did. -/
def backoffBoundsUptoRow : OpenClaim := { program := "ytmadogmahggpeaa", sum := "5388c4361095c54b7e697e771d30498c3da85ea47604a5aec82f2077e0dd35bc", func := "cistern/cisternlaw06.BackoffBounds", spec := "backoffBounds", inPlace := ["math.Float64bits", "math.archFloor", "math.Float64frombits", "math.archTrunc"], apart := false, narrowed := true }
def BackoffBoundsUptoSaid : Prop := backoffBoundsUptoRow.holds Try.pinned (OpenSpec.upto backoffBoundsSpec)

/-- 'cisternlaw06.BackoffShifts', WHERE WHAT IT READS IS OF BULK AT MOST 1048576: true; the input reads as it did. -/
def backoffShiftsUptoRow : OpenClaim := { program := "ytmadogmahggpeaa", sum := "5388c4361095c54b7e697e771d30498c3da85ea47604a5aec82f2077e0dd35bc", func := "cistern/cisternlaw06.BackoffShifts", spec := "backoffShifts", inPlace := ["math.Float64bits", "math.archFloor", "math.Float64frombits", "math.archTrunc"], apart := false, narrowed := true }
def BackoffShiftsUptoSaid : Prop := backoffShiftsUptoRow.holds Try.pinned (OpenSpec.upto backoffShiftsSpec)

/-- 'cisternlaw04.GaugeOrders', WHERE WHAT IT READS IS OF BULK AT MOST 1048576: true; the input reads as it did. -/
def gaugeOrdersUptoRow : OpenClaim := { program := "ytmadogmahggpeaa", sum := "5388c4361095c54b7e697e771d30498c3da85ea47604a5aec82f2077e0dd35bc", func := "cistern/cisternlaw04.GaugeOrders", spec := "gaugeOrders", inPlace := ["math.Float64frombits", "math.Float64bits", "math.archFloor", "math.archTrunc"], apart := false, narrowed := true }
def GaugeOrdersUptoSaid : Prop := gaugeOrdersUptoRow.holds Try.pinned (OpenSpec.upto gaugeOrdersSpec)

/-- 'cisternlaw04.GaugeWhole', WHERE WHAT IT READS IS OF BULK AT MOST 1048576: true; the input reads as it did. -/
def gaugeWholeUptoRow : OpenClaim := { program := "ytmadogmahggpeaa", sum := "5388c4361095c54b7e697e771d30498c3da85ea47604a5aec82f2077e0dd35bc", func := "cistern/cisternlaw04.GaugeWhole", spec := "gaugeWhole", inPlace := ["math.Float64frombits", "math.Float64bits", "math.archFloor", "math.archTrunc"], apart := false, narrowed := true }
def GaugeWholeUptoSaid : Prop := gaugeWholeUptoRow.holds Try.pinned (OpenSpec.upto gaugeWholeSpec)

/-- 'cisternlaw04.GaugeTicks', WHERE WHAT IT READS IS OF BULK AT MOST 1048576: true; the input reads as it did. -/
def gaugeTicksUptoRow : OpenClaim := { program := "ytmadogmahggpeaa", sum := "5388c4361095c54b7e697e771d30498c3da85ea47604a5aec82f2077e0dd35bc", func := "cistern/cisternlaw04.GaugeTicks", spec := "gaugeTicks", inPlace := ["math.Float64frombits", "math.Float64bits", "math.archFloor", "math.archTrunc"], apart := false, narrowed := true }
def GaugeTicksUptoSaid : Prop := gaugeTicksUptoRow.holds Try.pinned (OpenSpec.upto gaugeTicksSpec)

/-- 'cisternlaw04.GaugeMixes', WHERE WHAT IT READS IS OF BULK AT MOST 1048576: true; the input reads as it did. -/
def gaugeMixesUptoRow : OpenClaim := { program := "ytmadogmahggpeaa", sum := "5388c4361095c54b7e697e771d30498c3da85ea47604a5aec82f2077e0dd35bc", func := "cistern/cisternlaw04.GaugeMixes", spec := "gaugeMixes", inPlace := ["math.Float64frombits", "math.Float64bits", "math.archFloor", "math.archTrunc"], apart := false, narrowed := true }
def GaugeMixesUptoSaid : Prop := gaugeMixesUptoRow.holds Try.pinned (OpenSpec.upto gaugeMixesSpec)

/-- 'cisternlaw04.GaugePowers', WHERE WHAT IT READS IS OF BULK AT MOST 1048576: true; the input reads as it did. -/
def gaugePowersUptoRow : OpenClaim := { program := "ytmadogmahggpeaa", sum := "5388c4361095c54b7e697e771d30498c3da85ea47604a5aec82f2077e0dd35bc", func := "cistern/cisternlaw04.GaugePowers", spec := "gaugePowers", inPlace := ["math.Float64frombits", "math.Float64bits", "math.archFloor", "math.archTrunc"], apart := false, narrowed := true }
def GaugePowersUptoSaid : Prop := gaugePowersUptoRow.holds Try.pinned (OpenSpec.upto gaugePowersSpec)

/-- 'cisternlaw04.GaugeSteps', WHERE WHAT IT READS IS OF BULK AT MOST 1048576: true; the input reads as it did. -/
def gaugeStepsUptoRow : OpenClaim := { program := "ytmadogmahggpeaa", sum := "5388c4361095c54b7e697e771d30498c3da85ea47604a5aec82f2077e0dd35bc", func := "cistern/cisternlaw04.GaugeSteps", spec := "gaugeSteps", inPlace := ["math.Float64frombits", "math.Float64bits", "math.archFloor", "math.archTrunc"], apart := false, narrowed := true }
def GaugeStepsUptoSaid : Prop := gaugeStepsUptoRow.holds Try.pinned (OpenSpec.upto gaugeStepsSpec)

/-- 'cisternlaw04.GaugeMirrors', WHERE WHAT IT READS IS OF BULK AT MOST 1048576: true; the input reads as it did. -/
def gaugeMirrorsUptoRow : OpenClaim := { program := "ytmadogmahggpeaa", sum := "5388c4361095c54b7e697e771d30498c3da85ea47604a5aec82f2077e0dd35bc", func := "cistern/cisternlaw04.GaugeMirrors", spec := "gaugeMirrors", inPlace := ["math.Float64frombits", "math.Float64bits", "math.archFloor", "math.archTrunc"], apart := false, narrowed := true }
def GaugeMirrorsUptoSaid : Prop := gaugeMirrorsUptoRow.holds Try.pinned (OpenSpec.upto gaugeMirrorsSpec)

/-- 'cisternlaw04.GaugePicks', WHERE WHAT IT READS IS OF BULK AT MOST 1048576: true; the input reads as it did. -/
def gaugePicksUptoRow : OpenClaim := { program := "ytmadogmahggpeaa", sum := "5388c4361095c54b7e697e771d30498c3da85ea47604a5aec82f2077e0dd35bc", func := "cistern/cisternlaw04.GaugePicks", spec := "gaugePicks", inPlace := ["math.Float64frombits", "math.Float64bits", "math.archFloor", "math.archTrunc"], apart := false, narrowed := true }
def GaugePicksUptoSaid : Prop := gaugePicksUptoRow.holds Try.pinned (OpenSpec.upto gaugePicksSpec)

/-- 'cisternlaw04.GaugeKeeps', WHERE WHAT IT READS IS OF BULK AT MOST 1048576: true; the input reads as it did. -/
def gaugeKeepsUptoRow : OpenClaim := { program := "ytmadogmahggpeaa", sum := "5388c4361095c54b7e697e771d30498c3da85ea47604a5aec82f2077e0dd35bc", func := "cistern/cisternlaw04.GaugeKeeps", spec := "gaugeKeeps", inPlace := ["math.Float64frombits", "math.Float64bits", "math.archFloor", "math.archTrunc"], apart := false, narrowed := true }
def GaugeKeepsUptoSaid : Prop := gaugeKeepsUptoRow.holds Try.pinned (OpenSpec.upto gaugeKeepsSpec)

end Rows
end Go.Proofs.Ytmadogmahggpeaa
