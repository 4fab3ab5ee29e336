/-
  Small facts for the row's proof: the listed tables. · The steps that came in: what the walk reads of them, and how long a step's row of numbers can be (the form's reach).
-/
import Derived.Test.YtcpelncjagaadaaGreatDoorRows
import Derived.ProofKit
import Derived.LaidMore
import Derived.Lay
import Derived.MakeChecks
import Derived.LaidHandle
import Derived.Test.YtcpelncjagaadaaGreatDoorPG
import Derived.ChangeSlices
import Derived.Deep.SlicePairs
import Derived.SizedLaws
namespace Go.Proofs.YtcpelncjagaadaaGreatDoor
open Go.ChangeShapes Go.WideShapes Go.ChangeAt Go.RowKit

theorem own : ownKnob Tryz.prog.godebug = none := by kernel_rfl
theorem laidOut : laidOutB Tryz.prog = true := by kernel_rfl

abbrev laid2 : List (String × DataW Unit) := [("unicode/utf8.acceptRanges", Rows.laid_unicode_utf8_acceptRanges), ("unicode/utf8.first", Rows.laid_unicode_utf8_first)]

end Go.Proofs.YtcpelncjagaadaaGreatDoor

namespace Go.Proofs.YtcpelncjagaadaaGreatDoor
open Go.ChangeShapes Go.WideShapes Go.ChangeAt Go.RowKit

theorem bytes3 : Tryz.prog.bytesOf 3 = 8 := by kernel_rfl
theorem cells3 : Tryz.prog.cellsOf 3 = 1 := by kernel_rfl
theorem cells9 : Tryz.prog.cellsOf 9 = 1 := by kernel_rfl
theorem cells32 : Tryz.prog.cellsOf 32 = 1 := by kernel_rfl
theorem cells34 : Tryz.prog.cellsOf 34 = 6 := by kernel_rfl

instance : Inhabited StepC := ⟨⟨0, 0, 0, ⟨#[]⟩, ⟨#[]⟩, .pointer none, []⟩⟩
section
variable {H : Type} {enc : TypeId × Value → H} {W : World} {b0 : Nat} {sp : Nat → Bool} {held : Bool}

theorem weightsAll_mem {P : Program} {e : TypeId} : ∀ {l : List (DataW H)} {d : DataW H}, d ∈ l → ∀ n ∈ d.weights P e, n ∈ DataW.weightsAll P e l
  | d' :: r, d, hd, n, hn => by
    simp only [DataW.weightsAll, List.mem_append]
    rcases List.mem_cons.1 hd with rfl | h
    · exact Or.inl hn
    · exact Or.inr (weightsAll_mem h n hn)
theorem spotless {w : World} {a : Addr} {v : Value} (h : w.cell? a = some v) : a.spot = none := by
  unfold World.cell? at h
  split at h
  · split at h
    · cases h
    · rename_i hs; simpa using hs
  · cases h
theorem addr_plain (g o i : Nat) : (⟨g, o, none⟩ : Addr).add i = ⟨g, o + i, none⟩ := by simp [Addr.add]

theorem ints_of_cells {v : Value} {n : Nat} {y : DataW H × List MemPlace} (h : DataW.trod enc Tryz.prog W 0 sp held n 32 [v] = some y) (hz : ∀ k ∈ y.1.weights Tryz.prog 32, k ≤ reachBytes) :
    ∃ l : List Int, Reads v l W ∧ l.length ≤ 17592186044416 := by
  rcases open_ints Tryz.underlying32 Tryz.underlying3 cells3 h with ⟨hcs, hx⟩ | ⟨a, len', cap', zs, hcs, _, hl, hm, hzl, hx, hcell, hwz⟩
  · simp at hcs
    subst hcs
    exact ⟨[], ⟨none, 0, rfl, fun h => by simp at h⟩, by decide⟩
  · simp at hcs
    subst hcs
    have hle : len' ≤ zs.length := by rw [hzl]; split <;> omega
    have hlen : (zs.take len').length = len' := by simp; omega
    refine ⟨zs.take len', ⟨some a, cap', by rw [hlen], fun hp => ?_⟩, ?_⟩
    · rw [hlen] at hp ⊢
      have h0 := hcell 0 (by omega)
      have hs : a.spot = none := by
        have := spotless h0
        simpa [Addr.add] using this
      obtain ⟨g, o, s⟩ := a
      simp only at hs
      subst hs
      refine ⟨g, o, rfl, ?_, fun j hj => ?_⟩
      · have := World.block_lt_of_cell? W _ h0
        simpa [Addr.add] using this
      · have := hcell j (by omega)
        rw [addr_plain] at this
        rw [this]
        simp [List.getD, hj]
    · rw [hlen]
      have := hz ((zs.take len').length * 8 + (zs.drop len').length * 8) (by
        rw [hx]
        simp [DataW.weights, Tryz.underlying32, bytes3, lits, Nat.add_mul])
      simp only [reachBytes] at this
      omega

set_option maxRecDepth 100000 in
theorem steps_of_arg {r : Reach} {v : Value} {d : DataW H} {ps : List MemPlace} (hval : Value.okWide Tryz.prog W r b0 22 v) (h : DataW.Trod enc Tryz.prog W 0 sp held 22 v d ps) (hz : ∀ k ∈ d.weights Tryz.prog 22, k ≤ reachBytes) :
    ∃ l : List StepC, ReadsSteps v l W := by
  obtain ⟨a0, len, cap, rfl⟩ := okWide_slice Tryz.underlying22 hval
  obtain ⟨fuel, hf⟩ := h
  rcases Go.Deep.open_slice Tryz.underlying22 hf with ⟨hcs, hx⟩ | ⟨a, len', cap', m, n, D, Pl, hcs, _, hl, hm, hmm, hx, hcell⟩
  · simp [Value.cells] at hcs
    obtain ⟨rfl, rfl, rfl⟩ := hcs
    exact ⟨[], none, 0, rfl, fun h => by simp at h⟩
  · simp [Value.cells] at hcs
    obtain ⟨rfl, rfl, rfl⟩ := hcs
    have hle : len ≤ m := by rw [hmm]; split <;> omega
    have each : ∀ i, i < len → ∃ x : StepC, W.cell? (a.add (i * 6)) = some (.int .i64 x.k) ∧ W.cell? (a.add (i * 6 + 1)) = some (.int .i64 x.a) ∧ W.cell? (a.add (i * 6 + 2)) = some (.int .i64 x.b) ∧ W.cell? (a.add (i * 6 + 3)) = some (.string x.s) ∧ W.cell? (a.add (i * 6 + 4)) = some (.string x.t) ∧ W.cell? (a.add (i * 6 + 5)) = some x.v ∧ Reads x.v x.l W ∧ x.l.length ≤ 17592186044416 := by
      intro i hi
      obtain ⟨cs', h1, h2⟩ := hcell i (by omega)
      rw [cells34] at h1
      obtain ⟨_, hlen, hc⟩ := World.cells?_some h1
      obtain ⟨xs, k, hk, hxy, _, hxl, hfs⟩ := DataW.trod_struct Tryz.underlying34 h2
      match xs, hxl, cs', hlen with
      | [y0, y1, y2, y3, y4, y5], _, [v0, v1, v2, v3, v4, v5], _ =>
        have g0 := hfs 0 _ rfl
        have g1 := hfs 1 _ rfl
        have g2 := hfs 2 _ rfl
        have g3 := hfs 3 _ rfl
        have g4 := hfs 4 _ rfl
        have g5 := hfs 5 _ rfl
        simp [cells3, cells9, cells32] at g0 g1 g2 g3 g4 g5
        have e0 := hc 0 (by omega)
        have e1 := hc 1 (by omega)
        have e2 := hc 2 (by omega)
        have e3 := hc 3 (by omega)
        have e4 := hc 4 (by omega)
        have e5 := hc 5 (by omega)
        rw [Go.Deep.add_add] at e0 e1 e2 e3 e4 e5
        obtain ⟨z0, q0, _⟩ := DataW.trod_int Tryz.underlying3 g0
        obtain ⟨z1, q1, _⟩ := DataW.trod_int Tryz.underlying3 g1
        obtain ⟨z2, q2, _⟩ := DataW.trod_int Tryz.underlying3 g2
        obtain ⟨s3, q3, _⟩ := DataW.trod_string Tryz.underlying9 g3
        obtain ⟨s4, q4, _⟩ := DataW.trod_string Tryz.underlying9 g4
        simp only [Prod.mk.injEq] at hxy
        obtain ⟨l, hl1, hl2⟩ := ints_of_cells g5 (fun k hk => hz k (by
          rw [(Prod.mk.inj hx).1]
          simp only [DataW.weights, Tryz.underlying22, List.mem_cons, List.mem_append]
          refine .inr (.inl (weightsAll_mem (List.mem_map.2 ⟨i, List.mem_range.2 hi, rfl⟩) k ?_))
          rw [hxy.1]
          simp only [List.map_cons, List.map_nil, DataW.weights, Tryz.underlying34, DataW.weightsEach, List.mem_append]
          simp [hk]))
        simp at q0 q1 q2 q3 q4
        refine ⟨⟨z0, z1, z2, s3, s4, v5, l⟩, ?_⟩
        simp only [q0, q1, q2, q3, q4] at e0 e1 e2 e3 e4
        exact ⟨by simpa using e0, by simpa using e1, by simpa using e2, by simpa using e3, by simpa using e4, by simpa using e5, hl1, hl2⟩
    obtain ⟨q, hq⟩ := Go.Deep.choose_lt each
    refine ⟨(List.range len).map q, some a, cap, by simp, fun hp => ?_⟩
    simp only [List.length_map, List.length_range] at hp ⊢
    have h0 := (hq 0 hp).1
    have hs : a.spot = none := by
      have := spotless h0
      simpa [Addr.add] using this
    obtain ⟨g, o, s⟩ := a
    simp only at hs
    subst hs
    refine ⟨g, o, rfl, ?_, fun j x hj => ?_⟩
    · have := World.block_lt_of_cell? W _ h0
      simpa [Addr.add] using this
    · have hjl : j < len := by have := (List.getElem?_eq_some_iff.1 hj).1; simpa using this
      have hx2 : q j = x := by
        have := hj
        simp [List.getElem?_map, List.getElem?_range hjl] at this
        exact this
      subst hx2
      obtain ⟨e0, e1, e2, e3, e4, e5, e6, e7⟩ := hq j hjl
      rw [addr_plain] at e0 e1 e2 e3 e4 e5
      exact ⟨e0, by rw [Nat.add_assoc]; exact e1, by rw [Nat.add_assoc]; exact e2, by rw [Nat.add_assoc]; exact e3, by rw [Nat.add_assoc]; exact e4, by rw [Nat.add_assoc]; exact e5, e6, e7⟩
end
end Go.Proofs.YtcpelncjagaadaaGreatDoor
