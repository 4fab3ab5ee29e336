/-
  alloc.New.
-/
import Derived.Test.YtfkmjepbckafdaaDoorWF
import Derived.Laws.AppendOwn
import Derived.Laws.OwnMore
import Derived.Laws.MakeOwn
import Derived.Deep.DeepCutAuto
namespace Go.Proofs.YtfkmjepbckafdaaDoor
open Go.RowKit

/-- A list of numbers that a slice shows. -/
def Reads (v : Value) (l : List Int) (w : World) : Prop :=
  ∃ ao cap, v = .slice ao l.length cap ∧ (0 < l.length → ∃ g o, ao = some ⟨g, o, none⟩ ∧ g < w.heap.size ∧ ∀ j, j < l.length → w.cell? ⟨g, o + j, none⟩ = some (.int .i64 (l.getD j 0)))

theorem Reads.touch {v : Value} {l : List Int} {S : Nat → Prop} {w w' : World} (h : Reads v l w) (ht : Touch S w w') (hS : ∀ g, v.ownBlock = some g → ¬ S g) : Reads v l w' := by
  obtain ⟨ao, cap, rfl, h⟩ := h
  refine ⟨ao, cap, rfl, fun hp => ?_⟩
  obtain ⟨g, o, rfl, hg, hc⟩ := h hp
  refine ⟨g, o, rfl, Nat.lt_of_lt_of_le hg ht.size, fun j hj => ?_⟩
  rw [ht.cell (p := ⟨g, o + j, none⟩) hg (hS g rfl)]
  exact hc j hj

def addAll (U : Nat) : List Int → Option Nat
  | [] => some U
  | b :: r => if U.testBit b.toNat then none else addAll (U ||| 2 ^ b.toNat) r

def newE (n : Int) (l : List Int) : Int :=
  if n < 1 ∨ 4096 < n then 1 else if ∀ x ∈ l, 0 ≤ x ∧ x < n then (match addAll 0 l with | none => 8 | some _ => 0) else 1

set_option maxHeartbeats 400000 in
/-- No allocator is made: the number is no such. -/
theorem new_wide (n : Int) (v : Value) (w : World) (h : n < 1 ∨ 4096 < n) :
    Calls Tryd.prog 9 #[.int .i64 n, v] w fun e w' => e = .returned (.tuple #[.pointer none, .int .i64 1]) ∧ w = w' := by
  by_cases h1 : n < 1
  · go_enter Tryd.func9, Tryd.ntmps9
    go_wp2_with fail
    go_ret2
    exact ⟨rfl, rfl⟩
  · have h2 : 4096 < n := by omega
    clear h
    go_enter Tryd.func9, Tryd.ntmps9
    go_wp2_with fail
    go_ret2
    exact ⟨rfl, rfl⟩

theorem take_next (l : List Int) (j : Nat) (h : j < l.length) : l.take (j + 1) = l.take j ++ [l.getD j 0] := by
  rw [List.take_add_one]; simp [List.getD, List.getElem?_eq_getElem h]

set_option maxHeartbeats 1000000 in
/-- .. or one of the used ones is none. -/
theorem new_bad (n : Int) (v : Value) (l : List Int) (w : World) (h1 : 1 ≤ n) (h2 : n ≤ 4096) (hl : l.length < 1000000) (hv : Reads v l w) (hb : ¬ ∀ x ∈ l, 0 ≤ x ∧ x < n) :
    Calls Tryd.prog 9 #[.int .i64 n, v] w fun e w' => e = .returned (.tuple #[.pointer none, .int .i64 1]) ∧ w = w' := by
  obtain ⟨ao, cap, rfl, hr⟩ := hv
  have Hr := Lib.hid hr
  have Hb := Lib.hid hb
  clear hr hb
  go_enter Tryd.func9, Tryd.ntmps9
  go_wp2_with fail
  go_loopw [20] (fun i wr => ∃ j : Nat, j ≤ l.length ∧ i = .int .i64 j ∧ wr = w ∧ ∀ x ∈ l.take j, 0 ≤ x ∧ x < n) (fun i _ => l.length - (intOf i).toNat)
  case atStart => exact ⟨0, Nat.zero_le _, rfl, rfl, by simp⟩
  case round =>
    obtain ⟨j, hj, rfl, rfl, hx⟩ := hrel
    have Hx := Lib.hid hx
    clear hx
    by_cases hlt : j < l.length
    · obtain ⟨g, o, rfl, hg, hc⟩ := Hr.out (by omega)
      have c0 := hc j hlt
      have hmem : l.getD j 0 ∈ l := by simp [List.getD, List.getElem?_eq_getElem hlt]
      have htk := take_next l j hlt
      have Htk := Lib.hid (And.intro hmem htk)
      clear hc hmem htk
      generalize l.getD j 0 = x at c0 Htk
      by_cases b1 : x < 0
      · go_wp2_with fail
        go_ret2
        exact ⟨rfl, rfl⟩
      · by_cases b2 : n ≤ x
        · go_wp2_with fail
          go_ret2
          exact ⟨rfl, rfl⟩
        · go_wp2_with fail
          go_roundw
          case rel =>
            refine ⟨j + 1, by omega, by go_num, trivial, fun y hy => ?_⟩
            rw [Htk.out.2, List.mem_append] at hy
            rcases hy with hy | hy
            · exact Hx.out y hy
            · simp at hy; subst hy; omega
          case measure => simp [intOf]; omega
    · obtain rfl : j = l.length := by omega
      exact absurd (by simpa using Hx.out) Hb.out

theorem addAll_take (l : List Int) (U : Nat) (j : Nat) (h : j < l.length) : addAll U (l.take (j + 1)) = (addAll U (l.take j)).bind fun V => if V.testBit (l.getD j 0).toNat then none else some (V ||| 2 ^ (l.getD j 0).toNat) := by
  induction l generalizing U j with
  | nil => simp at h
  | cons a l ih =>
    cases j with
    | zero => simp [addAll]
    | succ j =>
      simp only [List.take_succ_cons, addAll]
      split
      · rfl
      · rw [ih _ j (by simpa using h)]; rfl
theorem addAll_none (l : List Int) (U : Nat) (j : Nat) (h : addAll U (l.take j) = none) : addAll U l = none := by
  induction l generalizing U j with
  | nil => cases j <;> simp [addAll] at h
  | cons a l ih =>
    cases j with
    | zero => simp [addAll] at h
    | succ j =>
      simp only [List.take_succ_cons, addAll] at h ⊢
      split
      · rfl
      · rename_i hU; rw [if_neg hU] at h; exact ih _ j h
theorem addAll_lt (l : List Int) (U V n : Nat) (hl : ∀ x ∈ l, 0 ≤ x ∧ x < n) (hU : U < 2 ^ n) (h : addAll U l = some V) : V < 2 ^ n := by
  induction l generalizing U with
  | nil => simp [addAll] at h; omega
  | cons a l ih =>
    simp only [addAll] at h
    split at h
    · cases h
    · have := hl a (by simp)
      exact ih _ (fun x hx => hl x (by simp [hx])) (Bt.or_lt hU (by omega)) h

theorem Tryd.info25 : (Tryd.prog.info? 25).map (fun i => (i.zero, i.size, i.bytes)) = some (some (.int .u64 0), 1, 8) := by kernel_rfl
theorem info_parts {P : Program} {t : TypeId} {z : Value} {a b : Nat} (h : (P.info? t).map (fun i => (i.zero, i.size, i.bytes)) = some (some z, a, b)) :
    ∃ i, P.info? t = some i ∧ i.zero = some z ∧ i.size = a ∧ i.bytes = b := by
  cases hi : P.info? t with
  | none => rw [hi] at h; simp at h
  | some i => rw [hi] at h; simp at h; exact ⟨i, rfl, h.1, h.2.1, h.2.2⟩

theorem make49 (w : World) : (Instr.makeSlice 49 (.int .i64 1) (.int .i64 1)).run Tryd.prog w = .ok (.slice (some ⟨w.heap.size, 0, none⟩) 1 1) (w.alloc (.cells #[.int .u64 0] 25)) := by
  obtain ⟨i0, hi, hz0, hz1, hz2⟩ := info_parts Tryd.info25
  have h := run_makeSlice (P := Tryd.prog) (w := w) 49 25 i0 (.int .u64 0) Tryd.underlying49 hi hz0 .i64 .i64 1 1 (by decide) (by decide) (by rw [hz1]; decide) (by rw [hz2]; decide) (by decide)
  rw [h, hz1]
  have e : madeCells (Value.int IntKind.u64 0).cells ((1 : Int).toNat * 1) = #[.int .u64 0] := by kernel_rfl
  rw [e]
  rfl

theorem At.new (n : Nat) (w : World) : At ⟨w.heap.size + 1 + 1, w.heap.size, w.heap.size + 1, 1, 1⟩ ⟨n, 0, 0, 0⟩ (((w.alloc (.cells #[.int .u64 0] 25)).alloc (.cells #[.int .u64 0] 25)).alloc
    (.cells #[.int .i64 n, .slice (some ⟨w.heap.size, 0, none⟩) 1 1, .slice (some ⟨w.heap.size + 1, 0, none⟩) 1 1, .int .i64 0] 51)) := by
  refine ⟨?_, ?_, ?_, ?_, ?_, ?_, ?_, ?_, ?_, ?_, ?_, ?_⟩ <;> first | (simp [go_sem]; done) | (show w.heap.size + 1 + 1 ≠ w.heap.size; omega)
theorem At.new' (n : Nat) (w : World) : At ⟨w.heap.size + 1 + 1, w.heap.size + 1, w.heap.size, 1, 1⟩ ⟨n, 0, 0, 0⟩ (((w.alloc (.cells #[.int .u64 0] 25)).alloc (.cells #[.int .u64 0] 25)).alloc
    (.cells #[.int .i64 n, .slice (some ⟨w.heap.size + 1, 0, none⟩) 1 1, .slice (some ⟨w.heap.size, 0, none⟩) 1 1, .int .i64 0] 51)) := by
  refine ⟨?_, ?_, ?_, ?_, ?_, ?_, ?_, ?_, ?_, ?_, ?_, ?_⟩ <;> first | (simp [go_sem]; done) | (show w.heap.size + 1 + 1 ≠ w.heap.size; omega)


/-- What New ends in. -/
structure NewGot (n : Nat) (l : List Int) (w : World) (e : Ending) (w' : World) : Prop where
  touch : Touch (fun _ => False) w w'
  got : (addAll 0 l = none ∧ e = .returned (.tuple #[.pointer none, .int .i64 8])) ∨
    ∃ U, addAll 0 l = some U ∧ ∃ a : Loc, e = .returned (.tuple #[.pointer (some ⟨a.p, 0, none⟩), .int .i64 0]) ∧ w.heap.size ≤ a.p ∧ w.heap.size ≤ a.u ∧ w.heap.size ≤ a.l ∧ At a ⟨n, U, 0, 0⟩ w'

set_option maxHeartbeats 2000000 in
theorem new_good (n : Nat) (v : Value) (l : List Int) (w : World) (h1 : 1 ≤ n) (h2 : n ≤ 64) (hl : l.length < 1000000) (hv : Reads v l w) (hb : ∀ x ∈ l, 0 ≤ x ∧ x < n) :
    Calls Tryd.prog 9 #[.int .i64 n, v] w fun e w' => NewGot n l w e w' := by
  obtain ⟨ao, cap, rfl, hr⟩ := hv
  have Hr := Lib.hid hr
  have Hb := Lib.hid hb
  have q1 : Int.tdiv ((n : Int) + 63) 64 = 1 := by rw [Int.tdiv_eq_ediv_of_nonneg (by omega)]; omega
  clear hr hb
  go_enter Tryd.func9, Tryd.ntmps9
  go_wp2_with fail
  go_loopw [20] (fun i wr => ∃ j : Nat, j ≤ l.length ∧ i = .int .i64 j ∧ w = wr) (fun i _ => l.length - (intOf i).toNat)
  case atStart => exact ⟨0, Nat.zero_le _, rfl, rfl⟩
  case round =>
    obtain ⟨j, hj, rfl, rfl⟩ := hrel
    by_cases hlt : j < l.length
    · obtain ⟨g, o, rfl, hg, hc⟩ := Hr.out (by omega)
      have c0 := hc j hlt
      have hmem : l.getD j 0 ∈ l := by simp [List.getD, List.getElem?_eq_getElem hlt]
      have hx := Hb.out _ hmem
      clear hc hmem
      generalize l.getD j 0 = x at c0 hx
      obtain ⟨b1, b2⟩ := hx
      go_wp2_with fail
      go_roundw
      case rel => exact ⟨j + 1, by omega, by go_num, trivial⟩
      case measure => simp [intOf]; omega
    · obtain rfl : j = l.length := by omega
      have hm := fun w => make49 w
      go_upto_region 10 with fail
      go_cut [9] (fun s wx => ∃ a : Loc, s = .pointer (some ⟨a.p, 0, none⟩) ∧ w.heap.size ≤ a.p ∧ w.heap.size ≤ a.u ∧ w.heap.size ≤ a.l ∧ At a ⟨n, 0, 0, 0⟩ wx ∧ Touch (fun _ => False) w wx)
      case first =>
        go_region
        · go_wp2_with fail
          go_meet
          exact ⟨⟨w.heap.size + 1 + 1, w.heap.size, w.heap.size + 1, 1, 1⟩, rfl, by simp; omega, by simp, by simp, (At.new n w).drew, ((((Touch.refl _ w).alloc _).alloc _).alloc _).drew⟩
        · go_wp2_with fail
          go_meet
          exact ⟨⟨w.heap.size + 1 + 1, w.heap.size + 1, w.heap.size, 1, 1⟩, rfl, by simp; omega, by simp, by simp, (At.new' n w).drew, ((((Touch.refl _ w).alloc _).alloc _).alloc _).drew⟩
      case rest =>
        obtain ⟨a, rfl, ha1, ha2, ha3, hA, hT⟩ := hcut
        have HT := Lib.hid hT
        have HA := Lib.hid hA
        clear hA hT
        go_wp2_with fail
        go_loopw [44] (fun i wx => ∃ j U : Nat, j ≤ l.length ∧ i = .int .i64 j ∧ addAll 0 (l.take j) = some U ∧ At a ⟨n, U, 0, 0⟩ wx ∧ Touch (fun _ => False) w wx) (fun i _ => l.length - (intOf i).toNat)
        case atStart => exact ⟨0, 0, Nat.zero_le _, rfl, by simp [addAll], HA.out, HT.out⟩
        case round =>
          obtain ⟨j, U, hj, rfl, hU, hA, hT⟩ := hrel
          have HT2 := Lib.hid hT
          have HA2 := Lib.hid hA
          have HU := Lib.hid hU
          have hUlt := addAll_lt _ 0 U n (fun x hx => Hb.out x (List.mem_of_mem_take hx)) (Nat.two_pow_pos _) hU
          have hU64 := pow_le64 hUlt h2
          clear hU hUlt
          by_cases hlt : j < l.length
          · obtain ⟨g, o, rfl, hg, hc⟩ := Hr.out (by omega)
            have c0 : wr.cell? ⟨g, o + j, none⟩ = some (.int .i64 (l.getD j 0)) := (hT.some (hc j hlt) id)
            have hmem : l.getD j 0 ∈ l := by simp [List.getD, List.getElem?_eq_getElem hlt]
            have hx := Hb.out _ hmem
            have Hn := Lib.hid (addAll_take l 0 j hlt)
            clear hc hmem hT
            generalize l.getD j 0 = x at c0 hx Hn
            obtain ⟨b1, b2⟩ := hx
            obtain ⟨m, rfl⟩ : ∃ m : Nat, x = m := ⟨x.toNat, by omega⟩
            obtain ⟨d0, d1, d2, d3, dU, dL, g3, gU, gL, -, -, -⟩ := hA
            simp only at d1 dU gU
            go_wp2_with fail
            refine (has_any U m a.u a.cu _ (by omega) hU64 dU).mono ?_
            rintro e w1 ⟨rfl, rfl⟩
            cases hb : U.testBit m with
            | true =>
              go_wp2_with fail
              go_ret2
              have e1 : addAll 0 l = none := addAll_none l 0 (j + 1) (by rw [Hn.out, HU.out]; simp [hb])
              exact ⟨HT2.out, .inl ⟨e1, rfl⟩⟩
            | false =>
              go_wp2_with fail
              refine (add_any U m a.u a.cu _ (by omega) hU64 dU gU).mono ?_
              rintro e w1 ⟨rfl, rfl⟩
              go_wp2_with fail
              go_roundw
              case rel =>
                refine ⟨j + 1, U ||| 2 ^ m, by omega, by go_num, by rw [Hn.out, HU.out]; simp [hb], (HA2.out.setU _).drew, (HT2.out.setCell _ _ (fun hh => ?_)).drew⟩
                simp at hh; omega
              case measure => simp [intOf]; omega
          · obtain rfl : j = l.length := by omega
            go_wp2_with fail
            go_ret2
            have e1 : addAll 0 l = some U := by have := HU.out; rwa [List.take_length] at this
            exact ⟨HT2.out, .inr ⟨U, e1, a, rfl, ha1, ha2, ha3, HA2.out⟩⟩

end Go.Proofs.YtfkmjepbckafdaaDoor
