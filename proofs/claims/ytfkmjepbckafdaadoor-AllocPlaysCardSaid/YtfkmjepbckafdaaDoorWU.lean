/-
  alloc.New, the reference's New, for lists of any length that came in.
-/
import Derived.Test.YtfkmjepbckafdaaDoorWT
namespace Go.Proofs.YtfkmjepbckafdaaDoor
open Go.RowKit

attribute [local go_sem ↓] Go.wp_at_zero Go.wp_at_succ

set_option maxHeartbeats 1000000 in
/-- .. or one of the used ones is none. -/
theorem new_bad_long (n : Int) (v : Value) (l : List Int) (w : World) (h1 : 1 ≤ n) (h2 : n ≤ 4096) (hl : l.length ≤ 17592186044416) (hv : Reads v l w) (hb : ¬ ∀ x ∈ l, 0 ≤ x ∧ x < n) :
    Calls Tryd.prog 9 #[.int .i64 n, v] w fun e w' => e = .returned (.tuple #[.pointer none, .int .i64 1]) ∧ w = w' := by
  obtain ⟨ao, cap, rfl, hr⟩ := hv
  have Hr := Lib.hid hr
  have Hb := Lib.hid hb
  clear hr hb
  go_enter Tryd.func9, Tryd.ntmps9
  go_wp2_with fail
  go_loopw [20] (fun i wr => ∃ j : Nat, j ≤ l.length ∧ i = .int .i64 j ∧ wr = w ∧ ∀ x ∈ l.take j, 0 ≤ x ∧ x < n) (fun i _ => l.length - (intOf i).toNat)
  case atStart => exact ⟨0, Nat.zero_le _, rfl, rfl, by simp⟩
  case round =>
    obtain ⟨j, hj, rfl, rfl, hx⟩ := hrel
    have Hx := Lib.hid hx
    clear hx
    by_cases hlt : j < l.length
    · obtain ⟨g, o, rfl, hg, hc⟩ := Hr.out (by omega)
      have c0 := hc j hlt
      have hmem : l.getD j 0 ∈ l := by simp [List.getD, List.getElem?_eq_getElem hlt]
      have htk := take_next l j hlt
      have Htk := Lib.hid (And.intro hmem htk)
      clear hc hmem htk
      generalize l.getD j 0 = x at c0 Htk
      by_cases b1 : x < 0
      · go_wp2_with fail
        go_ret2
        exact ⟨rfl, rfl⟩
      · by_cases b2 : n ≤ x
        · go_wp2_with fail
          go_ret2
          exact ⟨rfl, rfl⟩
        · go_wp2_with fail
          go_roundw
          case rel =>
            refine ⟨j + 1, by omega, by go_num, trivial, fun y hy => ?_⟩
            rw [Htk.out.2, List.mem_append] at hy
            rcases hy with hy | hy
            · exact Hx.out y hy
            · simp at hy; subst hy; omega
          case measure => simp [intOf]; omega
    · obtain rfl : j = l.length := by omega
      exact absurd (by simpa using Hx.out) Hb.out

set_option maxHeartbeats 2000000 in
theorem new_good_long (n : Nat) (v : Value) (l : List Int) (w : World) (h1 : 1 ≤ n) (h2 : n ≤ 64) (hl : l.length ≤ 17592186044416) (hv : Reads v l w) (hb : ∀ x ∈ l, 0 ≤ x ∧ x < n) :
    Calls Tryd.prog 9 #[.int .i64 n, v] w fun e w' => NewGot n l w e w' := by
  obtain ⟨ao, cap, rfl, hr⟩ := hv
  have Hr := Lib.hid hr
  have Hb := Lib.hid hb
  have q1 : Int.tdiv ((n : Int) + 63) 64 = 1 := by rw [Int.tdiv_eq_ediv_of_nonneg (by omega)]; omega
  clear hr hb
  go_enter Tryd.func9, Tryd.ntmps9
  go_wp2_with fail
  go_loopw [20] (fun i wr => ∃ j : Nat, j ≤ l.length ∧ i = .int .i64 j ∧ w = wr) (fun i _ => l.length - (intOf i).toNat)
  case atStart => exact ⟨0, Nat.zero_le _, rfl, rfl⟩
  case round =>
    obtain ⟨j, hj, rfl, rfl⟩ := hrel
    by_cases hlt : j < l.length
    · obtain ⟨g, o, rfl, hg, hc⟩ := Hr.out (by omega)
      have c0 := hc j hlt
      have hmem : l.getD j 0 ∈ l := by simp [List.getD, List.getElem?_eq_getElem hlt]
      have hx := Hb.out _ hmem
      clear hc hmem
      generalize l.getD j 0 = x at c0 hx
      obtain ⟨b1, b2⟩ := hx
      go_wp2_with fail
      go_roundw
      case rel => exact ⟨j + 1, by omega, by go_num, trivial⟩
      case measure => simp [intOf]; omega
    · obtain rfl : j = l.length := by omega
      have hm := fun w => make49 w
      go_upto_region 10 with fail
      go_cut [9] (fun s wx => ∃ a : Loc, s = .pointer (some ⟨a.p, 0, none⟩) ∧ w.heap.size ≤ a.p ∧ w.heap.size ≤ a.u ∧ w.heap.size ≤ a.l ∧ At a ⟨n, 0, 0, 0⟩ wx ∧ Touch (fun _ => False) w wx)
      case first =>
        go_region
        · go_wp2_with fail
          go_meet
          exact ⟨⟨w.heap.size + 1 + 1, w.heap.size, w.heap.size + 1, 1, 1⟩, rfl, by simp; omega, by simp, by simp, (At.new n w).drew, ((((Touch.refl _ w).alloc _).alloc _).alloc _).drew⟩
        · go_wp2_with fail
          go_meet
          exact ⟨⟨w.heap.size + 1 + 1, w.heap.size + 1, w.heap.size, 1, 1⟩, rfl, by simp; omega, by simp, by simp, (At.new' n w).drew, ((((Touch.refl _ w).alloc _).alloc _).alloc _).drew⟩
      case rest =>
        obtain ⟨a, rfl, ha1, ha2, ha3, hA, hT⟩ := hcut
        have HT := Lib.hid hT
        have HA := Lib.hid hA
        clear hA hT
        go_wp2_with fail
        go_loopw [44] (fun i wx => ∃ j U : Nat, j ≤ l.length ∧ i = .int .i64 j ∧ addAll 0 (l.take j) = some U ∧ At a ⟨n, U, 0, 0⟩ wx ∧ Touch (fun _ => False) w wx) (fun i _ => l.length - (intOf i).toNat)
        case atStart => exact ⟨0, 0, Nat.zero_le _, rfl, by simp [addAll], HA.out, HT.out⟩
        case round =>
          obtain ⟨j, U, hj, rfl, hU, hA, hT⟩ := hrel
          have HT2 := Lib.hid hT
          have HA2 := Lib.hid hA
          have HU := Lib.hid hU
          have hUlt := addAll_lt _ 0 U n (fun x hx => Hb.out x (List.mem_of_mem_take hx)) (Nat.two_pow_pos _) hU
          have hU64 := pow_le64 hUlt h2
          clear hU hUlt
          by_cases hlt : j < l.length
          · obtain ⟨g, o, rfl, hg, hc⟩ := Hr.out (by omega)
            have c0 : wr.cell? ⟨g, o + j, none⟩ = some (.int .i64 (l.getD j 0)) := (hT.some (hc j hlt) id)
            have hmem : l.getD j 0 ∈ l := by simp [List.getD, List.getElem?_eq_getElem hlt]
            have hx := Hb.out _ hmem
            have Hn := Lib.hid (addAll_take l 0 j hlt)
            clear hc hmem hT
            generalize l.getD j 0 = x at c0 hx Hn
            obtain ⟨b1, b2⟩ := hx
            obtain ⟨m, rfl⟩ : ∃ m : Nat, x = m := ⟨x.toNat, by omega⟩
            obtain ⟨d0, d1, d2, d3, dU, dL, g3, gU, gL, -, -, -⟩ := hA
            simp only at d1 dU gU
            go_wp2_with fail
            refine (has_any U m a.u a.cu _ (by omega) hU64 dU).mono ?_
            rintro e w1 ⟨rfl, rfl⟩
            cases hb : U.testBit m with
            | true =>
              go_wp2_with fail
              go_ret2
              have e1 : addAll 0 l = none := addAll_none l 0 (j + 1) (by rw [Hn.out, HU.out]; simp [hb])
              exact ⟨HT2.out, .inl ⟨e1, rfl⟩⟩
            | false =>
              go_wp2_with fail
              refine (add_any U m a.u a.cu _ (by omega) hU64 dU gU).mono ?_
              rintro e w1 ⟨rfl, rfl⟩
              go_wp2_with fail
              go_roundw
              case rel =>
                refine ⟨j + 1, U ||| 2 ^ m, by omega, by go_num, by rw [Hn.out, HU.out]; simp [hb], (HA2.out.setU _).drew, (HT2.out.setCell _ _ (fun hh => ?_)).drew⟩
                simp at hh; omega
              case measure => simp [intOf]; omega
          · obtain rfl : j = l.length := by omega
            go_wp2_with fail
            go_ret2
            have e1 : addAll 0 l = some U := by have := HU.out; rwa [List.take_length] at this
            exact ⟨HT2.out, .inr ⟨U, e1, a, rfl, ha1, ha2, ha3, HA2.out⟩⟩


theorem rnew_wide (n : Int) (v : Value) (w : World) (h : n < 1 ∨ 4096 < n) :
    Calls Tryd.prog 19 #[.int .i64 n, v] w fun e w' => e = .returned (.tuple #[.pointer none, .int .i64 1]) ∧ w = w' := by
  by_cases h1 : n < 1
  · go_enter Tryd.func19, Tryd.ntmps19
    go_wp2_with fail
    go_ret2
    exact ⟨rfl, rfl⟩
  · have h2 : 4096 < n := by omega
    clear h
    go_enter Tryd.func19, Tryd.ntmps19
    go_wp2_with fail
    go_ret2
    exact ⟨rfl, rfl⟩

set_option maxHeartbeats 1000000 in
theorem rnew_bad (n : Int) (v : Value) (l : List Int) (w : World) (h1 : 1 ≤ n) (h2 : n ≤ 4096) (hl : l.length ≤ 17592186044416) (hv : Reads v l w) (hb : ¬ ∀ x ∈ l, 0 ≤ x ∧ x < n) :
    Calls Tryd.prog 19 #[.int .i64 n, v] w fun e w' => e = .returned (.tuple #[.pointer none, .int .i64 1]) ∧ w = w' := by
  obtain ⟨ao, cap, rfl, hr⟩ := hv
  have Hr := Lib.hid hr
  have Hb := Lib.hid hb
  clear hr hb
  go_enter Tryd.func19, Tryd.ntmps19
  go_wp2_with fail
  go_loopw [6] (fun i wr => ∃ j : Nat, j ≤ l.length ∧ i = .int .i64 j ∧ w = wr ∧ ∀ x ∈ l.take j, 0 ≤ x ∧ x < n) (fun i _ => l.length - (intOf i).toNat)
  case atStart => exact ⟨0, Nat.zero_le _, rfl, rfl, by simp⟩
  case round =>
    obtain ⟨j, hj, rfl, rfl, hx⟩ := hrel
    have Hx := Lib.hid hx
    clear hx
    by_cases hlt : j < l.length
    · obtain ⟨g, o, rfl, hg, hc⟩ := Hr.out (by omega)
      have c0 := hc j hlt
      have hmem : l.getD j 0 ∈ l := by simp [List.getD, List.getElem?_eq_getElem hlt]
      have htk := take_next l j hlt
      have Htk := Lib.hid (And.intro hmem htk)
      clear hc hmem htk
      generalize l.getD j 0 = x at c0 Htk
      by_cases b1 : x < 0
      · go_wp2_with fail
        go_ret2
        exact ⟨rfl, rfl⟩
      · by_cases b2 : n ≤ x
        · go_wp2_with fail
          go_ret2
          exact ⟨rfl, rfl⟩
        · go_wp2_with fail
          go_roundw
          case rel =>
            refine ⟨j + 1, by omega, by go_num, trivial, fun y hy => ?_⟩
            rw [Htk.out.2, List.mem_append] at hy
            rcases hy with hy | hy
            · exact Hx.out y hy
            · simp at hy; subst hy; omega
          case measure => simp [intOf]; omega
    · obtain rfl : j = l.length := by omega
      exact absurd (by simpa using Hx.out) Hb.out

/-- What the reference's New ends in. -/
structure RNewGot (n : Nat) (l : List Int) (w : World) (e : Ending) (w' : World) : Prop where
  touch : Touch (fun _ => False) w w'
  got : (addAll 0 l = none ∧ e = .returned (.tuple #[.pointer none, .int .i64 8])) ∨
    ∃ U, addAll 0 l = some U ∧ ∃ q : RLoc, e = .returned (.tuple #[.pointer (some ⟨q.p, 0, none⟩), .int .i64 0]) ∧ w.heap.size ≤ q.p ∧ w.heap.size ≤ q.g ∧ RAt q ⟨n, U, 0, 0⟩ w'

theorem held_plain (n U b i : Nat) : heldOf ⟨n, U, 0, b⟩ i = if U.testBit i then 1 else 0 := by
  unfold heldOf; simp

theorem rat_new (n : Nat) (w : World) : RAt ⟨w.heap.size + 1, w.heap.size⟩ ⟨n, 0, 0, 0⟩ ((w.alloc (.cells (madeCells #[.int .i64 0] n) 3)).alloc (.cells #[.slice (some ⟨w.heap.size, 0, none⟩) n n, .int .i64 0] 56)) := by
  have h1 := cells_made n w
  have h2 : Cells w.heap.size n (fun _ => 0) ((w.alloc (.cells (madeCells #[.int .i64 0] n) 3)).alloc (.cells #[.slice (some ⟨w.heap.size, 0, none⟩) n n, .int .i64 0] 56)) := h1.touch (S := fun _ => False) ((Touch.refl _ _).alloc _) id
  refine ⟨?_, ?_, ?_, ⟨h2.lt, fun j hj => by rw [h2.cell j hj, held_plain]; simp, h2.soft⟩, by show w.heap.size + 1 ≠ w.heap.size; omega⟩
  · simp [go_sem]
  · simp [go_sem]
  · simp [go_sem]

theorem held_add (n U m b : Nat) (hm : m < n) : ∀ i, i < n → heldOf ⟨n, U ||| 2 ^ m, 0, b⟩ i = if i = m then 1 else heldOf ⟨n, U, 0, b⟩ i := by
  intro i _
  rw [held_plain, held_plain, Bt.or_bit]
  by_cases e : i = m
  · subst e; simp
  · simp [e, Ne.symm e]

set_option maxHeartbeats 2000000 in
theorem rnew_good (n : Nat) (v : Value) (l : List Int) (w : World) (h1 : 1 ≤ n) (h2 : n ≤ 64) (hl : l.length ≤ 17592186044416) (hv : Reads v l w) (hb : ∀ x ∈ l, 0 ≤ x ∧ x < n) :
    Calls Tryd.prog 19 #[.int .i64 n, v] w fun e w' => RNewGot n l w e w' := by
  obtain ⟨ao, cap, rfl, hr⟩ := hv
  have Hr := Lib.hid hr
  have Hb := Lib.hid hb
  clear hr hb
  go_enter Tryd.func19, Tryd.ntmps19
  go_wp2_with fail
  go_loopw [6] (fun i wr => ∃ j : Nat, j ≤ l.length ∧ i = .int .i64 j ∧ w = wr) (fun i _ => l.length - (intOf i).toNat)
  case atStart => exact ⟨0, Nat.zero_le _, rfl, rfl⟩
  case round =>
    obtain ⟨j, hj, rfl, rfl⟩ := hrel
    by_cases hlt : j < l.length
    · obtain ⟨g, o, rfl, hg, hc⟩ := Hr.out (by omega)
      have c0 := hc j hlt
      have hmem : l.getD j 0 ∈ l := by simp [List.getD, List.getElem?_eq_getElem hlt]
      have hx := Hb.out _ hmem
      clear hc hmem
      generalize l.getD j 0 = x at c0 hx
      obtain ⟨b1, b2⟩ := hx
      go_wp2_with fail
      go_roundw
      case rel => exact ⟨j + 1, by omega, by go_num, trivial⟩
      case measure => simp [intOf]; omega
    · obtain rfl : j = l.length := by omega
      have hmk := make22 n (by omega) w
      go_upto_region 9 with fail
      have HR := Lib.hid (And.intro (rat_new n w) (((Touch.refl (fun _ => False) w).alloc (.cells (madeCells #[.int .i64 0] n) 3)).alloc (.cells #[.slice (some ⟨w.heap.size, 0, none⟩) n n, .int .i64 0] 56)))
      clear hmk
      go_wp2_with fail
      go_loopw [8] (fun i wx => ∃ j U : Nat, j ≤ l.length ∧ i = .int .i64 j ∧ addAll 0 (l.take j) = some U ∧ RAt ⟨w.heap.size + 1, w.heap.size⟩ ⟨n, U, 0, 0⟩ wx ∧ Touch (fun _ => False) w wx) (fun i _ => l.length - (intOf i).toNat)
      case atStart => exact ⟨0, 0, Nat.zero_le _, rfl, by simp [addAll], HR.out.1, HR.out.2⟩
      case round =>
        obtain ⟨j, U, hj, rfl, hU, hA, hT⟩ := hrel
        have H := Lib.hid (And.intro hU (And.intro hA hT))
        by_cases hlt : j < l.length
        · obtain ⟨g, o, rfl, hg, hc⟩ := Hr.out (by omega)
          have c0 : wr.cell? ⟨g, o + j, none⟩ = some (.int .i64 (l.getD j 0)) := (hT.some (hc j hlt) id)
          have hmem : l.getD j 0 ∈ l := by simp [List.getD, List.getElem?_eq_getElem hlt]
          have hx := Hb.out _ hmem
          have Hn := Lib.hid (addAll_take l 0 j hlt)
          clear hc hmem hT hU
          generalize l.getD j 0 = x at c0 hx Hn
          obtain ⟨b1, b2⟩ := hx
          obtain ⟨m, rfl⟩ : ∃ m : Nat, x = m := ⟨x.toNat, by omega⟩
          have hm : m < n := by omega
          have k0 := hA.c0
          have k1 := hA.row.cell m hm
          have k2 := hA.row.soft m hm
          rw [held_plain] at k1
          have n1 : w.heap.size ≠ g := by omega
          have n2 : w.heap.size ≠ w.heap.size + 1 := by omega
          have i1 : (0 : Int) ≤ (m : Int) := by omega
          have i3 : (0 : Int) ≤ (j : Int) := by omega
          have i4 : (j : Int) < (l.length : Int) := by omega
          clear hA
          simp only at k0 k1 k2
          cases hb : U.testBit m with
          | true =>
            rw [hb] at k1
            simp only [if_true] at k1
            have e1 : addAll 0 l = none := addAll_none l 0 (j + 1) (by rw [Hn.out, H.out.1]; simp [hb])
            have E1 := Lib.hid e1
            clear e1 hb
            go_wp2_with fail
            go_quiet (fail)
            go_wp2_with fail
            go_ret2
            exact ⟨H.out.2.2.drewN _, .inl ⟨E1.out, rfl⟩⟩
          | false =>
            rw [hb] at k1
            have R : Hid (addAll 0 (l.take (j + 1)) = some (U ||| 2 ^ m) ∧ RAt ⟨w.heap.size + 1, w.heap.size⟩ ⟨n, U ||| 2 ^ m, 0, 0⟩ (wr.setCell ⟨w.heap.size, m, none⟩ (.int .i64 1)) ∧ Touch (fun _ => False) w (wr.setCell ⟨w.heap.size, m, none⟩ (.int .i64 1))) :=
              Lib.hid ⟨by rw [Hn.out, H.out.1]; simp [hb], RAt.set (s' := ⟨n, U ||| 2 ^ m, 0, 0⟩) H.out.2.1 rfl rfl hm 1 (held_add n U m 0 hm), H.out.2.2.setCell _ _ (fun hh => by simp at hh)⟩
            clear hb
            simp only [Bool.false_eq_true, if_false] at k1
            go_wp2_with fail
            go_quiet (fail)
            go_wp2_with fail
            go_region_held3 (fun w' => w'.cell? ⟨w.heap.size + 1, 0, none⟩ = some (.slice (some ⟨w.heap.size, 0, none⟩) n n) ∧ w'.cell? ⟨g, o + j, none⟩ = some (.int .i64 m))
              (first | go_keep | exact ⟨(cell_far2 (w := wr) n2).trans k0, (cell_far2 (w := wr) n1).trans c0⟩)
              (fail)
            go_wp2_with fail
            go_roundw
            case rel => exact ⟨j + 1, _, by omega, by go_num, R.out.1, R.out.2.1.touch (S := fun _ => False) ((Touch.refl _ _).drewN _) id id, R.out.2.2.drewN _⟩
            case measure => simp [intOf]; omega
        · obtain rfl : j = l.length := by omega
          clear hA hT hU
          go_wp2_with fail
          go_ret2
          have e1 : addAll 0 l = some U := by have := H.out.1; rwa [List.take_length] at this
          exact ⟨H.out.2.2, .inr ⟨U, e1, ⟨w.heap.size + 1, w.heap.size⟩, rfl, Nat.le_succ _, Nat.le_refl _, H.out.2.1⟩⟩

end Go.Proofs.YtfkmjepbckafdaaDoor
