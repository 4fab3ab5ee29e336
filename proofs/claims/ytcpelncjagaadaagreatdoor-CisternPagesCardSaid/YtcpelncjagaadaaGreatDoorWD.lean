/-
  Items; check; Encode.
-/
import Derived.Test.YtcpelncjagaadaaGreatDoorWC
import Derived.Lib.AppendStr
namespace Go.Proofs.YtcpelncjagaadaaGreatDoor
open Go.RowKit

attribute [local go_sem ↓] Go.wp_at_zero Go.wp_at_succ

/-- An item: a number from 0 on, or a text. -/
inductive Itm where
  | num (n : Nat)
  | txt (s : ByteArray)

def Itm.kind : Itm → Int
  | .num _ => 1
  | .txt _ => 2
def Itm.n : Itm → Int
  | .num n => n
  | .txt _ => 0
def Itm.s : Itm → ByteArray
  | .num _ => ⟨#[]⟩
  | .txt s => s
def Itm.cells (i : Itm) : List Value := [.int .i64 i.kind, .int .i64 i.n, .string i.s]
def itemCells (l : List Itm) : List Value := l.flatMap Itm.cells
/-- What an item may be. -/
def Itm.ok : Itm → Prop
  | .num n => n < 9223372036854775808
  | .txt s => s.size ≤ 50000

/-- The bytes of a text. -/
def sB (s : ByteArray) : List Nat := s.data.toList.map UInt8.toNat
theorem sB_length (s : ByteArray) : (sB s).length = s.size := by simp [sB]
theorem sB_cells (s : ByteArray) : u8s (sB s) = Lib.strCells s := by simp [u8s, sB, Lib.strCells]
theorem sB_lt (s : ByteArray) : ∀ b ∈ sB s, b < 256 := by
  intro b hb
  simp only [sB, List.mem_map] at hb
  obtain ⟨x, -, rfl⟩ := hb
  exact x.toNat_lt

/-- The bytes of an item, of items. -/
def Itm.enc : Itm → List Nat
  | .num n => 1 :: le n 8
  | .txt s => 2 :: (le s.size 2 ++ sB s)
def enc (l : List Itm) : List Nat := l.flatMap Itm.enc
theorem enc_take (l : List Itm) (j : Nat) (h : j < l.length) : enc (l.take (j + 1)) = enc (l.take j) ++ (l[j]).enc := by
  unfold enc
  rw [List.take_add_one, List.getElem?_eq_getElem h]
  simp only [Option.toList_some]
  rw [List.flatMap_append]
  simp
theorem enc_lt (l : List Itm) : ∀ b ∈ enc l, b < 256 := by
  intro b hb
  simp only [enc, List.mem_flatMap] at hb
  obtain ⟨i, -, hb⟩ := hb
  cases i with
  | num n =>
    simp only [Itm.enc, List.mem_cons] at hb
    rcases hb with rfl | hb
    · decide
    · exact le_lt _ _ b hb
  | txt s =>
    simp only [Itm.enc, List.mem_cons, List.mem_append] at hb
    rcases hb with rfl | hb | hb
    · decide
    · exact le_lt _ _ b hb
    · exact sB_lt s b hb
theorem enc_take_le (l : List Itm) (j : Nat) : (enc (l.take j)).length ≤ (enc l).length := by
  unfold enc
  have e : l.flatMap Itm.enc = (l.take j).flatMap Itm.enc ++ (l.drop j).flatMap Itm.enc := by rw [← List.flatMap_append, List.take_append_drop]
  rw [e, List.length_append]; omega

/-- A list of items that a slice shows. -/
def Items (v : Value) (l : List Itm) (w : World) : Prop :=
  ∃ ao cap, v = .slice ao l.length cap ∧ (0 < l.length → ∃ g o, ao = some ⟨g, o, none⟩ ∧ g < w.heap.size ∧ ∀ j (h : j < l.length),
    w.cell? ⟨g, o + j * 3, none⟩ = some (.int .i64 (l[j]).kind) ∧ w.cell? ⟨g, o + j * 3 + 1, none⟩ = some (.int .i64 (l[j]).n) ∧ w.cell? ⟨g, o + j * 3 + 2, none⟩ = some (.string (l[j]).s))
theorem Items.touch {v : Value} {l : List Itm} {S : Nat → Prop} {w w' : World} (h : Items v l w) (ht : Touch S w w') (hS : ∀ g, v.ownBlock = some g → ¬ S g) : Items v l w' := by
  obtain ⟨ao, cap, rfl, h⟩ := h
  refine ⟨ao, cap, rfl, fun hp => ?_⟩
  obtain ⟨g, o, rfl, hg, hc⟩ := h hp
  refine ⟨g, o, rfl, Nat.lt_of_lt_of_le hg ht.size, fun j hj => ?_⟩
  obtain ⟨c0, c1, c2⟩ := hc j hj
  have hn := hS g rfl
  exact ⟨ht.val c0 hn, ht.val c1 hn, ht.val c2 hn⟩
theorem Items.fresh {v : Value} {l : List Itm} {w w' : World} (h : Items v l w) (ht : Fresh w w') : Items v l w' := h.touch ht (fun _ _ h => h)

theorem itemCells_length (l : List Itm) : (itemCells l).length = l.length * 3 := by
  induction l with
  | nil => rfl
  | cons a l ih =>
    have : itemCells (a :: l) = a.cells ++ itemCells l := rfl
    rw [this, List.length_append, ih, List.length_cons]
    simp [Itm.cells]; omega
theorem itemCells_at (l : List Itm) : ∀ (j : Nat) (h : j < l.length), (itemCells l)[j * 3]? = some (.int .i64 (l[j]).kind) ∧ (itemCells l)[j * 3 + 1]? = some (.int .i64 (l[j]).n) ∧ (itemCells l)[j * 3 + 2]? = some (.string (l[j]).s) := by
  induction l with
  | nil => intro j h; simp at h
  | cons a l ih =>
    intro j h
    have e : itemCells (a :: l) = a.cells ++ itemCells l := rfl
    have hl : a.cells.length = 3 := rfl
    cases j with
    | zero => rw [e]; simp [Itm.cells]
    | succ j =>
      obtain ⟨h0, h1, h2⟩ := ih j (by simpa using h)
      rw [e]
      refine ⟨?_, ?_, ?_⟩
      · rw [List.getElem?_append_right (by omega), hl, show (j + 1) * 3 - 3 = j * 3 by omega]; exact h0
      · rw [List.getElem?_append_right (by omega), hl, show (j + 1) * 3 + 1 - 3 = j * 3 + 1 by omega]; exact h1
      · rw [List.getElem?_append_right (by omega), hl, show (j + 1) * 3 + 2 - 3 = j * 3 + 2 by omega]; exact h2
theorem Items.own {base : Nat} {v : Value} {l : List Itm} {w : World} (h : w.ownsRow base 108 3 v l.length (itemCells l)) : Items v l w := by
  have hlt := h.lt
  rcases h.2 with ⟨rfl, hn⟩ | ⟨g, cap, cur, rfl, hb, hg, hnc, hrest⟩
  · exact ⟨none, 0, by rw [hn], fun hp => by omega⟩
  · refine ⟨_, cap, rfl, fun hp => ⟨g, 0, rfl, (hlt g rfl).2, fun j hj => ?_⟩⟩
    obtain ⟨h0, h1, h2⟩ := itemCells_at l j hj
    rw [Nat.zero_add, World.ownsRow.cellAt h (j * 3) (by omega), World.ownsRow.cellAt h (j * 3 + 1) (by omega), World.ownsRow.cellAt h (j * 3 + 2) (by omega)]
    exact ⟨h0, h1, h2⟩

theorem long_any (i : Itm) (w : World) (h : i.ok) : Calls Tryz.prog 95 #[.agg #[.int .i64 i.kind, .int .i64 i.n, .string i.s]] w fun e w' => e = .returned (.bool false) ∧ Fresh w w' := by
  cases i with
  | num n =>
    simp only [Itm.kind, Itm.n, Itm.s]
    go_enter Tryz.func95, Tryz.ntmps95
    go_wp2_with fail
    go_ret
    exact ⟨rfl, (Touch.refl _ w).alloc _⟩
  | txt s =>
    have hs : s.size ≤ 50000 := h
    have hb : decide ((50000 : Int) < (s.size : Int)) = false := by simp; omega
    clear h
    simp only [Itm.kind, Itm.n, Itm.s]
    go_enter Tryz.func95, Tryz.ntmps95
    go_wp2_with fail
    go_ret
    exact ⟨rfl, (Touch.refl _ w).alloc _⟩

set_option maxHeartbeats 1000000 in
theorem indexFunc_any (v : Value) (l : List Itm) (w : World) (hl : l.length ≤ 4000) (hok : ∀ i ∈ l, i.ok) (h : Items v l w) :
    Calls Tryz.prog 105 #[v, .func (.func 95) #[] #[]] w fun e w' => e = .returned (.int .i64 (-1)) ∧ Fresh w w' := by
  obtain ⟨ao, cap, rfl, hr⟩ := h
  have Hr := Lib.hid hr
  have HO := Lib.hid hok
  clear hr hok
  go_enter Tryz.func105, Tryz.ntmps105
  go_wp2_with fail
  go_loopw [8] (fun i wr => ∃ j : Nat, j ≤ l.length ∧ i = .int .i64 j ∧ Fresh w wr) (fun i _ => l.length - (intOf i).toNat)
  case atStart => exact ⟨0, Nat.zero_le _, rfl, Touch.refl _ _⟩
  case round =>
    obtain ⟨j, hj, rfl, ht⟩ := hrel
    have HT := Lib.hid ht
    clear ht
    by_cases hlt : j < l.length
    · obtain ⟨g, o, rfl, hg, hc⟩ := Hr.out (by omega)
      obtain ⟨c0, c1, c2⟩ := hc j hlt
      have d0 := HT.out.val c0 id
      have d1 := HT.out.val c1 id
      have d2 := HT.out.val c2 id
      have hi := Lib.hid (HO.out _ (List.getElem_mem hlt))
      clear hc c0 c1 c2
      generalize l[j] = it at d0 d1 d2 hi
      go_wp2_with fail
      refine (long_any it _ hi.out).mono ?_
      rintro e w1 ⟨rfl, ht1⟩
      have H1 := Lib.hid (HT.out.both ht1)
      clear ht1
      go_wp2_with fail
      go_roundw
      case rel => exact ⟨j + 1, by omega, by go_num, H1.out⟩
      case measure => simp [intOf]; omega
    · obtain rfl : j = l.length := by omega
      go_wp2_with fail
      go_ret
      exact ⟨rfl, HT.out⟩

theorem containsFunc_any (v : Value) (l : List Itm) (w : World) (hl : l.length ≤ 4000) (hok : ∀ i ∈ l, i.ok) (h : Items v l w) :
    Calls Tryz.prog 96 #[v, .func (.func 95) #[] #[]] w fun e w' => e = .returned (.bool false) ∧ Fresh w w' := by
  have HO := Lib.hid (And.intro hok h)
  clear hok h
  go_enter Tryz.func96, Tryz.ntmps96
  go_wp2_with fail
  refine (indexFunc_any v l _ hl HO.out.1 HO.out.2).mono ?_
  rintro e w1 ⟨rfl, ht⟩
  have HT := Lib.hid ht
  clear ht
  go_wp2_with fail
  go_ret
  exact ⟨rfl, HT.out⟩

set_option maxHeartbeats 1000000 in
theorem check_any (v : Value) (l : List Itm) (w : World) (hl : l.length ≤ 4000) (hok : ∀ i ∈ l, i.ok) (h : Items v l w) :
    Calls Tryz.prog 81 #[v] w fun e w' => e = .returned (.int .i64 0) ∧ Fresh w w' := by
  have HI := Lib.hid h
  obtain ⟨ao, cap, rfl, hr⟩ := h
  have Hr := Lib.hid hr
  have HO := Lib.hid hok
  clear hr hok
  go_enter Tryz.func81, Tryz.ntmps81
  go_wp2_with fail
  refine (containsFunc_any _ l _ hl HO.out HI.out).mono ?_
  rintro e w1 ⟨rfl, ht⟩
  have H1 := Lib.hid ht
  clear ht
  go_wp2_with fail
  go_loopw [16] (fun i wr => ∃ j : Nat, j ≤ l.length ∧ i = .int .i64 j ∧ Fresh w wr) (fun i _ => l.length - (intOf i).toNat)
  case atStart => exact ⟨0, Nat.zero_le _, rfl, H1.out⟩
  case round =>
    obtain ⟨j, hj, rfl, ht⟩ := hrel
    have HT := Lib.hid ht
    clear ht
    by_cases hlt : j < l.length
    · obtain ⟨g, o, rfl, hg, hc⟩ := Hr.out (by omega)
      obtain ⟨c0, c1, c2⟩ := hc j hlt
      have d0 := HT.out.val c0 id
      have d1 := HT.out.val c1 id
      have d2 := HT.out.val c2 id
      clear hc c0 c1 c2
      generalize l[j] = it at d0 d1 d2
      have H2 := Lib.hid (HT.out.alloc (.cells #[.int .i64 it.kind, .int .i64 it.n, .string it.s] 108))
      cases it with
      | num n =>
        simp only [Itm.kind, Itm.n, Itm.s] at d0 d1 d2 H2
        go_wp2_with fail
        go_roundw
        case rel => exact ⟨j + 1, by omega, by go_num, H2.out⟩
        case measure => simp [intOf]; omega
      | txt s =>
        simp only [Itm.kind, Itm.n, Itm.s] at d0 d1 d2 H2
        go_wp2_with fail
        go_roundw
        case rel => exact ⟨j + 1, by omega, by go_num, H2.out⟩
        case measure => simp [intOf]; omega
    · obtain rfl : j = l.length := by omega
      go_wp2_with fail
      go_ret
      exact ⟨rfl, HT.out⟩

end Go.Proofs.YtcpelncjagaadaaGreatDoor
