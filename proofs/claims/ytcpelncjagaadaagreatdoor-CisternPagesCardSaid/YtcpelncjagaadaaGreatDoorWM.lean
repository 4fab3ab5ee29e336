/-
  record.open.
-/
import Derived.Test.YtcpelncjagaadaaGreatDoorWL
namespace Go.Proofs.YtcpelncjagaadaaGreatDoor
open Go.RowKit

attribute [local go_sem ↓] Go.wp_at_zero Go.wp_at_succ

/-- The items of a record: a kind, numbers, a text if there is one. -/
def recItems (K : Nat) (N : List Nat) : Option ByteArray → List Itm
  | none => .num K :: N.map .num
  | some s => .num K :: (N.map .num ++ [.txt s])
def txtOf : Option ByteArray → ByteArray
  | none => ⟨#[]⟩
  | some s => s
theorem recItems_none (K : Nat) (N : List Nat) : (recItems K N none).length = N.length + 1 := by simp [recItems]
theorem recItems_some (K : Nat) (N : List Nat) (s : ByteArray) : (recItems K N (some s)).length = N.length + 2 := by simp [recItems]
theorem recItems_num (K : Nat) (N : List Nat) (t : Option ByteArray) (j : Nat) (h : j < N.length) : (itemCells (recItems K N t))[(1 + j) * 3]? = some (.int .i64 1) ∧ (itemCells (recItems K N t))[(1 + j) * 3 + 1]? = some (.int .i64 (N.getD j 0 : Nat)) ∧ (itemCells (recItems K N t))[(1 + j) * 3 + 2]? = some (.string ⟨#[]⟩) := by
  have hl : 1 + j < (recItems K N t).length := by
    cases t
    · rw [recItems_none]; omega
    · rw [recItems_some]; omega
  have e : (recItems K N t)[1 + j] = .num (N.getD j 0) := by
    have e0 : (recItems K N t)[1 + j]? = some (.num (N.getD j 0)) := by
      rw [Nat.add_comm]
      cases t
      · simp [recItems, List.getD, h]
      · simp [recItems, List.getD, h, List.getElem?_append_left]
    have := List.getElem?_eq_getElem hl
    rw [e0] at this
    exact (Option.some.inj this).symm
  have := itemCells_at (recItems K N t) (1 + j) hl
  rw [e] at this
  exact this
theorem recItems_first (K : Nat) (N : List Nat) (t : Option ByteArray) : (itemCells (recItems K N t))[0]? = some (.int .i64 1) ∧ (itemCells (recItems K N t))[1]? = some (.int .i64 (K : Nat)) ∧ (itemCells (recItems K N t))[2]? = some (.string ⟨#[]⟩) := by
  cases t <;> exact ⟨rfl, rfl, rfl⟩
theorem recItems_text (K : Nat) (N : List Nat) (s : ByteArray) : (itemCells (recItems K N (some s)))[(N.length + 1) * 3]? = some (.int .i64 2) ∧ (itemCells (recItems K N (some s)))[(N.length + 1) * 3 + 2]? = some (.string s) := by
  have hl : N.length + 1 < (recItems K N (some s)).length := by rw [recItems_some]; omega
  have e : (recItems K N (some s))[N.length + 1] = .txt s := by simp [recItems]
  have := itemCells_at (recItems K N (some s)) (N.length + 1) hl
  rw [e] at this
  exact ⟨this.1, this.2.2⟩

def OpenGot (N : List Nat) (s : ByteArray) (w : World) (e : Ending) (w' : World) : Prop :=
  ∃ v, e = .returned (.tuple #[v, .string s, .int .i64 0]) ∧ w'.ownsRow w.heap.size 3 1 v N.length (i64s N) ∧ Fresh w w'

theorem secB_length {l : List Itm} (h : (enc l).length ≤ 250) : (secB l).length = 256 := frameB_length (by rw [sealB_length]; omega)

theorem i64s_take (N : List Nat) (j : Nat) (h : j < N.length) : i64s (N.take (j + 1)) = i64s (N.take j) ++ [.int .i64 (N.getD j 0 : Nat)] := by
  unfold i64s
  rw [List.take_add_one, List.getElem?_eq_getElem h]
  simp only [Option.toList_some]
  rw [List.map_append]
  simp [List.getD, h]
theorem Tryz.info3 : (Tryz.prog.info? 3).map (fun i => (i.zero, i.size, i.bytes)) = some (some (.int .i64 0), 1, 8) := by kernel_rfl

set_option maxRecDepth 100000 in
set_option maxHeartbeats 4000000 in
theorem open_none (v : Value) (K : Nat) (N : List Nat) (w : World) (hN0 : 0 < N.length) (hN : N.length ≤ 20) (hB : (enc (recItems K N none)).length ≤ 250) (hok : ∀ i ∈ recItems K N none, i.ok) (h : Shows v (secB (recItems K N none)) w) :
    Calls Tryz.prog 57 #[v, .int .i64 K, .int .i64 N.length, .bool false] w (OpenGot N ⟨#[]⟩ w) := by
  obtain ⟨i0, hi, hz0, hz1, hz2⟩ := info_parts Tryz.info3
  have HS := Lib.hid h
  obtain ⟨ao, cap, rfl, -, -⟩ := h
  rw [secB_length hB] at HS ⊢
  have HO := Lib.hid hok
  clear hok
  go_enter Tryz.func57, Tryz.ntmps57
  go_wp2_with fail
  refine (unframe_any _ (sealB (enc (recItems K N none))) _ (by rw [sealB_length]; omega) HS.out).mono ?_
  intro e w1 hg
  obtain ⟨v1, rfl, ho, ht⟩ := hg
  have H1 := Lib.hid (And.intro ho ht)
  have hs1 := ht.size
  clear ho ht
  go_wp2_with fail
  refine (unseal_any v1 _ _ (by rw [recItems_none]; omega) hB HO.out (.own H1.out.1)).mono ?_
  intro e w2 hg
  obtain ⟨v2, rfl, ho, ht⟩ := hg
  obtain ⟨g2, cap2, rfl, hg2, hg2l⟩ := own_slot ho (by rw [recItems_none]; omega)
  have hft := H1.out.2.both ht
  obtain ⟨f0, f1, f2⟩ := recItems_first K N none
  have c0 : w2.cell? ⟨g2, 0, none⟩ = some (.int .i64 1) := by rw [World.ownsRow.cellAt ho 0 (by rw [recItems_none]; omega)]; exact f0
  have c1 : w2.cell? ⟨g2, 1, none⟩ = some (.int .i64 K) := by rw [World.ownsRow.cellAt ho 1 (by rw [recItems_none]; omega)]; exact f1
  have c2 : w2.cell? ⟨g2, 2, none⟩ = some (.string ⟨#[]⟩) := by rw [World.ownsRow.cellAt ho 2 (by rw [recItems_none]; omega)]; exact f2
  have hcap : N.length + 1 ≤ cap2 := by
    rcases ho.2 with ⟨h1, h2⟩ | ⟨g', cap', cur, h1, -, -, hnc, -⟩
    · rw [recItems_none] at h2; omega
    · injection h1 with _ _ h3; subst h3; rw [recItems_none] at hnc; omega
  have H2 := Lib.hid (And.intro ho hft)
  have hs2 := hft.size
  clear ho ht hft f0 f1 f2
  rw [recItems_none] at H2 ⊢
  have hb1 : ((N.length : Int) + 1 != 1 + (N.length : Int)) = false := by simp; omega
  have hbK : ((K : Int) != K) = false := by simp
  go_wp2_with fail
  rw [show 1 + N.length - 1 = N.length by omega]
  go_loopw [15, 60] (fun u i wr => ∃ j : Nat, j ≤ N.length ∧ i = .int .i64 j ∧ wr.ownsRow w2.heap.size 3 1 u j (i64s (N.take j)) ∧ Fresh w2 wr) (fun _ i _ => N.length - (intOf i).toNat)
  case atStart => exact ⟨0, Nat.zero_le _, rfl, World.ownsRow_nil _ _ _ _, Touch.refl _ _⟩
  case round =>
    obtain ⟨j, hj, rfl, hown, ht⟩ := hrel
    have HT := Lib.hid (And.intro hown ht)
    have hs := ht.size
    by_cases hlt : j < N.length
    · obtain ⟨n0, n1, n2⟩ := recItems_num K N none j hlt
      have d0 : wr.cell? ⟨g2, 3 + j * 3, none⟩ = some (.int .i64 1) := ht.val (by rw [World.ownsRow.cellAt H2.out.1 _ (by omega), show 3 + j * 3 = (1 + j) * 3 by omega]; exact n0) id
      have d1 : wr.cell? ⟨g2, 3 + j * 3 + 1, none⟩ = some (.int .i64 (N.getD j 0 : Nat)) := ht.val (by rw [World.ownsRow.cellAt H2.out.1 _ (by omega), show 3 + j * 3 + 1 = (1 + j) * 3 + 1 by omega]; exact n1) id
      have d2 : wr.cell? ⟨g2, 3 + j * 3 + 2, none⟩ = some (.string ⟨#[]⟩) := ht.val (by rw [World.ownsRow.cellAt H2.out.1 _ (by omega), show 3 + j * 3 + 2 = (1 + j) * 3 + 2 by omega]; exact n2) id
      have hC := Lib.hid (i64s_take N j hlt)
      clear n0 n1 n2 hown ht
      generalize N.getD j 0 = x at d1 hC
      have HA := Lib.hid (HT.out.1.alloc (.cells #[.int .i64 1, .int .i64 x, .string ⟨#[]⟩] 108))
      go_wp2_with ((at_builtin; refine wpList_append_own_at _ rfl _ _ 32 rfl w2.heap.size 3 i0 (.int .i64 0) 1 8 Tryz.underlying32 hi hz0 hz1 hz2 rfl (by decide) _ j _ rfl (HA.out.alloc _) ⟨_, 0, none⟩ 1 1 [.int .i64 x] rfl rfl ?c1 ?c2 ?c3 ?c4 ?c5 ?_))
      case c1 => exact one_at2 _ _ _ (by simp)
      case c2 => intro u hu; simp at hu; subst hu; rfl
      case c3 => unfold maxLen; omega
      case c4 => omega
      case c5 => simp; omega
      intro v' w3 hown1 hg1 _ _
      have ht1 : Fresh w2 w3 := ((HT.out.2.alloc (.cells #[.int .i64 1, .int .i64 x, .string ⟨#[]⟩] 108)).alloc _).grown hg1 (fun k hk hlt => by
        have := (HT.out.1.lt k hk).1
        omega)
      have H3 := Lib.hid (And.intro hown1 ht1)
      clear hown1 hg1 ht1
      go_wp2_with fail
      go_roundw
      case rel => exact ⟨j + 1, by omega, by go_num, by rw [hC.out]; exact H3.out.1, H3.out.2⟩
      case measure => simp [intOf]; omega
    · obtain rfl : j = N.length := by omega
      clear hown ht
      have hh := HT.out
      rw [List.take_length] at hh
      have HH := Lib.hid (And.intro (own_base hh.1 hs2) (H2.out.2.both hh.2))
      clear hh HT
      go_wp2_with fail
      go_ret3
      exact ⟨_, rfl, HH.out.1, HH.out.2⟩

set_option maxRecDepth 100000 in
set_option maxHeartbeats 4000000 in
theorem open_some (v : Value) (K : Nat) (N : List Nat) (s : ByteArray) (w : World) (hN0 : 0 < N.length) (hN : N.length ≤ 20) (hB : (enc (recItems K N (some s))).length ≤ 250) (hok : ∀ i ∈ recItems K N (some s), i.ok) (h : Shows v (secB (recItems K N (some s))) w) :
    Calls Tryz.prog 57 #[v, .int .i64 K, .int .i64 N.length, .bool true] w (OpenGot N s w) := by
  obtain ⟨i0, hi, hz0, hz1, hz2⟩ := info_parts Tryz.info3
  have HS := Lib.hid h
  obtain ⟨ao, cap, rfl, -, -⟩ := h
  rw [secB_length hB] at HS ⊢
  have HO := Lib.hid hok
  clear hok
  go_enter Tryz.func57, Tryz.ntmps57
  go_wp2_with fail
  refine (unframe_any _ (sealB (enc (recItems K N (some s)))) _ (by rw [sealB_length]; omega) HS.out).mono ?_
  intro e w1 hg
  obtain ⟨v1, rfl, ho, ht⟩ := hg
  have H1 := Lib.hid (And.intro ho ht)
  have hs1 := ht.size
  clear ho ht
  go_wp2_with fail
  refine (unseal_any v1 _ _ (by rw [recItems_some]; omega) hB HO.out (.own H1.out.1)).mono ?_
  intro e w2 hg
  obtain ⟨v2, rfl, ho, ht⟩ := hg
  obtain ⟨g2, cap2, rfl, hg2, hg2l⟩ := own_slot ho (by rw [recItems_some]; omega)
  have hft := H1.out.2.both ht
  obtain ⟨f0, f1, f2⟩ := recItems_first K N (some s)
  have c0 : w2.cell? ⟨g2, 0, none⟩ = some (.int .i64 1) := by rw [World.ownsRow.cellAt ho 0 (by rw [recItems_some]; omega)]; exact f0
  have c1 : w2.cell? ⟨g2, 1, none⟩ = some (.int .i64 K) := by rw [World.ownsRow.cellAt ho 1 (by rw [recItems_some]; omega)]; exact f1
  have c2 : w2.cell? ⟨g2, 2, none⟩ = some (.string ⟨#[]⟩) := by rw [World.ownsRow.cellAt ho 2 (by rw [recItems_some]; omega)]; exact f2
  have hcap : N.length + 2 ≤ cap2 := by
    rcases ho.2 with ⟨h1, h2⟩ | ⟨g', cap', cur, h1, -, -, hnc, -⟩
    · rw [recItems_some] at h2; omega
    · injection h1 with _ _ h3; subst h3; rw [recItems_some] at hnc; omega
  have H2 := Lib.hid (And.intro ho hft)
  have hs2 := hft.size
  clear ho ht hft f0 f1 f2
  rw [recItems_some] at H2 ⊢
  have hb1 : ((N.length : Int) + 2 != 1 + (N.length : Int) + 1) = false := by simp; omega
  have hbK : ((K : Int) != K) = false := by simp
  go_wp2_with fail
  rw [show 1 + N.length - 1 = N.length by omega]
  go_loopw [15, 60] (fun u i wr => ∃ j : Nat, j ≤ N.length ∧ i = .int .i64 j ∧ wr.ownsRow w2.heap.size 3 1 u j (i64s (N.take j)) ∧ Fresh w2 wr) (fun _ i _ => N.length - (intOf i).toNat)
  case atStart => exact ⟨0, Nat.zero_le _, rfl, World.ownsRow_nil _ _ _ _, Touch.refl _ _⟩
  case round =>
    obtain ⟨j, hj, rfl, hown, ht⟩ := hrel
    have HT := Lib.hid (And.intro hown ht)
    have hs := ht.size
    by_cases hlt : j < N.length
    · obtain ⟨n0, n1, n2⟩ := recItems_num K N (some s) j hlt
      have d0 : wr.cell? ⟨g2, 3 + j * 3, none⟩ = some (.int .i64 1) := ht.val (by rw [World.ownsRow.cellAt H2.out.1 _ (by omega), show 3 + j * 3 = (1 + j) * 3 by omega]; exact n0) id
      have d1 : wr.cell? ⟨g2, 3 + j * 3 + 1, none⟩ = some (.int .i64 (N.getD j 0 : Nat)) := ht.val (by rw [World.ownsRow.cellAt H2.out.1 _ (by omega), show 3 + j * 3 + 1 = (1 + j) * 3 + 1 by omega]; exact n1) id
      have d2 : wr.cell? ⟨g2, 3 + j * 3 + 2, none⟩ = some (.string ⟨#[]⟩) := ht.val (by rw [World.ownsRow.cellAt H2.out.1 _ (by omega), show 3 + j * 3 + 2 = (1 + j) * 3 + 2 by omega]; exact n2) id
      have hC := Lib.hid (i64s_take N j hlt)
      clear n0 n1 n2 hown ht
      generalize N.getD j 0 = x at d1 hC
      have HA := Lib.hid (HT.out.1.alloc (.cells #[.int .i64 1, .int .i64 x, .string ⟨#[]⟩] 108))
      go_wp2_with ((at_builtin; refine wpList_append_own_at _ rfl _ _ 32 rfl w2.heap.size 3 i0 (.int .i64 0) 1 8 Tryz.underlying32 hi hz0 hz1 hz2 rfl (by decide) _ j _ rfl (HA.out.alloc _) ⟨_, 0, none⟩ 1 1 [.int .i64 x] rfl rfl ?c1 ?c2 ?c3 ?c4 ?c5 ?_))
      case c1 => exact one_at2 _ _ _ (by simp)
      case c2 => intro u hu; simp at hu; subst hu; rfl
      case c3 => unfold maxLen; omega
      case c4 => omega
      case c5 => simp; omega
      intro v' w3 hown1 hg1 _ _
      have ht1 : Fresh w2 w3 := ((HT.out.2.alloc (.cells #[.int .i64 1, .int .i64 x, .string ⟨#[]⟩] 108)).alloc _).grown hg1 (fun k hk hlt => by
        have := (HT.out.1.lt k hk).1
        omega)
      have H3 := Lib.hid (And.intro hown1 ht1)
      clear hown1 hg1 ht1
      go_wp2_with fail
      go_roundw
      case rel => exact ⟨j + 1, by omega, by go_num, by rw [hC.out]; exact H3.out.1, H3.out.2⟩
      case measure => simp [intOf]; omega
    · obtain rfl : j = N.length := by omega
      clear hown ht
      have hh := HT.out
      rw [List.take_length] at hh
      obtain ⟨t0, t2⟩ := recItems_text K N s
      have k0 : wr.cell? ⟨g2, (1 + N.length) * 3, none⟩ = some (.int .i64 2) := hh.2.val (by rw [World.ownsRow.cellAt H2.out.1 _ (by omega), Nat.add_comm 1]; exact t0) id
      have k2 : wr.cell? ⟨g2, (1 + N.length) * 3 + 2, none⟩ = some (.string s) := hh.2.val (by rw [World.ownsRow.cellAt H2.out.1 _ (by omega), Nat.add_comm 1]; exact t2) id
      have HH := Lib.hid (And.intro (own_base hh.1 hs2) (H2.out.2.both hh.2))
      clear hh HT t0 t2
      go_wp2_with fail
      have hwr : IntKind.i64.wrap (1 + (N.length : Int) + 1 - 1) = 1 + (N.length : Int) := by rw [IntKind.wrap_i64]; omega
      have i1 : (0 : Int) ≤ 1 + (N.length : Int) := by omega
      have i2 : 1 + (N.length : Int) < ((N.length + 2 : Nat) : Int) := by omega
      have i3 : (1 + (N.length : Int)).toNat = 1 + N.length := by omega
      go_quiet (fail)
      go_wp2_with fail
      go_ret3
      exact ⟨_, rfl, own_fresh HH.out.1 (Touch.same _ _), HH.out.2.drewN _⟩

end Go.Proofs.YtcpelncjagaadaaGreatDoor
