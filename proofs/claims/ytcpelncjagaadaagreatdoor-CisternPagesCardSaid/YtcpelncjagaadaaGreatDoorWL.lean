/-
  record: numbers, text, natural, sector, unseal.
-/
import Derived.Test.YtcpelncjagaadaaGreatDoorWK
namespace Go.Proofs.YtcpelncjagaadaaGreatDoor
open Go.RowKit

attribute [local go_sem ↓] Go.wp_at_zero Go.wp_at_succ

/-- A list of numbers from 0 on that a slice shows. -/
def Nums (v : Value) (l : List Nat) (w : World) : Prop :=
  ∃ ao cap, v = .slice ao l.length cap ∧ (0 < l.length → ∃ g o, ao = some ⟨g, o, none⟩ ∧ g < w.heap.size ∧ ∀ j, j < l.length → w.cell? ⟨g, o + j, none⟩ = some (.int .i64 (l.getD j 0 : Nat)))
theorem Nums.fresh {v : Value} {l : List Nat} {w w' : World} (h : Nums v l w) (ht : Fresh w w') : Nums v l w' := by
  obtain ⟨ao, cap, rfl, h⟩ := h
  refine ⟨ao, cap, rfl, fun hp => ?_⟩
  obtain ⟨g, o, rfl, hg, hc⟩ := h hp
  exact ⟨g, o, rfl, Nat.lt_of_lt_of_le hg ht.size, fun j hj => ht.val (hc j hj) id⟩
def i64s (l : List Nat) : List Value := l.map fun (n : Nat) => .int .i64 (n : Int)
theorem Nums.blk {w : World} {g : Nat} {l : List Nat} {cap : Nat} {cs : Array Value} (h : Blk w g 3 cs) (hcs : cs = (i64s l).toArray) : Nums (.slice (some ⟨g, 0, none⟩) l.length cap) l w := by
  subst hcs
  refine ⟨_, cap, rfl, fun _ => ⟨g, 0, rfl, h.lt, fun j hj => ?_⟩⟩
  rw [Nat.zero_add, h.cell]
  simp [i64s, List.getD, hj]
theorem Nums.own {base : Nat} {v : Value} {l : List Nat} {w : World} (h : w.ownsRow base 3 1 v l.length (i64s l)) : Nums v l w := by
  have hlt := h.lt
  rcases h.2 with ⟨rfl, hn⟩ | ⟨g, cap, cur, rfl, hb, hg, hnc, hrest⟩
  · exact ⟨none, 0, by rw [hn], fun hp => by omega⟩
  · refine ⟨_, cap, rfl, fun hp => ⟨g, 0, rfl, (hlt g rfl).2, fun j hj => ?_⟩⟩
    rw [Nat.zero_add, World.ownsRow.cellAt h j (by omega)]
    simp [i64s, List.getD, hj]

set_option maxHeartbeats 400000 in
theorem natural_any (v : Value) (l : List Nat) (w : World) (hl : l.length ≤ 100) (h : Nums v l w) : Calls Tryz.prog 66 #[v] w fun e w' => e = .returned (.bool true) ∧ w = w' := by
  obtain ⟨ao, cap, rfl, hr⟩ := h
  have Hr := Lib.hid hr
  clear hr
  go_enter Tryz.func66, Tryz.ntmps66
  go_wp2_with fail
  go_loopw [7] (fun i wr => ∃ j : Nat, j ≤ l.length ∧ i = .int .i64 j ∧ w = wr) (fun i _ => l.length - (intOf i).toNat)
  case atStart => exact ⟨0, Nat.zero_le _, rfl, rfl⟩
  case round =>
    obtain ⟨j, hj, rfl, rfl⟩ := hrel
    by_cases hlt : j < l.length
    · obtain ⟨g, o, rfl, hg, hc⟩ := Hr.out (by omega)
      have c0 := hc j hlt
      clear hc
      generalize l.getD j 0 = x at c0
      have hx : decide ((x : Int) < 0) = false := by simp
      go_wp2_with fail
      go_roundw
      case rel => exact ⟨j + 1, by omega, by go_num, trivial⟩
      case measure => simp [intOf]; omega
    · obtain rfl : j = l.length := by omega
      go_wp2_with fail
      go_ret
      exact ⟨rfl, rfl⟩

/-- New items of the call's own. -/
def NewItems (l : List Itm) (w : World) (e : Ending) (w' : World) : Prop :=
  ∃ v, e = .returned v ∧ w'.ownsRow w.heap.size 108 3 v l.length (itemCells l) ∧ Fresh w w'

set_option maxHeartbeats 1000000 in
theorem numbers_any (v : Value) (l : List Nat) (w : World) (hl : l.length ≤ 100) (h : Nums v l w) : Calls Tryz.prog 53 #[v] w (NewItems (l.map Itm.num) w) := by
  obtain ⟨i0, hi, hz0, hz1, hz2⟩ := info_parts Tryz.info108
  obtain ⟨ao, cap, rfl, hr⟩ := h
  have Hr := Lib.hid hr
  clear hr
  go_enter Tryz.func53, Tryz.ntmps53
  go_wp2_with fail
  go_loopw [3, 8] (fun u i wr => ∃ j : Nat, j ≤ l.length ∧ i = .int .i64 j ∧ wr.ownsRow w.heap.size 108 3 u j (itemCells ((l.map Itm.num).take j)) ∧ Fresh w wr) (fun _ i _ => l.length - (intOf i).toNat)
  case atStart => exact ⟨0, Nat.zero_le _, rfl, World.ownsRow_nil _ _ _ _, Touch.refl _ _⟩
  case round =>
    obtain ⟨j, hj, rfl, hown, ht⟩ := hrel
    have HT := Lib.hid (And.intro hown ht)
    have hs := ht.size
    by_cases hlt : j < l.length
    · obtain ⟨g, o, rfl, hg, hc⟩ := Hr.out (by omega)
      have c0 := ht.val (hc j hlt) id
      have hlm : j < (l.map Itm.num).length := by simpa using hlt
      have hC := itemCells_take (l.map Itm.num) j hlm
      have e1 : (l.map Itm.num)[j] = .num (l.getD j 0) := by simp [List.getD, hlt]
      rw [e1] at hC
      have HC := Lib.hid hC
      clear hc hC e1 hown ht
      generalize l.getD j 0 = x at c0 HC
      go_wp2_with ((at_builtin; refine wpList_append_own_at _ rfl _ _ 105 rfl w.heap.size 108 i0 (.agg #[.int .i64 0, .int .i64 0, .string ⟨#[]⟩]) 3 32 Tryz.underlying105 hi hz0 hz1 hz2 rfl (by decide) _ j _ rfl (HT.out.1.alloc _) ⟨_, 0, none⟩ 1 1 [.int .i64 1, .int .i64 x, .string ⟨#[]⟩] rfl rfl ?c1 ?c2 ?c3 ?c4 ?c5 ?_))
      case c1 => exact many_at2 wr #[.int .i64 1, .int .i64 x, .string ⟨#[]⟩] 108 (by simp)
      case c2 => intro u hu; simp at hu; rcases hu with rfl | rfl | rfl <;> rfl
      case c3 => unfold maxLen; omega
      case c4 => omega
      case c5 => simp; omega
      intro v' w2 hown1 hg1 _ _
      have ht1 : Fresh w w2 := HT.out.2.appended HT.out.1 (Nat.le_refl _) hg1
      have H2 := Lib.hid (And.intro hown1 ht1)
      clear hown1 hg1 ht1
      go_wp2_with fail
      go_roundw
      case rel => exact ⟨j + 1, by omega, by go_num, by rw [HC.out]; exact H2.out.1, H2.out.2⟩
      case measure => simp [intOf]; omega
    · obtain rfl : j = l.length := by omega
      clear hown ht
      have hh := HT.out
      rw [List.take_of_length_le (by simp)] at hh
      have HH := Lib.hid hh
      clear hh HT
      go_wp2_with fail
      go_ret
      exact ⟨_, rfl, by simpa using HH.out.1, HH.out.2⟩

theorem text_any (s : ByteArray) (w : World) : Calls Tryz.prog 54 #[.string s] w fun e w' => e = .returned (.agg #[.int .i64 2, .int .i64 0, .string s]) ∧ Fresh w w' := by
  go_enter Tryz.func54, Tryz.ntmps54
  go_wp2
  exact bodyPost_ret (v := .agg #[.int .i64 2, .int .i64 0, .string s]) (by simp [results, Tryz.results54, go_sem]) rfl ⟨rfl, (Touch.refl _ w).alloc _⟩

/-- A sector's bytes. -/
def secB (l : List Itm) : List Nat := frameB (sealB (enc l))

set_option maxHeartbeats 1000000 in
theorem sector_any (v : Value) (l : List Itm) (w : World) (hl : l.length ≤ 4000) (hB : (enc l).length ≤ 250) (hok : ∀ i ∈ l, i.ok) (h : Items v l w) : Calls Tryz.prog 52 #[v] w (OkBytes (secB l) w) := by
  have H := Lib.hid (And.intro hok h)
  clear hok h
  go_enter Tryz.func52, Tryz.ntmps52
  go_wp2_with fail
  refine (encode_any v l _ hl (by omega) H.out.1 H.out.2).mono ?_
  intro e w1 hg
  obtain ⟨v1, rfl, ho, ht⟩ := hg
  have H1 := Lib.hid (And.intro ho ht)
  have hs := ht.size
  clear ho ht
  go_wp2_with fail
  refine (seal_any v1 (enc l) _ (by omega) (enc_lt l) (.own H1.out.1)).mono ?_
  intro e w2 hg
  obtain ⟨v2, rfl, ho, ht⟩ := hg
  have H2 := Lib.hid (And.intro ho (H1.out.2.both ht))
  have hs2 := ht.size
  clear ho ht
  go_wp2_with fail
  refine (frame_any v2 (sealB (enc l)) _ (by rw [sealB_length]; omega) (.own H2.out.1)).mono ?_
  intro e w3 hg
  obtain ⟨v3, rfl, ho, ht⟩ := hg
  have H3 := Lib.hid (And.intro ho (H2.out.2.both ht))
  clear ho ht
  go_wp2_with fail
  go_ret2
  exact ⟨_, rfl, own_base H3.out.1 (by omega), H3.out.2⟩

set_option maxHeartbeats 1000000 in
theorem unseal_any (v : Value) (l : List Itm) (w : World) (hl : l.length ≤ 4000) (hB : (enc l).length ≤ 250) (hok : ∀ i ∈ l, i.ok) (h : Shows v (sealB (enc l)) w) : Calls Tryz.prog 68 #[v] w (DecGot l w) := by
  have H := Lib.hid (And.intro hok h)
  clear hok h
  go_enter Tryz.func68, Tryz.ntmps68
  go_wp2_with fail
  refine (open_any v (enc l) _ (by omega) (enc_lt l) H.out.2).mono ?_
  intro e w1 hg
  obtain ⟨v1, rfl, ho, ht⟩ := hg
  have H1 := Lib.hid (And.intro ho ht)
  have hs := ht.size
  clear ho ht
  go_wp2_with fail
  refine (decode_any v1 l _ hl (by omega) H.out.1 (.own H1.out.1)).mono ?_
  intro e w2 hg
  obtain ⟨v2, rfl, ho, ht⟩ := hg
  have H2 := Lib.hid (And.intro ho (H1.out.2.both ht))
  clear ho ht
  go_wp2_with fail
  go_ret2
  exact ⟨_, rfl, own_base H2.out.1 hs, H2.out.2⟩
theorem unseal_none (v : Value) (w : World) (h : Shows v [] w) : Calls Tryz.prog 68 #[v] w fun e w' => e = .returned (.tuple #[.slice none 0 0, .int .i64 2]) ∧ w = w' := by
  have H := Lib.hid h
  clear h
  go_enter Tryz.func68, Tryz.ntmps68
  go_wp2_with fail
  refine (open_short v [] _ (by decide) H.out).mono ?_
  rintro e w1 ⟨rfl, rfl⟩
  go_wp2_with fail
  go_ret2
  exact ⟨rfl, rfl⟩

end Go.Proofs.YtcpelncjagaadaaGreatDoor
