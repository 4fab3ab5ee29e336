/-
  Decode, at bytes that Encode made.
-/
import Derived.Test.YtcpelncjagaadaaGreatDoorWJ
import Derived.Lib.SlBytesRow
namespace Go.Proofs.YtcpelncjagaadaaGreatDoor
open Go.RowKit

attribute [local go_sem ↓] Go.wp_at_zero Go.wp_at_succ

theorem many_at2 (w : World) (cs : Array Value) (e : TypeId) {g : Nat} (hg : g = w.heap.size) : ∀ (j : Nat) (u : Value), cs.toList[j]? = some u → (w.alloc (.cells cs e)).cell? ((⟨g, 0, none⟩ : Addr).add j) = some u := by subst hg; exact many_at w cs e
theorem Tryz.info108 : (Tryz.prog.info? 108).map (fun i => (i.zero, i.size, i.bytes)) = some (some (.agg #[.int .i64 0, .int .i64 0, .string ⟨#[]⟩]), 3, 32) := by kernel_rfl

theorem enc_drop (l : List Itm) (j : Nat) (h : j < l.length) : enc (l.drop j) = (l[j]).enc ++ enc (l.drop (j + 1)) := by
  rw [List.drop_eq_getElem_cons h]; rfl
theorem itemCells_take (l : List Itm) (j : Nat) (h : j < l.length) : itemCells (l.take (j + 1)) = itemCells (l.take j) ++ (l[j]).cells := by
  unfold itemCells
  rw [List.take_add_one, List.getElem?_eq_getElem h]
  simp only [Option.toList_some]
  rw [List.flatMap_append]
  simp

/-- Bytes that a slice with an address shows. -/
theorem Shows.addr {v : Value} {B : List Nat} {w : World} (h : Shows v B w) (hp : 0 < B.length) : ∃ g o cap, v = .slice (some ⟨g, o, none⟩) B.length cap ∧ B.length ≤ cap ∧ g < w.heap.size ∧ ∀ j, j < B.length → w.cell? ⟨g, o + j, none⟩ = some (.int .u8 (B.getD j 0 : Nat)) := by
  obtain ⟨ao, cap, rfl, hc, h⟩ := h
  obtain ⟨g, o, rfl, hg, hcell⟩ := h hp
  exact ⟨g, o, cap, rfl, hc, hg, hcell⟩

theorem Shows.nil {A : Option Addr} {c : Nat} {C : List Nat} {w : World} (h : C.length = 0) : Shows (.slice A 0 c) C w := ⟨A, c, by rw [h], by omega, fun hp => by omega⟩

theorem Shows.part2 {ao ao' : Option Addr} {n cap lo m c' : Nat} {B C : List Nat} {w : World} (h : Shows (.slice ao n cap) B w) (hm : m = C.length) (h2 : lo + C.length ≤ n) (hao : 0 < C.length → ∀ g o, ao = some ⟨g, o, none⟩ → ao' = some ⟨g, o + lo, none⟩) (hc : m ≤ c') (hC : (B.take (lo + C.length)).drop lo = C) : Shows (.slice ao' m c') C w := by
  subst hm
  exact h.part h2 hao hc hC
theorem sB_getD (s : ByteArray) (i : Nat) (h : i < s.size) : (sB s).getD i 0 = (s[i]).toNat := by
  simp [sB, List.getD, h]
  rfl

theorem text_at {C : List Nat} {s : ByteArray} {g o : Nat} {w : World} (h : ∀ j, j < ((Itm.txt s).enc ++ C).length → w.cell? ⟨g, o + j, none⟩ = some (.int .u8 (((Itm.txt s).enc ++ C).getD j 0 : Nat))) : Lib.Bytes w g (o + 3) s := by
  intro i hi
  have hl : (Itm.txt s).enc.length = 3 + s.size := by simp [Itm.enc, le_length, sB_length]; omega
  have h1 := h (3 + i) (by rw [List.length_append, hl]; omega)
  rw [show o + 3 + i = o + (3 + i) by omega, h1]
  have e : ((Itm.txt s).enc ++ C).getD (3 + i) 0 = (s[i]).toNat := by
    rw [← sB_getD s i hi]
    have e1 : (Itm.txt s).enc ++ C = ([2] ++ le s.size 2) ++ (sB s ++ C) := by simp [Itm.enc]
    have e2 : ([2] ++ le s.size 2).length = 3 := by simp [le_length]
    rw [e1]
    simp only [List.getD]
    rw [List.getElem?_append_right (by omega), e2, show 3 + i - 3 = i by omega, List.getElem?_append_left (by rw [sB_length]; exact hi)]
  rw [e]

theorem num_len (n : Nat) : (Itm.num n).enc.length = 9 := by simp [Itm.enc, le_length]
theorem txt_len0 (s : ByteArray) : (Itm.txt s).enc.length = 3 + s.size := by simp [Itm.enc, le_length, sB_length]; omega
theorem num_first (n : Nat) (C : List Nat) : ((Itm.num n).enc ++ C).getD 0 0 = 1 := rfl
theorem txt_first (s : ByteArray) (C : List Nat) : ((Itm.txt s).enc ++ C).getD 0 0 = 2 := rfl
theorem num_body (n : Nat) (C : List Nat) : (((Itm.num n).enc ++ C).take (1 + 8)).drop 1 = le n 8 := by
  rw [List.take_append_of_le_length (by rw [num_len]; decide), List.take_of_length_le (by rw [num_len]; decide)]; rfl
theorem num_rest (n : Nat) (C : List Nat) : (((Itm.num n).enc ++ C).take (9 + C.length)).drop 9 = C := by
  rw [List.take_of_length_le (by rw [List.length_append, num_len]; exact Nat.le_refl _), List.drop_append, num_len, List.drop_of_length_le (by rw [num_len]; decide)]; simp
theorem txt_size (s : ByteArray) (C : List Nat) : (((Itm.txt s).enc ++ C).take (1 + 2)).drop 1 = le s.size 2 := by
  have e1 : (Itm.txt s).enc ++ C = ([2] ++ le s.size 2) ++ (sB s ++ C) := by simp [Itm.enc]
  have e2 : ([2] ++ le s.size 2).length = 3 := by simp [le_length]
  rw [e1, List.take_append_of_le_length (by rw [e2]; exact Nat.le_refl _), List.take_of_length_le (by rw [e2]; exact Nat.le_refl _)]; rfl
theorem txt_rest (s : ByteArray) (C : List Nat) : (((Itm.txt s).enc ++ C).take (3 + s.size + C.length)).drop (3 + s.size) = C := by
  rw [List.take_of_length_le (by rw [List.length_append, txt_len0]; exact Nat.le_refl _), List.drop_append, txt_len0, List.drop_of_length_le (by rw [txt_len0]; exact Nat.le_refl _)]; simp

def DecGot (l : List Itm) (w : World) (e : Ending) (w' : World) : Prop :=
  ∃ v, e = .returned (.tuple #[v, .int .i64 0]) ∧ w'.ownsRow w.heap.size 108 3 v l.length (itemCells l) ∧ Fresh w w'

set_option maxRecDepth 100000 in
set_option maxHeartbeats 4000000 in
theorem decode_any (v : Value) (l : List Itm) (w : World) (hl : l.length ≤ 4000) (hB : (enc l).length ≤ 60000) (hok : ∀ i ∈ l, i.ok) (h : Shows v (enc l) w) :
    Calls Tryz.prog 88 #[v] w (DecGot l w) := by
  obtain ⟨i0, hi, hz0, hz1, hz2⟩ := info_parts Tryz.info108
  have HS := Lib.hid h
  obtain ⟨ao, cap, rfl, -, -⟩ := h
  have HO := Lib.hid hok
  clear hok
  go_enter Tryz.func88, Tryz.ntmps88
  go_wp2_with fail
  go_loopw [0, 4] (fun b u wr => ∃ j : Nat, j ≤ l.length ∧ Shows b (enc (l.drop j)) w ∧ wr.ownsRow w.heap.size 108 3 u j (itemCells (l.take j)) ∧ Fresh w wr ∧ (enc (l.drop j)).length ≤ 60000) (fun b _ _ => sliceLen b)
  case atStart => exact ⟨0, Nat.zero_le _, HS.out, World.ownsRow_nil _ _ _ _, Touch.refl _ _, hB⟩
  case round =>
    obtain ⟨j, hj, hb, hown, ht, hbl⟩ := hrel
    have HT := Lib.hid (And.intro hown ht)
    have hs := ht.size
    by_cases hlt : j < l.length
    · have hiok := HO.out _ (List.getElem_mem hlt)
      have HC := Lib.hid (itemCells_take l j hlt)
      rw [enc_drop l j hlt] at hb hbl
      obtain ⟨C, hC⟩ : ∃ C, enc (l.drop (j + 1)) = C := ⟨_, rfl⟩
      have HE := Lib.hid hC
      rw [hC] at hb hbl
      clear hC
      generalize l[j] = it at hb hbl hiok HC
      clear hown ht
      cases it with
      | num n =>
        obtain ⟨g, o, cap, rfl, hc, hg, hcell⟩ := hb.addr (by rw [List.length_append, num_len]; omega)
        have hlen : ((Itm.num n).enc ++ C).length = 9 + C.length := by rw [List.length_append, num_len]
        have c0 := HT.out.2.val (hcell 0 (by omega)) id
        rw [num_first, Nat.add_zero] at c0
        have HSh := Lib.hid hb
        rw [hlen] at hc hbl HSh ⊢
        have hv : leVal (le n 8) = n := by rw [leVal_le]; exact Nat.mod_eq_of_lt (Nat.lt_of_lt_of_le hiok (by decide))
        have HV := Lib.hid hv
        have hw : wrap64 (n : Int) = n := by have : n < 9223372036854775808 := hiok; unfold wrap64; omega
        have HW := Lib.hid hw
        clear hcell hb hlen hv hiok hw HS
        have hb0 : decide ((0 : Int) < 9 + (C.length : Int)) = true := by simp; omega
        have hb1 : decide ((8 : Int) ≤ 8 + (C.length : Int)) = true := by simp; omega
        by_cases hc9 : cap = 9
        · subst hc9
          have hcz : C.length = 0 := by omega
          go_wp2_with fail
          go_quiet (fail)
          go_wp2_with fail
          refine (get_any _ (le n 8) _ (by rw [le_length]; decide) (le_lt _ _) (((HSh.out.part (lo := 1) (m := 8) (by omega) (fun _ g o e => by cases e; rfl) (by omega) (num_body n C)).fresh HT.out.2).drewN nq)).mono ?_
          rintro e w1 ⟨rfl, rfl⟩
          rw [HV.out]
          go_wp2_with (first | rw [HW.out] | (at_builtin; refine wpList_append_own_at _ rfl _ _ 105 rfl w.heap.size 108 i0 (.agg #[.int .i64 0, .int .i64 0, .string ⟨#[]⟩]) 3 32 Tryz.underlying105 hi hz0 hz1 hz2 rfl (by decide) _ j _ rfl ((own_fresh HT.out.1 (Touch.same wr nq)).alloc _) ⟨_, 0, none⟩ 1 1 [.int .i64 1, .int .i64 n, .string ⟨#[]⟩] rfl rfl ?c1 ?c2 ?c3 ?c4 ?c5 ?_))
          case c1 => exact many_at2 (wr.drewN nq) #[.int .i64 1, .int .i64 n, .string ⟨#[]⟩] 108 (by simp)
          case c2 => intro u hu; simp at hu; rcases hu with rfl | rfl | rfl <;> rfl
          case c3 => unfold maxLen; omega
          case c4 => omega
          case c5 => simp; omega
          intro v' w2 hown1 hg1 _ _
          have ht1 : Fresh w w2 := (HT.out.2.drewN nq).appended (own_fresh HT.out.1 (Touch.same wr nq)) (Nat.le_refl _) hg1
          obtain ⟨A, cp, rfl⟩ := own_form hown1
          have H2 := Lib.hid (And.intro hown1 ht1)
          clear hown1 hg1 ht1
          have hb2 : decide ((4000 : Int) < (j : Int) + 1) = false := by simp; omega
          go_wp2_with fail
          go_roundw
          case rel => exact ⟨j + 1, by omega, by rw [HE.out]; exact Shows.nil hcz, by rw [HC.out]; exact H2.out.1, H2.out.2, by rw [HE.out]; omega⟩
          case measure => simp [sliceLen] <;> omega
        · have hc8 : ¬ cap - 1 = 8 := by omega
          go_wp2_with fail
          go_quiet (fail)
          go_wp2_with fail
          refine (get_any _ (le n 8) _ (by rw [le_length]; decide) (le_lt _ _) (((HSh.out.part (lo := 1) (m := 8) (by omega) (fun _ g o e => by cases e; rfl) (by omega) (num_body n C)).fresh HT.out.2).drewN nq)).mono ?_
          rintro e w1 ⟨rfl, rfl⟩
          rw [HV.out]
          go_wp2_with (first | rw [HW.out] | (at_builtin; refine wpList_append_own_at _ rfl _ _ 105 rfl w.heap.size 108 i0 (.agg #[.int .i64 0, .int .i64 0, .string ⟨#[]⟩]) 3 32 Tryz.underlying105 hi hz0 hz1 hz2 rfl (by decide) _ j _ rfl ((own_fresh HT.out.1 (Touch.same wr nq)).alloc _) ⟨_, 0, none⟩ 1 1 [.int .i64 1, .int .i64 n, .string ⟨#[]⟩] rfl rfl ?c1 ?c2 ?c3 ?c4 ?c5 ?_))
          case c1 => exact many_at2 (wr.drewN nq) #[.int .i64 1, .int .i64 n, .string ⟨#[]⟩] 108 (by simp)
          case c2 => intro u hu; simp at hu; rcases hu with rfl | rfl | rfl <;> rfl
          case c3 => unfold maxLen; omega
          case c4 => omega
          case c5 => simp; omega
          intro v' w2 hown1 hg1 _ _
          have ht1 : Fresh w w2 := (HT.out.2.drewN nq).appended (own_fresh HT.out.1 (Touch.same wr nq)) (Nat.le_refl _) hg1
          obtain ⟨A, cp, rfl⟩ := own_form hown1
          have H2 := Lib.hid (And.intro hown1 ht1)
          clear hown1 hg1 ht1
          have hb2 : decide ((4000 : Int) < (j : Int) + 1) = false := by simp; omega
          go_wp2_with fail
          go_roundw
          case rel => exact ⟨j + 1, by omega, by rw [HE.out]; exact HSh.out.part2 (lo := 9) (by omega) (by omega) (fun _ g o e => by cases e; first | rfl | (congr 2; omega)) (by omega) (num_rest n C), by rw [HC.out]; exact H2.out.1, H2.out.2, by rw [HE.out]; omega⟩
          case measure => simp [sliceLen] <;> omega
      | txt s =>
        obtain ⟨g, o, cap, rfl, hc, hg, hcell⟩ := hb.addr (by rw [List.length_append, txt_len0]; omega)
        have hlen : ((Itm.txt s).enc ++ C).length = 3 + s.size + C.length := by rw [List.length_append, txt_len0]
        have hbytes := text_at (g := g) (o := o) (w := wr) (fun k hk => HT.out.2.val (hcell k hk) id)
        have c0 := HT.out.2.val (hcell 0 (by omega)) id
        rw [txt_first, Nat.add_zero] at c0
        have HSh := Lib.hid hb
        rw [hlen] at hc hbl HSh ⊢
        have hs5 : s.size ≤ 50000 := hiok
        have hv : leVal (le s.size 2) = s.size := by rw [leVal_le]; exact Nat.mod_eq_of_lt (Nat.lt_of_le_of_lt hs5 (by decide))
        have HV := Lib.hid hv
        have hw : wrap64 (s.size : Int) = s.size := by unfold wrap64; omega
        have HW := Lib.hid hw
        have HBy := Lib.hid hbytes
        clear hcell hb hlen hv hiok hw HS hbytes
        have hb0 : decide ((0 : Int) < 3 + (s.size : Int) + (C.length : Int)) = true := by simp; omega
        have hb1 : decide ((2 : Int) ≤ 2 + (s.size : Int) + (C.length : Int)) = true := by simp; omega
        have hb3 : decide ((50000 : Int) < (s.size : Int)) = false := by simp; omega
        have hb4 : decide ((s.size : Int) + (C.length : Int) < (s.size : Int)) = false := by simp; omega
        by_cases hcA : cap = 3
        · subst hcA
          have hz : s.size = 0 := by omega
          have hcz : C.length = 0 := by omega
          go_wp2_with fail
          go_quiet (fail)
          go_wp2_with fail
          refine (get_any _ (le s.size 2) _ (by rw [le_length]; decide) (le_lt _ _) (((HSh.out.part (lo := 1) (m := 2) (by omega) (fun _ g o e => by cases e; rfl) (by omega) (txt_size s C)).fresh HT.out.2).drewN nq)).mono ?_
          rintro e w1 ⟨rfl, rfl⟩
          rw [HV.out]
          have hcv : ∀ (c' : Nat), (convert 44 9 (.slice (some ⟨g, o + 1, none⟩) 0 c')).run Tryz.prog (wr.drewN nq) = .ok (.string s) (wr.drewN nq) := fun c' => by
            have := Lib.run_convert_whole (P := Tryz.prog) (wr.drewN nq) 44 5 9 Tryz.underlying44 Tryz.underlying5 Tryz.underlying9 g (o + 1) s (fun i hi => by omega) c'
            rwa [hz] at this
          go_wp2_with (first | rw [HW.out] | (at_builtin; refine wpList_append_own_at _ rfl _ _ 105 rfl w.heap.size 108 i0 (.agg #[.int .i64 0, .int .i64 0, .string ⟨#[]⟩]) 3 32 Tryz.underlying105 hi hz0 hz1 hz2 rfl (by decide) _ j _ rfl ((own_fresh HT.out.1 (Touch.same wr nq)).alloc _) ⟨_, 0, none⟩ 1 1 [.int .i64 2, .int .i64 0, .string s] rfl rfl ?c1 ?c2 ?c3 ?c4 ?c5 ?_))
          case c1 => exact many_at2 (wr.drewN nq) #[.int .i64 2, .int .i64 0, .string s] 108 (by simp)
          case c2 => intro u hu; simp at hu; rcases hu with rfl | rfl | rfl <;> rfl
          case c3 => unfold maxLen; omega
          case c4 => omega
          case c5 => simp; omega
          intro v' w2 hown1 hg1 _ _
          have ht1 : Fresh w w2 := (HT.out.2.drewN nq).appended (own_fresh HT.out.1 (Touch.same wr nq)) (Nat.le_refl _) hg1
          obtain ⟨A, cp, rfl⟩ := own_form hown1
          have H2 := Lib.hid (And.intro hown1 ht1)
          clear hown1 hg1 ht1
          have hb2 : decide ((4000 : Int) < (j : Int) + 1) = false := by simp; omega
          go_wp2_with fail
          go_roundw
          case rel => exact ⟨j + 1, by omega, by rw [HE.out]; exact Shows.nil hcz, by rw [HC.out]; exact H2.out.1, H2.out.2, by rw [HE.out]; omega⟩
          case measure => simp [sliceLen] <;> omega
        by_cases hcB : cap = 3 + s.size
        · subst hcB
          have hcz : C.length = 0 := by omega
          have hsz : ¬ s.size = 0 := by omega
          have hc2 : ¬ 3 + s.size - 1 = 2 := by omega
          go_wp2_with fail
          go_quiet (fail)
          go_wp2_with fail
          refine (get_any _ (le s.size 2) _ (by rw [le_length]; decide) (le_lt _ _) (((HSh.out.part (lo := 1) (m := 2) (by omega) (fun _ g o e => by cases e; rfl) (by omega) (txt_size s C)).fresh HT.out.2).drewN nq)).mono ?_
          rintro e w1 ⟨rfl, rfl⟩
          rw [HV.out]
          have hcv := fun (c' : Nat) => Lib.run_convert_whole (P := Tryz.prog) (wr.drewN nq) 44 5 9 Tryz.underlying44 Tryz.underlying5 Tryz.underlying9 g (o + 1 + 2) s (HBy.out.drewN nq) c'
          go_wp2_with (first | rw [HW.out] | (at_builtin; refine wpList_append_own_at _ rfl _ _ 105 rfl w.heap.size 108 i0 (.agg #[.int .i64 0, .int .i64 0, .string ⟨#[]⟩]) 3 32 Tryz.underlying105 hi hz0 hz1 hz2 rfl (by decide) _ j _ rfl ((own_fresh HT.out.1 (Touch.same wr nq)).alloc _) ⟨_, 0, none⟩ 1 1 [.int .i64 2, .int .i64 0, .string s] rfl rfl ?c1 ?c2 ?c3 ?c4 ?c5 ?_))
          case c1 => exact many_at2 (wr.drewN nq) #[.int .i64 2, .int .i64 0, .string s] 108 (by simp)
          case c2 => intro u hu; simp at hu; rcases hu with rfl | rfl | rfl <;> rfl
          case c3 => unfold maxLen; omega
          case c4 => omega
          case c5 => simp; omega
          intro v' w2 hown1 hg1 _ _
          have ht1 : Fresh w w2 := (HT.out.2.drewN nq).appended (own_fresh HT.out.1 (Touch.same wr nq)) (Nat.le_refl _) hg1
          obtain ⟨A, cp, rfl⟩ := own_form hown1
          have H2 := Lib.hid (And.intro hown1 ht1)
          clear hown1 hg1 ht1
          have hb2 : decide ((4000 : Int) < (j : Int) + 1) = false := by simp; omega
          go_wp2_with fail
          go_roundw
          case rel => exact ⟨j + 1, by omega, by rw [HE.out]; exact (by rw [Nat.sub_self]; exact Shows.nil hcz), by rw [HC.out]; exact H2.out.1, H2.out.2, by rw [HE.out]; omega⟩
          case measure => simp [sliceLen] <;> omega
        · have hc2 : ¬ cap - 1 = 2 := by omega
          have hc3 : ¬ cap - 1 = 2 + s.size := by omega
          go_wp2_with fail
          go_quiet (fail)
          go_wp2_with fail
          refine (get_any _ (le s.size 2) _ (by rw [le_length]; decide) (le_lt _ _) (((HSh.out.part (lo := 1) (m := 2) (by omega) (fun _ g o e => by cases e; rfl) (by omega) (txt_size s C)).fresh HT.out.2).drewN nq)).mono ?_
          rintro e w1 ⟨rfl, rfl⟩
          rw [HV.out]
          have hcv := fun (c' : Nat) => Lib.run_convert_whole (P := Tryz.prog) (wr.drewN nq) 44 5 9 Tryz.underlying44 Tryz.underlying5 Tryz.underlying9 g (o + 1 + 2) s (HBy.out.drewN nq) c'
          go_wp2_with (first | rw [HW.out] | (at_builtin; refine wpList_append_own_at _ rfl _ _ 105 rfl w.heap.size 108 i0 (.agg #[.int .i64 0, .int .i64 0, .string ⟨#[]⟩]) 3 32 Tryz.underlying105 hi hz0 hz1 hz2 rfl (by decide) _ j _ rfl ((own_fresh HT.out.1 (Touch.same wr nq)).alloc _) ⟨_, 0, none⟩ 1 1 [.int .i64 2, .int .i64 0, .string s] rfl rfl ?c1 ?c2 ?c3 ?c4 ?c5 ?_))
          case c1 => exact many_at2 (wr.drewN nq) #[.int .i64 2, .int .i64 0, .string s] 108 (by simp)
          case c2 => intro u hu; simp at hu; rcases hu with rfl | rfl | rfl <;> rfl
          case c3 => unfold maxLen; omega
          case c4 => omega
          case c5 => simp; omega
          intro v' w2 hown1 hg1 _ _
          have ht1 : Fresh w w2 := (HT.out.2.drewN nq).appended (own_fresh HT.out.1 (Touch.same wr nq)) (Nat.le_refl _) hg1
          obtain ⟨A, cp, rfl⟩ := own_form hown1
          have H2 := Lib.hid (And.intro hown1 ht1)
          clear hown1 hg1 ht1
          have hb2 : decide ((4000 : Int) < (j : Int) + 1) = false := by simp; omega
          go_wp2_with fail
          go_roundw
          case rel => exact ⟨j + 1, by omega, by rw [HE.out]; exact HSh.out.part2 (lo := 3 + s.size) (by omega) (by omega) (fun _ g o e => by cases e; first | rfl | (congr 2; omega)) (by omega) (txt_rest s C), by rw [HC.out]; exact H2.out.1, H2.out.2, by rw [HE.out]; omega⟩
          case measure => simp [sliceLen] <;> omega
    · obtain rfl : j = l.length := by omega
      have e0 : enc (l.drop l.length) = [] := by rw [List.drop_length]; rfl
      rw [e0] at hb
      obtain ⟨ao2, cap2, rfl, -, -⟩ := hb
      have hh := HT.out
      rw [List.take_length] at hh
      have HH := Lib.hid hh
      clear hh e0 hbl HT
      go_wp2_with fail
      go_ret2
      exact ⟨_, rfl, HH.out.1, HH.out.2⟩

end Go.Proofs.YtcpelncjagaadaaGreatDoor
