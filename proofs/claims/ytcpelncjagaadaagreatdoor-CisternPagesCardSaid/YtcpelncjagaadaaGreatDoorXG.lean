/-
  wal: transaction, the walk.
-/
import Derived.Test.YtcpelncjagaadaaGreatDoorXF
namespace Go.Proofs.YtcpelncjagaadaaGreatDoor
open Go.RowKit

attribute [local go_sem ↓] Go.wp_at_zero Go.wp_at_succ

/-- What transaction hands back. -/
def TxPost (w : World) (o : Option (List (Nat × ByteArray) × Nat)) (e : Ending) (w' : World) : Prop :=
  Fresh w w' ∧ match o with
    | none => e = .returned (.tuple #[.slice none 0 0, .int .i64 0, .bool false])
    | some (l, ep) => ∃ v, e = .returned (.tuple #[v, .int .i64 ep, .bool true]) ∧ w'.ownsRow w.heap.size 67 2 v l.length (imgCells l)

theorem txPost_none {w w' : World} {o : Option (List (Nat × ByteArray) × Nat)} (ho : o = none) (hf : Fresh w w') : TxPost w o (.returned (.tuple #[.slice none 0 0, .int .i64 0, .bool false])) w' := ⟨hf, by subst ho; rfl⟩
theorem txPost_some {w w' : World} {o : Option (List (Nat × ByteArray) × Nat)} {l : List (Nat × ByteArray)} {ep n : Nat} {v : Value} (ho : o = some (l, ep)) (hn : n = l.length) (hf : Fresh w w') (h : w'.ownsRow w.heap.size 67 2 v n (imgCells l)) : TxPost w o (.returned (.tuple #[v, .int .i64 ep, .bool true])) w' := ⟨hf, by subst ho; subst hn; exact ⟨v, rfl, h⟩⟩

set_option maxRecDepth 100000 in
set_option maxHeartbeats 8000000 in
theorem tx_any [Inhabited Bs] (q p least : Nat) (L : Wal) (hL : L.ok) (D : RD) (w : World) (h : LogAt w q p L) (hD : DevAt Rec.bytes w p D) (hoff : D.off = false) (hw : D.waits = []) (hn : 2 + L.sz ≤ D.n) (hs : ∀ j, LogSec (D.s (2 + j % L.sz))) :
    Calls Tryz.prog 43 #[.pointer (some ⟨q, 0, none⟩), .int .i64 least] w (TxPost w (txL L.sz D.s L.next least (L.sz - (L.next - L.tail)))) := by
  obtain ⟨i0, hi, hz0, hz1, hz2⟩ := info_parts Tryz.info67
  have c4 := BlkL.cell h 4
  simp only [List.getElem?_toArray, List.getElem?_cons_zero, List.getElem?_cons_succ] at c4
  have HH := Lib.hid (And.intro h (And.intro hD hs))
  have hlo := hD.lo_le
  clear h hD hs
  go_enter Tryz.func43, Tryz.ntmps43
  go_wp2_with fail
  refine (lread_any q p L.next L D _ HH.out.1 HH.out.2.1 hoff hw hL.sz hn (HH.out.2.2 _)).mono ?_
  rintro e1 w1 ⟨rfl, hf⟩
  have hG : recAt L.sz D.s L.next 0 = gotL (D.s (2 + L.next % L.sz)) L.next := rfl
  have HG := Lib.hid hG
  clear hG
  rcases hg : gotL (D.s (2 + L.next % L.sz)) L.next with ⟨r, ok⟩
  have HG2 := Lib.hid hg
  have HF := Lib.hid hf
  clear hg hf
  cases ok with
  | false =>
    go_wp2_with fail
    go_ret3
    have e0 : recAt L.sz D.s L.next 0 = (r, false) := HG.out.trans HG2.out
    refine ⟨HF.out.alloc _, ?_⟩
    unfold txL
    rw [e0]
    simp
  | true =>
    have e0 := Lib.hid (show recAt L.sz D.s L.next 0 = (r, true) from HG.out.trans HG2.out)
    by_cases hE : r.e < least
    · go_wp2_with fail
      go_ret3
      refine ⟨HF.out.alloc _, ?_⟩
      unfold txL
      rw [e0.out]
      simp [hE]
    · go_wp2_with fail
      refine (room_any q p L _ (BlkL.alloc (HH.out.1.touch HF.out id) _) hL).mono ?_
      rintro e2 w2 ⟨rfl, nq, rfl⟩
      generalize hRm : L.sz - (L.next - L.tail) = room at *
      have hrm6 : room ≤ 1000 := by have := hL.sz; omega
      have HRm := Lib.hid hRm
      clear hRm
      by_cases hC : r.c ≥ room
      · go_wp2_with fail
        go_ret3
        refine ⟨(HF.out.alloc _).drewN nq, ?_⟩
        unfold txL
        rw [e0.out]
        simp [hC]
      · have h7 := Blk.new w1 99 #[.int .i64 r.k, .int .i64 r.e, .int .i64 r.s, .int .i64 r.t, .int .i64 r.i, .int .i64 r.c, .int .i64 r.p, .string r.d]
        go_wp2_with fail
        have H1 := Lib.hid (And.intro ((HF.out.alloc (.cells #[.int .i64 r.k, .int .i64 r.e, .int .i64 r.s, .int .i64 r.t, .int .i64 r.i, .int .i64 r.c, .int .i64 r.p, .string r.d] 99)).drewN nq) (h7.touch (S := fun _ => False) ((Touch.refl _ _).drewN nq) id))
        clear h7
        generalize (w1.alloc (.cells #[.int .i64 r.k, .int .i64 r.e, .int .i64 r.s, .int .i64 r.t, .int .i64 r.i, .int .i64 r.c, .int .i64 r.p, .string r.d] 99)).drewN nq = W at *
        generalize w1.heap.size = b7 at *
        go_loopw [10, 42] (fun u i wr => ∃ j : Nat, j ≤ r.c + 1 ∧ i = .int .i64 j ∧ (∀ x, x < j → txOk L.sz D.s L.next r x = true) ∧ wr.ownsRow w.heap.size 67 2 u (min j r.c) (imgCells (imgs L.sz D.s L.next (min j r.c))) ∧ Fresh w wr ∧ Blk wr b7 99 #[.int .i64 r.k, .int .i64 r.e, .int .i64 r.s, .int .i64 r.t, .int .i64 r.i, .int .i64 r.c, .int .i64 r.p, .string r.d]) (fun _ i _ => r.c + 1 - (intOf i).toNat)
        case atStart => exact ⟨0, Nat.zero_le _, rfl, fun x hx => absurd hx (Nat.not_lt_zero _), by simpa [imgs, imgCells] using World.ownsRow_nil _ _ _ _, H1.out.1, H1.out.2⟩
        case round =>
          obtain ⟨j, hj, rfl, hall, ho, hF, hB⟩ := hrel
          have HB := Lib.hid (And.intro hall (And.intro ho (And.intro hF hB)))
          have hlw := LogAt.kept (T := []) HH.out.1 (.of_fresh hF) (by simp)
          have c4 := BlkL.cell hlw 4
          simp only [List.getElem?_toArray, List.getElem?_cons_zero, List.getElem?_cons_succ] at c4
          have HW := Lib.hid (And.intro hlw (HH.out.2.1.fresh hF))
          clear hall ho hF hB hlw
          by_cases hlt : j < r.c + 1
          · have hlx := lread_any q p (L.next + j) L D wr HW.out.1 HW.out.2 hoff hw hL.sz hn (HH.out.2.2 _)
            rw [Int.natCast_add] at hlx
            have HLx := Lib.hid hlx
            clear hlx
            have hnx := hL.next
            go_wp2_with fail
            refine HLx.out.mono ?_
            rintro e3 w3 ⟨rfl, hf3⟩
            rcases hgx : gotL (D.s (2 + (L.next + j) % L.sz)) (L.next + j) with ⟨x, okx⟩
            have HGx := Lib.hid (show recAt L.sz D.s L.next j = (x, okx) from hgx)
            have HF3 := Lib.hid hf3
            clear hgx hf3
            go_wp2_with fail
            have hN : Fresh w3 (w3.alloc (.cells #[.int .i64 x.k, .int .i64 x.e, .int .i64 x.s, .int .i64 x.t, .int .i64 x.i, .int .i64 x.c, .int .i64 x.p, .string x.d] 99)) := (Touch.refl _ w3).alloc _
            have hz := Blk.new w3 99 #[.int .i64 x.k, .int .i64 x.e, .int .i64 x.s, .int .i64 x.t, .int .i64 x.i, .int .i64 x.c, .int .i64 x.p, .string x.d]
            have h7 := (HB.out.2.2.2.touch HF3.out id).touch hN id
            have hl := LogAt.kept (T := []) HW.out.1 (.of_fresh (HF3.out.both hN)) (by simp)
            have d1 := h7.cell 1
            have d4 := BlkL.cell hl 4
            have d6 := hz.cell 6
            have d7 := hz.cell 7
            simp only [List.getElem?_toArray, List.getElem?_cons_zero, List.getElem?_cons_succ] at d1 d4 d6 d7
            have H12 := Lib.hid (And.intro (HF3.out.both hN) (And.intro h7 (And.intro hl hz)))
            clear hN hz h7 hl
            generalize w3.alloc (.cells #[.int .i64 x.k, .int .i64 x.e, .int .i64 x.s, .int .i64 x.t, .int .i64 x.i, .int .i64 x.c, .int .i64 x.p, .string x.d] 99) = W12 at *
            generalize w3.heap.size = b12 at *
            have em : IntKind.i64.wrap ((L.next : Int) + j) = (L.next : Int) + j := by rw [IntKind.wrap_i64]; omega
            go_region_held3 (fun w' => w'.cell? ⟨b7, 1, none⟩ = some (.int .i64 r.e) ∧ w'.cell? ⟨q, 4, none⟩ = some (.int .i64 L.next) ∧ w'.cell? ⟨b12, 6, none⟩ = some (.int .i64 x.p) ∧ w'.cell? ⟨b12, 7, none⟩ = some (.string x.d))
              (first | go_keep)
              (fail)
            clear d1 d4 d6 d7 em
            have hN : Fresh W12 (W12.alloc (.cells #[.int .i64 1, .int .i64 r.e, .int .i64 ((L.next : Int) + j), .int .i64 L.next, .int .i64 j, .int .i64 r.c, .int .i64 x.p, .string x.d] 99)).drew := ((Touch.refl _ W12).alloc _).drew
            have hw14 : Blk (W12.alloc (.cells #[.int .i64 1, .int .i64 r.e, .int .i64 ((L.next : Int) + j), .int .i64 L.next, .int .i64 j, .int .i64 r.c, .int .i64 x.p, .string x.d] 99)).drew W12.heap.size 99 #[.int .i64 1, .int .i64 r.e, .int .i64 ((L.next : Int) + j), .int .i64 L.next, .int .i64 j, .int .i64 r.c, .int .i64 x.p, .string x.d] := (Blk.new W12 99 _).touch (S := fun _ => False) (Touch.refl _ _).drew id
            have H14 := Lib.hid (And.intro (H12.out.1.both hN) (And.intro (H12.out.2.1.touch hN id) (And.intro (LogAt.kept (T := []) H12.out.2.2.1 (.of_fresh hN) (by simp)) (And.intro (H12.out.2.2.2.touch hN id) hw14))))
            have nb : b12 < W12.heap.size := H12.out.2.2.2.lt
            have nb2 : wr.heap.size ≤ W12.heap.size := H12.out.1.size
            clear hN hw14
            generalize (W12.alloc (.cells #[.int .i64 1, .int .i64 r.e, .int .i64 ((L.next : Int) + j), .int .i64 L.next, .int .i64 j, .int .i64 r.c, .int .i64 x.p, .string x.d] 99)).drew = W14 at *
            generalize W12.heap.size = b14 at *
            have a0 := H14.out.2.2.2.1.cell 0
            have a1 := H14.out.2.2.2.1.cell 1
            have a2 := H14.out.2.2.2.1.cell 2
            have a3 := H14.out.2.2.2.1.cell 3
            have a4 := H14.out.2.2.2.1.cell 4
            have a5 := H14.out.2.2.2.1.cell 5
            have a6 := H14.out.2.2.2.1.cell 6
            have a7 := H14.out.2.2.2.1.cell 7
            have z0 := H14.out.2.2.2.2.cell 0
            have z1 := H14.out.2.2.2.2.cell 1
            have z2 := H14.out.2.2.2.2.cell 2
            have z3 := H14.out.2.2.2.2.cell 3
            have z4 := H14.out.2.2.2.2.cell 4
            have z5 := H14.out.2.2.2.2.cell 5
            have z6 := H14.out.2.2.2.2.cell 6
            have z7 := H14.out.2.2.2.2.cell 7
            have zf := H14.out.2.2.2.2.soft 0
            simp only [List.getElem?_toArray, List.getElem?_cons_zero, List.getElem?_cons_succ] at a0 a1 a2 a3 a4 a5 a6 a7 z0 z1 z2 z3 z4 z5 z6 z7
            by_cases hjc : j = r.c
            · have hF14 := Lib.hid (show Fresh w (W14.setCell ⟨b14, 0, none⟩ (.int .i64 2)) from ((HB.out.2.2.1.both H14.out.1).setCell _ _ (fun hh => absurd (show b14 < w.heap.size from hh) (by have := HB.out.2.2.1.size; omega))))
              cases okx with
              | false =>
                go_wp2_with fail
                go_ret3
                exact txPost_none (txL_none e0.out (show j ≤ r.c by omega) (txOk_no HGx.out)) hF14.out
              | true =>
                go_wp2_with fail
                · go_roundw
                  case rel =>
                    have hx : x = wantL r L.next j x := want_eq (k := 2) (by rw [if_pos hjc]) (by omega) (by omega) (by omega) (by omega) (by omega) (by omega)
                    refine ⟨j + 1, by omega, by subst hjc; go_num, ?_, ?_, hF14.out, ?_⟩
                    · intro y hy
                      by_cases h2 : y = j
                      · subst h2; exact txOk_yes HGx.out hx
                      · exact HB.out.1 y (by omega)
                    · have e9 : min (j + 1) r.c = min j r.c := by omega
                      rw [e9]
                      exact own_kept (own_fresh HB.out.2.1 H14.out.1) (Kept.store (T := [some 99]) ⟨H14.out.2.2.2.2, by have := HB.out.2.2.1.size; omega⟩ (by simp) 0 (.int .i64 2)) (by decide)
                    · exact H14.out.2.1.setOther (by have := HB.out.2.2.2.lt; omega) 0 _
                  case measure => simp [intOf]; omega
                all_goals
                  go_ret3
                  refine txPost_none (txL_none e0.out (show j ≤ r.c by omega) (txOk_ne HGx.out (fun e0' => ?_))) hF14.out
                  have e1 := congrArg LR.k e0'
                  have e2 := congrArg LR.e e0'
                  have e3 := congrArg LR.s e0'
                  have e4 := congrArg LR.t e0'
                  have e5 := congrArg LR.i e0'
                  have e6 := congrArg LR.c e0'
                  simp only [wantL] at e1 e2 e3 e4 e5 e6
                  rw [if_pos hjc] at e1
                  omega
            · cases okx with
              | false =>
                go_wp2_with fail
                go_ret3
                exact txPost_none (txL_none e0.out (show j ≤ r.c by omega) (txOk_no HGx.out)) (HB.out.2.2.1.both H14.out.1)
              | true =>
                go_wp2_with (at_builtin; refine wpList_append_own_at _ rfl _ _ 65 rfl w.heap.size 67 i0 (.agg #[.int .i64 0, .string ⟨#[]⟩]) 2 24 Tryz.underlying65 hi hz0 hz1 hz2 rfl (by decide) _ _ _ rfl ((own_fresh HB.out.2.1 H14.out.1).alloc _) ⟨W14.heap.size, 0, none⟩ 1 1 [.int .i64 x.p, .string x.d] rfl rfl ?c1 ?c2 ?c3 ?c4 ?c5 ?_)
                case c1 => exact many_at W14 #[.int .i64 x.p, .string x.d] 67
                case c2 => intro u hu; simp at hu; rcases hu with rfl | rfl <;> rfl
                case c3 => unfold maxLen; omega
                case c4 => omega
                case c5 => have := HB.out.2.2.1.size; have := H14.out.1.size; simp; omega
                · intro v' w1' hown1 hg1 _ hat
                  have hx : x = wantL r L.next j x := want_eq (k := 1) (by rw [if_neg hjc]) (by omega) (by omega) (by omega) (by omega) (by omega) (by omega)
                  have R := Lib.hid (And.intro hx (And.intro hown1 (And.intro (Touch.grownNew ((HB.out.2.2.1.both H14.out.1).alloc (.cells #[.int .i64 x.p, .string x.d] 67)) ((own_fresh HB.out.2.1 H14.out.1).alloc _) (Nat.le_refl _) hg1) (Blk.kept H14.out.2.1 (Kept.grow (own_fresh HB.out.2.1 H14.out.1) hlo hg1) (by decide)))))
                  clear hx hown1 hg1 hat
                  go_wp2_with fail
                  go_roundw
                  case rel =>
                    refine ⟨j + 1, by omega, by go_num, ?_, ?_, R.out.2.2.1, R.out.2.2.2⟩
                    · intro y hy
                      by_cases h2 : y = j
                      · subst h2; exact txOk_yes HGx.out R.out.1
                      · exact HB.out.1 y (by omega)
                    · have e9 : min (j + 1) r.c = min j r.c + 1 := by omega
                      have e8 : min j r.c = j := by omega
                      rw [e9, imgs_succ, imgCells_append, e8, HGx.out]
                      have := R.out.2.1
                      rw [e8] at this
                      exact this
                  case measure => simp [intOf]; omega
                all_goals
                  go_ret3
                  refine txPost_none (txL_none e0.out (show j ≤ r.c by omega) (txOk_ne HGx.out (fun e0' => ?_))) (HB.out.2.2.1.both H14.out.1)
                  have e1 := congrArg LR.k e0'
                  have e2 := congrArg LR.e e0'
                  have e3 := congrArg LR.s e0'
                  have e4 := congrArg LR.t e0'
                  have e5 := congrArg LR.i e0'
                  have e6 := congrArg LR.c e0'
                  simp only [wantL] at e1 e2 e3 e4 e5 e6
                  rw [if_neg hjc] at e1
                  omega
          · obtain rfl : j = r.c + 1 := by omega
            have d1 := HB.out.2.2.2.cell 1
            simp only [List.getElem?_toArray, List.getElem?_cons_zero, List.getElem?_cons_succ] at d1
            go_wp2_with fail
            go_region
            all_goals
              go_wp2_with fail
              go_ret3
              have e9 : min (r.c + 1) r.c = r.c := by omega
              have h9 := HB.out.2.1
              rw [e9] at h9
              exact txPost_some (txL_some e0.out hE hC HB.out.1) (imgs_length _ _ _ _).symm HB.out.2.2.1.drew h9

end Go.Proofs.YtcpelncjagaadaaGreatDoor
