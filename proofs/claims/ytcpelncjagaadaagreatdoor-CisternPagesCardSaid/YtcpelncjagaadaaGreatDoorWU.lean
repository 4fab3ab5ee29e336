/-
  flash: Flush.
-/
import Derived.Test.YtcpelncjagaadaaGreatDoorWT
namespace Go.Proofs.YtcpelncjagaadaaGreatDoor
open Go.RowKit

attribute [local go_sem ↓] Go.wp_at_zero Go.wp_at_succ
variable {α : Type}

def lastAll (s : Nat → Sec α) (l : List (Nat × α)) : Nat → Sec α := l.foldl (fun s x => upd s x.1 ⟨some x.2, false⟩) s
theorem lastAll_take (s : Nat → Sec α) (l : List (Nat × α)) (j : Nat) (h : j < l.length) : lastAll s (l.take (j + 1)) = upd (lastAll s (l.take j)) (l[j]).1 ⟨some (l[j]).2, false⟩ := by
  unfold lastAll
  rw [List.take_succ_eq_append_getElem h, List.foldl_append]
  rfl
def Dev.flush (D : Dev α) : Int × Dev α :=
  if D.spend.1 = true then (0, { D.spend.2 with s := lastAll D.s D.waits, waits := [] }) else (4, D.spend.2)
theorem spend_waits (D : Dev α) : D.spend.2.waits = D.waits := by unfold Dev.spend; split <;> (try split) <;> (try split) <;> rfl
theorem spend_s (D : Dev α) : D.spend.2.s = D.s := by unfold Dev.spend; split <;> (try split) <;> (try split) <;> rfl
theorem spend_n (D : Dev α) : D.spend.2.n = D.n := by unfold Dev.spend; split <;> (try split) <;> (try split) <;> rfl
theorem WaitsAt.nil [Inhabited Bs] {enc : α → List Nat} (w : World) : WaitsAt enc w (.slice none 0 0) [] := ⟨[], World.ownsRow_nil _ _ _ _, fun j hj => absurd hj (by simp)⟩

set_option maxRecDepth 100000 in
set_option maxHeartbeats 4000000 in
theorem flush_any [Inhabited Bs] {enc : α → List Nat} (p : Nat) (D : Dev α) (w : World) (h : DevAt enc w p D) (hl : D.left ≤ 1000) (hw : D.waits.length ≤ 1000) (ha : ∀ x ∈ D.waits, x.1 < D.n) :
    Calls Tryz.prog 16 #[.pointer (some ⟨p, 0, none⟩)] w fun e w' => e = .returned (.int .i64 D.flush.1) ∧ DevAt enc w' p D.flush.2 ∧ Kept devT w w' := by
  have HH := Lib.hid (And.intro h ha)
  have hsp := spend_waits D
  have hss := spend_s D
  have hsn := spend_n D
  clear h ha
  go_enter Tryz.func16, Tryz.ntmps16
  go_wp2_with fail
  refine (spend_any p D _ HH.out.1 hl).mono ?_
  intro e2 w2 ⟨he, hd, hk⟩
  subst he
  cases hb : D.spend.1 with
  | false =>
    have HD := Lib.hid (And.intro hd hk)
    clear hd hk hsp hss hsn
    go_wp2_with fail
    go_ret
    exact ⟨by simp [Dev.flush, hb], by simp only [Dev.flush, hb]; exact HD.out.1, HD.out.2.mono (by simp)⟩
  | true =>
    obtain ⟨g, wv, hp, hs, hws⟩ := hd
    rw [hsp] at hws
    rw [hss, hsn] at hs
    rw [hsn] at hp
    have hws2 := hws
    obtain ⟨xs, ho, hxs⟩ := hws
    have c1 := hp.cell 1
    have f1 := hp.soft 1
    simp only [List.getElem?_toArray, List.getElem?_cons_zero, List.getElem?_cons_succ] at c1
    have HD := Lib.hid (And.intro hp (And.intro hs (And.intro ho (And.intro hxs hk))))
    obtain ⟨A2, cap2, rfl⟩ := own_form ho
    clear hp hs ho hxs hk hsp hss hsn hws2
    go_wp2_with fail
    go_loopw [17] (fun i wr => ∃ j : Nat, j ≤ D.waits.length ∧ i = .int .i64 j ∧ SecsAt enc wr g D.n (lastAll D.s (D.waits.take j)) ∧ Kept [some 81] w2 wr) (fun i _ => D.waits.length - (intOf i).toNat)
    case atStart => exact ⟨0, Nat.zero_le _, rfl, by simpa [lastAll] using HD.out.2.1, .refl _ _⟩
    case round =>
      obtain ⟨j, hj, rfl, hS, hK⟩ := hrel
      have HS := Lib.hid (And.intro hS hK)
      by_cases hlt : j < D.waits.length
      · obtain ⟨g2, rfl, -, hg2⟩ := own_addr HD.out.2.2.1 (by omega)
        obtain ⟨v, x0, x1, hv⟩ := HD.out.2.2.2.1 j hlt
        obtain ⟨A3, cap3, rfl⟩ := own_form hv
        have hor := own_kept HD.out.2.2.1 hK (by decide)
        have c2 := World.ownsRow.cellAt hor (j * 2) (by omega)
        have c3 := World.ownsRow.cellAt hor (j * 2 + 1) (by omega)
        rw [x0] at c2
        rw [x1] at c3
        have hpr := HD.out.1.kept hK (by decide)
        have hvr := hv.kept hK (by decide)
        have hat := HH.out.2 _ (List.getElem_mem hlt)
        have HP := Lib.hid (And.intro hpr hvr)
        clear hS hK x0 x1 hv hor hpr hvr
        have hlast := lastAll_take D.s D.waits j hlt
        have HL := Lib.hid hlast
        clear hlast
        generalize (D.waits[j]).1 = a at *
        generalize (D.waits[j]).2 = r at *
        go_wp2_with fail
        refine (last_any p g D.n _ _ _ _ _ a _ r _ (Blk.alloc HP.out.1.1 _) (HS.out.1.kept (T := []) ((Kept.refl _ _).alloc _) (by simp) (by simp)) (HP.out.2.kept (T := []) ((Kept.refl _ _).alloc _) (by simp)) hat).mono ?_
        rintro e3 w3 ⟨rfl, hs3, hk3⟩
        have H3 := Lib.hid (And.intro hs3 (HS.out.2.trans (((Kept.refl _ _).alloc _).trans hk3)))
        clear hs3 hk3
        go_wp2_with fail
        go_roundw
        case rel => exact ⟨j + 1, by omega, by go_num, HL.out ▸ H3.out.1, H3.out.2⟩
        case measure => simp [intOf]; omega
      · obtain rfl : j = D.waits.length := by omega
        rw [List.take_length] at hS
        have hpr := HD.out.1.kept hK (by decide)
        have c2 := hpr.cell 1
        have f2 := hpr.soft 1
        simp only [List.getElem?_toArray, List.getElem?_cons_zero, List.getElem?_cons_succ] at c2
        have HP := Lib.hid (And.intro hpr hS)
        clear hpr hS hK
        go_wp2_with fail
        go_ret
        obtain ⟨h1, h2⟩ := DevAt.newWaits HP.out.1 HP.out.2 (.nil wr)
        refine ⟨by simp [Dev.flush, hb], ?_, ?_⟩
        · simpa [Dev.flush, hb, spend_n] using h1
        · exact (HD.out.2.2.2.2.mono (by simp)).trans ((HS.out.2.mono (by simp)).trans (h2.mono (by simp)))

end Go.Proofs.YtcpelncjagaadaaGreatDoor
