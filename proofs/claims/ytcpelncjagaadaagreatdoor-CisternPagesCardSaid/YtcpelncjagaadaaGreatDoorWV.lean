/-
  flash: Crash.
-/
import Derived.Test.YtcpelncjagaadaaGreatDoorWU
namespace Go.Proofs.YtcpelncjagaadaaGreatDoor
open Go.RowKit

attribute [local go_sem ↓] Go.wp_at_zero Go.wp_at_succ
variable {α : Type}

def pickOf (x : Int) : Int := (x.tmod 3 + 3).tmod 3
theorem pickOf_cases (x : Int) : pickOf x = 0 ∨ pickOf x = 1 ∨ pickOf x = 2 := by
  have h1 : -3 < x.tmod 3 := Int.lt_tmod_of_pos x (by decide)
  have h2 : x.tmod 3 < 3 := Int.tmod_lt_of_pos x (by decide)
  unfold pickOf
  rw [Int.tmod_eq_emod_of_nonneg (by omega)]
  omega
def cstep (s : Nat → Sec α) (x : (Nat × α) × Int) : Nat → Sec α :=
  if pickOf x.2 = 1 then upd s x.1.1 ⟨some x.1.2, false⟩ else if pickOf x.2 = 2 then upd s x.1.1 ⟨(s x.1.1).b, true⟩ else s
def crashAll (s : Nat → Sec α) (l : List (Nat × α)) (L : List Int) : Nat → Sec α := (l.zip L).foldl cstep s
theorem crash_take (s : Nat → Sec α) (l : List (Nat × α)) (L : List Int) (j : Nat) (h1 : j < l.length) (h2 : j < L.length) :
    ((l.zip L).take (j + 1)).foldl cstep s = cstep (((l.zip L).take j).foldl cstep s) (l[j], L[j]) := by
  rw [List.take_succ_eq_append_getElem (by simp; omega), List.foldl_append]
  simp
def Dev.crash (D : Dev α) (L : List Int) : Dev α := { D with s := crashAll D.s D.waits L, waits := [], off := false, armed := false }

/-- A row of numbers. -/
def IntsAt (w : World) (v : Value) (L : List Int) : Prop := w.ownsRow 0 3 1 v L.length (L.map (.int .i64))

theorem DevAt.crashed [Inhabited Bs] {enc : α → List Nat} {w : World} {p g n : Nat} {wv : Value} {off armed : Bool} {left : Nat} {s : Nat → Sec α} (hb : BlkL w p 51 (devCs g n wv off armed left)) (hs : SecsAt enc w g n s) :
    DevAt enc (((w.setCell ⟨p, 1, none⟩ (.slice none 0 0)).setCell ⟨p, 2, none⟩ (.bool false)).setCell ⟨p, 3, none⟩ (.bool false)) p ⟨n, s, [], false, false, left⟩ ∧ Kept [some 51] w (((w.setCell ⟨p, 1, none⟩ (.slice none 0 0)).setCell ⟨p, 2, none⟩ (.bool false)).setCell ⟨p, 3, none⟩ (.bool false)) := by
  have b1 := hb.set 1 (.slice none 0 0)
  have b2 := b1.set 2 (.bool false)
  have b3 := b2.set 3 (.bool false)
  have k1 : Kept [some 51] w _ := .store hb (by simp) 1 (.slice none 0 0)
  have k2 := k1.trans (.store b1 (by simp) 2 (.bool false))
  have k3 := k2.trans (.store b2 (by simp) 3 (.bool false))
  exact ⟨⟨g, _, b3, hs.kept k3 (by decide) (by decide), .nil _⟩, k3⟩

set_option maxRecDepth 100000 in
set_option maxHeartbeats 8000000 in
theorem crash_any [Inhabited Bs] {enc : α → List Nat} (p : Nat) (D : Dev α) (v : Value) (L : List Int) (w : World) (h : DevAt enc w p D) (hv : IntsAt w v L) (hw : D.waits.length ≤ 1000) (ha : ∀ x ∈ D.waits, x.1 < D.n) :
    Calls Tryz.prog 11 #[.pointer (some ⟨p, 0, none⟩), v] w fun e w' => e = .returned (.tuple #[]) ∧ DevAt enc w' p (D.crash L) ∧ Kept devT w w' := by
  obtain ⟨g, wv, hp, hs, hws⟩ := h
  obtain ⟨xs, ho, hxs⟩ := hws
  have c1 := hp.cell 1
  simp only [List.getElem?_toArray, List.getElem?_cons_zero, List.getElem?_cons_succ] at c1
  have HD := Lib.hid (And.intro hp (And.intro hs (And.intro ho (And.intro hxs (And.intro hv ha)))))
  obtain ⟨A2, cap2, rfl⟩ := own_form ho
  obtain ⟨A4, cap4, rfl⟩ := own_form hv
  clear hp hs ho hxs hv ha
  go_enter Tryz.func11, Tryz.ntmps11
  go_wp2_with fail
  go_loopw [13] (fun i wr => ∃ j : Nat, j ≤ D.waits.length ∧ j ≤ L.length ∧ i = .int .i64 j ∧ SecsAt enc wr g D.n (((D.waits.zip L).take j).foldl cstep D.s) ∧ Kept [some 81] w wr) (fun i _ => D.waits.length - (intOf i).toNat)
  case atStart => exact ⟨0, Nat.zero_le _, Nat.zero_le _, rfl, by simpa using HD.out.2.1, .refl _ _⟩
  case round =>
    obtain ⟨j, hj, hj2, rfl, hS, hK⟩ := hrel
    have HS := Lib.hid (And.intro hS hK)
    by_cases hlt : j < D.waits.length
    · obtain ⟨g2, rfl, -, hg2⟩ := own_addr HD.out.2.2.1 (by omega)
      obtain ⟨v, x0, x1, hv⟩ := HD.out.2.2.2.1 j hlt
      obtain ⟨A3, cap3, rfl⟩ := own_form hv
      have hor := own_kept HD.out.2.2.1 hK (by decide)
      have c2 := World.ownsRow.cellAt hor (j * 2) (by omega)
      have c3 := World.ownsRow.cellAt hor (j * 2 + 1) (by omega)
      rw [x0] at c2
      rw [x1] at c3
      have hpr := HD.out.1.kept hK (by decide)
      have hvr := hv.kept hK (by decide)
      have hat := HD.out.2.2.2.2.2 _ (List.getElem_mem hlt)
      have HP := Lib.hid (And.intro hpr hvr)
      by_cases hlt2 : j < L.length
      · obtain ⟨g4, rfl, -, hg4⟩ := own_addr HD.out.2.2.2.2.1 (by omega)
        have c5 := World.ownsRow.cellAt (own_kept HD.out.2.2.2.2.1 hK (by decide)) j (by omega)
        have e5 : (L.map (Value.int .i64))[j]? = some (.int .i64 L[j]) := by simp [hlt2]
        rw [e5] at c5
        have HL := Lib.hid (crash_take D.s D.waits L j hlt hlt2)
        clear hS hK x0 x1 hv hor hpr hvr e5
        generalize (D.waits[j]) = ar at *
        generalize L[j] = x at *
        have c6 := ((Touch.refl (fun _ => False) wr).alloc (.cells #[.int .i64 ar.1, .slice A3 (enc ar.2).length cap3] 78)).val c5 id
        have t0 : ¬ L.length ≤ j := by omega
        have hx := pickOf_cases x
        have w2 : pickOf x = (wrap64 (x.tmod 3 + 3)).tmod 3 := by
          have hy1 : -3 < x.tmod 3 := Int.lt_tmod_of_pos x (by decide)
          have hy2 : x.tmod 3 < 3 := Int.tmod_lt_of_pos x (by decide)
          rw [show wrap64 (x.tmod 3 + 3) = x.tmod 3 + 3 by unfold wrap64; omega]
          rfl
        rw [w2] at hx
        have HX := Lib.hid w2
        clear w2
        go_upto_region 6 with fail
        generalize (wrap64 (x.tmod 3 + 3)).tmod 3 = y at *
        rcases hx with rfl | rfl | rfl
        · go_wp2_with fail
          go_roundw
          case rel => exact ⟨j + 1, by omega, by omega, by go_num, by rw [HL.out]; unfold cstep; rw [if_neg (by rw [HX.out]; decide), if_neg (by rw [HX.out]; decide)]; exact HS.out.1.kept (T := []) ((Kept.refl _ _).alloc _) (by simp) (by simp), HS.out.2.alloc _⟩
          case measure => simp [intOf]; omega
        · go_wp2_with fail
          refine (last_any p g D.n _ _ _ _ _ ar.1 _ ar.2 _ (Blk.alloc HP.out.1.1 _) (HS.out.1.kept (T := []) ((Kept.refl _ _).alloc _) (by simp) (by simp)) (HP.out.2.kept (T := []) ((Kept.refl _ _).alloc _) (by simp)) hat).mono ?_
          rintro e3 w3 ⟨rfl, hs3, hk3⟩
          have H3 := Lib.hid (And.intro hs3 (HS.out.2.trans (((Kept.refl _ _).alloc _).trans hk3)))
          clear hs3 hk3
          go_wp2_with fail
          go_roundw
          case rel => exact ⟨j + 1, by omega, by omega, by go_num, by rw [HL.out]; unfold cstep; rw [if_pos HX.out]; exact H3.out.1, H3.out.2⟩
          case measure => simp [intOf]; omega
        · go_wp2_with fail
          have hk : Fresh wr (wr.alloc (.cells #[.int .i64 ar.1, .slice A3 (enc ar.2).length cap3] 78)) := (Touch.refl _ wr).alloc _
          have hS1 := HS.out.1.kept (T := []) (.of_fresh hk) (by simp) (by simp)
          obtain ⟨v0, -, -, d1, df⟩ := hS1.cell hat
          have f1 := df (ar.1 * 2 + 1)
          clear df
          have k0 := (Blk.alloc HP.out.1.1 (.cells #[.int .i64 ar.1, .slice A3 (enc ar.2).length cap3] 78)).cell 0
          simp only [List.getElem?_toArray, List.getElem?_cons_zero] at k0
          have b0 : (wr.alloc (.cells #[.int .i64 ar.1, .slice A3 (enc ar.2).length cap3] 78)).cell? ⟨wr.heap.size, 0, none⟩ = some (.int .i64 ar.1) := by rw [World.cell?_alloc_at _ _ _ _ rfl]; rfl
          obtain ⟨cs, hgb, -⟩ := HS.out.1
          have n1 : g ≠ p := Blk.ne hgb.1 HP.out.1.1 (by decide)
          have n2 : g ≠ wr.heap.size := by have := hgb.lt; omega
          have HT := Lib.hid (And.intro hS1 (HS.out.2.fresh hk))
          have hi1 : (0 : Int) ≤ ar.1 := by omega
          have hi2 : (ar.1 : Int) < D.n := by omega
          clear hS1 hk hgb
          generalize wr.alloc (.cells #[.int .i64 ar.1, .slice A3 (enc ar.2).length cap3] 78) = w1 at *
          generalize wr.heap.size = bx at *
          go_region_held3 (fun w' => w'.cell? ⟨p, 0, none⟩ = some (.slice (some ⟨g, 0, none⟩) D.n D.n) ∧ w'.cell? ⟨bx, 0, none⟩ = some (.int .i64 ar.1))
            (first | go_keep | exact ⟨(cell_far2 n1).trans k0, (cell_far2 n2).trans b0⟩)
            (fail)
          go_wp2_with fail
          obtain ⟨h1, h2⟩ := HT.out.1.tear ar.1 true
          go_roundw
          case rel => exact ⟨j + 1, by omega, by omega, by go_num, by rw [HL.out]; unfold cstep; rw [if_neg (by rw [HX.out]; decide), if_pos HX.out]; exact h1.kept (T := []) (.of_fresh (Touch.refl _ _).drew) (by simp) (by simp), (HT.out.2.trans h2).drew⟩
          case measure => simp [intOf]; omega
      · obtain rfl : j = L.length := by omega
        have hfin : (D.waits.zip L).take L.length = D.waits.zip L := List.take_of_length_le (by simp; omega)
        rw [hfin] at hS
        have hpa := BlkL.alloc hpr (.cells #[.int .i64 (D.waits[L.length]).1, .slice A3 (enc (D.waits[L.length]).2).length cap3] 78)
        have m1 := hpa.cell 1
        have m2 := hpa.cell 2
        have m3 := hpa.cell 3
        have s1 := hpa.soft 1
        have s2 := hpa.soft 2
        have s3 := hpa.soft 3
        simp only [List.getElem?_toArray, List.getElem?_cons_zero, List.getElem?_cons_succ] at m1 m2 m3
        have HF := Lib.hid (And.intro hpa (And.intro hS hK))
        clear hS hK x0 x1 hv hor hpr hpa hvr hfin
        go_wp2_with fail
        obtain ⟨h1, h2⟩ := DevAt.crashed HF.out.1 (HF.out.2.1.kept (T := []) ((Kept.refl _ _).alloc _) (by simp) (by simp))
        exact bodyPost_end (results_none rfl _ _ _) rfl ⟨rfl, h1, ((HF.out.2.2.mono (by simp)).alloc _).trans (h2.mono (by simp))⟩
    · obtain rfl : j = D.waits.length := by omega
      have hpr := HD.out.1.kept hK (by decide)
      have hfin : (D.waits.zip L).take D.waits.length = D.waits.zip L := List.take_of_length_le (by simp; omega)
      rw [hfin] at hS
      have m1 := hpr.cell 1
      have m2 := hpr.cell 2
      have m3 := hpr.cell 3
      have s1 := hpr.soft 1
      have s2 := hpr.soft 2
      have s3 := hpr.soft 3
      simp only [List.getElem?_toArray, List.getElem?_cons_zero, List.getElem?_cons_succ] at m1 m2 m3
      have HF := Lib.hid (And.intro hpr (And.intro hS hK))
      clear hS hK hpr hfin
      go_wp2_with fail
      obtain ⟨h1, h2⟩ := DevAt.crashed HF.out.1 HF.out.2.1
      exact bodyPost_end (results_none rfl _ _ _) rfl ⟨rfl, h1, (HF.out.2.2.mono (by simp)).trans (h2.mono (by simp))⟩

end Go.Proofs.YtcpelncjagaadaaGreatDoor
