/-
  page: newest.
-/
import Derived.Test.YtcpelncjagaadaaGreatDoorXP
namespace Go.Proofs.YtcpelncjagaadaaGreatDoor
open Go.RowKit Go.Maps

attribute [local go_sem ↓] Go.wp_at_zero Go.wp_at_succ

abbrev T3 : Type := Nat × Nat × Nat
def supOf (x : Sec Rec) : Option T3 := if x.torn = true then none else match x.b with
  | some (.sup g e t) => some (g, e, t)
  | _ => none
def better (a b : Option T3) : Option T3 := match b with
  | none => a
  | some y => match a with
    | none => some y
    | some x => if y.1 > x.1 then some y else some x
def bestTo (s : Nat → Sec Rec) : Nat → Option T3
  | 0 => none
  | j + 1 => better (bestTo s j) (supOf (s j))
/-- A super's sector. -/
def SupSec (x : Sec Rec) : Prop := ∀ r, x.b = some r → ∃ g e t, r = .sup g e t ∧ r.ok
def t3Cs (o : Option T3) : Array Value := #[.int .i64 (o.getD (0, 0, 0)).1, .int .i64 (o.getD (0, 0, 0)).2.1, .int .i64 (o.getD (0, 0, 0)).2.2]
def foundOf : Option T3 → Int
  | none => 2
  | some _ => 0

theorem sup_set {w : World} {b : Nat} {o : Option T3} (h : Blk w b 55 (t3Cs o)) (g e t : Nat) : Blk (((w.setCell ⟨b, 0, none⟩ (.int .i64 g)).setCell ⟨b, 1, none⟩ (.int .i64 e)).setCell ⟨b, 2, none⟩ (.int .i64 t)) b 55 (t3Cs (some (g, e, t))) := by
  have hh := Blk.set (Blk.set (Blk.set h 0 (.int .i64 g)) 1 (.int .i64 e)) 2 (.int .i64 t)
  unfold t3Cs at *
  simp only [List.setIfInBounds_toArray, List.set_cons_zero, List.set_cons_succ] at hh
  exact hh

set_option maxRecDepth 100000 in
set_option maxHeartbeats 8000000 in
theorem newest_any [Inhabited Bs] (p : Nat) (D : RD) (w : World) (h : DevAt Rec.bytes w p D) (hoff : D.off = false) (hw : D.waits = []) (hn : 2 ≤ D.n) (hs : ∀ j, j < 2 → SupSec (D.s j)) (g e t : Nat) (hb : bestTo D.s 2 = some (g, e, t)) (hg : g ≤ 1000000 ∧ e ≤ 1000000 ∧ t ≤ 1000000) :
    Calls Tryz.prog 21 #[.pointer (some ⟨p, 0, none⟩)] w fun ee w' => ee = .returned (.tuple #[.agg #[.int .i64 g, .int .i64 e, .int .i64 t], .int .i64 0]) ∧ Fresh w w' := by
  have HH := Lib.hid (And.intro h (And.intro hs hb))
  have HF := Lib.hid (((Touch.refl (fun _ => False) w).alloc (.cells #[.int .i64 0, .int .i64 0, .int .i64 0] 55)).alloc (.cells #[.int .i64 0, .int .i64 0, .int .i64 0] 55))
  have HB := Lib.hid (And.intro ((Blk.new w 55 (t3Cs none)).alloc (.cells #[.int .i64 0, .int .i64 0, .int .i64 0] 55)) (Blk.new (w.alloc (.cells #[.int .i64 0, .int .i64 0, .int .i64 0] 55)) 55 (t3Cs none)))
  clear h hs hb
  go_enter Tryz.func21, Tryz.ntmps21
  go_wp2_with fail
  go_loopw [5, 11] (fun f i wr => ∃ j : Nat, j ≤ 2 ∧ i = .int .i64 j ∧ f = .int .i64 (foundOf (bestTo D.s j)) ∧ Blk wr w.heap.size 55 (t3Cs none) ∧ Blk wr (w.heap.size + 1) 55 (t3Cs (bestTo D.s j)) ∧ Fresh w wr) (fun _ i _ => 2 - (intOf i).toNat)
  case atStart => exact ⟨0, by omega, rfl, rfl, HB.out.1, by have := HB.out.2; rw [World.size_alloc] at this; exact this, HF.out⟩
  case round =>
    obtain ⟨j, hj, rfl, rfl, hb2, hb4, hF⟩ := hrel
    have HR := Lib.hid (And.intro hb2 (And.intro hb4 hF))
    clear hb2 hb4 hF
    by_cases hlt : j < 2
    · go_wp2_with fail
      have hrd := read_any p D j wr (HH.out.1.fresh HR.out.2.2) hoff hw (by omega) (fun r hr => by
        obtain ⟨g, e, t, rfl, hok⟩ := HH.out.2.1 j hlt r hr
        have := Rec.bytes_length hok; omega)
      refine hrd.mono ?_
      clear hrd
      intro e1 w1 hg1
      unfold ReadPost at hg1
      obtain ⟨o, ho⟩ : ∃ o, bestTo D.s j = o := ⟨_, rfl⟩
      have HO := Lib.hid ho
      rw [ho] at HR
      rcases hx : D.s j with ⟨b, tn⟩
      rw [hx] at hg1
      have HX := Lib.hid hx
      have hsup := HH.out.2.1 j hlt
      rw [hx] at hsup
      rw [ho]
      clear ho hx
      cases tn with
      | true =>
        simp only [if_true] at hg1
        obtain ⟨rfl, hf1⟩ := hg1
        have H1 := Lib.hid hf1
        clear hf1
        go_wp2_with fail
        go_roundw
        case rel =>
          have e9 : bestTo D.s (j + 1) = bestTo D.s j := by show better (bestTo D.s j) (supOf (D.s j)) = _; rw [HX.out]; rfl
          rw [HO.out] at e9
          exact ⟨j + 1, by omega, by go_num, by rw [e9], HR.out.1.touch H1.out id, by rw [e9]; exact HR.out.2.1.touch H1.out id, HR.out.2.2.both H1.out⟩
        case measure => simp [intOf]; omega
      | false =>
        cases b with
        | none =>
          have hg1 : OkBytes noughts wr e1 w1 := hg1
          obtain ⟨v1, rfl, ho1, hf1⟩ := hg1
          have H1 := Lib.hid (And.intro ho1 hf1)
          clear ho1 hf1
          go_wp2_with fail
          refine (decodeSuper_noughts v1 _ (.own H1.out.1)).mono ?_
          rintro e2 w2 ⟨rfl, hf2⟩
          have H2 := Lib.hid (H1.out.2.both hf2)
          clear hf2
          go_wp2_with fail
          have H3 := Lib.hid (H2.out.alloc (.cells #[.int .i64 0, .int .i64 0, .int .i64 0] 55))
          go_roundw
          case rel =>
            have e9 : bestTo D.s (j + 1) = bestTo D.s j := by show better (bestTo D.s j) (supOf (D.s j)) = _; rw [HX.out]; rfl
            rw [HO.out] at e9
            exact ⟨j + 1, by omega, by go_num, by rw [e9], HR.out.1.touch H3.out id, by rw [e9]; exact HR.out.2.1.touch H3.out id, HR.out.2.2.both H3.out⟩
          case measure => simp [intOf]; omega
        | some r =>
          obtain ⟨g1, t1, s1, rfl, hok⟩ := hsup r rfl
          have hg1 : OkBytes (Rec.sup g1 t1 s1).bytes wr e1 w1 := hg1
          obtain ⟨v1, rfl, ho1, hf1⟩ := hg1
          have H1 := Lib.hid (And.intro ho1 hf1)
          clear ho1 hf1
          go_wp2_with fail
          refine (decodeSuper_any g1 t1 s1 v1 _ hok (.own H1.out.1)).mono ?_
          rintro e2 w2 ⟨rfl, hf2⟩
          have hf3 := H1.out.2.both hf2
          have hf4 := hf3.alloc (.cells #[.int .i64 g1, .int .i64 t1, .int .i64 s1] 55)
          have H3 := Lib.hid (And.intro hf4 (And.intro (HR.out.1.touch hf4 id) (HR.out.2.1.touch hf4 id)))
          have hn9 := Blk.new w2 55 #[.int .i64 g1, .int .i64 t1, .int .i64 s1]
          clear hf2 hf3 hf4
          have k0 := H3.out.2.2.cell 0
          have k1 := H3.out.2.2.cell 1
          have k2 := H3.out.2.2.cell 2
          have f0 := H3.out.2.2.soft 0
          have f1 := H3.out.2.2.soft 1
          have f2 := H3.out.2.2.soft 2
          have z0 := hn9.cell 0
          have z1 := hn9.cell 1
          have z2 := hn9.cell 2
          unfold t3Cs at k0 k1 k2
          simp only [List.getElem?_toArray, List.getElem?_cons_zero, List.getElem?_cons_succ] at k0 k1 k2 z0 z1 z2
          clear hn9
          cases o with
          | none =>
            simp only [Option.getD_none] at k0 k1 k2
            go_wp2_with fail
            go_roundw
            case rel =>
              have e9 : bestTo D.s (j + 1) = some (g1, t1, s1) := by show better (bestTo D.s j) (supOf (D.s j)) = _; rw [HX.out, HO.out]; simp [supOf, better]
              exact ⟨j + 1, by omega, by go_num, by rw [e9]; rfl, ((H3.out.2.1.setOther (by omega) 0 _).setOther (by omega) 1 _).setOther (by omega) 2 _, by rw [e9]; exact sup_set H3.out.2.2 g1 t1 s1, (((HR.out.2.2.both H3.out.1).setCell _ _ (fun hh => absurd hh (by simp))).setCell _ _ (fun hh => absurd hh (by simp))).setCell _ _ (fun hh => absurd hh (by simp))⟩
            case measure => simp [intOf]; omega
          | some x =>
            simp only [Option.getD_some] at k0 k1 k2
            by_cases hgt : x.1 < g1
            · have t2 : decide ((g1 : Int) > x.1) = true := by simp; omega
              go_wp2_with fail
              go_roundw
              case rel =>
                have e9 : bestTo D.s (j + 1) = some (g1, t1, s1) := by show better (bestTo D.s j) (supOf (D.s j)) = _; rw [HX.out, HO.out]; simp [supOf, better, hgt]
                exact ⟨j + 1, by omega, by go_num, by rw [e9]; rfl, ((H3.out.2.1.setOther (by omega) 0 _).setOther (by omega) 1 _).setOther (by omega) 2 _, by rw [e9]; exact sup_set H3.out.2.2 g1 t1 s1, (((HR.out.2.2.both H3.out.1).setCell _ _ (fun hh => absurd hh (by simp))).setCell _ _ (fun hh => absurd hh (by simp))).setCell _ _ (fun hh => absurd hh (by simp))⟩
              case measure => simp [intOf]; omega
            · have t2 : decide ((g1 : Int) > x.1) = false := by simp; omega
              go_wp2_with fail
              go_roundw
              case rel =>
                have e9 : bestTo D.s (j + 1) = some x := by show better (bestTo D.s j) (supOf (D.s j)) = _; rw [HX.out, HO.out]; simp [supOf, better, hgt]
                exact ⟨j + 1, by omega, by go_num, by rw [e9]; rfl, H3.out.2.1, by rw [e9]; exact H3.out.2.2, HR.out.2.2.both H3.out.1⟩
              case measure => simp [intOf]; omega
    · obtain rfl : j = 2 := by omega
      have hB := HR.out.2.1
      rw [HH.out.2.2] at hB ⊢
      have k0 := hB.cell 0
      have k1 := hB.cell 1
      have k2 := hB.cell 2
      have z0 := HR.out.1.cell 0
      have z1 := HR.out.1.cell 1
      have z2 := HR.out.1.cell 2
      have f0 := HR.out.1.soft 0
      have f1 := HR.out.1.soft 1
      have f2 := HR.out.1.soft 2
      unfold t3Cs at k0 k1 k2 z0 z1 z2
      simp only [Option.getD_some, Option.getD_none, List.getElem?_toArray, List.getElem?_cons_zero, List.getElem?_cons_succ] at k0 k1 k2 z0 z1 z2
      clear hB
      have q0 : (wr.setCell ⟨w.heap.size, 0, none⟩ (.int .i64 g)).cell? ⟨w.heap.size, 0, none⟩ = some (.int .i64 g) := cell_at z0 _
      have q1 : ((wr.setCell ⟨w.heap.size, 0, none⟩ (.int .i64 g)).setCell ⟨w.heap.size, 1, none⟩ (.int .i64 e)).cell? ⟨w.heap.size, 1, none⟩ = some (.int .i64 e) := cell_at ((cell_off (by simp)).trans z1) _
      have q2 : (((wr.setCell ⟨w.heap.size, 0, none⟩ (.int .i64 g)).setCell ⟨w.heap.size, 1, none⟩ (.int .i64 e)).setCell ⟨w.heap.size, 2, none⟩ (.int .i64 t)).cell? ⟨w.heap.size, 2, none⟩ = some (.int .i64 t) := cell_at ((cell_off (by simp)).trans ((cell_off (by simp)).trans z2)) _
      have Q := Lib.hid (And.intro q0 (And.intro q1 q2))
      clear q0 q1 q2
      go_wp2_with fail
      all_goals
        obtain ⟨q0, q1, q2⟩ := Q.out
        exact bodyPost_ret (v := .tuple #[.agg #[.int .i64 g, .int .i64 e, .int .i64 t], .int .i64 0]) (by simp [results, Tryz.results21, go_sem, q0, q1, q2, foundOf]) rfl ⟨rfl, ((HR.out.2.2.setNew _ _).setNew _ _).setNew _ _⟩

end Go.Proofs.YtcpelncjagaadaaGreatDoor
