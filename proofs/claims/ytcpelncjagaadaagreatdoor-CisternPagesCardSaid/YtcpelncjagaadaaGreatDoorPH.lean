/-
  CisternPages' walk.
-/
import Derived.Test.YtcpelncjagaadaaGreatDoorPG
namespace Go.Proofs.YtcpelncjagaadaaGreatDoor
open Go.RowKit Go.Maps

attribute [local go_sem ↓] Go.wp_at_zero Go.wp_at_succ

set_option maxRecDepth 100000 in
set_option maxHeartbeats 16000000 in
theorem pages_walk (v : Value) (steps : List StepC) (w : World) (h : ReadsSteps v steps w) :
    Calls Tryz.prog 3 #[v] w fun e w' => e = .returned (.bool true) ∧ Fresh w w' := by
  letI : Inhabited Bs := ⟨w.heap.size⟩
  have hlo : lo ≤ w.heap.size := Nat.le_refl _
  suffices hh : Calls Tryz.prog 3 #[v] w fun e w' => e = .returned (.bool true) ∧ Kept stoT w w' from hh.mono fun e w' h => ⟨h.1, fresh_of_kept h.2⟩
  obtain ⟨i0, hi, hz0, hz1, hz2⟩ := info_parts Tryz.info3
  obtain ⟨ao, cap, rfl, hst⟩ := h
  have HS := Lib.hid hst
  clear hst
  go_enter Tryz.func3, Tryz.ntmps3
  go_wp2_with fail
  refine (awake_any w hlo).mono ?_
  rintro e1 w1 ⟨rfl, hk1⟩
  have H1 := Lib.hid (hk1.mono (U := stoT) (by simp))
  clear hk1
  go_wp2_with fail
  refine (new_any Rec.bytes 20 w1 (Nat.le_trans hlo H1.out.size) (by decide) (by decide)).mono ?_
  rintro e2 w2 ⟨p, rfl, hd2, hf2⟩
  have H2 := Lib.hid (And.intro hd2 (H1.out.fresh hf2))
  clear hd2 hf2 H1
  go_wp2_with fail
  refine (format_any p 6 10 _ w2 H2.out.1 (by decide) (by decide) (by decide) (by decide)).mono ?_
  rintro e3 w3 ⟨rfl, hd3, hk3⟩
  obtain ⟨f1, f2, f3, f4, f5, f6, f7⟩ := format_law 20 6 10 (by decide)
  have e20 : (Dev.new 20 : RD).n = 20 := rfl
  rw [e20] at hd3 ⊢
  generalize ((Dev.new 20 : RD).sup 1 0 0) = X3 at hd3 f1 f2 f3 f4 f5 f6 f7 ⊢
  obtain ⟨x3, D3⟩ := X3
  simp only at hd3 f1 f2 f3 f4 f5 f6 f7 ⊢
  subst f1
  have H3 := Lib.hid (And.intro hd3 (H2.out.2.trans (hk3.mono (by simp))))
  clear hd3 hk3 H2
  have HF := Lib.hid (And.intro f2 (And.intro f3 (And.intro f4 (And.intro f5 (And.intro f6 f7)))))
  clear f2 f3 f4 f5 f6 f7 e20
  go_wp2_with fail
  refine (mount_law p 6 10 1 D3 w3 H3.out.1 HF.out.1 HF.out.2.1 HF.out.2.2.1 (by decide) (by decide) (by rw [HF.out.2.2.2.1]; decide) (by rw [HF.out.2.2.2.2.1]; decide) (by decide) HF.out.2.2.2.2.2).mono ?_
  rintro e4 w4 ⟨a, S, D, txs, C, rfl, hS, hon, hC, m1, m2, m3, m4, m5, m6, m7, m8, hk4⟩
  have HR : Hid (Round w w4 a p 3 ⟨#[]⟩ ⟨#[]⟩) := Lib.hid ⟨⟨S, D, hS, by have := Play.of_on (b := 3) hon m1 m2 (by omega) (by omega) (by omega) (by omega) m6 (by rw [hC]); rw [hC] at this; exact this⟩, H3.out.2.trans hk4⟩
  clear hS hon hC m1 m2 m3 m4 m5 m6 m7 m8 hk4 HF H3
  clear S D txs C
  go_wp2_with fail
  go_loopw [5, 6, 7, 8] (fun st sv mv i wr => ∃ (j a : Nat) (s m : ByteArray), j ≤ 60 ∧ j ≤ steps.length ∧ st = .pointer (some ⟨a, 0, none⟩) ∧ sv = .string s ∧ mv = .string m ∧ i = .int .i64 j ∧ Round w wr a p (3 + 2 * j) s m) (fun st sv mv i _ => steps.length - (intOf i).toNat)
  case atStart => exact ⟨0, a, _, _, by omega, by omega, rfl, rfl, rfl, rfl, HR.out⟩
  case round =>
    clear HR
    obtain ⟨j, a, s, m, hj, hl, rfl, rfl, rfl, rfl, hR⟩ := hrel
    have H := Lib.hid hR
    clear hR
    by_cases hlt : j < steps.length ∧ j < 60
    · obtain ⟨hlt, hlt2⟩ := hlt
      obtain ⟨x, hx⟩ : ∃ x, steps[j]? = some x := ⟨steps[j], List.getElem?_eq_getElem hlt⟩
      obtain ⟨g, o, rfl, hg, hc⟩ := HS.out (by omega)
      have X := Lib.hid ((hc j x hx).fresh hg (fresh_of_kept H.out.k))
      clear hc hg hx
      have c0 := X.out.c0
      have c1 := X.out.c1
      have c2 := X.out.c2
      have c3 := X.out.c3
      have c4 := X.out.c4
      have c5 := X.out.c5
      have xr := X.out.l
      have xn := X.out.n
      obtain ⟨k, xa, xb, xs, xt, xv, xl⟩ := x
      simp only at c0 c1 c2 c3 c4 c5 xr xn
      have XR := Lib.hid xr
      obtain ⟨xo, xc, rfl, -⟩ := xr
      have XN := Lib.hid xn
      clear xn X
      have hB := Blk.new wr 34 #[.int .i64 k, .int .i64 xa, .int .i64 xb, .string xs, .string xt, .slice xo xl.length xc]
      have hfa := (Touch.refl (fun _ => False) wr).alloc (.cells #[.int .i64 k, .int .i64 xa, .int .i64 xb, .string xs, .string xt, .slice xo xl.length xc] 34)
      have HB := Lib.hid (And.intro (H.out.fresh hfa) (And.intro hB (XR.out.fresh hfa)))
      clear hB hfa
      go_upto_region 14 with fail
      clear c0 c1 c2 c3 c4 c5
      generalize (wr.alloc (.cells #[.int .i64 k, .int .i64 xa, .int .i64 xb, .string xs, .string xt, .slice xo xl.length xc] 34)) = ws at HB ⊢
      generalize wr.heap.size = gb at HB ⊢
      have d0 := HB.out.2.1.cell 0
      have d1 := HB.out.2.1.cell 1
      have d3 := HB.out.2.1.cell 3
      have d5 := HB.out.2.1.cell 5
      simp only [List.getElem?_toArray, List.getElem?_cons_zero, List.getElem?_cons_succ] at d0 d1 d3 d5
      by_cases k1 : k = 1
      · subst k1
        clear d1 d5
        by_cases hv : xs.size > 160
        · have t1 : decide ((xs.size : Int) > 160) = true := by simp; omega
          go_wp2_with fail
          go_ret
          exact ⟨rfl, HB.out.1.k⟩
        · have t1 : decide ((xs.size : Int) > 160) = false := by simp; omega
          have HV := Lib.hid (show xs.size ≤ 160 by omega)
          clear hv
          go_wp2_with fail
          refine (HB.out.1.put1 HV.out).mono ?_
          rintro e5 w5 ⟨rfl, h5, k5⟩
          have H5 := Lib.hid (And.intro h5 (HB.out.2.1.kept k5 (by decide)))
          clear h5 k5 d0 d3
          have d3 := H5.out.2.cell 3
          simp only [List.getElem?_toArray, List.getElem?_cons_zero, List.getElem?_cons_succ] at d3
          go_wp2_with fail
          refine (H5.out.1.put2 HV.out).mono ?_
          rintro e6 w6 ⟨rfl, h6, k6⟩
          have H6 := Lib.hid (And.intro h6 (H5.out.2.kept k6 (by decide)))
          clear h6 k6 d3
          have d3 := H6.out.2.cell 3
          simp only [List.getElem?_toArray, List.getElem?_cons_zero, List.getElem?_cons_succ] at d3
          go_wp2_with fail
          refine (H6.out.1.com HV.out (by omega)).mono ?_
          rintro e7 w7 ⟨⟨rfl, h7⟩ | ⟨rfl, h7⟩, k7⟩
          · have H7 := Lib.hid (And.intro h7 (H6.out.2.kept k7 (by decide)))
            clear h7 k7 d3
            have d3 := H7.out.2.cell 3
            simp only [List.getElem?_toArray, List.getElem?_cons_zero, List.getElem?_cons_succ] at d3
            go_wp2_with fail
            go_quiet (fail)
            have R : Hid (∀ n, Round w (w7.drewN n) a p (3 + 2 * j + 1) xs xs) := Lib.hid (fun n => H7.out.1.fresh (Touch.same w7 _))
            go_wp2_with fail
            go_roundw
            case rel => exact ⟨j + 1, a, _, _, by omega, by omega, rfl, rfl, rfl, by go_num, (R.out _).more (by omega)⟩
            case measure => simp [intOf]; omega
          · by_cases hms : m = s
            · subst hms
              rw [if_pos rfl] at h7
              have H7 := Lib.hid (And.intro h7 (H6.out.2.kept k7 (by decide)))
              clear h7 k7 d3
              have hd3 := H7.out.2.cell 3
              simp only [List.getElem?_toArray, List.getElem?_cons_zero, List.getElem?_cons_succ] at hd3
              go_wp2_with fail

              go_roundw
              case rel => exact ⟨j + 1, a, _, _, by omega, by omega, rfl, rfl, rfl, by go_num, H7.out.1.more (by omega)⟩
              case measure => simp [intOf]; omega
            · rw [if_neg hms] at h7
              have H7 := Lib.hid (And.intro h7 (H6.out.2.kept k7 (by decide)))
              clear h7 k7 d3
              have tm := txt_ne hms
              clear hms
              go_wp2_with fail
              go_roundw
              case rel => exact ⟨j + 1, a, _, _, by omega, by omega, rfl, rfl, rfl, by go_num, H7.out.1.more (by omega)⟩
              case measure => simp [intOf]; omega
      by_cases k2 : k = 2
      · subst k2
        clear d3 d5
        go_wp2_with fail
        obtain ⟨kn, hkn, ekn⟩ := arm_arg xa
        rw [ekn]
        refine (HB.out.1.arm (k := kn) (by omega)).mono ?_
        rintro e5 w5 ⟨rfl, h5, -⟩
        have H5 := Lib.hid h5
        clear h5 ekn
        go_wp2_with fail
        go_roundw
        case rel => exact ⟨j + 1, a, _, _, by omega, by omega, rfl, rfl, rfl, by go_num, H5.out.more (by omega)⟩
        case measure => simp [intOf]; omega
      by_cases k3 : k = 3
      · subst k3
        clear d1 d3
        obtain hxo | ⟨ad, hxo⟩ : xo = none ∨ ∃ ad, xo = some ad := by cases xo <;> simp
        · subst hxo
          have hnil : xl = [] := by
            obtain ⟨ao', cap', e, h9⟩ := HB.out.2.2
            cases e
            rcases Nat.eq_zero_or_pos xl.length with h | h
            · exact List.eq_nil_of_length_eq_zero h
            · obtain ⟨g', o', h', -⟩ := h9 h
              cases h'
          subst hnil
          have e5 := (HB.out.2.1.alloc (.cells #[] 3)).cell 5
          simp only [List.getElem?_toArray, List.getElem?_cons_zero, List.getElem?_cons_succ] at e5
          clear d5
          go_wp2_with fail
          have R5 : Hid (Round w (ws.alloc (.cells #[] 3)) a p (3 + 2 * j) s m ∧ IntsAt (ws.alloc (.cells #[] 3)) (.slice (some ⟨ws.heap.size, 0, none⟩) 0 0) []) := Lib.hid ⟨HB.out.1.fresh ((Touch.refl _ ws).alloc _), World.ownsRow_made ws #[] 0 (Nat.zero_le _) (by decide) rfl⟩
          go_wp2_with fail
          refine (R5.out.1.crash R5.out.2).mono ?_
          rintro e6 w6 ⟨rfl, h6, -⟩
          have H6 := Lib.hid h6
          clear h6
          go_wp2_with fail
          refine (H6.out.mount (by omega)).mono ?_
          rintro e7 w7 ⟨a2, x, rfl, h7, hx, -⟩
          have H7 := Lib.hid h7
          have HX := Lib.hid hx
          clear h7 hx
          go_wp2_with fail
          refine (H7.out.get 3 (.inl rfl)).mono ?_
          rintro e8 w8 ⟨rfl, h8, -⟩
          have H8 := Lib.hid h8
          clear h8
          go_wp2_with fail
          refine (H8.out.get 8 (.inr rfl)).mono ?_
          rintro e9 w9 ⟨rfl, h9, -⟩
          have H9 := Lib.hid h9
          clear h9
          rcases HX.out with rfl | rfl
          · go_wp2_with fail
            go_roundw
            case rel => exact ⟨j + 1, a2, _, _, by omega, by omega, rfl, rfl, rfl, by go_num, H9.out.round.more (by omega)⟩
            case measure => simp [intOf]; omega
          · by_cases hms : x = s
            · subst hms
              go_wp2_with fail
              go_roundw
              case rel => exact ⟨j + 1, a2, _, _, by omega, by omega, rfl, rfl, rfl, by go_num, H9.out.round.more (by omega)⟩
              case measure => simp [intOf]; omega
            · have tm := txt_ne hms
              clear hms
              go_wp2_with fail
              go_roundw
              case rel => exact ⟨j + 1, a2, _, _, by omega, by omega, rfl, rfl, rfl, by go_num, H9.out.round.more (by omega)⟩
              case measure => simp [intOf]; omega
        · subst hxo
          have hcc : Hid (∀ (j : Nat) (u : Value), (xl.map (Value.int .i64))[j]? = some u → (ws.alloc (.cells #[] 3)).cell? (ad.add j) = some u) := Lib.hid (by
            obtain ⟨ao', cap', e, h9⟩ := HB.out.2.2
            cases e
            exact reads_cells h9 ((Touch.refl (fun _ => False) ws).alloc (.cells #[] 3)))
          have hxn := XN.out
          have e5 := (HB.out.2.1.alloc (.cells #[] 3)).cell 5
          simp only [List.getElem?_toArray, List.getElem?_cons_zero, List.getElem?_cons_succ] at e5
          clear d5
          go_wp2_with ((at_builtin; refine wpList_append_own_at _ rfl _ _ 32 rfl ws.heap.size 3 i0 (.int .i64 0) 1 8 Tryz.underlying32 hi hz0 hz1 hz2 rfl (by decide) _ _ _ rfl (World.ownsRow_made ws #[] 0 (Nat.le_refl _) (by decide) rfl) ad xl.length xc (xl.map (Value.int .i64)) rfl (by simp) ?c1 ?c2 ?c3 ?c4 ?c5 ?_))
          case c1 => exact hcc.out
          case c2 => intro u hu; simp at hu; obtain ⟨x, -, rfl⟩ := hu; rfl
          case c3 => unfold maxLen; omega
          case c4 => omega
          case c5 => simp
          intro v' w2 hown1 hg1 _ _
          obtain ⟨A, c, rfl⟩ := own_form hown1
          have ht1 : Fresh ws w2 := ((Touch.refl _ ws).alloc _).grownNew (World.ownsRow_made (size := 1) ws #[] 0 (Nat.le_refl _) (by decide) (by simp)) (Nat.le_refl _) hg1
          have R5 : Hid (Round w w2 a p (3 + 2 * j) s m ∧ IntsAt w2 (.slice A xl.length c) xl) := Lib.hid ⟨HB.out.1.fresh ht1, by show w2.ownsRow 0 3 1 _ _ _; have := own_base (b' := 0) hown1 (Nat.zero_le _); simpa using this⟩
          clear hown1 ht1 hg1 hcc hxn
          go_wp2_with fail
          refine (R5.out.1.crash R5.out.2).mono ?_
          rintro e6 w6 ⟨rfl, h6, -⟩
          have H6 := Lib.hid h6
          clear h6
          go_wp2_with fail
          refine (H6.out.mount (by omega)).mono ?_
          rintro e7 w7 ⟨a2, x, rfl, h7, hx, -⟩
          have H7 := Lib.hid h7
          have HX := Lib.hid hx
          clear h7 hx
          go_wp2_with fail
          refine (H7.out.get 3 (.inl rfl)).mono ?_
          rintro e8 w8 ⟨rfl, h8, -⟩
          have H8 := Lib.hid h8
          clear h8
          go_wp2_with fail
          refine (H8.out.get 8 (.inr rfl)).mono ?_
          rintro e9 w9 ⟨rfl, h9, -⟩
          have H9 := Lib.hid h9
          clear h9
          rcases HX.out with rfl | rfl
          · go_wp2_with fail
            go_roundw
            case rel => exact ⟨j + 1, a2, _, _, by omega, by omega, rfl, rfl, rfl, by go_num, H9.out.round.more (by omega)⟩
            case measure => simp [intOf]; omega
          · by_cases hms : x = s
            · subst hms
              go_wp2_with fail
              go_roundw
              case rel => exact ⟨j + 1, a2, _, _, by omega, by omega, rfl, rfl, rfl, by go_num, H9.out.round.more (by omega)⟩
              case measure => simp [intOf]; omega
            · have tm := txt_ne hms
              clear hms
              go_wp2_with fail
              go_roundw
              case rel => exact ⟨j + 1, a2, _, _, by omega, by omega, rfl, rfl, rfl, by go_num, H9.out.round.more (by omega)⟩
              case measure => simp [intOf]; omega
      · have t1 : (k == 1) = false := by simp [k1]
        have t2 : (k == 2) = false := by simp [k2]
        have t3 : (k == 3) = false := by simp [k3]
        clear d1 d3 d5
        go_wp2_with fail
        refine (HB.out.1.chk (by omega)).mono ?_
        rintro e9 w9 ⟨c, rfl, hc9, h9, -⟩
        have H9 := Lib.hid h9
        clear h9
        rcases hc9 with rfl | rfl
        · go_wp2_with fail
          go_roundw
          case rel => exact ⟨j + 1, a, _, _, by omega, by omega, rfl, rfl, rfl, by go_num, H9.out.more (by omega)⟩
          case measure => simp [intOf]; omega
        · go_wp2_with fail
          go_roundw
          case rel => exact ⟨j + 1, a, _, _, by omega, by omega, rfl, rfl, rfl, by go_num, H9.out.more (by omega)⟩
          case measure => simp [intOf]; omega
    · by_cases hlt2 : j < steps.length
      · obtain rfl : j = 60 := by omega
        go_wp2_with fail
        go_ret
        exact ⟨rfl, H.out.k⟩
      · obtain rfl : j = steps.length := by omega
        clear hlt hlt2
        go_wp2_with fail
        go_ret
        exact ⟨rfl, H.out.k⟩

end Go.Proofs.YtcpelncjagaadaaGreatDoor
