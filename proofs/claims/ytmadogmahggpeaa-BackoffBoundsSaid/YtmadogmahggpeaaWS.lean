/-
  The walk of the law BackoffBounds.
-/
import Derived.Test.YtmadogmahggpeaaWR
import Derived.Test.YtmadogmahggpeaaFE
import Derived.Deep.DeepCutAuto
namespace Go.Proofs.Ytmadogmahggpeaa
open Go.RowKit

theorem ge_num {x y : Nat} (hy : Fl.nanB y = false) (h : (FloatKind.f64.format.order x y == some .gt || FloatKind.f64.format.order x y == some .eq) = true) : Fl.nanB x = false ∧ Fl.sv y ≤ Fl.sv x := by
  cases hx : Fl.nanB x
  · rw [f_gt hx hy, f_eq hx hy] at h
    simp at h
    exact ⟨rfl, by omega⟩
  · have : FloatKind.f64.format.order x y = none := Fl.order_nan (by simp [hx])
    rw [this] at h; simp at h
theorem le_num {x y : Nat} (hy : Fl.nanB y = false) (h : (FloatKind.f64.format.order x y == some .lt || FloatKind.f64.format.order x y == some .eq) = true) : Fl.nanB x = false ∧ Fl.sv x ≤ Fl.sv y := by
  cases hx : Fl.nanB x
  · rw [f_lt hx hy, f_eq hx hy] at h
    simp at h
    exact ⟨rfl, by omega⟩
  · have : FloatKind.f64.format.order x y = none := Fl.order_nan (by simp [hx])
    rw [this] at h; simp at h

/-- The cap's test never strikes. -/
theorem cap_test (base factor cap : Nat) (k : Int) (h : (FloatKind.f64.format.order cap 0 == some .gt || FloatKind.f64.format.order cap 0 == some .eq) = true) :
    (FloatKind.f64.format.order (floatOfInt .f64 (delayZ base factor cap k)) cap == some .gt) = false := by
  obtain ⟨h1, h2⟩ := ge_num Fl.nan_0 h
  rw [Fl.sv_0] at h2
  have h3 := delay_cap base factor cap k h1 h2
  obtain ⟨r1, r2⟩ := delay_range base factor cap k
  obtain ⟨q, hq⟩ := Int.eq_ofNat_of_zero_le r1
  rw [hq] at h3 r2 ⊢
  rw [Fl.ofInt_whole]
  obtain ⟨a, b, _, d, _⟩ := Fl.wholeW_spec (q := q) (by omega)
  rw [f_gt a h1, Fl.sv_pos b, d]
  have : ((q * Fl.U : Nat) : Int) = (q : Int) * (Fl.U : Int) := by push_cast; rfl
  simp; omega

theorem nan_E300 : Fl.nanB 9094988921128908188 = false := by decide

set_option maxRecDepth 100000 in
set_option maxHeartbeats 2000000 in
theorem bounds_yes (base factor cap : Nat) (now : Int) (n : Nat) (w : World) (h0 : 0 ≤ now) (h1 : now ≤ 1099511627776) (hn : n < 70) (hc : cap < 18446744073709551616) (tries : Int) (et : Hid (wrap64 ((IntKind.u64.wrap tries).tmod 70) = (n : Int))) :
    Calls Try.prog 6 #[setting base factor cap, .int .i64 now, .int .i64 tries] w fun e w' => e = .returned (.bool true) ∧ Below w.heap.size w w' := by
  have Hlen := Lib.hid (planL_length base factor cap now n)
  go_enter Try.func6, Try.ntmps6
  go_wp2_with fail
  refine (known_any _).mono ?_
  rintro e w1 ⟨rfl, hb1⟩
  have B1 := (boxed_new base factor cap w 24).below hb1
  have L1 : Below w.heap.size w w1 := ((Below.refl _ _).alloc (Nat.le_refl _) _).trans (hb1.mono (by simp))
  clear hb1
  obtain ⟨z1, c10, c11, c12⟩ := id B1
  go_wp2_with fail
  rw [et.out]
  refine (plan_yes _ _ _ _ _ _ h0 h1 (by omega) hc).mono ?_
  rintro e w2 ⟨va, rfl, hown2, hb2⟩
  have B2 := B1.below hb2
  have L2 := L1.trans (hb2.mono L1.size)
  clear hb2 B1 L1 c10 c11 c12 z1
  obtain ⟨aa, ca, rfl, ha⟩ := hown2.shape
  have Ha := Lib.hid ha
  clear ha hown2
  have HB2 := Lib.hid B2
  have HL2 := Lib.hid L2
  have hs2 := L2.size
  clear B2 L2
  rw [Hlen.out]
  go_wp2_with fail
  go_loopw [9, 10] (fun l i wr => ∃ (k : Nat) (last : Int), k ≤ n ∧ i = .int .i64 k ∧ l = .int .i64 last ∧ (last = if k = 0 then 0 else delayZ base factor cap ((k - 1 : Nat) : Int)) ∧ Below w2.heap.size w2 wr) (fun _ i _ => n - (intOf i).toNat)
  case atStart => exact ⟨0, 0, Nat.zero_le _, rfl, rfl, rfl, Below.refl _ _⟩
  case round =>
    obtain ⟨k, last, hk, rfl, rfl, hlast, hbel⟩ := hrel
    have Hlast := Lib.hid hlast
    have Hbel := Lib.hid hbel
    have hs := hbel.size
    obtain ⟨z1, c10, c11, c12⟩ := HB2.out.below hbel
    have hd := delay_range base factor cap k
    clear hlast hbel
    by_cases hlt : k < n
    · go_wp2_with fail
      refine (delay_any _ _ _ _ _ (by omega) hc).mono ?_
      rintro e w3 ⟨rfl, hb3⟩
      have HB3 := Lib.hid (Hbel.out.trans (hb3.mono hs))
      obtain ⟨z1, c10, c11, c12⟩ := HB2.out.below HB3.out
      clear hb3
      go_upto_region 14 with fail
      go_cut [76] (fun s wx => s = .bool false ∧ w3 = wx)
      case first =>
        have ct := cap_test base factor cap k
        cases hx : (FloatKind.f64.format.order cap 0 == some .gt || FloatKind.f64.format.order cap 0 == some .eq)
        · clear ct
          go_wp2_with fail
          go_meet
          exact ⟨congrArg Value.bool (by rw [Bool.or_eq_false_iff, decide_eq_false_iff_not, decide_eq_false_iff_not]; omega), rfl⟩
        · cases hy : (FloatKind.f64.format.order cap 4681608360884174848 == some .lt || FloatKind.f64.format.order cap 4681608360884174848 == some .eq)
          · clear ct
            go_wp2_with fail
            go_meet
            exact ⟨congrArg Value.bool (by rw [Bool.or_eq_false_iff, decide_eq_false_iff_not, decide_eq_false_iff_not]; omega), rfl⟩
          · have ct' := ct hx
            clear ct
            go_wp2_with fail
            go_meet
            exact ⟨congrArg Value.bool (by rw [Bool.or_eq_false_iff, decide_eq_false_iff_not, decide_eq_false_iff_not]; omega), rfl⟩
      case rest =>
        obtain ⟨rfl, rfl⟩ := hcut
        go_upto_region 16 with fail
        go_cut [99] (fun s wx => s = .bool false ∧ w3 = wx)
        case first =>
          cases g1 : (FloatKind.f64.format.order base 0 == some .gt || FloatKind.f64.format.order base 0 == some .eq)
          · go_wp2_with fail
            go_meet
            exact ⟨rfl, rfl⟩
          · cases g2 : (FloatKind.f64.format.order base 9094988921128908188 == some .lt || FloatKind.f64.format.order base 9094988921128908188 == some .eq)
            · go_wp2_with fail
              go_meet
              exact ⟨rfl, rfl⟩
            · cases g3 : (FloatKind.f64.format.order factor 4607182418800017408 == some .gt || FloatKind.f64.format.order factor 4607182418800017408 == some .eq)
              · go_wp2_with fail
                go_meet
                exact ⟨rfl, rfl⟩
              · cases g4 : (FloatKind.f64.format.order factor 9094988921128908188 == some .lt || FloatKind.f64.format.order factor 9094988921128908188 == some .eq)
                · go_wp2_with fail
                  go_meet
                  exact ⟨rfl, rfl⟩
                · have hm : last ≤ delayZ base factor cap k := by
                    obtain ⟨a1, a2⟩ := ge_num Fl.nan_0 g1
                    obtain ⟨a3, a4⟩ := ge_num Fl.nan_ONE g3
                    rw [Fl.sv_0] at a2
                    rw [Fl.sv_ONE] at a4
                    rw [Hlast.out]
                    split
                    · exact hd.1
                    · have := delay_up base factor cap a1 a2 a3 a4 (k - 1)
                      rw [show (((k - 1 : Nat) : Int) + 1) = (k : Int) by omega] at this
                      exact this
                  go_wp2_with fail
                  go_meet
                  exact ⟨congrArg Value.bool (by rw [decide_eq_false_iff_not]; omega), rfl⟩
        case rest =>
          obtain ⟨rfl, rfl⟩ := hcut
          go_upto_region 19 with fail
          obtain ⟨ga, ea, hga, hga2, fa⟩ := Ha.out (by rw [Hlen.out]; omega)
          subst ea
          have ar := acc_range base factor cap now k
          have hbc := HB3.out.size
          by_cases hk0 : k = 0
          · have fa0 := (HB3.out.cell (p := ⟨ga, 0, none⟩) (by exact hga2)).trans (fa 0 (by rw [Hlen.out]; omega))
            rw [planL_get base factor cap now (show 0 < n by omega)] at fa0
            rw [show acc base factor cap now (0 + 1) = now by show now + delayZ base factor cap ((0 : Nat) : Int) = now; rw [show delayZ base factor cap ((0 : Nat) : Int) = 0 by unfold delayZ; rw [if_pos (by omega)]]; omega] at fa0
            have tk0 : ((k : Int) == 0) = true := by rw [beq_iff_eq]; omega
            have tk1 : decide ((0 : Int) < (k : Int)) = false := by rw [decide_eq_false_iff_not]; omega
            have tk2 : decide (0 < k) = false := by rw [decide_eq_false_iff_not]; omega
            have Hk0 := Lib.hid hk0
            clear hk0 fa c10 c11 c12
            go_quiet (fail)
            go_wp2_with fail
            go_roundw
            case rel => exact ⟨k + 1, _, by omega, by go_num, rfl, by rw [if_neg (by omega)]; rfl, below_drewN HB3.out _⟩
            case measure => simp [intOf]; omega
          · have fa0 := (HB3.out.cell (p := ⟨ga, k, none⟩) (by exact hga2)).trans (fa k (by rw [Hlen.out]; omega))
            have fa1 := (HB3.out.cell (p := ⟨ga, k - 1, none⟩) (by exact hga2)).trans (fa (k - 1) (by rw [Hlen.out]; omega))
            rw [planL_get base factor cap now hlt] at fa0
            rw [planL_get base factor cap now (show k - 1 < n by omega), show k - 1 + 1 = k by omega] at fa1
            rw [show acc base factor cap now (k + 1) = acc base factor cap now k + delayZ base factor cap k from rfl] at fa0
            have tk0 : ((k : Int) == 0) = false := by rw [beq_eq_false_iff_ne]; omega
            have tk1 : decide ((0 : Int) < (k : Int)) = true := by rw [decide_eq_true_eq]; omega
            have tk2 : decide (0 < k) = true := by rw [decide_eq_true_eq]; omega
            have hk1 : 1 ≤ k := by omega
            clear hk0 fa c10 c11 c12
            go_quiet (fail)
            go_wp2_with fail
            go_roundw
            case rel => exact ⟨k + 1, _, by omega, by go_num, rfl, by rw [if_neg (by omega)]; rfl, below_drewN HB3.out _⟩
            case measure => simp [intOf]; omega
    · go_wp2_with fail
      go_ret
      exact ⟨rfl, HL2.out.trans (Hbel.out.mono hs2)⟩

set_option maxHeartbeats 1000000 in
theorem bounds_no (base factor cap : Nat) (now : Int) (n : Nat) (w : World) (h : now < 0 ∨ 1099511627776 < now) (tries : Int) (et : Hid (wrap64 ((IntKind.u64.wrap tries).tmod 70) = (n : Int))) :
    Calls Try.prog 6 #[setting base factor cap, .int .i64 now, .int .i64 tries] w fun e w' => e = .returned (.bool true) ∧ Below w.heap.size w w' := by
  rcases h with h | h
  all_goals
    go_enter Try.func6, Try.ntmps6
    go_wp2_with fail
    refine (known_any _).mono ?_
    rintro e w1 ⟨rfl, hb1⟩
    have B1 := (boxed_new base factor cap w 24).below hb1
    have L1 : Below w.heap.size w w1 := ((Below.refl _ _).alloc (Nat.le_refl _) _).trans (hb1.mono (by simp))
    clear hb1
    obtain ⟨z1, c10, c11, c12⟩ := id B1
    go_wp2_with fail
    rw [et.out]
    refine (plan_no _ _ _ _ _ _ (by omega)).mono ?_
    rintro e w2 ⟨rfl, hb2⟩
    have L2 := L1.trans (hb2.mono L1.size)
    clear hb2 B1 L1 c10 c11 c12 z1
    go_wp2_with fail
    go_ret
    exact ⟨rfl, L2⟩

theorem bounds_walk (base factor cap : Nat) (now tries : Int) (w : World) (hc : cap < 18446744073709551616) :
    Calls Try.prog 6 #[setting base factor cap, .int .i64 now, .int .i64 tries] w fun e w' => e = .returned (.bool true) ∧ Below w.heap.size w w' := by
  obtain ⟨n, hn, e1⟩ := mod_wrap tries 70 (by decide) (by decide)
  rw [show ((70 : Nat) : Int) = 70 from rfl] at e1
  by_cases h : now < 0 ∨ 1099511627776 < now
  · exact bounds_no base factor cap now n w h tries (Lib.hid e1)
  · exact bounds_yes base factor cap now n w (by omega) (by omega) hn hc tries (Lib.hid e1)

end Go.Proofs.Ytmadogmahggpeaa
