/-
  The walk of the law GaugeWhole.
-/
import Derived.Test.YtmadogmahggpeaaGH
import Derived.Deep.DeepCutAuto
namespace Go.Proofs.Ytmadogmahggpeaa
open Go.RowKit

theorem cmp_cases (i j : Int) : (i < j ∧ Fl.cmpI i j = -1) ∨ (j < i ∧ Fl.cmpI i j = 1) ∨ (i = j ∧ Fl.cmpI i j = 0) := by
  unfold Fl.cmpI
  by_cases h1 : i < j
  · rw [if_pos h1]; exact .inl ⟨h1, rfl⟩
  · rw [if_neg h1]
    by_cases h2 : j < i
    · rw [if_pos h2]; exact .inr (.inl ⟨h2, rfl⟩)
    · rw [if_neg h2]; exact .inr (.inr ⟨by omega, rfl⟩)

/-- What three comparisons of keys can answer. -/
theorem three (i j k : Int) : (Fl.cmpI i j = -1 ∨ Fl.cmpI i j = 0 ∨ Fl.cmpI i j = 1) ∧ (Fl.cmpI j k = -1 ∨ Fl.cmpI j k = 0 ∨ Fl.cmpI j k = 1) ∧ (Fl.cmpI i k = -1 ∨ Fl.cmpI i k = 0 ∨ Fl.cmpI i k = 1) ∧
    Fl.cmpI j i = -Fl.cmpI i j ∧ (Fl.cmpI i j ≤ 0 → Fl.cmpI j k ≤ 0 → Fl.cmpI i k ≤ 0) ∧ (Fl.cmpI i j < 0 → Fl.cmpI j k ≤ 0 → Fl.cmpI i k < 0) := by
  have h1 := cmp_cases i j
  have h2 := cmp_cases j i
  have h3 := cmp_cases j k
  have h4 := cmp_cases i k
  generalize Fl.cmpI i j = x at *
  generalize Fl.cmpI j i = y at *
  generalize Fl.cmpI j k = z at *
  generalize Fl.cmpI i k = u at *
  refine ⟨?_, ?_, ?_, ?_, ?_, ?_⟩ <;> (try intros) <;> omega

theorem back_spec {a : Nat} (ha : a < 18446744073709551616) : ofE (Fl.keyZ a) = 0 ∧ Fl.Eqv (ofV (Fl.keyZ a)) a ∧ Fl.cmpZ (ofV (Fl.keyZ a)) a = 0 := by
  cases hn : Fl.nanB a
  · obtain ⟨h0, h1⟩ := key_num_bounds hn
    obtain ⟨s1, s2, _⟩ := ofKey_spec (Fl.keyZ a) h0 h1
    rw [ofV_in h0 h1]
    refine ⟨?_, Fl.key_inj s2 ha s1, ?_⟩
    · unfold ofE; rw [if_neg (by omega), if_neg (by omega), if_neg (by omega)]
    · unfold Fl.cmpZ Fl.cmpI; rw [s1, if_neg (by omega), if_neg (by omega)]
  · have hk := Fl.key_nan hn
    have hv : ofV 9223372036854775807 = Fl.NAN := rfl
    rw [hk, hv]
    refine ⟨rfl, .inr ⟨Fl.nan_NAN, hn⟩, ?_⟩
    unfold Fl.cmpZ Fl.cmpI; rw [hk, Fl.key_nan Fl.nan_NAN]; rfl

theorem next_spec {i : Int} (h0 : 0 ≤ i) (h1 : i ≤ 9218868437227405311) : ofE (i + 1) = 0 ∧ Fl.keyZ (ofV (i + 1)) = i + 1 ∧ ofV (i + 1) < 18446744073709551616 := by
  rw [ofV_in (by omega) (by omega)]
  obtain ⟨s1, s2, _⟩ := ofKey_spec (i + 1) (by omega) (by omega)
  refine ⟨?_, s1, s2⟩
  unfold ofE; rw [if_neg (by omega), if_neg (by omega), if_neg (by omega)]

set_option maxRecDepth 100000 in
set_option maxHeartbeats 4000000 in
theorem whole_walk (a b c : Nat) (w : World) (ha : a < 18446744073709551616) (hb : b < 18446744073709551616) (hc : c < 18446744073709551616) :
    Calls Try.prog 9 #[.float .f64 a, .float .f64 b, .float .f64 c] w fun e w' => e = .returned (.bool true) ∧ Below w.heap.size w w' := by
  have Th := Lib.hid (three (Fl.keyZ a) (Fl.keyZ b) (Fl.keyZ c))
  have Bk := Lib.hid (back_spec ha)
  have bnd := Fl.key_bounds a
  have lb := ofV_lt (Fl.keyZ a)
  go_enter Try.func9, Try.ntmps9
  go_wp2_with fail
  refine (known4_any _).mono ?_
  rintro e w1 ⟨rfl, rfl⟩
  go_wp2_with fail
  refine (cmp_any _ _ _ ha hb).mono ?_
  rintro e w1 ⟨rfl, rfl⟩
  go_wp2_with fail
  refine (cmp_any _ _ _ hb ha).mono ?_
  rintro e w1 ⟨rfl, rfl⟩
  go_wp2_with fail
  refine (cmp_any _ _ _ hb hc).mono ?_
  rintro e w1 ⟨rfl, rfl⟩
  go_wp2_with fail
  refine (cmp_any _ _ _ ha hc).mono ?_
  rintro e w1 ⟨rfl, rfl⟩
  go_upto_region 4 with fail
  go_cut [57] (fun s wx => s = .bool false ∧ w = wx)
  case first =>
    obtain ⟨t1, t2, t3, t4, t5, t6⟩ := Th.out
    change Fl.cmpZ a b = -1 ∨ Fl.cmpZ a b = 0 ∨ Fl.cmpZ a b = 1 at t1
    change Fl.cmpZ b c = -1 ∨ Fl.cmpZ b c = 0 ∨ Fl.cmpZ b c = 1 at t2
    change Fl.cmpZ a c = -1 ∨ Fl.cmpZ a c = 0 ∨ Fl.cmpZ a c = 1 at t3
    change Fl.cmpZ b a = -Fl.cmpZ a b at t4
    change Fl.cmpZ a b ≤ 0 → Fl.cmpZ b c ≤ 0 → Fl.cmpZ a c ≤ 0 at t5
    change Fl.cmpZ a b < 0 → Fl.cmpZ b c ≤ 0 → Fl.cmpZ a c < 0 at t6
    generalize Fl.cmpZ b a = ba at *
    generalize Fl.cmpZ a b = ab at *
    generalize Fl.cmpZ b c = bc at *
    generalize Fl.cmpZ a c = ac at *
    subst t4
    rcases t1 with rfl | rfl | rfl <;> rcases t2 with rfl | rfl | rfl <;> rcases t3 with rfl | rfl | rfl <;> first | (exfalso; revert t5 t6; decide) | skip
    all_goals
      clear t5 t6
      go_wp2_with fail
      go_meet
      exact ⟨rfl, rfl⟩
  case rest =>
    obtain ⟨rfl, rfl⟩ := hcut
    go_wp2_with fail
    refine (key_any _ _ ha).mono ?_
    rintro e w1 ⟨rfl, rfl⟩
    go_wp2_with fail
    refine (key_any _ _ hb).mono ?_
    rintro e w1 ⟨rfl, rfl⟩
    go_upto_region 7 with fail
    go_cut [75] (fun s wx => s = .bool false ∧ w = wx)
    case first =>
      have C := cmp_cases (Fl.keyZ a) (Fl.keyZ b)
      change (Fl.keyZ a < Fl.keyZ b ∧ Fl.cmpZ a b = -1) ∨ (Fl.keyZ b < Fl.keyZ a ∧ Fl.cmpZ a b = 1) ∨ (Fl.keyZ a = Fl.keyZ b ∧ Fl.cmpZ a b = 0) at C
      clear bnd
      generalize Fl.cmpZ a b = ab at *
      generalize Fl.keyZ a = i at *
      generalize Fl.keyZ b = k at *
      rcases C with ⟨h1, rfl⟩ | ⟨h1, rfl⟩ | ⟨rfl, rfl⟩
      · have h2 : (i == k) = false := by rw [beq_eq_false_iff_ne]; omega
        go_wp2_with fail
        go_meet
        exact ⟨rfl, rfl⟩
      · have h2 : (i == k) = false := by rw [beq_eq_false_iff_ne]; omega
        go_wp2_with fail
        go_meet
        exact ⟨congrArg Value.bool (by rw [decide_eq_false_iff_not]; omega), rfl⟩
      · go_wp2_with fail
        go_meet
        exact ⟨rfl, rfl⟩
    case rest =>
      obtain ⟨rfl, rfl⟩ := hcut
      clear Th
      go_wp2_with fail
      refine (of_any _ _ (by omega) (by omega)).mono ?_
      rintro e w1 ⟨rfl, rfl⟩
      rw [Bk.out.1]
      go_wp2_with fail
      refine (cmp_any _ _ _ lb ha).mono ?_
      rintro e w1 ⟨rfl, rfl⟩
      rw [Bk.out.2.2]
      go_wp2_with fail
      refine (same_yes _ _ _ Bk.out.2.1).mono ?_
      rintro e w1 ⟨rfl, rfl⟩
      clear Bk lb
      by_cases h0 : Fl.keyZ a < 0
      · go_wp2_with fail
        go_ret
        exact ⟨rfl, Below.refl _ _⟩
      · by_cases h1 : 9218868437227405311 < Fl.keyZ a
        · go_wp2_with fail
          go_ret
          exact ⟨rfl, Below.refl _ _⟩
        · obtain ⟨N1, N2, N3⟩ := next_spec (show 0 ≤ Fl.keyZ a by omega) (show Fl.keyZ a ≤ 9218868437227405311 by omega)
          have C1 := Lib.hid (show Fl.cmpZ a (ofV (Fl.keyZ a + 1)) = -1 by unfold Fl.cmpZ Fl.cmpI; rw [N2, if_pos (by omega)])
          have C2 : Fl.cmpZ b a ≤ 0 ↔ ¬ Fl.keyZ a < Fl.keyZ b := cmpZ_le
          have C3 : 0 ≤ Fl.cmpZ b (ofV (Fl.keyZ a + 1)) ↔ ¬ Fl.keyZ b < Fl.keyZ (ofV (Fl.keyZ a + 1)) := cmpZ_ge
          rw [N2] at C3
          have H1 := Lib.hid N1
          have H2 := Lib.hid N2
          clear N1 N2
          by_cases hba : Fl.keyZ a < Fl.keyZ b
          · have d1 : ¬ Fl.cmpZ b a ≤ 0 := fun h => C2.1 h hba
            have d2 : 0 ≤ Fl.cmpZ b (ofV (Fl.keyZ a + 1)) := C3.2 (by omega)
            clear C2 C3
            go_wp2_with fail
            refine (of_any _ _ (by omega) (by omega)).mono ?_
            rintro e w1 ⟨rfl, rfl⟩
            rw [H1.out]
            go_wp2_with fail
            refine (cmp_any _ _ _ ha N3).mono ?_
            rintro e w1 ⟨rfl, rfl⟩
            rw [C1.out]
            go_wp2_with fail
            refine (key_any _ _ N3).mono ?_
            rintro e w1 ⟨rfl, rfl⟩
            rw [H2.out]
            go_wp2_with fail
            refine (cmp_any _ _ _ hb ha).mono ?_
            rintro e w1 ⟨rfl, rfl⟩
            go_wp2_with fail
            refine (cmp_any _ _ _ hb N3).mono ?_
            rintro e w1 ⟨rfl, rfl⟩
            go_wp2_with fail
            go_ret
            exact ⟨rfl, Below.refl _ _⟩
          · have d1 : Fl.cmpZ b a ≤ 0 := C2.2 hba
            clear C2 C3
            go_wp2_with fail
            refine (of_any _ _ (by omega) (by omega)).mono ?_
            rintro e w1 ⟨rfl, rfl⟩
            rw [H1.out]
            go_wp2_with fail
            refine (cmp_any _ _ _ ha N3).mono ?_
            rintro e w1 ⟨rfl, rfl⟩
            rw [C1.out]
            go_wp2_with fail
            refine (key_any _ _ N3).mono ?_
            rintro e w1 ⟨rfl, rfl⟩
            rw [H2.out]
            go_wp2_with fail
            refine (cmp_any _ _ _ hb ha).mono ?_
            rintro e w1 ⟨rfl, rfl⟩
            go_wp2_with fail
            go_ret
            exact ⟨rfl, Below.refl _ _⟩

end Go.Proofs.Ytmadogmahggpeaa
