/-
  The walk of the law GaugeMirrors.
-/
import Derived.Test.YtmadogmahggpeaaGA
import Derived.Test.YtmadogmahggpeaaFE
namespace Go.Proofs.Ytmadogmahggpeaa
open Go.RowKit

theorem key_neg {a : Nat} (ha : a < 18446744073709551616) (hn : Fl.nanB a = false) : Fl.keyZ (Fl.negW a) = -Fl.keyZ a - 1 ∧ Fl.nanB (Fl.negW a) = false := by
  obtain ⟨_, h1, h2⟩ := Fl.negW_spec ha
  have hn' : Fl.nanB (Fl.negW a) = false := Fl.nanB_false (by rw [h1]; exact Fl.not_nan hn)
  refine ⟨?_, hn'⟩
  rw [key_val hn', key_val hn, h1, h2]
  cases Fl.sgn a <;> simp <;> omega
theorem neg_neg (a : Nat) : Fl.negW (Fl.negW a) = a := by
  unfold Fl.negW; rw [Nat.xor_assoc, Nat.xor_self, Nat.xor_zero]
theorem cmp_self (a : Nat) : Fl.cmpZ a a = 0 := by unfold Fl.cmpZ Fl.cmpI; rw [if_neg (by omega), if_neg (by omega)]

set_option maxHeartbeats 1000000 in
theorem mirrors_walk (a b : Nat) (w : World) (ha : a < 18446744073709551616) (hb : b < 18446744073709551616) :
    Calls Try.prog 14 #[.float .f64 a, .float .f64 b] w fun e w' => e = .returned (.bool true) ∧ Below w.heap.size w w' := by
  by_cases h : Fl.nanB a = true ∨ Fl.nanB b = true
  · have Ca := Lib.hid (cmp_self a)
    have Cb := Lib.hid (cmp_self b)
    cases hna : Fl.nanB a
    · cases hnb : Fl.nanB b
      · simp [hna, hnb] at h
      · clear h
        go_enter Try.func14, Try.ntmps14
        go_wp2_with fail
        refine (known4_any _).mono ?_
        rintro e w1 ⟨rfl, rfl⟩
        go_wp2_with fail
        refine (nan_any _ _).mono ?_
        rintro e w1 ⟨rfl, rfl⟩
        go_wp2_with fail
        refine (nan_any _ _).mono ?_
        rintro e w1 ⟨rfl, rfl⟩
        go_wp2_with fail
        refine (cmp_any _ _ _ ha ha).mono ?_
        rintro e w1 ⟨rfl, rfl⟩
        rw [Ca.out]
        go_wp2_with fail
        refine (cmp_any _ _ _ hb hb).mono ?_
        rintro e w1 ⟨rfl, rfl⟩
        rw [Cb.out]
        go_wp2_with fail
        go_ret
        exact ⟨rfl, Below.refl _ _⟩
    · clear h
      go_enter Try.func14, Try.ntmps14
      go_wp2_with fail
      refine (known4_any _).mono ?_
      rintro e w1 ⟨rfl, rfl⟩
      go_wp2_with fail
      refine (nan_any _ _).mono ?_
      rintro e w1 ⟨rfl, rfl⟩
      go_wp2_with fail
      refine (cmp_any _ _ _ ha ha).mono ?_
      rintro e w1 ⟨rfl, rfl⟩
      rw [Ca.out]
      go_wp2_with fail
      refine (cmp_any _ _ _ hb hb).mono ?_
      rintro e w1 ⟨rfl, rfl⟩
      rw [Cb.out]
      go_wp2_with fail
      go_ret
      exact ⟨rfl, Below.refl _ _⟩
  · have hna : Fl.nanB a = false := by cases hx : Fl.nanB a; rfl; exact absurd (.inl hx) h
    have hnb : Fl.nanB b = false := by cases hx : Fl.nanB b; rfl; exact absurd (.inr hx) h
    clear h
    obtain ⟨ka, na⟩ := key_neg ha hna
    obtain ⟨kb, nb⟩ := key_neg hb hnb
    have bk := key_num_bounds hna
    have la := (Fl.negW_spec ha).1
    have lb := (Fl.negW_spec hb).1
    have C := Lib.hid (show Fl.cmpZ (Fl.negW a) (Fl.negW b) = Fl.cmpZ b a by unfold Fl.cmpZ Fl.cmpI; rw [ka, kb]; split <;> split <;> (try split) <;> (try split) <;> omega)
    have L := Lib.hid (show leastZ (Fl.negW a) (Fl.negW b) = Fl.negW (mostZ a b) by
      unfold leastZ mostZ; rw [ka, kb]
      by_cases hk : Fl.keyZ a < Fl.keyZ b
      · rw [if_pos hk, if_pos (by omega)]
      · rw [if_neg hk, if_neg (by omega)])
    have lm : mostZ a b < 18446744073709551616 := by unfold mostZ; split <;> assumption
    have N := Lib.hid (neg_neg (mostZ a b))
    have KA := Lib.hid ka
    clear ka kb na nb
    go_enter Try.func14, Try.ntmps14
    go_wp2_with fail
    refine (known4_any _).mono ?_
    rintro e w1 ⟨rfl, rfl⟩
    go_wp2_with fail
    refine (nan_any _ _).mono ?_
    rintro e w1 ⟨rfl, rfl⟩
    go_wp2_with fail
    refine (nan_any _ _).mono ?_
    rintro e w1 ⟨rfl, rfl⟩
    have hneg : ∀ (c : Nat) (w : World), (Op.unary .neg (.float .f64 c)).run Try.prog w = .ok (.float .f64 (Fl.negW c)) w := fun _ _ => rfl
    go_wp2_with fail
    refine (key_any _ _ la).mono ?_
    rintro e w1 ⟨rfl, rfl⟩
    rw [KA.out]
    go_wp2_with fail
    refine (key_any _ _ ha).mono ?_
    rintro e w1 ⟨rfl, rfl⟩
    go_wp2_with fail
    refine (cmp_any _ _ _ la lb).mono ?_
    rintro e w1 ⟨rfl, rfl⟩
    rw [C.out]
    go_wp2_with fail
    refine (cmp_any _ _ _ hb ha).mono ?_
    rintro e w1 ⟨rfl, rfl⟩
    go_wp2_with fail
    refine (least_any _ _ _ la lb).mono ?_
    rintro e w1 ⟨rfl, rfl⟩
    rw [L.out]
    go_wp2_with fail
    refine (most_any _ _ _ ha hb).mono ?_
    rintro e w1 ⟨rfl, rfl⟩
    go_wp2_with fail
    rw [N.out]
    refine (same_yes _ _ _ (.refl _)).mono ?_
    rintro e w1 ⟨rfl, rfl⟩
    go_wp2_with fail
    go_ret
    exact ⟨rfl, Below.refl _ _⟩

end Go.Proofs.Ytmadogmahggpeaa
