/-
  The walk of the law GaugeMixes.
-/
import Derived.Test.YtmadogmahggpeaaGA
import Derived.Test.YtmadogmahggpeaaWT
namespace Go.Proofs.Ytmadogmahggpeaa
open Go.RowKit

/-- A nought added changes no value. -/
theorem add_zero {x z : Nat} (hx : Fl.rung x < 9218868437227405312) (hz : Fl.rung z = 0) : Fl.nanB (Fl.addC x z) = false ∧ Fl.sv (Fl.addC x z) = Fl.sv x := by
  obtain ⟨m, p, e1, h1, _, e2⟩ := Fl.read_fin hx
  have e3 : Ieee.double.read z = .number (Fl.sgn z) 0 (-1074) := by
    unfold Fl.rung at hz
    unfold Ieee.Format.read Fl.sgn
    simp only [Fl.d_sw, Fl.d_bin, Fl.d_lp, hz]
    rfl
  have hmin : min p (-1074 : Int) = -1074 := by omega
  have hu : (p - -1074).toNat = (p + 1074).toNat := by omega
  have key : Ieee.double.add x z = some (Ieee.double.nearest (if Ieee.signed (Fl.sgn x) m (p + 1074).toNat + Ieee.signed (Fl.sgn z) 0 0 = 0 then Fl.sgn x && Fl.sgn z else decide (Ieee.signed (Fl.sgn x) m (p + 1074).toNat + Ieee.signed (Fl.sgn z) 0 0 < 0)) (Ieee.signed (Fl.sgn x) m (p + 1074).toNat + Ieee.signed (Fl.sgn z) 0 0).natAbs (-1074)) := by
    unfold Ieee.Format.add
    rw [e1, e3]
    simp only [Ieee.Datum.sum, hmin, hu, Int.sub_self, Int.toNat_zero, Option.map_some]
    rfl
  have hz0 : Ieee.signed (Fl.sgn z) 0 0 = 0 := by unfold Ieee.signed; cases Fl.sgn z <;> rfl
  rw [hz0, Int.add_zero] at key
  have hs : Ieee.signed (Fl.sgn x) m (p + 1074).toNat = if Fl.sgn x then -(Fl.mg (Fl.rung x) : Int) else (Fl.mg (Fl.rung x) : Int) := by
    unfold Ieee.signed; rw [Nat.shiftLeft_eq, ← e2]
  rw [hs] at key
  have hab : (if Fl.sgn x then -(Fl.mg (Fl.rung x) : Int) else (Fl.mg (Fl.rung x) : Int)).natAbs = Fl.mg (Fl.rung x) := by split <;> omega
  rw [hab] at key
  generalize hsg : (if (if Fl.sgn x then -(Fl.mg (Fl.rung x) : Int) else (Fl.mg (Fl.rung x) : Int)) = 0 then Fl.sgn x && Fl.sgn z else decide ((if Fl.sgn x then -(Fl.mg (Fl.rung x) : Int) else (Fl.mg (Fl.rung x) : Int)) < 0)) = s' at key
  obtain ⟨r, hr, hR⟩ := Fl.nearest_round s' (Fl.mg (Fl.rung x)) (-1074)
  have h3 := hR 0 (by omega)
  rw [show ((-1074 : Int) + 1074 + ((0 : Nat) : Int)).toNat = 0 by omega, Nat.pow_zero, Nat.mul_one] at h3
  have h4 := Fl.IsRound.exact 0 (Fl.rung x)
  rw [Nat.pow_zero, Nat.mul_one] at h4
  obtain rfl := h3.unique h4
  rw [Nat.min_eq_left (by omega)] at hr
  have hadd : Fl.addC x z = Ieee.double.word s' (Fl.rung x) := by unfold Fl.addC; rw [key, hr]; rfl
  obtain ⟨w1, w2⟩ := Fl.word_rung (s := s') (r := Fl.rung x) (by omega)
  rw [hadd]
  refine ⟨Fl.nanB_false (by omega), ?_⟩
  rw [Fl.sv_word (by omega)]
  unfold Fl.sv
  rw [← hsg]
  by_cases h0 : Fl.mg (Fl.rung x) = 0
  · rw [h0]; simp
  · have g1 : ¬ ((Fl.mg (Fl.rung x) : Int) < 0) := by omega
    have g2 : -(Fl.mg (Fl.rung x) : Int) < 0 := by omega
    have g3 : ¬ ((Fl.mg (Fl.rung x) : Int) = 0) := by omega
    have g4 : ¬ (-(Fl.mg (Fl.rung x) : Int) = 0) := by omega
    cases Fl.sgn x
    · simp only [Bool.false_eq_true, if_false, if_neg g3, decide_eq_false g1]
    · simp only [if_true, if_neg g4, decide_eq_true g2]

/-- Where a difference is a number, both are. -/
theorem sub_fin {x y : Nat} (h : Fl.nanB (Fl.subC x y) = false) (hf : Fl.rung (Fl.subC x y) < 9218868437227405312) : Fl.rung x < 9218868437227405312 ∧ Fl.rung y < 9218868437227405312 := by
  have hx : Fl.nanB x = false := by
    cases hn : Fl.nanB x
    · rfl
    · unfold Fl.subC at h; rw [Fl.sub_none_l hn] at h; exact absurd h (by decide)
  have hy : Fl.nanB y = false := by
    cases hn : Fl.nanB y
    · rfl
    · unfold Fl.subC at h; rw [Fl.sub_none_r hn] at h; exact absurd h (by decide)
  have inf : ∀ s : Bool, Fl.rung (Ieee.double.word s 9218868437227405312) = 9218868437227405312 := fun s => (Fl.word_rung (by decide)).1
  have winf : ∀ s : Bool, Ieee.double.write (.infinity s) = Ieee.double.word s 9218868437227405312 := fun s => by unfold Ieee.Format.write; rw [Fl.d_inf]
  rcases Nat.lt_or_eq_of_le (Fl.not_nan hx) with h1 | h1
  · rcases Nat.lt_or_eq_of_le (Fl.not_nan hy) with h2 | h2
    · exact ⟨h1, h2⟩
    · exfalso
      obtain ⟨m, p, e1, _⟩ := Fl.read_fin h1
      unfold Fl.subC Ieee.Format.sub at hf
      rw [e1, Fl.read_inf h2] at hf
      simp only [Ieee.Datum.opposite, Ieee.Datum.sum, Option.map_some, Option.getD_some, winf, inf] at hf
      omega
  · exfalso
    rcases Nat.lt_or_eq_of_le (Fl.not_nan hy) with h2 | h2
    · obtain ⟨m, p, e1, _⟩ := Fl.read_fin h2
      unfold Fl.subC Ieee.Format.sub at hf
      rw [e1, Fl.read_inf h1] at hf
      simp only [Ieee.Datum.opposite, Ieee.Datum.sum, Option.map_some, Option.getD_some, winf, inf] at hf
      omega
    · unfold Fl.subC Ieee.Format.sub at hf h
      rw [Fl.read_inf h1, Fl.read_inf h2] at hf h
      simp only [Ieee.Datum.opposite, Ieee.Datum.sum] at hf h
      by_cases hs : Fl.sgn x = !Fl.sgn y
      · rw [if_pos hs] at hf
        simp only [Option.map_some, Option.getD_some, winf, inf] at hf
        omega
      · rw [if_neg hs] at h
        exact absurd h (by decide)

theorem sub_inf {x : Nat} (hn : Fl.nanB x = false) (h : ¬ Fl.rung x < 9218868437227405312) : Fl.subC x x = Fl.NAN := by
  have hr := Fl.read_inf (x := x) (by have := Fl.not_nan hn; omega)
  unfold Fl.subC Ieee.Format.sub
  rw [hr]; cases Fl.sgn x <;> rfl

theorem eq_of_mix {x r v : Nat} (hx : Fl.rung x < 9218868437227405312) (h : Fl.Eqv r v) (hv : Fl.nanB v = false) (hs : Fl.sv v = Fl.sv x) : (FloatKind.f64.format.order r x == some .eq) = true := by
  have hrv : r = v := by
    rcases h with h | h
    · exact h
    · rw [h.2] at hv; cases hv
  rw [hrv, f_eq hv (Fl.nanB_false (by omega)), hs]; simp

theorem mix_same {old : Nat} (h : Fl.rung old < 9218868437227405312) : Fl.nanB (mixC old old 4607182418800017408) = false ∧ Fl.sv (mixC old old 4607182418800017408) = Fl.sv old := by
  unfold mixC
  have h1 : Fl.subC old old = 0 := by unfold Fl.subC; rw [sub_self_num h]; rfl
  rw [h1]
  exact add_zero h (by decide +kernel)
theorem mix_zero {old now : Nat} (h : Fl.rung old < 9218868437227405312) (hd : Fl.rung (Fl.subC now old) < 9218868437227405312) : Fl.nanB (mixC old now 0) = false ∧ Fl.sv (mixC old now 0) = Fl.sv old := by
  unfold mixC
  obtain ⟨m1, _⟩ := mul_zero (b := 0) (q := Fl.subC now old) (by decide)
  exact add_zero h (m1 hd).2

set_option maxHeartbeats 1000000 in
theorem mixes_walk (old now : Nat) (w : World) :
    Calls Try.prog 11 #[.float .f64 old, .float .f64 now] w fun e w' => e = .returned (.bool true) ∧ Below w.heap.size w w' := by
  obtain ⟨d, n1, hd, qd, ld⟩ := run_sub w 22 now old
  have Qd := Lib.hid qd
  clear qd
  cases hn : Fl.nanB d
  · obtain ⟨e, n2, he, qe, le⟩ := run_sub (w.drewN n1) 22 d d
    rw [World.drewN_drewN] at he
    by_cases hf : Fl.rung d < 9218868437227405312
    · obtain rfl : e = 0 := by
        have h1 : Fl.subC d d = 0 := by unfold Fl.subC; rw [sub_self_num hf]; rfl
        rw [h1] at qe
        rcases qe with h | h
        · exact h
        · exact absurd h.2 (by decide)
      have t1 : (FloatKind.f64.format.order 0 0 != some .eq) = false := by decide
      have hd2 : d = Fl.subC now old := Qd.out.eq hn
      have hq : Fl.rung now < 9218868437227405312 ∧ Fl.rung old < 9218868437227405312 := by rw [hd2] at hn hf; exact sub_fin hn hf
      have M1 := Lib.hid (mix_same hq.2)
      have M2 := Lib.hid (mix_zero (now := now) hq.2 (by rw [← hd2]; exact hf))
      have Hq := Lib.hid hq.2
      clear hd2 hq hf qe le
      go_enter Try.func11, Try.ntmps11
      go_wp2_with fail
      refine (known4_any _).mono ?_
      rintro e w1 ⟨rfl, rfl⟩
      go_wp2_with fail
      refine (nan_any _ _).mono ?_
      rintro e w1 ⟨rfl, rfl⟩
      go_wp2_with fail
      refine (mix_any _ _ _ _).mono ?_
      rintro e w1 ⟨x, k1, rfl, qx, lx, rfl⟩
      have X := eq_of_mix Hq.out qx M1.out.1 M1.out.2
      clear qx lx
      go_wp2_with fail
      refine (mix_any _ _ _ _).mono ?_
      rintro e w1 ⟨y, k2, rfl, qy, ly, rfl⟩
      have Y := eq_of_mix Hq.out qy M2.out.1 M2.out.2
      clear qy ly
      go_wp2_with fail
      go_ret
      exact ⟨rfl, below_drewN (Below.refl _ _) _⟩
    · have t1 : (FloatKind.f64.format.order e 0 != some .eq) = true := by
        rw [sub_inf hn hf] at qe
        have : FloatKind.f64.format.order e 0 = none := Fl.order_nan (by rw [qe.nan, Fl.nan_NAN]; rfl)
        rw [this]; rfl
      clear qe le hf
      go_enter Try.func11, Try.ntmps11
      go_wp2_with fail
      refine (known4_any _).mono ?_
      rintro e w1 ⟨rfl, rfl⟩
      go_wp2_with fail
      refine (nan_any _ _).mono ?_
      rintro e w1 ⟨rfl, rfl⟩
      go_wp2_with fail
      go_ret
      exact ⟨rfl, below_drewN (Below.refl _ _) _⟩
  · go_enter Try.func11, Try.ntmps11
    go_wp2_with fail
    refine (known4_any _).mono ?_
    rintro e w1 ⟨rfl, rfl⟩
    go_wp2_with fail
    refine (nan_any _ _).mono ?_
    rintro e w1 ⟨rfl, rfl⟩
    go_wp2_with fail
    go_ret
    exact ⟨rfl, below_drewN (Below.refl _ _) _⟩

end Go.Proofs.Ytmadogmahggpeaa
