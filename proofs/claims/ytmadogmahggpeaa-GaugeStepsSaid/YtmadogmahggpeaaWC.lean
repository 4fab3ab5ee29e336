/-
  The walks of the ticks and of the reference's comparisons.
-/
import Derived.Test.YtmadogmahggpeaaWB
import Derived.Test.YtmadogmahggpeaaFlD
namespace Go.Proofs.Ytmadogmahggpeaa
open Go.RowKit

theorem f_lt {x y : Nat} (hx : Fl.nanB x = false) (hy : Fl.nanB y = false) : (FloatKind.f64.format.order x y == some .lt) = decide (Fl.sv x < Fl.sv y) := Fl.lt_iff hx hy
theorem f_gt {x y : Nat} (hx : Fl.nanB x = false) (hy : Fl.nanB y = false) : (FloatKind.f64.format.order x y == some .gt) = decide (Fl.sv y < Fl.sv x) := Fl.gt_iff hx hy
theorem f_eq {x y : Nat} (hx : Fl.nanB x = false) (hy : Fl.nanB y = false) : (FloatKind.f64.format.order x y == some .eq) = decide (Fl.sv x = Fl.sv y) := Fl.eq_iff hx hy

theorem floor_any (x : Nat) (w : World) (h : Fl.nanB x = false) :
    Calls Try.prog 52 #[.float .f64 x] w fun e w' => e = .returned (.float .f64 (Ieee.double.write ((Ieee.double.read x).integral .down))) ∧ w = w' := by
  have cf := fun w => call_floor x w h
  go_enter Try.func52, Try.ntmps52
  go_wp2
  go_ret
  exact ⟨rfl, rfl⟩

set_option maxHeartbeats 400000 in
theorem ticks_any (x : Nat) (w : World) :
    Calls Try.prog 34 #[.float .f64 x] w fun e w' => e = .returned (.int .i64 (Fl.tk x)) ∧ w = w' := by
  cases hn : Fl.nanB x
  · have Hn := Lib.hid hn
    by_cases h1 : Fl.sv x < (Fl.U : Int)
    · have T := Lib.hid (Fl.tk_small (.inr h1))
      have t1 : (FloatKind.f64.format.order x 4607182418800017408 == some .lt) = true := by rw [show (4607182418800017408 : Nat) = Fl.ONE from rfl, f_lt hn Fl.nan_ONE, Fl.sv_ONE]; simpa using h1
      clear h1
      go_enter Try.func34, Try.ntmps34
      go_wp2_with fail
      refine (isnan_any _ _).mono ?_
      rintro e w' ⟨rfl, rfl⟩
      go_wp2_with fail
      go_ret
      exact ⟨ret_int T.out.symm, rfl⟩
    · have t1 : (FloatKind.f64.format.order x 4607182418800017408 == some .lt) = false := by rw [show (4607182418800017408 : Nat) = Fl.ONE from rfl, f_lt hn Fl.nan_ONE, Fl.sv_ONE]; simpa using h1
      by_cases h2 : Fl.sv x < ((100000 * Fl.U : Nat) : Int)
      · obtain ⟨T, hs, hr, hf⟩ := Fl.tk_mid hn (by omega) h2
        have T := Lib.hid T
        have t2 : (FloatKind.f64.format.order x 4681608360884174848 == some .gt) = false := by rw [show (4681608360884174848 : Nat) = Fl.HUN from rfl, f_gt hn Fl.nan_HUN, Fl.sv_HUN]; simp; omega
        have t3 : (FloatKind.f64.format.order x 4681608360884174848 == some .eq) = false := by rw [show (4681608360884174848 : Nat) = Fl.HUN from rfl, f_eq hn Fl.nan_HUN, Fl.sv_HUN]; simp; omega
        have hc := fun w => run_convert_float_int (P := Try.prog) w 22 3 .f64 .i64 _ _ (by kernel_rfl) Try.underlying3 (Fl.floor_int hr hs hf)
        clear h1 h2 hs hr hf
        go_enter Try.func34, Try.ntmps34
        go_wp2_with fail
        refine (isnan_any _ _).mono ?_
        rintro e w' ⟨rfl, rfl⟩
        go_wp2_with fail
        refine (floor_any _ _ Hn.out).mono ?_
        rintro e w' ⟨rfl, rfl⟩
        go_wp2_with fail
        go_ret
        exact ⟨ret_int T.out.symm, rfl⟩
      · have T := Lib.hid (Fl.tk_big hn (by omega))
        have t2 : (FloatKind.f64.format.order x 4681608360884174848 == some .gt || FloatKind.f64.format.order x 4681608360884174848 == some .eq) = true := by
          rw [show (4681608360884174848 : Nat) = Fl.HUN from rfl, f_eq hn Fl.nan_HUN, f_gt hn Fl.nan_HUN, Fl.sv_HUN]; simp; omega
        clear h1 h2
        go_enter Try.func34, Try.ntmps34
        go_wp2_with fail
        refine (isnan_any _ _).mono ?_
        rintro e w' ⟨rfl, rfl⟩
        go_wp2_with fail
        go_ret
        exact ⟨ret_int T.out.symm, rfl⟩
  · have T := Lib.hid (Fl.tk_small (.inl hn))
    go_enter Try.func34, Try.ntmps34
    go_wp2_with fail
    refine (isnan_any _ _).mono ?_
    rintro e w' ⟨rfl, rfl⟩
    go_wp2_with fail
    go_ret
    exact ⟨ret_int T.out.symm, rfl⟩

set_option maxHeartbeats 400000 in
theorem rticks_any (x : Nat) (w : World) :
    Calls Try.prog 20 #[.float .f64 x] w fun e w' => e = .returned (.int .i64 (Fl.tk x)) ∧ w = w' := by
  cases hn : Fl.nanB x
  · have Hn := Lib.hid hn
    by_cases h1 : Fl.sv x < 0
    · have T := Lib.hid (Fl.tk_small (x := x) (.inr (by omega)))
      have t1 : (FloatKind.f64.format.order x 0 == some .lt) = true := by rw [f_lt hn Fl.nan_0, Fl.sv_0]; simpa using h1
      clear h1
      go_enter Try.func20, Try.ntmps20
      go_wp2_with fail
      refine (nan_any _ _).mono ?_
      rintro e w' ⟨rfl, rfl⟩
      go_wp2_with fail
      go_ret
      exact ⟨ret_int T.out.symm, rfl⟩
    · have t1 : (FloatKind.f64.format.order x 0 == some .lt) = false := by rw [f_lt hn Fl.nan_0, Fl.sv_0]; simpa using h1
      by_cases h2 : ((100000 * Fl.U : Nat) : Int) < Fl.sv x
      · have T := Lib.hid (Fl.tk_big hn (by omega))
        have t2 : (FloatKind.f64.format.order x 4681608360884174848 == some .gt) = true := by
          rw [show (4681608360884174848 : Nat) = Fl.HUN from rfl, f_gt hn Fl.nan_HUN, Fl.sv_HUN]; simpa using h2
        clear h1 h2
        go_enter Try.func20, Try.ntmps20
        go_wp2_with fail
        refine (nan_any _ _).mono ?_
        rintro e w' ⟨rfl, rfl⟩
        go_wp2_with fail
        go_ret
        exact ⟨ret_int T.out.symm, rfl⟩
      · have hr := Fl.tk_range x
        have T := Fl.to_int_val (Fl.tk_ref hn (by omega) (by omega)) (by omega) (by omega)
        have t2 : (FloatKind.f64.format.order x 4681608360884174848 == some .gt) = false := by rw [show (4681608360884174848 : Nat) = Fl.HUN from rfl, f_gt hn Fl.nan_HUN, Fl.sv_HUN]; simp; omega
        have hc := fun w => run_convert_float_int (P := Try.prog) w 22 3 .f64 .i64 _ _ (by kernel_rfl) Try.underlying3 T
        clear h1 h2 T
        go_enter Try.func20, Try.ntmps20
        go_wp2_with fail
        refine (nan_any _ _).mono ?_
        rintro e w' ⟨rfl, rfl⟩
        go_wp2_with fail
        go_ret
        exact ⟨rfl, rfl⟩
  · have T := Lib.hid (Fl.tk_small (.inl hn))
    go_enter Try.func20, Try.ntmps20
    go_wp2_with fail
    refine (nan_any _ _).mono ?_
    rintro e w' ⟨rfl, rfl⟩
    go_wp2_with fail
    go_ret
    exact ⟨ret_int T.out.symm, rfl⟩

end Go.Proofs.Ytmadogmahggpeaa
