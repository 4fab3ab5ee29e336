/-
  Settle, Reserve, Release.
-/
import Derived.Test.YtfkmjepbckafdaaDoorWE
namespace Go.Proofs.YtfkmjepbckafdaaDoor
open Go.RowKit

theorem zc : (Builtin.zeroCells #[Value.int .u64 0] 1).toList = [Value.int .u64 0] := by kernel_rfl
theorem add0 (l : Nat) : (⟨l, 0, none⟩ : Addr).add 0 = ⟨l, 0, none⟩ := rfl
theorem clear_run (l c x : Nat) (w : World) (ty : TypeId) (hc : w.cell? ⟨l, 0, none⟩ = some (.int .u64 x)) (hf : w.frozen? ⟨l, 0, none⟩ = false) :
    (Builtin.clear_ #[49] ty #[.slice (some ⟨l, 0, none⟩) 1 c]).run Tryd.prog w = .ok (.tuple #[]) (w.setCell ⟨l, 0, none⟩ (.int .u64 0)) := by
  unfold Builtin.clear_
  simp [go_sem, zc, storeCells, hc, hf, add0]

def St.settleS (s : St) : St := { s with L := 0 }
theorem Ok.settle {s : St} (h : Ok s) : Ok s.settleS :=
  ⟨h.n1, h.n64, h.U, by show 0 < 2 ^ s.n; exact Nat.two_pow_pos _, fun i => by simp [St.settleS], by have := h.b; show Bt.cnt s.U + Bt.cnt 0 + s.b ≤ s.n; rw [Bt.cnt_zero]; omega⟩

set_option maxHeartbeats 400000 in
theorem settle_any (a : Loc) (s : St) (w : World) (hs : Ok s) (h : At a s w) :
    Calls Tryd.prog 14 #[.pointer (some ⟨a.p, 0, none⟩)] w fun e w' => e = .returned (.int .i64 (Bt.cnt s.L)) ∧ At a s.settleS w' ∧ Touch a.own w w' := by
  have H := Lib.hid h
  obtain ⟨c0, c1, c2, c3, cU, cL, f3, fU, fL, pu, pl, ul⟩ := h
  have hL' := pow_le64 hs.L hs.n64
  have hclr := clear_run a.l a.cl s.L w 0 cL fL
  clear hs
  go_enter Tryd.func14, Tryd.ntmps14
  go_wp2_with fail
  refine (count_any s.L a.l a.cl _ hL' cL).mono ?_
  rintro e w1 ⟨rfl, rfl⟩
  go_wp2
  go_ret
  exact ⟨rfl, H.out.setL 0, (Touch.refl _ w).setCell _ _ (fun _ => .inr (.inr rfl))⟩

def St.reserveE (s : St) (k : Int) : Int := if k < 0 then 1 else if (s.free : Int) < k then 5 else 0
def St.reserveS (s : St) (k : Int) : St := if s.reserveE k = 0 then { s with b := s.b + k.toNat } else s
theorem Ok.reserve {s : St} (h : Ok s) (k : Int) : Ok (s.reserveS k) := by
  unfold St.reserveS
  split
  · rename_i he
    refine ⟨h.n1, h.n64, h.U, h.L, h.UL, ?_⟩
    have := h.b
    unfold St.reserveE St.free at he
    simp only
    split at he
    · simp at he
    · split at he
      · simp at he
      · omega
  · exact h

set_option maxHeartbeats 400000 in
theorem reserve_any (a : Loc) (s : St) (k : Int) (w : World) (hs : Ok s) (h : At a s w) :
    Calls Tryd.prog 16 #[.pointer (some ⟨a.p, 0, none⟩), .int .i64 k] w fun e w' => e = .returned (.int .i64 (s.reserveE k)) ∧ At a (s.reserveS k) w' ∧ Touch a.own w w' := by
  have Hs := Lib.hid hs
  have H := Lib.hid h
  obtain ⟨c0, c1, c2, c3, cU, cL, f3, fU, fL, pu, pl, ul⟩ := h
  have hb := hs.b
  have hn := hs.n64
  clear hs
  by_cases h1 : k < 0
  · have e1 : s.reserveE k = 1 := by simp [St.reserveE, h1]
    have E1 := Lib.hid e1
    clear e1
    go_enter Tryd.func16, Tryd.ntmps16
    go_wp2_with fail
    go_ret
    refine ⟨ret_int E1.out.symm, ?_, Touch.refl _ _⟩
    simp only [St.reserveS, E1.out]; exact H.out
  · by_cases h2 : (s.free : Int) < k
    · have E1 : Hid (s.reserveE k = 5) := Lib.hid (by simp [St.reserveE, h1, h2])
      go_enter Tryd.func16, Tryd.ntmps16
      go_wp2_with fail
      refine (free_any a s _ Hs.out H.out).mono ?_
      rintro e w1 ⟨rfl, m, rfl⟩
      go_wp2_with fail
      go_ret
      refine ⟨ret_int E1.out.symm, ?_, Touch.same _ _⟩
      simp only [St.reserveS, E1.out]; exact H.out.drewN _
    · have E1 : Hid (s.reserveE k = 0) := Lib.hid (by simp [St.reserveE, h1, h2])
      obtain ⟨m, rfl⟩ : ∃ m : Nat, k = m := ⟨k.toNat, by omega⟩
      have hfr : s.free ≤ 64 := by unfold St.free; omega
      go_enter Tryd.func16, Tryd.ntmps16
      go_wp2_with fail
      refine (free_any a s _ Hs.out H.out).mono ?_
      rintro e w1 ⟨rfl, m, rfl⟩
      go_wp2_with fail
      go_ret
      refine ⟨ret_int E1.out.symm, ?_, ((Touch.same w _).setCell _ _ (fun _ => .inl rfl))⟩
      simp only [St.reserveS, E1.out, if_true]
      exact (H.out.drewN _).setB _

def St.releaseE (s : St) (k : Int) : Int := if k < 0 ∨ (s.b : Int) < k then 1 else 0
def St.releaseS (s : St) (k : Int) : St := if s.releaseE k = 0 then { s with b := s.b - k.toNat } else s
theorem Ok.release {s : St} (h : Ok s) (k : Int) : Ok (s.releaseS k) := by
  unfold St.releaseS
  split
  · refine ⟨h.n1, h.n64, h.U, h.L, h.UL, ?_⟩
    have := h.b
    simp only
    omega
  · exact h

set_option maxHeartbeats 400000 in
theorem release_any (a : Loc) (s : St) (k : Int) (w : World) (hs : Ok s) (h : At a s w) :
    Calls Tryd.prog 17 #[.pointer (some ⟨a.p, 0, none⟩), .int .i64 k] w fun e w' => e = .returned (.int .i64 (s.releaseE k)) ∧ At a (s.releaseS k) w' ∧ Touch a.own w w' := by
  have H := Lib.hid h
  obtain ⟨c0, c1, c2, c3, cU, cL, f3, fU, fL, pu, pl, ul⟩ := h
  have hb := hs.b
  have hn := hs.n64
  clear hs
  by_cases h1 : k < 0
  · have E1 : Hid (s.releaseE k = 1) := Lib.hid (by simp [St.releaseE, h1])
    go_enter Tryd.func17, Tryd.ntmps17
    go_wp2_with fail
    go_ret
    refine ⟨ret_int E1.out.symm, ?_, Touch.refl _ _⟩
    simp only [St.releaseS, E1.out]; exact H.out
  · by_cases h2 : (s.b : Int) < k
    · have E1 : Hid (s.releaseE k = 1) := Lib.hid (by simp [St.releaseE, h2])
      go_enter Tryd.func17, Tryd.ntmps17
      go_wp2_with fail
      go_ret
      refine ⟨ret_int E1.out.symm, ?_, Touch.refl _ _⟩
      simp only [St.releaseS, E1.out]; exact H.out
    · have E1 : Hid (s.releaseE k = 0) := Lib.hid (by simp [St.releaseE, h1, h2])
      obtain ⟨m, rfl⟩ : ∃ m : Nat, k = m := ⟨k.toNat, by omega⟩
      go_enter Tryd.func17, Tryd.ntmps17
      go_wp2_with fail
      go_ret
      have e2 : (s.b : Int) - m = ((s.b - m : Nat) : Int) := by omega
      refine ⟨ret_int E1.out.symm, ?_, ((Touch.refl _ w).setCell _ _ (fun _ => .inl rfl))⟩
      simp only [St.releaseS, E1.out, if_true, Int.toNat_natCast]
      rw [e2]
      exact H.out.setB _

end Go.Proofs.YtfkmjepbckafdaaDoor
