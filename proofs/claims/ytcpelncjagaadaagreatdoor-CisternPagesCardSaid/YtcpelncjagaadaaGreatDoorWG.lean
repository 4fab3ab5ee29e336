/-
  Open; Frame; Unframe.
-/
import Derived.Test.YtcpelncjagaadaaGreatDoorWF
namespace Go.Proofs.YtcpelncjagaadaaGreatDoor
open Go.RowKit

attribute [local go_sem ↓] Go.wp_at_zero Go.wp_at_succ

theorem Shows.len {ao : Option Addr} {n cap : Nat} {B : List Nat} {w : World} (h : Shows (.slice ao n cap) B w) : n = B.length ∧ n ≤ cap := by
  obtain ⟨ao', cap', e, hc, -⟩ := h
  injection e with e1 e2 e3
  subst e1 e2 e3
  exact ⟨rfl, hc⟩

theorem Shows.cutTo {ao : Option Addr} {n cap hi : Nat} {B : List Nat} {w : World} (h : Shows (.slice ao n cap) B w) (h2 : hi ≤ n) : Shows (.slice ao hi cap) (B.take hi) w := by
  obtain ⟨ao', cap', e, hc, h⟩ := h
  injection e with e1 e2 e3
  subst e1 e2 e3
  have hl : (B.take hi).length = hi := by simp; omega
  refine ⟨_, _, by rw [hl], by rw [hl]; omega, fun hp => ?_⟩
  rw [hl] at hp ⊢
  obtain ⟨g, o, rfl, hg, hcell⟩ := h (by omega)
  refine ⟨g, o, rfl, hg, fun j hj => ?_⟩
  rw [hcell j (by omega)]
  have e1 : (B.take hi).getD j 0 = B.getD j 0 := by simp [List.getD, hj]
  rw [e1]
theorem Shows.cutAt {ao : Option Addr} {n cap lo m : Nat} {B : List Nat} {w : World} (h : Shows (.slice ao n cap) B w) (h1 : lo < cap) (h2 : lo + m ≤ n) :
    Shows (.slice (ao.map (·.add lo)) m (cap - lo)) ((B.take (lo + m)).drop lo) w := by
  have := h.cut (lo := lo) (hi := lo + m) (by omega) h2
  rwa [if_neg (by omega), show lo + m - lo = m by omega] at this

theorem get_q {v : Value} {B : List Nat} {w : World} (hl : B.length ≤ 8) (hB : ∀ b ∈ B, b < 256) (h : Shows v B w) (k : Nat) : Calls Tryz.prog 85 #[v] (w.drewN k) fun e w' => e = .returned (.int .u64 (leVal B : Nat)) ∧ w' = w.drewN k :=
  (get_any v B _ hl hB (h.drewN k)).mono fun _ _ hh => ⟨hh.1, hh.2.symm⟩
theorem crc_q {v : Value} {B : List Nat} {w : World} (hl : B.length ≤ 1000000) (hB : ∀ b ∈ B, b < 256) (h : Shows v B w) (k : Nat) : Calls Tryz.prog 84 #[v] (w.drewN k) fun e w' => e = .returned (.int .i64 (crc B : Nat)) ∧ w' = w.drewN k :=
  (crc_any v B _ hl hB (h.drewN k)).mono fun _ _ hh => ⟨hh.1, hh.2.symm⟩

set_option maxHeartbeats 400000 in
theorem open_short (v : Value) (B : List Nat) (w : World) (hl : B.length < 4) (h : Shows v B w) : Calls Tryz.prog 87 #[v] w fun e w' => e = .returned (.tuple #[.slice none 0 0, .int .i64 2]) ∧ w = w' := by
  obtain ⟨ao, cap, rfl, hcap, hr⟩ := h
  clear hr
  go_enter Tryz.func87, Tryz.ntmps87
  go_wp2_with fail
  go_ret2
  exact ⟨rfl, rfl⟩

def OkBytes (B : List Nat) (w : World) (e : Ending) (w' : World) : Prop :=
  ∃ v, e = .returned (.tuple #[v, .int .i64 0]) ∧ w'.ownsRow w.heap.size 5 1 v B.length (u8s B) ∧ Fresh w w'

theorem seal_tail (B : List Nat) : ((sealB B).take (B.length + 4)).drop B.length = le (crc B) 4 := by
  rw [List.take_of_length_le (by rw [sealB_length]; exact Nat.le_refl _)]; simp [sealB]
theorem seal_head (B : List Nat) : (sealB B).take B.length = B := by simp [sealB]

set_option maxRecDepth 100000 in
set_option maxHeartbeats 1000000 in
theorem open_any (v : Value) (B : List Nat) (w : World) (hl : B.length ≤ 1000000) (hB : ∀ b ∈ B, b < 256) (h : Shows v (sealB B) w) : Calls Tryz.prog 87 #[v] w (OkBytes B w) := by
  obtain ⟨ao, cap, rfl, hcap, -⟩ := id h
  have hlen := sealB_length B
  rw [hlen] at h hcap
  rw [hlen]
  have hT := h.cutAt (lo := B.length) (m := 4) (by omega) (Nat.le_refl _)
  have hH := h.cutTo (hi := B.length) (by omega)
  rw [seal_tail] at hT
  rw [seal_head] at hH
  have hv : leVal (le (crc B) 4) = crc B := by rw [leVal_le]; exact Nat.mod_eq_of_lt (crc_lt B hB)
  have hc := crc_lt B hB
  have q1 := Lib.hid (get_q (by rw [le_length]; decide) (le_lt (crc B) 4) hT)
  rw [hv] at q1
  have q2 := Lib.hid (crc_q hl hB hH)
  have HH := Lib.hid hH
  have hbx : ((crc B : Nat) : Int) < 4294967296 := by omega
  have hne : ((crc B : Int) != crc B) = false := by simp
  have hw : wrap64 (crc B : Int) = crc B := by unfold wrap64; omega
  clear hB hT hH hv hlen h hc hbx
  generalize crc B = c at *
  go_enter Tryz.func87, Tryz.ntmps87
  go_wp2_with fail
  go_quiet (first | (go_at_call 85; exact Calls.quiet_of_same (q1.out _)) | (go_at_call 84; exact Calls.quiet_of_same (q2.out _)))
  clear hw
  go_wp2_with fail
  refine (clone83_any _ B _ hl (HH.out.drewN _)).mono ?_
  intro e w1 hg
  obtain ⟨v1, rfl, ho, ht⟩ := hg
  have H1 := Lib.hid (And.intro ho ht.of_drewN)
  clear ho ht
  go_wp2_with fail
  go_ret2
  exact ⟨_, rfl, H1.out.1, H1.out.2⟩

end Go.Proofs.YtcpelncjagaadaaGreatDoor
