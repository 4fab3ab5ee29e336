/-
  Unframe.
-/
import Derived.Test.YtcpelncjagaadaaGreatDoorWI
namespace Go.Proofs.YtcpelncjagaadaaGreatDoor
open Go.RowKit

attribute [local go_sem ↓] Go.wp_at_zero Go.wp_at_succ

/-- A part of the slice, however the walk writes its address. -/
theorem Shows.part {ao ao' : Option Addr} {n cap lo m c' : Nat} {B C : List Nat} {w : World} (h : Shows (.slice ao n cap) B w) (h2 : lo + m ≤ n) (hao : 0 < m → ∀ g o, ao = some ⟨g, o, none⟩ → ao' = some ⟨g, o + lo, none⟩) (hc : m ≤ c') (hC : (B.take (lo + m)).drop lo = C) : Shows (.slice ao' m c') C w := by
  obtain ⟨ao1, cap1, e, hcap, h⟩ := h
  injection e with e1 e2 e3
  subst e1 e2 e3
  have hl : C.length = m := by rw [← hC]; simp; omega
  refine ⟨_, _, by rw [hl], by rw [hl]; exact hc, fun hp => ?_⟩
  rw [hl] at hp
  obtain ⟨g, o, rfl, hg, hcell⟩ := h (by omega)
  refine ⟨g, o + lo, hao hp g o rfl, hg, fun j hj => ?_⟩
  rw [hl] at hj
  rw [show o + lo + j = o + (lo + j) by omega, hcell (lo + j) (by omega), ← hC]
  have e1 : ((B.take (lo + m)).drop lo).getD j 0 = B.getD (lo + j) 0 := by
    simp [List.getD, List.getElem?_drop, hj]
  rw [e1]

theorem frame_head (B : List Nat) : (frameB B).take 2 = le B.length 2 := by
  unfold frameB; rw [List.take_append_of_le_length (by rw [le_length]; exact Nat.le_refl _), List.take_of_length_le (by rw [le_length]; exact Nat.le_refl _)]
theorem frame_mid (B : List Nat) : ((frameB B).take (2 + B.length)).drop 2 = B := by
  unfold frameB
  rw [List.take_append, le_length, List.drop_append, List.length_take, le_length]
  simp [le_length]
theorem frame_tail (B : List Nat) (h : B.length ≤ 254) : ((frameB B).take 256).drop (2 + B.length) = List.replicate (256 - (2 + B.length)) 0 := by
  rw [List.take_of_length_le (by rw [frameB_length h]; exact Nat.le_refl _)]
  unfold frameB
  rw [List.drop_append, le_length, show 2 + B.length - 2 = B.length by omega, List.drop_append]
  rw [List.drop_of_length_le (by rw [le_length]; omega), List.drop_of_length_le (Nat.le_refl _), Nat.sub_self, List.drop_zero, List.nil_append, List.nil_append, show 254 - B.length = 256 - (2 + B.length) by omega]

set_option maxRecDepth 100000 in
set_option maxHeartbeats 2000000 in
theorem unframe_any (v : Value) (B : List Nat) (w : World) (hl : B.length ≤ 254) (h : Shows v (frameB B) w) : Calls Tryz.prog 67 #[v] w (OkBytes B w) := by
  have hlen := frameB_length hl
  obtain ⟨ao, cap, rfl, hcap, -⟩ := id h
  rw [hlen] at h hcap ⊢
  have h2 := h.cutTo (hi := 2) (by omega)
  rw [frame_head] at h2
  have hT := h.cut (lo := 2 + B.length) (hi := 256) (by omega) (Nat.le_refl _)
  rw [frame_tail B hl] at hT
  have HW := Lib.hid h
  have hv : leVal (le B.length 2) = B.length := by rw [leVal_le]; exact Nat.mod_eq_of_lt (by simp; omega)
  have HV := Lib.hid hv
  by_cases hcl : cap = 2 + B.length
  · subst hcl
    rw [if_pos rfl, Nat.sub_self, show 256 - (2 + B.length) = 0 by omega] at hT
    have H := Lib.hid (And.intro h2 hT)
    clear hlen h h2 hT hv
    have hn1 : ¬ B.length = 0 := by omega
    have hn2 : ¬ B = [] := fun e => hn1 (by rw [e]; rfl)
    go_enter Tryz.func67, Tryz.ntmps67
    go_wp2_with fail
    refine (get_any _ _ _ (by rw [le_length]; decide) (le_lt _ _) H.out.1).mono ?_
    rintro e w1 ⟨rfl, rfl⟩
    rw [HV.out]
    go_wp2_with fail
    (with_reducible refine (trim_any _ _ _ _ (by omega) H.out.2).mono ?_)
    rintro e w1 ⟨rfl, k, rfl⟩
    go_wp2_with fail
    refine (clone83_any _ B _ (by omega) ((HW.out.part (lo := 2) (m := B.length) (by omega) (fun _ g o e => by subst e; rfl) (by omega) (frame_mid B)).drewN k)).mono ?_
    intro e w2 hg
    obtain ⟨v1, rfl, ho, ht⟩ := hg
    have H1 := Lib.hid (And.intro ho ht.of_drewN)
    clear ho ht
    go_wp2_with fail
    go_ret2
    exact ⟨_, rfl, H1.out.1, H1.out.2⟩
  · rw [if_neg hcl] at hT
    have H := Lib.hid (And.intro h2 hT)
    clear hlen h h2 hT hv
    go_enter Tryz.func67, Tryz.ntmps67
    go_wp2_with fail
    refine (get_any _ _ _ (by rw [le_length]; decide) (le_lt _ _) H.out.1).mono ?_
    rintro e w1 ⟨rfl, rfl⟩
    rw [HV.out]
    go_wp2_with fail
    (with_reducible refine (trim_any _ _ _ _ (by omega) H.out.2).mono ?_)
    rintro e w1 ⟨rfl, k, rfl⟩
    go_wp2_with fail
    refine (clone83_any _ B _ (by omega) ((HW.out.part (lo := 2) (m := B.length) (by omega) (fun _ g o e => by subst e; rfl) (by omega) (frame_mid B)).drewN k)).mono ?_
    intro e w2 hg
    obtain ⟨v1, rfl, ho, ht⟩ := hg
    have H1 := Lib.hid (And.intro ho ht.of_drewN)
    clear ho ht
    go_wp2_with fail
    go_ret2
    exact ⟨_, rfl, H1.out.1, H1.out.2⟩

end Go.Proofs.YtcpelncjagaadaaGreatDoor
