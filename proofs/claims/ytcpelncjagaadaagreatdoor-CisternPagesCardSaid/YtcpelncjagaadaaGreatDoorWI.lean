/-
  bytes.Trim of noughts; Unframe.
-/
import Derived.Test.YtcpelncjagaadaaGreatDoorWH
namespace Go.Proofs.YtcpelncjagaadaaGreatDoor
open Go.RowKit

attribute [local go_sem ↓] Go.wp_at_zero Go.wp_at_succ

def sliceLen : Value → Nat
  | .slice _ n _ => n
  | _ => 0

set_option maxHeartbeats 1000000 in
theorem trimRight_any (ao : Option Addr) (n cap : Nat) (w : World) (hl : n ≤ 1000000) (h : Shows (.slice ao n cap) (List.replicate n 0) w) :
    Calls Tryz.prog 98 #[.slice ao n cap, .int .u8 0] w fun e w' => e = .returned (.slice ao 0 cap) ∧ w = w' := by
  obtain ⟨-, hcap⟩ := h.len
  obtain ⟨ao', cap', e, -, hr⟩ := h
  injection e with e1 e2 e3
  subst e1 e3
  rw [List.length_replicate] at hr
  have Hr := Lib.hid hr
  clear hr
  go_enter Tryz.func98, Tryz.ntmps98
  go_wp2_with fail
  go_loopw [0] (fun u wr => ∃ m : Nat, m ≤ n ∧ u = .slice ao m cap ∧ w = wr) (fun u _ => sliceLen u)
  case atStart => exact ⟨n, Nat.le_refl _, rfl, rfl⟩
  case round =>
    obtain ⟨m, hm, rfl, rfl⟩ := hrel
    by_cases h0 : m = 0
    · subst h0
      go_wp2_with fail
      go_ret
      exact ⟨rfl, rfl⟩
    · obtain ⟨g, o, rfl, hg, hc⟩ := Hr.out (by omega)
      obtain ⟨k, rfl⟩ : ∃ k, m = k + 1 := ⟨m - 1, by omega⟩
      have c0 := hc k (by omega)
      have e0 : (List.replicate n 0).getD k 0 = 0 := by simp [List.getD, List.getElem?_replicate]; split <;> rfl
      rw [e0] at c0
      clear hc e0 h0
      go_wp2_with fail
      go_roundw
      case rel => exact ⟨k, by omega, by go_num, trivial⟩
      case measure => simp [sliceLen]

theorem trimLeft_any (ao : Option Addr) (cap : Nat) (w : World) : Calls Tryz.prog 97 #[.slice ao 0 cap, .int .u8 0] w fun e w' => e = .returned (.slice none 0 0) ∧ w = w' := by
  go_enter Tryz.func97, Tryz.ntmps97
  go_wp2_with fail
  go_loopw [0] (fun u wr => u = .slice ao 0 cap ∧ w = wr) (fun _ _ => 0)
  case atStart => exact ⟨rfl, rfl⟩
  case round =>
    obtain ⟨rfl, rfl⟩ := hrel
    go_wp2_with fail
    go_ret
    exact ⟨rfl, rfl⟩

set_option maxRecDepth 100000 in
set_option maxHeartbeats 1000000 in
theorem trim_any (ao : Option Addr) (n cap : Nat) (w : World) (hl : n ≤ 1000000) (h : Shows (.slice ao n cap) (List.replicate n 0) w) :
    Calls Tryz.prog 86 #[.slice ao n cap, .string ⟨#[0]⟩] w fun e w' => e = .returned (.slice none 0 0) ∧ ∃ k, w' = w.drewN k := by
  have q1 : Hid (∀ k, Calls Tryz.prog 98 #[.slice ao n cap, .int .u8 0] (w.drewN k) fun e w' => e = .returned (.slice ao 0 cap) ∧ w' = w.drewN k) := Lib.hid fun k => (trimRight_any ao n cap _ hl (h.drewN k)).mono fun _ _ hh => ⟨hh.1, hh.2.symm⟩
  have q2 : Hid (∀ k, Calls Tryz.prog 97 #[.slice ao 0 cap, .int .u8 0] (w.drewN k) fun e w' => e = .returned (.slice none 0 0) ∧ w' = w.drewN k) := Lib.hid fun k => (trimLeft_any ao cap _).mono fun _ _ hh => ⟨hh.1, hh.2.symm⟩
  clear h
  by_cases h0 : n = 0
  · subst h0
    go_enter Tryz.func86, Tryz.ntmps86
    go_wp2_with fail
    go_ret
    exact ⟨rfl, 0, rfl⟩
  · have hb : ((n : Int) == 0) = false := by simp; omega
    go_enter Tryz.func86, Tryz.ntmps86
    go_wp2_with fail
    go_quiet (first | (go_at_call 98; exact Calls.quiet_of_same (q1.out _)) | (go_at_call 97; exact Calls.quiet_of_same (q2.out _)))
    go_wp2_with fail
    go_ret
    exact ⟨rfl, _, rfl⟩

end Go.Proofs.YtcpelncjagaadaaGreatDoor
