/-
  pack.Crc: some function of the bytes.
-/
import Derived.Test.YtcpelncjagaadaaGreatDoorWB
namespace Go.Proofs.YtcpelncjagaadaaGreatDoor
open Go.RowKit

def crcBit (s : Nat) : Nat := if s % 2 = 1 then (s / 2) ^^^ 3988292384 else s / 2
def crcBits : Nat → Nat → Nat
  | 0, s => s
  | n + 1, s => crcBit (crcBits n s)
def crcByte (s b : Nat) : Nat := crcBits 8 (s ^^^ b)
def crcFold (B : List Nat) : Nat := B.foldl crcByte 4294967295
/-- The checksum. -/
def crc (B : List Nat) : Nat := 4294967295 ^^^ crcFold B

theorem xor_lt32 {a b : Nat} (ha : a < 4294967296) (hb : b < 4294967296) : a ^^^ b < 4294967296 := Nat.xor_lt_two_pow (n := 32) ha hb
theorem crcBit_lt {s : Nat} (h : s < 4294967296) : crcBit s < 4294967296 := by
  unfold crcBit
  split
  · exact xor_lt32 (by omega) (by decide)
  · omega
theorem crcBits_lt (n : Nat) {s : Nat} (h : s < 4294967296) : crcBits n s < 4294967296 := by
  induction n with
  | zero => exact h
  | succ n ih => exact crcBit_lt ih
theorem crcFold_lt (B : List Nat) (hB : ∀ b ∈ B, b < 256) : crcFold B < 4294967296 := by
  unfold crcFold
  have : ∀ (s : Nat), s < 4294967296 → B.foldl crcByte s < 4294967296 := by
    induction B with
    | nil => intro s h; exact h
    | cons a l ih =>
      intro s h
      have := hB a (by simp)
      exact ih (fun b hb => hB b (by simp [hb])) _ (crcBits_lt 8 (xor_lt32 h (by omega)))
  exact this _ (by decide)
theorem crc_lt (B : List Nat) (hB : ∀ b ∈ B, b < 256) : crc B < 4294967296 := xor_lt32 (by decide) (crcFold_lt B hB)
theorem crcFold_take (B : List Nat) (j : Nat) (h : j < B.length) : crcFold (B.take (j + 1)) = crcByte (crcFold (B.take j)) (B.getD j 0) := by
  unfold crcFold
  rw [List.take_add_one, List.getElem?_eq_getElem h]
  simp only [Option.toList_some]
  rw [List.foldl_append]
  simp [List.getD, h]

theorem crc_and (s : Nat) (h : s < 4294967296) : bits BinOp.and IntKind.u32 (s : Int) 1 = ((s % 2 : Nat) : Int) := by
  rw [show (1 : Int) = ((1 : Nat) : Int) from rfl, u32_and_nat s 1 h (by decide), nat_mask1]
theorem crc_poly (s : Nat) (h : s < 4294967296) : bits BinOp.xor IntKind.u32 (s : Int) 3988292384 = ((s ^^^ 3988292384 : Nat) : Int) := by
  rw [show (3988292384 : Int) = ((3988292384 : Nat) : Int) from rfl, u32_xor_nat s _ h (by decide)]
theorem crc_poly2 (r : Nat) (h : r < 4294967296) : bits BinOp.xor IntKind.u32 ((r : Int) / 2) 3988292384 = ((r / 2 ^^^ 3988292384 : Nat) : Int) := by
  rw [show ((r : Int) / 2) = ((r / 2 : Nat) : Int) by omega, crc_poly _ (by omega)]
theorem crc_not (s : Nat) (h : s < 4294967296) : bits BinOp.xor IntKind.u32 (if IntKind.u32.signed = true then -1 else IntKind.u32.max) (s : Int) = ((4294967295 ^^^ s : Nat) : Int) := by
  rw [if_neg (by decide), show IntKind.u32.max = ((4294967295 : Nat) : Int) by decide, u32_xor_nat _ s (by decide) h]

set_option maxHeartbeats 1000000 in
theorem crc_any (v : Value) (B : List Nat) (w : World) (hl : B.length ≤ 1000000) (hB : ∀ b ∈ B, b < 256) (h : Shows v B w) :
    Calls Tryz.prog 84 #[v] w fun e w' => e = .returned (.int .i64 (crc B : Nat)) ∧ w = w' := by
  obtain ⟨ao, cap, rfl, -, hr⟩ := h
  have Hr := Lib.hid hr
  have HB := Lib.hid hB
  clear hr hB
  go_enter Tryz.func84, Tryz.ntmps84
  go_wp2_with fail
  go_loopw [3, 9] (fun y i wr => ∃ j : Nat, j ≤ B.length ∧ i = .int .i64 j ∧ y = .int .u32 (crcFold (B.take j) : Nat) ∧ w = wr) (fun _ i _ => B.length - (intOf i).toNat)
  case atStart => exact ⟨0, Nat.zero_le _, rfl, rfl, rfl⟩
  case round =>
    obtain ⟨j, hj, rfl, rfl, rfl⟩ := hrel
    have hs := crcFold_lt (B.take j) (fun b hb => HB.out b (List.mem_of_mem_take hb))
    by_cases hlt : j < B.length
    · obtain ⟨g, o, rfl, hg, hc⟩ := Hr.out (by omega)
      have c0 := hc j hlt
      have hb := getD_lt HB.out hlt
      have HS := Lib.hid (crcFold_take B j hlt)
      clear hc
      generalize B.getD j 0 = b at c0 hb HS
      generalize crcFold (B.take j) = s at hs HS
      have h0 := xor_lt32 hs (show b < 4294967296 by omega)
      have hxor := u32_xor_nat s b hs (by omega)
      go_wp2_with (rw [hxor])
      clear hxor c0
      go_loopw [3, 17] (fun y i wx => ∃ k : Nat, k ≤ 8 ∧ i = .int .i64 k ∧ y = .int .u32 (crcBits k (s ^^^ b) : Nat) ∧ w = wx) (fun _ i _ => 8 - (intOf i).toNat)
      case atStart => exact ⟨0, by omega, rfl, rfl, rfl⟩
      case round =>
        obtain ⟨k, hk, rfl, rfl, rfl⟩ := hrel
        have hr := crcBits_lt k h0
        by_cases hk8 : k < 8
        · have HC : Hid (crcBits (k + 1) (s ^^^ b) = crcBit (crcBits k (s ^^^ b))) := Lib.hid rfl
          generalize crcBits k (s ^^^ b) = r at hr HC
          have e1 := crc_and r hr
          have e2 := Lib.hid (crc_poly2 r hr)
          by_cases h2 : r % 2 = 1
          · have HR : Hid (crcBit r = (r / 2) ^^^ 3988292384) := Lib.hid (by unfold crcBit; rw [if_pos h2])
            rw [h2] at e1
            clear h2
            go_wp2_with (rw [e1])
            go_roundw
            case rel => exact ⟨k + 1, by omega, by go_num, by rw [HC.out, HR.out, e2.out], trivial⟩
            case measure => simp [intOf]; omega
          · have HR : Hid (crcBit r = r / 2) := Lib.hid (by unfold crcBit; rw [if_neg h2])
            rw [show r % 2 = 0 by omega] at e1
            clear h2 e2
            go_wp2_with (rw [e1])
            go_roundw
            case rel => exact ⟨k + 1, by omega, by go_num, by rw [HC.out, HR.out]; first | rfl | go_num, trivial⟩
            case measure => simp [intOf]; omega
        · obtain rfl : k = 8 := by omega
          go_wp2_with fail
          go_roundw
          case rel => exact ⟨j + 1, by omega, by go_num, by rw [HS.out]; rfl, trivial⟩
          case measure => simp [intOf]; omega
    · obtain rfl : j = B.length := by omega
      rw [List.take_length] at *
      have e1 := crc_not (crcFold B) hs
      have hc : 4294967295 ^^^ crcFold B < 4294967296 := xor_lt32 (by decide) hs
      have HC : Hid (crc B = 4294967295 ^^^ crcFold B) := Lib.hid rfl
      generalize 4294967295 ^^^ crcFold B = c at hc e1 HC
      go_wp2_with (rw [e1])
      go_ret
      exact ⟨by rw [HC.out]; rfl, rfl⟩

end Go.Proofs.YtcpelncjagaadaaGreatDoor
