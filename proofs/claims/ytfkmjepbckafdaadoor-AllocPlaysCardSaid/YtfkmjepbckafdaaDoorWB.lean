/-
  The sets of one word: has, add, drop.
-/
import Derived.Test.YtfkmjepbckafdaaDoorWA
namespace Go.Proofs.YtfkmjepbckafdaaDoor
open Go.RowKit

theorem quo64 (b : Nat) (h : b < 64) : Int.tdiv (b : Int) 64 = 0 := by rw [Int.tdiv_eq_ediv_of_nonneg (by omega)]; omega
theorem rem64 (b : Nat) (h : b < 64) : Int.tmod (b : Int) 64 = b := by rw [Int.tmod_eq_emod_of_nonneg (by omega)]; omega

theorem bit_at (x b : Nat) (hx : x < 18446744073709551616) : (bits BinOp.and IntKind.u64 ((x : Int) / 2 ^ b) 1 == 1) = x.testBit b := by
  have e1 : ((x : Int) / 2 ^ b) = ((x / 2 ^ b : Nat) : Int) := by push_cast; rfl
  have h2 : x / 2 ^ b < 18446744073709551616 := Nat.lt_of_le_of_lt (Nat.div_le_self _ _) hx
  rw [e1, show (1 : Int) = ((1 : Nat) : Int) from rfl, and64 _ _ h2 (by decide), Nat.testBit_eq_decide_div_mod_eq, Nat.and_one_is_mod]
  by_cases h : x / 2 ^ b % 2 = 1
  · rw [h]; simp
  · rw [show x / 2 ^ b % 2 = 0 by omega]; rfl

theorem has_any (x b u : Nat) (cu : Nat) (w : World) (hb : b < 64) (hx : x < 18446744073709551616) (hc : w.cell? ⟨u, 0, none⟩ = some (.int .u64 x)) :
    Calls Tryd.prog 26 #[.slice (some ⟨u, 0, none⟩) 1 cu, .int .i64 b] w fun e w' => e = .returned (.bool (x.testBit b)) ∧ w = w' := by
  have q1 := quo64 b hb
  have q2 := rem64 b hb
  go_enter Tryd.func26, Tryd.ntmps26
  go_wp2
  go_ret
  exact ⟨ret_bool (bit_at x b hx), rfl⟩

theorem two_lt (b : Nat) (hb : b < 64) : 2 ^ b < 18446744073709551616 := Nat.lt_of_lt_of_le (Nat.pow_lt_pow_right (by decide) hb) (Nat.le_refl _)
theorem shl_one (b : Nat) (hb : b < 64) : IntKind.u64.wrap ((2 : Int) ^ b) = ((2 ^ b : Nat) : Int) := by
  have h2 := two_lt b hb
  rw [IntKind.wrap_u64, show ((2 : Int) ^ b) = ((2 ^ b : Nat) : Int) by push_cast; rfl]
  generalize 2 ^ b = z at h2 ⊢
  omega

theorem or_text (x b : Nat) (hb : b < 64) (hx : x < 18446744073709551616) : bits BinOp.or IntKind.u64 (x : Int) (IntKind.u64.wrap ((2 : Int) ^ b)) = ((x ||| 2 ^ b : Nat) : Int) := by
  rw [shl_one b hb]; exact u64_or_nat x (2 ^ b) hx (two_lt b hb)
theorem drop_text (x b : Nat) (hb : b < 64) (hx : x < 18446744073709551616) : bits BinOp.andNot IntKind.u64 (x : Int) (IntKind.u64.wrap ((2 : Int) ^ b)) = ((x &&& (Bt.full - 2 ^ b) : Nat) : Int) := by
  rw [shl_one b hb]; exact u64_andNot_nat x (2 ^ b) hx (two_lt b hb)

set_option maxHeartbeats 400000 in
theorem add_any (x b u : Nat) (cu : Nat) (w : World) (hb : b < 64) (hx : x < 18446744073709551616) (hc : w.cell? ⟨u, 0, none⟩ = some (.int .u64 x)) (hf : w.frozen? ⟨u, 0, none⟩ = false) :
    Calls Tryd.prog 27 #[.slice (some ⟨u, 0, none⟩) 1 cu, .int .i64 b] w fun e w' => e = .returned (.tuple #[]) ∧ w' = (w.setCell ⟨u, 0, none⟩ (.int .u64 ((x ||| 2 ^ b : Nat) : Int))).drew := by
  have q1 := quo64 b hb
  have q2 := rem64 b hb
  rw [← or_text x b hb hx]
  go_enter Tryd.func27, Tryd.ntmps27
  go_wp2
  go_region
  go_wp2
  exact bodyPost_end (results_none rfl _ _ _) rfl ⟨rfl, rfl⟩

set_option maxHeartbeats 400000 in
theorem drop_any (x b u : Nat) (cu : Nat) (w : World) (hb : b < 64) (hx : x < 18446744073709551616) (hc : w.cell? ⟨u, 0, none⟩ = some (.int .u64 x)) (hf : w.frozen? ⟨u, 0, none⟩ = false) :
    Calls Tryd.prog 29 #[.slice (some ⟨u, 0, none⟩) 1 cu, .int .i64 b] w fun e w' => e = .returned (.tuple #[]) ∧ w' = (w.setCell ⟨u, 0, none⟩ (.int .u64 ((x &&& (Bt.full - 2 ^ b) : Nat) : Int))).drew := by
  have q1 := quo64 b hb
  have q2 := rem64 b hb
  rw [← drop_text x b hb hx]
  go_enter Tryd.func29, Tryd.ntmps29
  go_wp2
  go_region
  go_wp2
  exact bodyPost_end (results_none rfl _ _ _) rfl ⟨rfl, rfl⟩

end Go.Proofs.YtfkmjepbckafdaaDoor
