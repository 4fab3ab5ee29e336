/-
  The walks of math/bits' two counts and of alloc's sets (sets of one word alone: the laws have at most 64 blocks).
-/
import Derived.Test.YtfkmjepbckafdaaDoorRows
import Derived.Test.YtfkmjepbckafdaaDoorPA
import Derived.WalkKit
import Derived.WalkSpells
import Derived.WalkLawsBesides
import Derived.Laws.BitsAllLaws
import Derived.Lib.Hide
import Derived.Deep.Draws
import Derived.Deep.QuietTactic
import Derived.BigQuiet
namespace Go.Proofs.YtfkmjepbckafdaaDoor
open Go.RowKit

theorem ret_bool {a b : Bool} (h : a = b) : Ending.returned (.bool a) = .returned (.bool b) := by rw [h]
theorem ret_int {k : IntKind} {a b : Int} (h : a = b) : Ending.returned (.int k a) = .returned (.int k b) := by rw [h]

theorem and64 (a : Nat) (m : Nat) (ha : a < 18446744073709551616) (hm : m < 18446744073709551616) : bits BinOp.and IntKind.u64 (a : Int) (m : Int) = ((a &&& m : Nat) : Int) := u64_and_nat a m ha hm

theorem i64_and_127 (n : Nat) (h : n < 9223372036854775808) : bits BinOp.and IntKind.i64 (n : Int) 127 = ((n % 128 : Nat) : Int) := by
  have e : (BitVec.ofInt 64 (n : Int) &&& BitVec.ofInt 64 127).toNat = n % 128 := by
    rw [BitVec.toNat_and, BitVec.ofInt_natCast, BitVec.toNat_ofNat, Nat.mod_eq_of_lt (by omega), show (BitVec.ofInt 64 127).toNat = 2 ^ 7 - 1 by decide, Nat.and_two_pow_sub_one_eq_mod]
  show IntKind.i64.wrap ((BitVec.ofInt 64 (n : Int) &&& BitVec.ofInt 64 127).toNat : Int) = _
  rw [e, IntKind.wrap_i64]
  omega

theorem ones_mid (x y1 y2 z z1 z2 z3 : Nat) (w : World)
    (h1 : IntKind.u64.wrap (bits BinOp.and IntKind.u64 ((x : Int) / 2) 6148914691236517205 + bits BinOp.and IntKind.u64 (x : Int) 6148914691236517205) = (y1 : Int))
    (h2 : IntKind.u64.wrap (bits BinOp.and IntKind.u64 ((y1 : Int) / 4) 3689348814741910323 + bits BinOp.and IntKind.u64 (y1 : Int) 3689348814741910323) = (y2 : Int))
    (h3 : bits BinOp.and IntKind.u64 (IntKind.u64.wrap ((y2 : Int) / 16 + (y2 : Int))) 1085102592571150095 = (z : Int))
    (h4 : IntKind.u64.wrap ((z : Int) + (z : Int) / 256) = (z1 : Int)) (h5 : IntKind.u64.wrap ((z1 : Int) + (z1 : Int) / 65536) = (z2 : Int)) (h6 : IntKind.u64.wrap ((z2 : Int) + (z2 : Int) / 4294967296) = (z3 : Int))
    (h7 : wrap64 (z3 : Int) = (z3 : Int)) (h8 : bits BinOp.and IntKind.i64 (z3 : Int) 127 = ((z3 % 128 : Nat) : Int)) :
    Calls Tryd.prog 36 #[.int .u64 x] w fun e w' => e = .returned (.int .i64 ((z3 % 128 : Nat) : Int)) ∧ w = w' := by
  go_enter Tryd.func36, Tryd.ntmps36
  go_wp2
  go_ret
  exact ⟨rfl, rfl⟩

theorem ones_any (x : Nat) (w : World) (hx : x < 18446744073709551616) :
    Calls Tryd.prog 36 #[.int .u64 x] w fun e w' => e = .returned (.int .i64 (Bt.cnt x)) ∧ w = w' := by
  obtain ⟨y1, y2, z, z1, z2, z3, e1, b1, e2, b2, b3, e3, e4, b4, e5, b5, e6, b6, e7⟩ := Bt.ones_parts hx
  rw [← e7]
  have a0 : (x / 2) &&& 6148914691236517205 ≤ 6148914691236517205 := Nat.and_le_right
  refine ones_mid x y1 y2 z z1 z2 z3 w ?_ ?_ ?_ ?_ ?_ ?_ ?_ (i64_and_127 _ b6)
  · rw [show ((x : Int) / 2) = ((x / 2 : Nat) : Int) by omega, show (6148914691236517205 : Int) = ((6148914691236517205 : Nat) : Int) from rfl, and64 _ _ (by omega) (by decide), and64 _ _ hx (by decide), IntKind.wrap_u64]
    omega
  · rw [show ((y1 : Int) / 4) = ((y1 / 4 : Nat) : Int) by omega, show (3689348814741910323 : Int) = ((3689348814741910323 : Nat) : Int) from rfl, and64 _ _ (by omega) (by decide), and64 _ _ b1 (by decide), IntKind.wrap_u64]
    omega
  · rw [show (IntKind.u64.wrap ((y2 : Int) / 16 + (y2 : Int))) = ((y2 / 16 + y2 : Nat) : Int) by rw [IntKind.wrap_u64]; omega, show (1085102592571150095 : Int) = ((1085102592571150095 : Nat) : Int) from rfl, and64 _ _ b3 (by decide), e3]
  · rw [IntKind.wrap_u64]; omega
  · rw [IntKind.wrap_u64]; omega
  · rw [IntKind.wrap_u64]; omega
  · unfold wrap64; omega

end Go.Proofs.YtfkmjepbckafdaaDoor
