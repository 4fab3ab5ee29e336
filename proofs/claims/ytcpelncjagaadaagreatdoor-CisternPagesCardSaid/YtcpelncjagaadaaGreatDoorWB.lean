/-
  pack's put and get: numbers as bytes, the lowest first.
-/
import Derived.Test.YtcpelncjagaadaaGreatDoorWA
namespace Go.Proofs.YtcpelncjagaadaaGreatDoor
open Go.RowKit

theorem Tryz.info5 : (Tryz.prog.info? 5).map (fun i => (i.zero, i.size, i.bytes)) = some (some (.int .u8 0), 1, 1) := by kernel_rfl

/-- n bytes of a number, the lowest first. -/
def le (x n : Nat) : List Nat := (List.range n).map fun i => x / 256 ^ i % 256
theorem le_length (x n : Nat) : (le x n).length = n := by simp [le]
theorem le_succ (x n : Nat) : le x (n + 1) = le x n ++ [x / 256 ^ n % 256] := by simp [le, List.range_succ]
theorem le_lt (x n : Nat) : ∀ b ∈ le x n, b < 256 := by
  intro b hb
  simp only [le, List.mem_map] at hb
  obtain ⟨i, -, rfl⟩ := hb
  exact Nat.mod_lt _ (by decide)
theorem div_256 (x i : Nat) : x / 256 ^ i / 256 = x / 256 ^ (i + 1) := by rw [Nat.div_div_eq_div_mul, Nat.pow_succ]

/-- What put leaves. -/
def PutGot (base : Nat) (v : Value) (B : List Nat) (w : World) (e : Ending) (w' : World) : Prop :=
  ∃ v', e = .returned v' ∧ w'.ownsRow base 5 1 v' B.length (u8s B) ∧ Touch (fun k => v.ownBlock = some k) w w' ∧ (v'.ownBlock = v.ownBlock ∨ ∃ g, v'.ownBlock = some g ∧ w.heap.size ≤ g)

set_option maxHeartbeats 1000000 in
theorem put_any (base : Nat) (v : Value) (B : List Nat) (x n : Nat) (w : World) (hn : n ≤ 8) (hB : B.length ≤ 1000000) (hb : base ≤ w.heap.size) (h : w.ownsRow base 5 1 v B.length (u8s B)) :
    Calls Tryz.prog 82 #[v, .int .u64 x, .int .i64 n] w (PutGot base v (B ++ le x n) w) := by
  obtain ⟨i0, hi, hz0, hz1, hz2⟩ := info_parts Tryz.info5
  have H := Lib.hid h
  clear h
  go_enter Tryz.func82, Tryz.ntmps82
  go_wp2_with fail
  go_loopw [0, 1, 8] (fun u y i wr => ∃ j : Nat, j ≤ n ∧ i = .int .i64 j ∧ y = .int .u64 ((x / 256 ^ j : Nat) : Int) ∧ wr.ownsRow base 5 1 u (B ++ le x j).length (u8s (B ++ le x j)) ∧ Touch (fun k => v.ownBlock = some k) w wr ∧ (u.ownBlock = v.ownBlock ∨ ∃ g, u.ownBlock = some g ∧ w.heap.size ≤ g)) (fun _ _ i _ => n - (intOf i).toNat)
  case atStart => exact ⟨0, Nat.zero_le _, rfl, by simp, by simpa [le] using H.out, Touch.refl _ _, .inl rfl⟩
  case round =>
    obtain ⟨j, hj, rfl, rfl, hown, ht, hat⟩ := hrel
    have hlen : (B ++ le x j).length = B.length + j := by simp [le_length]
    have hle : x / 256 ^ j ≤ x := Nat.div_le_self _ _
    have HS : Hid (B ++ le x (j + 1) = (B ++ le x j) ++ [x / 256 ^ j % 256]) := Lib.hid (by rw [le_succ, List.append_assoc])
    have HD := Lib.hid (div_256 x j)
    have G := Lib.hid (And.intro hown (And.intro ht hat))
    clear hown ht hat
    generalize x / 256 ^ j = y at hle HS HD
    obtain ⟨C, hC⟩ : ∃ C, B ++ le x j = C := ⟨_, rfl⟩
    have HC := Lib.hid hC
    rw [hC] at hlen HS G
    clear hC
    have hCl : C.length ≤ 1000008 := by omega
    clear hlen
    by_cases hlt : j < n
    · go_wp2_with ((at_builtin; refine wpList_append_own_at _ rfl _ _ 44 rfl base 5 i0 (.int .u8 0) 1 1 Tryz.underlying44 hi hz0 hz1 hz2 rfl (by decide) _ _ _ rfl (G.out.1.alloc _) ⟨wr.heap.size, 0, none⟩ 1 1 [.int .u8 ((y % 256 : Nat) : Int)] rfl rfl ?c1 ?c2 ?c3 ?c4 ?c5 ?_))
      case c1 => exact one_at _ _ _
      case c2 => intro u hu; simp at hu; subst hu; rfl
      case c3 => unfold maxLen; omega
      case c4 => omega
      case c5 => have := G.out.2.1.size; simp; omega
      intro v' w1 hown1 hg1 _ hat
      have hs := G.out.2.1.size
      have ht1 : Touch (fun k => v.ownBlock = some k) w w1 := (G.out.2.1.alloc _).grown hg1 (fun k hk hlt => by
        rcases G.out.2.2 with e | ⟨g, e, hg⟩
        · rw [← e]; exact hk
        · rw [e] at hk; cases hk; omega)
      have hat1 : v'.ownBlock = v.ownBlock ∨ ∃ g, v'.ownBlock = some g ∧ w.heap.size ≤ g := by
        rcases hat with e | e
        · rw [e]; exact G.out.2.2
        · exact .inr ⟨_, e, by omega⟩
      have R := Lib.hid (And.intro hown1 (And.intro ht1 hat1))
      clear hown1 hg1 hat ht1 hat1 hs
      go_wp2_with fail
      go_roundw
      case rel => exact ⟨j + 1, by omega, by go_num, by rw [← HD.out]; go_num, by rw [HS.out]; simpa [u8s] using R.out.1, R.out.2.1, R.out.2.2⟩
      case measure => simp [intOf]; omega
    · obtain rfl : j = n := by omega
      go_wp2_with fail
      go_ret
      exact ⟨_, rfl, by rw [HC.out]; exact G.out.1, G.out.2.1, G.out.2.2⟩

/-- The number of bytes, the lowest first. -/
def leVal : List Nat → Nat
  | [] => 0
  | b :: r => b + 256 * leVal r
theorem leVal_snoc (l : List Nat) (b : Nat) : leVal (l ++ [b]) = leVal l + b * 256 ^ l.length := by
  induction l with
  | nil => simp [leVal]
  | cons a l ih => simp only [List.cons_append, leVal, ih, List.length_cons, Nat.pow_succ]; rw [Nat.mul_add, ← Nat.add_assoc]; congr 1; rw [← Nat.mul_assoc, Nat.mul_comm 256 b, Nat.mul_assoc, Nat.mul_comm 256]
theorem leVal_lt (l : List Nat) (h : ∀ b ∈ l, b < 256) : leVal l < 256 ^ l.length := by
  induction l with
  | nil => simp [leVal]
  | cons a l ih =>
    have h1 := h a (by simp)
    have h2 := ih (fun b hb => h b (by simp [hb]))
    simp only [leVal, List.length_cons, Nat.pow_succ]
    omega
theorem leVal_le (x n : Nat) : leVal (le x n) = x % 256 ^ n := by
  induction n with
  | zero => simp [le, leVal, Nat.mod_one]
  | succ n ih =>
    rw [le_succ, leVal_snoc, ih, le_length, Nat.pow_succ, Nat.mod_mul]
    rw [Nat.mul_comm]
theorem leVal_take (l : List Nat) (j : Nat) (h : j < l.length) : leVal (l.take (j + 1)) = leVal (l.take j) + l.getD j 0 * 256 ^ j := by
  rw [List.take_add_one, List.getElem?_eq_getElem h]
  simp only [Option.toList_some]
  rw [leVal_snoc]
  simp [List.getD, h, Nat.min_eq_left (Nat.le_of_lt h)]
theorem pow_256 (j : Nat) : 256 ^ j = 2 ^ (8 * j) := by rw [Nat.pow_mul]
theorem or_byte (y b j : Nat) (hy : y < 256 ^ j) : y ||| (b * 256 ^ j) = y + b * 256 ^ j := by
  rw [pow_256] at *
  rw [Nat.or_comm, nat_join (8 * j) (b * 2 ^ (8 * j)) y (Nat.mul_mod_left _ _) hy, Nat.add_comm]
theorem pow_le8 {j : Nat} (hj : j < 8) : 256 ^ j * 256 ≤ 18446744073709551616 := by
  rw [← Nat.pow_succ]; exact Nat.le_trans (Nat.pow_le_pow_right (by decide) (show j + 1 ≤ 8 by omega)) (by decide)

theorem getD_lt {l : List Nat} (h : ∀ b ∈ l, b < 256) {j : Nat} (hj : j < l.length) : l.getD j 0 < 256 := by
  have : l.getD j 0 = l[j] := by simp [List.getD, hj]
  rw [this]; exact h _ (List.getElem_mem hj)

/-- One step of get. -/
theorem get_step (y b j : Nat) (hy : y < 256 ^ j) (hb : b < 256) (hj : j < 8) :
    bits BinOp.or IntKind.u64 (y : Int) (IntKind.u64.wrap ((b : Int) * 2 ^ (8 * j))) = ((y + b * 256 ^ j : Nat) : Int) := by
  have h1 := pow_le8 hj
  have h2 : b * 256 ^ j < 18446744073709551616 := by
    have : b * 256 ^ j ≤ 255 * 256 ^ j := Nat.mul_le_mul_right _ (by omega)
    have : 0 < 256 ^ j := Nat.pos_of_ne_zero (by simp)
    omega
  have h3 : y < 18446744073709551616 := by omega
  have e1 : ((b : Int) * 2 ^ (8 * j)) = ((b * 256 ^ j : Nat) : Int) := by rw [pow_256]; push_cast; rfl
  rw [e1, IntKind.wrap_u64, show ((b * 256 ^ j : Nat) : Int) % 18446744073709551616 = ((b * 256 ^ j : Nat) : Int) by omega, u64_or_nat _ _ h3 h2, or_byte _ _ _ hy]

set_option maxHeartbeats 1000000 in
theorem get_any (v : Value) (B : List Nat) (w : World) (hl : B.length ≤ 8) (hB : ∀ b ∈ B, b < 256) (h : Shows v B w) :
    Calls Tryz.prog 85 #[v] w fun e w' => e = .returned (.int .u64 (leVal B : Nat)) ∧ w = w' := by
  obtain ⟨ao, cap, rfl, -, hr⟩ := h
  have Hr := Lib.hid hr
  have HB := Lib.hid hB
  clear hr hB
  go_enter Tryz.func85, Tryz.ntmps85
  go_wp2_with fail
  go_loopw [3, 8] (fun y i wr => ∃ j : Nat, j ≤ B.length ∧ i = .int .i64 j ∧ y = .int .u64 (leVal (B.take j) : Nat) ∧ w = wr) (fun _ i _ => B.length - (intOf i).toNat)
  case atStart => exact ⟨0, Nat.zero_le _, rfl, rfl, rfl⟩
  case round =>
    obtain ⟨j, hj, rfl, rfl, rfl⟩ := hrel
    by_cases hlt : j < B.length
    · obtain ⟨g, o, rfl, hg, hc⟩ := Hr.out (by omega)
      have c0 := hc j hlt
      have hb := getD_lt HB.out hlt
      have hy := leVal_lt (B.take j) (fun b hb => HB.out b (List.mem_of_mem_take hb))
      rw [List.length_take, Nat.min_eq_left (Nat.le_of_lt hlt)] at hy
      have HS := Lib.hid (leVal_take B j hlt)
      clear hc
      generalize B.getD j 0 = b at c0 hb HS
      have HG := Lib.hid (get_step (leVal (B.take j)) b j hy hb (by omega))
      clear hy
      generalize leVal (B.take j) = y at HS HG
      have hj8 : j < 8 := by omega
      go_wp2_with fail
      go_roundw
      case rel => exact ⟨j + 1, by omega, by go_num, by rw [HS.out]; first | rw [HG.out] | (rw [← HG.out]; done), trivial⟩
      case measure => simp [intOf]; omega
    · obtain rfl : j = B.length := by omega
      go_wp2_with fail
      go_ret
      exact ⟨by rw [List.take_length]; rfl, rfl⟩

end Go.Proofs.YtcpelncjagaadaaGreatDoor
