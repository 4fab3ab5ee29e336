/-
  AllocReserves' walk.
-/
import Derived.Test.YtfkmjepbckafdaaDoorWH
namespace Go.Proofs.YtfkmjepbckafdaaDoor
open Go.RowKit

theorem mod_wrap (n : Int) (c : Nat) (h0 : 0 < c) (h1 : c ≤ 9223372036854775808) : ∃ m : Nat, m < c ∧ wrap64 ((IntKind.u64.wrap n).tmod (c : Int)) = (m : Int) := by
  have h2 : 0 ≤ IntKind.u64.wrap n := by rw [IntKind.wrap_u64]; exact Int.emod_nonneg _ (by decide)
  have h3 := Int.emod_nonneg (IntKind.u64.wrap n) (show (c : Int) ≠ 0 by omega)
  have h4 := Int.emod_lt_of_pos (IntKind.u64.wrap n) (show 0 < (c : Int) by omega)
  refine ⟨(IntKind.u64.wrap n % (c : Int)).toNat, by omega, ?_⟩
  rw [Int.tmod_eq_emod_of_nonneg h2]
  unfold wrap64
  omega

theorem reads_nil (w : World) : Reads (.slice none 0 0) [] w := ⟨none, 0, rfl, fun h => by simp at h⟩

/-- A state by its counts: nothing leaves. -/
structure Plain (s : St) (n c b : Nat) : Prop where
  n : s.n = n
  c : Bt.cnt s.U = c
  l : Bt.cnt s.L = 0
  b : s.b = b
theorem Plain.free {s : St} {n c b : Nat} (h : Plain s n c b) : s.free = n - c - b := by unfold St.free; rw [h.n, h.c, h.l, h.b]; omega
theorem Plain.take {s : St} {n c b : Nat} (h : Plain s n c b) (hs : Ok s) (hf : c + b < n) : s.takeE = 0 ∧ Plain s.takeS n (c + 1) b := by
  have e : s.free ≠ 0 := by rw [h.free]; omega
  obtain ⟨h1, h2, h3, -⟩ := least_spec hs e
  unfold St.takeE St.takeS
  rw [if_neg e, if_neg e]
  have e1 : Bt.cnt (s.U ||| 2 ^ s.least) = Bt.cnt s.U + 1 := Bt.cntP_add (by have := hs.n64; omega) h2 (by simp) (fun i _ hi => by simp [Ne.symm hi])
  exact ⟨rfl, h.n, by rw [← h.c]; exact e1, h.l, h.b⟩
theorem Plain.full {s : St} {n c b : Nat} (h : Plain s n c b) (hf : n ≤ c + b) : s.takeE = 5 ∧ s.takeS = s := by
  have e : s.free = 0 := by rw [h.free]; omega
  unfold St.takeE St.takeS
  rw [if_pos e, if_pos e]
  exact ⟨rfl, rfl⟩
theorem Plain.reserve {s : St} {n c b k : Nat} (h : Plain s n c b) (hf : c + b + k ≤ n) : s.reserveE k = 0 ∧ Plain (s.reserveS k) n c (b + k) := by
  have e : s.reserveE k = 0 := by unfold St.reserveE; rw [h.free, if_neg (by omega), if_neg (by omega)]
  refine ⟨e, ?_⟩
  unfold St.reserveS
  rw [if_pos e]
  exact ⟨h.n, h.c, h.l, by show s.b + (k : Int).toNat = _; rw [h.b]; simp⟩
theorem Plain.over {s : St} {n c b : Nat} {k : Int} (h : Plain s n c b) (h0 : 0 ≤ k) (hf : ((n - c - b : Nat) : Int) < k) : s.reserveE k = 5 ∧ s.reserveS k = s := by
  have e : s.reserveE k = 5 := by unfold St.reserveE; rw [h.free, if_neg (by omega), if_pos hf]
  exact ⟨e, by unfold St.reserveS; rw [if_neg (by rw [e]; decide)]⟩
theorem Plain.neg {s : St} : s.reserveE (-1) = 1 ∧ s.reserveS (-1) = s := ⟨rfl, rfl⟩
theorem Plain.release {s : St} {n c b k : Nat} (h : Plain s n c b) (hf : k ≤ b) : s.releaseE k = 0 ∧ Plain (s.releaseS k) n c (b - k) := by
  have e : s.releaseE k = 0 := by unfold St.releaseE; rw [h.b, if_neg (by omega)]
  refine ⟨e, ?_⟩
  unfold St.releaseS
  rw [if_pos e]
  exact ⟨h.n, h.c, h.l, by show s.b - (k : Int).toNat = _; rw [h.b]; simp⟩
theorem Plain.much {s : St} {n c b : Nat} {k : Int} (h : Plain s n c b) (hf : (b : Int) < k) : s.releaseE k = 1 ∧ s.releaseS k = s := by
  have e : s.releaseE k = 1 := by unfold St.releaseE; rw [h.b, if_pos (by omega)]
  exact ⟨e, by unfold St.releaseS; rw [if_neg (by rw [e]; decide)]⟩

set_option maxRecDepth 100000
set_option maxHeartbeats 2000000 in
theorem reserves_walk (n back takes : Int) (w : World) (hT : Tab w) :
    Calls Tryd.prog 6 #[.int .i64 n, .int .i64 back, .int .i64 takes] w fun e w' => e = .returned (.bool true) ∧ Touch (fun _ => False) w w' := by
  have HT := Lib.hid hT
  clear hT
  obtain ⟨m, hm, em⟩ := mod_wrap n 60 (by decide) (by decide)
  obtain ⟨k, hk, ek⟩ := mod_wrap back (m + 2) (by omega) (by omega)
  obtain ⟨t, ht, et⟩ := mod_wrap takes 80 (by decide) (by decide)
  rw [show ((60 : Nat) : Int) = 60 from rfl] at em
  rw [show ((80 : Nat) : Int) = 80 from rfl] at et
  rw [show ((m + 2 : Nat) : Int) = 1 + (m : Int) + 1 by omega] at ek
  go_enter Tryd.func6, Tryd.ntmps6
  go_wp2_with fail
  refine (known_any _ HT.out).mono ?_
  rintro e w1 ⟨rfl, ht1⟩
  have H1 := Lib.hid ht1
  clear ht1
  go_wp2_with fail
  obtain ⟨N, hN⟩ : ∃ N : Nat, 1 + (m : Int) = N := ⟨m + 1, by omega⟩
  have hN1 : 1 ≤ N := by omega
  have hN2 : N ≤ 60 := by omega
  have hkN : k ≤ N := by omega
  rw [ek, hN]
  clear ek em hN hk hm m
  refine (new_good N _ [] _ hN1 (by omega) (by decide) (reads_nil _) (by simp)).mono ?_
  rintro e w2 hg
  obtain ⟨a, rfl, hm, -, -, -⟩ := hg.mine (W := w) hN1 (by omega) (by simp) rfl H1.out HT.out
  have hp : Plain ⟨N, 0, 0, 0⟩ N 0 0 := ⟨rfl, Bt.cnt_zero, Bt.cnt_zero, rfl⟩
  have M0 := Lib.hid hm
  have P0 := Lib.hid hp
  clear hm hg hp
  go_wp2_with fail
  refine (M0.out.reserve k).mono ?_
  rintro e w3 ⟨rfl, hm, -⟩
  obtain ⟨e1, hp⟩ := P0.out.reserve (k := k) (by omega)
  rw [e1]
  have M1 := Lib.hid hm
  have P1 := Lib.hid hp
  clear hm hp e1
  go_wp2_with fail
  generalize St.reserveS ⟨N, 0, 0, 0⟩ k = s1 at M1 P1
  rw [Nat.zero_add] at P1
  refine (M1.out.reserve (N - k + 1)).mono ?_
  rintro e w4 ⟨rfl, hm, -⟩
  obtain ⟨e1, e2⟩ := P1.out.over (k := (N : Int) - k + 1) (by omega) (by omega)
  rw [e1]
  rw [e2] at hm
  have M2 := Lib.hid hm
  clear hm e1 e2 M1
  go_wp2_with fail
  refine (M2.out.reserve (-1)).mono ?_
  rintro e w5 ⟨rfl, hm, -⟩
  rw [Plain.neg.1]
  rw [Plain.neg.2] at hm
  have M3 := Lib.hid hm
  clear hm M2
  go_wp2_with fail
  refine (M3.out.release (k + 1)).mono ?_
  rintro e w6 ⟨rfl, hm, -⟩
  obtain ⟨e1, e2⟩ := P1.out.much (k := (k : Int) + 1) (by omega)
  rw [e1]
  rw [e2] at hm
  have M4 := Lib.hid hm
  clear hm e1 e2 M3
  go_wp2_with fail
  go_loopw [9, 10] (fun g i wr => ∃ (c j : Nat) (s : St), c ≤ N - k ∧ j ≤ t ∧ g = .int .i64 c ∧ i = .int .i64 j ∧ Plain s N c k ∧ Mine w a s wr) (fun _ i _ => t - (intOf i).toNat)
  case atStart => exact ⟨0, 0, s1, by omega, by omega, rfl, rfl, P1.out, M4.out⟩
  case round =>
    obtain ⟨c, j, s, hc, hj, rfl, rfl, hp, hm⟩ := hrel
    have M := Lib.hid hm
    have P := Lib.hid hp
    clear hm hp
    by_cases hlt : j < t
    · by_cases hf : c + k < N
      · obtain ⟨e1, hp⟩ := P.out.take M.out.ok hf
        have P' := Lib.hid hp
        have E1 := Lib.hid e1
        clear hp e1
        go_wp2_with fail
        refine M.out.take.mono ?_
        rintro e w7 ⟨rfl, hm, -⟩
        rw [E1.out]
        have M' := Lib.hid hm
        clear hm
        go_wp2_with fail
        go_roundw
        case rel => exact ⟨c + 1, j + 1, _, by omega, by omega, by go_num, by go_num, P'.out, M'.out⟩
        case measure => simp [intOf]; omega
      · obtain ⟨e1, hp⟩ := P.out.full (by omega)
        have P' := Lib.hid hp
        have E1 := Lib.hid e1
        clear hp e1
        go_wp2_with fail
        refine M.out.take.mono ?_
        rintro e w7 ⟨rfl, hm, -⟩
        rw [E1.out]
        rw [P'.out] at hm
        have M' := Lib.hid hm
        clear hm
        go_wp2_with fail
        go_roundw
        case rel => exact ⟨c, j + 1, _, by omega, by omega, by go_num, by go_num, P.out, M'.out⟩
        case measure => simp [intOf]; omega
    · obtain rfl : j = t := by omega
      go_wp2_with fail
      refine M.out.free.mono ?_
      rintro e w7 ⟨rfl, q1, rfl⟩
      rw [show (s.free : Int) = N - k - c by rw [P.out.free]; omega]
      go_wp2_with fail
      refine ((M.out.drewN q1).release k).mono ?_
      rintro e w7 ⟨rfl, hm, -⟩
      obtain ⟨e1, hp⟩ := P.out.release (k := k) (by omega)
      rw [e1]
      have M5 := Lib.hid hm
      have P5 := Lib.hid hp
      clear hm hp e1 M P
      generalize s.releaseS k = s5 at M5 P5
      rw [Nat.sub_self] at P5
      go_wp2_with fail
      refine M5.out.free.mono ?_
      rintro e w8 ⟨rfl, q2, rfl⟩
      rw [show (s5.free : Int) = N - c by rw [P5.out.free]; omega]
      go_wp2_with fail
      go_loopw [13] (fun i wy => ∃ (q : Nat) (s : St), q ≤ k ∧ i = .int .i64 q ∧ Plain s N (c + q) 0 ∧ Mine w a s wy) (fun i _ => k - (intOf i).toNat)
      case atStart => exact ⟨0, s5, by omega, rfl, P5.out, M5.out.drewN _⟩
      case round =>
        obtain ⟨q, s, hq, rfl, hp, hm⟩ := hrel
        have M := Lib.hid hm
        have P := Lib.hid hp
        clear hm hp
        by_cases hlt : q < k
        · obtain ⟨e1, hp⟩ := P.out.take M.out.ok (by omega)
          have P' := Lib.hid hp
          have E1 := Lib.hid e1
          clear hp e1
          go_wp2_with fail
          refine M.out.take.mono ?_
          rintro e w9 ⟨rfl, hm, -⟩
          rw [E1.out]
          have M' := Lib.hid hm
          clear hm
          go_wp2_with fail
          go_roundw
          case rel => exact ⟨q + 1, _, by omega, by go_num, P'.out, M'.out⟩
          case measure => simp [intOf]; omega
        · obtain rfl : q = k := by omega
          go_wp2_with fail
          go_ret
          exact ⟨rfl, M.out.touch⟩

end Go.Proofs.YtfkmjepbckafdaaDoor
