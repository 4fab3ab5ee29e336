/-
  The list of a set of one word; Used, Leaving.
-/
import Derived.Test.YtfkmjepbckafdaaDoorWK
import Derived.Maps.AppendAt
import Derived.Deep.CutBlock
import Derived.Deep.DeepCutAuto
import Derived.Deep.RegionWith
namespace Go.Proofs.YtfkmjepbckafdaaDoor
open Go.RowKit

/-- The bits of a word, rising. -/
def bitsN (n : Nat) (p : Nat → Bool) : List Nat := (List.range n).filter p
def ofNats (l : List Nat) : List Value := l.map fun (k : Nat) => .int .i64 (k : Int)

theorem range_three {n k : Nat} (h : k < n) : List.range n = List.range' 0 k ++ (k :: List.range' (k + 1) (n - k - 1)) := by
  rw [List.range_eq_range']
  have e1 : List.range' 0 n = List.range' 0 k ++ List.range' (0 + 1 * k) (n - k) := by rw [List.range'_append]; congr 1; omega
  rw [e1]
  congr 1
  rw [show n - k = (n - k - 1) + 1 by omega, List.range'_succ]
  simp

theorem bits_cons {n k : Nat} {p q : Nat → Bool} (hk : k < n) (hp : p k = true) (hlow : ∀ i, i < k → p i = false) (hq : ∀ i, q i = (p i && decide (i ≠ k))) : bitsN n p = k :: bitsN n q := by
  unfold bitsN
  rw [range_three hk, List.filter_append, List.filter_append, List.filter_cons, List.filter_cons]
  have e1 : (List.range' 0 k).filter p = [] := by
    rw [List.filter_eq_nil_iff]; intro a ha; simp [List.mem_range'_1] at ha; rw [hlow a (by omega)]; simp
  have e2 : (List.range' 0 k).filter q = [] := by
    rw [List.filter_eq_nil_iff]; intro a ha; simp [List.mem_range'_1] at ha; rw [hq, hlow a (by omega)]; simp
  have e3 : (List.range' (k + 1) (n - k - 1)).filter p = (List.range' (k + 1) (n - k - 1)).filter q := by
    apply List.filter_congr; intro a ha; simp [List.mem_range'_1] at ha; rw [hq]; simp; omega
  rw [e1, e2, e3, hp, hq]; simp

theorem bits_none {n : Nat} {p : Nat → Bool} (h : ∀ i, i < n → p i = false) : bitsN n p = [] := by
  unfold bitsN; rw [List.filter_eq_nil_iff]; intro a ha; rw [h a (by simpa using ha)]; simp

theorem clear_low_bit {y : Nat} (h0 : y ≠ 0) (hy : y < 18446744073709551616) (i : Nat) : (y &&& (y - 1)).testBit i = (y.testBit i && decide (i ≠ Lib.ctz 64 y)) := by
  obtain ⟨h1, h2, h3⟩ := Bt.ctz_spec h0 hy
  generalize Lib.ctz 64 y = k at h1 h2 h3
  -- y = 2^k (2m + 1)
  have hmod : y % 2 ^ k = 0 := by
    apply Nat.eq_of_testBit_eq
    intro j
    rw [Nat.testBit_mod_two_pow, Nat.zero_testBit]
    by_cases hj : j < k
    · rw [h3 j hj]; simp
    · simp [hj]
  have hdiv : y / 2 ^ k % 2 = 1 := by
    rw [Nat.testBit_eq_decide_div_mod_eq] at h2; simpa using h2
  have hpos : 0 < 2 ^ k := Nat.two_pow_pos k
  have hy1 : y = 2 ^ k * (y / 2 ^ k) := by have := Nat.div_add_mod y (2 ^ k); omega
  obtain ⟨m, hm⟩ : ∃ m, y / 2 ^ k = 2 * m + 1 := ⟨y / 2 ^ k / 2, by omega⟩
  rw [hm] at hy1
  have hd : (y - 1) / 2 ^ k = 2 * m := by
    rw [hy1, show 2 ^ k * (2 * m + 1) - 1 = (2 ^ k - 1) + 2 ^ k * (2 * m) by rw [Nat.mul_add]; omega, Nat.add_mul_div_left _ _ hpos, Nat.div_eq_of_lt (by omega)]; omega
  rw [Nat.testBit_and]
  by_cases hi : i < k
  · rw [h3 i hi]; simp
  · obtain ⟨j, rfl⟩ : ∃ j, i = k + j := ⟨i - k, by omega⟩
    have e1 : (y - 1).testBit (k + j) = (2 * m).testBit j := by
      rw [Nat.testBit_eq_decide_div_mod_eq, Nat.testBit_eq_decide_div_mod_eq, Nat.pow_add, ← Nat.div_div_eq_div_mul, hd]
    have e2 : y.testBit (k + j) = (2 * m + 1).testBit j := by
      rw [Nat.testBit_eq_decide_div_mod_eq, Nat.testBit_eq_decide_div_mod_eq, Nat.pow_add, ← Nat.div_div_eq_div_mul, hm]
    rw [e1, e2]
    cases j with
    | zero => simp
    | succ j =>
      have e3 : (2 * m).testBit (j + 1) = (2 * m + 1).testBit (j + 1) := by
        rw [Nat.testBit_succ, Nat.testBit_succ, show 2 * m / 2 = m by omega, show (2 * m + 1) / 2 = m by omega]
      rw [e3]; simp

theorem bits_step {y : Nat} (h0 : y ≠ 0) (hy : y < 18446744073709551616) : bitsN 64 y.testBit = Lib.ctz 64 y :: bitsN 64 (y &&& (y - 1)).testBit :=
  bits_cons (Bt.ctz_spec h0 hy).1 (Bt.ctz_spec h0 hy).2.1 (Bt.ctz_spec h0 hy).2.2 (clear_low_bit h0 hy)
theorem bits_zero : bitsN 64 (Nat.testBit 0) = [] := bits_none (fun _ _ => Nat.zero_testBit _)
theorem bits_len (n : Nat) (p : Nat → Bool) : (bitsN n p).length ≤ n := by unfold bitsN; have := List.length_filter_le p (List.range n); simpa using this

/-- After some bits are out: what is out and what is left. -/
def OutIs (x : Nat) (out : List Nat) (y : Nat) : Prop := bitsN 64 x.testBit = out ++ bitsN 64 y.testBit ∧ y < 18446744073709551616
theorem OutIs.start {x : Nat} (h : x < 18446744073709551616) : OutIs x [] x := ⟨rfl, h⟩
theorem OutIs.step {x y : Nat} {out : List Nat} (h : OutIs x out y) (h0 : y ≠ 0) : OutIs x (out ++ [Lib.ctz 64 y]) (y &&& (y - 1)) := by
  refine ⟨?_, Nat.lt_of_le_of_lt Nat.and_le_left h.2⟩
  rw [h.1, bits_step h0 h.2]; simp
theorem OutIs.fin {x : Nat} {out : List Nat} (h : OutIs x out 0) : out = bitsN 64 x.testBit := by
  have := h.1; rw [bits_zero] at this; simpa using this.symm
theorem OutIs.len {x y : Nat} {out : List Nat} (h : OutIs x out y) : out.length ≤ 64 := by
  have := bits_len 64 x.testBit; rw [h.1] at this; simp at this; omega

theorem sub_one_text (y : Nat) (h0 : y ≠ 0) (hy : y < 18446744073709551616) : bits BinOp.and IntKind.u64 (y : Int) ((y : Int) - 1) = ((y &&& (y - 1) : Nat) : Int) := by
  rw [show ((y : Int) - 1) = ((y - 1 : Nat) : Int) by omega]
  exact and64 _ _ hy (by omega)

/-- What list leaves. -/
def ListGot (x : Nat) (w : World) (e : Ending) (w' : World) : Prop :=
  ∃ v, e = .returned v ∧ w'.ownsRow w.heap.size 3 1 v (bitsN 64 x.testBit).length (ofNats (bitsN 64 x.testBit)) ∧ Touch (fun _ => False) w w'

theorem Touch.grownNew {a w w' : World} {v : Value} {base : Nat} {e : TypeId} {size n : Nat} {xs : List Value} (h : Touch (fun _ => False) a w) (ho : w.ownsRow base e size v n xs) (hb : a.heap.size ≤ base) (hg : w.grownBy w' v.ownBlock) : Touch (fun _ => False) a w' :=
  h.grown hg (fun k hk hlt => by have := (ho.lt k hk).1; omega)

/-- The one new cell of an append. -/
theorem one_at (w : World) (v : Value) (e : TypeId) : ∀ (j : Nat) (u : Value), [v][j]? = some u → (w.alloc (.cells #[v] e)).cell? ((⟨w.heap.size, 0, none⟩ : Addr).add j) = some u := by
  intro j u hu
  obtain rfl : j = 0 := by have := (List.getElem?_eq_some_iff.1 hu).1; simp at this; omega
  simp at hu
  subst hu
  rw [add0, World.cell?_alloc_at _ _ _ _ rfl]; rfl

set_option maxHeartbeats 1000000 in
theorem list_any (x u cu : Nat) (w : World) (hT : Tab w) (hx : x < 18446744073709551616) (hc : w.cell? ⟨u, 0, none⟩ = some (.int .u64 x)) :
    Calls Tryd.prog 31 #[.slice (some ⟨u, 0, none⟩) 1 cu] w (ListGot x w) := by
  obtain ⟨i0, hi, hz0, hz1, hz2⟩ := info_parts Tryd.info3
  have HT := Lib.hid hT
  have HX := Lib.hid (OutIs.start hx)
  have hu := World.block_lt_of_cell? w _ hc
  have HC := Lib.hid hc
  clear hT hx
  go_enter Tryd.func31, Tryd.ntmps31
  go_wp2_with fail
  go_loopw [3, 8] (fun v i wr => (i = .int .i64 0 ∧ v = .slice none 0 0 ∧ wr = w) ∨ (i = .int .i64 1 ∧ wr.ownsRow w.heap.size 3 1 v (bitsN 64 x.testBit).length (ofNats (bitsN 64 x.testBit)) ∧ Touch (fun _ => False) w wr)) (fun _ i _ => 1 - (intOf i).toNat)
  case atStart => exact .inl ⟨rfl, rfl, rfl⟩
  case round =>
    rcases hrel with ⟨rfl, rfl, rfl⟩ | ⟨rfl, hown, ht⟩
    · obtain ⟨wo, rfl⟩ : ∃ wo : World, wo = wr := ⟨_, rfl⟩
      go_wp2_with fail
      go_loopw [3, 5] (fun v y wx => ∃ (out : List Nat) (m : Nat), y = .int .u64 m ∧ OutIs x out m ∧ wx.ownsRow wo.heap.size 3 1 v out.length (ofNats out) ∧ Touch (fun _ => False) wo wx) (fun _ y _ => (intOf y).toNat)
      case atStart => exact ⟨[], x, rfl, HX.out, World.ownsRow_nil _ _ _ _, Touch.refl _ _⟩
      case round =>
        obtain ⟨out, m, rfl, ho, hown, ht⟩ := hrel
        by_cases h0 : m = 0
        · subst h0
          have hf := ho.fin
          have H := Lib.hid (And.intro hf (And.intro hown ht))
          clear hf hown ht ho
          go_wp2_with fail
          go_roundw
          case rel => exact .inr ⟨rfl, by rw [← H.out.1]; exact H.out.2.1, H.out.2.2⟩
          case measure => simp [intOf]
        · have hb : ((m : Int) != 0) = true := by simp; omega
          have hm := ho.2
          have hc1 := (Bt.ctz_spec h0 hm).1
          have hlen := ho.len
          have hsub := Lib.hid (sub_one_text m h0 hm)
          have hle : (m &&& (m - 1)) < m := by have := Nat.and_le_right (n := m) (m := m - 1); omega
          have Hs := Lib.hid (ho.step h0)
          have H := Lib.hid (And.intro hown ht)
          have Htab := Lib.hid (HT.out.touch ht id)
          have hsz := ht.size
          clear hown ht ho
          go_wp2_with fail
          refine (tz_any m _ hm h0 Htab.out).mono ?_
          rintro e w1 ⟨rfl, rfl⟩
          go_wp2_with ((at_builtin; refine wpList_append_own_at _ rfl _ _ 22 rfl wo.heap.size 3 i0 (.int .i64 0) 1 8 Tryd.underlying22 hi hz0 hz1 hz2 rfl (by decide) _ _ _ rfl (H.out.1.alloc _) ⟨wr.heap.size, 0, none⟩ 1 1 [.int .i64 (Lib.ctz 64 m)] rfl rfl ?c1 ?c2 ?c3 ?c4 ?c5 ?_))
          case c1 => exact one_at _ _ _
          case c2 => intro u hu; simp at hu; subst hu; rfl
          case c3 => unfold maxLen; omega
          case c4 => omega
          case c5 => simp; omega
          intro v' w1 hown1 hg1 _ _
          have ht1 := (H.out.2.alloc (.cells #[.int .i64 (Lib.ctz 64 m)] 3)).grownNew (H.out.1.alloc _) (Nat.le_refl _) hg1
          have H1 := Lib.hid (And.intro hown1 ht1)
          clear hown1 ht1 hg1
          go_wp2_with fail
          go_roundw
          case rel => exact ⟨out ++ [Lib.ctz 64 m], m &&& (m - 1), by rw [hsub.out], Hs.out, by simpa [ofNats] using H1.out.1, H1.out.2⟩
          case measure => rw [hsub.out]; simp [intOf]; exact hle
    · have H := Lib.hid (And.intro hown ht)
      clear hown ht
      go_wp2_with fail
      go_ret
      exact ⟨_, rfl, H.out.1, H.out.2⟩

/-- Used. -/
theorem used_any (a : Loc) (s : St) (w : World) (hT : Tab w) (hs : Ok s) (h : At a s w) : Calls Tryd.prog 15 #[.pointer (some ⟨a.p, 0, none⟩)] w (ListGot s.U w) := by
  have HT := Lib.hid hT
  obtain ⟨c0, c1, c2, c3, cU, cL, f3, fU, fL, pu, pl, ul⟩ := h
  have hU := pow_le64 hs.U hs.n64
  clear hT hs c2 c3 cL f3 fU fL pu pl ul
  go_enter Tryd.func15, Tryd.ntmps15
  go_wp2_with fail
  refine (list_any s.U a.u a.cu _ HT.out hU cU).mono ?_
  intro e w1 hg
  obtain ⟨v, rfl, h1, h2⟩ := hg
  have H := Lib.hid (And.intro h1 h2)
  clear h1 h2
  go_wp2_with fail
  go_ret
  exact ⟨_, rfl, H.out.1, H.out.2⟩
/-- Leaving. -/
theorem leaving_any (a : Loc) (s : St) (w : World) (hT : Tab w) (hs : Ok s) (h : At a s w) : Calls Tryd.prog 34 #[.pointer (some ⟨a.p, 0, none⟩)] w (ListGot s.L w) := by
  have HT := Lib.hid hT
  obtain ⟨c0, c1, c2, c3, cU, cL, f3, fU, fL, pu, pl, ul⟩ := h
  have hL := pow_le64 hs.L hs.n64
  clear hT hs c1 c3 cU f3 fU fL pu pl ul
  go_enter Tryd.func34, Tryd.ntmps34
  go_wp2_with fail
  refine (list_any s.L a.l a.cl _ HT.out hL cL).mono ?_
  intro e w1 hg
  obtain ⟨v, rfl, h1, h2⟩ := hg
  have H := Lib.hid (And.intro h1 h2)
  clear h1 h2
  go_wp2_with fail
  go_ret
  exact ⟨_, rfl, H.out.1, H.out.2⟩

end Go.Proofs.YtfkmjepbckafdaaDoor
