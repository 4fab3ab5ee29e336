/-
  known.
-/
import Derived.Test.YtfkmjepbckafdaaDoorWG
namespace Go.Proofs.YtfkmjepbckafdaaDoor
open Go.RowKit

theorem Ok.new {n : Nat} {l : List Int} {U : Nat} (h1 : 1 ≤ n) (h2 : n ≤ 64) (hb : ∀ x ∈ l, 0 ≤ x ∧ x < (n : Int)) (h : addAll 0 l = some U) : Ok ⟨n, U, 0, 0⟩ := by
  have hU := addAll_lt l 0 U n hb (Nat.two_pow_pos _) h
  refine ⟨h1, h2, hU, Nat.two_pow_pos _, fun i => by simp, ?_⟩
  show Bt.cnt U + Bt.cnt 0 + 0 ≤ n
  rw [Bt.cnt_below hU h2, Bt.cnt_zero]
  have := Bt.cntP_le n U.testBit
  omega

theorem Tab.touch {S : Nat → Prop} {w w' : World} (h : Tab w) (ht : Touch S w w') (hS : ¬ S 0) : Tab w' := fun j hj => ht.some (h j hj) hS
theorem Tab.pos {w : World} (h : Tab w) : 0 < w.heap.size := World.block_lt_of_cell? w _ (h 0 (by decide))

/-- An allocator in blocks of the call's own. -/
structure Mine (W : World) (a : Loc) (s : St) (w : World) : Prop where
  p : W.heap.size ≤ a.p
  u : W.heap.size ≤ a.u
  l : W.heap.size ≤ a.l
  ok : Ok s
  tab : Tab W
  at_ : At a s w
  touch : Touch (fun _ => False) W w

theorem Mine.tabw {W : World} {a : Loc} {s : St} {w : World} (h : Mine W a s w) : Tab w := h.tab.touch h.touch id
theorem Mine.drewN {W : World} {a : Loc} {s : St} {w : World} (h : Mine W a s w) (n : Nat) : Mine W a s (w.drewN n) := ⟨h.p, h.u, h.l, h.ok, h.tab, h.at_.drewN n, h.touch.drewN n⟩
theorem Mine.go {W : World} {a : Loc} {s s' : St} {w w' : World} (h : Mine W a s w) (hs : Ok s') (hA : At a s' w') (hT : Touch a.own w w') : Mine W a s' w' :=
  ⟨h.p, h.u, h.l, hs, h.tab, hA, h.touch.trans hT (fun k hk hh => by rcases hh with hh | hh | hh | hh; exact hh; all_goals (have := h.p; have := h.u; have := h.l; omega))⟩

theorem Mine.take {W : World} {a : Loc} {s : St} {w : World} (h : Mine W a s w) :
    Calls Tryd.prog 11 #[.pointer (some ⟨a.p, 0, none⟩)] w fun e w' => e = .returned (.tuple #[.int .i64 s.takeB, .int .i64 s.takeE]) ∧ Mine W a s.takeS w' ∧ Touch a.own w w' :=
  (take_any a s w h.tabw h.ok h.at_).mono fun _ _ r => ⟨r.1, h.go h.ok.take r.2.1 r.2.2, r.2.2⟩
theorem Mine.give {W : World} {a : Loc} {s : St} {w : World} (h : Mine W a s w) (b : Int) :
    Calls Tryd.prog 12 #[.pointer (some ⟨a.p, 0, none⟩), .int .i64 b] w fun e w' => e = .returned (.int .i64 (s.giveE b)) ∧ Mine W a (s.giveS b) w' ∧ Touch a.own w w' :=
  (give_any a s b w h.ok h.at_).mono fun _ _ r => ⟨r.1, h.go (h.ok.give b) r.2.1 r.2.2, r.2.2⟩
theorem Mine.settle {W : World} {a : Loc} {s : St} {w : World} (h : Mine W a s w) :
    Calls Tryd.prog 14 #[.pointer (some ⟨a.p, 0, none⟩)] w fun e w' => e = .returned (.int .i64 (Bt.cnt s.L)) ∧ Mine W a s.settleS w' ∧ Touch a.own w w' :=
  (settle_any a s w h.ok h.at_).mono fun _ _ r => ⟨r.1, h.go h.ok.settle r.2.1 r.2.2, r.2.2⟩
theorem Mine.reserve {W : World} {a : Loc} {s : St} {w : World} (h : Mine W a s w) (b : Int) :
    Calls Tryd.prog 16 #[.pointer (some ⟨a.p, 0, none⟩), .int .i64 b] w fun e w' => e = .returned (.int .i64 (s.reserveE b)) ∧ Mine W a (s.reserveS b) w' ∧ Touch a.own w w' :=
  (reserve_any a s b w h.ok h.at_).mono fun _ _ r => ⟨r.1, h.go (h.ok.reserve b) r.2.1 r.2.2, r.2.2⟩
theorem Mine.release {W : World} {a : Loc} {s : St} {w : World} (h : Mine W a s w) (b : Int) :
    Calls Tryd.prog 17 #[.pointer (some ⟨a.p, 0, none⟩), .int .i64 b] w fun e w' => e = .returned (.int .i64 (s.releaseE b)) ∧ Mine W a (s.releaseS b) w' ∧ Touch a.own w w' :=
  (release_any a s b w h.ok h.at_).mono fun _ _ r => ⟨r.1, h.go (h.ok.release b) r.2.1 r.2.2, r.2.2⟩
theorem Mine.free {W : World} {a : Loc} {s : St} {w : World} (h : Mine W a s w) :
    Calls Tryd.prog 13 #[.pointer (some ⟨a.p, 0, none⟩)] w fun e w' => e = .returned (.int .i64 s.free) ∧ ∃ k, w' = w.drewN k := free_any a s w h.ok h.at_
theorem NewGot.mine {W : World} {n : Nat} {l : List Int} {w : World} {e : Ending} {w' : World} (h : NewGot n l w e w') (h1 : 1 ≤ n) (h2 : n ≤ 64) (hb : ∀ x ∈ l, 0 ≤ x ∧ x < (n : Int)) {U : Nat} (hU : addAll 0 l = some U)
    (hT : Touch (fun _ => False) W w) (htab : Tab W) : ∃ a : Loc, e = .returned (.tuple #[.pointer (some ⟨a.p, 0, none⟩), .int .i64 0]) ∧ Mine W a ⟨n, U, 0, 0⟩ w' ∧ w.heap.size ≤ a.p ∧ w.heap.size ≤ a.u ∧ w.heap.size ≤ a.l := by
  obtain ⟨ht, ⟨h3, _⟩ | ⟨V, hV, a, he, ha1, ha2, ha3, hA⟩⟩ := h
  · rw [hU] at h3; cases h3
  · rw [hU] at hV
    cases hV
    have := hT.size
    exact ⟨a, he, ⟨by omega, by omega, by omega, Ok.new h1 h2 hb hU, htab, hA, hT.trans ht (fun k _ hh => hh.elim id id)⟩, ha1, ha2, ha3⟩

def k0 : St := ⟨2, 2, 0, 0⟩
def k1 : St := ⟨2, 3, 0, 0⟩
def k2 : St := ⟨2, 2, 1, 0⟩
theorem k_add : addAll 0 [1] = some 2 := by decide +kernel
theorem k0_free : k0.free = 1 := by decide +kernel
theorem k0_take : k0.takeB = 0 ∧ k0.takeE = 0 ∧ k0.takeS = k1 := by refine ⟨by decide +kernel, by decide +kernel, by rfl⟩
theorem k1_give : k1.giveE 0 = 0 ∧ k1.giveS 0 = k2 := by refine ⟨by decide +kernel, by rfl⟩
theorem k2_take : k2.takeE = 5 ∧ k2.takeS = k2 := by refine ⟨by decide +kernel, by rfl⟩
theorem k2_settle : Bt.cnt k2.L = 1 ∧ k2.settleS = k0 := by refine ⟨by decide +kernel, by rfl⟩

set_option maxHeartbeats 2000000 in
theorem known_any (w : World) (hT : Tab w) : Calls Tryd.prog 8 #[] w fun e w' => e = .returned (.bool true) ∧ Touch (fun _ => False) w w' := by
  have HT := Lib.hid hT
  clear hT
  go_enter Tryd.func8, Tryd.ntmps8
  go_wp2_with fail
  refine (new_good 2 _ [1] _ (by decide) (by decide) (by decide) ⟨_, 1, rfl, fun _ => ⟨w.heap.size, 0, rfl, by simp, fun j hj => ?_⟩⟩ (by simp)).mono ?_
  · obtain rfl : j = 0 := by simp at hj; omega
    simp
  rintro e w1 hg
  obtain ⟨a, rfl, h1, -, -, -⟩ := hg.mine (W := w) (by decide) (by decide) (by simp) k_add ((Touch.refl _ w).alloc _) HT.out
  have H1 := Lib.hid h1
  clear h1 hg
  go_wp2_with fail
  refine H1.out.free.mono ?_
  rintro e w2 ⟨rfl, m, rfl⟩
  rw [show St.free ⟨2, 2, 0, 0⟩ = 1 from k0_free]
  go_wp2_with fail
  refine (H1.out.drewN m).take.mono ?_
  rintro e w2 ⟨rfl, h2, -⟩
  rw [show St.takeB ⟨2, 2, 0, 0⟩ = 0 from k0_take.1, show St.takeE ⟨2, 2, 0, 0⟩ = 0 from k0_take.2.1]
  rw [show St.takeS ⟨2, 2, 0, 0⟩ = k1 from k0_take.2.2] at h2
  have H2 := Lib.hid h2
  clear h2
  go_wp2_with fail
  refine (H2.out.give 0).mono ?_
  rintro e w3 ⟨rfl, h3, -⟩
  rw [k1_give.1]
  rw [k1_give.2] at h3
  have H3 := Lib.hid h3
  clear h3
  go_wp2_with fail
  refine H3.out.take.mono ?_
  rintro e w4 ⟨rfl, h4, -⟩
  rw [k2_take.1]
  rw [k2_take.2] at h4
  have H4 := Lib.hid h4
  clear h4
  go_wp2_with fail
  refine H4.out.settle.mono ?_
  rintro e w5 ⟨rfl, h5, -⟩
  rw [k2_settle.1]
  rw [k2_settle.2] at h5
  have H5 := Lib.hid h5
  clear h5
  go_wp2_with fail
  refine H5.out.free.mono ?_
  rintro e w6 ⟨rfl, m, rfl⟩
  rw [k0_free]
  go_wp2_with fail
  go_ret
  exact ⟨rfl, H5.out.touch.drewN _⟩

end Go.Proofs.YtfkmjepbckafdaaDoor
