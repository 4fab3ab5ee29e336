/-
  AllocHolds' walk.
-/
import Derived.Test.YtfkmjepbckafdaaDoorWK
import Derived.Deep.CutBlock
import Derived.Deep.DeepCutAuto
import Derived.Deep.RegionWith
namespace Go.Proofs.YtfkmjepbckafdaaDoor
open Go.RowKit

/-- Before the loops: the allocator, the row of what is held, what is kept back, the calls that came in. -/
structure Held (W : World) (a : Loc) (g N : Nat) (v : Value) (ops : List (Int × Int)) (s : St) (w : World) : Prop where
  n : s.n = N
  mine : Mine W a s w
  cells : Cells g N (heldOf s) w
  new : W.heap.size ≤ g
  own : ¬ a.own g
  ops : ReadsOps v ops w

theorem Held.go {W : World} {a : Loc} {g N : Nat} {v : Value} {ops : List (Int × Int)} {s s' : St} {w w' : World} (h : Held W a g N v ops s w) (hn : s'.n = s.n) (hm : Mine W a s' w') (ht : Touch a.own w w') (hb : 0 < ops.length → ∀ k, v.ownBlock = some k → k < W.heap.size)
    (hc : ∀ i, i < N → heldOf s' i = heldOf s i) : Held W a g N v ops s' w' := by
  have := h.mine.p; have := h.mine.u; have := h.mine.l
  have hcc := h.cells.touch ht h.own
  refine ⟨hn.trans h.n, hm, ⟨hcc.lt, fun j hj => by rw [hcc.cell j hj, hc j hj], hcc.soft⟩, h.new, h.own, h.ops.touch ht (fun hp k hk ho => ?_)⟩
  have := hb hp k hk
  rcases ho with e | e | e <;> omega
theorem Held.drewN {W : World} {a : Loc} {g N : Nat} {v : Value} {ops : List (Int × Int)} {s : St} {w : World} (h : Held W a g N v ops s w) (n : Nat) : Held W a g N v ops s (w.drewN n) :=
  ⟨h.n, h.mine.drewN n, h.cells.touch (S := fun _ => False) (Touch.same w n) id, h.new, h.own, h.ops.touch (S := fun _ => False) (Touch.same w n) (fun _ _ _ h => h)⟩

/-- How far the used ones are from all: read in memory. -/
def mU (a : Loc) (w : World) : Nat := match w.cell? ⟨a.u, 0, none⟩ with | some (.int _ x) => 64 - Bt.cnt x.toNat | _ => 0
theorem mU_at {a : Loc} {s : St} {w : World} (h : At a s w) : mU a w = 64 - Bt.cnt s.U := by unfold mU; rw [h.cU]; simp
theorem mU_take {a : Loc} {s : St} {w w' : World} (h : At a s w) (hs : Ok s) (hf : s.free ≠ 0) (h' : At a s.takeS w') : mU a w' < mU a w := by
  obtain ⟨h1, h2, h3, -⟩ := least_spec hs hf
  rw [mU_at h, mU_at h']
  unfold St.takeS
  rw [if_neg hf]
  have e1 : Bt.cnt (s.U ||| 2 ^ s.least) = Bt.cnt s.U + 1 := Bt.cntP_add (by have := hs.n64; omega) h2 (by simp) (fun i _ hi => by simp [Ne.symm hi])
  show 64 - Bt.cnt (s.U ||| 2 ^ s.least) < _
  have := cnt_le (s.U ||| 2 ^ s.least)
  omega

theorem Mine.drew {W : World} {a : Loc} {s : St} {w : World} (h : Mine W a s w) : Mine W a s w.drew := h.drewN 1
theorem Touch.of_drew {S : Nat → Prop} {w w' : World} (h : Touch S w.drew w') : Touch S w w' := ⟨h.os, h.tape, h.output, h.size, h.block⟩
theorem Held.set {W : World} {a : Loc} {g N : Nat} {v : Value} {ops : List (Int × Int)} {s s' : St} {w w' : World} (h : Held W a g N v ops s w) (hn : s'.n = s.n) (hm : Mine W a s' w') (ht : Touch a.own w w') (hb : 0 < ops.length → ∀ k, v.ownBlock = some k → k < W.heap.size)
    {j : Nat} (hj : j < N) (x : Int) (hc : ∀ i, i < N → heldOf s' i = if i = j then x else heldOf s i) : Held W a g N v ops s' (w'.setCell ⟨g, j, none⟩ (.int .i64 x)) := by
  have h1 := h.mine.p; have h2 := h.mine.u; have h3 := h.mine.l
  refine ⟨hn.trans h.n, hm.set h.new h.own _ _, (h.cells.touch ht h.own).set hj x hc, h.new, h.own, ?_⟩
  have ho : ReadsOps v ops w' := h.ops.touch ht (fun hp k hk ho => by have := hb hp k hk; rcases ho with e | e | e <;> omega)
  exact ho.touch (S := fun k => k = g) ((Touch.refl _ w').setCell _ _ (fun _ => rfl)) (fun hp k hk e => by have := hb hp k hk; have := h.new; omega)

set_option maxRecDepth 100000
set_option maxHeartbeats 2000000 in
theorem holds_walk (blocks : Int) (v : Value) (ops : List (Int × Int)) (w : World) (hT : Tab w) (hops : ReadsOps v ops w) :
    Calls Tryd.prog 5 #[.int .i64 blocks, v] w fun e w' => e = .returned (.bool true) ∧ Touch (fun _ => False) w w' := by
  have HT := Lib.hid hT
  have HO := Lib.hid hops
  clear hT hops
  obtain ⟨m, hm, em⟩ := mod_wrap blocks 40 (by decide) (by decide)
  rw [show ((40 : Nat) : Int) = 40 from rfl] at em
  go_enter Tryd.func5, Tryd.ntmps5
  go_wp2_with fail
  refine (known_any _ HT.out).mono ?_
  rintro e w1 ⟨rfl, ht1⟩
  have H1 := Lib.hid ht1
  clear ht1
  go_wp2_with fail
  obtain ⟨N, hN⟩ : ∃ N : Nat, 1 + (m : Int) = N := ⟨m + 1, by omega⟩
  have hN1 : 1 ≤ N := by omega
  have hN2 : N ≤ 40 := by omega
  rw [hN]
  clear em hN hm m
  refine (new_good N _ [] _ hN1 (by omega) (by decide) (reads_nil _) (by simp)).mono ?_
  rintro e w2 hg
  obtain ⟨a, rfl, hm, -, -, -⟩ := hg.mine (W := w) hN1 (by omega) (by simp) rfl H1.out HT.out
  have M0 := Lib.hid hm
  clear hm hg
  have hmk := make22 N (by omega) w2
  go_wp2_with fail
  have hmw := M0.out.touch.size
  have hlt := M0.out.at_.lt
  have hh : Held w a w2.heap.size N v ops ⟨N, 0, 0, 0⟩ (w2.alloc (.cells (madeCells #[.int .i64 0] N) 3)) := by
    have ht : Touch (fun _ => False) w2 (w2.alloc (.cells (madeCells #[.int .i64 0] N) 3)) := (Touch.refl _ w2).alloc _
    refine ⟨rfl, M0.out.go M0.out.ok (M0.out.at_.touch ht id id id) (ht.mono (fun _ _ h => h.elim)), ?_, hmw, ?_, (HO.out.touch M0.out.touch (fun _ _ _ h => h)).touch ht (fun _ _ _ h => h)⟩
    · have := cells_made N w2
      exact ⟨this.lt, fun j hj => by rw [this.cell j hj]; simp [heldOf], this.soft⟩
    · rintro (h | h | h) <;> omega
  have Hh := Lib.hid hh
  obtain ⟨ao, cap, rfl, hrd⟩ := HO.out
  have hB : 0 < ops.length → ∀ k, (Value.slice ao ops.length cap).ownBlock = some k → k < w.heap.size := by
    intro hp k hk
    obtain ⟨g, o, rfl, hg, -⟩ := hrd hp
    simp [Value.ownBlock] at hk
    omega
  have HB := Lib.hid hB
  clear hh hmw hlt hmk hB hrd
  generalize w2.heap.size = g at Hh ⊢
  go_loopw [8, 9] (fun b i wr => ∃ (j : Nat) (s : St), j ≤ ops.length ∧ j ≤ 150 ∧ i = .int .i64 j ∧ b = .int .i64 s.b ∧ Held w a g N (.slice ao ops.length cap) ops s wr) (fun _ i _ => 150 - (intOf i).toNat)
  case atStart => exact ⟨0, _, by omega, by omega, rfl, rfl, Hh.out⟩
  case round =>
    obtain ⟨j, s, hj1, hj2, rfl, rfl, hh⟩ := hrel
    have H := Lib.hid hh
    clear hh
    go_upto_region 10 with fail
    go_cut [41] (fun q wx => q = .bool (decide (j < ops.length ∧ j < 150)) ∧ wr = wx)
    case first =>
      by_cases hj : j < ops.length
      · by_cases hj3 : j < 150
        · go_wp2_with fail
          go_meet
          exact ⟨by first | (simp [hj, hj3]; done) | (simp [hj, hj3]; omega), rfl⟩
        · go_wp2_with fail
          go_meet
          exact ⟨by first | (simp [hj3]; done) | (simp [hj3]; omega), rfl⟩
      · go_wp2_with fail
        go_meet
        exact ⟨by first | (simp [hj]; done) | (simp [hj]; omega), rfl⟩
    case rest =>
    obtain ⟨rfl, rfl⟩ := hcut
    by_cases hjj : j < ops.length ∧ j < 150
    · have hj := hjj.1
      have hj3 := hjj.2
      rw [decide_eq_true hjj]
      clear hjj
      obtain ⟨ao', cap', hv, hr⟩ := H.out.ops
      obtain ⟨g', o, hao, hg', hc⟩ := hr (by omega)
      cases hv
      subst hao
      obtain ⟨c0, c1⟩ := hc j hj
      clear hc hr
      generalize (ops.getD j (0, 0)).1 = kd at c0
      generalize (ops.getD j (0, 0)).2 = x at c1
      obtain ⟨k, hk, ek⟩ := mod_wrap x N (by omega) (by omega)
      go_upto_block 2 with fail
      rw [ek]
      go_cut [8] (fun b wx => ∃ s' : St, b = .int .i64 s'.b ∧ Held w a g N (.slice (some ⟨g', o, none⟩) ops.length cap) ops s' wx)
      case first => as_aux_lemma =>
        by_cases k1 : kd = 1
        · subst k1
          by_cases hf : s.free = 0
          · obtain ⟨e1, e2⟩ := held_full hf
            have E1 := Lib.hid e1
            have E2 := Lib.hid e2
            clear e1 e2
            go_wp2_with fail
            refine H.out.mine.take.mono ?_
            rintro e w7 ⟨rfl, hm, ht⟩
            rw [E1.out]
            rw [E2.out] at hm
            have R := Lib.hid (H.out.go rfl hm ht HB.out (fun _ _ => rfl))
            clear hm ht
            go_wp2_with fail
            go_meet
            exact ⟨s, rfl, R.out⟩
          · obtain ⟨e0, e1, e2, e3, e4⟩ := held_take H.out.mine.ok hf
            rw [H.out.n] at e0
            have E1 := Lib.hid (And.intro e1 (And.intro e2 (And.intro e3 e4)))
            clear e1 e2 e3 e4
            go_wp2_with fail
            refine H.out.mine.take.mono ?_
            rintro e w7 ⟨rfl, hm, ht⟩
            rw [E1.out.2.1, E1.out.2.2.1]
            have hcc := H.out.cells.touch ht H.out.own
            have d0 := hcc.cell _ e0
            have d1 := hcc.soft _ e0
            rw [E1.out.1] at d0
            have R := Lib.hid (H.out.set (n_take s) hm ht HB.out e0 1 (fun i _ => E1.out.2.2.2 i))
            clear hm ht hcc
            go_wp2_with fail
            go_meet
            exact ⟨_, by rw [b_take], R.out⟩
        · by_cases k2 : kd = 2
          · subst k2
            have hkN : k < s.n := by rw [H.out.n]; exact hk
            rcases held_give H.out.mine.ok hkN with ⟨e1, e2, e3⟩ | ⟨e1, e2, e3⟩
            · have E := Lib.hid (And.intro e1 (And.intro e2 e3))
              clear e1 e2 e3
              go_upto_region 21 with fail
              go_cut [96] (fun q wx => q = .bool false ∧ Mine w a (s.giveS k) wx ∧ Touch a.own wr wx)
              case first =>
                have f0 := H.out.cells.cell k hk
                rw [E.out.1] at f0
                go_region_with (first | (go_at_call 12; refine (H.out.mine.drew.give k).mono ?_; rintro e w7 ⟨rfl, hm, ht⟩; rw [E.out.2.1]; have HM := Lib.hid (And.intro hm ht.of_drew); have f1 := (H.out.cells.touch ht.of_drew H.out.own).cell k hk; rw [E.out.1] at f1; clear hm ht))
                all_goals
                  go_wp2_with fail
                  go_meet
                  exact ⟨rfl, HM.out⟩
              case rest =>
                obtain ⟨rfl, hm, ht⟩ := hcut
                have hcc := H.out.cells.touch ht H.out.own
                have d0 := hcc.cell k hk
                have d1 := hcc.soft k hk
                rw [E.out.1] at d0
                have R := Lib.hid (H.out.set (n_give s k) hm ht HB.out hk 2 (fun i _ => E.out.2.2 i))
                clear hm ht hcc
                go_wp2_with fail
                go_meet
                exact ⟨_, by rw [b_give], R.out⟩
            · have E := Lib.hid (And.intro e1 (And.intro e2 e3))
              clear e1 e2 e3
              have hne : ¬ heldOf s k = 1 := E.out.1
              go_upto_region 21 with fail
              go_cut [96] (fun q wx => q = .bool false ∧ Mine w a s wx ∧ Touch a.own wr wx)
              case first =>
                have f0 := H.out.cells.cell k hk
                go_region_with (first | (go_at_call 12; refine (H.out.mine.drew.give k).mono ?_; rintro e w7 ⟨rfl, hm, ht⟩; rw [E.out.2.1]; rw [E.out.2.2] at hm; have HM := Lib.hid (And.intro hm ht.of_drew); have f1 := (H.out.cells.touch ht.of_drew H.out.own).cell k hk; clear hm ht))
                all_goals
                  go_wp2_with fail
                  go_meet
                  refine ⟨?_, HM.out⟩
                  simp [hne]
              case rest =>
                obtain ⟨rfl, hm, ht⟩ := hcut
                have d0 := (H.out.cells.touch ht H.out.own).cell k hk
                have R := Lib.hid (H.out.go rfl hm ht HB.out (fun i _ => rfl))
                clear hm ht
                go_wp2_with fail
                go_meet
                exact ⟨_, rfl, R.out⟩
          · by_cases k3 : kd = 3
            · subst k3
              go_wp2_with fail
              refine H.out.mine.settle.mono ?_
              rintro e w7 ⟨rfl, hm, ht⟩
              have R := Lib.hid (And.intro hm (And.intro (H.out.cells.touch ht H.out.own) (H.out.ops.touch ht (fun hp k hk ho => by have := HB.out hp k hk; have := H.out.mine.p; have := H.out.mine.u; have := H.out.mine.l; rcases ho with e | e | e <;> omega))))
              clear hm ht
              go_wp2_with fail
              go_loopw [13] (fun i wy => ∃ q : Nat, q ≤ N ∧ i = .int .i64 q ∧ Mine w a s.settleS wy ∧ Cells g N (fun i => if i < q then heldOf s.settleS i else heldOf s i) wy ∧ ReadsOps (.slice (some ⟨g', o, none⟩) ops.length cap) ops wy) (fun i _ => N - (intOf i).toNat)
              case atStart => exact ⟨0, by omega, rfl, R.out.1, ⟨R.out.2.1.lt, fun j hj => by simpa using R.out.2.1.cell j hj, R.out.2.1.soft⟩, R.out.2.2⟩
              case round =>
                obtain ⟨q, hq, rfl, hm, hcc, ho⟩ := hrel
                have Q := Lib.hid (And.intro hm (And.intro hcc ho))
                clear hm hcc ho
                by_cases hqN : q < N
                · have d0 := Q.out.2.1.cell q hqN
                  have d1 := Q.out.2.1.soft q hqN
                  simp only [Nat.lt_irrefl, if_false] at d0
                  by_cases h2 : heldOf s q = 2
                  · rw [h2] at d0
                    have R3 : Hid (Cells g N (fun i => if i < q + 1 then heldOf s.settleS i else heldOf s i) (wr.setCell ⟨g, q, none⟩ (.int .i64 0))) := Lib.hid (Q.out.2.1.set hqN 0 (fun i _ => by
                      by_cases e : i = q
                      · subst e; simp [held_settle, h2]
                      · have : i < q + 1 ↔ i < q := by omega
                        simp [e, this]))
                    go_wp2_with fail
                    go_roundw
                    case rel =>
                      exact ⟨q + 1, by omega, by go_num, Q.out.1.set H.out.new H.out.own _ _, R3.out, Q.out.2.2.touch (S := fun k => k = g) ((Touch.refl _ wr).setCell _ _ (fun _ => rfl)) (fun hp k hk e => by have := HB.out hp k hk; have := H.out.new; omega)⟩
                    case measure => simp [intOf]; omega
                  · go_wp2_with fail
                    go_roundw
                    case rel =>
                      refine ⟨q + 1, by omega, by go_num, Q.out.1, ⟨Q.out.2.1.lt, fun i hi => ?_, Q.out.2.1.soft⟩, Q.out.2.2⟩
                      rw [Q.out.2.1.cell i hi]
                      by_cases e : i = q
                      · subst e; simp [held_settle, h2]
                      · have : i < q + 1 ↔ i < q := by omega
                        simp only [this]
                    case measure => simp [intOf]; omega
                · obtain rfl : q = N := by omega
                  go_wp2_with fail
                  go_meet
                  refine ⟨s.settleS, rfl, H.out.n, Q.out.1, ⟨Q.out.2.1.lt, fun i hi => ?_, Q.out.2.1.soft⟩, H.out.new, H.out.own, Q.out.2.2⟩
                  have := Q.out.2.1.cell i hi
                  simpa [hi] using this
            · by_cases k4 : kd = 4
              · subst k4
                have B0 := H.out.mine.ok.b
                have B1 := H.out.mine.ok.n64
                by_cases he : k ≤ s.free
                · have E1 : Hid (s.reserveE k = 0) := Lib.hid (by unfold St.reserveE; rw [if_neg (by omega), if_neg (by omega)])
                  go_wp2_with fail
                  refine (H.out.mine.reserve k).mono ?_
                  rintro e w7 ⟨rfl, hm, ht⟩
                  rw [E1.out]
                  have R := Lib.hid (H.out.go (n_reserve s k) hm ht HB.out (fun _ _ => by rw [held_reserve]))
                  clear hm ht
                  go_wp2_with fail
                  go_meet
                  refine ⟨_, ?_, R.out⟩
                  unfold St.reserveS
                  rw [if_pos E1.out]
                  simp
                · have E1 : Hid (s.reserveE k = 5) := Lib.hid (by unfold St.reserveE; rw [if_neg (by omega), if_pos (by omega)])
                  go_wp2_with fail
                  refine (H.out.mine.reserve k).mono ?_
                  rintro e w7 ⟨rfl, hm, ht⟩
                  rw [E1.out]
                  have R := Lib.hid (H.out.go (n_reserve s k) hm ht HB.out (fun _ _ => by rw [held_reserve]))
                  clear hm ht
                  go_wp2_with fail
                  go_meet
                  refine ⟨_, ?_, R.out⟩
                  unfold St.reserveS
                  rw [if_neg (by rw [E1.out]; decide)]
              · by_cases k5 : kd = 5
                · subst k5
                  have B0 := H.out.mine.ok.b
                  have B1 := H.out.mine.ok.n64
                  by_cases he : k ≤ s.b
                  · have E1 : Hid (s.releaseE k = 0) := Lib.hid (by unfold St.releaseE; rw [if_neg (by omega)])
                    go_wp2_with fail
                    refine (H.out.mine.release k).mono ?_
                    rintro e w7 ⟨rfl, hm, ht⟩
                    rw [E1.out]
                    have R := Lib.hid (H.out.go (n_release s k) hm ht HB.out (fun _ _ => by rw [held_release]))
                    clear hm ht
                    go_wp2_with fail
                    go_meet
                    refine ⟨_, ?_, R.out⟩
                    unfold St.releaseS
                    rw [if_pos E1.out]
                    simp
                    omega
                  · have E1 : Hid (s.releaseE k = 1) := Lib.hid (by unfold St.releaseE; rw [if_pos (by omega)])
                    go_wp2_with fail
                    refine (H.out.mine.release k).mono ?_
                    rintro e w7 ⟨rfl, hm, ht⟩
                    rw [E1.out]
                    have R := Lib.hid (H.out.go (n_release s k) hm ht HB.out (fun _ _ => by rw [held_release]))
                    clear hm ht
                    go_wp2_with fail
                    go_meet
                    refine ⟨_, ?_, R.out⟩
                    unfold St.releaseS
                    rw [if_neg (by rw [E1.out]; decide)]
                · go_wp2_with fail
                  go_meet
                  exact ⟨s, rfl, H.out⟩
      case rest => as_aux_lemma =>
        obtain ⟨s', rfl, hh⟩ := hcut
        have H' := Lib.hid hh
        clear hh c0 c1 H
        have B0 := H'.out.mine.ok.b
        have B1 := H'.out.mine.ok.n64
        go_wp2_with fail
        go_loopw [14, 15] (fun f i wy => ∃ q : Nat, q ≤ N ∧ i = .int .i64 q ∧ f = .int .i64 (Bt.cntP q (isFree s')) ∧ wc = wy) (fun _ i _ => N - (intOf i).toNat)
        case atStart => exact ⟨0, by omega, rfl, rfl, rfl⟩
        case round =>
          obtain ⟨q, hq, rfl, rfl, rfl⟩ := hrel
          by_cases hqN : q < N
          · have d0 := H'.out.cells.cell q hqN
            have hle := Bt.cntP_le q (isFree s')
            by_cases h0 : heldOf s' q = 0
            · rw [h0] at d0
              go_wp2_with fail
              go_roundw
              case rel => exact ⟨q + 1, by omega, by go_num, by rw [Bt.cntP_succ]; simp [isFree, h0], trivial⟩
              case measure => simp [intOf]; omega
            · go_wp2_with fail
              go_roundw
              case rel => exact ⟨q + 1, by omega, by go_num, by rw [Bt.cntP_succ]; simp [isFree, h0], trivial⟩
              case measure => simp [intOf]; omega
          · obtain rfl : q = N := by omega
            have hcount := held_count H'.out.mine.ok
            rw [H'.out.n] at hcount
            rw [hcount]
            have hfr : s'.free ≤ 64 := by unfold St.free; omega
            clear hcount
            go_wp2_with fail
            refine H'.out.mine.free.mono ?_
            rintro e w8 ⟨rfl, n1, rfl⟩
            go_wp2_with fail
            refine (H'.out.mine.drewN n1).free.mono ?_
            rintro e w9 ⟨rfl, n2, rfl⟩
            go_wp2_with fail
            go_roundw
            case rel => exact ⟨j + 1, s', by omega, by omega, by go_num, rfl, H'.out.drewN _⟩
            case measure => simp [intOf]; omega
    · rw [decide_eq_false hjj]
      clear hjj
      have HB' := HB
      go_upto_region 46 with fail
      go_cut [174] (fun q wx => q = .bool false ∧ ∃ s' : St, s'.b = 0 ∧ Held w a g N (.slice ao ops.length cap) ops s' wx)
      case first =>
        have B0 := H.out.mine.ok.b
        have B1 := H.out.mine.ok.n64
        by_cases hb0 : s.b = 0
        · go_wp2_with fail
          go_meet
          exact ⟨by simp, s, hb0, H.out⟩
        · have E1 : Hid (s.releaseE s.b = 0) := Lib.hid (by unfold St.releaseE; rw [if_neg (by omega)])
          go_wp2_with fail
          refine (H.out.mine.release s.b).mono ?_
          rintro e w7 ⟨rfl, hm, ht⟩
          rw [E1.out]
          have R := Lib.hid (H.out.go (n_release s s.b) hm ht HB'.out (fun _ _ => by rw [held_release]))
          clear hm ht
          go_wp2_with fail
          go_meet
          refine ⟨rfl, _, ?_, R.out⟩
          unfold St.releaseS
          rw [if_pos E1.out]
          simp
      case rest => as_aux_lemma =>
        obtain ⟨rfl, s', hb0, hh⟩ := hcut
        have H' := Lib.hid hh
        have Hb0 := Lib.hid hb0
        clear hh hb0 H
        go_wp2_with fail
        go_loopw [16] (fun _ wy => ∃ s : St, s.b = 0 ∧ Held w a g N (.slice ao ops.length cap) ops s wy) (fun _ wy => mU a wy)
        case atStart => exact ⟨s', Hb0.out, H'.out⟩
        case round =>
          obtain ⟨s, hb0, hh⟩ := hrel
          have H := Lib.hid hh
          have Hb := Lib.hid hb0
          clear hh hb0
          by_cases hf : s.free = 0
          · obtain ⟨e1, e2⟩ := held_full hf
            have E1 := Lib.hid e1
            have E2 := Lib.hid e2
            clear e1 e2
            go_wp2_with fail
            refine H.out.mine.free.mono ?_
            rintro e w8 ⟨rfl, n1, rfl⟩
            rw [hf]
            go_wp2_with fail
            refine (H.out.mine.drewN n1).take.mono ?_
            rintro e w9 ⟨rfl, hm, ht⟩
            rw [E1.out]
            have R := Lib.hid hm.touch
            clear hm ht
            go_wp2_with fail
            go_ret
            exact ⟨rfl, R.out⟩
          · have hpos : (0 : Int) < s.free := by omega
            obtain ⟨e0, e1, e2, e3, e4⟩ := held_take H.out.mine.ok hf
            rw [H.out.n] at e0
            have E1 := Lib.hid (And.intro e1 (And.intro e2 (And.intro e3 e4)))
            clear e1 e2 e3 e4
            go_wp2_with fail
            refine H.out.mine.free.mono ?_
            rintro e w8 ⟨rfl, n1, rfl⟩
            go_wp2_with fail
            refine (H.out.mine.drewN n1).take.mono ?_
            rintro e w9 ⟨rfl, hm, ht0⟩
            have ht : Touch a.own wr w9 := (Touch.same wr n1).trans ht0 (fun _ _ h => h.elim id id)
            rw [E1.out.2.1, E1.out.2.2.1]
            have hcc := H.out.cells.touch ht H.out.own
            have d0 := hcc.cell _ e0
            have d1 := hcc.soft _ e0
            rw [E1.out.1] at d0
            have R := Lib.hid (H.out.set (n_take s) hm ht HB'.out e0 1 (fun i _ => E1.out.2.2.2 i))
            have hmu := mU_take H.out.mine.at_ H.out.mine.ok hf R.out.mine.at_
            have Hmu := Lib.hid hmu
            clear hm ht ht0 hcc hmu
            go_wp2_with fail
            go_roundw
            case rel => exact ⟨_, by rw [b_take]; exact Hb.out, R.out⟩
            case measure => exact Hmu.out

end Go.Proofs.YtfkmjepbckafdaaDoor
