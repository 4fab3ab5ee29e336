/-
  AllocLeast's walk.
-/
import Derived.Test.YtfkmjepbckafdaaDoorWN
namespace Go.Proofs.YtfkmjepbckafdaaDoor
open Go.RowKit

/-- A row of bools of the call's own. -/
structure CellsB (g n : Nat) (f : Nat → Bool) (w : World) : Prop where
  lt : g < w.heap.size
  cell : ∀ j, j < n → w.cell? ⟨g, j, none⟩ = some (.bool (f j))
  soft : ∀ j, j < n → w.frozen? ⟨g, j, none⟩ = false
theorem CellsB.touch {g n : Nat} {f : Nat → Bool} {S : Nat → Prop} {w w' : World} (h : CellsB g n f w) (ht : Touch S w w') (hS : ¬ S g) : CellsB g n f w' :=
  ⟨Nat.lt_of_lt_of_le h.lt ht.size, fun j hj => ht.some (h.cell j hj) hS, fun j hj => (ht.frozen (p := ⟨g, j, none⟩) h.lt hS).trans (h.soft j hj)⟩
theorem CellsB.set {g n : Nat} {f : Nat → Bool} {w : World} (h : CellsB g n f w) {j : Nat} (hj : j < n) (x : Bool) {f' : Nat → Bool} (hf : ∀ i, i < n → f' i = if i = j then x else f i) : CellsB g n f' (w.setCell ⟨g, j, none⟩ (.bool x)) := by
  refine ⟨by simpa [World.setCell] using h.lt, fun i hi => ?_, fun i hi => by simpa using h.soft i hi⟩
  rw [hf i hi]
  by_cases e : i = j
  · subst e; rw [if_pos rfl]; exact cell_at (h.cell i hi) _
  · rw [if_neg e, cell_off (Ne.symm e)]; exact h.cell i hi

theorem Tryd.info4 : (Tryd.prog.info? 4).map (fun i => (i.zero, i.size, i.bytes)) = some (some (.bool false), 1, 1) := by kernel_rfl
theorem make38 (n : Nat) (hn : n ≤ 100) (w : World) : (Instr.makeSlice 38 (.int .i64 n) (.int .i64 n)).run Tryd.prog w = .ok (.slice (some ⟨w.heap.size, 0, none⟩) n n) (w.alloc (.cells (madeCells #[.bool false] n) 4)) := by
  obtain ⟨i0, hi, hz0, hz1, hz2⟩ := info_parts Tryd.info4
  have h := run_makeSlice (P := Tryd.prog) (w := w) 38 4 i0 (.bool false) Tryd.underlying38 hi hz0 .i64 .i64 n n (by omega) (by omega) (by rw [hz1]; simp; omega) (by rw [hz2]; omega) (by omega)
  rw [h, hz1]
  simp
  rfl
theorem cellsB_made (n : Nat) (w : World) : CellsB w.heap.size n (fun _ => false) (w.alloc (.cells (madeCells #[.bool false] n) 4)) :=
  ⟨by simp, fun j hj => by rw [World.cell?_alloc_at _ _ _ _ rfl]; exact made_get _ _ _ hj, fun j _ => World.frozen?_alloc_at _ _ _ _ rfl⟩

theorem addAll_snoc (l : List Int) (U : Nat) (b : Int) : addAll U (l ++ [b]) = (addAll U l).bind fun V => if V.testBit b.toNat then none else some (V ||| 2 ^ b.toNat) := by
  induction l generalizing U with
  | nil => simp [addAll]
  | cons a l ih =>
    simp only [List.cons_append, addAll]
    split
    · rfl
    · exact ih _

theorem reads_of_own {base : Nat} {v : Value} {l : List Int} {w : World} (h : w.ownsRow base 3 1 v l.length (l.map (Value.int .i64))) : Reads v l w := by
  have hlt := h.lt
  have hcell : ∀ g cap, v = .slice (some ⟨g, 0, none⟩) l.length cap → ∀ j, j < l.length → w.cell? ⟨g, 0 + j, none⟩ = some (.int .i64 (l.getD j 0)) := by
    rintro g cap rfl j hj
    rw [Nat.zero_add, World.ownsRow.cellAt h j (by omega)]
    simp [List.getD, hj]
  rcases h.2 with ⟨rfl, hn⟩ | ⟨g, cap, cur, rfl, hb, hg, -⟩
  · exact ⟨none, 0, by rw [hn], fun hp => by omega⟩
  · exact ⟨_, cap, rfl, fun hp => ⟨g, 0, rfl, (hlt g rfl).2, fun j hj => hcell g cap rfl j hj⟩⟩

theorem bools_of (l : List Int) : (l.map (Value.int IntKind.i64)).length = l.length := by simp

/-- What AllocLeast's first loop keeps. -/
structure Gath (W : World) (g N j : Nat) (l : List Int) (U : Nat) (v : Value) (w : World) : Prop where
  len : l.length ≤ j
  mem : ∀ x ∈ l, 0 ≤ x ∧ x < (N : Int)
  add : addAll 0 l = some U
  own : w.ownsRow W.heap.size 3 1 v l.length (l.map (Value.int .i64))
  row : CellsB g N U.testBit w
  ne : v.ownBlock ≠ some g
  new : W.heap.size ≤ g
  touch : Touch (fun _ => False) W w

theorem bit_lt {U N k : Nat} (h : U < 2 ^ N) (hk : N ≤ k) : U.testBit k = false := Bt.testBit_high h hk

/-- The store behind: the number was there. -/
theorem Gath.old {W : World} {g N j : Nat} {l : List Int} {U : Nat} {v : Value} {w : World} (h : Gath W g N j l U v w) {k : Nat} (hk : k < N) (hU : U.testBit k = true) : Gath W g N (j + 1) l U v (w.setCell ⟨g, k, none⟩ (.bool true)) := by
  have hg : w.grownBy (w.setCell ⟨g, k, none⟩ (.bool true)) (some g) := ⟨rfl, rfl, rfl, by simp [World.setCell], fun i _ hi => Below.heap_setCell w _ _ i (fun e => hi (by rw [e]))⟩
  refine ⟨Nat.le_succ_of_le h.len, h.mem, h.add, h.own.kept hg (.inr h.ne), h.row.set hk true (fun i _ => ?_), h.ne, h.new, h.touch.setCell _ _ (fun hlt => absurd h.new (by simp at hlt; omega))⟩
  by_cases e : i = k
  · subst e; simp [hU]
  · simp [e]
/-- The append and the store behind: the number is new. -/
theorem Gath.fresh {W : World} {g N j : Nat} {l : List Int} {U : Nat} {v v' : Value} {w w1 : World} {o : Obj} (h : Gath W g N j l U v w) {k : Nat} (hk : k < N) (hU : U.testBit k = false)
    (hown : w1.ownsRow W.heap.size 3 1 v' (l.length + 1) (l.map (Value.int .i64) ++ [.int .i64 k])) (hg : (w.alloc o).grownBy w1 v.ownBlock) (hat : v'.ownBlock = v.ownBlock ∨ v'.ownBlock = some (w.alloc o).heap.size) :
    Gath W g N (j + 1) (l ++ [(k : Int)]) (U ||| 2 ^ k) v' (w1.setCell ⟨g, k, none⟩ (.bool true)) := by
  have hlt := h.row.lt
  have hne : v'.ownBlock ≠ some g := by
    rcases hat with e | e
    · rw [e]; exact h.ne
    · rw [e]; intro e2; simp at e2; omega
  have hs : w1.grownBy (w1.setCell ⟨g, k, none⟩ (.bool true)) (some g) := ⟨rfl, rfl, rfl, by simp [World.setCell], fun i _ hi => Below.heap_setCell w1 _ _ i (fun e => hi (by rw [e]))⟩
  have hrow : CellsB g N U.testBit w1 := by
    have h1 : CellsB g N U.testBit (w.alloc o) := h.row.touch (S := fun _ => False) ((Touch.refl _ w).alloc o) id
    exact h1.touch (S := fun k => v.ownBlock = some k) ⟨hg.os, hg.tape, hg.output, hg.size, fun i hi hn => hg.block i hi (fun e => hn e.symm)⟩ h.ne
  have ht1 : Touch (fun _ => False) W w1 := (h.touch.alloc o).grownNew (h.own.alloc o) (Nat.le_refl _) hg
  refine ⟨by simp; exact h.len, fun x hx => ?_, by rw [addAll_snoc, h.add]; simp [hU], ?_, hrow.set hk true (fun i _ => ?_), hne, h.new, ht1.setCell _ _ (fun hh => absurd h.new (by simp at hh; omega))⟩
  · rw [List.mem_append] at hx
    rcases hx with hx | hx
    · exact h.mem x hx
    · simp at hx; subst hx; omega
  · have := hown.kept hs (.inr hne)
    simpa using this
  · rw [Bt.or_bit]
    by_cases e : i = k
    · subst e; simp
    · simp [e, Ne.symm e]

/-- In the second loop: what is used. -/
structure Fill (N U q : Nat) (s : St) : Prop where
  n : s.n = N
  L : s.L = 0
  b : s.b = 0
  bit : ∀ i, i < N → s.U.testBit i = (U.testBit i || decide (i < q))
theorem Fill.skip {N U q : Nat} {s : St} (h : Fill N U q s) (hU : U.testBit q = true) : Fill N U (q + 1) s := by
  refine ⟨h.n, h.L, h.b, fun i hi => ?_⟩
  rw [h.bit i hi]
  by_cases e : i = q
  · subst e; simp [hU]
  · have : i < q + 1 ↔ i < q := by omega
    simp [this]
theorem Fill.take {N U q : Nat} {s : St} (h : Fill N U q s) (hs : Ok s) (hq : q < N) (hU : U.testBit q = false) : s.takeE = 0 ∧ s.takeB = q ∧ Fill N U (q + 1) s.takeS := by
  have hbq : s.U.testBit q = false := by rw [h.bit q hq, hU]; simp
  have hb := hs.b
  have hN : s.n = N := h.n
  have hcU : Bt.cnt s.U = Bt.cntP N s.U.testBit := by rw [Bt.cnt_below hs.U hs.n64, hN]
  have e := Bt.cntP_split (n := N) (p := s.U.testBit) (q := fun _ => false) (r := fun i => !(s.U.testBit i)) (fun i _ => by cases s.U.testBit i <;> rfl)
  have e0 : Bt.cntP N (fun _ => false) = 0 := Bt.cntP_none (fun _ _ => rfl)
  have hne : Bt.cntP N (fun i => !(s.U.testBit i)) ≠ 0 := fun e1 => by have := Bt.cntP_all e1 q hq; simp [hbq] at this
  have hL0 : Bt.cnt s.L = 0 := by rw [h.L, Bt.cnt_zero]
  have hf : s.free ≠ 0 := by unfold St.free; rw [h.b, hL0, hcU, hN]; omega
  obtain ⟨l1, l2, l3, l4⟩ := least_spec hs hf
  have hle : ¬ q < s.least := fun hlt => by
    rcases l4 q hlt with h1 | h1
    · rw [hbq] at h1; cases h1
    · rw [h.L, Nat.zero_testBit] at h1; cases h1
  have hge : ¬ s.least < q := fun hlt => by
    rw [h.bit _ (by omega)] at l2
    simp [hlt] at l2
  have heq : s.least = q := by omega
  unfold St.takeE St.takeB St.takeS
  rw [if_neg hf, if_neg hf, if_neg hf, heq]
  refine ⟨rfl, rfl, h.n, h.L, h.b, fun i hi => ?_⟩
  show (s.U ||| 2 ^ q).testBit i = _
  rw [Bt.or_bit, h.bit i hi]
  by_cases e : i = q
  · subst e; simp
  · have : i < q + 1 ↔ i < q := by omega
    simp [this, Ne.symm e]
theorem Fill.full {N U : Nat} {s : St} (h : Fill N U N s) (hs : Ok s) : s.free = 0 ∧ Bt.cnt s.U = N := by
  have hb := hs.b
  have hN : s.n = N := h.n
  have hcU : Bt.cnt s.U = Bt.cntP N s.U.testBit := by rw [Bt.cnt_below hs.U hs.n64, hN]
  have e := Bt.cntP_split (n := N) (p := s.U.testBit) (q := fun _ => false) (r := fun i => !(s.U.testBit i)) (fun i _ => by cases s.U.testBit i <;> rfl)
  have e0 : Bt.cntP N (fun _ => false) = 0 := Bt.cntP_none (fun _ _ => rfl)
  have e1 : Bt.cntP N (fun i => !(s.U.testBit i)) = 0 := Bt.cntP_none (fun i hi => by rw [h.bit i hi]; simp [hi])
  have hL0 : Bt.cnt s.L = 0 := by rw [h.L, Bt.cnt_zero]
  unfold St.free
  omega

set_option maxRecDepth 100000
set_option maxHeartbeats 2000000 in
theorem least_walk (v : Value) (used : List Int) (n : Int) (w : World) (hT : Tab w) (hr : Reads v used w) :
    Calls Tryd.prog 4 #[v, .int .i64 n] w fun e w' => e = .returned (.bool true) ∧ Touch (fun _ => False) w w' := by
  obtain ⟨i0, hi, hz0, hz1, hz2⟩ := info_parts Tryd.info3
  have HT := Lib.hid hT
  obtain ⟨ao, cap, rfl, hr⟩ := hr
  have HR := Lib.hid hr
  clear hT hr
  obtain ⟨m, hm, em⟩ := mod_wrap n 60 (by decide) (by decide)
  rw [show ((60 : Nat) : Int) = 60 from rfl] at em
  go_enter Tryd.func4, Tryd.ntmps4
  go_wp2_with fail
  refine (known_any _ HT.out).mono ?_
  rintro e w1 ⟨rfl, ht1⟩
  obtain ⟨N, hN⟩ : ∃ N : Nat, 1 + (m : Int) = N := ⟨m + 1, by omega⟩
  have hN1 : 1 ≤ N := by omega
  have hN2 : N ≤ 60 := by omega
  have hmk := make38 N (by omega) w1
  have H0 : Hid (Gath w w1.heap.size N 0 [] 0 (.slice none 0 0) (w1.alloc (.cells (madeCells #[.bool false] N) 4))) := by
    have h1 := ht1.size
    have h2 := cellsB_made N w1
    exact Lib.hid ⟨Nat.le_refl _, by simp, rfl, World.ownsRow_nil _ _ _ _, ⟨h2.lt, fun j hj => by rw [h2.cell j hj]; simp, h2.soft⟩, by simp [Value.ownBlock], h1, ht1.alloc _⟩
  clear ht1
  go_wp2_with (rw [em, hN])
  clear hmk em hN hm m
  generalize w1.heap.size = g at H0 ⊢
  go_loopw [6, 7] (fun q i wr => ∃ (j : Nat) (l : List Int) (U : Nat), j ≤ used.length ∧ j ≤ 60 ∧ i = .int .i64 j ∧ Gath w g N j l U q wr) (fun _ i _ => 60 - (intOf i).toNat)
  case atStart => exact ⟨0, [], 0, by omega, by omega, rfl, H0.out⟩
  case round =>
    obtain ⟨j, l, U, hj1, hj2, rfl, hh⟩ := hrel
    have H := Lib.hid hh
    clear hh
    go_upto_region 7 with fail
    go_cut [30] (fun q wx => q = .bool (decide (j < used.length ∧ j < 60)) ∧ wr = wx)
    case first =>
      by_cases hj : j < used.length
      · by_cases hj3 : j < 60
        · go_wp2_with fail
          go_meet
          exact ⟨by first | (simp [hj, hj3]; done) | (simp [hj, hj3]; omega), rfl⟩
        · go_wp2_with fail
          go_meet
          exact ⟨by first | (simp [hj3]; done) | (simp [hj3]; omega), rfl⟩
      · go_wp2_with fail
        go_meet
        exact ⟨by first | (simp [hj]; done) | (simp [hj]; omega), rfl⟩
    case rest =>
    obtain ⟨rfl, rfl⟩ := hcut
    by_cases hjj : j < used.length ∧ j < 60
    · as_aux_lemma =>
      have hj := hjj.1
      have hj3 := hjj.2
      rw [decide_eq_true hjj]
      clear hjj
      obtain ⟨gu, o, rfl, hgu, hc⟩ := HR.out (by omega)
      have c0 : wr.cell? ⟨gu, o + j, none⟩ = some (.int .i64 (used.getD j 0)) := (H.out.touch.some (hc j hj) id)
      clear hc
      generalize used.getD j 0 = x at c0
      obtain ⟨k, hk, ek⟩ := mod_wrap x N (by omega) (by omega)
      have hlen := H.out.len
      cases hU : U.testBit k with
      | true =>
        have d0 := H.out.row.cell k hk
        have d1 := H.out.row.soft k hk
        rw [hU] at d0
        have R := Lib.hid (H.out.old hk hU)
        clear hU
        go_wp2_with (rw [ek])
        go_roundw
        case rel => exact ⟨j + 1, l, U, by omega, by omega, by go_num, R.out⟩
        case measure => simp [intOf]; omega
      | false =>
        have d0 := H.out.row.cell k hk
        rw [hU] at d0
        have HU := Lib.hid hU
        clear hU
        go_wp2_with (first | (rw [ek]) | (at_builtin; refine wpList_append_own_at _ rfl _ _ 22 rfl w.heap.size 3 i0 (.int .i64 0) 1 8 Tryd.underlying22 hi hz0 hz1 hz2 rfl (by decide) _ _ _ rfl (H.out.own.alloc _) ⟨wr.heap.size, 0, none⟩ 1 1 [.int .i64 k] rfl rfl ?c1 ?c2 ?c3 ?c4 ?c5 ?_))
        case c1 => exact one_at _ _ _
        case c2 => intro u hu; simp at hu; subst hu; rfl
        case c3 => unfold maxLen; omega
        case c4 => omega
        case c5 => have := H.out.touch.size; simp; omega
        intro v' w1 hown1 hg1 _ hat
        have hlt := H.out.row.lt
        have hrow : CellsB g N U.testBit w1 := by
          have h1 : CellsB g N U.testBit (wr.alloc (.cells #[.int .i64 k] 3)) := H.out.row.touch (S := fun _ => False) ((Touch.refl _ wr).alloc _) id
          exact h1.touch (S := fun k => Value.ownBlock _ = some k) ⟨hg1.os, hg1.tape, hg1.output, hg1.size, fun i hi hn => hg1.block i hi (fun e => hn e.symm)⟩ H.out.ne
        have d2 := hrow.cell k hk
        have d1 := hrow.soft k hk
        have R := Lib.hid (H.out.fresh hk HU.out hown1 hg1 (by simpa using hat))
        clear hown1 hg1 hat hrow d0
        rw [HU.out] at d2
        go_wp2_with fail
        go_roundw
        case rel => exact ⟨j + 1, _, _, by omega, by omega, by go_num, R.out⟩
        case measure => simp [intOf]; omega
    · rw [decide_eq_false hjj]
      clear hjj
      go_wp2_with fail
      refine (new_good N _ l _ hN1 (by omega) (by have := H.out.len; omega) (reads_of_own H.out.own) H.out.mem).mono ?_
      rintro e w2 hg
      have ht2 := hg.touch
      obtain ⟨a, rfl, hm, q1, q2, q3⟩ := hg.mine (W := w) hN1 (by omega) H.out.mem H.out.add H.out.touch HT.out
      have hlt := H.out.row.lt
      have hno : Hid (¬ a.own g) := Lib.hid (by rintro (e | e | e) <;> omega)
      clear q1 q2 q3 hlt
      have hU2 := addAll_lt l 0 U N H.out.mem (Nat.two_pow_pos _) H.out.add
      have M0 := Lib.hid (And.intro hm (And.intro (H.out.row.touch ht2 id) hU2))
      clear hm hg ht2 hU2
      go_wp2_with fail
      go_loopw [11] (fun i wy => ∃ (q : Nat) (s : St), q ≤ N ∧ i = .int .i64 q ∧ Mine w a s wy ∧ Fill N U q s ∧ CellsB g N U.testBit wy) (fun i _ => N - (intOf i).toNat)
      case atStart => exact ⟨0, _, by omega, rfl, M0.out.1, ⟨rfl, rfl, rfl, fun i _ => by simp⟩, M0.out.2.1⟩
      case round =>
        obtain ⟨q, s, hq, rfl, hm, hf, hr⟩ := hrel
        have M := Lib.hid (And.intro hm (And.intro hf hr))
        clear hm hf hr
        by_cases hqN : q < N
        · have d0 := M.out.2.2.cell q hqN
          cases hU : U.testBit q with
          | true =>
            rw [hU] at d0
            have R := Lib.hid (M.out.2.1.skip hU)
            clear hU
            go_wp2_with fail
            go_roundw
            case rel => exact ⟨q + 1, s, by omega, by go_num, M.out.1, R.out, M.out.2.2⟩
            case measure => simp [intOf]; omega
          | false =>
            rw [hU] at d0
            have R := Lib.hid (M.out.2.1.take M.out.1.ok hqN hU)
            clear hU
            go_wp2_with fail
            refine M.out.1.take.mono ?_
            rintro e w9 ⟨rfl, hm, ht⟩
            rw [R.out.1, R.out.2.1]
            have hrow := M.out.2.2.touch ht hno.out
            have M' := Lib.hid (And.intro hm hrow)
            clear hm hrow ht
            go_wp2_with fail
            go_roundw
            case rel => exact ⟨q + 1, _, by omega, by go_num, M'.out.1, R.out.2.2, M'.out.2⟩
            case measure => simp [intOf]; omega
        · obtain rfl : q = N := by omega
          obtain ⟨hf0, hcn⟩ := M.out.2.1.full M.out.1.ok
          have HF := Lib.hid hf0
          have HC := Lib.hid hcn
          clear hf0 hcn
          go_wp2_with fail
          refine M.out.1.take.mono ?_
          rintro e w9 ⟨rfl, hm, ht⟩
          rw [(held_full HF.out).1]
          rw [(held_full HF.out).2] at hm
          have M' := Lib.hid hm
          clear hm ht
          go_wp2_with fail
          refine M'.out.free.mono ?_
          rintro e w10 ⟨rfl, n1, rfl⟩
          rw [HF.out]
          go_wp2_with fail
          refine (used_any a s _ (M'.out.drewN n1).tabw M'.out.ok (M'.out.drewN n1).at_).mono ?_
          intro e w11 hg
          obtain ⟨v, rfl, h1, h2⟩ := hg
          have hlen : (bitsN 64 s.U.testBit).length = q := HC.out
          rw [hlen] at h1
          have H2 := Lib.hid ((M'.out.touch.drewN n1).trans h2 (fun _ _ h => h.elim id id))
          clear h2
          rcases h1.2 with ⟨rfl, h0⟩ | ⟨g2, cap2, cur2, rfl, -⟩
          · omega
          · clear h1 hlen
            go_wp2_with fail
            go_ret
            exact ⟨rfl, H2.out⟩

end Go.Proofs.YtfkmjepbckafdaaDoor
