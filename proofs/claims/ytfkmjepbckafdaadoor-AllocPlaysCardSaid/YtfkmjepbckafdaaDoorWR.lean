/-
  The reference's allocator in memory; List, Free, Same.
-/
import Derived.Test.YtfkmjepbckafdaaDoorWQ
namespace Go.Proofs.YtfkmjepbckafdaaDoor
open Go.RowKit

attribute [local go_sem ↓] Go.wp_at_zero Go.wp_at_succ

/-- Where the reference's allocator lies. -/
structure RLoc where
  p : Nat
  g : Nat
def RLoc.own (q : RLoc) (k : Nat) : Prop := k = q.p ∨ k = q.g

structure RAt (q : RLoc) (s : St) (w : World) : Prop where
  c0 : w.cell? ⟨q.p, 0, none⟩ = some (.slice (some ⟨q.g, 0, none⟩) s.n s.n)
  c1 : w.cell? ⟨q.p, 1, none⟩ = some (.int .i64 s.b)
  f1 : w.frozen? ⟨q.p, 1, none⟩ = false
  row : Cells q.g s.n (heldOf s) w
  ne : q.p ≠ q.g

theorem RAt.lt {q : RLoc} {s : St} {w : World} (h : RAt q s w) : q.p < w.heap.size ∧ q.g < w.heap.size := ⟨World.block_lt_of_cell? w _ h.c0, h.row.lt⟩
theorem RAt.touch {q : RLoc} {s : St} {S : Nat → Prop} {w w' : World} (h : RAt q s w) (ht : Touch S w w') (hp : ¬ S q.p) (hg : ¬ S q.g) : RAt q s w' :=
  ⟨ht.some h.c0 hp, ht.some h.c1 hp, (ht.frozen (p := ⟨q.p, 1, none⟩) h.lt.1 hp).trans h.f1, h.row.touch ht hg, h.ne⟩

/-- The blocks of a state, rising. -/
def hL (s : St) (k : Int) : List Nat := bitsN s.n fun i => decide (heldOf s i = k)
theorem bitsN_succ (n : Nat) (p : Nat → Bool) : bitsN (n + 1) p = bitsN n p ++ if p n then [n] else [] := by
  unfold bitsN; rw [List.range_succ, List.filter_append, List.filter_cons]; rfl

def RListGot (s : St) (k : Int) (w : World) (e : Ending) (w' : World) : Prop :=
  ∃ v, e = .returned v ∧ w'.ownsRow w.heap.size 3 1 v (hL s k).length (ofNats (hL s k)) ∧ Touch (fun _ => False) w w'

set_option maxHeartbeats 1000000 in
theorem rlist_any (q : RLoc) (s : St) (k : Int) (w : World) (hs : Ok s) (h : RAt q s w) : Calls Tryd.prog 33 #[.pointer (some ⟨q.p, 0, none⟩), .int .i64 k] w (RListGot s k w) := by
  obtain ⟨i0, hi, hz0, hz1, hz2⟩ := info_parts Tryd.info3
  have HA := Lib.hid h
  have hn := hs.n64
  clear hs h
  go_enter Tryd.func33, Tryd.ntmps33
  go_wp2_with fail
  go_loopw [5, 6] (fun v i wr => ∃ j : Nat, j ≤ s.n ∧ i = .int .i64 j ∧ wr.ownsRow w.heap.size 3 1 v (bitsN j fun i => decide (heldOf s i = k)).length (ofNats (bitsN j fun i => decide (heldOf s i = k))) ∧ Touch (fun _ => False) w wr) (fun _ i _ => s.n - (intOf i).toNat)
  case atStart => exact ⟨0, by omega, rfl, World.ownsRow_nil _ _ _ _, Touch.refl _ _⟩
  case round =>
    obtain ⟨j, hj, rfl, hown, ht⟩ := hrel
    have hA := HA.out.touch ht id id
    have H := Lib.hid (And.intro hown (And.intro ht hA))
    obtain ⟨c0, c1, -, row, -⟩ := hA
    have hlen := bits_len j fun i => decide (heldOf s i = k)
    clear hown ht
    by_cases hlt : j < s.n
    · have d0 := row.cell j hlt
      have HS := Lib.hid (bitsN_succ j fun i => decide (heldOf s i = k))
      clear row c1
      by_cases hk : heldOf s j = k
      · rw [hk] at d0
        have hb : (k == k) = true := by simp
        have HS2 : Hid (bitsN (j + 1) (fun i => decide (heldOf s i = k)) = bitsN j (fun i => decide (heldOf s i = k)) ++ [j]) := Lib.hid (by rw [HS.out]; simp [hk])
        clear hk
        generalize bitsN j (fun i => decide (heldOf s i = k)) = out at H hlen HS2
        go_wp2_with ((at_builtin; refine wpList_append_own_at _ rfl _ _ 22 rfl w.heap.size 3 i0 (.int .i64 0) 1 8 Tryd.underlying22 hi hz0 hz1 hz2 rfl (by decide) _ _ _ rfl (H.out.1.alloc _) ⟨wr.heap.size, 0, none⟩ 1 1 [.int .i64 j] rfl rfl ?c1 ?c2 ?c3 ?c4 ?c5 ?_))
        case c1 => exact one_at _ _ _
        case c2 => intro u hu; simp at hu; subst hu; rfl
        case c3 => unfold maxLen; omega
        case c4 => omega
        case c5 => have := H.out.2.1.size; simp; omega
        intro v' w1 hown1 hg1 _ _
        have ht1 := (H.out.2.1.alloc (.cells #[.int .i64 j] 3)).grownNew (H.out.1.alloc _) (Nat.le_refl _) hg1
        have H1 := Lib.hid (And.intro hown1 ht1)
        clear hown1 ht1 hg1
        go_wp2_with fail
        go_roundw
        case rel => exact ⟨j + 1, by omega, by go_num, by rw [HS2.out]; simpa [ofNats] using H1.out.1, H1.out.2⟩
        case measure => simp [intOf]; omega
      · have hb : (heldOf s j == k) = false := by simp [hk]
        have HS2 : Hid (bitsN (j + 1) (fun i => decide (heldOf s i = k)) = bitsN j (fun i => decide (heldOf s i = k))) := Lib.hid (by rw [HS.out]; simp [hk])
        clear hk
        go_wp2_with fail
        go_roundw
        case rel => exact ⟨j + 1, by omega, by go_num, by rw [HS2.out]; exact H.out.1, H.out.2.1⟩
        case measure => simp [intOf]; omega
    · obtain rfl : j = s.n := by omega
      clear row c1
      go_wp2_with fail
      go_ret
      exact ⟨_, rfl, H.out.1, H.out.2.1⟩

theorem filter_more {x n : Nat} (h : x < 2 ^ n) (hn : n ≤ 64) : (List.range n).filter x.testBit = (List.range 64).filter x.testBit := by
  have e1 : List.range 64 = List.range n ++ List.range' n (64 - n) := by
    rw [List.range_eq_range', List.range_eq_range']
    have := List.range'_append (s := 0) (m := n) (n := 64 - n) (step := 1)
    simp at this
    rw [this]; congr 1; omega
  rw [e1, List.filter_append]
  have : (List.range' n (64 - n)).filter x.testBit = [] := by
    rw [List.filter_eq_nil_iff]; intro a ha; simp [List.mem_range'_1] at ha
    rw [Bt.testBit_high h ha.1]; simp
  rw [this, List.append_nil]
theorem hL_used {s : St} (h : Ok s) : hL s 1 = bitsN 64 s.U.testBit := by
  unfold hL bitsN
  have e : ∀ i, decide (heldOf s i = 1) = s.U.testBit i := by
    intro i; unfold heldOf
    cases s.U.testBit i <;> cases s.L.testBit i <;> simp
  simp only [e]
  exact filter_more h.U h.n64
theorem hL_leaving {s : St} (h : Ok s) : hL s 2 = bitsN 64 s.L.testBit := by
  unfold hL bitsN
  have e : ∀ i, decide (heldOf s i = 2) = s.L.testBit i := by
    intro i; unfold heldOf
    have := h.UL i
    cases hu : s.U.testBit i <;> cases hl : s.L.testBit i <;> simp_all
  simp only [e]
  exact filter_more h.L h.n64
theorem hL_free {s : St} (h : Ok s) : (hL s 0).length = s.free + s.b := held_count h
theorem hL_least {s : St} (h : Ok s) (hf : s.free ≠ 0) : ∃ r, hL s 0 = s.least :: r := by
  obtain ⟨h1, h2, h3, h4⟩ := least_spec h hf
  refine ⟨bitsN s.n (fun i => decide (heldOf s i = 0) && decide (i ≠ s.least)), ?_⟩
  unfold hL
  refine bits_cons h1 ?_ (fun i hi => ?_) (fun i => rfl)
  · simp [heldOf, h2, h3]
  · have hne : heldOf s i ≠ 0 := by
      unfold heldOf
      rcases h4 i hi with h | h
      · simp [h]
      · rw [h]; cases s.U.testBit i <;> simp
    simp [hne]
theorem hL_le (s : St) (k : Int) : (hL s k).length ≤ s.n := bits_len _ _
theorem own_form {w : World} {base n size : Nat} {e : TypeId} {v : Value} {xs : List Value} (h : w.ownsRow base e size v n xs) : ∃ A cap, v = .slice A n cap := by
  rcases h.2 with ⟨rfl, rfl⟩ | ⟨g, cap, cur, rfl, -⟩
  · exact ⟨_, _, rfl⟩
  · exact ⟨_, _, rfl⟩
theorem RAt.drew {q : RLoc} {s : St} {w : World} (h : RAt q s w) : RAt q s w.drew := h.touch (S := fun _ => False) (Touch.refl _ w).drew id id
theorem Touch.from_drew {S : Nat → Prop} {w w' : World} (h : Touch S w.drew w') : Touch S w w' := ⟨h.os, h.tape, h.output, h.size, h.block⟩

set_option maxHeartbeats 1000000 in
theorem rfree_any (q : RLoc) (s : St) (w : World) (hs : Ok s) (h : RAt q s w) :
    Calls Tryd.prog 32 #[.pointer (some ⟨q.p, 0, none⟩)] w fun e w' => e = .returned (.int .i64 s.free) ∧ Touch (fun _ => False) w w' := by
  have HS := Lib.hid hs
  have HA := Lib.hid h
  have c1 := h.c1
  have hn := hs.n64
  have hb := hs.b
  have hlen := hL_free hs
  have HE := Lib.hid hlen
  have hle := hL_le s 0
  clear hs h hlen
  go_enter Tryd.func32, Tryd.ntmps32
  go_wp2_with fail
  go_region_held3 (fun w' => w'.cell? ⟨q.p, 1, none⟩ = some (.int .i64 s.b))
    (first | go_keep | assumption)
    (((go_at_call 33; (with_reducible refine (rlist_any q s 0 _ HS.out HA.out.drew).mono ?_); intro e w7 hg; obtain ⟨v, rfl, ho, ht⟩ := hg; obtain ⟨A, cap, rfl⟩ := own_form ho; have d1 := ht.some (HA.out.drew.c1) id; have H7 := Lib.hid (And.intro ho ht.from_drew); clear ho ht)))
  all_goals
    go_wp2_with fail
    go_ret
    exact ⟨ret_int (by rw [IntKind.wrap_i64]; have := HE.out; omega), H7.out.2⟩

end Go.Proofs.YtfkmjepbckafdaaDoor
