/-
  The reference's Take, Give, Settle, Reserve, Release; Same.
-/
import Derived.Test.YtfkmjepbckafdaaDoorWR
namespace Go.Proofs.YtfkmjepbckafdaaDoor
open Go.RowKit

attribute [local go_sem ↓] Go.wp_at_zero Go.wp_at_succ

theorem RAt.drewN {q : RLoc} {s : St} {w : World} (h : RAt q s w) (n : Nat) : RAt q s (w.drewN n) := h.touch (S := fun _ => False) ((Touch.refl _ w).drewN n) id id
/-- A store of a state. -/
theorem RAt.set {q : RLoc} {s s' : St} {w : World} (h : RAt q s w) (hn : s'.n = s.n) (hb : s'.b = s.b) {j : Nat} (hj : j < s.n) (x : Int) (hf : ∀ i, i < s.n → heldOf s' i = if i = j then x else heldOf s i) : RAt q s' (w.setCell ⟨q.g, j, none⟩ (.int .i64 x)) := by
  refine ⟨?_, ?_, ?_, ?_, h.ne⟩
  · rw [cell_far2 h.ne.symm, hn]; exact h.c0
  · rw [cell_far2 h.ne.symm, hb]; exact h.c1
  · simpa using h.f1
  · rw [hn]; exact h.row.set hj x hf
theorem RAt.setB {q : RLoc} {s s' : St} {w : World} (h : RAt q s w) (hn : s'.n = s.n) (hf : heldOf s' = heldOf s) : RAt q s' (w.setCell ⟨q.p, 1, none⟩ (.int .i64 s'.b)) := by
  refine ⟨?_, cell_at h.c1 _, by simpa using h.f1, ?_, h.ne⟩
  · rw [cell_off (by decide), hn]; exact h.c0
  · rw [hn, hf]
    exact h.row.touch (S := fun k => k = q.p) ((Touch.refl _ w).setCell _ _ (fun _ => rfl)) (fun e => h.ne e.symm)

theorem takeS_held {s : St} (h : Ok s) (hf : s.free ≠ 0) : ∀ i, i < s.n → heldOf s.takeS i = if i = s.least then 1 else heldOf s i := fun i _ => (held_take h hf).2.2.2.2 i

theorem own_first {w : World} {base : Nat} {v : Value} {x : Nat} {r : List Nat} {l : List Nat} (h : w.ownsRow base 3 1 v l.length (ofNats l)) (hl : l = x :: r) :
    ∃ g cap, v = .slice (some ⟨g, 0, none⟩) l.length cap ∧ w.cell? ⟨g, 0, none⟩ = some (.int .i64 x) ∧ 0 < l.length := by
  subst hl
  rcases h.2 with ⟨rfl, h0⟩ | ⟨g, cap, cur, rfl, -⟩
  · simp at h0
  · exact ⟨g, cap, rfl, by rw [World.ownsRow.cellAt h 0 (by simp)]; simp [ofNats], by simp⟩

set_option maxHeartbeats 1000000 in
theorem rtake_any (q : RLoc) (s : St) (w : World) (hs : Ok s) (h : RAt q s w) :
    Calls Tryd.prog 20 #[.pointer (some ⟨q.p, 0, none⟩)] w fun e w' => e = .returned (.tuple #[.int .i64 s.takeB, .int .i64 s.takeE]) ∧ RAt q s.takeS w' ∧ Touch q.own w w' := by
  have HS := Lib.hid hs
  have HA := Lib.hid h
  have hn := hs.n64
  by_cases hf : s.free = 0
  · have e1 := held_full hf
    have E1 := Lib.hid (And.intro e1 (show s.takeB = 0 by simp [St.takeB, hf]))
    clear e1 hs h
    go_enter Tryd.func20, Tryd.ntmps20
    go_wp2_with fail
    refine (rfree_any q s _ HS.out HA.out).mono ?_
    rintro e w1 ⟨rfl, ht⟩
    rw [hf]
    have H1 := Lib.hid (And.intro (HA.out.touch ht id id) (ht.mono (T := q.own) (fun _ _ h => h.elim)))
    clear ht
    go_wp2_with fail
    go_ret2
    exact ⟨by rw [E1.out.1.1, E1.out.2]; rfl, by rw [E1.out.1.2]; exact H1.out.1, H1.out.2⟩
  · obtain ⟨r, hr⟩ := hL_least hs hf
    have HR := Lib.hid hr
    have hfr : (0 : Int) < s.free := by omega
    have hl := (least_spec hs hf).1
    have E1 := Lib.hid (And.intro (show s.takeB = s.least by simp [St.takeB, hf]) (And.intro (show s.takeE = 0 by simp [St.takeE, hf]) (takeS_held hs hf)))
    clear hr hs h hf
    go_enter Tryd.func20, Tryd.ntmps20
    go_wp2_with fail
    refine (rfree_any q s _ HS.out HA.out).mono ?_
    rintro e w1 ⟨rfl, ht⟩
    have H1 := Lib.hid (And.intro (HA.out.touch ht id id) ht)
    clear ht
    go_wp2_with fail
    refine (rlist_any q s 0 _ HS.out H1.out.1).mono ?_
    intro e w2 hg
    obtain ⟨v, rfl, ho, ht⟩ := hg
    obtain ⟨g, cap, rfl, c0, hpos⟩ := own_first ho HR.out
    have hA := H1.out.1.touch ht id id
    have H2 := Lib.hid (And.intro hA (H1.out.2.trans ht (fun _ _ h => h.elim id id)))
    have d0 := hA.c0
    have d1 := hA.row.cell _ hl
    have d2 := hA.row.soft _ hl
    clear ho ht hA
    go_wp2_with fail
    go_ret2
    exact ⟨by rw [E1.out.1, E1.out.2.1]; rfl, H2.out.1.set (n_take s) (b_take s) hl 1 E1.out.2.2, (H2.out.2.mono (fun _ _ h => h.elim)).setCell _ _ (fun _ => .inr rfl)⟩

set_option maxHeartbeats 1000000 in
theorem rgive_any (q : RLoc) (s : St) (b : Int) (w : World) (hs : Ok s) (h : RAt q s w) :
    Calls Tryd.prog 21 #[.pointer (some ⟨q.p, 0, none⟩), .int .i64 b] w fun e w' => e = .returned (.int .i64 (s.giveE b)) ∧ RAt q (s.giveS b) w' ∧ Touch q.own w w' := by
  have HA := Lib.hid h
  have d0 := h.c0
  have hn := hs.n64
  by_cases h1 : b < 0
  · have E1 : Hid (s.giveE b = 1) := Lib.hid (by simp [St.giveE, h1])
    clear h hs
    go_enter Tryd.func21, Tryd.ntmps21
    go_wp2_with fail
    go_ret
    refine ⟨ret_int E1.out.symm, ?_, Touch.refl _ _⟩
    simp only [St.giveS, E1.out]; exact HA.out
  · by_cases h2 : (s.n : Int) ≤ b
    · have E1 : Hid (s.giveE b = 1) := Lib.hid (by simp [St.giveE, h2])
      clear h hs
      go_enter Tryd.func21, Tryd.ntmps21
      go_wp2_with fail
      go_ret
      refine ⟨ret_int E1.out.symm, ?_, Touch.refl _ _⟩
      simp only [St.giveS, E1.out]; exact HA.out
    · obtain ⟨m, rfl⟩ : ∃ m : Nat, b = m := ⟨b.toNat, by omega⟩
      have hm : m < s.n := by omega
      have d1 := h.row.cell m hm
      have d2 := h.row.soft m hm
      rcases held_give hs hm with ⟨e1, e2, e3⟩ | ⟨e1, e2, e3⟩
      · rw [e1] at d1
        have E := Lib.hid (And.intro e2 e3)
        clear e1 e2 e3 h hs
        go_enter Tryd.func21, Tryd.ntmps21
        go_wp2_with fail
        go_ret
        exact ⟨ret_int E.out.1.symm, HA.out.set (n_give s m) (b_give s m) hm 2 (fun i _ => E.out.2 i), (Touch.refl _ w).setCell _ _ (fun _ => .inr rfl)⟩
      · have hb : (heldOf s m != 1) = true := by simp [e1]
        have E := Lib.hid (And.intro e2 e3)
        clear e1 e2 e3 h hs
        go_enter Tryd.func21, Tryd.ntmps21
        go_wp2_with fail
        go_ret
        exact ⟨ret_int E.out.1.symm, by rw [E.out.2]; exact HA.out, Touch.refl _ _⟩

set_option maxHeartbeats 1000000 in
theorem rreserve_any (q : RLoc) (s : St) (k : Int) (w : World) (hs : Ok s) (h : RAt q s w) :
    Calls Tryd.prog 23 #[.pointer (some ⟨q.p, 0, none⟩), .int .i64 k] w fun e w' => e = .returned (.int .i64 (s.reserveE k)) ∧ RAt q (s.reserveS k) w' ∧ Touch q.own w w' := by
  have HS := Lib.hid hs
  have HA := Lib.hid h
  have hn := hs.n64
  have hb := hs.b
  clear h hs
  by_cases h1 : k < 0
  · have E1 : Hid (s.reserveE k = 1) := Lib.hid (by simp [St.reserveE, h1])
    go_enter Tryd.func23, Tryd.ntmps23
    go_wp2_with fail
    go_ret
    refine ⟨ret_int E1.out.symm, ?_, Touch.refl _ _⟩
    simp only [St.reserveS, E1.out]; exact HA.out
  · by_cases h2 : (s.free : Int) < k
    · have E1 : Hid (s.reserveE k = 5) := Lib.hid (by simp [St.reserveE, h1, h2])
      go_enter Tryd.func23, Tryd.ntmps23
      go_wp2_with fail
      refine (rfree_any q s _ HS.out HA.out).mono ?_
      rintro e w1 ⟨rfl, ht⟩
      have H1 := Lib.hid (And.intro (HA.out.touch ht id id) (ht.mono (T := q.own) (fun _ _ h => h.elim)))
      clear ht
      go_wp2_with fail
      go_ret
      refine ⟨ret_int E1.out.symm, ?_, H1.out.2⟩
      simp only [St.reserveS, E1.out]; exact H1.out.1
    · have E1 : Hid (s.reserveE k = 0) := Lib.hid (by simp [St.reserveE, h1, h2])
      obtain ⟨m, rfl⟩ : ∃ m : Nat, k = m := ⟨k.toNat, by omega⟩
      have hfr : s.free ≤ 64 := by unfold St.free; omega
      go_enter Tryd.func23, Tryd.ntmps23
      go_wp2_with fail
      refine (rfree_any q s _ HS.out HA.out).mono ?_
      rintro e w1 ⟨rfl, ht⟩
      have hA := HA.out.touch ht id id
      have H1 := Lib.hid (And.intro hA (ht.mono (T := q.own) (fun _ _ h => h.elim)))
      have d0 := hA.c1
      have d1 := hA.f1
      clear ht hA
      go_wp2_with fail
      go_ret
      refine ⟨ret_int E1.out.symm, ?_, H1.out.2.setCell _ _ (fun _ => .inl rfl)⟩
      have hh := H1.out.1.setB (s' := s.reserveS m) (n_reserve s m) (held_reserve s m)
      have e2 : (s.reserveS m).b = s.b + m := by unfold St.reserveS; rw [if_pos E1.out]; simp
      rw [e2] at hh
      exact hh

set_option maxHeartbeats 1000000 in
theorem rrelease_any (q : RLoc) (s : St) (k : Int) (w : World) (hs : Ok s) (h : RAt q s w) :
    Calls Tryd.prog 24 #[.pointer (some ⟨q.p, 0, none⟩), .int .i64 k] w fun e w' => e = .returned (.int .i64 (s.releaseE k)) ∧ RAt q (s.releaseS k) w' ∧ Touch q.own w w' := by
  have HA := Lib.hid h
  have d0 := h.c1
  have d1 := h.f1
  have hn := hs.n64
  have hb := hs.b
  clear h hs
  by_cases h1 : k < 0
  · have E1 : Hid (s.releaseE k = 1) := Lib.hid (by simp [St.releaseE, h1])
    go_enter Tryd.func24, Tryd.ntmps24
    go_wp2_with fail
    go_ret
    refine ⟨ret_int E1.out.symm, ?_, Touch.refl _ _⟩
    simp only [St.releaseS, E1.out]; exact HA.out
  · by_cases h2 : (s.b : Int) < k
    · have E1 : Hid (s.releaseE k = 1) := Lib.hid (by simp [St.releaseE, h2])
      go_enter Tryd.func24, Tryd.ntmps24
      go_wp2_with fail
      go_ret
      refine ⟨ret_int E1.out.symm, ?_, Touch.refl _ _⟩
      simp only [St.releaseS, E1.out]; exact HA.out
    · have E1 : Hid (s.releaseE k = 0) := Lib.hid (by simp [St.releaseE, h1, h2])
      obtain ⟨m, rfl⟩ : ∃ m : Nat, k = m := ⟨k.toNat, by omega⟩
      go_enter Tryd.func24, Tryd.ntmps24
      go_wp2_with fail
      go_ret
      refine ⟨ret_int E1.out.symm, ?_, (Touch.refl _ w).setCell _ _ (fun _ => .inl rfl)⟩
      have hh := HA.out.setB (s' := s.releaseS m) (n_release s m) (held_release s m)
      have e2 : (((s.releaseS m).b : Nat) : Int) = s.b - m := by unfold St.releaseS; rw [if_pos E1.out]; simp; omega
      rw [e2] at hh
      exact hh

/-- After some of the leaving ones are settled. -/
structure Sett (q : RLoc) (s : St) (j : Nat) (w : World) : Prop where
  c0 : w.cell? ⟨q.p, 0, none⟩ = some (.slice (some ⟨q.g, 0, none⟩) s.n s.n)
  c1 : w.cell? ⟨q.p, 1, none⟩ = some (.int .i64 s.b)
  f1 : w.frozen? ⟨q.p, 1, none⟩ = false
  row : Cells q.g s.n (fun i => if heldOf s i = 2 ∧ i ∈ (hL s 2).take j then 0 else heldOf s i) w
  ne : q.p ≠ q.g
theorem Sett.start {q : RLoc} {s : St} {w : World} (h : RAt q s w) : Sett q s 0 w := ⟨h.c0, h.c1, h.f1, by simpa using h.row, h.ne⟩
theorem hL_mem {s : St} {k : Int} {x : Nat} (h : x ∈ hL s k) : x < s.n ∧ heldOf s x = k := by
  unfold hL bitsN at h; simpa using h
theorem hL_mem' {s : St} {k : Int} {x : Nat} (h : x < s.n) (hk : heldOf s x = k) : x ∈ hL s k := by
  unfold hL bitsN; simp [h, hk]
theorem Sett.step {q : RLoc} {s : St} {j : Nat} {w : World} (h : Sett q s j w) (hj : j < (hL s 2).length) : Sett q s (j + 1) (w.setCell ⟨q.g, (hL s 2).getD j 0, none⟩ (.int .i64 0)) := by
  have hm : (hL s 2)[j] ∈ hL s 2 := List.getElem_mem hj
  obtain ⟨h1, h2⟩ := hL_mem hm
  have e : (hL s 2).getD j 0 = (hL s 2)[j] := by simp [List.getD, hj]
  rw [e]
  refine ⟨?_, ?_, by simpa using h.f1, ?_, h.ne⟩
  · rw [cell_far2 h.ne.symm]; exact h.c0
  · rw [cell_far2 h.ne.symm]; exact h.c1
  · refine h.row.set h1 0 (fun i hi => ?_)
    have et : (hL s 2).take (j + 1) = (hL s 2).take j ++ [(hL s 2)[j]] := by rw [List.take_add_one]; simp [List.getElem?_eq_getElem hj]
    by_cases e2 : i = (hL s 2)[j]
    · rw [if_pos e2, if_pos ⟨by rw [e2]; exact h2, by rw [et, e2]; exact List.mem_append_right _ (List.mem_singleton.2 rfl)⟩]
    · simp only [et, List.mem_append, List.mem_singleton, e2, or_false, if_false]
theorem Sett.fin {q : RLoc} {s : St} {w : World} (h : Sett q s (hL s 2).length w) : RAt q s.settleS w := by
  refine ⟨h.c0, h.c1, h.f1, ⟨h.row.lt, fun i hi => ?_, h.row.soft⟩, h.ne⟩
  rw [h.row.cell i hi, held_settle, List.take_length]
  by_cases e : heldOf s i = 2
  · rw [if_pos ⟨e, hL_mem' hi e⟩, if_pos e]
  · rw [if_neg (fun hh => e hh.1), if_neg e]

theorem own_read {w : World} {base : Nat} {l : List Nat} {g cap : Nat} (h : w.ownsRow base 3 1 (.slice (some ⟨g, 0, none⟩) l.length cap) l.length (ofNats l)) {j : Nat} (hj : j < l.length) : w.cell? ⟨g, j, none⟩ = some (.int .i64 ((l.getD j 0 : Nat) : Int)) := by
  rw [World.ownsRow.cellAt h j (by omega)]
  simp [ofNats, List.getD, hj]

set_option maxHeartbeats 1000000 in
theorem rsettle_any (q : RLoc) (s : St) (w : World) (hs : Ok s) (h : RAt q s w) :
    Calls Tryd.prog 22 #[.pointer (some ⟨q.p, 0, none⟩)] w fun e w' => e = .returned (.int .i64 (Bt.cnt s.L)) ∧ RAt q s.settleS w' ∧ Touch q.own w w' := by
  have HS := Lib.hid hs
  have HA := Lib.hid h
  have hn := hs.n64
  have hlen : (hL s 2).length = Bt.cnt s.L := by rw [hL_leaving hs]; rfl
  have HE := Lib.hid hlen
  have hle := hL_le s 2
  clear hs h hlen
  go_enter Tryd.func22, Tryd.ntmps22
  go_wp2_with fail
  refine (rlist_any q s 2 _ HS.out HA.out).mono ?_
  intro e w1 hg
  obtain ⟨v, rfl, ho, ht⟩ := hg
  obtain ⟨A, cap, rfl⟩ := own_form ho
  have H1 := Lib.hid (And.intro ho (And.intro ht (Sett.start (HA.out.touch ht id id))))
  clear ho ht
  go_wp2_with fail
  go_loopw [4] (fun i wr => ∃ j : Nat, j ≤ (hL s 2).length ∧ i = .int .i64 j ∧ Sett q s j wr ∧ Touch (fun k => k = q.g) w1 wr) (fun i _ => (hL s 2).length - (intOf i).toNat)
  case atStart => exact ⟨0, by omega, rfl, H1.out.2.2, Touch.refl _ _⟩
  case round =>
    obtain ⟨j, hj, rfl, hh, ht⟩ := hrel
    have H := Lib.hid (And.intro hh ht)
    clear hh ht
    by_cases hlt : j < (hL s 2).length
    · have ho := H1.out.1
      obtain ⟨g, hg⟩ : ∃ g, A = some ⟨g, 0, none⟩ := by
        rcases ho.2 with ⟨h1, h2⟩ | ⟨g, cap', cur, h1, -⟩
        · omega
        · injection h1 with h1; exact ⟨g, h1⟩
      subst hg
      have hgw : w.heap.size ≤ g := (ho.lt g rfl).1
      have hgq : q.g < w.heap.size := HA.out.lt.2
      have d0 : wr.cell? ⟨g, j, none⟩ = some (.int .i64 (((hL s 2).getD j 0 : Nat) : Int)) := H.out.2.some (own_read ho hlt) (by show ¬ g = q.g; omega)
      have d1 := H.out.1.c0
      have hx : (hL s 2).getD j 0 < s.n := by
        have e : (hL s 2).getD j 0 = (hL s 2)[j] := by simp [List.getD, hlt]
        rw [e]; exact (hL_mem (List.getElem_mem hlt)).1
      have d2 := H.out.1.row.cell _ hx
      have d3 := H.out.1.row.soft _ hx
      have R := Lib.hid (H.out.1.step hlt)
      have n1 : q.g ≠ q.p := H.out.1.ne.symm
      have n2 : q.g ≠ g := by omega
      clear ho hgw hgq
      generalize (hL s 2).getD j 0 = x at d0 hx d2 d3 R
      generalize (if heldOf s x = 2 ∧ x ∈ List.take j (hL s 2) then (0 : Int) else heldOf s x) = y at d2
      go_wp2_with fail
      go_region_held3 (fun w' => w'.cell? ⟨q.p, 0, none⟩ = some (.slice (some ⟨q.g, 0, none⟩) s.n s.n) ∧ w'.cell? ⟨g, j, none⟩ = some (.int .i64 x))
        (first | go_keep | exact ⟨(cell_far2 (w := wr) n1).trans d1, (cell_far2 (w := wr) n2).trans d0⟩)
        (fail)
      go_wp2_with fail
      go_roundw
      case rel => exact ⟨j + 1, by omega, by go_num, ⟨R.out.c0, R.out.c1, R.out.f1, ⟨R.out.row.lt, R.out.row.cell, R.out.row.soft⟩, R.out.ne⟩, (H.out.2.setCell _ _ (fun _ => rfl)).drew⟩
      case measure => simp [intOf]; omega
    · obtain rfl : j = (hL s 2).length := by omega
      go_wp2_with fail
      go_ret
      refine ⟨ret_int (by rw [HE.out]), H.out.1.fin, (H1.out.2.1.trans H.out.2 (fun k _ h => h.elim False.elim (fun e => .inr e)))⟩

end Go.Proofs.YtfkmjepbckafdaaDoor
