/-
  flash: last, Write, Flush.
-/
import Derived.Test.YtcpelncjagaadaaGreatDoorWR
namespace Go.Proofs.YtcpelncjagaadaaGreatDoor
open Go.RowKit

attribute [local go_sem ↓] Go.wp_at_zero Go.wp_at_succ
variable {α : Type}

theorem SecsAt.cell [Inhabited Bs] {enc : α → List Nat} {w : World} {g n : Nat} {s : Nat → Sec α} (h : SecsAt enc w g n s) {j : Nat} (hj : j < n) : ∃ v, w.cell? ⟨g, j * 2, none⟩ = some v ∧ SecV enc w v (s j).b ∧ w.cell? ⟨g, j * 2 + 1, none⟩ = some (.bool (s j).torn) ∧ (∀ i, w.frozen? ⟨g, i, none⟩ = false) := by
  obtain ⟨cs, hb, hs, hc⟩ := h
  obtain ⟨v, h1, h2, h3⟩ := hc j hj
  exact ⟨v, by rw [hb.cell]; exact h1, h2, by rw [hb.cell]; exact h3, hb.soft⟩
theorem SecsAt.lt [Inhabited Bs] {enc : α → List Nat} {w : World} {g n : Nat} {s : Nat → Sec α} (h : SecsAt enc w g n s) : g < w.heap.size := by
  obtain ⟨cs, hb, -⟩ := h
  exact hb.lt
theorem SecsAt.tear [Inhabited Bs] {enc : α → List Nat} {w : World} {g n : Nat} {s : Nat → Sec α} (h : SecsAt enc w g n s) (a : Nat) (t : Bool) :
    SecsAt enc (w.setCell ⟨g, a * 2 + 1, none⟩ (.bool t)) g n (upd s a ⟨(s a).b, t⟩) ∧ Kept [some 81] w (w.setCell ⟨g, a * 2 + 1, none⟩ (.bool t)) := by
  obtain ⟨cs, hb, hs, hc⟩ := h
  have hk : Kept [some 81] w (w.setCell ⟨g, a * 2 + 1, none⟩ (.bool t)) := .store hb (by simp) _ _
  refine ⟨⟨_, hb.set _ _, by simpa using hs, fun j hj => ?_⟩, hk⟩
  obtain ⟨v, h1, h2, h3⟩ := hc j hj
  refine ⟨v, ?_, ?_, ?_⟩
  · rw [Array.getElem?_setIfInBounds, if_neg (by omega)]; exact h1
  · unfold upd; split
    · rename_i e; subst e; exact h2.kept hk (by decide)
    · exact h2.kept hk (by decide)
  · rw [Array.getElem?_setIfInBounds]
    unfold upd
    by_cases e : j = a
    · subst e; simp; omega
    · rw [if_neg (by omega)]; simp [e]; exact h3
theorem SecsAt.put [Inhabited Bs] {enc : α → List Nat} {w : World} {g n : Nat} {s : Nat → Sec α} {v : Value} {r : α} (h : SecsAt enc w g n s) (a : Nat) (hv : Bytes w v (enc r)) :
    SecsAt enc (w.setCell ⟨g, a * 2, none⟩ v) g n (upd s a ⟨some r, (s a).torn⟩) ∧ Kept [some 81] w (w.setCell ⟨g, a * 2, none⟩ v) := by
  obtain ⟨cs, hb, hs, hc⟩ := h
  have hk : Kept [some 81] w (w.setCell ⟨g, a * 2, none⟩ v) := .store hb (by simp) _ _
  refine ⟨⟨_, hb.set _ _, by simpa using hs, fun j hj => ?_⟩, hk⟩
  obtain ⟨u, h1, h2, h3⟩ := hc j hj
  by_cases e : j = a
  · subst e
    refine ⟨v, ?_, ?_, ?_⟩
    · rw [Array.getElem?_setIfInBounds]; simp; omega
    · simp [upd]; exact hv.kept hk (by decide)
    · rw [Array.getElem?_setIfInBounds, if_neg (by omega)]; simpa [upd] using h3
  · refine ⟨u, ?_, ?_, ?_⟩
    · rw [Array.getElem?_setIfInBounds, if_neg (by omega)]; exact h1
    · simp only [upd, if_neg e]; exact h2.kept hk (by decide)
    · rw [Array.getElem?_setIfInBounds, if_neg (by omega)]; simp only [upd, if_neg e]; exact h3
theorem upd_upd (s : Nat → Sec α) (a : Nat) (x y : Sec α) : upd (upd s a x) a y = upd s a y := by
  funext j; unfold upd; split <;> rfl
theorem upd_at (s : Nat → Sec α) (a : Nat) (x : Sec α) : upd s a x a = x := by simp [upd]
theorem SecsAt.store [Inhabited Bs] {enc : α → List Nat} {w : World} {g n : Nat} {s : Nat → Sec α} {v : Value} {r : α} (h : SecsAt enc w g n s) (a : Nat) (hv : Bytes w v (enc r)) :
    SecsAt enc ((w.setCell ⟨g, a * 2, none⟩ v).setCell ⟨g, a * 2 + 1, none⟩ (.bool false)) g n (upd s a ⟨some r, false⟩) ∧ Kept [some 81] w ((w.setCell ⟨g, a * 2, none⟩ v).setCell ⟨g, a * 2 + 1, none⟩ (.bool false)) := by
  obtain ⟨h1, k1⟩ := h.put a hv
  obtain ⟨h2, k2⟩ := h1.tear a false
  rw [upd_upd, upd_at] at h2
  exact ⟨h2, k1.trans k2⟩

set_option maxHeartbeats 2000000 in
theorem last_any [Inhabited Bs] {enc : α → List Nat} (p g n : Nat) (s : Nat → Sec α) (u1 u2 u3 u4 : Value) (a : Nat) (v : Value) (r : α) (w : World) (hb : Blk w p 51 #[.slice (some ⟨g, 0, none⟩) n n, u1, u2, u3, u4]) (hs : SecsAt enc w g n s) (hv : Bytes w v (enc r)) (ha : a < n) :
    Calls Tryz.prog 30 #[.pointer (some ⟨p, 0, none⟩), .agg #[.int .i64 a, v]] w fun e w' => e = .returned (.tuple #[]) ∧ SecsAt enc w' g n (upd s a ⟨some r, false⟩) ∧ Kept [some 81] w w' := by
  have c0 := hb.cell 0
  simp only [List.getElem?_toArray, List.getElem?_cons_zero] at c0
  obtain ⟨v0, d0, -, d1, df⟩ := hs.cell ha
  have f0 := df (a * 2)
  have f1 := df (a * 2 + 1)
  have hg := hs.lt
  have hi1 : (0 : Int) ≤ a := by omega
  have hi2 : (a : Int) < n := by omega
  have hp := hb.lt
  have hv1 := own_form hv
  obtain ⟨A, cap, rfl⟩ := hv1
  have hk : Fresh w (w.alloc (.cells #[.int .i64 a, .slice A (enc r).length cap] 78)) := (Touch.refl _ w).alloc _
  have k0 := hk.val c0 id
  have b0 : (w.alloc (.cells #[.int .i64 a, .slice A (enc r).length cap] 78)).cell? ⟨w.heap.size, 0, none⟩ = some (.int .i64 a) := by rw [World.cell?_alloc_at _ _ _ _ rfl]; rfl
  have b1 : (w.alloc (.cells #[.int .i64 a, .slice A (enc r).length cap] 78)).cell? ⟨w.heap.size, 1, none⟩ = some (.slice A (enc r).length cap) := by rw [World.cell?_alloc_at _ _ _ _ rfl]; rfl
  have e0 := hk.val d0 id
  have e1 := hk.val d1 id
  have g0 := (hk.frozen (p := ⟨g, a * 2, none⟩) hg id).trans f0
  have g1 := (hk.frozen (p := ⟨g, a * 2 + 1, none⟩) hg id).trans f1
  have HK := Lib.hid (And.intro hk (And.intro (hs.kept (T := []) (.of_fresh hk) (by simp) (by simp)) (hv.kept (T := []) (.of_fresh hk) (by simp))))
  obtain ⟨cs, hgb, -⟩ := hs
  have n1 : g ≠ p := Blk.ne hgb.1 hb (by decide)
  have n2 : g ≠ w.heap.size := by omega
  clear hb hv df hk c0 d0 d1 f0 f1 hgb
  go_enter Tryz.func30, Tryz.ntmps30
  go_wp2_with fail
  generalize w.alloc (.cells #[.int .i64 a, .slice A (enc r).length cap] 78) = w1 at *
  generalize w.heap.size = bx at *
  go_region_held3 (fun w' => w'.cell? ⟨p, 0, none⟩ = some (.slice (some ⟨g, 0, none⟩) n n) ∧ w'.cell? ⟨bx, 0, none⟩ = some (.int .i64 a) ∧ w'.cell? ⟨bx, 1, none⟩ = some (.slice A (enc r).length cap))
    (first | go_keep | exact ⟨(cell_far2 n1).trans ((cell_far2 n1).trans k0), (cell_far2 n2).trans ((cell_far2 n2).trans b0), (cell_far2 n2).trans ((cell_far2 n2).trans b1)⟩)
    (fail)
  go_wp2_with fail
  obtain ⟨hk, hs, hv⟩ := HK.out
  obtain ⟨h1, h2⟩ := hs.store a hv
  exact bodyPost_end (results_none rfl _ _ _) rfl ⟨rfl, h1.kept (T := []) (.of_fresh (Touch.refl _ _).drew) (by simp) (by simp), ((Kept.of_fresh hk).trans h2).drew⟩

def Dev.arm (D : Dev α) (n : Nat) : Dev α := { D with armed := true, left := n }
set_option maxHeartbeats 1000000 in
theorem arm_any [Inhabited Bs] {enc : α → List Nat} (p : Nat) (D : Dev α) (k : Nat) (w : World) (h : DevAt enc w p D) :
    Calls Tryz.prog 10 #[.pointer (some ⟨p, 0, none⟩), .int .i64 k] w fun e w' => e = .returned (.tuple #[]) ∧ DevAt enc w' p (D.arm k) ∧ Kept [some 51] w w' := by
  obtain ⟨n, s, waits, off, armed, left⟩ := D
  obtain ⟨g, wv, hb, hs, hw⟩ := h
  simp only at hb hs hw
  have c3 := hb.cell 3
  have c4 := hb.cell 4
  have f3 := hb.soft 3
  have f4 := hb.soft 4
  simp only [List.getElem?_toArray, List.getElem?_cons_zero, List.getElem?_cons_succ] at c3 c4
  have t1 : decide ((k : Int) ≥ 0) = true := by simp
  have HH := Lib.hid (And.intro hb (And.intro hs hw))
  clear hb hs hw
  go_enter Tryz.func10, Tryz.ntmps10
  go_wp2_with fail
  obtain ⟨h1, h2, h3, h4⟩ := DevAt.turn (off' := off) (armed' := true) (left' := left) HH.out.1 HH.out.2.1 HH.out.2.2 (i := 3) (v := .bool true) rfl
  obtain ⟨h1, h2, h3, h5⟩ := DevAt.turn (off' := off) (armed' := true) (left' := k) h1 h2 h3 (i := 4) (v := .int .i64 k) rfl
  exact bodyPost_end (results_none rfl _ _ _) rfl ⟨rfl, ⟨g, wv, h1, h2, h3⟩, h4.trans h5⟩

def Dev.write (D : Dev α) (a : Nat) (r : α) : Int × Dev α :=
  if D.spend.1 = true then (0, { D.spend.2 with waits := D.spend.2.waits ++ [(a, r)] }) else (4, D.spend.2)

theorem WaitsAt.more [Inhabited Bs] {enc : α → List Nat} {w w' : World} {wv' v : Value} {l : List (Nat × α)} {a : Nat} {r : α} {xs : List Value}
    (hc : ∀ j (h : j < l.length), ∃ v, xs[j * 2]? = some (.int .i64 (l[j]).1) ∧ xs[j * 2 + 1]? = some v ∧ Bytes w v (enc (l[j]).2)) (hx : xs.length = l.length * 2)
    (ho : w'.ownsRow lo 78 2 wv' (l.length + 1) (xs ++ [.int .i64 a, v])) (hv : Bytes w' v (enc r)) (hk : ∀ u B, Bytes w u B → Bytes w' u B) : WaitsAt enc w' wv' (l ++ [(a, r)]) := by
  refine ⟨_, by simpa using ho, fun j hj => ?_⟩
  by_cases hj' : j < l.length
  · obtain ⟨u, h1, h2, h3⟩ := hc j hj'
    refine ⟨u, ?_, ?_, ?_⟩
    · rw [List.getElem?_append_left (by omega)]; simpa [List.getElem_append_left hj'] using h1
    · rw [List.getElem?_append_left (by omega)]; exact h2
    · simpa [List.getElem_append_left hj'] using hk _ _ h3
  · obtain rfl : j = l.length := by simp at hj; omega
    refine ⟨v, ?_, ?_, ?_⟩
    · rw [← hx, List.getElem?_append_right (Nat.le_refl _)]; simp
    · rw [← hx, List.getElem?_append_right (by omega)]; simp
    · simpa using hv

end Go.Proofs.YtcpelncjagaadaaGreatDoor
