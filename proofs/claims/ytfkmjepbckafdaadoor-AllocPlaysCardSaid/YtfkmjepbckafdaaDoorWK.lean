/-
  AllocHolds: what is held, as the state says.
-/
import Derived.Test.YtfkmjepbckafdaaDoorWJ
namespace Go.Proofs.YtfkmjepbckafdaaDoor
open Go.RowKit

def heldOf (s : St) (i : Nat) : Int := if s.U.testBit i then 1 else if s.L.testBit i then 2 else 0

theorem held_take {s : St} (h : Ok s) (hf : s.free ≠ 0) : s.least < s.n ∧ heldOf s s.least = 0 ∧ s.takeB = s.least ∧ s.takeE = 0 ∧ ∀ i, heldOf s.takeS i = if i = s.least then 1 else heldOf s i := by
  obtain ⟨h1, h2, h3, -⟩ := least_spec h hf
  refine ⟨h1, by simp [heldOf, h2, h3], by simp [St.takeB, hf], by simp [St.takeE, hf], fun i => ?_⟩
  simp only [heldOf, St.takeS, hf, if_false, Bt.or_bit]
  by_cases e : i = s.least
  · subst e; simp
  · simp [e, Ne.symm e]
theorem held_full {s : St} (hf : s.free = 0) : s.takeE = 5 ∧ s.takeS = s := ⟨by simp [St.takeE, hf], by simp [St.takeS, hf]⟩
theorem held_give {s : St} (h : Ok s) {k : Nat} (hk : k < s.n) : (heldOf s k = 1 ∧ s.giveE k = 0 ∧ ∀ i, heldOf (s.giveS k) i = if i = k then 2 else heldOf s i) ∨ (heldOf s k ≠ 1 ∧ s.giveE k = 7 ∧ s.giveS k = s) := by
  have h64 : k < 64 := by have := h.n64; omega
  have hx := pow_le64 h.U h.n64
  have e0 : ¬ ((k : Int) < 0 ∨ (s.n : Int) ≤ k) := by omega
  cases hU : s.U.testBit k with
  | true =>
    left
    have e1 : s.giveE k = 0 := by simp only [St.giveE, e0, if_false, Int.toNat_natCast, hU, if_true]
    refine ⟨by simp [heldOf, hU], e1, fun i => ?_⟩
    simp only [heldOf, St.giveS, e1, if_true, Bt.or_bit, Bt.clear_bit h64 hx, Int.toNat_natCast]
    by_cases e : i = k
    · subst e; simp
    · simp [e, Ne.symm e]
  | false =>
    right
    have e1 : s.giveE k = 7 := by simp only [St.giveE, e0, if_false, Int.toNat_natCast, hU]; rfl
    refine ⟨?_, e1, by unfold St.giveS; rw [if_neg (by rw [e1]; decide)]⟩
    unfold heldOf
    rw [hU]
    cases s.L.testBit k <;> simp
theorem held_settle (s : St) (i : Nat) : heldOf s.settleS i = if heldOf s i = 2 then 0 else heldOf s i := by
  simp only [heldOf, St.settleS, Nat.zero_testBit]
  by_cases hu : s.U.testBit i = true
  · simp [hu]
  · by_cases hl : s.L.testBit i = true
    · simp [hu, hl]
    · simp [hu, hl]
theorem held_reserve (s : St) (k : Int) : heldOf (s.reserveS k) = heldOf s := by funext i; unfold St.reserveS; split <;> rfl
theorem held_release (s : St) (k : Int) : heldOf (s.releaseS k) = heldOf s := by funext i; unfold St.releaseS; split <;> rfl

def isFree (s : St) (i : Nat) : Bool := decide (heldOf s i = 0)
theorem held_count {s : St} (h : Ok s) : Bt.cntP s.n (isFree s) = s.free + s.b := by
  have e := Bt.cntP_split (n := s.n) (p := s.U.testBit) (q := s.L.testBit) (r := isFree s) (fun i _ => by
    have := h.UL i
    unfold isFree heldOf
    cases hu : s.U.testBit i <;> cases hl : s.L.testBit i <;> simp_all)
  rw [← Bt.cnt_below h.U h.n64, ← Bt.cnt_below h.L h.n64] at e
  have := h.b
  unfold St.free
  omega

theorem n_take (s : St) : s.takeS.n = s.n := by unfold St.takeS; split <;> rfl
theorem n_give (s : St) (k : Int) : (s.giveS k).n = s.n := by unfold St.giveS; split <;> rfl
theorem n_reserve (s : St) (k : Int) : (s.reserveS k).n = s.n := by unfold St.reserveS; split <;> rfl
theorem n_release (s : St) (k : Int) : (s.releaseS k).n = s.n := by unfold St.releaseS; split <;> rfl
theorem b_take (s : St) : s.takeS.b = s.b := by unfold St.takeS; split <;> rfl
theorem b_give (s : St) (k : Int) : (s.giveS k).b = s.b := by unfold St.giveS; split <;> rfl

/-- A row of numbers of the call's own. -/
structure Cells (g n : Nat) (f : Nat → Int) (w : World) : Prop where
  lt : g < w.heap.size
  cell : ∀ j, j < n → w.cell? ⟨g, j, none⟩ = some (.int .i64 (f j))
  soft : ∀ j, j < n → w.frozen? ⟨g, j, none⟩ = false
theorem Cells.touch {g n : Nat} {f : Nat → Int} {S : Nat → Prop} {w w' : World} (h : Cells g n f w) (ht : Touch S w w') (hS : ¬ S g) : Cells g n f w' :=
  ⟨Nat.lt_of_lt_of_le h.lt ht.size, fun j hj => ht.some (h.cell j hj) hS, fun j hj => (ht.frozen (p := ⟨g, j, none⟩) h.lt hS).trans (h.soft j hj)⟩
theorem Cells.set {g n : Nat} {f : Nat → Int} {w : World} (h : Cells g n f w) {j : Nat} (hj : j < n) (x : Int) {f' : Nat → Int} (hf : ∀ i, i < n → f' i = if i = j then x else f i) : Cells g n f' (w.setCell ⟨g, j, none⟩ (.int .i64 x)) := by
  refine ⟨by simpa [World.setCell] using h.lt, fun i hi => ?_, fun i hi => by simpa using h.soft i hi⟩
  rw [hf i hi]
  by_cases e : i = j
  · subst e; rw [if_pos rfl]; exact cell_at (h.cell i hi) _
  · rw [if_neg e, cell_off (Ne.symm e)]; exact h.cell i hi

theorem Mine.set {W : World} {a : Loc} {s : St} {w : World} (h : Mine W a s w) {g : Nat} (hg : W.heap.size ≤ g) (ho : ¬ a.own g) (j : Nat) (v : Value) : Mine W a s (w.setCell ⟨g, j, none⟩ v) := by
  have ht : Touch (fun k => k = g) w (w.setCell ⟨g, j, none⟩ v) := (Touch.refl _ w).setCell _ _ (fun _ => rfl)
  refine ⟨h.p, h.u, h.l, h.ok, h.tab, h.at_.touch ht (fun e => ho (.inl e.symm)) (fun e => ho (.inr (.inl e.symm))) (fun e => ho (.inr (.inr e.symm))), h.touch.setCell _ _ (fun hh => ?_)⟩
  simp at hh; omega

theorem Tryd.info3 : (Tryd.prog.info? 3).map (fun i => (i.zero, i.size, i.bytes)) = some (some (.int .i64 0), 1, 8) := by kernel_rfl
theorem make22 (n : Nat) (hn : n ≤ 100) (w : World) : (Instr.makeSlice 22 (.int .i64 n) (.int .i64 n)).run Tryd.prog w = .ok (.slice (some ⟨w.heap.size, 0, none⟩) n n) (w.alloc (.cells (madeCells #[.int .i64 0] n) 3)) := by
  obtain ⟨i0, hi, hz0, hz1, hz2⟩ := info_parts Tryd.info3
  have h := run_makeSlice (P := Tryd.prog) (w := w) 22 3 i0 (.int .i64 0) Tryd.underlying22 hi hz0 .i64 .i64 n n (by omega) (by omega) (by rw [hz1]; simp; omega) (by rw [hz2]; omega) (by omega)
  rw [h, hz1]
  simp
  rfl
theorem made_get (v : Value) (n j : Nat) (hj : j < n) : (madeCells #[v] n)[j]? = some v := by
  simp [madeCells, hj, Nat.mod_one]
theorem cells_made (n : Nat) (w : World) : Cells w.heap.size n (fun _ => 0) (w.alloc (.cells (madeCells #[.int .i64 0] n) 3)) :=
  ⟨by simp, fun j hj => by rw [World.cell?_alloc_at _ _ _ _ rfl]; exact made_get _ _ _ hj, fun j _ => World.frozen?_alloc_at _ _ _ _ rfl⟩

end Go.Proofs.YtfkmjepbckafdaaDoor
