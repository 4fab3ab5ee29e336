/-
  Words: what a world keeps, own rows, bytes that a slice shows.
-/
import Derived.Test.YtcpelncjagaadaaGreatDoorRows
import Derived.WalkKit
import Derived.WalkSpells
import Derived.WalkLawsBesides
import Derived.Laws.BitsAllLaws
import Derived.Lib.Hide
import Derived.Deep.Draws
import Derived.Deep.QuietTactic
import Derived.BigQuiet
import Derived.Below
import Derived.Deep.RegionWith
import Derived.Laws.AppendOwn
import Derived.Laws.OwnMore
import Derived.Laws.MakeOwn
import Derived.Maps.AppendAt
import Derived.Deep.CutBlock
import Derived.Deep.DeepCutAuto
import Derived.Deep.RegionHeld3
import Derived.Deep.AppendLies
import Derived.Deep.DrawnRows
import Derived.Outline
namespace Go.Proofs.YtcpelncjagaadaaGreatDoor
open Go.RowKit

theorem ret_bool {a b : Bool} (h : a = b) : Ending.returned (.bool a) = .returned (.bool b) := by rw [h]
theorem ret_int {k : IntKind} {a b : Int} (h : a = b) : Ending.returned (.int k a) = .returned (.int k b) := by rw [h]

/-- All but the blocks of S is as it was. -/
structure Touch (S : Nat → Prop) (w w' : World) : Prop where
  os : w'.os = w.os
  tape : w'.tape = w.tape
  output : w'.output = w.output
  size : w.heap.size ≤ w'.heap.size
  block : ∀ k, k < w.heap.size → ¬ S k → w'.heap[k]? = w.heap[k]?

theorem Touch.refl (S : Nat → Prop) (w : World) : Touch S w w := ⟨rfl, rfl, rfl, Nat.le_refl _, fun _ _ _ => rfl⟩
theorem Touch.trans {S T R : Nat → Prop} {a b c : World} (h : Touch S a b) (h' : Touch T b c) (hR : ∀ k, k < a.heap.size → (S k ∨ T k) → R k) : Touch R a c :=
  ⟨h'.os.trans h.os, h'.tape.trans h.tape, h'.output.trans h.output, Nat.le_trans h.size h'.size, fun k hk hn =>
    (h'.block k (Nat.lt_of_lt_of_le hk h.size) (fun e => hn (hR k hk (.inr e)))).trans (h.block k hk (fun e => hn (hR k hk (.inl e))))⟩
theorem Touch.both {S : Nat → Prop} {a b c : World} (h : Touch S a b) (h' : Touch S b c) : Touch S a c := h.trans h' (fun _ _ h => h.elim id id)
theorem Touch.drewN {S : Nat → Prop} {a w : World} (h : Touch S a w) (n : Nat) : Touch S a (w.drewN n) := ⟨h.os, h.tape, h.output, h.size, h.block⟩
theorem Touch.drew {S : Nat → Prop} {a w : World} (h : Touch S a w) : Touch S a w.drew := ⟨h.os, h.tape, h.output, h.size, h.block⟩
theorem Touch.of_drew {S : Nat → Prop} {w w' : World} (h : Touch S w.drew w') : Touch S w w' := ⟨h.os, h.tape, h.output, h.size, h.block⟩
theorem Touch.of_drewN {S : Nat → Prop} {w w' : World} {n : Nat} (h : Touch S (w.drewN n) w') : Touch S w w' := ⟨h.os, h.tape, h.output, h.size, h.block⟩
theorem Touch.mono {S T : Nat → Prop} {a w : World} (h : Touch S a w) (hT : ∀ k, k < a.heap.size → S k → T k) : Touch T a w :=
  ⟨h.os, h.tape, h.output, h.size, fun k hk hn => h.block k hk (fun e => hn (hT k hk e))⟩
theorem Touch.any {T : Nat → Prop} {a w : World} (h : Touch (fun _ => False) a w) : Touch T a w := h.mono (fun _ _ h => h.elim)
theorem Touch.alloc {S : Nat → Prop} {a w : World} (h : Touch S a w) (o : Obj) : Touch S a (w.alloc o) :=
  ⟨h.os, h.tape, h.output, by simp; exact Nat.le_succ_of_le h.size, fun k hk hn => (Below.heap_alloc w o k (Nat.lt_of_lt_of_le hk h.size)).trans (h.block k hk hn)⟩
theorem Touch.setCell {S : Nat → Prop} {a w : World} (h : Touch S a w) (p : Addr) (v : Value) (hp : p.block < a.heap.size → S p.block) : Touch S a (w.setCell p v) :=
  ⟨h.os, h.tape, h.output, by simp [World.setCell]; exact h.size, fun k hk hn => (Below.heap_setCell w p v k (fun e => hn (e ▸ hp (e ▸ hk)))).trans (h.block k hk hn)⟩
theorem Touch.grown {S : Nat → Prop} {a w w' : World} {row : Option Nat} (h : Touch S a w) (hg : w.grownBy w' row) (hr : ∀ k, row = some k → k < a.heap.size → S k) : Touch S a w' :=
  ⟨hg.os.trans h.os, hg.tape.trans h.tape, hg.output.trans h.output, Nat.le_trans h.size hg.size, fun k hk hn =>
    (hg.block k (Nat.lt_of_lt_of_le hk h.size) (fun e => hn (hr k e.symm hk))).trans (h.block k hk hn)⟩
theorem Touch.of_below {w w' : World} (h : Below w.heap.size w w') : Touch (fun _ => False) w w' := ⟨h.os, h.tape, h.output, h.size, fun k hk _ => h.block k hk⟩
theorem Touch.below {w w' : World} (h : Touch (fun _ => False) w w') : Below w.heap.size w w' := ⟨h.os, h.tape, h.output, h.size, fun k hk => h.block k hk id⟩
theorem Touch.cell {S : Nat → Prop} {w w' : World} (h : Touch S w w') {p : Addr} (hp : p.block < w.heap.size) (hn : ¬ S p.block) : w'.cell? p = w.cell? p := World.cell?_of_block (w := w) (h.block _ hp hn)
theorem Touch.frozen {S : Nat → Prop} {w w' : World} (h : Touch S w w') {p : Addr} (hp : p.block < w.heap.size) (hn : ¬ S p.block) : w'.frozen? p = w.frozen? p := World.frozen?_of_block (w := w) (h.block _ hp hn)
theorem Touch.val {S : Nat → Prop} {w w' : World} (h : Touch S w w') {p : Addr} {v : Value} (hc : w.cell? p = some v) (hn : ¬ S p.block) : w'.cell? p = some v := (h.cell (World.block_lt_of_cell? w p hc) hn).trans hc
theorem Touch.heap {S : Nat → Prop} {w w' : World} (h : Touch S w w') {k : Nat} {o : Obj} (hc : w.heap[k]? = Option.some o) (hn : ¬ S k) : w'.heap[k]? = Option.some o :=
  (h.block k (Array.getElem?_eq_some_iff.1 hc).1 hn).trans hc
theorem Touch.same {S : Nat → Prop} (w : World) (k : Nat) : Touch S w (w.drewN k) := (Touch.refl S w).drewN k
/-- No old block is touched. -/
abbrev Fresh (w w' : World) : Prop := Touch (fun _ => False) w w'

theorem add0 (l : Nat) : (⟨l, 0, none⟩ : Addr).add 0 = ⟨l, 0, none⟩ := rfl
theorem add_plain (g o i : Nat) : (⟨g, o, none⟩ : Addr).add i = ⟨g, o + i, none⟩ := by simp [Addr.add]
theorem cell_far {w : World} {p a : Addr} {v : Value} (h : p.block ≠ a.block) : (w.setCell p v).cell? a = w.cell? a :=
  World.cell?_of_block (w := w) (Below.heap_setCell w p v a.block h.symm)
theorem cell_far2 {w : World} {b o b' o' : Nat} {v : Value} (h : b ≠ b') : (w.setCell ⟨b, o, none⟩ v).cell? ⟨b', o', none⟩ = w.cell? ⟨b', o', none⟩ := cell_far h
theorem cell_off {w : World} {b i j : Nat} {v : Value} (h : i ≠ j) : (w.setCell ⟨b, i, none⟩ v).cell? ⟨b, j, none⟩ = w.cell? ⟨b, j, none⟩ := by
  simp only [World.cell?, World.setCell, Array.getElem?_modify, if_true]
  cases w.heap[b]? with
  | none => rfl
  | some o => cases o <;> simp [h]
theorem cell_at {w : World} {b i : Nat} {u : Value} (h : w.cell? ⟨b, i, none⟩ = some u) (v : Value) : (w.setCell ⟨b, i, none⟩ v).cell? ⟨b, i, none⟩ = some v := by
  revert h
  simp only [World.cell?, World.setCell, Array.getElem?_modify, if_true]
  cases w.heap[b]? with
  | none => simp
  | some o =>
    cases o <;> simp
    intro hi
    rw [Array.getElem?_setIfInBounds]
    simp
    obtain ⟨h1, -⟩ := Array.getElem?_eq_some_iff.1 hi
    exact h1

theorem own_form {w : World} {base n size : Nat} {e : TypeId} {v : Value} {xs : List Value} (h : w.ownsRow base e size v n xs) : ∃ A cap, v = .slice A n cap := by
  rcases h.2 with ⟨rfl, rfl⟩ | ⟨g, cap, cur, rfl, -⟩
  · exact ⟨_, _, rfl⟩
  · exact ⟨_, _, rfl⟩
theorem own_touch {S : Nat → Prop} {w w' : World} {base n size : Nat} {e : TypeId} {v : Value} {xs : List Value} (h : w.ownsRow base e size v n xs) (ht : Touch S w w') (hS : ∀ g, v.ownBlock = some g → ¬ S g) : w'.ownsRow base e size v n xs := by
  refine ⟨h.1, ?_⟩
  rcases h.2 with hn | ⟨g, cap, cur, rfl, hb, hg, rest⟩
  · exact .inl hn
  · exact .inr ⟨g, cap, cur, rfl, hb, by rw [ht.block g (Array.getElem?_eq_some_iff.1 hg).1 (hS g rfl)]; exact hg, rest⟩
theorem own_fresh {w w' : World} {base n size : Nat} {e : TypeId} {v : Value} {xs : List Value} (h : w.ownsRow base e size v n xs) (ht : Fresh w w') : w'.ownsRow base e size v n xs := own_touch h ht (fun _ _ h => h)
theorem own_base {w : World} {b b' n size : Nat} {e : TypeId} {v : Value} {xs : List Value} (h : w.ownsRow b e size v n xs) (hb : b' ≤ b) : w.ownsRow b' e size v n xs := by
  refine ⟨h.1, ?_⟩
  rcases h.2 with hn | ⟨g, cap, cur, rfl, hb2, rest⟩
  · exact .inl hn
  · exact .inr ⟨g, cap, cur, rfl, Nat.le_trans hb hb2, rest⟩
theorem own_slot {w : World} {base n : Nat} {e : TypeId} {size : Nat} {v : Value} {xs : List Value} (h : w.ownsRow base e size v n xs) (hn : 0 < n) : ∃ g cap, v = .slice (some ⟨g, 0, none⟩) n cap ∧ base ≤ g ∧ g < w.heap.size := by
  have hlt := h.lt
  rcases h.2 with ⟨rfl, rfl⟩ | ⟨g, cap, cur, rfl, hb, hg, -⟩
  · omega
  · exact ⟨g, cap, rfl, hb, (hlt g rfl).2⟩
theorem own_addr {w : World} {base n cap : Nat} {e : TypeId} {size : Nat} {A : Option Addr} {xs : List Value} (h : w.ownsRow base e size (.slice A n cap) n xs) (hn : 0 < n) : ∃ g, A = some ⟨g, 0, none⟩ ∧ base ≤ g ∧ g < w.heap.size := by
  obtain ⟨g, cap', e1, hb, hg⟩ := own_slot h hn
  injection e1 with e1 _ _
  exact ⟨g, e1, hb, hg⟩
/-- The row grows. -/
theorem Touch.grownNew {S : Nat → Prop} {a w w' : World} {v : Value} {base : Nat} {e : TypeId} {size n : Nat} {xs : List Value} (h : Touch S a w) (ho : w.ownsRow base e size v n xs) (hb : a.heap.size ≤ base) (hg : w.grownBy w' v.ownBlock) : Touch S a w' :=
  h.grown hg (fun k hk hlt => by have := (ho.lt k hk).1; omega)
/-- The one new cell of an append. -/
theorem one_at (w : World) (v : Value) (e : TypeId) : ∀ (j : Nat) (u : Value), [v][j]? = some u → (w.alloc (.cells #[v] e)).cell? ((⟨w.heap.size, 0, none⟩ : Addr).add j) = some u := by
  intro j u hu
  obtain rfl : j = 0 := by have := (List.getElem?_eq_some_iff.1 hu).1; simp at this; omega
  simp at hu
  subst hu
  rw [add0, World.cell?_alloc_at _ _ _ _ rfl]; rfl
theorem one_at2 (w : World) (v : Value) (e : TypeId) {g : Nat} (hg : g = w.heap.size) : ∀ (j : Nat) (u : Value), [v][j]? = some u → (w.alloc (.cells #[v] e)).cell? ((⟨g, 0, none⟩ : Addr).add j) = some u := by subst hg; exact one_at w v e
/-- The new cells of an append of one element of several cells. -/
theorem many_at (w : World) (cs : Array Value) (e : TypeId) : ∀ (j : Nat) (u : Value), cs.toList[j]? = some u → (w.alloc (.cells cs e)).cell? ((⟨w.heap.size, 0, none⟩ : Addr).add j) = some u := World.news_of_block (heap_alloc_new w _)

/-- Bytes as cells. -/
def u8s (B : List Nat) : List Value := B.map fun (b : Nat) => .int .u8 (b : Int)
theorem u8s_append (A B : List Nat) : u8s (A ++ B) = u8s A ++ u8s B := by simp [u8s]
theorem u8s_length (B : List Nat) : (u8s B).length = B.length := by simp [u8s]

/-- The bytes that a slice shows. -/
def Shows (v : Value) (B : List Nat) (w : World) : Prop :=
  ∃ ao cap, v = .slice ao B.length cap ∧ B.length ≤ cap ∧ (0 < B.length → ∃ g o, ao = some ⟨g, o, none⟩ ∧ g < w.heap.size ∧ ∀ j, j < B.length → w.cell? ⟨g, o + j, none⟩ = some (.int .u8 (B.getD j 0 : Nat)))

theorem Shows.touch {v : Value} {B : List Nat} {S : Nat → Prop} {w w' : World} (h : Shows v B w) (ht : Touch S w w') (hS : 0 < B.length → ∀ g, v.ownBlock = some g → ¬ S g) : Shows v B w' := by
  obtain ⟨ao, cap, rfl, hc, h⟩ := h
  refine ⟨ao, cap, rfl, hc, fun hp => ?_⟩
  obtain ⟨g, o, rfl, hg, hc⟩ := h hp
  refine ⟨g, o, rfl, Nat.lt_of_lt_of_le hg ht.size, fun j hj => ?_⟩
  rw [ht.cell (p := ⟨g, o + j, none⟩) hg (hS hp g rfl)]
  exact hc j hj
theorem Shows.fresh {v : Value} {B : List Nat} {w w' : World} (h : Shows v B w) (ht : Fresh w w') : Shows v B w' := h.touch ht (fun _ _ _ h => h)
theorem Shows.drewN {v : Value} {B : List Nat} {w : World} (h : Shows v B w) (n : Nat) : Shows v B (w.drewN n) := h.fresh (Touch.same w n)
theorem Shows.drew {v : Value} {B : List Nat} {w : World} (h : Shows v B w) : Shows v B w.drew := h.fresh (Touch.refl _ w).drew
theorem Shows.own {base : Nat} {v : Value} {B : List Nat} {w : World} (h : w.ownsRow base 5 1 v B.length (u8s B)) : Shows v B w := by
  have hlt := h.lt
  rcases h.2 with ⟨rfl, hn⟩ | ⟨g, cap, cur, rfl, hb, hg, hnc, hrest⟩
  · exact ⟨none, 0, by rw [hn], by omega, fun hp => by omega⟩
  · refine ⟨_, cap, rfl, hnc, fun hp => ⟨g, 0, rfl, (hlt g rfl).2, fun j hj => ?_⟩⟩
    rw [Nat.zero_add, World.ownsRow.cellAt h j (by omega)]
    simp [u8s, List.getD, hj]
/-- A part of the slice, as the walk writes it. -/
theorem Shows.cut {ao : Option Addr} {n cap lo hi : Nat} {B : List Nat} {w : World} (h : Shows (.slice ao n cap) B w) (h1 : lo ≤ hi) (h2 : hi ≤ n) :
    Shows (.slice (if cap = lo then ao else ao.map (·.add lo)) (hi - lo) (cap - lo)) ((B.take hi).drop lo) w := by
  obtain ⟨ao', cap', e, hc, h⟩ := h
  injection e with e1 e2 e3
  subst e1 e2 e3
  have hl : ((B.take hi).drop lo).length = hi - lo := by simp; omega
  refine ⟨_, _, by rw [hl], by rw [hl]; omega, fun hp => ?_⟩
  rw [hl] at hp
  obtain ⟨g, o, rfl, hg, hcell⟩ := h (by omega)
  refine ⟨g, o + lo, by rw [if_neg (by omega)]; simp [Addr.add], hg, fun j hj => ?_⟩
  rw [hl] at hj
  rw [show o + lo + j = o + (lo + j) by omega, hcell (lo + j) (by omega)]
  have e1 : ((B.take hi).drop lo).getD j 0 = B.getD (lo + j) 0 := by
    simp [List.getD, List.getElem?_drop, show lo + j < hi by omega]
  rw [e1]

end Go.Proofs.YtcpelncjagaadaaGreatDoor
