/-
  page: maps of pages, as lists in the order of their keys; what the operations on them do.
-/
import Derived.Test.YtcpelncjagaadaaGreatDoorXL
import Derived.Maps.OwnSet
import Derived.Maps.Ext
import Derived.Maps.StringElems
import Derived.Maps.OwnOps
import Derived.Lib.SlKeysI
import Derived.Lib.SlMapMerge
import Derived.MapFrom
namespace Go.Proofs.YtcpelncjagaadaaGreatDoor
open Go.RowKit Go.Maps

attribute [local go_sem ↓] Go.wp_at_zero Go.wp_at_succ

abbrev Mp : Type := List Img
def insAt (x : Img) : Mp → Mp
  | [] => [x]
  | y :: t => if x.1 < y.1 then x :: y :: t else y :: insAt x t
def ins (k : Nat) (d : ByteArray) (m : Mp) : Mp := insAt (k, d) (m.filter fun x => !(x.1 == k))
def look (m : Mp) (k : Nat) : Option ByteArray := (m.find? fun x => x.1 == k).map (·.2)
def Mp.ok (m : Mp) : Prop := m.Pairwise fun a b => a.1 < b.1
def merge (a b : Mp) : Mp := b.foldl (fun m x => ins x.1 x.2 m) a
abbrev ent (x : Img) : Lit × DataW Unit := (Lit.int .i64 (x.1 : Nat), .lit (.string x.2.data.toList))
def datum (m : Mp) : DataW Unit := .map (m.map ent)

theorem insAt_mem {x y : Img} {m : Mp} : y ∈ insAt x m ↔ y = x ∨ y ∈ m := by
  induction m with
  | nil => simp [insAt]
  | cons a t ih =>
    unfold insAt
    split
    · simp
    · simp only [List.mem_cons, ih]
      constructor
      · rintro (h | h | h) <;> simp [h]
      · rintro (h | h | h) <;> simp [h]
theorem insAt_ok {x : Img} {m : Mp} (h : Mp.ok m) (hx : ∀ y ∈ m, y.1 ≠ x.1) : Mp.ok (insAt x m) := by
  induction m with
  | nil => simp [insAt, Mp.ok]
  | cons a t ih =>
    unfold Mp.ok at h ih ⊢
    rw [List.pairwise_cons] at h
    unfold insAt
    split
    · rename_i hlt
      rw [List.pairwise_cons]
      refine ⟨fun y hy => ?_, List.pairwise_cons.2 h⟩
      rcases List.mem_cons.1 hy with rfl | hy
      · exact hlt
      · exact Nat.lt_trans hlt (h.1 y hy)
    · rename_i hlt
      rw [List.pairwise_cons]
      refine ⟨fun y hy => ?_, ih h.2 (fun y hy => hx y (List.mem_cons_of_mem _ hy))⟩
      rcases insAt_mem.1 hy with rfl | hy
      · have := hx a (by simp); omega
      · exact h.1 y hy
theorem ins_ok {k : Nat} {d : ByteArray} {m : Mp} (h : Mp.ok m) : Mp.ok (ins k d m) :=
  insAt_ok (List.Pairwise.filter _ h) (fun y hy => by simpa using (List.mem_filter.1 hy).2)
theorem merge_ok {a b : Mp} (h : Mp.ok a) : Mp.ok (merge a b) := by
  unfold merge
  induction b generalizing a with
  | nil => exact h
  | cons x t ih => exact ih (ins_ok h)
theorem insAt_length (x : Img) (m : Mp) : (insAt x m).length = m.length + 1 := by
  induction m with
  | nil => rfl
  | cons a t ih => unfold insAt; split <;> simp [ih]
theorem ins_length (k : Nat) (d : ByteArray) (m : Mp) : (ins k d m).length ≤ m.length + 1 := by
  unfold ins
  rw [insAt_length]
  have := List.length_filter_le (fun x : Img => !(x.1 == k)) m
  omega
theorem merge_length (a b : Mp) : (merge a b).length ≤ a.length + b.length := by
  unfold merge
  induction b generalizing a with
  | nil => simp
  | cons x t ih =>
    have h1 := ih (ins x.1 x.2 a)
    have h2 := ins_length x.1 x.2 a
    simp only [List.foldl_cons, List.length_cons]
    omega

theorem look_insAt {x : Img} {m : Mp} (hx : ∀ y ∈ m, y.1 ≠ x.1) (k : Nat) : look (insAt x m) k = if k = x.1 then some x.2 else look m k := by
  unfold look
  induction m with
  | nil =>
    by_cases h : k = x.1
    · subst h; simp [insAt]
    · have : ¬ x.1 = k := fun e => h e.symm
      simp [insAt, this, h]
  | cons a t ih =>
    have ih' := ih (fun y hy => hx y (List.mem_cons_of_mem _ hy))
    unfold insAt
    split
    · by_cases h : k = x.1
      · subst h; simp
      · have : ¬ x.1 = k := fun e => h e.symm
        rw [if_neg h]; simp [this]
    · by_cases ha : a.1 = k
      · have h : ¬ k = x.1 := by rw [← ha]; exact hx a (by simp)
        rw [if_neg h]; simp [ha]
      · have e : ∀ l : Mp, (a :: l).find? (fun x => x.1 == k) = l.find? fun x => x.1 == k := fun l => by simp [ha]
        rw [e, e]; exact ih'
theorem look_filter {m : Mp} {k k' : Nat} (h : k' ≠ k) : look (m.filter fun x => !(x.1 == k)) k' = look m k' := by
  unfold look
  induction m with
  | nil => rfl
  | cons a t ih =>
    by_cases ha : a.1 = k
    · have h2 : ¬ a.1 = k' := by omega
      simpa [ha, h2, Ne.symm h] using ih
    · by_cases h2 : a.1 = k'
      · simp [h2, h]
      · simpa [ha, h2] using ih
theorem look_ins (k k' : Nat) (d : ByteArray) (m : Mp) : look (ins k d m) k' = if k' = k then some d else look m k' := by
  unfold ins
  rw [look_insAt (fun y hy => by simpa using (List.mem_filter.1 hy).2)]
  by_cases h : k' = k
  · rw [if_pos h, if_pos h]
  · rw [if_neg h, if_neg h, look_filter h]
theorem look_none {m : Mp} {k : Nat} (h : ∀ x ∈ m, x.1 ≠ k) : look m k = none := by
  unfold look
  rw [List.find?_eq_none.2 (fun x hx => by simpa using h x hx)]; rfl
theorem look_merge {a b : Mp} (hb : Mp.ok b) (k : Nat) : look (merge a b) k = (look b k).or (look a k) := by
  unfold merge
  induction b generalizing a with
  | nil => simp [look]
  | cons x t ih =>
    unfold Mp.ok at hb
    rw [List.pairwise_cons] at hb
    rw [List.foldl_cons, ih hb.2, look_ins]
    by_cases h : k = x.1
    · rw [if_pos h, look_none (fun y hy => by have := hb.1 y hy; omega)]
      subst h
      simp [look]
    · rw [if_neg h]
      have : ¬ x.1 = k := fun e => h e.symm
      simp [look, this]

theorem look_mem {m : Mp} (h : Mp.ok m) {x : Img} (hx : x ∈ m) : look m x.1 = some x.2 := by
  induction m with
  | nil => cases hx
  | cons a t ih =>
    unfold Mp.ok at h
    rw [List.pairwise_cons] at h
    unfold look
    rcases List.mem_cons.1 hx with rfl | hx
    · simp
    · have := h.1 x hx
      have e : (a.1 == x.1) = false := by simp; omega
      simp only [List.find?_cons, e]
      exact ih h.2 hx
/-! ### the datum -/
theorem insAt_datum (x : Img) (m : Mp) : (insAt x m).map ent = DataW.insert (ent x) (m.map ent) := by
  induction m with
  | nil => rfl
  | cons a t ih =>
    have e : (Lit.before (ent x).1 (ent a).1) = decide (x.1 < a.1) := by simp [Lit.before]
    simp only [insAt, List.map_cons, DataW.insert, e]
    by_cases h : x.1 < a.1
    · simp [h]
    · simp [h, ih]
theorem datum_put (k : Nat) (d : ByteArray) (m : Mp) : (datum m).put (.int .i64 (k : Nat)) (.lit (.string d.data.toList)) = datum (ins k d m) := by
  unfold datum DataW.put ins
  simp only
  rw [insAt_datum]
  congr 2
  rw [List.filter_map]
  congr 1
  apply List.filter_congr
  intro x _
  simp only [Function.comp, Lit.sameKey]
  congr 1
  rw [Bool.eq_iff_iff]
  simp
  omega
theorem datum_find (m : Mp) (k : Nat) : (m.map ent).find? (fun p => p.1.sameKey (.int .i64 (k : Nat))) = (m.find? fun x => x.1 == k).map ent := by
  rw [List.find?_map]
  congr 1
  congr 1
  funext x
  simp only [Function.comp, Lit.sameKey]
  rw [Bool.eq_iff_iff]
  simp
  omega
theorem datum_at (m : Mp) (k : Nat) (z : DataW Unit) : (datum m).atKey (.int .i64 (k : Nat)) z = match look m k with | some d => .lit (.string d.data.toList) | none => z := by
  unfold datum DataW.atKey look
  simp only [datum_find]
  cases m.find? fun x => x.1 == k <;> rfl
theorem datum_has (m : Mp) (k : Nat) : Maps.has (datum m) (.int .i64 (k : Nat)) = (look m k).isSome := by
  unfold datum look
  rw [Maps.has_eq]
  rw [show (m.map ent).any (fun p => p.1.sameKey (.int .i64 (k : Nat))) = ((m.map ent).find? (fun p => p.1.sameKey (.int .i64 (k : Nat)))).isSome from List.isSome_find?.symm, datum_find]
  cases m.find? fun x => x.1 == k <;> rfl
theorem datum_size (m : Mp) : Maps.size (datum m) = m.length := by unfold datum; rw [Maps.size_eq, List.length_map]
theorem datum_merge (a b : Mp) : Lib.mergeD (datum a) (datum b) = datum (merge a b) := by
  unfold merge
  induction b generalizing a with
  | nil => rfl
  | cons x t ih =>
    have e : Lib.mergeD (datum a) (datum (x :: t)) = Lib.mergeD ((datum a).put (ent x).1 (ent x).2) (datum t) := rfl
    rw [e, datum_put, ih]; rfl
theorem datum_keys (m : Mp) : intKeys (datum m) = m.map fun x => (x.1 : Int) := by
  show (m.map ent).map (fun p => _) = _
  rw [List.map_map]; rfl

/-! ### a map in memory -/
def MapAt [Inhabited Bs] (w : World) (b : Nat) (m : Mp) : Prop := w.ownsMap Tryz.prog 3 (plainElem Tryz.prog 9) b m.length (datum m) ∧ Mp.ok m ∧ lo ≤ b
theorem MapAt.lt [Inhabited Bs] {w : World} {b : Nat} {m : Mp} (h : MapAt w b m) : b < w.heap.size := h.1.lt
theorem own_tight {w : World} {b n : Nat} {m : Mp} (h : w.ownsMap Tryz.prog 3 (plainElem Tryz.prog 9) b n (datum m)) : w.ownsMap Tryz.prog 3 (plainElem Tryz.prog 9) b m.length (datum m) := by
  obtain ⟨es, clock, hb, F, hs, hD⟩ := h
  refine ⟨es, clock, hb, F, ?_, hD⟩
  have h1 := congrArg Maps.size hD
  rw [datum_size, Maps.size_eq, length_sorted] at h1
  simp at h1
  omega
theorem MapAt.touch [Inhabited Bs] {S : Nat → Prop} {w w' : World} {b : Nat} {m : Mp} (h : MapAt w b m) (ht : Touch S w w') (hS : ¬ S b) : MapAt w' b m := by
  obtain ⟨⟨es, clock, hb, rest⟩, hok⟩ := h
  exact ⟨⟨es, clock, ht.heap hb hS, rest⟩, hok⟩
theorem MapAt.not_of [Inhabited Bs] {T : List (Option TypeId)} {w : World} {b : Nat} {m : Mp} (h : MapAt w b m) (hT : none ∉ T) : ¬ Of T w b := by
  obtain ⟨⟨es, clock, hb, -⟩, -⟩ := h
  rintro ⟨-, o, ho, hk⟩
  rw [hb] at ho
  injection ho with ho
  subst ho
  exact hT hk
theorem MapAt.kept [Inhabited Bs] {T : List (Option TypeId)} {w w' : World} {b : Nat} {m : Mp} (h : MapAt w b m) (hk : Kept T w w') (hT : none ∉ T) : MapAt w' b m := h.touch hk (h.not_of hT)
theorem MapAt.of [Inhabited Bs] {T : List (Option TypeId)} {w : World} {b : Nat} {m : Mp} (h : MapAt w b m) (hT : none ∈ T) : Of T w b := by
  obtain ⟨⟨es, clock, hb, -⟩, -, hl⟩ := h
  exact ⟨hl, _, hb, hT⟩
/-- What is turned in one map alone. -/
theorem MapAt.grown [Inhabited Bs] {w w' : World} {b : Nat} {m : Mp} (h : MapAt w b m) (hg : w.grownBy w' (some b)) : Kept [none] w w' :=
  (Touch.refl _ w).grown hg (fun k e _ => by injection e with e; subst e; exact h.of (by simp))
theorem MapAt.other [Inhabited Bs] {w w' : World} {b c : Nat} {m : Mp} (h : MapAt w b m) (hg : w.grownBy w' (some c)) (hne : b ≠ c) : MapAt w' b m :=
  ⟨h.1.kept hg (fun e => hne (Option.some.inj e)), h.2⟩

theorem law3 : Keyed Tryz.prog 3 := int_keyed Tryz.underlying3
theorem key3 (k : Nat) (hk : k < 9000000000000000000) : keyOf Tryz.prog 3 (.int .i64 (k : Nat)) = some (.int .i64 (k : Nat)) := keyOf_int_mk Tryz.underlying3 (WalkArith.wf_i64 (by omega))
theorem zero9 (w : World) : (zeroValue 9).run Tryz.prog w = .ok (.string ⟨#[]⟩) w := by kernel_rfl
theorem plain9 (d : ByteArray) (hd : d.size ≤ maxLen) : plainElem (H := Unit) Tryz.prog 9 (.string d) = some (.lit (.string d.data.toList), []) := plainElem_string Tryz.underlying9 hd
theorem plain9e : plainElem (H := Unit) Tryz.prog 9 (.string ⟨#[]⟩) = some (.lit (.string []), []) := plain9 ⟨#[]⟩ (Nat.zero_le _)
theorem byteArray_ext {a b : ByteArray} (h : a.data.toList = b.data.toList) : a = b := by
  rcases a with ⟨⟨a⟩⟩; rcases b with ⟨⟨b⟩⟩
  simp at h
  subst h
  rfl
theorem elem_shape {m : Mp} {k : Nat} {v : Value} {ps : List MemPlace} (h : plainElem Tryz.prog 9 v = some ((datum m).atKey (.int .i64 (k : Nat)) (.lit (.string [])), ps)) : v = .string ((look m k).getD ⟨#[]⟩) := by
  rw [datum_at] at h
  obtain ⟨s, e, hs, -⟩ := plainElem_string_inv (H := Unit) Tryz.underlying9 h
  rw [e]
  clear h e
  have hs := congrArg Prod.fst hs
  simp only at hs
  refine congrArg Value.string ?_
  cases hl : look m k with
  | none => rw [hl] at hs; injection hs with hs; injection hs with hs; exact (byteArray_ext (by rw [← hs]; rfl))
  | some d => rw [hl] at hs; injection hs with hs; injection hs with hs; exact (byteArray_ext (by rw [← hs]; rfl))
/-- 'v, ok := m[k]'. -/
theorem map_look_ok [Inhabited Bs] {w : World} {b : Nat} {m : Mp} (h : MapAt w b m) (k : Nat) (hk : k < 9000000000000000000) : (Instr.lookup 58 (.map (some b)) (.int .i64 (k : Nat)) true).run Tryz.prog w = .ok (.tuple #[.string ((look m k).getD ⟨#[]⟩), .bool (look m k).isSome]) w := by
  obtain ⟨v, ps, hrun, hv⟩ := h.1.look_ok law3 Tryz.underlying58 (zero9 w) plain9e (key3 k hk)
  rw [elem_shape hv, datum_has] at hrun
  exact hrun
/-- 'm[k]'. -/
theorem map_look [Inhabited Bs] {w : World} {b : Nat} {m : Mp} (h : MapAt w b m) (k : Nat) (hk : k < 9000000000000000000) : (Instr.lookup 58 (.map (some b)) (.int .i64 (k : Nat)) false).run Tryz.prog w = .ok (.string ((look m k).getD ⟨#[]⟩)) w := by
  obtain ⟨v, ps, hrun, hv⟩ := h.1.lookup law3 Tryz.underlying58 (zero9 w) plain9e (key3 k hk)
  rw [elem_shape hv] at hrun
  exact hrun
theorem map_len [Inhabited Bs] {w : World} {b : Nat} {m : Mp} (h : MapAt w b m) (ty : TypeId) : (Builtin.len_ #[58] ty #[.map (some b)]).run Tryz.prog w = .ok (.int .i64 (m.length : Nat)) w := by
  have := h.1.len Tryz.underlying58 ty
  rw [datum_size] at this
  exact this
/-- 'm[k] = v'. -/
theorem map_store [Inhabited Bs] {w : World} {b : Nat} {m : Mp} (h : MapAt w b m) (k : Nat) (d : ByteArray) (hk : k < 9000000000000000000) (hd : d.size ≤ maxLen) (hm : m.length < maxLen) :
    ∃ w', (Instr.mapUpdate 58 (.map (some b)) (.int .i64 (k : Nat)) (.string d)).run Tryz.prog w = .ok () w' ∧ MapAt w' b (ins k d m) ∧ w.grownBy w' (some b) := by
  obtain ⟨w', hrun, ho, hg⟩ := h.1.update law3 Tryz.underlying58 hm (key3 k hk) (plain9 d hd)
  rw [datum_put] at ho
  exact ⟨w', hrun, ⟨own_tight ho, ins_ok h.2.1, h.2.2⟩, hg⟩
/-- 'clear(m)'. -/
theorem map_clear [Inhabited Bs] {w : World} {b : Nat} {m : Mp} (h : MapAt w b m) :
    ∃ w', (∀ ty, (Builtin.clear_ #[58] ty #[.map (some b)]).run Tryz.prog w = .ok (.tuple #[]) w') ∧ MapAt w' b [] ∧ w.grownBy w' (some b) := by
  obtain ⟨⟨es, clock, hb, F, -, -⟩, -, hl⟩ := h
  refine ⟨{ w with heap := w.heap.setIfInBounds b (.map #[] clock) }, fun ty => by simp [Builtin.clear_, run_underlying Tryz.underlying58, MapKept.run_getObj_map hb, MapKept.run_setObj_map _ hb, Result.andThen], ⟨⟨#[], clock, (MapKept.heap_set hb).1, ⟨by simp, MapKept.stamped_empty clock, by simp⟩, Nat.le_refl _, rfl⟩, List.Pairwise.nil, hl⟩, ?_⟩
  exact ⟨rfl, rfl, rfl, by simp, fun i _ hi => (MapKept.heap_set hb).2 i (fun e => hi (by rw [e]))⟩

end Go.Proofs.YtcpelncjagaadaaGreatDoor
