/-
  record: Super and Home, to a sector and back; noughts are none.
-/
import Derived.Test.YtcpelncjagaadaaGreatDoorWM
namespace Go.Proofs.YtcpelncjagaadaaGreatDoor
open Go.RowKit

attribute [local go_sem ↓] Go.wp_at_zero Go.wp_at_succ

theorem frame_nil : frameB [] = List.replicate 256 0 := by
  unfold frameB
  rw [show le ([] : List Nat).length 2 = [0, 0] by simp [le, List.range_succ]]
  rfl

/-- Noughts. -/
abbrev noughts : List Nat := List.replicate 256 0

set_option maxRecDepth 100000 in
set_option maxHeartbeats 1000000 in
theorem open_noughts (v : Value) (K n : Int) (b : Bool) (w : World) (h : Shows v noughts w) :
    Calls Tryz.prog 57 #[v, .int .i64 K, .int .i64 n, .bool b] w fun e w' => e = .returned (.tuple #[.slice none 0 0, .string ⟨#[]⟩, .int .i64 2]) ∧ Fresh w w' := by
  unfold noughts at h
  rw [← frame_nil] at h
  have H := Lib.hid h
  clear h
  go_enter Tryz.func57, Tryz.ntmps57
  go_wp2_with fail
  refine (unframe_any v [] _ (by decide) H.out).mono ?_
  intro e w1 hg
  obtain ⟨v1, rfl, ho, ht⟩ := hg
  have H1 := Lib.hid (And.intro ho ht)
  clear ho ht
  go_wp2_with fail
  refine (unseal_none v1 _ (.own H1.out.1)).mono ?_
  rintro e w2 ⟨rfl, rfl⟩
  go_wp2_with fail
  go_ret3
  exact ⟨rfl, H1.out.2⟩

theorem nums_new (w : World) (l : List Nat) (cs : Array Value) (hcs : cs = (i64s l).toArray) (g : Nat) (hg : g = w.heap.size) (n cap : Nat) (hn : n = l.length) : Nums (.slice (some ⟨g, 0, none⟩) n cap) l (w.alloc (.cells cs 3)) := by
  subst hg hn
  exact .blk (Blk.new _ 3 _) hcs

theorem supRight_any (g e t : Nat) (w : World) : Calls Tryz.prog 56 #[.agg #[.int .i64 g, .int .i64 e, .int .i64 t]] w fun e w' => e = .returned (.bool true) ∧ Fresh w w' := by
  go_enter Tryz.func56, Tryz.ntmps56
  go_wp2_with fail
  refine (natural_any _ [g, e, t] _ (by simp) ?hn).mono ?_
  case hn => exact nums_new _ _ _ rfl _ (by simp) _ _ rfl
  rintro e w1 ⟨rfl, rfl⟩
  go_wp2_with fail
  go_ret
  exact ⟨rfl, ((Touch.refl _ w).alloc _).alloc _⟩

/-- Records. -/
inductive Rec where
  | sup (g e t : Nat)
  | log (k e s t i c p : Nat) (d : ByteArray)
  | home (p : Nat) (d : ByteArray)
def Rec.items : Rec → List Itm
  | .sup g e t => recItems 1 [g, e, t] none
  | .log k e s t i c p d => recItems 2 [k, e, s, t, i, c, p] (some d)
  | .home p d => recItems 3 [p] (some d)
/-- The sector of a record. -/
def Rec.bytes (r : Rec) : List Nat := secB r.items
abbrev big : Nat := 1000000000000000000
def Rec.ok : Rec → Prop
  | .sup g e t => g < big ∧ e < big ∧ t < big
  | .log k e s t i c p d => (k = 1 ∨ k = 2 ∧ p = 0 ∧ d = ⟨#[]⟩) ∧ e < big ∧ s < big ∧ t < big ∧ i < big ∧ c < big ∧ p < big ∧ d.size ≤ 160
  | .home p d => p < big ∧ d.size ≤ 160
theorem enc_num (n : Nat) (l : List Itm) : (enc (.num n :: l)).length = 9 + (enc l).length := by
  have : enc (.num n :: l) = (Itm.num n).enc ++ enc l := rfl
  rw [this, List.length_append, num_len]
theorem enc_one (s : ByteArray) : (enc [.txt s]).length = 3 + s.size := by
  have : enc [.txt s] = (Itm.txt s).enc ++ enc [] := rfl
  rw [this, List.length_append, txt_len0]; rfl
theorem enc_none : (enc []).length = 0 := rfl
theorem Rec.enc_le {r : Rec} (h : r.ok) : (enc r.items).length ≤ 250 := by
  cases r with
  | sup g e t => simp only [Rec.items, recItems, List.map_cons, List.map_nil, enc_num, enc_none]; omega
  | log k e s t i c p d =>
    have := h.2.2.2.2.2.2.2
    simp only [Rec.items, recItems, List.map_cons, List.map_nil, List.cons_append, List.nil_append, enc_num, enc_one]; omega
  | home p d =>
    have := h.2
    simp only [Rec.items, recItems, List.map_cons, List.map_nil, List.cons_append, List.nil_append, enc_num, enc_one]; omega
theorem Rec.items_ok {r : Rec} (h : r.ok) : ∀ i ∈ r.items, i.ok := by
  have hb : big < 9223372036854775808 := by decide
  cases r with
  | sup g e t =>
    obtain ⟨h1, h2, h3⟩ := h
    intro i hi
    simp only [Rec.items, recItems, List.map_cons, List.map_nil, List.mem_cons, List.not_mem_nil, or_false] at hi
    rcases hi with rfl | rfl | rfl | rfl <;> (show _ < _; omega)
  | log k e s t i c p d =>
    obtain ⟨h0, h1, h2, h3, h4, h5, h6, h7⟩ := h
    have hk : k ≤ 2 := by omega
    intro i hi
    simp only [Rec.items, recItems, List.map_cons, List.map_nil, List.cons_append, List.nil_append, List.mem_cons, List.not_mem_nil, or_false] at hi
    rcases hi with rfl | rfl | rfl | rfl | rfl | rfl | rfl | rfl | rfl
    all_goals first | (show _ < _; omega) | (show _ ≤ _; omega)
  | home p d =>
    obtain ⟨h1, h2⟩ := h
    intro i hi
    simp only [Rec.items, recItems, List.map_cons, List.map_nil, List.cons_append, List.nil_append, List.mem_cons, List.not_mem_nil, or_false] at hi
    rcases hi with rfl | rfl | rfl
    all_goals first | (show _ < _; omega) | (show _ ≤ _; omega)
theorem Rec.bytes_length {r : Rec} (h : r.ok) : r.bytes.length = 256 := secB_length (Rec.enc_le h)

set_option maxRecDepth 100000 in
set_option maxHeartbeats 1000000 in
theorem encodeSuper_any (g e t : Nat) (w : World) (h : (Rec.sup g e t).ok) : Calls Tryz.prog 41 #[.agg #[.int .i64 g, .int .i64 e, .int .i64 t]] w (OkBytes (Rec.sup g e t).bytes w) := by
  have HK := Lib.hid (And.intro (Rec.enc_le h) (Rec.items_ok h))
  clear h
  go_enter Tryz.func41, Tryz.ntmps41
  go_wp2_with fail
  refine (supRight_any g e t _).mono ?_
  rintro e1 w1 ⟨rfl, ht⟩
  have hc : ∀ i v, (#[Value.int .i64 g, .int .i64 e, .int .i64 t])[i]? = some v → w1.cell? ⟨w.heap.size, i, none⟩ = some v := fun i v hv => ht.val (by rw [World.cell?_alloc_at _ _ _ _ rfl]; exact hv) id
  have c0 := hc 0 _ rfl
  have c1 := hc 1 _ rfl
  have c2 := hc 2 _ rfl
  have H1 := Lib.hid (((Touch.refl (fun _ => False) w).alloc (.cells #[.int .i64 g, .int .i64 e, .int .i64 t] 55)).both ht)
  have hs := H1.out.size
  clear hc ht
  go_wp2_with fail
  refine (numbers_any _ [1, g, e, t] _ (by simp) ?hn).mono ?_
  case hn => exact nums_new _ _ _ rfl _ (by simp) _ _ rfl
  intro e2 w2 hg
  obtain ⟨v2, rfl, ho, ht⟩ := hg
  have H2 := Lib.hid (And.intro ho ((H1.out.alloc (.cells #[.int .i64 1, .int .i64 g, .int .i64 e, .int .i64 t] 3)).both ht))
  have hs2 := H2.out.2.size
  clear ho ht
  go_wp2_with fail
  refine (sector_any v2 (Rec.sup g e t).items _ (by simp [Rec.items, recItems]) HK.out.1 HK.out.2 (.own H2.out.1)).mono ?_
  intro e3 w3 hg
  obtain ⟨v3, rfl, ho, ht⟩ := hg
  have H3 := Lib.hid (And.intro ho (H2.out.2.both ht))
  clear ho ht
  go_wp2_with fail
  go_ret2
  exact ⟨_, rfl, own_base H3.out.1 hs2, H3.out.2⟩

end Go.Proofs.YtcpelncjagaadaaGreatDoor
