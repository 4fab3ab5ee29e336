/-
  flash: the device's state and its words.
-/
import Derived.Test.YtcpelncjagaadaaGreatDoorWQ
namespace Go.Proofs.YtcpelncjagaadaaGreatDoor
open Go.RowKit

attribute [local go_sem ↓] Go.wp_at_zero Go.wp_at_succ

/-- A block's kind: its elements' type; none for what is no row of cells. -/
def okind : Obj → Option TypeId
  | .cells _ t _ => some t
  | _ => none
/-- Where the blocks that may be touched begin: a number that a caller lays down (as an instance, so that no statement need name it). -/
def Bs : Type := Nat
def lo [Inhabited Bs] : Nat := (default : Bs)
/-- The blocks of some kinds, from there on. -/
def Of [Inhabited Bs] (T : List (Option TypeId)) (w : World) (k : Nat) : Prop := lo ≤ k ∧ ∃ o, w.heap[k]? = some o ∧ okind o ∈ T
/-- At most blocks of these kinds are touched. -/
abbrev Kept [Inhabited Bs] (T : List (Option TypeId)) (w w' : World) : Prop := Touch (Of T w) w w'
theorem Kept.trans [Inhabited Bs] {T : List (Option TypeId)} {a b c : World} (h : Kept T a b) (h' : Kept T b c) : Kept T a c :=
  Touch.trans h h' (fun k hk hh => by
    rcases hh with hh | ⟨hl, o, ho, hT⟩
    · exact hh
    · by_cases ha : Of T a k
      · exact ha
      · exact ⟨hl, o, by rw [← h.block k hk ha]; exact ho, hT⟩)
theorem Kept.of_fresh [Inhabited Bs] {T : List (Option TypeId)} {a b : World} (h : Fresh a b) : Kept T a b := h.any
theorem Kept.mono [Inhabited Bs] {T U : List (Option TypeId)} {a b : World} (h : Kept T a b) (hs : ∀ t ∈ T, t ∈ U) : Kept U a b := Touch.mono h (fun _ _ ⟨hl, o, ho, hT⟩ => ⟨hl, o, ho, hs _ hT⟩)
/-- A row of cells among the blocks that may be touched. -/
def BlkL [Inhabited Bs] (w : World) (g : Nat) (t : TypeId) (cs : Array Value) : Prop := Blk w g t cs ∧ lo ≤ g
theorem BlkL.of [Inhabited Bs] {T : List (Option TypeId)} {w : World} {g : Nat} {t : TypeId} {cs : Array Value} (h : BlkL w g t cs) (ht : some t ∈ T) : Of T w g := ⟨h.2, _, h.1, ht⟩
theorem BlkL.lt [Inhabited Bs] {w : World} {g : Nat} {t : TypeId} {cs : Array Value} (h : BlkL w g t cs) : g < w.heap.size := Blk.lt h.1
theorem BlkL.cell [Inhabited Bs] {w : World} {g : Nat} {t : TypeId} {cs : Array Value} (h : BlkL w g t cs) (i : Nat) : w.cell? ⟨g, i, none⟩ = cs[i]? := Blk.cell h.1 i
theorem BlkL.soft [Inhabited Bs] {w : World} {g : Nat} {t : TypeId} {cs : Array Value} (h : BlkL w g t cs) (i : Nat) : w.frozen? ⟨g, i, none⟩ = false := Blk.soft h.1 i
theorem BlkL.touch [Inhabited Bs] {S : Nat → Prop} {w w' : World} {g : Nat} {t : TypeId} {cs : Array Value} (h : BlkL w g t cs) (ht : Touch S w w') (hS : ¬ S g) : BlkL w' g t cs := ⟨Blk.touch h.1 ht hS, h.2⟩
theorem BlkL.alloc [Inhabited Bs] {w : World} {g : Nat} {t : TypeId} {cs : Array Value} (h : BlkL w g t cs) (o : Obj) : BlkL (w.alloc o) g t cs := ⟨Blk.alloc h.1 o, h.2⟩
theorem Blk.not_of [Inhabited Bs] {T : List (Option TypeId)} {w : World} {g : Nat} {t : TypeId} {cs : Array Value} (h : Blk w g t cs) (ht : some t ∉ T) : ¬ Of T w g := by
  rintro ⟨-, o, ho, hT⟩
  unfold Blk at h
  rw [h] at ho
  injection ho with ho
  subst ho
  exact ht hT
theorem Blk.kept [Inhabited Bs] {T : List (Option TypeId)} {w w' : World} {g : Nat} {t : TypeId} {cs : Array Value} (h : Blk w g t cs) (hk : Kept T w w') (ht : some t ∉ T) : Blk w' g t cs := Touch.heap hk h (h.not_of ht)
theorem BlkL.kept [Inhabited Bs] {T : List (Option TypeId)} {w w' : World} {g : Nat} {t : TypeId} {cs : Array Value} (h : BlkL w g t cs) (hk : Kept T w w') (ht : some t ∉ T) : BlkL w' g t cs := ⟨Blk.kept h.1 hk ht, h.2⟩
theorem own_kept [Inhabited Bs] {T : List (Option TypeId)} {w w' : World} {base n size : Nat} {e : TypeId} {v : Value} {xs : List Value} (h : w.ownsRow base e size v n xs) (hk : Kept T w w') (ht : some e ∉ T) : w'.ownsRow base e size v n xs := by
  refine own_touch h hk (fun g hg hO => ?_)
  rcases h.2 with ⟨rfl, _⟩ | ⟨g', cap, cur, rfl, _, hh, _⟩
  · simp [Value.ownBlock] at hg
  · have e1 : g' = g := by simpa [Value.ownBlock] using hg
    subst e1
    exact Blk.not_of (T := T) (cs := cur) hh ht hO
/-- A store into a block that is known whole. -/
theorem Blk.set {w : World} {g : Nat} {t : TypeId} {cs : Array Value} (h : Blk w g t cs) (i : Nat) (v : Value) : Blk (w.setCell ⟨g, i, none⟩ v) g t (cs.setIfInBounds i v) := by
  unfold Blk at h ⊢
  simp only [World.setCell, Array.getElem?_modify, if_true, h]
  rfl
theorem BlkL.set [Inhabited Bs] {w : World} {g : Nat} {t : TypeId} {cs : Array Value} (h : BlkL w g t cs) (i : Nat) (v : Value) : BlkL (w.setCell ⟨g, i, none⟩ v) g t (cs.setIfInBounds i v) := ⟨Blk.set h.1 i v, h.2⟩
theorem Blk.ne {w : World} {g h : Nat} {t u : TypeId} {cs ds : Array Value} (hg : Blk w g t cs) (hh : Blk w h u ds) (hne : t ≠ u) : g ≠ h := by
  rintro rfl
  unfold Blk at hg hh
  rw [hg] at hh
  injection hh with hh
  injection hh with _ e
  exact hne e
theorem Blk.setOther {w : World} {g h : Nat} {t : TypeId} {cs : Array Value} (hg : Blk w g t cs) (hne : h ≠ g) (i : Nat) (v : Value) : Blk (w.setCell ⟨h, i, none⟩ v) g t cs :=
  (Below.heap_setCell w _ v g (fun e => hne e.symm)).trans hg
theorem BlkL.setOther [Inhabited Bs] {w : World} {g h : Nat} {t : TypeId} {cs : Array Value} (hg : BlkL w g t cs) (hne : h ≠ g) (i : Nat) (v : Value) : BlkL (w.setCell ⟨h, i, none⟩ v) g t cs := ⟨Blk.setOther hg.1 hne i v, hg.2⟩
theorem Kept.store [Inhabited Bs] {T : List (Option TypeId)} {w : World} {g : Nat} {t : TypeId} {cs : Array Value} (h : BlkL w g t cs) (ht : some t ∈ T) (i : Nat) (v : Value) : Kept T w (w.setCell ⟨g, i, none⟩ v) :=
  (Touch.refl _ w).setCell _ _ (fun _ => h.of ht)
theorem Kept.refl [Inhabited Bs] (T : List (Option TypeId)) (w : World) : Kept T w w := Touch.refl _ w
theorem Kept.drew [Inhabited Bs] {T : List (Option TypeId)} {a w : World} (h : Kept T a w) : Kept T a w.drew := Touch.drew h
theorem Kept.drewN [Inhabited Bs] {T : List (Option TypeId)} {a w : World} (h : Kept T a w) (n : Nat) : Kept T a (w.drewN n) := Touch.drewN h n
theorem Kept.alloc [Inhabited Bs] {T : List (Option TypeId)} {a w : World} (h : Kept T a w) (o : Obj) : Kept T a (w.alloc o) := Touch.alloc h o
theorem Kept.fresh [Inhabited Bs] {T : List (Option TypeId)} {a b c : World} (h : Kept T a b) (h' : Fresh b c) : Kept T a c := h.trans (.of_fresh h')

/-- A row of bytes that lasts as it is. -/
def Bytes (w : World) (v : Value) (B : List Nat) : Prop := w.ownsRow 0 5 1 v B.length (u8s B)
theorem Bytes.shows {w : World} {v : Value} {B : List Nat} (h : Bytes w v B) : Shows v B w := .own h
theorem Bytes.kept [Inhabited Bs] {T : List (Option TypeId)} {w w' : World} {v : Value} {B : List Nat} (h : Bytes w v B) (hk : Kept T w w') (ht : some 5 ∉ T) : Bytes w' v B := own_kept h hk ht

structure Sec (α : Type) where
  b : Option α
  torn : Bool
structure Dev (α : Type) where
  n : Nat
  s : Nat → Sec α
  waits : List (Nat × α)
  off : Bool
  armed : Bool
  left : Nat

variable {α : Type}
def upd (f : Nat → Sec α) (i : Nat) (x : Sec α) : Nat → Sec α := fun j => if j = i then x else f j
/-- What stands of a sector in the cells. -/
def SecV (enc : α → List Nat) (w : World) (v : Value) : Option α → Prop
  | none => v = .slice none 0 0
  | some r => Bytes w v (enc r)
def SecsAt [Inhabited Bs] (enc : α → List Nat) (w : World) (g n : Nat) (s : Nat → Sec α) : Prop :=
  ∃ cs, BlkL w g 81 cs ∧ cs.size = n * 2 ∧ ∀ j, j < n → ∃ v, cs[j * 2]? = some v ∧ SecV enc w v (s j).b ∧ cs[j * 2 + 1]? = some (.bool (s j).torn)
def WaitsAt [Inhabited Bs] (enc : α → List Nat) (w : World) (wv : Value) (l : List (Nat × α)) : Prop :=
  ∃ xs, w.ownsRow lo 78 2 wv l.length xs ∧ ∀ j (h : j < l.length), ∃ v, xs[j * 2]? = some (.int .i64 (l[j]).1) ∧ xs[j * 2 + 1]? = some v ∧ Bytes w v (enc (l[j]).2)
abbrev devCs (g n : Nat) (wv : Value) (off armed : Bool) (left : Nat) : Array Value := #[.slice (some ⟨g, 0, none⟩) n n, wv, .bool off, .bool armed, .int .i64 left]
structure DevAt [Inhabited Bs] (enc : α → List Nat) (w : World) (p : Nat) (D : Dev α) : Prop where
  at_ : ∃ g wv, BlkL w p 51 (devCs g D.n wv D.off D.armed D.left) ∧ SecsAt enc w g D.n D.s ∧ WaitsAt enc w wv D.waits
abbrev devT : List (Option TypeId) := [some 51, some 81, some 78]

theorem SecV.kept [Inhabited Bs] {enc : α → List Nat} {T : List (Option TypeId)} {w w' : World} {v : Value} {o : Option α} (h : SecV enc w v o) (hk : Kept T w w') (ht : some 5 ∉ T) : SecV enc w' v o := by
  cases o with
  | none => exact h
  | some r => exact Bytes.kept h hk ht
theorem SecsAt.kept [Inhabited Bs] {enc : α → List Nat} {T : List (Option TypeId)} {w w' : World} {g n : Nat} {s : Nat → Sec α} (h : SecsAt enc w g n s) (hk : Kept T w w') (h5 : some 5 ∉ T) (h81 : some 81 ∉ T) : SecsAt enc w' g n s := by
  obtain ⟨cs, hb, hs, hc⟩ := h
  refine ⟨cs, hb.kept hk h81, hs, fun j hj => ?_⟩
  obtain ⟨v, h1, h2, h3⟩ := hc j hj
  exact ⟨v, h1, h2.kept hk h5, h3⟩
theorem WaitsAt.kept [Inhabited Bs] {enc : α → List Nat} {T : List (Option TypeId)} {w w' : World} {wv : Value} {l : List (Nat × α)} (h : WaitsAt enc w wv l) (hk : Kept T w w') (h5 : some 5 ∉ T) (h78 : some 78 ∉ T) : WaitsAt enc w' wv l := by
  obtain ⟨xs, ho, hc⟩ := h
  refine ⟨xs, own_kept ho hk h78, fun j hj => ?_⟩
  obtain ⟨v, h1, h2, h3⟩ := hc j hj
  exact ⟨v, h1, h2, h3.kept hk h5⟩
theorem DevAt.kept [Inhabited Bs] {enc : α → List Nat} {T : List (Option TypeId)} {w w' : World} {p : Nat} {D : Dev α} (h : DevAt enc w p D) (hk : Kept T w w') (h5 : some 5 ∉ T) (h51 : some 51 ∉ T) (h78 : some 78 ∉ T) (h81 : some 81 ∉ T) : DevAt enc w' p D := by
  obtain ⟨g, wv, hb, hs, hw⟩ := h
  exact ⟨g, wv, hb.kept hk h51, hs.kept hk h5 h81, hw.kept hk h5 h78⟩
theorem DevAt.lo_le [Inhabited Bs] {enc : α → List Nat} {w : World} {p : Nat} {D : Dev α} (h : DevAt enc w p D) : lo ≤ w.heap.size := by
  obtain ⟨g, wv, hb, -, -⟩ := h
  exact Nat.le_trans hb.2 (Nat.le_of_lt hb.lt)
theorem DevAt.fresh [Inhabited Bs] {enc : α → List Nat} {w w' : World} {p : Nat} {D : Dev α} (h : DevAt enc w p D) (hf : Fresh w w') : DevAt enc w' p D :=
  h.kept (T := []) (.of_fresh hf) (by simp) (by simp) (by simp) (by simp)

/-! ### is, spend, Size, Arm -/
theorem isYes_any [Inhabited Bs] {enc : α → List Nat} (p : Nat) (D : Dev α) (at_ : Nat) (w : World) (h : DevAt enc w p D) (ha : at_ < D.n) : Calls Tryz.prog 36 #[.pointer (some ⟨p, 0, none⟩), .int .i64 at_] w fun e w' => e = .returned (.bool true) ∧ w = w' := by
  obtain ⟨g, wv, hb, -, -⟩ := h
  have c0 := hb.cell 0
  simp only [List.getElem?_toArray, List.getElem?_cons_zero] at c0
  have t1 : decide ((at_ : Int) ≥ 0) = true := by simp
  have t2 : decide ((at_ : Int) < D.n) = true := by simp; omega
  clear hb
  go_enter Tryz.func36, Tryz.ntmps36
  go_wp2_with fail
  go_ret
  exact ⟨rfl, rfl⟩
theorem size_any [Inhabited Bs] {enc : α → List Nat} (p : Nat) (D : Dev α) (w : World) (h : DevAt enc w p D) : Calls Tryz.prog 40 #[.pointer (some ⟨p, 0, none⟩)] w fun e w' => e = .returned (.int .i64 D.n) ∧ w = w' := by
  obtain ⟨g, wv, hb, -, -⟩ := h
  have c0 := hb.cell 0
  simp only [List.getElem?_toArray, List.getElem?_cons_zero] at c0
  clear hb
  go_enter Tryz.func40, Tryz.ntmps40
  go_wp2_with fail
  go_ret
  exact ⟨rfl, rfl⟩

def Dev.spend (D : Dev α) : Bool × Dev α :=
  if D.armed = true ∧ D.left = 0 then (false, { D with off := true }) else if D.off = true then (false, D) else if D.armed = true then (true, { D with left := D.left - 1 }) else (true, D)

theorem DevAt.turn [Inhabited Bs] {enc : α → List Nat} {w : World} {p g n : Nat} {wv : Value} {off armed off' armed' : Bool} {left left' : Nat} {s : Nat → Sec α} {l : List (Nat × α)} {i : Nat} {v : Value} (hb : BlkL w p 51 (devCs g n wv off armed left)) (hs : SecsAt enc w g n s) (hw : WaitsAt enc w wv l) (he : (devCs g n wv off armed left).setIfInBounds i v = devCs g n wv off' armed' left') :
    BlkL (w.setCell ⟨p, i, none⟩ v) p 51 (devCs g n wv off' armed' left') ∧ SecsAt enc (w.setCell ⟨p, i, none⟩ v) g n s ∧ WaitsAt enc (w.setCell ⟨p, i, none⟩ v) wv l ∧ Kept [some 51] w (w.setCell ⟨p, i, none⟩ v) := by
  have hk : Kept [some 51] w (w.setCell ⟨p, i, none⟩ v) := .store hb (by simp) i v
  exact ⟨he ▸ hb.set i v, hs.kept hk (by decide) (by decide), hw.kept hk (by decide) (by decide), hk⟩

set_option maxHeartbeats 1000000 in
theorem spend_any [Inhabited Bs] {enc : α → List Nat} (p : Nat) (D : Dev α) (w : World) (h : DevAt enc w p D) (hl : D.left ≤ 1000) :
    Calls Tryz.prog 37 #[.pointer (some ⟨p, 0, none⟩)] w fun e w' => e = .returned (.bool D.spend.1) ∧ DevAt enc w' p D.spend.2 ∧ Kept [some 51] w w' := by
  obtain ⟨n, s, waits, off, armed, left⟩ := D
  obtain ⟨g, wv, hb, hs, hw⟩ := h
  simp only at hb hs hw hl
  have c2 := hb.cell 2
  have c3 := hb.cell 3
  have c4 := hb.cell 4
  have f2 := hb.soft 2
  have f4 := hb.soft 4
  simp only [List.getElem?_toArray, List.getElem?_cons_zero, List.getElem?_cons_succ] at c2 c3 c4
  have HH := Lib.hid (And.intro hb (And.intro hs hw))
  clear hb hs hw
  cases armed with
  | true =>
    by_cases h0 : left = 0
    · subst h0
      go_enter Tryz.func37, Tryz.ntmps37
      go_wp2_with fail
      have q := cell_at c2 (.bool true)
      go_wp2_with fail
      go_ret
      obtain ⟨h1, h2, h3, h4⟩ := DevAt.turn (off' := true) (armed' := true) (left' := 0) HH.out.1 HH.out.2.1 HH.out.2.2 (i := 2) (v := .bool true) rfl
      exact ⟨rfl, ⟨g, wv, h1, h2, h3⟩, h4⟩
    · have t1 : ((left : Int) == 0) = false := by simp; omega
      cases off with
      | true =>
        go_enter Tryz.func37, Tryz.ntmps37
        go_wp2_with fail
        go_ret
        exact ⟨by simp [Dev.spend, h0], ⟨g, wv, by simpa [Dev.spend, h0] using HH.out⟩, .refl _ _⟩
      | false =>
        have t2 : IntKind.i64.wrap ((left : Int) - 1) = (left - 1 : Nat) := by rw [IntKind.wrap_i64]; omega
        go_enter Tryz.func37, Tryz.ntmps37
        go_wp2_with fail
        go_ret
        obtain ⟨h1, h2, h3, h4⟩ := DevAt.turn (off' := false) (armed' := true) (left' := left - 1) HH.out.1 HH.out.2.1 HH.out.2.2 (i := 4) (v := .int .i64 (left - 1 : Nat)) rfl
        exact ⟨by simp [Dev.spend, h0], ⟨g, wv, by simpa [Dev.spend, h0] using ⟨h1, h2, h3⟩⟩, h4⟩
  | false =>
    cases off with
    | true =>
      go_enter Tryz.func37, Tryz.ntmps37
      go_wp2_with fail
      go_ret
      exact ⟨by simp [Dev.spend], ⟨g, wv, by simpa [Dev.spend] using HH.out⟩, .refl _ _⟩
    | false =>
      go_enter Tryz.func37, Tryz.ntmps37
      go_wp2_with fail
      go_ret
      exact ⟨by simp [Dev.spend], ⟨g, wv, by simpa [Dev.spend] using HH.out⟩, .refl _ _⟩

end Go.Proofs.YtcpelncjagaadaaGreatDoor
