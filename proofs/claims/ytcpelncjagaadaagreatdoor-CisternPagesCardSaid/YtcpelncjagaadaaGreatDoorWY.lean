/-
  flash: Read.
-/
import Derived.Test.YtcpelncjagaadaaGreatDoorWX
import Derived.Shelf.Abstract
namespace Go.Proofs.YtcpelncjagaadaaGreatDoor
open Go.RowKit Go.Shelf

attribute [local go_sem ↓] Go.wp_at_zero Go.wp_at_succ
attribute [local go_sem] Oper.semAt_some
variable {α : Type}

/-- What a sector answers. -/
def ReadPost (enc : α → List Nat) (w : World) (x : Sec α) (e : Ending) (w' : World) : Prop :=
  if x.torn = true then e = .returned (.tuple #[.slice none 0 0, .int .i64 3]) ∧ Fresh w w'
  else match x.b with
    | none => OkBytes noughts w e w'
    | some r => OkBytes (enc r) w e w'

theorem read_leave {R : Ending → World → Prop} (tm : Array Value) (bx DD : Nat) (X : World) (v : Value) (k : Int) (h4 : tm[4]? = some (.pointer (some ⟨bx + 1, 0, none⟩))) (h5 : tm[5]? = some (.pointer (some ⟨bx + 1 + 1, 0, none⟩)))
    (c4 : X.cell? ⟨bx + 1, 0, none⟩ = some v) (c5 : X.cell? ⟨bx + 1 + 1, 0, none⟩ = some (.int .i64 k)) (hK : X.heap[DD]? = some (.deferred (some []))) (hR : R (.returned (.tuple #[v, .int .i64 k])) (X.putObj DD (.deferred none))) :
    bodyPostM Fence.wide 4 Tryz.prog Tryz.f17 R .ret { tmps := tm, defers := [{ target := .collected DD, args := #[] }] } X := by
  refine ⟨by simp, .inl ⟨_, _, rfl, run_takeDeferred hK, ?_⟩⟩
  have d4 := cell_kept c4 (grownBy_putObj' X DD (.deferred none)) (fun r e => by cases e; exact ⟨_, hK, rfl⟩)
  have d5 := cell_kept c5 (grownBy_putObj' X DD (.deferred none)) (fun r e => by cases e; exact ⟨_, hK, rfl⟩)
  refine ⟨_, ?_, hR⟩
  simp [results, Tryz.f17, go_sem, h4, h5, d4, d5]
theorem Touch.putObj {S : Nat → Prop} {w X : World} (h : Touch S w X) {DD : Nat} (hD : w.heap.size ≤ DD) (o : Obj) : Touch S w (X.putObj DD o) :=
  h.grown (grownBy_putObj' X DD o) (fun k e hlt => by cases e; omega)
theorem deferred_ne {X : World} {b DD : Nat} {t : TypeId} {cs : Array Value} (h : Blk X b t cs) (hK : X.heap[DD]? = some (.deferred (some []))) : b ≠ DD := by
  rintro rfl
  unfold Blk at h
  rw [h] at hK
  cases hK
theorem heap_far {X : World} {b i DD : Nat} {v : Value} {o : Obj} (h : X.heap[DD]? = some o) (hne : b ≠ DD) : (X.setCell ⟨b, i, none⟩ v).heap[DD]? = some o := (Below.heap_setCell X _ v DD (fun e => hne e.symm)).trans h

theorem Kept.putObj [Inhabited Bs] {T : List (Option TypeId)} {X : World} {DD : Nat} (h : X.heap[DD]? = some (.deferred (some []))) (hl : lo ≤ DD) (hT : none ∈ T) (o : Obj) : Kept T X (X.putObj DD o) :=
  (Touch.refl _ X).grown (grownBy_putObj' X DD o) (fun k e hlt => by cases e; exact ⟨hl, _, h, hT⟩)
/-- What the row that is handed back is, behind the stores. -/
theorem read_row {X : World} {bx DD n : Nat} {base : Nat} {v u4 u5 : Value} {xs : List Value} {cs4 cs5 : Array Value} (h : X.ownsRow base 5 1 v n xs) (b4 : Blk X (bx + 1) 44 cs4) (b5 : Blk X (bx + 1 + 1) 25 cs5) (hK : X.heap[DD]? = some (.deferred (some []))) :
    ((((X.setCell ⟨bx + 1, 0, none⟩ u4).setCell ⟨bx + 1 + 1, 0, none⟩ u5)).putObj DD (.deferred none)).ownsRow base 5 1 v n xs := by
  letI : Inhabited Bs := ⟨(0 : Nat)⟩
  have k1 : Kept [some 44, some 25, none] X (X.setCell ⟨bx + 1, 0, none⟩ u4) := .store ⟨b4, Nat.zero_le _⟩ (by simp) 0 u4
  have k2 := k1.trans (.store ⟨b5.setOther (i := 0) (v := u4) (by omega), Nat.zero_le _⟩ (by simp) 0 u5)
  have k3 := k2.trans (.putObj (heap_far (heap_far hK (deferred_ne b4 hK)) (deferred_ne b5 hK)) (Nat.zero_le _) (by simp) (.deferred none))
  exact own_kept h k3 (by decide)

set_option maxRecDepth 100000 in
set_option maxHeartbeats 4000000 in
theorem read_any [Inhabited Bs] {enc : α → List Nat} (p : Nat) (D : Dev α) (a : Nat) (w : World) (h : DevAt enc w p D) (hoff : D.off = false) (hw : D.waits = []) (ha : a < D.n) (hlen : ∀ r, (D.s a).b = some r → 0 < (enc r).length ∧ (enc r).length ≤ 1000000) :
    Calls Tryz.prog 17 #[.pointer (some ⟨p, 0, none⟩), .int .i64 a] w (ReadPost enc w (D.s a)) := by
  refine (callsIn_wide (n := 4)).1 ?_
  refine callsIn_of_wp_marks Tryz.func17 rfl trivial ?_ rfl
  refine wpIn_wide.2 ?_
  simp only [Tryz.ntmps17, List.size_toArray, List.length_cons, List.length_nil, Nat.reduceAdd, Nat.reduceSub, Array.replicate_succ, Array.replicate_zero, List.push_toArray, List.append_toArray, List.nil_append, List.cons_append]
  have HL := Lib.hid (And.intro h hlen)
  have hf0 : Fresh w (((w.alloc (.cells #[.int .i64 a] 3)).alloc (.cells #[.slice none 0 0] 44)).alloc (.cells #[.int .i64 0] 25)) := (((Touch.refl _ w).alloc _).alloc _).alloc _
  have HF := Lib.hid hf0
  have hd := h.fresh hf0
  obtain ⟨g, wv, hp, -, hws⟩ := hd
  rw [hw] at hws
  obtain ⟨xs, ho, -⟩ := hws
  obtain ⟨A, cap, rfl⟩ := own_form ho
  rw [hoff] at hp
  have c0 := hp.cell 0
  have c1 := hp.cell 1
  have c2 := hp.cell 2
  simp only [List.getElem?_toArray, List.getElem?_cons_zero, List.getElem?_cons_succ] at c0 c1 c2
  have b3 : (((w.alloc (.cells #[.int .i64 a] 3)).alloc (.cells #[.slice none 0 0] 44)).alloc (.cells #[.int .i64 0] 25)).cell? ⟨w.heap.size, 0, none⟩ = some (.int .i64 a) := by
    have h0 : (w.alloc (.cells #[.int .i64 a] 3)).cell? ⟨w.heap.size, 0, none⟩ = some (.int .i64 a) := by rw [World.cell?_alloc_at _ _ _ _ rfl]; rfl
    exact (((Touch.refl (fun _ => False) _).alloc _).alloc _).val h0 id
  have e0 := Blk.new w 3 #[.int .i64 a]
  have e1 := Blk.new (w.alloc (.cells #[.int .i64 a] 3)) 44 #[.slice none 0 0]
  have e2 := Blk.new ((w.alloc (.cells #[.int .i64 a] 3)).alloc (.cells #[.slice none 0 0] 44)) 25 #[.int .i64 0]
  have e3 := Blk.new (((w.alloc (.cells #[.int .i64 a] 3)).alloc (.cells #[.slice none 0 0] 44)).alloc (.cells #[.int .i64 0] 25)) 49 #[.slice A 0 cap]
  simp only [World.size_alloc] at e1 e2 e3
  have HW := Lib.hid (And.intro (hf0.alloc (.cells #[.slice A 0 cap] 49)) (And.intro (((e0.alloc (.cells #[.slice none 0 0] 44)).alloc (.cells #[.int .i64 0] 25)).alloc (.cells #[.slice A 0 cap] 49)) (And.intro ((e1.alloc (.cells #[.int .i64 0] 25)).alloc (.cells #[.slice A 0 cap] 49)) (And.intro (e2.alloc (.cells #[.slice A 0 cap] 49)) e3))))
  clear e0 e1 e2 e3
  clear h hlen hf0 hp ho
  go_wp2_with fail
  refine (isYes_any p D a _ (HL.out.1.fresh HF.out) ha).mono ?_
  rintro e1 w1 ⟨rfl, rfl⟩
  go_wp2_with fail
  refine (backward_any A cap _).mono ?_
  rintro e1 w1 ⟨rfl, rfl⟩
  go_wp2_with fail
  clear b3 c0 c1 c2
  generalize (((w.alloc (.cells #[.int .i64 a] 3)).alloc (.cells #[.slice none 0 0] 44)).alloc (.cells #[.int .i64 0] 25)).alloc (.cells #[.slice A 0 cap] 49) = W0 at *
  refine (wpIn_wide (n := 4)).1 ?_
  refine wpIn_rangeFunc_ownF rfl (by decide) (gf := 55) (lb := #[.pointer (some ⟨w.heap.size + 1 + 1 + 1, 0, none⟩)]) rfl trivial (enters_of Tryz.func55 (by kernel_rfl) rfl)
    (backward_stops Fence.wide 3 trivial rfl (w.heap.size + 1 + 1 + 1) A cap W0 (by rw [HW.out.2.2.2.2.cell]; rfl) HW.out.2.2.2.2.lt) belowK_t (belowK_b (Nat.le_refl _)) (Below.refl _ _) (fun x => x.elim)
    (fun _ W => Below W0.heap.size W0 W) (fun _ _ _ => False) (ownFrom_below (Nat.le_refl _) (Nat.le_refl _)) (fun _ _ _ _ _ hs _ _ => hs) (Below.refl _ _) (fun x => x.elim) ?assign ?body ?done ?stop
  case assign => intro l x; exact x.elim
  case body => intro l pre x; exact x.elim
  case stop => rintro DD c pre W _ h; exact h.elim
  case done =>
    rintro DD ys W hDD - hB hK
    have hF : Fresh W0 W := .of_below hB
    obtain ⟨f1, x0, x1, x2, x3⟩ := HW.out
    have hd := HL.out.1.fresh (f1.both hF)
    have y0 := x0.touch hF id
    have y1 := x1.touch hF id
    have y2 := x2.touch hF id
    obtain ⟨g, wv, hp, hs, -⟩ := hd
    have c0 := hp.cell 0
    obtain ⟨v0, d0, dv, d1, -⟩ := hs.cell ha
    have k0 := y0.cell 0
    have k1 := y1.cell 0
    have k2 := y2.cell 0
    have s1 := y1.soft 0
    have s2 := y2.soft 0
    simp only [List.getElem?_toArray, List.getElem?_cons_zero] at c0 k0 k1 k2
    have HY := Lib.hid (And.intro (f1.both hF) (And.intro hK (And.intro (And.intro dv (Nat.le_trans f1.size hDD)) (And.intro y1 y2))))
    have hi1 : (0 : Int) ≤ a := by omega
    have hi2 : (a : Int) < D.n := by omega
    have hlt1 : w.heap.size + 1 + 1 < W.heap.size := y2.lt
    clear HW hF f1 x0 x1 x2 x3 y0 y1 y2 hp hs hK hB hDD
    dsimp only
    obtain ⟨A0, n0, cap0, rfl⟩ : ∃ A n c, v0 = .slice A n c := by
      cases hb : (D.s a).b with
      | none => rw [hb] at dv; exact ⟨_, _, _, dv⟩
      | some r => rw [hb] at dv; obtain ⟨A, c, h⟩ := own_form dv; exact ⟨_, _, _, h⟩
    clear dv
    have hN : Fresh W (W.alloc (.cells #[.slice A0 n0 cap0, .bool (D.s a).torn] 81)).drew := ((Touch.refl _ W).alloc _).drew
    obtain ⟨z1, z2, ⟨z3, z4⟩, z5, z6⟩ := HY.out
    have HZ := Lib.hid (And.intro (z1.both hN) (And.intro (hN.heap z2 id) (And.intro (And.intro (z3.kept (T := []) (.of_fresh hN) (by simp)) z4) (And.intro (z5.touch hN id) (And.intro (z6.touch hN id) ((Blk.new W 81 #[.slice A0 n0 cap0, .bool (D.s a).torn]).touch (S := fun _ => False) (Touch.refl _ _).drew id))))))
    have m1 := HZ.out.2.2.2.1.cell 0
    have m2 := HZ.out.2.2.2.2.1.cell 0
    have m3 := HZ.out.2.2.2.2.2.cell 0
    have m4 := HZ.out.2.2.2.2.2.cell 1
    have t1 := HZ.out.2.2.2.1.soft 0
    have t2 := HZ.out.2.2.2.2.1.soft 0
    simp only [List.getElem?_toArray, List.getElem?_cons_zero, List.getElem?_cons_succ] at m1 m2 m3 m4
    clear hN z1 z2 z3 z4 z5 z6
    go_wp2_with fail
    generalize hbx : w.heap.size = bx at *
    have HBX := Lib.hid hbx
    clear hbx
    go_region_held3 (fun w' => w'.cell? ⟨p, 0, none⟩ = some (.slice (some ⟨g, 0, none⟩) D.n D.n) ∧ w'.cell? ⟨bx, 0, none⟩ = some (.int .i64 a) ∧ w'.cell? ⟨g, a * 2, none⟩ = some (.slice A0 n0 cap0) ∧ w'.cell? ⟨g, a * 2 + 1, none⟩ = some (.bool (D.s a).torn))
      (first | go_keep)
      (fail)
    clear c0 k0 k1 k2 s1 s2 d0 d1
    generalize (W.alloc (.cells #[.slice A0 n0 cap0, .bool (D.s a).torn] 81)).drew = W2 at *
    generalize W.heap.size = bs at *
    cases ht : (D.s a).torn with
    | true =>
      rw [ht] at m4
      go_wp2_with fail
      obtain ⟨z1, z2, ⟨-, z4⟩, z5, z6, -⟩ := HZ.out
      have n1 := deferred_ne z5 z2
      have n2 := deferred_ne z6 z2
      have hb := HBX.out
      refine read_leave _ bx DD _ (.slice none 0 0) 3 rfl rfl ((cell_far2 (by omega)).trans (cell_at m1 _)) (cell_at ((cell_far2 (by omega)).trans m2) _) (heap_far (heap_far z2 n1) n2) ?_
      unfold ReadPost
      rw [if_pos ht]
      exact ⟨rfl, Touch.putObj ((z1.setCell _ _ (fun hh => by simp at hh; omega)).setCell _ _ (fun hh => by simp at hh; omega)) (by omega) _⟩
    | false =>
      rw [ht] at m4
      cases hb : (D.s a).b with
      | none =>
        have hq : (Value.slice A0 n0 cap0) = .slice none 0 0 := by
          have := HZ.out.2.2.1.1
          rw [hb] at this
          exact this
        rw [hq] at m3
        have hm := make256 W2
        have he := Lib.run_eql_slice_nil (P := Tryz.prog) W2 44 5 none 0 0 0 0 Tryz.underlying44
        have HE := Lib.hid (And.intro (Blk.alloc HZ.out.2.2.2.1 (.cells zeros 5)) (Blk.alloc HZ.out.2.2.2.2.1 (.cells zeros 5)))
        have o1 := HE.out.1.cell 0
        have o2 := HE.out.2.cell 0
        have q1 := HE.out.1.soft 0
        have q2 := HE.out.2.soft 0
        simp only [List.getElem?_toArray, List.getElem?_cons_zero] at o1 o2
        go_wp2_with fail
        obtain ⟨z1, z2, ⟨-, z4⟩, -, -, -⟩ := HZ.out
        have hzb := Blk.new W2 5 zeros
        have zK := ((Touch.refl (fun _ => False) W2).alloc (.cells zeros 5)).heap z2 id
        have hbb := HBX.out
        refine read_leave _ bx DD _ (.slice (some ⟨W2.heap.size, 0, none⟩) 256 256) 0 rfl rfl ((cell_far2 (by omega)).trans (cell_at o1 _)) (cell_at ((cell_far2 (by omega)).trans o2) _) (heap_far (heap_far zK (deferred_ne HE.out.1 zK)) (deferred_ne HE.out.2 zK)) ?_
        unfold ReadPost
        rw [if_neg (by rw [ht]; decide), hb]
        rw [zeros_arr] at hzb
        have hrow := own_of_blk (base := w.heap.size) (B := noughts) hzb z1.size (by decide)
        refine ⟨_, rfl, ?_, Touch.putObj (((z1.alloc _).setCell _ _ (fun hh => by simp at hh; omega)).setCell _ _ (fun hh => by simp at hh; omega)) (by omega) _⟩
        exact read_row (by rw [zeros_arr]; exact hrow) HE.out.1 HE.out.2 zK
      | some r =>
        have hby : Bytes W2 (Value.slice A0 n0 cap0) (enc r) := by
          have := HZ.out.2.2.1.1
          rw [hb] at this
          exact this
        have hln := HL.out.2 r hb
        have hn0 : n0 = (enc r).length := by
          obtain ⟨A', c', h'⟩ := own_form hby
          injection h'
        subst hn0
        obtain ⟨g7, rfl, -, hg7⟩ := own_addr hby hln.1
        have he := Lib.run_eql_slice_nil (P := Tryz.prog) W2 44 5 (some ⟨g7, 0, none⟩) (enc r).length cap0 0 0 Tryz.underlying44
        have HV := Lib.hid (And.intro hby hln)
        clear hby hln
        go_wp2_with fail
        refine (clone38_any _ (enc r) _ HV.out.2.2 HV.out.1.shows).mono ?_
        intro e1 w3 hg
        obtain ⟨v3, rfl, ho3, hf3⟩ := hg
        obtain ⟨A3, cap3, rfl⟩ := own_form ho3
        have HE := Lib.hid (And.intro (HZ.out.2.2.2.1.touch hf3 id) (And.intro (HZ.out.2.2.2.2.1.touch hf3 id) (And.intro ho3 hf3)))
        have o1 := HE.out.1.cell 0
        have o2 := HE.out.2.1.cell 0
        have q1 := HE.out.1.soft 0
        have q2 := HE.out.2.1.soft 0
        simp only [List.getElem?_toArray, List.getElem?_cons_zero] at o1 o2
        clear ho3 hf3
        go_wp2_with fail
        obtain ⟨z1, z2, ⟨-, z4⟩, -, -, -⟩ := HZ.out
        have zK := HE.out.2.2.2.heap z2 id
        have hbb := HBX.out
        refine read_leave _ bx DD _ _ 0 rfl rfl ((cell_far2 (by omega)).trans (cell_at o1 _)) (cell_at ((cell_far2 (by omega)).trans o2) _) (heap_far (heap_far zK (deferred_ne HE.out.1 zK)) (deferred_ne HE.out.2.1 zK)) ?_
        unfold ReadPost
        rw [if_neg (by rw [ht]; decide), hb]
        refine ⟨_, rfl, ?_, Touch.putObj (((z1.both HE.out.2.2.2).setCell _ _ (fun hh => by simp at hh; omega)).setCell _ _ (fun hh => by simp at hh; omega)) (by omega) _⟩
        exact read_row (own_base HE.out.2.2.1 z1.size) HE.out.1 HE.out.2.1 zK

end Go.Proofs.YtcpelncjagaadaaGreatDoor
