/-
  pack.Encode.
-/
import Derived.Test.YtcpelncjagaadaaGreatDoorWD
namespace Go.Proofs.YtcpelncjagaadaaGreatDoor
open Go.RowKit

attribute [local go_sem ↓] Go.wp_at_zero Go.wp_at_succ

/-- A block that is known whole. -/
def Blk (w : World) (g : Nat) (t : TypeId) (cs : Array Value) : Prop := w.heap[g]? = some (.cells cs t (0, 0))
theorem Blk.lt {w : World} {g : Nat} {t : TypeId} {cs : Array Value} (h : Blk w g t cs) : g < w.heap.size := (Array.getElem?_eq_some_iff.1 h).1
theorem Blk.cell {w : World} {g : Nat} {t : TypeId} {cs : Array Value} (h : Blk w g t cs) (i : Nat) : w.cell? ⟨g, i, none⟩ = cs[i]? := cell_of_row w g i cs t (0, 0) h
theorem Blk.soft {w : World} {g : Nat} {t : TypeId} {cs : Array Value} (h : Blk w g t cs) (i : Nat) : w.frozen? ⟨g, i, none⟩ = false := frozen_of_row w g i cs t h
theorem Blk.new (w : World) (t : TypeId) (cs : Array Value) : Blk (w.alloc (.cells cs t)) w.heap.size t cs := heap_alloc_new w _
theorem Blk.touch {S : Nat → Prop} {w w' : World} {g : Nat} {t : TypeId} {cs : Array Value} (h : Blk w g t cs) (ht : Touch S w w') (hS : ¬ S g) : Blk w' g t cs := ht.heap h hS
/-- A row of another type is another block. -/
theorem own_ne {w : World} {base n size : Nat} {e t : TypeId} {v : Value} {xs : List Value} {g : Nat} {cs : Array Value} (h : w.ownsRow base e size v n xs) (hg : Blk w g t cs) (hne : e ≠ t) : v.ownBlock ≠ some g := by
  rcases h.2 with ⟨rfl, _⟩ | ⟨g', cap, cur, rfl, _, hh, _⟩
  · simp [Value.ownBlock]
  · intro he
    have e1 : g' = g := by simpa [Value.ownBlock] using he
    subst e1
    unfold Blk at hg
    rw [hh] at hg
    injection hg with hg
    injection hg with _ ht
    exact hne ht
theorem Touch.of_grown {w w' : World} {row : Option Nat} (h : w.grownBy w' row) : Touch (fun k => row = some k) w w' := ⟨h.os, h.tape, h.output, h.size, fun k hk hn => h.block k hk (fun e => hn e.symm)⟩
/-- What touches a row of the call's own alone touches nothing old. -/
theorem Touch.ownRow {w wr w' : World} {base n size : Nat} {e : TypeId} {v : Value} {xs : List Value} (ht : Fresh w wr) (h : wr.ownsRow base e size v n xs) (hb : w.heap.size ≤ base) (ht' : Touch (fun k => v.ownBlock = some k) wr w') : Fresh w w' :=
  ht.trans ht' (fun k hk hh => by
    rcases hh with hh | hh
    · exact hh
    · have := (h.lt k hh).1; omega)

theorem Blk.alloc {w : World} {g : Nat} {t : TypeId} {cs : Array Value} (h : Blk w g t cs) (o : Obj) : Blk (w.alloc o) g t cs := h.touch (S := fun _ => False) ((Touch.refl _ w).alloc o) id
theorem Blk.appended {wa w2 : World} {g base n size : Nat} {e t : TypeId} {cs : Array Value} {v : Value} {xs : List Value} {o : Obj} (hB : Blk wa g t cs) (ho : wa.ownsRow base e size v n xs) (hne : e ≠ t) (hg : (wa.alloc o).grownBy w2 v.ownBlock) : Blk w2 g t cs :=
  (hB.alloc o).touch (.of_grown hg) (own_ne (ho.alloc o) (hB.alloc o) hne)
theorem Touch.appended {w wa w2 : World} {base n size : Nat} {e : TypeId} {v : Value} {xs : List Value} {o : Obj} (ht : Fresh w wa) (ho : wa.ownsRow base e size v n xs) (hb : w.heap.size ≤ base) (hg : (wa.alloc o).grownBy w2 v.ownBlock) : Fresh w w2 :=
  (ht.alloc o).ownRow (ho.alloc o) hb (.of_grown hg)

/-- append of a text's bytes, as one step of a region that draws. -/
theorem step_append_text {P : Program} {ops : Array Oper} {o : Oper} {a : Act} {w : World} {K : Act → World → Prop} {Q : Exit → Act → World → Prop} {E : Prop}
    (hg : o.guard = none) (sl x : Operand) (t u : TypeId) (hop : o.op = Op.call { callee := Callee.builtin Builtin.append, args := #[sl, x], argTypes := #[t, u] })
    (base : Nat) (e : TypeId) (i : TypeInfo) (ht : P.underlying t = some (.slice e)) (hu : P.underlying u = some .string) (hi : P.info? e = some i) (hz : i.zero = some (.int .u8 0))
    (hsize : i.size = 1) (hby : i.bytes = 1)
    (v : Value) (n : Nat) (xs : List Value) (hs : a.eval sl = v) (hown : w.ownsRow base e 1 v n xs) (s : ByteArray) (hx : a.eval x = .string s)
    (h63 : n + s.size ≤ maxLen) (hbytes : n + s.size ≤ 140737488355328) (hbase : base ≤ w.heap.size)
    (h : ∀ v' w', w'.ownsRow base e 1 v' (n + s.size) (xs ++ Lib.strCells s) → w.grownBy w' v.ownBlock → K (a.put o.dst v') w') :
    if Region.wanted o (yielded ops a.tmps) = true then Oper.wp P o a w K Q else E := by
  have hw : Region.wanted o (yielded ops a.tmps) = true := by simp [Region.wanted, hg]
  rw [if_pos hw]
  obtain ⟨v', w', hr, h2, h3, _⟩ := Lib.run_append_own_string (P := P) w base t u o.type e i ht hu hi hz hsize hby v n xs hown s h63 hbytes hbase
  unfold Oper.wp execOp
  simp only [hop, resolve, invoke, builtin, Sem.run_bind, Sem.run_pure, Result.andThen_ok, List.map_toArray, List.map_cons, List.map_nil, hs, hx, hr]
  exact h v' w' h2 h3

theorem txt_len (C : List Nat) (s : ByteArray) : (C ++ (Itm.txt s).enc).length = (C ++ [2] ++ le s.size 2).length + s.size := by simp [Itm.enc, le_length, sB_length]; omega
theorem txt_cells (C : List Nat) (s : ByteArray) : u8s (C ++ (Itm.txt s).enc) = u8s (C ++ [2] ++ le s.size 2) ++ Lib.strCells s := by rw [← sB_cells]; simp [u8s, Itm.enc]
def EncGot (B : List Nat) (w : World) (e : Ending) (w' : World) : Prop :=
  ∃ v, e = .returned (.tuple #[v, .int .i64 0]) ∧ w'.ownsRow w.heap.size 5 1 v B.length (u8s B) ∧ Fresh w w'

set_option maxRecDepth 100000 in
set_option maxHeartbeats 2000000 in
theorem encode_any (v : Value) (l : List Itm) (w : World) (hl : l.length ≤ 4000) (hB : (enc l).length ≤ 900000) (hok : ∀ i ∈ l, i.ok) (h : Items v l w) :
    Calls Tryz.prog 63 #[v] w (EncGot (enc l) w) := by
  obtain ⟨i0, hi, hz0, hz1, hz2⟩ := info_parts Tryz.info5
  have HI := Lib.hid h
  obtain ⟨ao, cap, rfl, hr⟩ := h
  have Hr := Lib.hid hr
  have HO := Lib.hid hok
  clear hr hok
  go_enter Tryz.func63, Tryz.ntmps63
  go_wp2_with fail
  refine (check_any _ l _ hl HO.out HI.out).mono ?_
  rintro e w1 ⟨rfl, ht⟩
  have H1 := Lib.hid ht
  clear ht
  go_wp2_with fail
  go_loopw [5, 15] (fun u i wr => ∃ j : Nat, j ≤ l.length ∧ i = .int .i64 j ∧ wr.ownsRow w.heap.size 5 1 u (enc (l.take j)).length (u8s (enc (l.take j))) ∧ Fresh w wr) (fun _ i _ => l.length - (intOf i).toNat)
  case atStart => exact ⟨0, Nat.zero_le _, rfl, World.ownsRow_nil _ _ _ _, H1.out⟩
  case round =>
    obtain ⟨j, hj, rfl, hown, ht⟩ := hrel
    have HT := Lib.hid (And.intro hown ht)
    have hle := enc_take_le l j
    have hsz := ht.size
    clear hown ht
    by_cases hlt : j < l.length
    · obtain ⟨g, o, rfl, hg, hc⟩ := Hr.out (by omega)
      obtain ⟨c0, c1, c2⟩ := hc j hlt
      have d0 := HT.out.2.val c0 id
      have d1 := HT.out.2.val c1 id
      have d2 := HT.out.2.val c2 id
      have HS := Lib.hid (enc_take l j hlt)
      have hiok := HO.out _ (List.getElem_mem hlt)
      clear hc c0 c1 c2
      generalize l[j] = it at d0 d1 d2 HS hiok
      generalize enc (l.take j) = C at HT hle HS
      have hb := Blk.new wr 108 #[.int .i64 it.kind, .int .i64 it.n, .string it.s]
      have H2 := Lib.hid (And.intro (HT.out.2.alloc (.cells #[.int .i64 it.kind, .int .i64 it.n, .string it.s] 108)) (And.intro (own_fresh HT.out.1 ((Touch.refl _ wr).alloc (.cells #[.int .i64 it.kind, .int .i64 it.n, .string it.s] 108))) hb))
      clear hb
      cases it with
      | num n =>
        simp only [Itm.kind, Itm.n, Itm.s] at d0 d1 d2 H2
        have hn : n < 9223372036854775808 := hiok
        clear hiok
        go_wp2_with ((at_builtin; refine wpList_append_own_at _ rfl _ _ 44 rfl w.heap.size 5 i0 (.int .u8 0) 1 1 Tryz.underlying44 hi hz0 hz1 hz2 rfl (by decide) _ _ _ rfl (H2.out.2.1.alloc _) ⟨_, 0, none⟩ 1 1 [.int .u8 1] rfl rfl ?c1 ?c2 ?c3 ?c4 ?c5 ?_))
        case c1 => exact one_at2 _ _ _ (by simp)
        case c2 => intro u hu; simp at hu; subst hu; rfl
        case c3 => unfold maxLen; omega
        case c4 => omega
        case c5 => simp; omega
        intro v' w2 hown1 hg1 _ _
        have ht1 : Fresh w w2 := H2.out.1.appended H2.out.2.1 (Nat.le_refl _) hg1
        have hb1 : Blk w2 wr.heap.size 108 #[.int .i64 1, .int .i64 n, .string ⟨#[]⟩] := H2.out.2.2.appended H2.out.2.1 (by decide) hg1
        have e0 := hb1.cell 0
        have e1 := hb1.cell 1
        simp only [List.getElem?_toArray, List.getElem?_cons_zero, List.getElem?_cons_succ] at e0 e1
        have H3 := Lib.hid (And.intro (show w2.ownsRow w.heap.size 5 1 v' (C ++ [1]).length (u8s (C ++ [1])) by simpa [u8s] using hown1) ht1)
        clear hown1 hg1 ht1 hb1
        have hs2 := H3.out.2.size
        go_wp2_with fail
        refine (put_any w.heap.size v' (C ++ [1]) n 8 _ (by omega) (by simp; omega) hs2 H3.out.1).mono ?_
        intro e w3 hg
        obtain ⟨v3, rfl, ho, ht, _⟩ := hg
        have H4 := Lib.hid (And.intro ho (H3.out.2.ownRow H3.out.1 (Nat.le_refl _) ht))
        clear ho ht
        go_wp2_with fail
        go_roundw
        case rel => exact ⟨j + 1, by omega, by go_num, by rw [HS.out]; simpa [Itm.enc] using H4.out.1, H4.out.2⟩
        case measure => simp [intOf]; omega
      | txt s =>
        simp only [Itm.kind, Itm.n, Itm.s] at d0 d1 d2 H2
        have hn : s.size ≤ 50000 := hiok
        clear hiok
        go_wp2_with ((at_builtin; refine wpList_append_own_at _ rfl _ _ 44 rfl w.heap.size 5 i0 (.int .u8 0) 1 1 Tryz.underlying44 hi hz0 hz1 hz2 rfl (by decide) _ _ _ rfl (H2.out.2.1.alloc _) ⟨_, 0, none⟩ 1 1 [.int .u8 2] rfl rfl ?c1 ?c2 ?c3 ?c4 ?c5 ?_))
        case c1 => exact one_at2 _ _ _ (by simp)
        case c2 => intro u hu; simp at hu; subst hu; rfl
        case c3 => unfold maxLen; omega
        case c4 => omega
        case c5 => simp; omega
        intro v' w2 hown1 hg1 _ _
        have ht1 : Fresh w w2 := H2.out.1.appended H2.out.2.1 (Nat.le_refl _) hg1
        have hb1 : Blk w2 wr.heap.size 108 #[.int .i64 2, .int .i64 0, .string s] := H2.out.2.2.appended H2.out.2.1 (by decide) hg1
        have e0 := hb1.cell 0
        have e2 := hb1.cell 2
        simp only [List.getElem?_toArray, List.getElem?_cons_zero, List.getElem?_cons_succ] at e0 e2
        have H3 := Lib.hid (And.intro (show w2.ownsRow w.heap.size 5 1 v' (C ++ [2]).length (u8s (C ++ [2])) by simpa [u8s] using hown1) (And.intro ht1 hb1))
        clear hown1 hg1 ht1 hb1
        have hs2 := H3.out.2.1.size
        have P0 := Lib.hid (own_fresh H3.out.1 (Touch.refl _ w2).drew)
        have hwr : IntKind.u64.wrap (s.size : Int) = s.size := by rw [IntKind.wrap_u64]; omega
        generalize wr.heap.size = bx at e0 e2 H3 ⊢
        go_wp2_with fail
        go_region_held3 (fun w' => w'.cell? ⟨bx, 2, none⟩ = some (.string s))
          (first | go_keep | assumption)
          (first
            | ((go_at_call 82; refine (put_any w.heap.size v' (C ++ [2]) s.size 2 w2.drew (by omega) (by simp; omega) hs2 P0.out).mono ?_; intro e w3 hg; obtain ⟨v3, rfl, ho, ht, _⟩ := hg; have H4 := Lib.hid (And.intro ho (And.intro (H3.out.2.1.ownRow H3.out.1 (Nat.le_refl _) ht.of_drew) (H3.out.2.2.touch ht.of_drew (own_ne H3.out.1 H3.out.2.2 (by decide))))); have k2 := H4.out.2.2.cell 2; have hs3 := H4.out.2.1.size; clear ho ht; simp only [List.getElem?_toArray, List.getElem?_cons_zero, List.getElem?_cons_succ] at k2))
            | ((refine step_append_text (by rfl) _ _ 44 9 (by rfl) w.heap.size 5 i0 Tryz.underlying44 Tryz.underlying9 hi hz0 hz1 hz2 v3 _ _ (by rfl) H4.out.1 s (by rfl) (by unfold maxLen; simp [le_length]; omega) (by simp [le_length]; omega) hs3 ?_; intro v5 w5 ho5 hg5; have H5 := Lib.hid (And.intro ho5 (H4.out.2.1.ownRow H4.out.1 (Nat.le_refl _) (.of_grown hg5))); have k5 := (H4.out.2.2.touch (Touch.of_grown hg5) (own_ne H4.out.1 H4.out.2.2 (by decide))).cell 2; clear ho5 hg5; simp only [List.getElem?_toArray, List.getElem?_cons_zero, List.getElem?_cons_succ] at k5)))
        clear hwr
        go_wp2_with fail
        go_roundw
        case rel => exact ⟨j + 1, by omega, by go_num, by rw [HS.out, txt_len, txt_cells]; exact H5.out.1, H5.out.2⟩
        case measure => simp [intOf]; omega
    · obtain rfl : j = l.length := by omega
      go_wp2_with fail
      go_ret2
      have hh := HT.out
      rw [List.take_length] at hh
      exact ⟨_, rfl, hh.1, hh.2⟩

end Go.Proofs.YtcpelncjagaadaaGreatDoor
