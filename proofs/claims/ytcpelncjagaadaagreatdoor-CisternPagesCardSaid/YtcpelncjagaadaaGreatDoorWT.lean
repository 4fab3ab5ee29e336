/-
  flash: Write.
-/
import Derived.Test.YtcpelncjagaadaaGreatDoorWS
import Derived.Deep.RegionLaw
namespace Go.Proofs.YtcpelncjagaadaaGreatDoor
open Go.RowKit

attribute [local go_sem ↓] Go.wp_at_zero Go.wp_at_succ
variable {α : Type}

theorem own_of [Inhabited Bs] {w : World} {base n size : Nat} {e : TypeId} {v : Value} {xs : List Value} {k : Nat} (h : w.ownsRow base e size v n xs) (hl : lo ≤ base) (hk : v.ownBlock = some k) : Of [some e] w k := by
  rcases h.2 with ⟨rfl, _⟩ | ⟨g', cap, cur, rfl, hb, hh, _⟩
  · simp [Value.ownBlock] at hk
  · have e1 : g' = k := by simpa [Value.ownBlock] using hk
    subst e1
    exact ⟨Nat.le_trans hl hb, _, hh, by simp [okind]⟩
theorem Kept.grow [Inhabited Bs] {w w' : World} {base n size : Nat} {e : TypeId} {v : Value} {xs : List Value} {o : Obj} (h : w.ownsRow base e size v n xs) (hl : lo ≤ base) (hg : (w.alloc o).grownBy w' v.ownBlock) : Kept [some e] w w' :=
  (Kept.refl _ _ |>.alloc o).trans ((Touch.of_grown hg).mono (fun _ _ hk => own_of (h.alloc o) hl hk))

theorem Tryz.info78 : (Tryz.prog.info? 78).map (fun i => (i.zero, i.size, i.bytes)) = some (some (.agg #[.int .i64 0, .slice none 0 0]), 2, 32) := by kernel_rfl

theorem DevAt.newWaits [Inhabited Bs] {enc : α → List Nat} {w : World} {p g n : Nat} {wv wv' : Value} {off armed : Bool} {left : Nat} {s : Nat → Sec α} {l : List (Nat × α)} (hb : BlkL w p 51 (devCs g n wv off armed left)) (hs : SecsAt enc w g n s) (hw : WaitsAt enc w wv' l) :
    DevAt enc (w.setCell ⟨p, 1, none⟩ wv') p ⟨n, s, l, off, armed, left⟩ ∧ Kept [some 51] w (w.setCell ⟨p, 1, none⟩ wv') := by
  have hk : Kept [some 51] w (w.setCell ⟨p, 1, none⟩ wv') := .store hb (by simp) _ _
  exact ⟨⟨g, wv', hb.set 1 wv', hs.kept hk (by decide) (by decide), hw.kept hk (by decide) (by decide)⟩, hk⟩

set_option maxRecDepth 100000 in
set_option maxHeartbeats 4000000 in
theorem write_any [Inhabited Bs] {enc : α → List Nat} (p : Nat) (D : Dev α) (a : Nat) (v : Value) (r : α) (w : World) (h : DevAt enc w p D) (hl : D.left ≤ 1000) (ha : a < D.n) (hr : (enc r).length = 256) (hv : Bytes w v (enc r)) (hw : D.waits.length ≤ 1000) :
    Calls Tryz.prog 14 #[.pointer (some ⟨p, 0, none⟩), .int .i64 a, v] w fun e w' => e = .returned (.int .i64 (D.write a r).1) ∧ DevAt enc w' p (D.write a r).2 ∧ Kept devT w w' := by
  obtain ⟨i0, hi, hz0, hz1, hz2⟩ := info_parts Tryz.info78
  have HH := Lib.hid (And.intro h hv)
  obtain ⟨A, cap, rfl⟩ := own_form hv
  have t1 : (((enc r).length : Int) != 256) = false := by rw [hr]; rfl
  have HR := Lib.hid hr
  clear hr
  have hsp : D.spend.2.waits = D.waits := by unfold Dev.spend; split <;> (try split) <;> (try split) <;> rfl
  clear h hv
  go_enter Tryz.func14, Tryz.ntmps14
  go_wp2_with fail
  refine (isYes_any p D a _ HH.out.1 ha).mono ?_
  rintro e1 w1 ⟨rfl, rfl⟩
  go_wp2_with fail
  refine (spend_any p D _ HH.out.1 hl).mono ?_
  intro e2 w2 ⟨he, hd, hk⟩
  subst he
  cases hb : D.spend.1 with
  | false =>
    have HD := Lib.hid (And.intro hd hk)
    clear hd hk
    go_wp2_with fail
    go_ret
    exact ⟨by simp [Dev.write, hb], by simp only [Dev.write, hb]; exact HD.out.1, HD.out.2.mono (by simp)⟩
  | true =>
    obtain ⟨g, wv, hp, hs, hws⟩ := hd
    rw [hsp] at hws
    obtain ⟨xs, ho, hxs⟩ := hws
    have c1 := hp.cell 1
    have f1 := hp.soft 1
    have hlo : lo ≤ w2.heap.size := Nat.le_trans hp.2 (Nat.le_of_lt hp.lt)
    simp only [List.getElem?_toArray, List.getElem?_cons_zero, List.getElem?_cons_succ] at c1
    have HD := Lib.hid (And.intro hp (And.intro hs (And.intro ho (And.intro hxs hk))))
    have HV := Lib.hid (HH.out.2.kept hk (by decide))
    obtain ⟨A2, cap2, rfl⟩ := own_form ho
    clear hp hs ho hxs hk
    go_wp2_with fail
    go_region_law (first
      | (go_simp; go_at_call 38; refine (clone38_any _ (enc r) _ (by rw [HR.out]; omega) (HV.out.shows.fresh ((Touch.refl _ _).drew))).mono ?_; intro e3 w3 hg; obtain ⟨v3, rfl, hv3, ht⟩ := hg; have H3 := Lib.hid (And.intro (own_base hv3 (Nat.zero_le _)) ht.of_drew); have c1 := H3.out.2.val c1 id; have f1 := (H3.out.2.frozen (p := ⟨p, 1, none⟩) HD.out.1.lt id).trans f1; obtain ⟨A3, cap3, rfl⟩ := own_form hv3; have c9 := ((Touch.refl (fun _ => False) w3).alloc (.cells #[.int .i64 a, .slice A3 (enc r).length cap3] 78)).val c1 id; clear hv3 ht)
      | (refine step_append_lies _ (by rfl) _ _ 49 (by rfl) lo 78 i0 _ 2 32 Tryz.underlying49 hi hz0 hz1 hz2 rfl (by decide) (.slice A2 D.waits.length cap2) D.waits.length xs (by rfl) ((own_fresh HD.out.2.2.1 H3.out.2).alloc _) ⟨w3.heap.size, 0, none⟩ 1 1 [.int .i64 a, .slice A3 (enc r).length cap3] (by rfl) (by rfl) (many_at2 w3 #[.int .i64 a, .slice A3 (enc r).length cap3] 78 rfl) (by intro u hu; simp at hu; rcases hu with rfl | rfl <;> rfl) (by decide) (by unfold maxLen; omega) (by omega) (Nat.le_trans hlo (by have := H3.out.2.size; simp; omega)) _ rfl ?_; intro g4 cap4 w4 ho hg _ _; have H4 := Lib.hid (And.intro ho (And.intro ((Kept.of_fresh H3.out.2).trans (Kept.grow (own_fresh HD.out.2.2.1 H3.out.2) (Nat.le_refl _) hg)) (Kept.grow (own_fresh HD.out.2.2.1 H3.out.2) (Nat.le_refl _) hg))); have H5 := Lib.hid (HD.out.1.kept H4.out.2.1 (by decide)); have c1 := H5.out.cell 1; have f1 := H5.out.soft 1; simp only [List.getElem?_toArray, List.getElem?_cons_zero, List.getElem?_cons_succ] at c1; clear ho hg))
    all_goals
      go_wp2_with fail
      obtain ⟨hp, hs, ho, hxs, hk⟩ := HD.out
      have hW : WaitsAt enc w4 (.slice (some ⟨g4, 0, none⟩) (D.waits.length + 1) cap4) (D.waits ++ [(a, r)]) :=
        WaitsAt.more (w := w2) hxs ho.1 H4.out.1 ((show Bytes w3 _ (enc r) from H3.out.1).kept H4.out.2.2 (by decide)) (fun u B hB => hB.kept H4.out.2.1 (by decide))
      obtain ⟨h1, h2⟩ := DevAt.newWaits H5.out (hs.kept H4.out.2.1 (by decide) (by decide)) hW
      refine bodyPost_ret (v := .int .i64 0) (by simp [results, Tryz.results14, go_sem]) rfl ⟨by simp [Dev.write, hb], ?_, ?_⟩
      · simpa [Dev.write, hb, hsp] using h1
      · exact (hk.mono (by simp)).trans ((H4.out.2.1.mono (by simp)).trans (h2.mono (by simp)))

end Go.Proofs.YtcpelncjagaadaaGreatDoor
