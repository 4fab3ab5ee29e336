/-
  wal: Append, the walk.
-/
import Derived.Test.YtcpelncjagaadaaGreatDoorXJ
namespace Go.Proofs.YtcpelncjagaadaaGreatDoor
open Go.RowKit

attribute [local go_sem ↓] Go.wp_at_zero Go.wp_at_succ

def AppPost [Inhabited Bs] (q p : Nat) (L : Wal) (D : RD) (l : List Img) (w : World) (e : Ending) (w' : World) : Prop :=
  e = .returned (.int .i64 (D.writes (txWs L l)).1) ∧ DevAt Rec.bytes w' p (D.writes (txWs L l)).2 ∧ LogAt w' q p (if (D.writes (txWs L l)).1 = 0 then { L with next := L.next + l.length + 1 } else L) ∧ Kept (some 93 :: devT) w w'

theorem getD_mem {l : List Img} {j : Nat} {d : Img} (h : j < l.length) : l.getD j d ∈ l := by
  have e : l.getD j d = l[j] := by simp [List.getD, h]
  rw [e]; exact List.getElem_mem h
theorem writes_step {D : RD} {L : Wal} {l : List Img} {j : Nat} (hj : j < l.length + 1) (h0 : (D.writes ((txWs L l).take j)).1 = 0) :
    D.writes ((txWs L l).take (j + 1)) = (D.writes ((txWs L l).take j)).2.write (2 + (recOf L l j).s % L.sz) (recOf L l j).r := by
  rw [txWs_take L l j hj, writes_snoc, if_pos h0]

set_option maxRecDepth 100000 in
set_option maxHeartbeats 8000000 in
theorem append_any [Inhabited Bs] (q p : Nat) (L : Wal) (hL : L.ok) (D : RD) (l : List Img) (v : Value) (w : World) (h : LogAt w q p L) (hD : DevAt Rec.bytes w p D) (hl : l.length + 1 ≤ L.sz - (L.next - L.tail)) (hi : ∀ x ∈ l, x.1 < big ∧ x.2.size ≤ 160) (hv : w.ownsRow 0 67 2 v l.length (imgCells l)) (hn : 2 + L.sz ≤ D.n) (hle : D.left ≤ 1000) (hw : D.waits.length + l.length + 1 ≤ 1000) :
    Calls Tryz.prog 28 #[.pointer (some ⟨q, 0, none⟩), v] w (AppPost q p L D l w) := by
  obtain ⟨A, cap, rfl⟩ := own_form hv
  have hl1 : l.length ≤ 1000 := by omega
  have HH := Lib.hid (And.intro h (And.intro hv (And.intro hD hi)))
  clear h hv hD hi
  generalize hn : l.length = n at *
  have HN := Lib.hid hn
  clear hn
  have hsz := hL.sz
  have hLe := hL.le
  have hLr := hL.room
  have hLn := hL.next
  go_enter Tryz.func28, Tryz.ntmps28
  go_wp2_with fail
  go_loopw [17] (fun i wr => ∃ j : Nat, j ≤ n ∧ i = .int .i64 j ∧ Fresh w wr) (fun i _ => n - (intOf i).toNat)
  case atStart => exact ⟨0, Nat.zero_le _, rfl, Touch.refl _ _⟩
  case round =>
    obtain ⟨j, hj, rfl, hF⟩ := hrel
    by_cases hlt : j < n
    · have hvw := own_fresh HH.out.2.1 hF
      obtain ⟨g2, hA, -, hg2⟩ := own_addr HH.out.2.1 (by omega)
      subst hA
      have y := imgCells_get l j (by rw [HN.out]; exact hlt)
      have d0 := World.ownsRow.cellAt hvw (j * 2) (by omega)
      have d1 := World.ownsRow.cellAt hvw (j * 2 + 1) (by omega)
      rw [y.1] at d0
      rw [y.2] at d1
      clear y hvw
      have hx := HH.out.2.2.2 (l.getD j (0, ⟨#[]⟩)) (getD_mem (by rw [HN.out]; exact hlt))
      generalize l.getD j (0, ⟨#[]⟩) = x at *
      have hx2 := hx.2
      have i0 : (0 : Int) ≤ j := by omega
      have i1 : (j : Int) < n := by omega
      have t1 : decide ((x.1 : Int) < 0) = false := by simp
      have t2 : decide ((x.2.size : Int) > 160) = false := by simp; omega
      go_wp2_with fail
      go_roundw
      case rel => exact ⟨j + 1, by omega, by go_num, hF.alloc _⟩
      case measure => simp [intOf]; omega
    · obtain rfl : j = n := by omega
      have hlw := LogAt.kept (T := []) HH.out.1 (.of_fresh hF) (by simp)
      have c2 := BlkL.cell hlw 2
      simp only [List.getElem?_toArray, List.getElem?_cons_zero, List.getElem?_cons_succ] at c2
      have t1 : decide ((j : Int) + 1 > L.sz) = false := by simp; omega
      have HW := Lib.hid (And.intro hF hlw)
      clear hF hlw
      go_wp2_with fail
      refine (room_any q p L _ HW.out.2 hL).mono ?_
      rintro e1 w1 ⟨rfl, nq, rfl⟩
      have t2 : decide ((j : Int) + 1 > ((L.sz - (L.next - L.tail) : Nat) : Int)) = false := by simp; omega
      go_wp2_with fail
      refine (records_any q p L hL l _ _ (HW.out.2.touch (S := fun _ => False) ((Touch.refl _ wr).drewN nq) id) (by rw [HN.out]; omega) (by rw [HN.out]; exact own_fresh HH.out.2.1 (HW.out.1.drewN nq))).mono ?_
      rintro e2 w2 ⟨v2, rfl, ho, hf⟩
      rw [HN.out] at ho
      obtain ⟨A2, cap2, rfl⟩ := own_form ho
      have H2 := Lib.hid (And.intro (own_base ho (Nat.zero_le _)) ((HW.out.1.drewN nq).both hf))
      clear ho hf t1 t2 c2
      go_wp2_with fail
      go_loopw [50] (fun i wr => ∃ k : Nat, k ≤ j + 1 ∧ i = .int .i64 k ∧ (D.writes ((txWs L l).take k)).1 = 0 ∧ DevAt Rec.bytes wr p (D.writes ((txWs L l).take k)).2 ∧ Kept devT w2 wr) (fun i _ => j + 1 - (intOf i).toNat)
      case atStart => exact ⟨0, Nat.zero_le _, rfl, rfl, HH.out.2.2.1.fresh H2.out.2, .refl _ _⟩
      case round =>
        obtain ⟨k, hk, rfl, hz, hd, hkp⟩ := hrel
        have hlw := LogAt.kept (LogAt.kept (T := []) HH.out.1 (.of_fresh H2.out.2) (by simp)) hkp (by decide)
        by_cases hlt : k < j + 1
        · have how := own_kept H2.out.1 hkp (by decide)
          obtain ⟨g3, hA, -, hg3⟩ := own_addr how (by omega)
          subst hA
          have hcs : ∀ i, i < 8 → wr.cell? ⟨g3, k * 8 + i, none⟩ = (recOf L l k).cs[i]? := by
            intro i hi8
            rw [World.ownsRow.cellAt how (k * 8 + i) (by omega), recCells_get, show (k * 8 + i) / 8 = k by omega, show (k * 8 + i) % 8 = i by omega, recsOf_at L l k (by rw [HN.out]; exact hlt)]
            rfl
          have hok := recOf_ok L hL l (by rw [HN.out]; omega) HH.out.2.2.2 k (by rw [HN.out]; exact hlt)
          have hst := writes_step (D := D) (L := L) (l := l) (j := k) (by rw [HN.out]; exact hlt) hz
          have hms := recOf_s L l k
          have hwl := writes_len D ((txWs L l).take k)
          have hwn := writes_n D ((txWs L l).take k)
          have hwf := writes_left D ((txWs L l).take k) hle
          have hstop := writes_stop D (txWs L l) (k + 1)
          rw [hst] at hstop
          rw [List.length_take] at hwl
          generalize (D.writes ((txWs L l).take k)).2 = D1 at *
          generalize recOf L l k = r at *
          have r0 := hcs 0 (by decide)
          have r1 := hcs 1 (by decide)
          have r2 := hcs 2 (by decide)
          have r3 := hcs 3 (by decide)
          have r4 := hcs 4 (by decide)
          have r5 := hcs 5 (by decide)
          have r6 := hcs 6 (by decide)
          have r7 := hcs 7 (by decide)
          simp only [LR.cs, logCs, List.getElem?_toArray, List.getElem?_cons_zero, List.getElem?_cons_succ, Nat.add_zero] at r0 r1 r2 r3 r4 r5 r6 r7
          have i0 : (0 : Int) ≤ k := by omega
          have i1 : (k : Int) < ((j + 1 : Nat) : Int) := by omega
          obtain ⟨m, hm0⟩ : ∃ m, 2 + r.s % L.sz = m := ⟨_, rfl⟩
          have e2 : IntKind.i64.wrap ((2 : Int) + (r.s : Int).tmod L.sz) = (m : Int) := by rw [← hm0]; exact seq_wrap hsz
          have hm : m < D1.n := by have := Nat.mod_lt r.s (show L.sz > 0 by omega); omega
          have t0 : ¬ (L.sz : Int) = 0 := by omega
          have t3 : ¬ L.sz = 0 := by omega
          rw [hm0] at hst hstop
          clear hm0
          have hxc := write_cases D1 m r.r
          rcases hxx : D1.write m r.r with ⟨x, D2⟩
          rw [hxx] at hst hstop hxc
          have hx : x = 0 ∨ x = 4 := by rcases hxc with h | h; exact .inl h.1; exact .inr h.1
          have HX := Lib.hid (And.intro hlw (And.intro hd (And.intro hkp (And.intro hok (And.intro hst (And.intro hstop (And.intro hms (And.intro hxx hwl))))))))
          have hnb := Lib.hid (Blk.new wr 99 r.cs)
          clear hlw hd hkp hcs hok hst hstop hz how hms hxx hxc hwl
          go_wp2_with fail
          refine (encodeLog_any r.k r.e r.s r.t r.i r.c r.p r.d _ HX.out.2.2.2.1).mono ?_
          intro e3 w3 hg
          obtain ⟨v3, rfl, ho3, hf3⟩ := hg
          have ht := ((Touch.refl (fun _ => False) wr).alloc (.cells r.cs 99)).both hf3
          have H3 := Lib.hid (And.intro (LogAt.kept (T := []) HX.out.1 (.of_fresh ht) (by simp)) (And.intro (HX.out.2.1.fresh ht) (And.intro (hnb.out.touch hf3 id) (And.intro ht (own_base ho3 (Nat.zero_le _))))))
          clear ho3 hf3 ht r0 r1 r2 r3 r4 r5 r6 r7
          have k0 := BlkL.cell H3.out.1 0
          have k1 := BlkL.cell H3.out.1 1
          have k2 := BlkL.cell H3.out.1 2
          have k3 := H3.out.2.2.1.cell 2
          simp only [LR.cs, logCs, List.getElem?_toArray, List.getElem?_cons_zero, List.getElem?_cons_succ] at k0 k1 k2 k3
          generalize wr.heap.size = bx at *
          go_wp2_with fail
          go_region_held3 (fun w' => w'.cell? ⟨q, 0, none⟩ = some (.pointer (some ⟨p, 0, none⟩)) ∧ w'.cell? ⟨q, 1, none⟩ = some (.int .i64 2) ∧ w'.cell? ⟨q, 2, none⟩ = some (.int .i64 L.sz) ∧ w'.cell? ⟨bx, 2, none⟩ = some (.int .i64 r.s))
            (first | go_keep)
            (((go_at_call 14; refine (write_any p D1 m v3 r.r _ (H3.out.2.1.fresh (Touch.refl _ _).drew) hwf hm (Rec.bytes_length HX.out.2.2.2.1) (Bytes.kept (T := []) H3.out.2.2.2.2 (Touch.refl _ _).drew (by simp)) (by have := HX.out.2.2.2.2.2.2.2.2; omega)).mono ?_; intro e4 w4 hp4; rw [HX.out.2.2.2.2.2.2.2.1] at hp4; obtain ⟨rfl, hd4, hk4⟩ := hp4; have hk4 := Touch.of_drew hk4; have H4 := Lib.hid (And.intro (LogAt.kept H3.out.1 hk4 (by decide)) (And.intro hd4 (And.intro (H3.out.2.2.1.kept hk4 (by decide)) hk4))); have k0 := BlkL.cell H4.out.1 0; have k1 := BlkL.cell H4.out.1 1; have k2 := BlkL.cell H4.out.1 2; have k3 := H4.out.2.2.1.cell 2; clear hd4 hk4; simp only [LR.cs, logCs, List.getElem?_toArray, List.getElem?_cons_zero, List.getElem?_cons_succ] at k0 k1 k2 k3)))
          rcases hx with rfl | rfl
          · go_wp2_with fail
            go_roundw
            case rel =>
              refine ⟨k + 1, by omega, by go_num, ?_, ?_, ?_⟩
              · rw [HX.out.2.2.2.2.1]
              · rw [HX.out.2.2.2.2.1]; exact H4.out.2.1
              · exact HX.out.2.2.1.trans ((Kept.of_fresh H3.out.2.2.2.1).trans H4.out.2.2.2)
            case measure => simp [intOf]; omega
          · go_wp2_with fail
            go_ret
            have hst := HX.out.2.2.2.2.2.1 (by simp)
            refine ⟨by rw [hst]; rfl, by rw [hst]; exact H4.out.2.1, ?_, ?_⟩
            · rw [hst, if_neg (by simp)]; exact H4.out.1
            · exact (Kept.of_fresh H2.out.2).trans ((HX.out.2.2.1.trans ((Kept.of_fresh H3.out.2.2.2.1).trans H4.out.2.2.2)).mono (by simp))
        · obtain rfl : k = j + 1 := by omega
          have c4 := BlkL.cell hlw 4
          have f4 := BlkL.soft hlw 4
          simp only [List.getElem?_toArray, List.getElem?_cons_zero, List.getElem?_cons_succ] at c4
          have em : IntKind.i64.wrap ((L.next : Int) + ((j : Int) + 1)) = (L.next : Int) + ((j : Int) + 1) := by rw [IntKind.wrap_i64]; omega
          have et : (txWs L l).take (j + 1) = txWs L l := List.take_of_length_le (by rw [txWs_length, HN.out]; omega)
          rw [et] at hz hd
          have HX := Lib.hid (And.intro hlw (And.intro hd (And.intro hkp hz)))
          clear hlw hd hkp hz
          go_wp2_with fail
          go_ret
          refine ⟨by rw [HX.out.2.2.2]; rfl, ?_, ?_, ?_⟩
          · exact HX.out.2.1.kept (T := [some 93]) (Kept.store HX.out.1 (by simp) _ _) (by decide) (by decide) (by decide) (by decide)
          · rw [HX.out.2.2.2, if_pos rfl, HN.out]
            have h9 := HX.out.1.set 4 (.int .i64 ((L.next + j + 1 : Nat) : Int))
            have e9 : ((L.next + j + 1 : Nat) : Int) = (L.next : Int) + ((j : Int) + 1) := by omega
            rw [e9] at h9
            unfold LogAt
            simp only [e9]
            exact h9
          · exact (Kept.of_fresh H2.out.2).trans ((HX.out.2.2.1.mono (by simp)).trans (Kept.store HX.out.1 (by simp) _ _))

end Go.Proofs.YtcpelncjagaadaaGreatDoor
