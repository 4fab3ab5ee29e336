/-
  page: Mount.
-/
import Derived.Test.YtcpelncjagaadaaGreatDoorXT
namespace Go.Proofs.YtcpelncjagaadaaGreatDoor
open Go.RowKit Go.Maps

attribute [local go_sem ↓] Go.wp_at_zero Go.wp_at_succ

def putImg (pg : Nat) (m : Mp) (x : Img) : Mp := if x.1 < pg then ins x.1 x.2 m else m
def applyTx (pg : Nat) (m : Mp) (l : List Img) : Mp := l.foldl (putImg pg) m
def applyAll (pg : Nat) (txs : List (List Img)) : Mp := txs.foldl (applyTx pg) []
theorem putImg_length (pg : Nat) (m : Mp) (x : Img) : (putImg pg m x).length ≤ m.length + 1 := by
  unfold putImg; split
  · exact ins_length _ _ _
  · omega
theorem applyTx_take {pg : Nat} {m : Mp} {l : List Img} {j : Nat} {x : Img} (h : l[j]? = some x) : applyTx pg m (l.take (j + 1)) = putImg pg (applyTx pg m (l.take j)) x := by
  unfold applyTx
  rw [List.take_add_one, List.foldl_append, h]; rfl
theorem applyAll_take {pg : Nat} {txs : List (List Img)} {j : Nat} {l : List Img} (h : txs[j]? = some l) : applyAll pg (txs.take (j + 1)) = applyTx pg (applyAll pg (txs.take j)) l := by
  unfold applyAll
  rw [List.take_add_one, List.foldl_append, h]; rfl
/-- The store that Mount makes, its super not yet written. -/
def mounted (z pg : Nat) (s : Nat → Sec Rec) (g e t : Nat) : Sto := ⟨⟨z, t, (scanL z s t (z + 1) t 0).2, e + 1⟩, pg, g, e + 1, applyAll pg (scanL z s t (z + 1) t 0).1, [], 0⟩
theorem PagesOk.put {pg : Nat} {m : Mp} {x : Img} (h : PagesOk pg m) (hx : x.2.size ≤ 160) : PagesOk pg (putImg pg m x) := by
  unfold putImg
  split
  · rename_i hlt
    refine ⟨ins_ok h.1, fun y hy => ?_⟩
    unfold ins at hy
    rcases insAt_mem.1 hy with rfl | hy
    · exact ⟨hlt, hx⟩
    · exact h.2 y (List.mem_filter.1 hy).1
  · exact h
theorem PagesOk.applyTx {pg : Nat} {m : Mp} {l : List Img} (h : PagesOk pg m) (hl : ∀ x ∈ l, x.2.size ≤ 160) : PagesOk pg (applyTx pg m l) := by
  unfold YtcpelncjagaadaaGreatDoor.applyTx
  induction l generalizing m with
  | nil => exact h
  | cons x t ih => exact ih (h.put (hl x (by simp))) (fun y hy => hl y (by simp [hy]))
theorem PagesOk.applyAll {pg : Nat} {txs : List (List Img)} (hl : ∀ l ∈ txs, ∀ x ∈ l, x.2.size ≤ 160) : PagesOk pg (applyAll pg txs) := by
  have h : ∀ (txs : List (List Img)) (m : Mp), PagesOk pg m → (∀ l ∈ txs, ∀ x ∈ l, x.2.size ≤ 160) → PagesOk pg (txs.foldl (YtcpelncjagaadaaGreatDoor.applyTx pg) m) := by
    intro txs
    induction txs with
    | nil => exact fun m h _ => h
    | cons x t ih => exact fun m h hl => ih _ (h.applyTx (hl x (by simp))) (fun y hy => hl y (by simp [hy]))
  exact h txs [] ⟨List.Pairwise.nil, by simp⟩ hl
theorem MapAt.made [Inhabited Bs] (w : World) (hlo : lo ≤ w.heap.size) : MapAt (w.alloc (.map #[] 0)) w.heap.size [] := ⟨World.ownsMap_made _ _ _ _, List.Pairwise.nil, hlo⟩

def MountPost [Inhabited Bs] (p : Nat) (S : Sto) (D : RD) (w : World) (e : Ending) (w' : World) : Prop :=
  ∃ a, e = .returned (.tuple #[.pointer (some ⟨a, 0, none⟩), .int .i64 0]) ∧ StoAt w' a p S D ∧ Kept stoT w w'

set_option maxRecDepth 100000 in
set_option maxHeartbeats 16000000 in
theorem mount_any [Inhabited Bs] (p z pg : Nat) (D : RD) (w : World) (h : DevAt Rec.bytes w p D) (hoff : D.off = false) (hw : D.waits = []) (hz : 4 ≤ z ∧ z ≤ 900) (hpg : 1 ≤ pg ∧ pg ≤ 900) (hn : 2 + z + pg ≤ D.n) (hleft : D.left ≤ 1000) (hs : ∀ j, j < 2 → SupSec (D.s j)) (hsl : ∀ j, LogSec (D.s (2 + j % z))) (g e t : Nat) (hb : bestTo D.s 2 = some (g, e, t)) (hg : g + 1 ≤ 1000000 ∧ e + 1 ≤ 1000000 ∧ t + z ≤ 1000000) (hx : (D.sup (g + 1) (e + 1) t).1 = 0)
    (htx : ∀ l ∈ (scanL z D.s t (z + 1) t 0).1, l.length ≤ 1000) (htl : (scanL z D.s t (z + 1) t 0).1.length ≤ 1000) (hsz : ∀ l ∈ (scanL z D.s t (z + 1) t 0).1, ∀ x ∈ l, x.2.size ≤ 160) :
    Calls Tryz.prog 7 #[.pointer (some ⟨p, 0, none⟩), .int .i64 z, .int .i64 pg] w (MountPost p { mounted z pg D.s g e t with gen := g + 1 } (D.sup (g + 1) (e + 1) t).2 w) := by
  have hmm := @run_makeMap Tryz.prog
  have HH := Lib.hid (And.intro h (And.intro hs (And.intro hsl (And.intro hb (And.intro htx hsz)))))
  clear h hs hsl hb htx hsz
  have ee : IntKind.i64.wrap ((e : Int) + 1) = (e : Int) + 1 := by rw [IntKind.wrap_i64]; omega
  go_enter Tryz.func7, Tryz.ntmps7
  go_wp2_with fail
  refine (fits_any p z pg D _ HH.out.1 hz hpg hn).mono ?_
  rintro e1 w1 ⟨rfl, rfl⟩
  go_wp2_with fail
  refine (newest_any p D _ HH.out.1 hoff hw (by omega) HH.out.2.1 g e t HH.out.2.2.2.1 (by omega)).mono ?_
  rintro e1 w1 ⟨rfl, hf1⟩
  have H1 := Lib.hid hf1
  clear hf1
  go_wp2_with fail
  have hB8 := (((Blk.new w1 55 #[.int .i64 g, .int .i64 e, .int .i64 t]).alloc (.map #[] 0)).alloc (.map #[] 0)).alloc (.cells #[.pointer (some ⟨p, 0, none⟩), .pointer none, .int .i64 z, .int .i64 pg, .int .i64 g, .int .i64 ((e : Int) + 1), .map (some (w1.heap.size + 1)), .map (some (w1.heap.size + 1 + 1)), .int .i64 0] 61)
  have hlo1 : lo ≤ w1.heap.size := Nat.le_trans HH.out.1.lo_le H1.out.size
  have hml := (MapAt.made (w1.alloc (.cells #[.int .i64 g, .int .i64 e, .int .i64 t] 55)) (by simp; omega)).touch (S := fun _ => False) (((Touch.refl _ _).alloc (.map #[] 0)).alloc (.cells #[.pointer (some ⟨p, 0, none⟩), .pointer none, .int .i64 z, .int .i64 pg, .int .i64 g, .int .i64 ((e : Int) + 1), .map (some (w1.heap.size + 1)), .map (some (w1.heap.size + 1 + 1)), .int .i64 0] 61)) id
  have hmw := (MapAt.made ((w1.alloc (.cells #[.int .i64 g, .int .i64 e, .int .i64 t] 55)).alloc (.map #[] 0)) (by simp; omega)).touch (S := fun _ => False) ((Touch.refl _ _).alloc (.cells #[.pointer (some ⟨p, 0, none⟩), .pointer none, .int .i64 z, .int .i64 pg, .int .i64 g, .int .i64 ((e : Int) + 1), .map (some (w1.heap.size + 1)), .map (some (w1.heap.size + 1 + 1)), .int .i64 0] 61)) id
  have hA := Blk.new (((w1.alloc (.cells #[.int .i64 g, .int .i64 e, .int .i64 t] 55)).alloc (.map #[] 0)).alloc (.map #[] 0)) 61 #[.pointer (some ⟨p, 0, none⟩), .pointer none, .int .i64 z, .int .i64 pg, .int .i64 g, .int .i64 ((e : Int) + 1), .map (some (w1.heap.size + 1)), .map (some (w1.heap.size + 1 + 1)), .int .i64 0]
  have hFX := (((H1.out.alloc (.cells #[.int .i64 g, .int .i64 e, .int .i64 t] 55)).alloc (.map #[] 0)).alloc (.map #[] 0)).alloc (.cells #[.pointer (some ⟨p, 0, none⟩), .pointer none, .int .i64 z, .int .i64 pg, .int .i64 g, .int .i64 ((e : Int) + 1), .map (some (w1.heap.size + 1)), .map (some (w1.heap.size + 1 + 1)), .int .i64 0] 61)
  simp only [World.size_alloc] at hml hmw hA
  have hs8 := H1.out.size
  generalize (((w1.alloc (.cells #[.int .i64 g, .int .i64 e, .int .i64 t] 55)).alloc (.map #[] 0)).alloc (.map #[] 0)).alloc (.cells #[.pointer (some ⟨p, 0, none⟩), .pointer none, .int .i64 z, .int .i64 pg, .int .i64 g, .int .i64 ((e : Int) + 1), .map (some (w1.heap.size + 1)), .map (some (w1.heap.size + 1 + 1)), .int .i64 0] 61) = X at *
  generalize w1.heap.size = b8 at *
  obtain ⟨bl, hbl⟩ : ∃ bl, b8 + 1 = bl := ⟨_, rfl⟩
  obtain ⟨bw, hbw⟩ : ∃ bw, bl + 1 = bw := ⟨_, rfl⟩
  obtain ⟨a, ha⟩ : ∃ a, bw + 1 = a := ⟨_, rfl⟩
  rw [hbl] at hml hmw hA
  rw [hbw] at hmw hA
  rw [ha] at hA
  rw [hbl, hbw, ha]
  have HX := Lib.hid (And.intro hB8 (And.intro hml (And.intro hmw (And.intro hA (And.intro hFX (And.intro hbl (And.intro hbw (And.intro ha hs8))))))))
  have c2 := hB8.cell 2
  have c5 := hA.cell 5
  have hop := fun W (hW : DevAt Rec.bytes W p D) => open_log p z t (e + 1) D W hW hoff hw (by omega) (by omega) (by omega) (by omega) HH.out.2.2.1
  rw [Int.natCast_add, show ((1 : Nat) : Int) = 1 from rfl] at hop
  simp only [List.getElem?_toArray, List.getElem?_cons_zero, List.getElem?_cons_succ] at c2 c5
  clear hB8 hml hmw hA hFX hbl hbw ha hs8 hmm
  have HO := Lib.hid hop
  clear hop
  go_wp2_with fail
  go_region_held3 (fun w' => w'.cell? ⟨b8, 2, none⟩ = some (.int .i64 t) ∧ w'.cell? ⟨a, 5, none⟩ = some (.int .i64 ((e : Int) + 1)))
    (first | go_keep | exact ⟨k2, k5⟩)
    (((go_at_call 22; refine (HO.out _ (HH.out.1.fresh (HX.out.2.2.2.2.1.drew))).mono ?_; intro e2 w2 hg2; obtain ⟨q, v, rfl, hq, hlog, htxs, hf2⟩ := hg2; have hf2 : Fresh X w2 := hf2.of_drew; have k2 := hf2.val c2 id; have k5 := hf2.val c5 id; have H2 := Lib.hid (And.intro hlog (And.intro htxs hf2)); clear hlog htxs hf2 hq)))
  have hA2 : BlkL w2 a 61 _ := ⟨HX.out.2.2.2.1.touch H2.out.2.2 id, by have := HX.out.2.2.2.2.2; omega⟩
  have k1 := hA2.cell 1
  have s1 := hA2.soft 1
  simp only [List.getElem?_toArray, List.getElem?_cons_zero, List.getElem?_cons_succ] at k1
  obtain ⟨S0, hS0⟩ : ∃ S0, mounted z pg D.s g e t = S0 := ⟨_, rfl⟩
  obtain ⟨txs, htxs⟩ : ∃ txs, (scanL z D.s t (z + 1) t 0).1 = txs := ⟨_, rfl⟩
  have hlasts : S0.lasts = applyAll pg txs := by rw [← hS0, ← htxs]; rfl
  have hHt := HH.out.2.2.2.2
  rw [htxs] at hHt htl
  have hst : StoF (w2.setCell ⟨a, 1, none⟩ (.pointer (some ⟨q, 0, none⟩))) a p q bl bw { S0 with lasts := [] } D ∧ Blk (w2.setCell ⟨a, 1, none⟩ (.pointer (some ⟨q, 0, none⟩))) b8 55 #[.int .i64 g, .int .i64 e, .int .i64 t] ∧ (∃ xs, TxsAt (w2.setCell ⟨a, 1, none⟩ (.pointer (some ⟨q, 0, none⟩))) xs v txs) ∧ Fresh w (w2.setCell ⟨a, 1, none⟩ (.pointer (some ⟨q, 0, none⟩))) := by
    have hk : Kept [some 61] w2 (w2.setCell ⟨a, 1, none⟩ (.pointer (some ⟨q, 0, none⟩))) := .store hA2 (by simp) _ _
    obtain ⟨hb8, hml, hmw, -, hFX, hbl, hbw, ha, hs8⟩ := HX.out
    have hB := hA2.set 1 (.pointer (some ⟨q, 0, none⟩))
    simp only [List.setIfInBounds_toArray, List.set_cons_zero, List.set_cons_succ] at hB
    refine ⟨⟨?_, ?_, (hml.touch H2.out.2.2 id).kept hk (by decide), ?_, by omega, ((HH.out.1.fresh hFX).fresh H2.out.2.2).kept hk (by decide) (by decide) (by decide) (by decide)⟩, (hb8.touch H2.out.2.2 id).kept hk (by decide), ⟨_, by rw [← htxs]; exact H2.out.2.1.kept hk (by decide) (by decide)⟩, (hFX.both H2.out.2.2).setCell _ _ (fun hh => absurd hh (by simp only; omega))⟩
    · rw [← hS0]; exact hB
    · rw [← hS0]; exact LogAt.kept H2.out.1 hk (by decide)
    · rw [← hS0]; exact (hmw.touch H2.out.2.2 id).kept hk (by decide)
  have HS := Lib.hid (And.intro hS0 (And.intro htxs (And.intro hlasts (And.intro hHt hst))))
  have hpg0 : S0.pg = pg := by rw [← hS0]; rfl
  have hvf : ∃ A cap, v = .slice A txs.length cap := by
    obtain ⟨xs0, ho0, -⟩ := H2.out.2.1
    rw [← htxs]
    exact own_form ho0
  obtain ⟨A, cap, rfl⟩ := hvf
  clear hA2 hst hS0 htxs hlasts hHt c2 c5 k2 k5
  go_wp2_with fail
  go_loopw [65] (fun i wr => ∃ j : Nat, j ≤ txs.length ∧ i = .int .i64 j ∧ StoF wr a p q bl bw { S0 with lasts := applyAll pg (txs.take j) } D ∧ Blk wr b8 55 #[.int .i64 g, .int .i64 e, .int .i64 t] ∧ (∃ bs, TxsAt wr bs (.slice A txs.length cap) txs) ∧ Fresh w wr) (fun i _ => txs.length - (intOf i).toNat)
  case atStart => exact ⟨0, Nat.zero_le _, rfl, HS.out.2.2.2.2.1, HS.out.2.2.2.2.2.1, HS.out.2.2.2.2.2.2.1, HS.out.2.2.2.2.2.2.2⟩
  case round =>
    obtain ⟨j, hj, rfl, hst, hb8, ⟨bs, htx⟩, hF⟩ := hrel
    have HR := Lib.hid (And.intro hst (And.intro hb8 (And.intro htx hF)))
    clear hst hb8 htx hF
    by_cases hlt : j < txs.length
    · obtain ⟨l, hl⟩ : ∃ l, txs[j]? = some l := ⟨_, List.getElem?_eq_getElem hlt⟩
      have hlm : l ∈ txs := List.mem_of_getElem? hl
      have hll := HS.out.2.2.2.1.1 l hlm
      have hls := HS.out.2.2.2.1.2 l hlm
      obtain ⟨xs, ho, hc⟩ := HR.out.2.2.1
      obtain ⟨u, hu, hur⟩ := hc j hlt
      have e1 : txs[j] = l := by rw [List.getElem?_eq_getElem hlt] at hl; exact Option.some.inj hl
      rw [e1] at hur
      obtain ⟨A2, cap2, rfl⟩ := own_form hur
      obtain ⟨g1, hA, -, hg1⟩ := own_addr ho (by omega)
      subst hA
      have d0 := World.ownsRow.cellAt ho j (by omega)
      rw [hu] at d0
      have hpo : PagesOk pg (applyAll pg (txs.take j)) := PagesOk.applyAll (fun y hy => HS.out.2.2.2.1.2 y (List.mem_of_mem_take hy))
      have i0 : (0 : Int) ≤ j := by omega
      have i1 : (j : Int) < txs.length := by omega
      have HL := Lib.hid (And.intro (applyAll_take (pg := pg) hl) (And.intro hls (And.intro hpo hur)))
      clear ho hc hu hur e1 hl hlm hls hpo
      go_wp2_with fail
      obtain ⟨wo, rfl⟩ : ∃ wo, wo = wr := ⟨wr, rfl⟩
      go_loopw [71] (fun i wx => ∃ k : Nat, k ≤ l.length ∧ i = .int .i64 k ∧ StoF wx a p q bl bw { S0 with lasts := applyTx pg (applyAll pg (txs.take j)) (l.take k) } D ∧ Kept [none] wo wx ∧ Fresh w wx) (fun i _ => l.length - (intOf i).toNat)
      case atStart => exact ⟨0, Nat.zero_le _, rfl, HR.out.1, .refl _ _, HR.out.2.2.2⟩
      case round =>
        obtain ⟨k, hk, rfl, hst, hkp, hF⟩ := hrel
        have HQ := Lib.hid (And.intro hst (And.intro hkp hF))
        clear hst hkp hF
        by_cases hlt2 : k < l.length
        · obtain ⟨x, hx⟩ : ∃ x, l[k]? = some x := ⟨_, List.getElem?_eq_getElem hlt2⟩
          have hxs := HL.out.2.1 x (List.mem_of_getElem? hx)
          have how := own_kept HL.out.2.2.2 HQ.out.2.1 (by decide)
          obtain ⟨g2, hA, -, hg2⟩ := own_addr how (by omega)
          subst hA
          have y := imgCells_get l k hlt2
          have d0 := World.ownsRow.cellAt how (k * 2) (by omega)
          have d1 := World.ownsRow.cellAt how (k * 2 + 1) (by omega)
          rw [y.1] at d0
          rw [y.2] at d1
          have ex : l.getD k (0, ⟨#[]⟩) = x := by simp [List.getD, hx]
          rw [ex] at d0 d1
          have i2 : (0 : Int) ≤ k := by omega
          have i3 : (k : Int) < l.length := by omega
          have hpo : PagesOk pg (applyTx pg (applyAll pg (txs.take j)) (l.take k)) := HL.out.2.2.1.applyTx (fun y hy => HL.out.2.1 y (List.mem_of_mem_take hy))
          have hplen := hpo.length
          have HT := Lib.hid (applyTx_take (pg := pg) (m := applyAll pg (txs.take j)) hx)
          clear y how hpo ex hx
          by_cases hlp : x.1 < pg
          · have t1 : decide ((x.1 : Int) < pg) = true := by simp; omega
            have hfa : Fresh wr (wr.alloc (.cells #[.int .i64 x.1, .string x.2] 67)).drew := ((Touch.refl _ wr).alloc _).drew
            have hsa := HQ.out.1.fresh hfa
            obtain ⟨w5, hrun, hm5, hg5⟩ := map_store hsa.lasts x.1 x.2 (by omega) (by unfold maxLen; omega) (by unfold maxLen; show List.length (applyTx pg (applyAll pg (txs.take j)) (l.take k)) < _; omega)
            have c6 := hsa.blk.cell 6
            simp only [List.getElem?_toArray, List.getElem?_cons_zero, List.getElem?_cons_succ] at c6
            go_wp2_with fail
            go_region
            have hk5 := hsa.lasts.grown hg5
            have H5 := Lib.hid (And.intro (show StoF w5 a p q bl bw { S0 with lasts := ins x.1 x.2 (applyTx pg (applyAll pg (txs.take j)) (l.take k)) } D from ⟨hsa.blk.kept hk5 (by decide), hsa.log.kept hk5 (by decide), hm5, hsa.waits.other hg5 hsa.ne.symm, hsa.ne, hsa.dev.kept hk5 (by decide) (by decide) (by decide) (by decide)⟩) (And.intro (HQ.out.2.1.trans ((Kept.of_fresh hfa).trans hk5)) ((HQ.out.2.2.both hfa).grown hg5 (fun b e hb => absurd hb (by injection e with e; have := HX.out.2.2.2.2.2; omega)))))
            clear hk5 hsa hfa hm5 hg5 hrun c6
            go_wp2_with fail
            go_roundw
            case rel =>
              refine ⟨k + 1, by omega, by go_num, ?_, H5.out.2.1, H5.out.2.2⟩
              rw [HT.out]
              unfold putImg
              rw [if_pos hlp]
              exact H5.out.1
            case measure => simp [intOf]; omega
          · have t1 : decide ((x.1 : Int) < pg) = false := by simp; omega
            go_wp2_with fail
            go_roundw
            case rel =>
              refine ⟨k + 1, by omega, by go_num, ?_, HQ.out.2.1.trans (Kept.of_fresh ((Touch.refl _ wr).alloc _)), HQ.out.2.2.alloc _⟩
              rw [HT.out]
              unfold putImg
              rw [if_neg hlp]
              exact HQ.out.1.fresh ((Touch.refl _ wr).alloc _)
            case measure => simp [intOf]; omega
        · obtain rfl : k = l.length := by omega
          have HE := HQ.out
          rw [List.take_length, ← HL.out.1] at HE
          have HE := Lib.hid HE
          go_wp2_with fail
          go_roundw
          case rel => exact ⟨j + 1, by omega, by go_num, HE.out.1, HR.out.2.1.kept HE.out.2.1 (by decide), ⟨_, HR.out.2.2.1.kept HE.out.2.1 (by decide) (by decide)⟩, HE.out.2.2⟩
          case measure => simp [intOf]; omega
    · obtain rfl : j = txs.length := by omega
      have hst := HR.out.1
      rw [List.take_length, ← HS.out.2.2.1] at hst
      have hst : StoF wr a p q bl bw S0 D := hst
      have hgen : S0.gen = g := by rw [← HS.out.1]; rfl
      have hepo : S0.epoch = e + 1 := by rw [← HS.out.1]; rfl
      have hsay := say_any a p q bl bw t S0 D _ hst (by omega) (by omega) (by omega) (by omega) ⟨hleft, by rw [hw]; simp, by rw [hw]; simp⟩
      unfold Sto.say at hsay
      rw [hgen, hepo, hx, if_pos rfl] at hsay
      have c2 := HR.out.2.1.cell 2
      simp only [List.getElem?_toArray, List.getElem?_cons_zero, List.getElem?_cons_succ] at c2
      have HY := Lib.hid hsay
      have HEP := Lib.hid hepo
      clear hsay hst hgen hepo
      go_wp2_with fail
      refine HY.out.mono ?_
      rintro e6 w6 ⟨rfl, hs6, hk6⟩
      have H6 := Lib.hid (And.intro hs6 hk6)
      clear hs6 hk6
      go_wp2_with fail
      go_ret2
      rw [HS.out.1]
      exact ⟨a, rfl, ⟨q, bl, bw, by rw [HEP.out]; exact H6.out.1⟩, (Kept.of_fresh HR.out.2.2.2).trans H6.out.2⟩

end Go.Proofs.YtcpelncjagaadaaGreatDoor
