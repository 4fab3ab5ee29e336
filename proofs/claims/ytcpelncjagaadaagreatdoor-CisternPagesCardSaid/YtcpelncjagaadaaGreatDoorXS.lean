/-
  page: Checkpoint.
-/
import Derived.Test.YtcpelncjagaadaaGreatDoorXR
namespace Go.Proofs.YtcpelncjagaadaaGreatDoor
open Go.RowKit Go.Maps

attribute [local go_sem ↓] Go.wp_at_zero Go.wp_at_succ

def homesW (S : Sto) : List (Nat × Rec) := S.lasts.map fun x => (2 + S.L.sz + x.1, .home x.1 x.2)
def Sto.checkpoint (S : Sto) (D : RD) : Int × Sto × RD :=
  if S.lasts = [] then (0, S, D)
  else if (D.writes (homesW S)).1 ≠ 0 then ((D.writes (homesW S)).1, S, (D.writes (homesW S)).2)
  else if (D.writes (homesW S)).2.flush.1 ≠ 0 then ((D.writes (homesW S)).2.flush.1, S, (D.writes (homesW S)).2.flush.2)
  else if ((D.writes (homesW S)).2.flush.2.sup (S.gen + 1) S.epoch S.L.next).1 ≠ 0 then (((D.writes (homesW S)).2.flush.2.sup (S.gen + 1) S.epoch S.L.next).1, S, ((D.writes (homesW S)).2.flush.2.sup (S.gen + 1) S.epoch S.L.next).2)
  else (0, { S with gen := S.gen + 1, lasts := [], L := { S.L with tail := S.L.next } }, ((D.writes (homesW S)).2.flush.2.sup (S.gen + 1) S.epoch S.L.next).2)
theorem homesW_length (S : Sto) : (homesW S).length = S.lasts.length := by simp [homesW]
theorem homesW_take {S : Sto} {j : Nat} {x : Img} (h : S.lasts[j]? = some x) : (homesW S).take (j + 1) = (homesW S).take j ++ [(2 + S.L.sz + x.1, .home x.1 x.2)] := by
  rw [List.take_add_one]
  congr 1
  simp [homesW, h]
theorem homes_step {D : RD} {S : Sto} {j : Nat} {x : Img} (h : S.lasts[j]? = some x) (h0 : (D.writes ((homesW S).take j)).1 = 0) : D.writes ((homesW S).take (j + 1)) = (D.writes ((homesW S).take j)).2.write (2 + S.L.sz + x.1) (.home x.1 x.2) := by
  rw [homesW_take h, writes_snoc, if_pos h0]
theorem writes_ats {α : Type} (D : Dev α) (l : List (Nat × α)) : ∀ x ∈ (D.writes l).2.waits, x ∈ D.waits ∨ x ∈ l := by
  induction l generalizing D with
  | nil => exact fun x hx => .inl hx
  | cons a t ih =>
    intro x hx
    simp only [Dev.writes] at hx
    split at hx
    · rcases ih _ x hx with h | h
      · rcases write_cases D a.1 a.2 with h1 | h1
        · rw [h1.2] at h
          rcases List.mem_append.1 h with h | h
          · exact .inl h
          · simp at h; exact .inr (by rw [h]; simp)
        · rw [h1.2] at h; exact .inl h
      · exact .inr (by simp [h])
    · rcases write_cases D a.1 a.2 with h1 | h1
      · rw [h1.2] at hx
        rcases List.mem_append.1 hx with h | h
        · exact .inl h
        · simp at h; exact .inr (by rw [h]; simp)
      · rw [h1.2] at hx; exact .inl hx

/-- The device as a store's calls meet it. -/
def DevFit (D : RD) : Prop := DevOk D 0 ∨ D.off = true ∧ DevOk D 1000
theorem off_spend {α : Type} {D : Dev α} (h : D.off = true) : D.spend.1 = false := by unfold Dev.spend; repeat' split; all_goals first | rfl | (rename_i h2; exact absurd h h2)
theorem off_write {α : Type} {D : Dev α} (h : D.off = true) (a : Nat) (r : α) : (D.write a r).1 = 4 := by unfold Dev.write; rw [off_spend h]; rfl
theorem DevFit.len {D : RD} (h : DevFit D) (l : List (Nat × Rec)) (hl : l.length ≤ 900) (h0 : (D.writes l).1 = 0) : (D.writes l).2.waits.length ≤ 1000 := by
  rcases h with h | ⟨ho, h⟩
  · have := writes_len D l; have := h.len; omega
  · cases l with
    | nil => exact h.len
    | cons a t =>
      simp only [Dev.writes, off_write ho] at h0
      simp at h0
      rw [off_write ho] at h0
      cases h0
theorem DevFit.left {D : RD} (h : DevFit D) : D.left ≤ 1000 := h.elim (fun h => h.left) (fun h => h.2.left)
theorem DevFit.ats {D : RD} (h : DevFit D) : ∀ x ∈ D.waits, x.1 < D.n := h.elim (fun h => h.ats) (fun h => h.2.ats)
theorem flush_n {α : Type} (D : Dev α) : D.flush.2.n = D.n := by unfold Dev.flush; split <;> exact spend_n D
theorem flush_left {α : Type} (D : Dev α) (h : D.left ≤ 1000) : D.flush.2.left ≤ 1000 := by unfold Dev.flush; split <;> exact spend_left D h
theorem flush_empty {α : Type} {D : Dev α} (h : D.flush.1 = 0) : D.flush.2.waits = [] := by
  unfold Dev.flush at h ⊢
  split
  · rfl
  · rename_i hn; rw [if_neg hn] at h; cases h
theorem flush_waits {α : Type} {D : Dev α} (h : D.flush.1 = 4) : D.flush.2.waits = D.waits := by
  unfold Dev.flush at h ⊢
  split
  · rename_i hn; rw [if_pos hn] at h; cases h
  · exact spend_waits D
theorem homes_ats {S : Sto} {D : RD} (hS : S.ok) (hn : 2 + S.L.sz + S.pg ≤ D.n) (hd : ∀ x ∈ D.waits, x.1 < D.n) : ∀ x ∈ (D.writes (homesW S)).2.waits, x.1 < (D.writes (homesW S)).2.n := by
  intro x hx
  rw [writes_n]
  rcases writes_ats D (homesW S) x hx with h | h
  · exact hd x h
  · simp only [homesW, List.mem_map] at h
    obtain ⟨y, hy, rfl⟩ := h
    have := (hS.lasts.2 y hy).1
    simp only
    omega
theorem StoF.clearLasts [Inhabited Bs] {w w' : World} {a p q bl bw : Nat} {S : Sto} {D : RD} (h : StoF w a p q bl bw S D) (hm : MapAt w' bl []) (hg : w.grownBy w' (some bl)) : StoF w' a p q bl bw { S with lasts := [] } D ∧ Kept [none] w w' := by
  have hk := h.lasts.grown hg
  exact ⟨⟨h.blk.kept hk (by decide), h.log.kept hk (by decide), hm, h.waits.other hg h.ne.symm, h.ne, h.dev.kept hk (by decide) (by decide) (by decide) (by decide)⟩, hk⟩
def ChkPost [Inhabited Bs] (a p : Nat) (S : Sto) (D : RD) (w : World) (e : Ending) (w' : World) : Prop :=
  e = .returned (.int .i64 (S.checkpoint D).1) ∧ StoAt w' a p (S.checkpoint D).2.1 (S.checkpoint D).2.2 ∧ Kept stoT w w'

set_option maxRecDepth 100000 in
set_option maxHeartbeats 8000000 in
theorem checkpoint_any [Inhabited Bs] (a p q bl bw : Nat) (S : Sto) (D : RD) (w : World) (h : StoF w a p q bl bw S D) (hS : S.ok) (hn : 2 + S.L.sz + S.pg ≤ D.n) (hd : DevFit D) :
    Calls Tryz.prog 13 #[.pointer (some ⟨a, 0, none⟩)] w (ChkPost a p S D w) := by
  have c6 := h.blk.cell 6
  simp only [List.getElem?_toArray, List.getElem?_cons_zero, List.getElem?_cons_succ] at c6
  have hml := fun ty => map_len h.lasts ty
  have HH := Lib.hid h
  clear h
  by_cases hl0 : S.lasts = []
  · have HL := Lib.hid hl0
    rw [hl0] at hml
    clear hl0
    go_enter Tryz.func13, Tryz.ntmps13
    go_wp2_with fail
    go_ret
    refine ⟨?_, ?_, .refl _ _⟩
    · unfold Sto.checkpoint; rw [if_pos HL.out]; rfl
    · unfold Sto.checkpoint; rw [if_pos HL.out]; exact ⟨q, bl, bw, HH.out⟩
  · have t0 : ((S.lasts.length : Int) == 0) = false := by
      have : S.lasts.length ≠ 0 := fun e => hl0 (List.length_eq_zero_iff.1 e)
      simp; exact hl0
    have hll := hS.lasts.length
    have hpg := hS.pg
    have hkeys := sorted_any bl S.lasts w HH.out.lasts (by omega)
    have HK := Lib.hid hkeys
    have HL0 := Lib.hid hl0
    clear hkeys hl0
    go_enter Tryz.func13, Tryz.ntmps13
    go_wp2_with fail
    refine (keys_any _ _).mono ?_
    rintro e1 w1 ⟨rfl, rfl⟩
    go_wp2_with fail
    refine HK.out.mono ?_
    rintro e1 w1 ⟨v1, rfl, hr1, hf1⟩
    obtain ⟨A1, cap1, rfl⟩ := own_form hr1
    have H1 := Lib.hid (And.intro (own_base hr1 (Nat.zero_le _)) hf1)
    clear hr1 hf1 hml
    go_wp2_with fail
    go_loopw [28] (fun i wr => ∃ j : Nat, j ≤ S.lasts.length ∧ i = .int .i64 j ∧ (D.writes ((homesW S).take j)).1 = 0 ∧ StoF wr a p q bl bw S (D.writes ((homesW S).take j)).2 ∧ Kept devT w1 wr) (fun i _ => S.lasts.length - (intOf i).toNat)
    case atStart => exact ⟨0, Nat.zero_le _, rfl, rfl, HH.out.fresh H1.out.2, .refl _ _⟩
    case round =>
      obtain ⟨j, hj, rfl, hz, hst, hkp⟩ := hrel
      have HR := Lib.hid (And.intro hz (And.intro hst hkp))
      clear hz hst hkp
      by_cases hlt : j < S.lasts.length
      · obtain ⟨x, hx⟩ : ∃ x, S.lasts[j]? = some x := ⟨_, List.getElem?_eq_getElem hlt⟩
        have hxm : x ∈ S.lasts := List.mem_of_getElem? hx
        have hxo := hS.lasts.2 x hxm
        have how := own_kept H1.out.1 HR.out.2.2 (by decide)
        obtain ⟨g1, hA, -, hg1⟩ := own_addr how (by omega)
        subst hA
        have d0 := World.ownsRow.cellAt how j (by omega)
        rw [List.getElem?_map, hx] at d0
        simp only [Option.map_some] at d0
        have hlk := map_look HR.out.2.1.lasts x.1 (by omega)
        rw [look_mem hS.lasts.1 hxm] at hlk
        simp only [Option.getD_some] at hlk
        have c6 := HR.out.2.1.blk.cell 6
        simp only [List.getElem?_toArray, List.getElem?_cons_zero, List.getElem?_cons_succ] at c6
        have hst := homes_step (D := D) hx HR.out.1
        have hwl := hd.len ((homesW S).take j) (by rw [List.length_take, homesW_length]; omega) HR.out.1
        have hwn := writes_n D ((homesW S).take j)
        have hwf := writes_left D ((homesW S).take j) hd.left
        have hstop := writes_stop D (homesW S) (j + 1)
        rw [hst] at hstop
        have hok : (Rec.home x.1 x.2).ok := ⟨(by have h9 : 900 < big := (by decide); omega), hxo.2⟩
        have i0 : (0 : Int) ≤ j := by omega
        have i1 : (j : Int) < S.lasts.length := by omega
        generalize (D.writes ((homesW S).take j)).2 = D1 at *
        obtain ⟨m, hm⟩ : ∃ m, 2 + S.L.sz + x.1 = m := ⟨_, rfl⟩
        have hcH := fun W (hW : StoF W a p q bl bw S D1) => home_any a p q bl bw x.1 S D1 W hW hS.sz.2 (by omega)
        rw [hm] at hcH hst hstop
        have hmn : m < D1.n := by omega
        have hxc := write_cases D1 m (.home x.1 x.2)
        rcases hxx : D1.write m (.home x.1 x.2) with ⟨y, D2⟩
        rw [hxx] at hst hstop hxc
        have hy : y = 0 ∨ y = 4 := hxc.elim (fun h => .inl h.1) (fun h => .inr h.1)
        have HX := Lib.hid (And.intro hcH (And.intro hok (And.intro hst (And.intro hstop (And.intro hxx hwl)))))
        clear hcH hok hst hstop hxx hxc hwl how hm hwn hx
        go_wp2_with fail
        refine (encodeHome_any x.1 x.2 _ HX.out.2.1).mono ?_
        intro e3 w3 hg
        obtain ⟨v3, rfl, ho3, hf3⟩ := hg
        have H3 := Lib.hid (And.intro (HR.out.2.1.fresh hf3) (And.intro (own_base (b' := 0) ho3 (Nat.zero_le _)) hf3))
        have c0 := H3.out.1.blk.cell 0
        simp only [List.getElem?_toArray, List.getElem?_cons_zero] at c0
        clear ho3 hf3 d0 hlk c6
        go_wp2_with fail
        go_region_held3 (fun w' => w'.cell? ⟨a, 0, none⟩ = some (.pointer (some ⟨p, 0, none⟩)))
          (first | go_keep | exact k0)
          (first
            | (go_at_call 33; refine (HX.out.1 _ (H3.out.1.fresh (Touch.refl _ _).drew)).mono ?_; rintro e4 w4 ⟨rfl, rfl⟩)
            | (go_at_call 14; refine (write_any p D1 m v3 (.home x.1 x.2) _ (H3.out.1.dev.fresh (Touch.refl _ _).drew) hwf hmn (Rec.bytes_length HX.out.2.1) (Bytes.kept (T := []) H3.out.2.1 (Touch.refl _ _).drew (by simp)) HX.out.2.2.2.2.2).mono ?_; intro e4 w4 hp4; rw [HX.out.2.2.2.2.1] at hp4; obtain ⟨rfl, hd4, hk4⟩ := hp4; have hk4 : Kept devT w3 w4 := Touch.of_drew hk4; have H4 := Lib.hid (And.intro (H3.out.1.device hk4 hd4) hk4); have k0 := H4.out.1.blk.cell 0; clear hd4 hk4; simp only [List.getElem?_toArray, List.getElem?_cons_zero] at k0))
        rcases hy with rfl | rfl
        · go_wp2_with fail
          go_roundw
          case rel =>
            refine ⟨j + 1, by omega, by go_num, ?_, ?_, ?_⟩
            · rw [HX.out.2.2.1]
            · rw [HX.out.2.2.1]; exact H4.out.1
            · exact HR.out.2.2.trans ((Kept.of_fresh H3.out.2.2).trans H4.out.2)
          case measure => simp [intOf]; omega
        · go_wp2_with fail
          go_ret
          have hst := HX.out.2.2.2.1 (by simp)
          have e : S.checkpoint D = (4, S, D2) := by
            unfold Sto.checkpoint
            rw [if_neg HL0.out, hst, if_pos (by simp)]
          refine ⟨by rw [e]; rfl, by rw [e]; exact ⟨q, bl, bw, H4.out.1⟩, ?_⟩
          exact (Kept.of_fresh H1.out.2).trans ((HR.out.2.2.trans ((Kept.of_fresh H3.out.2.2).trans H4.out.2)).mono (by simp))
      · obtain rfl : j = S.lasts.length := by omega
        have et : (homesW S).take S.lasts.length = homesW S := List.take_of_length_le (by rw [homesW_length]; omega)
        rw [et] at HR
        have hwl := hd.len (homesW S) (by rw [homesW_length]; omega) HR.out.1
        have hwn := writes_n D (homesW S)
        have hwf := writes_left D (homesW S) hd.left
        have hwa := homes_ats hS hn hd.ats
        have hck : S.checkpoint D = if (D.writes (homesW S)).2.flush.1 ≠ 0 then ((D.writes (homesW S)).2.flush.1, S, (D.writes (homesW S)).2.flush.2)
          else if ((D.writes (homesW S)).2.flush.2.sup (S.gen + 1) S.epoch S.L.next).1 ≠ 0 then (((D.writes (homesW S)).2.flush.2.sup (S.gen + 1) S.epoch S.L.next).1, S, ((D.writes (homesW S)).2.flush.2.sup (S.gen + 1) S.epoch S.L.next).2)
          else (0, { S with gen := S.gen + 1, lasts := [], L := { S.L with tail := S.L.next } }, ((D.writes (homesW S)).2.flush.2.sup (S.gen + 1) S.epoch S.L.next).2) := by
          conv => lhs; unfold Sto.checkpoint
          rw [if_neg HL0.out, if_neg (by rw [HR.out.1]; simp)]
        generalize (D.writes (homesW S)).2 = D1 at *
        have hfc := flush_cases D1
        have hfe := fun h => flush_empty (D := D1) h
        have hfn := flush_n D1
        have hfl := flush_left D1 hwf
        have hcF := fun W (hW : DevAt Rec.bytes W p D1) => flush_any p D1 W hW hwf hwl hwa
        rcases hff : D1.flush with ⟨x, D2⟩
        rw [hff] at hfc hfe hfn hfl hcF hck
        simp only at hfc hfe hfn hfl hcF hck
        have HX := Lib.hid (And.intro hcF hck)
        clear hcF hck hff hwl hwa et
        have c0 := HR.out.2.1.blk.cell 0
        simp only [List.getElem?_toArray, List.getElem?_cons_zero] at c0
        go_wp2_with fail
        refine (HX.out.1 _ HR.out.2.1.dev).mono ?_
        rintro e3 w3 ⟨rfl, hd3, hk3⟩
        have H3 := Lib.hid (And.intro (HR.out.2.1.device hk3 hd3) (HR.out.2.2.trans hk3))
        clear hd3 hk3
        rcases hfc with rfl | rfl
        · have hw2 := hfe rfl
          have c1 := H3.out.1.blk.cell 1
          simp only [List.getElem?_toArray, List.getElem?_cons_zero, List.getElem?_cons_succ] at c1
          go_wp2_with fail
          refine (next_any q p S.L _ H3.out.1.log).mono ?_
          rintro e4 w4 ⟨rfl, rfl⟩
          have hck := HX.out.2
          rw [if_neg (by simp)] at hck
          have hsc := sup_cases D2 (S.gen + 1) S.epoch S.L.next
          have hsay := say_any a p q bl bw S.L.next S D2 _ H3.out.1 hS.gen hS.epoch hS.L.next (by omega) ⟨hfl, by rw [hw2]; simp, by rw [hw2]; simp⟩
          unfold Sto.say at hsay
          rcases hss : D2.sup (S.gen + 1) S.epoch S.L.next with ⟨y, D3⟩
          rw [hss] at hsc hsay hck
          simp only at hsc hsay hck
          have HY := Lib.hid (And.intro hsay hck)
          clear hsay hck hss c0 c1
          go_wp2_with fail
          refine HY.out.1.mono ?_
          rintro e5 w5 ⟨rfl, hs5, hk5⟩
          rcases hsc with rfl | rfl
          · rw [if_pos rfl] at hs5
            have c6 := hs5.blk.cell 6
            simp only [List.getElem?_toArray, List.getElem?_cons_zero, List.getElem?_cons_succ] at c6
            obtain ⟨w6, hrun, hm6, hg6⟩ := map_clear hs5.lasts
            obtain ⟨h6, hk6⟩ := hs5.clearLasts hm6 hg6
            have c1 := h6.blk.cell 1
            simp only [List.getElem?_toArray, List.getElem?_cons_zero, List.getElem?_cons_succ] at c1
            have H6 := Lib.hid (And.intro h6 (hk5.trans (hk6.mono (by simp))))
            clear hs5 hk5 hm6 hg6 h6 hk6
            go_wp2_with fail
            refine (ltrim_any q p S.L _ H6.out.1.log hS.L).mono ?_
            rintro e7 w7 ⟨rfl, hl7, hk7⟩
            have H7 := Lib.hid (And.intro hl7 hk7)
            clear hl7 hk7
            go_wp2_with fail
            go_ret
            have hck := HY.out.2
            rw [if_neg (by simp)] at hck
            have hk := H7.out.2
            have h6 := H6.out.1
            refine ⟨by rw [hck]; rfl, by rw [hck]; exact ⟨q, bl, bw, h6.blk.kept hk (by decide), H7.out.1, h6.lasts.kept hk (by decide), h6.waits.kept hk (by decide), h6.ne, h6.dev.kept hk (by decide) (by decide) (by decide) (by decide)⟩, ?_⟩
            exact (Kept.of_fresh H1.out.2).trans ((H3.out.2.mono (by simp)).trans (H6.out.2.trans (hk.mono (by simp))))
          · rw [if_neg (by simp)] at hs5
            have H5 := Lib.hid (And.intro hs5 hk5)
            clear hs5 hk5
            go_wp2_with fail
            go_ret
            have hck := HY.out.2
            rw [if_pos (by simp)] at hck
            refine ⟨by rw [hck]; rfl, by rw [hck]; exact ⟨q, bl, bw, H5.out.1⟩, ?_⟩
            exact (Kept.of_fresh H1.out.2).trans ((H3.out.2.mono (by simp)).trans H5.out.2)
        · go_wp2_with fail
          go_ret
          have hck := HX.out.2
          rw [if_pos (by simp)] at hck
          refine ⟨by rw [hck]; rfl, by rw [hck]; exact ⟨q, bl, bw, H3.out.1⟩, ?_⟩
          exact (Kept.of_fresh H1.out.2).trans (H3.out.2.mono (by simp))

end Go.Proofs.YtcpelncjagaadaaGreatDoor
