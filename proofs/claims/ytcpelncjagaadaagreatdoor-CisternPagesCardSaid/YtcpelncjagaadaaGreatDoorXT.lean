/-
  page: Commit. (Printed by gencommit.py.)
-/
import Derived.Test.YtcpelncjagaadaaGreatDoorXS
namespace Go.Proofs.YtcpelncjagaadaaGreatDoor
open Go.RowKit Go.Maps

attribute [local go_sem ↓] Go.wp_at_zero Go.wp_at_succ

/-- The log is moved on behind a transaction. -/
def Sto.logged (S : Sto) : Sto := { S with L := { S.L with next := S.L.next + S.waits.length + 1 } }
def Sto.done (S : Sto) : Sto := { S.logged with lasts := merge S.lasts S.waits, waits := [], turn := S.turn + 1 }
def Sto.append (S : Sto) (D : RD) : Int × Sto × RD :=
  if (D.writes (txWs S.L S.waits)).1 ≠ 0 then ((D.writes (txWs S.L S.waits)).1, S, (D.writes (txWs S.L S.waits)).2)
  else if (D.writes (txWs S.L S.waits)).2.flush.1 ≠ 0 then ((D.writes (txWs S.L S.waits)).2.flush.1, S.logged, (D.writes (txWs S.L S.waits)).2.flush.2)
  else (0, S.done, (D.writes (txWs S.L S.waits)).2.flush.2)
def Sto.commit (S : Sto) (D : RD) : Int × Sto × RD :=
  if S.waits = [] then (D.flush.1, S, D.flush.2)
  else if S.waits.length + 1 > S.L.sz then (5, S, D)
  else if D.flush.1 ≠ 0 then (D.flush.1, S, D.flush.2)
  else if S.waits.length + 1 > S.L.sz - (S.L.next - S.L.tail) then
    if (S.checkpoint D.flush.2).1 ≠ 0 then S.checkpoint D.flush.2 else (S.checkpoint D.flush.2).2.1.append (S.checkpoint D.flush.2).2.2
  else S.append D.flush.2
def ComPost [Inhabited Bs] (a p : Nat) (S : Sto) (D : RD) (w : World) (e : Ending) (w' : World) : Prop :=
  e = .returned (.int .i64 (S.commit D).1) ∧ StoAt w' a p (S.commit D).2.1 (S.commit D).2.2 ∧ Kept stoT w w'
theorem writes_cases {α : Type} (D : Dev α) (l : List (Nat × α)) : (D.writes l).1 = 0 ∨ (D.writes l).1 = 4 := by
  induction l generalizing D with
  | nil => exact .inl rfl
  | cons a t ih =>
    simp only [Dev.writes]
    split
    · exact ih _
    · rename_i h
      rcases write_cases D a.1 a.2 with h1 | h1
      · exact absurd h1.1 h
      · exact .inr h1.1
theorem txWs_ats {L : Wal} {l : List Img} {n : Nat} (hz : 2 ≤ L.sz) (hn : 2 + L.sz ≤ n) : ∀ x ∈ txWs L l, x.1 < n := by
  intro x hx
  simp only [txWs, List.mem_map] at hx
  obtain ⟨r, -, rfl⟩ := hx
  have := Nat.mod_lt r.s (show L.sz > 0 by omega)
  simp only
  omega
theorem StoF.clearWaits [Inhabited Bs] {w w' : World} {a p q bl bw : Nat} {S : Sto} {D : RD} (h : StoF w a p q bl bw S D) (hm : MapAt w' bw []) (hg : w.grownBy w' (some bw)) : StoF w' a p q bl bw { S with waits := [] } D ∧ Kept [none] w w' := by
  have hk := h.waits.grown hg
  exact ⟨⟨h.blk.kept hk (by decide), h.log.kept hk (by decide), h.lasts.other hg h.ne, hm, h.ne, h.dev.kept hk (by decide) (by decide) (by decide) (by decide)⟩, hk⟩
theorem StoF.turn [Inhabited Bs] {w : World} {a p q bl bw : Nat} {S : Sto} {D : RD} (h : StoF w a p q bl bw S D) (g : Nat) : StoF (w.setCell ⟨a, 8, none⟩ (.int .i64 (g : Nat))) a p q bl bw { S with turn := g } D ∧ Kept [some 61] w (w.setCell ⟨a, 8, none⟩ (.int .i64 (g : Nat))) := by
  have hk : Kept [some 61] w (w.setCell ⟨a, 8, none⟩ (.int .i64 (g : Nat))) := .store h.blk (by simp) _ _
  exact ⟨⟨h.blk.set 8 _, h.log.kept hk (by decide), h.lasts.kept hk (by decide), h.waits.kept hk (by decide), h.ne, h.dev.kept hk (by decide) (by decide) (by decide) (by decide)⟩, hk⟩
theorem imgCells_take {l : List Img} {j : Nat} {x : Img} (h : l[j]? = some x) : imgCells (l.take (j + 1)) = imgCells (l.take j) ++ [.int .i64 x.1, .string x.2] := by
  rw [List.take_add_one, imgCells_append, h]; rfl

theorem off_flush {α : Type} {D : Dev α} (h : D.off = true) : D.flush.1 = 4 := by unfold Dev.flush; rw [off_spend h]; rfl
/-- What Commit asks. -/
structure ComFit (S : Sto) (D : RD) : Prop where
  ok : S.ok
  full : D.off = false → S.lasts = [] → S.L.tail = S.L.next
  n : 2 + S.L.sz + S.pg ≤ D.n
  fit : DevFit D
  on : D.off = false → D.waits = []

theorem chk_room {S : Sto} {D : RD} (h : (S.checkpoint D).1 = 0) (hf : S.lasts = [] → S.L.tail = S.L.next) : (S.checkpoint D).2.1.L.tail = (S.checkpoint D).2.1.L.next ∧ (S.checkpoint D).2.1.L.sz = S.L.sz ∧ (S.checkpoint D).2.1.waits = S.waits ∧ (S.checkpoint D).2.1.lasts = [] ∧ (S.checkpoint D).2.1.L.next = S.L.next ∧ (S.checkpoint D).2.1.L.epoch = S.L.epoch ∧ (S.checkpoint D).2.1.pg = S.pg ∧ (S.checkpoint D).2.1.gen ≤ S.gen + 1 ∧ (S.checkpoint D).2.1.epoch = S.epoch ∧ (S.checkpoint D).2.1.turn = S.turn := by
  unfold Sto.checkpoint at h ⊢
  split
  · rename_i h0; exact ⟨hf h0, rfl, rfl, h0, rfl, rfl, rfl, Nat.le_succ _, rfl, rfl⟩
  · rename_i h0
    rw [if_neg h0] at h
    split
    · rename_i h1; rw [if_pos h1] at h; exact absurd h h1
    · rename_i h1
      rw [if_neg h1] at h
      split
      · rename_i h2; rw [if_pos h2] at h; exact absurd h h2
      · rename_i h2
        rw [if_neg h2] at h
        split
        · rename_i h3; rw [if_pos h3] at h; exact absurd h h3
        · exact ⟨rfl, rfl, rfl, rfl, rfl, rfl, rfl, Nat.le_refl _, rfl, rfl⟩
theorem sup_empty {D : RD} {g e t : Nat} (h : (D.sup g e t).1 = 0) : (D.sup g e t).2.waits = [] := by
  unfold Dev.sup at h ⊢
  split
  · rename_i h0; rw [if_pos h0] at h; exact flush_empty h
  · rename_i h0; rw [if_neg h0] at h; exact absurd h h0
theorem sup_n (D : RD) (g e t : Nat) : (D.sup g e t).2.n = D.n := by
  unfold Dev.sup; split
  · rw [flush_n, write_n]
  · rw [write_n]
theorem sup_left (D : RD) (g e t : Nat) (h : D.left ≤ 1000) : (D.sup g e t).2.left ≤ 1000 := by
  unfold Dev.sup; split
  · exact flush_left _ (write_left _ _ _ h)
  · exact write_left _ _ _ h
theorem chk_dev {S : Sto} {D : RD} (h : (S.checkpoint D).1 = 0) (hw : D.waits = []) (hl : D.left ≤ 1000) : (S.checkpoint D).2.2.waits = [] ∧ (S.checkpoint D).2.2.left ≤ 1000 ∧ (S.checkpoint D).2.2.n = D.n := by
  unfold Sto.checkpoint at h ⊢
  split
  · exact ⟨hw, hl, rfl⟩
  · rename_i h0
    rw [if_neg h0] at h
    split
    · rename_i h1; rw [if_pos h1] at h; exact absurd h h1
    · rename_i h1
      rw [if_neg h1] at h
      split
      · rename_i h2; rw [if_pos h2] at h; exact absurd h h2
      · rename_i h2
        rw [if_neg h2] at h
        split
        · rename_i h3; rw [if_pos h3] at h; exact absurd h h3
        · rename_i h3
          have h3 : ((D.writes (homesW S)).2.flush.2.sup (S.gen + 1) S.epoch S.L.next).1 = 0 := by
            rcases sup_cases (D.writes (homesW S)).2.flush.2 (S.gen + 1) S.epoch S.L.next with h4 | h4
            · exact h4
            · exact absurd (by rw [h4]; simp) h3
          exact ⟨sup_empty h3, sup_left _ _ _ _ (flush_left _ (writes_left _ _ hl)), by rw [sup_n, flush_n, writes_n]⟩
theorem chk_cases (S : Sto) (D : RD) : (S.checkpoint D).1 = 0 ∨ (S.checkpoint D).1 = 4 := by
  unfold Sto.checkpoint
  split
  · exact .inl rfl
  · split
    · rename_i h; exact (writes_cases D (homesW S)).elim (fun h1 => absurd h1 h) .inr
    · split
      · rename_i h; exact (flush_cases _).elim (fun h1 => absurd h1 h) .inr
      · split
        · rename_i h; exact (sup_cases _ _ _ _).elim (fun h1 => absurd h1 h) .inr
        · exact .inl rfl
theorem chk_ok {S : Sto} {D : RD} (hS : S.ok) (hg : S.gen + 1 ≤ 1000000) (h : (S.checkpoint D).1 = 0) (hf : S.lasts = [] → S.L.tail = S.L.next) : (S.checkpoint D).2.1.ok := by
  obtain ⟨h1, h2, h3, h4, h5, h6, h7, h8, h9, h10⟩ := chk_room h hf
  have hL := hS.L
  have hsz := hS.sz
  refine ⟨⟨by omega, by have := hL.sz; omega, by rw [h2]; exact hL.sz, by rw [h5]; exact hL.next, by rw [h6]; exact hL.epoch⟩, by rw [h2]; exact hS.sz, by rw [h7]; exact hS.pg, by omega, by rw [h9]; exact hS.epoch, by rw [h10]; exact hS.turn, ?_, ?_⟩
  · rw [h4]; exact ⟨List.Pairwise.nil, by simp⟩
  · rw [h3, h7]; exact hS.waits

set_option maxRecDepth 100000 in
set_option maxHeartbeats 16000000 in
theorem commit_any [Inhabited Bs] (a p q bl bw : Nat) (S : Sto) (D : RD) (w : World) (h : StoF w a p q bl bw S D) (hC : ComFit S D) (hg : S.gen + 1 ≤ 1000000) :
    Calls Tryz.prog 9 #[.pointer (some ⟨a, 0, none⟩)] w (ComPost a p S D w) := by
  have hS := hC.ok
  have hd := hC.fit
  have hn := hC.n
  have c0 := h.blk.cell 0
  have c1 := h.blk.cell 1
  have c2 := h.blk.cell 2
  have c7 := h.blk.cell 7
  simp only [List.getElem?_toArray, List.getElem?_cons_zero, List.getElem?_cons_succ] at c0 c1 c2 c7
  have hml := fun ty => map_len h.waits ty
  have hmlq := fun ty => map_len (h.waits.touch (S := fun _ => False) (Touch.refl _ w).drew id) ty
  have hll := hS.waits.length
  have hpg := hS.pg
  have hfl := flush_left D hd.left
  have hfn := flush_n D
  have hfe := fun h => flush_empty (D := D) h
  have hfc := flush_cases D
  have hfo := fun h => off_flush (D := D) h
  have hcF := fun W (hW : DevAt Rec.bytes W p D) => flush_any p D W hW hd.left (by rcases hd with h | h; have := h.len; omega; exact h.2.len) hd.ats
  have hcm : S.commit D = S.commit D := rfl
  conv at hcm => rhs; unfold Sto.commit
  rcases hff : D.flush with ⟨x, D2⟩
  rw [hff] at hfl hfn hfe hfc hfo hcF hcm
  simp only at hfl hfn hfe hfc hfo hcF hcm
  have hoff : x = 0 → D.off = false := fun h => by
    cases ho : D.off with
    | false => rfl
    | true => rw [h] at hfo; cases hfo ho
  clear hfo
  have HH := Lib.hid (And.intro h (And.intro hcF hcm))
  clear h hcF hcm hff
  by_cases hl0 : S.waits = []
  · have HL := Lib.hid hl0
    rw [hl0] at hml
    clear hl0 hmlq
    go_enter Tryz.func9, Tryz.ntmps9
    go_wp2_with fail
    refine (HH.out.2.1 _ HH.out.1.dev).mono ?_
    rintro e3 w3 ⟨rfl, hd3, hk3⟩
    have H3 := Lib.hid (And.intro (HH.out.1.device hk3 hd3) hk3)
    clear hd3 hk3
    go_wp2_with fail
    go_ret
    have hcm := HH.out.2.2
    rw [if_pos HL.out] at hcm
    exact ⟨by rw [hcm]; rfl, by rw [hcm]; exact ⟨q, bl, bw, H3.out.1⟩, H3.out.2.mono (by simp)⟩
  · have t0 : ((S.waits.length : Int) == 0) = false := by
      have : S.waits.length ≠ 0 := fun e => hl0 (List.length_eq_zero_iff.1 e)
      simp; exact hl0
    have HL0 := Lib.hid hl0
    clear hl0
    have ew : IntKind.i64.wrap ((S.waits.length : Int) + 1) = (S.waits.length : Int) + 1 := by rw [IntKind.wrap_i64]; omega
    by_cases hbig : S.waits.length + 1 > S.L.sz
    · have t1 : decide ((S.waits.length : Int) + 1 > S.L.sz) = true := by simp; omega
      go_enter Tryz.func9, Tryz.ntmps9
      go_wp2_with fail
      go_region_held3 (fun w' => w'.cell? ⟨a, 7, none⟩ = some (.map (some bw)) ∧ w'.cell? ⟨a, 2, none⟩ = some (.int .i64 S.L.sz) ∧ ∀ ty, (Builtin.len_ #[58] ty #[.map (some bw)]).run Tryz.prog w' = .ok (.int .i64 (S.waits.length : Nat)) w')
        (first | go_keep | exact ⟨c7, c2, hmlq⟩)
        (fail)
      go_wp2_with fail
      go_ret
      have hcm := HH.out.2.2
      rw [if_neg HL0.out, if_pos hbig] at hcm
      exact ⟨by rw [hcm]; rfl, by rw [hcm]; exact ⟨q, bl, bw, HH.out.1.fresh (Touch.refl _ _).drew⟩, (Touch.refl _ _).drew⟩
    · have t1 : decide ((S.waits.length : Int) + 1 > S.L.sz) = false := by simp; omega
      have hfc2 := Lib.hid hfc
      clear hfc
      go_enter Tryz.func9, Tryz.ntmps9
      go_wp2_with fail
      go_region_held3 (fun w' => w'.cell? ⟨a, 7, none⟩ = some (.map (some bw)) ∧ w'.cell? ⟨a, 2, none⟩ = some (.int .i64 S.L.sz) ∧ ∀ ty, (Builtin.len_ #[58] ty #[.map (some bw)]).run Tryz.prog w' = .ok (.int .i64 (S.waits.length : Nat)) w')
        (first | go_keep | exact ⟨c7, c2, hmlq⟩)
        (fail)
      go_wp2_with fail
      refine (HH.out.2.1 _ (HH.out.1.dev.fresh (Touch.refl _ _).drew)).mono ?_
      rintro e3 w3 ⟨rfl, hd3, hk3⟩
      have hs0 := HH.out.1.fresh (Touch.refl (fun _ => False) w).drew
      have H3 := Lib.hid (And.intro (hs0.device hk3 hd3) ((Kept.of_fresh (T := stoT) (Touch.refl (fun _ => False) w).drew).trans (hk3.mono (by simp))))
      clear hd3 hk3 hs0
      rcases hfc2.out with rfl | rfl
      · have hD2 := hfe rfl
        have hfull := hC.full (hoff rfl)
        have c1 := H3.out.1.blk.cell 1
        have c7 := H3.out.1.blk.cell 7
        simp only [List.getElem?_toArray, List.getElem?_cons_zero, List.getElem?_cons_succ] at c1 c7
        have hml := fun ty => map_len H3.out.1.waits ty
        have hmlq := fun ty => map_len (H3.out.1.waits.touch (S := fun _ => False) (Touch.refl _ w3).drew id) ty
        have hmln := fun (n : Nat) ty => map_len (H3.out.1.waits.touch (Touch.same (S := fun _ => False) w3 n) id) ty
        have hcm := HH.out.2.2
        rw [if_neg HL0.out, if_neg hbig, if_neg (by simp)] at hcm
        have HC := Lib.hid hcm
        clear hcm
        have hlen3 := H3.out.1.waits
        have hrm := fun W (hW : LogAt W q p S.L) => room_any q p S.L W hW hS.L
        have hrm2 := S.L.next - S.L.tail
        by_cases hroom : S.waits.length + 1 > S.L.sz - (S.L.next - S.L.tail)
        · have t2 : decide ((S.waits.length : Int) + 1 > ((S.L.sz - (S.L.next - S.L.tail) : Nat) : Int)) = true := by simp; omega
          go_wp2_with fail
          go_region_held3 (fun w' => w'.cell? ⟨a, 7, none⟩ = some (.map (some bw)) ∧ w'.cell? ⟨a, 1, none⟩ = some (.pointer (some ⟨q, 0, none⟩)) ∧ ∀ ty, (Builtin.len_ #[58] ty #[.map (some bw)]).run Tryz.prog w' = .ok (.int .i64 (S.waits.length : Nat)) w')
            (first | go_keep | exact ⟨c7, c1, hmlq⟩ | exact ⟨c7, c1, hmln _⟩ | exact hmln _)
            (((go_at_call 25; refine (hrm _ (H3.out.1.log.touch (S := fun _ => False) (Touch.refl _ _).drew id)).mono ?_; rintro e5 w5 ⟨rfl, nq, rfl⟩; have hf5 : Fresh w3 (w3.drewN (1 + nq)) := Touch.same w3 _; have H5 := Lib.hid (And.intro (H3.out.1.fresh hf5) (H3.out.2.trans (Kept.of_fresh hf5))); have k7 := H5.out.1.blk.cell 7; have k1 := H5.out.1.blk.cell 1; simp only [List.getElem?_toArray, List.getElem?_cons_zero, List.getElem?_cons_succ] at k7 k1; clear hf5)))
          have hchk := checkpoint_any a p q bl bw S D2 _ H5.out.1 hS (by omega) (.inl ⟨hfl, by rw [hD2]; simp, by rw [hD2]; simp⟩)
          unfold ChkPost at hchk
          have hck0 := fun h => chk_room (S := S) (D := D2) h hfull
          have hck1 := fun h => chk_dev (S := S) (D := D2) h hD2 hfl
          have hck2 := fun h => chk_ok (S := S) (D := D2) hS hg h hfull
          have hck3 := chk_cases S D2
          have hcm := HC.out
          rw [if_pos hroom] at hcm
          rcases hck : S.checkpoint D2 with ⟨y, S2, D5⟩
          rw [hck] at hchk hck0 hck1 hck2 hck3 hcm
          simp only at hchk hck0 hck1 hck2 hck3 hcm
          have HK := Lib.hid (And.intro hchk hcm)
          clear hchk hcm hck HC c0 c1 c2 c7 hml hmlq
          go_wp2_with fail
          refine HK.out.1.mono ?_
          rintro e6 w6 ⟨rfl, hs6, hk6⟩
          rcases hck3 with rfl | rfl
          · obtain ⟨q2, bl2, bw2, hs6⟩ := hs6
            obtain ⟨z1, z2, z3, z4, z5, z6, z7, z8, z9, z10⟩ := hck0 rfl
            obtain ⟨y1, hDl, y3⟩ := hck1 rfl
            have hok2 := hck2 rfl
            have hD2 := y1
            have hcm := HK.out.2
            rw [if_neg (by simp)] at hcm
            have HS := Lib.hid (And.intro hs6 (And.intro (H5.out.2.trans hk6) hcm))
            have hroom : S2.waits.length + 1 ≤ S2.L.sz - (S2.L.next - S2.L.tail) := by rw [z3]; omega
            have hDn : 2 + S2.L.sz ≤ D5.n := by omega
            clear hs6 hk6 hcm hck0 hck1 hck2 z1 z2 z3 z4 z5 z6 z7 z8 z9 z10 y1 y3
            have hll := hok2.waits.length
            have hpg := hok2.pg
            have hwo := hok2.waits
            have hkeys := Lib.hid (sorted_any bw2 S2.waits w6 HS.out.1.waits (by omega))
            have c7 := HS.out.1.blk.cell 7
            simp only [List.getElem?_toArray, List.getElem?_cons_zero, List.getElem?_cons_succ] at c7
            go_wp2_with fail
            refine (keys_any _ _).mono ?_
            rintro e8 w8 ⟨rfl, rfl⟩
            go_wp2_with fail
            refine hkeys.out.mono ?_
            rintro e9 w9 ⟨v9, rfl, hr9, hf9⟩
            obtain ⟨A9, cap9, rfl⟩ := own_form hr9
            have H9 := Lib.hid (And.intro (own_base (b' := 0) hr9 (Nat.zero_le _)) (And.intro hf9 (HS.out.1.fresh hf9)))
            clear hr9 hf9 c7 hkeys
            go_wp2_with fail
            obtain ⟨i0, hi, hz0, hz1, hz2⟩ := info_parts Tryz.info67
            go_loopw [5, 66] (fun u i wr => ∃ j : Nat, j ≤ S2.waits.length ∧ i = .int .i64 j ∧ wr.ownsRow w9.heap.size 67 2 u j (imgCells (S2.waits.take j)) ∧ Fresh w9 wr) (fun _ i _ => S2.waits.length - (intOf i).toNat)
            case atStart => exact ⟨0, Nat.zero_le _, rfl, by simpa [imgCells] using World.ownsRow_nil _ _ _ _, .refl _ _⟩
            case round =>
              obtain ⟨j, hj, rfl, hown, hF⟩ := hrel
              have HR := Lib.hid (And.intro hown hF)
              clear hown hF
              by_cases hlt : j < S2.waits.length
              · obtain ⟨x, hx⟩ : ∃ x, S2.waits[j]? = some x := ⟨_, List.getElem?_eq_getElem hlt⟩
                have hxm : x ∈ S2.waits := List.mem_of_getElem? hx
                have hxo := hwo.2 x hxm
                have how := own_fresh H9.out.1 HR.out.2
                obtain ⟨g1, hA, -, hg1⟩ := own_addr how (by omega)
                subst hA
                have d0 := World.ownsRow.cellAt how j (by omega)
                rw [List.getElem?_map, hx] at d0
                simp only [Option.map_some] at d0
                have hsr := H9.out.2.2.fresh HR.out.2
                have hlk := map_look hsr.waits x.1 (by omega)
                rw [look_mem hwo.1 hxm] at hlk
                simp only [Option.getD_some] at hlk
                have c7 := hsr.blk.cell 7
                simp only [List.getElem?_toArray, List.getElem?_cons_zero, List.getElem?_cons_succ] at c7
                have i3 : (0 : Int) ≤ j := by omega
                have i4 : (j : Int) < S2.waits.length := by omega
                have HX := Lib.hid (imgCells_take hx)
                clear hsr how hx hxm
                go_wp2_with (at_builtin; refine wpList_append_own_at _ rfl _ _ 65 rfl w9.heap.size 67 i0 (.agg #[.int .i64 0, .string ⟨#[]⟩]) 2 24 Tryz.underlying65 hi hz0 hz1 hz2 rfl (by decide) _ _ _ rfl (HR.out.1.alloc _) ⟨wr.heap.size, 0, none⟩ 1 1 [.int .i64 x.1, .string x.2] rfl rfl ?c1 ?c2 ?c3 ?c4 ?c5 ?_)
                case c1 => exact many_at wr #[.int .i64 x.1, .string x.2] 67
                case c2 => intro u hu; simp at hu; rcases hu with rfl | rfl <;> rfl
                case c3 => unfold maxLen; omega
                case c4 => omega
                case c5 => have := HR.out.2.size; simp; omega
                intro v' w1' hown1 hg1 _ hat
                have R := Lib.hid (And.intro hown1 (Touch.grownNew (HR.out.2.alloc (.cells #[.int .i64 x.1, .string x.2] 67)) (HR.out.1.alloc _) (Nat.le_refl _) hg1))
                clear hown1 hg1 hat d0 hlk c7
                go_wp2_with fail
                go_roundw
                case rel => exact ⟨j + 1, by omega, by go_num, by rw [HX.out]; exact R.out.1, R.out.2⟩
                case measure => simp [intOf]; omega
              · obtain rfl : j = S2.waits.length := by omega
                have hown := HR.out.1
                rw [List.take_length] at hown
                have hsr := H9.out.2.2.fresh HR.out.2
                have c1 := hsr.blk.cell 1
                simp only [List.getElem?_toArray, List.getElem?_cons_zero, List.getElem?_cons_succ] at c1
                have hlen := writes_len D5 (txWs S2.L S2.waits)
                rw [txWs_length, hD2] at hlen
                have hwn := writes_n D5 (txWs S2.L S2.waits)
                have hwf := writes_left D5 (txWs S2.L S2.waits) hDl
                have hwa : ∀ x ∈ (D5.writes (txWs S2.L S2.waits)).2.waits, x.1 < (D5.writes (txWs S2.L S2.waits)).2.n := by
                  intro x hx
                  rw [writes_n]
                  rcases writes_ats _ _ x hx with h | h
                  · rw [hD2] at h; cases h
                  · exact txWs_ats hok2.L.sz.1 (by omega) x h
                have hwc := writes_cases D5 (txWs S2.L S2.waits)
                have happ := append_any q2 p S2.L hok2.L D5 S2.waits _ _ hsr.log hsr.dev hroom (fun x hx => ⟨by have h9 : 900 < big := (by decide); have := (hwo.2 x hx).1; omega, (hwo.2 x hx).2⟩) (own_base (b' := 0) hown (Nat.zero_le _)) (by omega) hDl (by rw [hD2]; simp only [List.length_nil]; have := hok2.sz; omega)
                unfold AppPost at happ
                have hcm := HS.out.2.2
                unfold Sto.append at hcm
                rcases hxx : D5.writes (txWs S2.L S2.waits) with ⟨x, D3⟩
                rw [hxx] at hlen hwn hwf hwa hwc happ hcm
                simp only at hlen hwn hwf hwa hwc happ hcm
                have hfc := flush_cases D3
                have hcF := fun W (hW : DevAt Rec.bytes W p D3) => flush_any p D3 W hW hwf (by have := hok2.sz; simp only [List.length_nil] at hlen; omega) hwa
                rcases hff : D3.flush with ⟨y, D4⟩
                rw [hff] at hfc hcF hcm
                simp only at hfc hcF hcm
                have HX := Lib.hid (And.intro happ (And.intro hcF (And.intro hcm hsr)))
                clear happ hcF hcm hsr hxx hff hlen hwn hwf hwa hown
                go_wp2_with fail
                refine HX.out.1.mono ?_
                rintro e10 w10 ⟨rfl, hd10, hl10, hk10⟩
                rcases hwc with rfl | rfl
                · rw [if_pos rfl] at hl10
                  have hs0 := HX.out.2.2.2
                  have hs10 : StoF w10 a p q2 bl2 bw2 S2.logged D3 := ⟨hs0.blk.kept hk10 (by decide), hl10, hs0.lasts.kept hk10 (by decide), hs0.waits.kept hk10 (by decide), hs0.ne, hd10⟩
                  have H10 := Lib.hid (And.intro hs10 ((HS.out.2.1.trans (Kept.of_fresh H9.out.2.1)).trans ((Kept.of_fresh HR.out.2).trans (hk10.mono (by simp)))))
                  clear hs0 hs10 hd10 hl10 hk10
                  have c0 := H10.out.1.blk.cell 0
                  simp only [List.getElem?_toArray, List.getElem?_cons_zero] at c0
                  go_wp2_with fail
                  refine (HX.out.2.1 _ H10.out.1.dev).mono ?_
                  rintro e11 w11 ⟨rfl, hd11, hk11⟩
                  have H11 := Lib.hid (And.intro (H10.out.1.device hk11 hd11) (H10.out.2.trans (hk11.mono (by simp))))
                  clear hd11 hk11 c0 c1
                  have c6 := H11.out.1.blk.cell 6
                  have c7 := H11.out.1.blk.cell 7
                  simp only [List.getElem?_toArray, List.getElem?_cons_zero, List.getElem?_cons_succ] at c6 c7
                  rcases hfc with rfl | rfl
                  · go_wp2_with fail
                    go_region_held3 (fun w' => w'.cell? ⟨a, 6, none⟩ = some (.map (some bl2)) ∧ w'.cell? ⟨a, 7, none⟩ = some (.map (some bw2)))
                      (first | go_keep | exact ⟨k6, k7⟩)
                      (((go_at_call 29; refine (copy_any bl2 bw2 S2.lasts S2.waits _ (H11.out.1.lasts.touch (S := fun _ => False) (Touch.refl _ _).drew id) (H11.out.1.waits.touch (S := fun _ => False) (Touch.refl _ _).drew id) H11.out.1.ne (by have := hok2.lasts.length; omega)).mono ?_; rintro e12 w12 ⟨rfl, hm12, hm12', hg12⟩; have hk12 : Kept [none] w11 w12 := Touch.of_drew (MapAt.grown (H11.out.1.lasts.touch (S := fun _ => False) (Touch.refl _ _).drew id) hg12); have h0 := H11.out.1; have H12 := Lib.hid (And.intro (show StoF w12 a p q2 bl2 bw2 { S2.logged with lasts := merge S2.lasts S2.waits } D4 from ⟨h0.blk.kept hk12 (by decide), h0.log.kept hk12 (by decide), hm12, hm12', h0.ne, h0.dev.kept hk12 (by decide) (by decide) (by decide) (by decide)⟩) (H11.out.2.trans (hk12.mono (by simp)))); have k6 := H12.out.1.blk.cell 6; have k7 := H12.out.1.blk.cell 7; simp only [List.getElem?_toArray, List.getElem?_cons_zero, List.getElem?_cons_succ] at k6 k7; clear h0 hk12 hm12 hm12' hg12)))
                    obtain ⟨w13, hrun, hm13, hg13⟩ := map_clear H12.out.1.waits
                    obtain ⟨h13, hk13⟩ := H12.out.1.clearWaits hm13 hg13
                    have c8 : w13.cell? ⟨a, 8, none⟩ = some (.int .i64 S2.turn) := by
                      have h8 := h13.blk.cell 8
                      simp only [List.getElem?_toArray, List.getElem?_cons_zero, List.getElem?_cons_succ] at h8
                      exact h8
                    have f8 := h13.blk.soft 8
                    have et : IntKind.i64.wrap ((S2.turn : Int) + 1) = (S2.turn : Int) + 1 := by have := hok2.turn; rw [IntKind.wrap_i64]; omega
                    obtain ⟨h14, hk14⟩ := h13.turn (S2.turn + 1)
                    rw [Int.natCast_add, show ((1 : Nat) : Int) = 1 from rfl] at h14 hk14
                    have H14 := Lib.hid (And.intro h14 ((H12.out.2.trans (hk13.mono (by simp))).trans (hk14.mono (by simp))))
                    clear h13 hk13 h14 hk14 hm13 hg13
                    go_wp2_with fail
                    go_ret
                    have hcm := HX.out.2.2.1
                    rw [if_neg (by simp), if_neg (by simp)] at hcm
                    exact ⟨by rw [hcm]; rfl, by rw [hcm]; exact ⟨q2, bl2, bw2, H14.out.1⟩, H14.out.2⟩
                  · go_wp2_with fail
                    go_ret
                    have hcm := HX.out.2.2.1
                    rw [if_neg (by simp), if_pos (by simp)] at hcm
                    exact ⟨by rw [hcm]; rfl, by rw [hcm]; exact ⟨q2, bl2, bw2, H11.out.1⟩, H11.out.2⟩
                · rw [if_neg (by simp)] at hl10
                  have hs0 := HX.out.2.2.2
                  have hs10 : StoF w10 a p q2 bl2 bw2 S2 D3 := ⟨hs0.blk.kept hk10 (by decide), hl10, hs0.lasts.kept hk10 (by decide), hs0.waits.kept hk10 (by decide), hs0.ne, hd10⟩
                  have H10 := Lib.hid (And.intro hs10 ((HS.out.2.1.trans (Kept.of_fresh H9.out.2.1)).trans ((Kept.of_fresh HR.out.2).trans (hk10.mono (by simp)))))
                  clear hs0 hs10 hd10 hl10 hk10
                  go_wp2_with fail
                  go_ret
                  have hcm := HX.out.2.2.1
                  rw [if_pos (by simp)] at hcm
                  exact ⟨by rw [hcm]; rfl, by rw [hcm]; exact ⟨q2, bl2, bw2, H10.out.1⟩, H10.out.2⟩
          · obtain ⟨q2, bl2, bw2, hs6⟩ := hs6
            have H6 := Lib.hid (And.intro hs6 (H5.out.2.trans hk6))
            clear hs6 hk6
            go_wp2_with fail
            go_ret
            have hcm := HK.out.2
            rw [if_pos (by simp)] at hcm
            exact ⟨by rw [hcm]; rfl, by rw [hcm]; exact ⟨q2, bl2, bw2, H6.out.1⟩, H6.out.2⟩
        · have t2 : decide ((S.waits.length : Int) + 1 > ((S.L.sz - (S.L.next - S.L.tail) : Nat) : Int)) = false := by simp; omega
          go_wp2_with fail
          go_region_held3 (fun w' => w'.cell? ⟨a, 7, none⟩ = some (.map (some bw)) ∧ w'.cell? ⟨a, 1, none⟩ = some (.pointer (some ⟨q, 0, none⟩)) ∧ ∀ ty, (Builtin.len_ #[58] ty #[.map (some bw)]).run Tryz.prog w' = .ok (.int .i64 (S.waits.length : Nat)) w')
            (first | go_keep | exact ⟨c7, c1, hmlq⟩ | exact ⟨c7, c1, hmln _⟩ | exact hmln _)
            (((go_at_call 25; refine (hrm _ (H3.out.1.log.touch (S := fun _ => False) (Touch.refl _ _).drew id)).mono ?_; rintro e5 w5 ⟨rfl, nq, rfl⟩; have hf5 : Fresh w3 (w3.drewN (1 + nq)) := Touch.same w3 _; have H5 := Lib.hid (And.intro (H3.out.1.fresh hf5) (H3.out.2.trans (Kept.of_fresh hf5))); have k7 := H5.out.1.blk.cell 7; have k1 := H5.out.1.blk.cell 1; simp only [List.getElem?_toArray, List.getElem?_cons_zero, List.getElem?_cons_succ] at k7 k1; clear hf5)))
          have hcm := HC.out
          rw [if_neg hroom] at hcm
          have hroom2 := hroom
          have hroom : S.waits.length + 1 ≤ S.L.sz - (S.L.next - S.L.tail) := by omega
          have hDn : 2 + S.L.sz ≤ D2.n := by omega
          have hDl := hfl
          have hok2 := hS
          have HS := Lib.hid (And.intro H5.out.1 (And.intro H5.out.2 hcm))
          clear hcm HC c0 c1 c2 c7 hml hmlq
          generalize (w3.drewN (1 + nq)) = w6 at *
          have hll := hok2.waits.length
          have hpg := hok2.pg
          have hwo := hok2.waits
          have hkeys := Lib.hid (sorted_any bw S.waits w6 HS.out.1.waits (by omega))
          have c7 := HS.out.1.blk.cell 7
          simp only [List.getElem?_toArray, List.getElem?_cons_zero, List.getElem?_cons_succ] at c7
          go_wp2_with fail
          refine (keys_any _ _).mono ?_
          rintro e8 w8 ⟨rfl, rfl⟩
          go_wp2_with fail
          refine hkeys.out.mono ?_
          rintro e9 w9 ⟨v9, rfl, hr9, hf9⟩
          obtain ⟨A9, cap9, rfl⟩ := own_form hr9
          have H9 := Lib.hid (And.intro (own_base (b' := 0) hr9 (Nat.zero_le _)) (And.intro hf9 (HS.out.1.fresh hf9)))
          clear hr9 hf9 c7 hkeys
          go_wp2_with fail
          obtain ⟨i0, hi, hz0, hz1, hz2⟩ := info_parts Tryz.info67
          go_loopw [5, 66] (fun u i wr => ∃ j : Nat, j ≤ S.waits.length ∧ i = .int .i64 j ∧ wr.ownsRow w9.heap.size 67 2 u j (imgCells (S.waits.take j)) ∧ Fresh w9 wr) (fun _ i _ => S.waits.length - (intOf i).toNat)
          case atStart => exact ⟨0, Nat.zero_le _, rfl, by simpa [imgCells] using World.ownsRow_nil _ _ _ _, .refl _ _⟩
          case round =>
            obtain ⟨j, hj, rfl, hown, hF⟩ := hrel
            have HR := Lib.hid (And.intro hown hF)
            clear hown hF
            by_cases hlt : j < S.waits.length
            · obtain ⟨x, hx⟩ : ∃ x, S.waits[j]? = some x := ⟨_, List.getElem?_eq_getElem hlt⟩
              have hxm : x ∈ S.waits := List.mem_of_getElem? hx
              have hxo := hwo.2 x hxm
              have how := own_fresh H9.out.1 HR.out.2
              obtain ⟨g1, hA, -, hg1⟩ := own_addr how (by omega)
              subst hA
              have d0 := World.ownsRow.cellAt how j (by omega)
              rw [List.getElem?_map, hx] at d0
              simp only [Option.map_some] at d0
              have hsr := H9.out.2.2.fresh HR.out.2
              have hlk := map_look hsr.waits x.1 (by omega)
              rw [look_mem hwo.1 hxm] at hlk
              simp only [Option.getD_some] at hlk
              have c7 := hsr.blk.cell 7
              simp only [List.getElem?_toArray, List.getElem?_cons_zero, List.getElem?_cons_succ] at c7
              have i3 : (0 : Int) ≤ j := by omega
              have i4 : (j : Int) < S.waits.length := by omega
              have HX := Lib.hid (imgCells_take hx)
              clear hsr how hx hxm
              go_wp2_with (at_builtin; refine wpList_append_own_at _ rfl _ _ 65 rfl w9.heap.size 67 i0 (.agg #[.int .i64 0, .string ⟨#[]⟩]) 2 24 Tryz.underlying65 hi hz0 hz1 hz2 rfl (by decide) _ _ _ rfl (HR.out.1.alloc _) ⟨wr.heap.size, 0, none⟩ 1 1 [.int .i64 x.1, .string x.2] rfl rfl ?c1 ?c2 ?c3 ?c4 ?c5 ?_)
              case c1 => exact many_at wr #[.int .i64 x.1, .string x.2] 67
              case c2 => intro u hu; simp at hu; rcases hu with rfl | rfl <;> rfl
              case c3 => unfold maxLen; omega
              case c4 => omega
              case c5 => have := HR.out.2.size; simp; omega
              intro v' w1' hown1 hg1 _ hat
              have R := Lib.hid (And.intro hown1 (Touch.grownNew (HR.out.2.alloc (.cells #[.int .i64 x.1, .string x.2] 67)) (HR.out.1.alloc _) (Nat.le_refl _) hg1))
              clear hown1 hg1 hat d0 hlk c7
              go_wp2_with fail
              go_roundw
              case rel => exact ⟨j + 1, by omega, by go_num, by rw [HX.out]; exact R.out.1, R.out.2⟩
              case measure => simp [intOf]; omega
            · obtain rfl : j = S.waits.length := by omega
              have hown := HR.out.1
              rw [List.take_length] at hown
              have hsr := H9.out.2.2.fresh HR.out.2
              have c1 := hsr.blk.cell 1
              simp only [List.getElem?_toArray, List.getElem?_cons_zero, List.getElem?_cons_succ] at c1
              have hlen := writes_len D2 (txWs S.L S.waits)
              rw [txWs_length, hD2] at hlen
              have hwn := writes_n D2 (txWs S.L S.waits)
              have hwf := writes_left D2 (txWs S.L S.waits) hDl
              have hwa : ∀ x ∈ (D2.writes (txWs S.L S.waits)).2.waits, x.1 < (D2.writes (txWs S.L S.waits)).2.n := by
                intro x hx
                rw [writes_n]
                rcases writes_ats _ _ x hx with h | h
                · rw [hD2] at h; cases h
                · exact txWs_ats hok2.L.sz.1 (by omega) x h
              have hwc := writes_cases D2 (txWs S.L S.waits)
              have happ := append_any q p S.L hok2.L D2 S.waits _ _ hsr.log hsr.dev hroom (fun x hx => ⟨by have h9 : 900 < big := (by decide); have := (hwo.2 x hx).1; omega, (hwo.2 x hx).2⟩) (own_base (b' := 0) hown (Nat.zero_le _)) (by omega) hDl (by rw [hD2]; simp only [List.length_nil]; have := hok2.sz; omega)
              unfold AppPost at happ
              have hcm := HS.out.2.2
              unfold Sto.append at hcm
              rcases hxx : D2.writes (txWs S.L S.waits) with ⟨x, D3⟩
              rw [hxx] at hlen hwn hwf hwa hwc happ hcm
              simp only at hlen hwn hwf hwa hwc happ hcm
              have hfc := flush_cases D3
              have hcF := fun W (hW : DevAt Rec.bytes W p D3) => flush_any p D3 W hW hwf (by have := hok2.sz; simp only [List.length_nil] at hlen; omega) hwa
              rcases hff : D3.flush with ⟨y, D4⟩
              rw [hff] at hfc hcF hcm
              simp only at hfc hcF hcm
              have HX := Lib.hid (And.intro happ (And.intro hcF (And.intro hcm hsr)))
              clear happ hcF hcm hsr hxx hff hlen hwn hwf hwa hown
              go_wp2_with fail
              refine HX.out.1.mono ?_
              rintro e10 w10 ⟨rfl, hd10, hl10, hk10⟩
              rcases hwc with rfl | rfl
              · rw [if_pos rfl] at hl10
                have hs0 := HX.out.2.2.2
                have hs10 : StoF w10 a p q bl bw S.logged D3 := ⟨hs0.blk.kept hk10 (by decide), hl10, hs0.lasts.kept hk10 (by decide), hs0.waits.kept hk10 (by decide), hs0.ne, hd10⟩
                have H10 := Lib.hid (And.intro hs10 ((HS.out.2.1.trans (Kept.of_fresh H9.out.2.1)).trans ((Kept.of_fresh HR.out.2).trans (hk10.mono (by simp)))))
                clear hs0 hs10 hd10 hl10 hk10
                have c0 := H10.out.1.blk.cell 0
                simp only [List.getElem?_toArray, List.getElem?_cons_zero] at c0
                go_wp2_with fail
                refine (HX.out.2.1 _ H10.out.1.dev).mono ?_
                rintro e11 w11 ⟨rfl, hd11, hk11⟩
                have H11 := Lib.hid (And.intro (H10.out.1.device hk11 hd11) (H10.out.2.trans (hk11.mono (by simp))))
                clear hd11 hk11 c0 c1
                have c6 := H11.out.1.blk.cell 6
                have c7 := H11.out.1.blk.cell 7
                simp only [List.getElem?_toArray, List.getElem?_cons_zero, List.getElem?_cons_succ] at c6 c7
                rcases hfc with rfl | rfl
                · go_wp2_with fail
                  go_region_held3 (fun w' => w'.cell? ⟨a, 6, none⟩ = some (.map (some bl)) ∧ w'.cell? ⟨a, 7, none⟩ = some (.map (some bw)))
                    (first | go_keep | exact ⟨k6, k7⟩)
                    (((go_at_call 29; refine (copy_any bl bw S.lasts S.waits _ (H11.out.1.lasts.touch (S := fun _ => False) (Touch.refl _ _).drew id) (H11.out.1.waits.touch (S := fun _ => False) (Touch.refl _ _).drew id) H11.out.1.ne (by have := hok2.lasts.length; omega)).mono ?_; rintro e12 w12 ⟨rfl, hm12, hm12', hg12⟩; have hk12 : Kept [none] w11 w12 := Touch.of_drew (MapAt.grown (H11.out.1.lasts.touch (S := fun _ => False) (Touch.refl _ _).drew id) hg12); have h0 := H11.out.1; have H12 := Lib.hid (And.intro (show StoF w12 a p q bl bw { S.logged with lasts := merge S.lasts S.waits } D4 from ⟨h0.blk.kept hk12 (by decide), h0.log.kept hk12 (by decide), hm12, hm12', h0.ne, h0.dev.kept hk12 (by decide) (by decide) (by decide) (by decide)⟩) (H11.out.2.trans (hk12.mono (by simp)))); have k6 := H12.out.1.blk.cell 6; have k7 := H12.out.1.blk.cell 7; simp only [List.getElem?_toArray, List.getElem?_cons_zero, List.getElem?_cons_succ] at k6 k7; clear h0 hk12 hm12 hm12' hg12)))
                  obtain ⟨w13, hrun, hm13, hg13⟩ := map_clear H12.out.1.waits
                  obtain ⟨h13, hk13⟩ := H12.out.1.clearWaits hm13 hg13
                  have c8 : w13.cell? ⟨a, 8, none⟩ = some (.int .i64 S.turn) := by
                    have h8 := h13.blk.cell 8
                    simp only [List.getElem?_toArray, List.getElem?_cons_zero, List.getElem?_cons_succ] at h8
                    exact h8
                  have f8 := h13.blk.soft 8
                  have et : IntKind.i64.wrap ((S.turn : Int) + 1) = (S.turn : Int) + 1 := by have := hok2.turn; rw [IntKind.wrap_i64]; omega
                  obtain ⟨h14, hk14⟩ := h13.turn (S.turn + 1)
                  rw [Int.natCast_add, show ((1 : Nat) : Int) = 1 from rfl] at h14 hk14
                  have H14 := Lib.hid (And.intro h14 ((H12.out.2.trans (hk13.mono (by simp))).trans (hk14.mono (by simp))))
                  clear h13 hk13 h14 hk14 hm13 hg13
                  go_wp2_with fail
                  go_ret
                  have hcm := HX.out.2.2.1
                  rw [if_neg (by simp), if_neg (by simp)] at hcm
                  exact ⟨by rw [hcm]; rfl, by rw [hcm]; exact ⟨q, bl, bw, H14.out.1⟩, H14.out.2⟩
                · go_wp2_with fail
                  go_ret
                  have hcm := HX.out.2.2.1
                  rw [if_neg (by simp), if_pos (by simp)] at hcm
                  exact ⟨by rw [hcm]; rfl, by rw [hcm]; exact ⟨q, bl, bw, H11.out.1⟩, H11.out.2⟩
              · rw [if_neg (by simp)] at hl10
                have hs0 := HX.out.2.2.2
                have hs10 : StoF w10 a p q bl bw S D3 := ⟨hs0.blk.kept hk10 (by decide), hl10, hs0.lasts.kept hk10 (by decide), hs0.waits.kept hk10 (by decide), hs0.ne, hd10⟩
                have H10 := Lib.hid (And.intro hs10 ((HS.out.2.1.trans (Kept.of_fresh H9.out.2.1)).trans ((Kept.of_fresh HR.out.2).trans (hk10.mono (by simp)))))
                clear hs0 hs10 hd10 hl10 hk10
                go_wp2_with fail
                go_ret
                have hcm := HX.out.2.2.1
                rw [if_pos (by simp)] at hcm
                exact ⟨by rw [hcm]; rfl, by rw [hcm]; exact ⟨q, bl, bw, H10.out.1⟩, H10.out.2⟩
      · go_wp2_with fail
        go_ret
        have hcm := HH.out.2.2
        rw [if_neg HL0.out, if_neg hbig, if_pos (by simp)] at hcm
        exact ⟨by rw [hcm]; rfl, by rw [hcm]; exact ⟨q, bl, bw, H3.out.1⟩, H3.out.2⟩

end Go.Proofs.YtcpelncjagaadaaGreatDoor
