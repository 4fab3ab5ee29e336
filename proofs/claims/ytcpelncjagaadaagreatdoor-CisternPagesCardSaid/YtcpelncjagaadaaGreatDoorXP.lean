/-
  page: say, Put, newest.
-/
import Derived.Test.YtcpelncjagaadaaGreatDoorXO
namespace Go.Proofs.YtcpelncjagaadaaGreatDoor
open Go.RowKit Go.Maps

attribute [local go_sem ↓] Go.wp_at_zero Go.wp_at_succ

structure DevOk (D : RD) (k : Nat) : Prop where
  left : D.left ≤ 1000
  len : D.waits.length ≤ k
  ats : ∀ x ∈ D.waits, x.1 < D.n

theorem StoF.gen [Inhabited Bs] {w : World} {a p q bl bw : Nat} {S : Sto} {D : RD} (h : StoF w a p q bl bw S D) (g : Nat) : StoF (w.setCell ⟨a, 4, none⟩ (.int .i64 (g : Nat))) a p q bl bw { S with gen := g } D ∧ Kept [some 61] w (w.setCell ⟨a, 4, none⟩ (.int .i64 (g : Nat))) := by
  have hk : Kept [some 61] w (w.setCell ⟨a, 4, none⟩ (.int .i64 (g : Nat))) := .store h.blk (by simp) _ _
  exact ⟨⟨h.blk.set 4 _, h.log.kept hk (by decide), h.lasts.kept hk (by decide), h.waits.kept hk (by decide), h.ne, h.dev.kept hk (by decide) (by decide) (by decide) (by decide)⟩, hk⟩

def Sto.say (S : Sto) (D : RD) (t : Nat) : Sto := if (D.sup (S.gen + 1) S.epoch t).1 = 0 then { S with gen := S.gen + 1 } else S

set_option maxRecDepth 100000 in
set_option maxHeartbeats 4000000 in
theorem say_any [Inhabited Bs] (a p q bl bw t : Nat) (S : Sto) (D : RD) (w : World) (h : StoF w a p q bl bw S D) (hg : S.gen ≤ 1000000) (he : S.epoch ≤ 1000000) (ht : t ≤ 1000000) (hn : 2 ≤ D.n) (hd : DevOk D 999) :
    Calls Tryz.prog 23 #[.pointer (some ⟨a, 0, none⟩), .int .i64 t] w fun e w' => e = .returned (.int .i64 (D.sup (S.gen + 1) S.epoch t).1) ∧ StoF w' a p q bl bw (S.say D t) (D.sup (S.gen + 1) S.epoch t).2 ∧ Kept stoT w w' := by
  have c0 := h.blk.cell 0
  have c4 := h.blk.cell 4
  have c5 := h.blk.cell 5
  simp only [List.getElem?_toArray, List.getElem?_cons_zero, List.getElem?_cons_succ] at c0 c4 c5
  have e1 : IntKind.i64.wrap ((S.gen : Int) + 1) = (S.gen : Int) + 1 := by rw [IntKind.wrap_i64]; omega
  have hb : 10000000 < big := by decide
  have hsc := sup_cases D (S.gen + 1) S.epoch t
  have hcon := fun W (hW : DevAt Rec.bytes W p D) => super_any p D (S.gen + 1) S.epoch t W hW ⟨by omega, by omega, by omega⟩ hn hd.left (by have := hd.len; omega) hd.ats
  rcases hxx : D.sup (S.gen + 1) S.epoch t with ⟨x, D2⟩
  rw [hxx] at hsc hcon
  rw [Int.natCast_add, show ((1 : Nat) : Int) = 1 from rfl] at hcon
  have HX := Lib.hid (And.intro hxx (And.intro hcon h))
  clear hxx hcon h
  simp only at hsc
  go_enter Tryz.func23, Tryz.ntmps23
  go_wp2_with fail
  go_region_held3 (fun w' => w'.cell? ⟨a, 0, none⟩ = some (.pointer (some ⟨p, 0, none⟩)) ∧ w'.cell? ⟨a, 4, none⟩ = some (.int .i64 S.gen) ∧ w'.cell? ⟨a, 5, none⟩ = some (.int .i64 S.epoch))
    (first | go_keep)
    (((go_at_call 20; refine (HX.out.2.1 _ (HX.out.2.2.dev.fresh (Touch.refl _ _).drew)).mono ?_; rintro e2 w2 ⟨rfl, hd2, hk2⟩; have hk2 : Kept devT w w2 := Touch.of_drew hk2; have H2 := Lib.hid (And.intro (HX.out.2.2.device hk2 hd2) hk2); have c0 := H2.out.1.blk.cell 0; have c4 := H2.out.1.blk.cell 4; have c5 := H2.out.1.blk.cell 5; have f4 := H2.out.1.blk.soft 4; clear hd2 hk2; simp only [List.getElem?_toArray, List.getElem?_cons_zero, List.getElem?_cons_succ] at c0 c4 c5)))
  rcases hsc with rfl | rfl
  · go_wp2_with fail
    go_ret
    obtain ⟨h1, h2⟩ := H2.out.1.gen (S.gen + 1)
    rw [Int.natCast_add, show ((1 : Nat) : Int) = 1 from rfl] at h1 h2
    refine ⟨rfl, ?_, (H2.out.2.mono (by simp)).trans (h2.mono (by simp))⟩
    unfold Sto.say
    rw [HX.out.1, if_pos rfl]
    exact h1
  · go_wp2_with fail
    go_ret
    refine ⟨rfl, ?_, H2.out.2.mono (by simp)⟩
    unfold Sto.say
    rw [HX.out.1, if_neg (by simp)]
    exact H2.out.1

set_option maxRecDepth 100000 in
set_option maxHeartbeats 4000000 in
theorem put_page [Inhabited Bs] (a p q bl bw k : Nat) (d : ByteArray) (S : Sto) (D : RD) (w : World) (h : StoF w a p q bl bw S D) (hk : k < S.pg) (hpg : S.pg ≤ 900) (hd : d.size ≤ 160) (hw : S.waits.length ≤ 900) :
    Calls Tryz.prog 8 #[.pointer (some ⟨a, 0, none⟩), .int .i64 k, .string d] w fun e w' => e = .returned (.int .i64 0) ∧ StoF w' a p q bl bw { S with waits := ins k d S.waits } D ∧ Kept stoT w w' := by
  have c7 := h.blk.cell 7
  simp only [List.getElem?_toArray, List.getElem?_cons_zero, List.getElem?_cons_succ] at c7
  have t1 : decide ((d.size : Int) > 160) = false := by simp; omega
  obtain ⟨w2, hrun, hm, hg⟩ := map_store h.waits k d (by omega) (by unfold maxLen; omega) (by unfold maxLen; omega)
  have hl := h.lasts.other hg h.ne
  have hk2 := h.waits.grown hg
  have H2 := Lib.hid (And.intro hm (And.intro hl hk2))
  have HH := Lib.hid h
  clear h hm hg hl hk2
  go_enter Tryz.func8, Tryz.ntmps8
  go_wp2_with fail
  refine (is_any a p q bl bw k S D _ HH.out hk).mono ?_
  rintro e1 w1 ⟨rfl, rfl⟩
  go_wp2_with fail
  go_ret
  have hk := H2.out.2.2
  exact ⟨rfl, ⟨HH.out.blk.kept hk (by decide), HH.out.log.kept hk (by decide), H2.out.2.1, H2.out.1, HH.out.ne, HH.out.dev.kept hk (by decide) (by decide) (by decide) (by decide)⟩, hk.mono (by simp)⟩

end Go.Proofs.YtcpelncjagaadaaGreatDoor
