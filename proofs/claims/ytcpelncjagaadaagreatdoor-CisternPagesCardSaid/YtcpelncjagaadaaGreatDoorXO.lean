/-
  page: the store's state and its words; fits, is, home, super, Format, say.
-/
import Derived.Test.YtcpelncjagaadaaGreatDoorXN
namespace Go.Proofs.YtcpelncjagaadaaGreatDoor
open Go.RowKit Go.Maps

attribute [local go_sem ↓] Go.wp_at_zero Go.wp_at_succ

structure Sto where
  L : Wal
  pg : Nat
  gen : Nat
  epoch : Nat
  lasts : Mp
  waits : Mp
  turn : Nat
/-- Pages and texts within their bounds. -/
def PagesOk (pg : Nat) (m : Mp) : Prop := Mp.ok m ∧ ∀ x ∈ m, x.1 < pg ∧ x.2.size ≤ 160
theorem PagesOk.length {pg : Nat} {m : Mp} (h : PagesOk pg m) : m.length ≤ pg := by
  have h2 : ∀ (m : Mp) (a : Nat), Mp.ok m → (∀ x ∈ m, a ≤ x.1 ∧ x.1 < pg) → m.length ≤ pg - a := by
    intro m
    induction m with
    | nil => simp
    | cons x t ih =>
      intro a ho hx
      unfold Mp.ok at ho
      rw [List.pairwise_cons] at ho
      have h3 := hx x (by simp)
      have h4 := ih (x.1 + 1) ho.2 (fun y hy => ⟨ho.1 y hy, (hx y (by simp [hy])).2⟩)
      simp only [List.length_cons]
      omega
  have := h2 m 0 h.1 (fun x hx => ⟨Nat.zero_le _, (h.2 x hx).1⟩)
  omega
structure Sto.ok (S : Sto) : Prop where
  L : S.L.ok
  sz : 4 ≤ S.L.sz ∧ S.L.sz ≤ 900
  pg : 1 ≤ S.pg ∧ S.pg ≤ 900
  gen : S.gen ≤ 1000000
  epoch : S.epoch ≤ 1000000
  turn : S.turn ≤ 1000000
  lasts : PagesOk S.pg S.lasts
  waits : PagesOk S.pg S.waits
abbrev stoCs (p q bl bw : Nat) (S : Sto) : Array Value := #[.pointer (some ⟨p, 0, none⟩), .pointer (some ⟨q, 0, none⟩), .int .i64 S.L.sz, .int .i64 S.pg, .int .i64 S.gen, .int .i64 S.epoch, .map (some bl), .map (some bw), .int .i64 S.turn]
structure StoF [Inhabited Bs] (w : World) (a p q bl bw : Nat) (S : Sto) (D : RD) : Prop where
  blk : BlkL w a 61 (stoCs p q bl bw S)
  log : LogAt w q p S.L
  lasts : MapAt w bl S.lasts
  waits : MapAt w bw S.waits
  ne : bl ≠ bw
  dev : DevAt Rec.bytes w p D
def StoAt [Inhabited Bs] (w : World) (a p : Nat) (S : Sto) (D : RD) : Prop := ∃ q bl bw, StoF w a p q bl bw S D
/-- What a store's calls may touch. -/
abbrev stoT : List (Option TypeId) := [none, some 61, some 93, some 51, some 81, some 78]
theorem StoF.turnDev [Inhabited Bs] {T : List (Option TypeId)} {w w' : World} {a p q bl bw : Nat} {S : Sto} {D D' : RD} (h : StoF w a p q bl bw S D) (hk : Kept T w w') (h1 : none ∉ T) (h2 : some 61 ∉ T) (h3 : some 93 ∉ T) (hd : DevAt Rec.bytes w' p D') : StoF w' a p q bl bw S D' :=
  ⟨h.blk.kept hk h2, h.log.kept hk h3, h.lasts.kept hk h1, h.waits.kept hk h1, h.ne, hd⟩
theorem StoF.fresh [Inhabited Bs] {w w' : World} {a p q bl bw : Nat} {S : Sto} {D : RD} (h : StoF w a p q bl bw S D) (hf : Fresh w w') : StoF w' a p q bl bw S D :=
  h.turnDev (T := []) (.of_fresh hf) (by simp) (by simp) (by simp) (h.dev.fresh hf)
theorem StoF.device [Inhabited Bs] {w w' : World} {a p q bl bw : Nat} {S : Sto} {D D' : RD} (h : StoF w a p q bl bw S D) (hk : Kept devT w w') (hd : DevAt Rec.bytes w' p D') : StoF w' a p q bl bw S D' :=
  h.turnDev hk (by decide) (by decide) (by decide) hd
theorem StoF.touch [Inhabited Bs] {T : List (Option TypeId)} {w w' : World} {a p q bl bw : Nat} {S : Sto} {D : RD} (h : StoF w a p q bl bw S D) (hk : Kept T w w') (h1 : none ∉ T) (h2 : some 61 ∉ T) (h3 : some 93 ∉ T) (h4 : some 51 ∉ T) (h5 : some 78 ∉ T) (h6 : some 81 ∉ T) (h7 : some 5 ∉ T) : StoF w' a p q bl bw S D :=
  h.turnDev hk h1 h2 h3 (h.dev.kept hk h7 h4 h5 h6)
theorem StoAt.touch [Inhabited Bs] {T : List (Option TypeId)} {w w' : World} {a p : Nat} {S : Sto} {D : RD} (h : StoAt w a p S D) (hk : Kept T w w') (h1 : none ∉ T) (h2 : some 61 ∉ T) (h3 : some 93 ∉ T) (h4 : some 51 ∉ T) (h5 : some 78 ∉ T) (h6 : some 81 ∉ T) (h7 : some 5 ∉ T) : StoAt w' a p S D := by
  obtain ⟨q, bl, bw, h⟩ := h
  exact ⟨q, bl, bw, h.touch hk h1 h2 h3 h4 h5 h6 h7⟩
theorem StoAt.fresh [Inhabited Bs] {w w' : World} {a p : Nat} {S : Sto} {D : RD} (h : StoAt w a p S D) (hf : Fresh w w') : StoAt w' a p S D :=
  h.touch (T := []) (.of_fresh hf) (by simp) (by simp) (by simp) (by simp) (by simp) (by simp) (by simp)

set_option maxHeartbeats 1000000 in
theorem fits_any [Inhabited Bs] (p z g : Nat) (D : RD) (w : World) (h : DevAt Rec.bytes w p D) (hz : 4 ≤ z ∧ z ≤ 900) (hg : 1 ≤ g ∧ g ≤ 900) (hn : 2 + z + g ≤ D.n) :
    Calls Tryz.prog 18 #[.pointer (some ⟨p, 0, none⟩), .int .i64 z, .int .i64 g] w fun e w' => e = .returned (.bool true) ∧ w = w' := by
  have HH := Lib.hid h
  clear h
  have t1 : decide ((z : Int) ≥ 4) = true := by simp; omega
  have t2 : decide ((z : Int) ≤ 1000) = true := by simp; omega
  have t3 : decide ((g : Int) ≥ 1) = true := by simp; omega
  have t4 : decide ((g : Int) ≤ 3000) = true := by simp; omega
  have t5 : IntKind.i64.wrap ((2 : Int) + z) = (2 : Int) + z := by rw [IntKind.wrap_i64]; omega
  have t6 : IntKind.i64.wrap ((2 : Int) + z + g) = (2 : Int) + z + g := by rw [IntKind.wrap_i64]; omega
  have t7 : decide ((2 : Int) + z + g ≤ D.n) = true := by simp; omega
  go_enter Tryz.func18, Tryz.ntmps18
  go_wp2_with fail
  refine (size_any p D _ HH.out).mono ?_
  rintro e1 w1 ⟨rfl, rfl⟩
  go_wp2_with fail
  go_ret
  exact ⟨rfl, rfl⟩

theorem is_any [Inhabited Bs] (a p q bl bw k : Nat) (S : Sto) (D : RD) (w : World) (h : StoF w a p q bl bw S D) (hk : k < S.pg) :
    Calls Tryz.prog 24 #[.pointer (some ⟨a, 0, none⟩), .int .i64 k] w fun e w' => e = .returned (.bool true) ∧ w = w' := by
  have c3 := h.blk.cell 3
  simp only [List.getElem?_toArray, List.getElem?_cons_zero, List.getElem?_cons_succ] at c3
  have t1 : decide ((k : Int) ≥ 0) = true := by simp
  have t2 : decide ((k : Int) < S.pg) = true := by simp; omega
  clear h
  go_enter Tryz.func24, Tryz.ntmps24
  go_wp2_with fail
  go_ret
  exact ⟨rfl, rfl⟩

theorem home_any [Inhabited Bs] (a p q bl bw k : Nat) (S : Sto) (D : RD) (w : World) (h : StoF w a p q bl bw S D) (hz : S.L.sz ≤ 900) (hk : k < 900) :
    Calls Tryz.prog 33 #[.pointer (some ⟨a, 0, none⟩), .int .i64 k] w fun e w' => e = .returned (.int .i64 (2 + S.L.sz + k : Nat)) ∧ w = w' := by
  have c2 := h.blk.cell 2
  simp only [List.getElem?_toArray, List.getElem?_cons_zero, List.getElem?_cons_succ] at c2
  have t5 : IntKind.i64.wrap ((2 : Int) + S.L.sz) = (2 : Int) + S.L.sz := by rw [IntKind.wrap_i64]; omega
  have t6 : IntKind.i64.wrap ((2 : Int) + S.L.sz + k) = (2 : Int) + S.L.sz + k := by rw [IntKind.wrap_i64]; omega
  clear h
  go_enter Tryz.func33, Tryz.ntmps33
  go_wp2_with fail
  go_ret
  exact ⟨ret_int (by omega), rfl⟩

/-- A super record written and flushed. -/
def Dev.sup (D : RD) (g e t : Nat) : Int × RD := if (D.write (g % 2) (.sup g e t)).1 = 0 then (D.write (g % 2) (.sup g e t)).2.flush else D.write (g % 2) (.sup g e t)
theorem flush_cases {α : Type} (D : Dev α) : D.flush.1 = 0 ∨ D.flush.1 = 4 := by unfold Dev.flush; split; exact .inl rfl; exact .inr rfl
theorem sup_cases (D : RD) (g e t : Nat) : (D.sup g e t).1 = 0 ∨ (D.sup g e t).1 = 4 := by
  unfold Dev.sup
  split
  · exact flush_cases _
  · rename_i h
    rcases write_cases D (g % 2) (.sup g e t) with h1 | h1
    · exact absurd h1.1 h
    · exact .inr h1.1

set_option maxRecDepth 100000 in
set_option maxHeartbeats 4000000 in
theorem super_any [Inhabited Bs] (p : Nat) (D : RD) (g e t : Nat) (w : World) (h : DevAt Rec.bytes w p D) (hr : (Rec.sup g e t).ok) (hn : 2 ≤ D.n) (hl : D.left ≤ 1000) (hw : D.waits.length < 1000) (ha : ∀ x ∈ D.waits, x.1 < D.n) :
    Calls Tryz.prog 20 #[.pointer (some ⟨p, 0, none⟩), .agg #[.int .i64 g, .int .i64 e, .int .i64 t]] w fun ee w' => ee = .returned (.int .i64 (D.sup g e t).1) ∧ DevAt Rec.bytes w' p (D.sup g e t).2 ∧ Kept devT w w' := by
  have hb := Blk.new w 55 #[.int .i64 g, .int .i64 e, .int .i64 t]
  have HH := Lib.hid (And.intro h (And.intro ha hb))
  have em := Lib.hid (show (g : Int) % 2 = ((g % 2 : Nat) : Int) by omega)
  have hg2 : g % 2 < D.n := by omega
  clear h ha hb
  have hwc := write_cases D (g % 2) (Rec.sup g e t)
  rcases hxx : D.write (g % 2) (.sup g e t) with ⟨x, D2⟩
  have hn2 := write_n D (g % 2) (Rec.sup g e t)
  have hl2 := write_left D (g % 2) (Rec.sup g e t) hl
  rw [hxx] at hwc hn2 hl2
  simp only at hwc hn2 hl2
  have HW := Lib.hid (And.intro hwc (And.intro hn2 hl2))
  clear hwc hn2 hl2
  have HXX := Lib.hid hxx
  clear hxx
  go_enter Tryz.func20, Tryz.ntmps20
  go_wp2_with fail
  refine (encodeSuper_any g e t _ hr).mono ?_
  intro e1 w1 hg
  obtain ⟨v1, rfl, ho, hf⟩ := hg
  have hf2 := ((Touch.refl (fun _ => False) w).alloc (.cells #[.int .i64 g, .int .i64 e, .int .i64 t] 55)).both hf
  have H1 := Lib.hid (And.intro (own_base ho (Nat.zero_le _)) (And.intro (HH.out.1.fresh hf2) (And.intro hf2 (HH.out.2.2.touch hf id))))
  have c0 := H1.out.2.2.2.cell 0
  simp only [List.getElem?_toArray, List.getElem?_cons_zero] at c0
  clear ho hf hf2
  go_wp2_with fail
  have hcw := write_any (enc := Rec.bytes) p D (g % 2) v1 (.sup g e t) w1 H1.out.2.1 hl hg2 (Rec.bytes_length hr) H1.out.1 (by omega)
  rw [← em.out] at hcw
  refine hcw.mono ?_
  intro e2 w2 hp2
  rw [HXX.out] at hp2
  obtain ⟨rfl, hd, hk⟩ := hp2
  have H2 := Lib.hid (And.intro hd (And.intro ((Kept.of_fresh H1.out.2.2.1).trans hk) HXX.out))
  clear hd hk
  obtain ⟨hwc, hn2, hl2⟩ := HW.out
  have hx : x = 0 ∨ x = 4 := by rcases hwc with h | h; exact .inl h.1; exact .inr h.1
  have hws : D2.waits.length ≤ D.waits.length + 1 ∧ ∀ y ∈ D2.waits, y.1 < D.n := by
    rcases hwc with h | h
    · rw [h.2]; refine ⟨by simp, fun y hy => ?_⟩
      rcases List.mem_append.1 hy with hy | hy
      · exact HH.out.2.1 y hy
      · simp at hy; subst hy; exact hg2
    · rw [h.2]; exact ⟨by omega, HH.out.2.1⟩
  clear hwc HW
  rcases hx with rfl | rfl
  · go_wp2_with fail
    refine (flush_any p D2 _ H2.out.1 hl2 (by omega) (by rw [hn2]; exact hws.2)).mono ?_
    rintro e3 w3 ⟨rfl, hd3, hk3⟩
    have H3 := Lib.hid (And.intro hd3 (H2.out.2.1.trans hk3))
    clear hd3 hk3
    go_wp2_with fail
    go_ret
    unfold Dev.sup
    rw [H2.out.2.2]
    exact ⟨rfl, H3.out.1, H3.out.2⟩
  · go_wp2_with fail
    go_ret
    unfold Dev.sup
    rw [H2.out.2.2]
    exact ⟨rfl, H2.out.1, H2.out.2.1⟩

set_option maxRecDepth 100000 in
set_option maxHeartbeats 4000000 in
theorem format_any [Inhabited Bs] (p z g : Nat) (D : RD) (w : World) (h : DevAt Rec.bytes w p D) (hz : 4 ≤ z ∧ z ≤ 900) (hg : 1 ≤ g ∧ g ≤ 900) (hn : 2 + z + g ≤ D.n) (hn2 : D.n ≤ 4096) :
    Calls Tryz.prog 6 #[.pointer (some ⟨p, 0, none⟩), .int .i64 z, .int .i64 g] w fun ee w' => ee = .returned (.int .i64 ((Dev.new D.n : RD).sup 1 0 0).1) ∧ DevAt Rec.bytes w' p ((Dev.new D.n : RD).sup 1 0 0).2 ∧ Kept devT w w' := by
  have HH := Lib.hid h
  clear h
  go_enter Tryz.func6, Tryz.ntmps6
  go_wp2_with fail
  refine (fits_any p z g D _ HH.out hz hg hn).mono ?_
  rintro e1 w1 ⟨rfl, rfl⟩
  go_wp2_with fail
  refine (erase_any p D _ HH.out hn2).mono ?_
  rintro e1 w1 ⟨rfl, hd, hk⟩
  have H1 := Lib.hid (And.intro hd hk)
  clear hd hk
  go_wp2_with fail
  refine (super_any p (Dev.new D.n) 1 0 0 _ H1.out.1 ⟨by decide, by decide, by decide⟩ (by show 2 ≤ D.n; omega) (by show 0 ≤ 1000; decide) (by show 0 < 1000; decide) (by simp [Dev.new])).mono ?_
  rintro e2 w2 ⟨rfl, hd2, hk2⟩
  have H2 := Lib.hid (And.intro hd2 ((H1.out.2.mono (by simp)).trans hk2))
  clear hd2 hk2
  go_wp2_with fail
  go_ret
  exact ⟨rfl, H2.out.1, H2.out.2⟩

end Go.Proofs.YtcpelncjagaadaaGreatDoor
