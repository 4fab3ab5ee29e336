/-
  CisternPages: what the walk's calls tell of a round.
-/
import Derived.Test.YtcpelncjagaadaaGreatDoorPD
namespace Go.Proofs.YtcpelncjagaadaaGreatDoor
open Go.RowKit Go.Maps

attribute [local go_sem ↓] Go.wp_at_zero Go.wp_at_succ

/-- A slice of numbers that came in. -/
def Reads (v : Value) (l : List Int) (w : World) : Prop :=
  ∃ ao cap, v = .slice ao l.length cap ∧ (0 < l.length → ∃ g o, ao = some ⟨g, o, none⟩ ∧ g < w.heap.size ∧ ∀ j, j < l.length → w.cell? ⟨g, o + j, none⟩ = some (.int .i64 (l.getD j 0)))
/-- One step, as its six cells say. -/
structure StepC where
  k : Int
  a : Int
  b : Int
  s : ByteArray
  t : ByteArray
  v : Value
  l : List Int
def StepC.cells (x : StepC) : Array Value := #[.int .i64 x.k, .int .i64 x.a, .int .i64 x.b, .string x.s, .string x.t, x.v]
structure StepAt (w : World) (g o : Nat) (x : StepC) : Prop where
  c0 : w.cell? ⟨g, o, none⟩ = some (.int .i64 x.k)
  c1 : w.cell? ⟨g, o + 1, none⟩ = some (.int .i64 x.a)
  c2 : w.cell? ⟨g, o + 2, none⟩ = some (.int .i64 x.b)
  c3 : w.cell? ⟨g, o + 3, none⟩ = some (.string x.s)
  c4 : w.cell? ⟨g, o + 4, none⟩ = some (.string x.t)
  c5 : w.cell? ⟨g, o + 5, none⟩ = some x.v
  l : Reads x.v x.l w
  n : x.l.length ≤ 17592186044416
/-- The steps that came in. -/
def ReadsSteps (v : Value) (l : List StepC) (w : World) : Prop :=
  ∃ ao cap, v = .slice ao l.length cap ∧ (0 < l.length → ∃ g o, ao = some ⟨g, o, none⟩ ∧ g < w.heap.size ∧ ∀ j (x : StepC), l[j]? = some x → StepAt w g (o + j * 6) x)
theorem Reads.fresh {v : Value} {l : List Int} {w w' : World} (h : Reads v l w) (ht : Fresh w w') : Reads v l w' := by
  obtain ⟨ao, cap, rfl, h⟩ := h
  refine ⟨ao, cap, rfl, fun hp => ?_⟩
  obtain ⟨g, o, rfl, hg, hc⟩ := h hp
  exact ⟨g, o, rfl, Nat.lt_of_lt_of_le hg ht.size, fun j hj => by rw [ht.cell (p := ⟨g, o + j, none⟩) hg id]; exact hc j hj⟩
theorem StepAt.fresh {w w' : World} {g o : Nat} {x : StepC} (h : StepAt w g o x) (hg : g < w.heap.size) (ht : Fresh w w') : StepAt w' g o x :=
  ⟨by rw [ht.cell (p := ⟨g, _, none⟩) hg id]; exact h.c0, by rw [ht.cell (p := ⟨g, _, none⟩) hg id]; exact h.c1, by rw [ht.cell (p := ⟨g, _, none⟩) hg id]; exact h.c2, by rw [ht.cell (p := ⟨g, _, none⟩) hg id]; exact h.c3, by rw [ht.cell (p := ⟨g, _, none⟩) hg id]; exact h.c4, by rw [ht.cell (p := ⟨g, _, none⟩) hg id]; exact h.c5, h.l.fresh ht, h.n⟩
theorem reads_cells {ad : Addr} {l : List Int} {w w' : World} (h : 0 < l.length → ∃ g o, some ad = some ⟨g, o, none⟩ ∧ g < w.heap.size ∧ ∀ j, j < l.length → w.cell? ⟨g, o + j, none⟩ = some (.int .i64 (l.getD j 0))) (ht : Fresh w w') :
    ∀ (j : Nat) (u : Value), (l.map (Value.int .i64))[j]? = some u → w'.cell? (ad.add j) = some u := by
  intro j u hu
  have hj : j < l.length := by simpa using (List.getElem?_eq_some_iff.1 hu).1
  obtain ⟨g, o, e, hg, hc⟩ := h (by omega)
  cases e
  have e2 : (⟨g, o, none⟩ : Addr).add j = ⟨g, o + j, none⟩ := by simp [Addr.add]
  rw [e2, ht.cell (p := ⟨g, o + j, none⟩) hg id, hc j hj]
  simp [hj] at hu
  simp [List.getD, hj, hu]
theorem txt_ne {m s : ByteArray} (h : ¬ m = s) : (m.toList == s.toList) = false := by
  rw [ByteArray.toList_eq, ByteArray.toList_eq]
  simpa using fun e => h (Go.WideShapes.bytes_inj e)
theorem arm_arg (x : Int) : ∃ k : Nat, k ≤ 8 ∧ wrap64 ((IntKind.u64.wrap x).tmod 9) = (k : Int) := by
  have h0 : 0 ≤ IntKind.u64.wrap x := by rw [IntKind.wrap_u64]; omega
  generalize IntKind.u64.wrap x = y at h0
  rw [Int.tmod_eq_emod_of_nonneg h0]
  exact ⟨(y % 9).toNat, by omega, by unfold wrap64; omega⟩
/-- With the base at the world's own end: nothing that was there is touched. -/
theorem fresh_of_kept {T : List (Option TypeId)} {w w' : World} (h : letI : Inhabited Bs := ⟨w.heap.size⟩; Kept T w w') : Fresh w w' :=
  Touch.mono h (fun k hk hh => by
    obtain ⟨hl, -⟩ := hh
    have : w.heap.size ≤ k := hl
    omega)

/-- The play's state in a round. -/
structure Round [Inhabited Bs] (w wr : World) (a p b : Nat) (s m : ByteArray) : Prop where
  st : ∃ S D, StoAt wr a p S D ∧ Play S D b s m
  k : Kept stoT w wr

theorem Round.fresh [Inhabited Bs] {w wr w' : World} {a p b : Nat} {s m : ByteArray} (h : Round w wr a p b s m) (hf : Fresh wr w') : Round w w' a p b s m := by
  obtain ⟨⟨S, D, hS, hP⟩, hk⟩ := h
  exact ⟨⟨S, D, hS.fresh hf, hP⟩, hk.fresh hf⟩
theorem Round.more [Inhabited Bs] {w wr : World} {a p b b' : Nat} {s m : ByteArray} (h : Round w wr a p b s m) (hb : b ≤ b') : Round w wr a p b' s m := by
  obtain ⟨⟨S, D, hS, hP⟩, hk⟩ := h
  exact ⟨⟨S, D, hS, hP.mono hb⟩, hk⟩
/-- Checkpoint in a round. -/
theorem Round.chk [Inhabited Bs] {w wr : World} {a p b : Nat} {s m : ByteArray} (h : Round w wr a p b s m) (hb : b + 1 ≤ 900) :
    Calls Tryz.prog 13 #[.pointer (some ⟨a, 0, none⟩)] wr fun e w' => ∃ c : Int, e = .returned (.int .i64 c) ∧ (c = 0 ∨ c = 4) ∧ Round w w' a p (b + 1) s m ∧ Kept stoT wr w' := by
  obtain ⟨⟨S, D, ⟨q, bl, bw, hS⟩, hP⟩, hk⟩ := h
  have hn := hP.n
  refine (checkpoint_any a p q bl bw S D wr hS hP.sok hn hP.fit).mono ?_
  rintro e w' ⟨rfl, h1, h2⟩
  exact ⟨_, rfl, (hP.chk hb).2, ⟨⟨_, _, h1, (hP.chk hb).1⟩, hk.trans h2⟩, h2⟩
/-- The store behind the Puts. -/
structure Put1 [Inhabited Bs] (w wr : World) (a p b : Nat) (s m v : ByteArray) : Prop where
  st : ∃ S D, StoAt wr a p { S with waits := ins 3 v S.waits } D ∧ Play S D b s m
  k : Kept stoT w wr
structure Put2 [Inhabited Bs] (w wr : World) (a p b : Nat) (s m v : ByteArray) : Prop where
  st : ∃ S D, StoAt wr a p { S with waits := two v } D ∧ Play S D b s m
  k : Kept stoT w wr
theorem Round.put1 [Inhabited Bs] {w wr : World} {a p b : Nat} {s m v : ByteArray} (h : Round w wr a p b s m) (hv : v.size ≤ 160) :
    Calls Tryz.prog 8 #[.pointer (some ⟨a, 0, none⟩), .int .i64 3, .string v] wr fun e w' => e = .returned (.int .i64 0) ∧ Put1 w w' a p b s m v ∧ Kept stoT wr w' := by
  obtain ⟨⟨S, D, ⟨q, bl, bw, hS⟩, hP⟩, hk⟩ := h
  have hl := hP.len
  refine (put_page a p q bl bw 3 v S D wr hS (by rw [hP.pg]; decide) (by rw [hP.pg]; decide) hv (by omega)).mono ?_
  rintro e w' ⟨rfl, h1, h2⟩
  exact ⟨rfl, ⟨⟨S, D, ⟨_, _, _, h1⟩, hP⟩, hk.trans h2⟩, h2⟩
theorem Put1.put2 [Inhabited Bs] {w wr : World} {a p b : Nat} {s m v : ByteArray} (h : Put1 w wr a p b s m v) (hv : v.size ≤ 160) :
    Calls Tryz.prog 8 #[.pointer (some ⟨a, 0, none⟩), .int .i64 8, .string v] wr fun e w' => e = .returned (.int .i64 0) ∧ Put2 w w' a p b s m v ∧ Kept stoT wr w' := by
  obtain ⟨⟨S, D, ⟨q, bl, bw, hS⟩, hP⟩, hk⟩ := h
  have hl := hP.len
  have h3 := ins_length 3 v S.waits
  refine (put_page a p q bl bw 8 v _ D wr hS (by show 8 < S.pg; rw [hP.pg]; decide) (by show S.pg ≤ 900; rw [hP.pg]; decide) hv (by show (ins 3 v S.waits).length ≤ 900; omega)).mono ?_
  rintro e w' ⟨rfl, h1, h2⟩
  have h1' : StoF w' a p q bl bw { S with waits := ins 8 v (ins 3 v S.waits) } D := h1
  rw [hP.puts v] at h1'
  exact ⟨rfl, ⟨⟨S, D, ⟨_, _, _, h1'⟩, hP⟩, hk.trans h2⟩, h2⟩
theorem Put2.com [Inhabited Bs] {w wr : World} {a p b : Nat} {s m v : ByteArray} (h : Put2 w wr a p b s m v) (hv : v.size ≤ 160) (hb : b + 1 ≤ 900) :
    Calls Tryz.prog 9 #[.pointer (some ⟨a, 0, none⟩)] wr fun e w' => (e = .returned (.int .i64 0) ∧ Round w w' a p (b + 1) v v ∨ e = .returned (.int .i64 4) ∧ Round w w' a p (b + 1) s (if m = s then v else m)) ∧ Kept stoT wr w' := by
  obtain ⟨⟨S, D, ⟨q, bl, bw, hS⟩, hP⟩, hk⟩ := h
  have hg := hP.gen
  refine (commit_any a p q bl bw _ D wr hS (hP.fits hv) (by show S.gen + 1 ≤ 1000000; omega)).mono ?_
  rintro e w' ⟨rfl, h1, h2⟩
  rcases hP.com hv hb with ⟨e1, h3⟩ | ⟨e1, h3⟩
  · exact ⟨.inl ⟨by rw [e1], ⟨⟨_, _, h1, h3⟩, hk.trans h2⟩⟩, h2⟩
  · exact ⟨.inr ⟨by rw [e1], ⟨⟨_, _, h1, h3⟩, hk.trans h2⟩⟩, h2⟩
theorem Round.arm [Inhabited Bs] {w wr : World} {a p b k : Nat} {s m : ByteArray} (h : Round w wr a p b s m) (hk1 : k ≤ 1000) :
    Calls Tryz.prog 10 #[.pointer (some ⟨p, 0, none⟩), .int .i64 k] wr fun e w' => e = .returned (.tuple #[]) ∧ Round w w' a p b s m ∧ Kept stoT wr w' := by
  obtain ⟨⟨S, D, ⟨q, bl, bw, hS⟩, hP⟩, hk⟩ := h
  refine (arm_any p D k wr hS.dev).mono ?_
  rintro e w' ⟨rfl, h1, h2⟩
  have h3 : Kept stoT wr w' := h2.mono (by simp)
  exact ⟨rfl, ⟨⟨S, D.arm k, ⟨_, _, _, hS.device (h2.mono (by simp)) h1⟩, hP.arm hk1⟩, hk.trans h3⟩, h3⟩
/-- The device behind the power's fail. -/
structure Fell [Inhabited Bs] (w wr : World) (p b : Nat) (s m : ByteArray) : Prop where
  st : ∃ D, DevAt Rec.bytes wr p D ∧ D.off = false ∧ D.armed = false ∧ D.waits = [] ∧ 18 ≤ D.n ∧ D.left ≤ 1000 ∧ Stands 6 10 b D.s (Two s m)
  k : Kept stoT w wr
theorem Round.crash [Inhabited Bs] {w wr : World} {a p b : Nat} {s m : ByteArray} {v : Value} {L : List Int} (h : Round w wr a p b s m) (hv : IntsAt wr v L) :
    Calls Tryz.prog 11 #[.pointer (some ⟨p, 0, none⟩), v] wr fun e w' => e = .returned (.tuple #[]) ∧ Fell w w' p b s m ∧ Kept stoT wr w' := by
  obtain ⟨⟨S, D, ⟨q, bl, bw, hS⟩, hP⟩, hk⟩ := h
  have hn := hP.n
  rw [hP.sz, hP.pg] at hn
  refine (crash_any p D v L wr hS.dev hv hP.devs.1 hP.devs.2).mono ?_
  rintro e w' ⟨rfl, h1, h2⟩
  have h3 : Kept stoT wr w' := h2.mono (by simp)
  exact ⟨rfl, ⟨⟨_, h1, rfl, rfl, rfl, by show 18 ≤ D.n; omega, hP.left, hP.stands L⟩, hk.trans h3⟩, h3⟩
structure Back [Inhabited Bs] (w wr : World) (a p b : Nat) (x : ByteArray) : Prop where
  st : ∃ S D txs C, StoAt wr a p S D ∧ On S D txs C ∧ C 3 = x ∧ C 8 = x ∧ S.waits = [] ∧ S.pg = 10 ∧ S.L.sz = 6 ∧ Play S D b x x
  k : Kept stoT w wr
theorem Fell.mount [Inhabited Bs] {w wr : World} {p b : Nat} {s m : ByteArray} (h : Fell w wr p b s m) (hb : b + 1 ≤ 900) :
    Calls Tryz.prog 7 #[.pointer (some ⟨p, 0, none⟩), .int .i64 6, .int .i64 10] wr fun e w' => ∃ a x, e = .returned (.tuple #[.pointer (some ⟨a, 0, none⟩), .int .i64 0]) ∧ Back w w' a p (b + 1) x ∧ (x = s ∨ x = m) ∧ Kept stoT wr w' := by
  obtain ⟨⟨D, hD, h1, h2, h3, h4, h5, h6⟩, hk⟩ := h
  refine (mount_law p 6 10 b D wr hD h1 h2 h3 (by decide) (by decide) h4 h5 hb h6).mono ?_
  rintro e w' ⟨a, S, D', txs, C, rfl, hS, hon, hC, m1, m2, m3, m4, m5, m6, m7, m8, hk4⟩
  exact ⟨a, C 3, rfl, ⟨⟨S, D', txs, C, hS, hon, rfl, hC.1.symm, m6, m2, m1, Play.of_on hon m1 m2 m3 m4 (by omega) (by omega) m6 hC.1.symm⟩, hk.trans hk4⟩, hC.2, hk4⟩
theorem Back.get [Inhabited Bs] {w wr : World} {a p b : Nat} {x : ByteArray} (h : Back w wr a p b x) (k : Nat) (hk : k = 3 ∨ k = 8) :
    Calls Tryz.prog 12 #[.pointer (some ⟨a, 0, none⟩), .int .i64 k] wr fun e w' => e = .returned (.tuple #[.string x, .int .i64 0]) ∧ Back w w' a p b x ∧ Kept stoT wr w' := by
  obtain ⟨⟨S, D, txs, C, ⟨q, bl, bw, hS⟩, hon, h3, h8, hw, hpg, hsz, hP⟩, hkp⟩ := h
  have hkk : k < S.pg := by omega
  have hn := hon.n
  refine (get_page a p q bl bw k S D wr hS (by omega) (by omega) hkk hon.off hon.waits (by omega) (hon.core.home k hkk)).mono ?_
  rintro e w' ⟨rfl, hf⟩
  rw [get_law hon hw hkk]
  have hx : C k = x := by rcases hk with rfl | rfl <;> assumption
  rw [hx]
  exact ⟨rfl, ⟨⟨S, D, txs, C, ⟨q, bl, bw, hS.fresh hf⟩, hon, h3, h8, hw, hpg, hsz, hP⟩, hkp.fresh hf⟩, .of_fresh hf⟩
theorem Back.round [Inhabited Bs] {w wr : World} {a p b : Nat} {x : ByteArray} (h : Back w wr a p b x) : Round w wr a p b x x := by
  obtain ⟨⟨S, D, txs, C, hS, hon, h3, h8, hw, hpg, hsz, hP⟩, hkp⟩ := h
  exact ⟨⟨S, D, hS, hP⟩, hkp⟩

end Go.Proofs.YtcpelncjagaadaaGreatDoor
