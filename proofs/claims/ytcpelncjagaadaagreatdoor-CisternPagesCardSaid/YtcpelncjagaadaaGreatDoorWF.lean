/-
  Clone; Seal; Open; Frame; Unframe.
-/
import Derived.Test.YtcpelncjagaadaaGreatDoorWE
namespace Go.Proofs.YtcpelncjagaadaaGreatDoor
open Go.RowKit

attribute [local go_sem ↓] Go.wp_at_zero Go.wp_at_succ

theorem Shows.cells {ad : Addr} {n cap : Nat} {B : List Nat} {w w' : World} (h : Shows (.slice (some ad) n cap) B w) (ht : Fresh w w') : ∀ (j : Nat) (u : Value), (u8s B)[j]? = some u → w'.cell? (ad.add j) = some u := by
  intro j u hu
  obtain ⟨ao, cap', e, -, h⟩ := h
  injection e with e1 e2 e3
  have hj : j < B.length := by simpa [u8s] using (List.getElem?_eq_some_iff.1 hu).1
  obtain ⟨g, o, e4, -, hc⟩ := h (by omega)
  rw [e4] at e1
  injection e1 with e1
  subst e1
  rw [add_plain, ht.val (hc j hj) id]
  simp [u8s, hj] at hu
  simp [List.getD, hj, hu]

/-- New bytes of the call's own. -/
def NewBytes (B : List Nat) (w : World) (e : Ending) (w' : World) : Prop :=
  ∃ v, e = .returned v ∧ w'.ownsRow w.heap.size 5 1 v B.length (u8s B) ∧ Fresh w w'

set_option maxHeartbeats 400000 in
theorem clone83_any (v : Value) (B : List Nat) (w : World) (hl : B.length ≤ 1000000) (h : Shows v B w) : Calls Tryz.prog 83 #[v] w (NewBytes B w) := by
  obtain ⟨i0, hi, hz0, hz1, hz2⟩ := info_parts Tryz.info5
  have HS := Lib.hid h
  obtain ⟨ao, cap, rfl, hcap, hr⟩ := h
  cases ao with
  | none =>
    have h0 : B = [] := by
      rcases Nat.eq_zero_or_pos B.length with h | h
      · exact List.eq_nil_of_length_eq_zero h
      · obtain ⟨g, o, h, -⟩ := hr h
        cases h
    subst h0
    clear hr
    have hq := Lib.run_eql_slice_nil (P := Tryz.prog) w 44 5 none 0 cap 0 0 Tryz.underlying44
    go_enter Tryz.func83, Tryz.ntmps83
    go_wp2_with fail
    go_ret
    exact ⟨_, rfl, World.ownsRow_nil _ _ _ _, Touch.refl _ _⟩
  | some ad =>
    have hc := Lib.hid (HS.out.cells ((Touch.refl _ w).alloc (.cells #[] 5)))
    clear hr
    have hq := Lib.run_eql_slice_nil (P := Tryz.prog) w 44 5 (some ad) B.length cap 0 0 Tryz.underlying44
    go_enter Tryz.func83, Tryz.ntmps83
    go_wp2_with ((at_builtin; refine wpList_append_own_at _ rfl _ _ 44 rfl w.heap.size 5 i0 (.int .u8 0) 1 1 Tryz.underlying44 hi hz0 hz1 hz2 rfl (by decide) _ _ _ rfl (World.ownsRow_made w #[] 0 (Nat.le_refl _) (by decide) (by simp)) ad B.length cap (u8s B) rfl (by simp [u8s]) ?c1 ?c2 ?c3 ?c4 ?c5 ?_))
    case c1 => exact hc.out
    case c2 => intro u hu; simp [u8s] at hu; obtain ⟨x, -, rfl⟩ := hu; rfl
    case c3 => unfold maxLen; omega
    case c4 => omega
    case c5 => simp
    intro v' w2 hown1 hg1 _ _
    have ht1 : Fresh w w2 := ((Touch.refl _ w).alloc _).grownNew (World.ownsRow_made (size := 1) w #[] 0 (Nat.le_refl _) (by decide) (by simp)) (Nat.le_refl _) hg1
    have R := Lib.hid (And.intro hown1 ht1)
    clear hown1 hg1 ht1
    go_wp2_with fail
    go_ret
    exact ⟨_, rfl, by simpa using R.out.1, R.out.2⟩

set_option maxHeartbeats 400000 in
theorem clone38_any (v : Value) (B : List Nat) (w : World) (hl : B.length ≤ 1000000) (h : Shows v B w) : Calls Tryz.prog 38 #[v] w (NewBytes B w) := by
  obtain ⟨i0, hi, hz0, hz1, hz2⟩ := info_parts Tryz.info5
  have HS := Lib.hid h
  obtain ⟨ao, cap, rfl, hcap, hr⟩ := h
  cases ao with
  | none =>
    have h0 : B = [] := by
      rcases Nat.eq_zero_or_pos B.length with h | h
      · exact List.eq_nil_of_length_eq_zero h
      · obtain ⟨g, o, h, -⟩ := hr h
        cases h
    subst h0
    clear hr
    have hq := Lib.run_eql_slice_nil (P := Tryz.prog) w 44 5 none 0 cap 0 0 Tryz.underlying44
    go_enter Tryz.func38, Tryz.ntmps38
    go_wp2_with fail
    go_ret
    exact ⟨_, rfl, World.ownsRow_nil _ _ _ _, Touch.refl _ _⟩
  | some ad =>
    have hc := Lib.hid (HS.out.cells ((Touch.refl _ w).alloc (.cells #[] 5)))
    clear hr
    have hq := Lib.run_eql_slice_nil (P := Tryz.prog) w 44 5 (some ad) B.length cap 0 0 Tryz.underlying44
    go_enter Tryz.func38, Tryz.ntmps38
    go_wp2_with ((at_builtin; refine wpList_append_own_at _ rfl _ _ 44 rfl w.heap.size 5 i0 (.int .u8 0) 1 1 Tryz.underlying44 hi hz0 hz1 hz2 rfl (by decide) _ _ _ rfl (World.ownsRow_made w #[] 0 (Nat.le_refl _) (by decide) (by simp)) ad B.length cap (u8s B) rfl (by simp [u8s]) ?c1 ?c2 ?c3 ?c4 ?c5 ?_))
    case c1 => exact hc.out
    case c2 => intro u hu; simp [u8s] at hu; obtain ⟨x, -, rfl⟩ := hu; rfl
    case c3 => unfold maxLen; omega
    case c4 => omega
    case c5 => simp
    intro v' w2 hown1 hg1 _ _
    have ht1 : Fresh w w2 := ((Touch.refl _ w).alloc _).grownNew (World.ownsRow_made (size := 1) w #[] 0 (Nat.le_refl _) (by decide) (by simp)) (Nat.le_refl _) hg1
    have R := Lib.hid (And.intro hown1 ht1)
    clear hown1 hg1 ht1
    go_wp2_with fail
    go_ret
    exact ⟨_, rfl, by simpa using R.out.1, R.out.2⟩


/-- Bytes with their checksum. -/
def sealB (B : List Nat) : List Nat := B ++ le (crc B) 4
theorem sealB_lt {B : List Nat} (h : ∀ b ∈ B, b < 256) : ∀ b ∈ sealB B, b < 256 := by
  intro b hb
  rcases List.mem_append.1 hb with hb | hb
  · exact h b hb
  · exact le_lt _ _ b hb
theorem sealB_length (B : List Nat) : (sealB B).length = B.length + 4 := by simp [sealB, le_length]

set_option maxHeartbeats 400000 in
theorem seal_any (v : Value) (B : List Nat) (w : World) (hl : B.length ≤ 1000000) (hB : ∀ b ∈ B, b < 256) (h : Shows v B w) : Calls Tryz.prog 65 #[v] w (NewBytes (sealB B) w) := by
  have H := Lib.hid (And.intro hB h)
  have hc := crc_lt B hB
  have HL := Lib.hid (sealB_length B)
  clear hB h
  go_enter Tryz.func65, Tryz.ntmps65
  go_wp2_with fail
  refine (clone83_any v B _ hl H.out.2).mono ?_
  intro e w1 hg
  obtain ⟨v1, rfl, ho, ht⟩ := hg
  have H1 := Lib.hid (And.intro ho ht)
  have hs := ht.size
  clear ho ht
  go_wp2_with fail
  refine (crc_any v B _ hl H.out.1 (H.out.2.fresh H1.out.2)).mono ?_
  rintro e w2 ⟨rfl, rfl⟩
  go_wp2_with fail
  refine (put_any w.heap.size v1 B (crc B) 4 _ (by omega) hl hs H1.out.1).mono ?_
  intro e w3 hg
  obtain ⟨v3, rfl, ho, ht, _⟩ := hg
  have H3 := Lib.hid (And.intro ho (H1.out.2.ownRow H1.out.1 (Nat.le_refl _) ht))
  clear ho ht
  go_wp2_with fail
  go_ret
  exact ⟨_, rfl, H3.out.1, H3.out.2⟩

end Go.Proofs.YtcpelncjagaadaaGreatDoor
