/-
  awake.
-/
import Derived.Test.YtcpelncjagaadaaGreatDoorWZ
namespace Go.Proofs.YtcpelncjagaadaaGreatDoor
open Go.RowKit

attribute [local go_sem ↓] Go.wp_at_zero Go.wp_at_succ

/-- The text of the bytes. -/
def ckS : ByteArray := ⟨(ckB.map UInt8.ofNat).toArray⟩
theorem ckB_lt : ∀ b ∈ ckB, b < 256 := by
  intro b hb
  unfold ckB at hb
  rcases List.mem_or_eq_of_mem_set hb with hb | rfl
  · rcases List.mem_or_eq_of_mem_set hb with hb | rfl
    · rcases List.mem_or_eq_of_mem_set hb with hb | rfl
      · rw [ckF_eq] at hb
        simp only [ckL, List.mem_map] at hb
        obtain ⟨i, -, rfl⟩ := hb
        split <;> omega
      · decide
    · decide
  · decide
theorem ckS_eq : sB ckS = ckB := by
  unfold sB ckS
  simp only [List.map_map]
  conv => rhs; rw [← List.map_id ckB]
  apply List.map_congr_left
  intro b hb
  have := ckB_lt b hb
  simp
  omega
theorem ckS_size : ckS.size = 256 := by rw [← sB_length, ckS_eq, ckB_length]
/-- A row of bytes is a text. -/
theorem own_text {w : World} {base n cap g : Nat} {s : ByteArray} (h : w.ownsRow base 5 1 (.slice (some ⟨g, 0, none⟩) n cap) n (u8s (sB s))) (hn : n = s.size) : Lib.Bytes w g 0 s := by
  intro i hi
  rw [Nat.zero_add, World.ownsRow.cellAt h i (by omega), ← sB_getD s i hi]
  simp [u8s, List.getD, sB_length, hi]

def awS : Nat → Sec (List Nat) := upd (fun _ => ⟨none, false⟩) 0 ⟨some ckB, false⟩
theorem aw_write : (Dev.new 1 : Dev (List Nat)).write 0 ckB = (0, ⟨1, fun _ => ⟨none, false⟩, [(0, ckB)], false, false, 0⟩) := by
  simp [Dev.write, Dev.spend, Dev.new]
theorem aw_flush : (⟨1, fun _ => ⟨none, false⟩, [(0, ckB)], false, false, 0⟩ : Dev (List Nat)).flush = (0, ⟨1, awS, [], false, false, 0⟩) := by
  simp [Dev.flush, Dev.spend, lastAll, awS]

set_option maxRecDepth 100000 in
set_option maxHeartbeats 2000000 in
theorem awake_any [Inhabited Bs] (w : World) (hlo : lo ≤ w.heap.size) : Calls Tryz.prog 4 #[] w fun e w' => e = .returned (.bool true) ∧ Kept devT w w' := by
  go_enter Tryz.func4, Tryz.ntmps4
  go_wp2_with fail
  refine (new_any (α := List Nat) id 1 w hlo (by decide) (by decide)).mono ?_
  rintro e1 w1 ⟨p, rfl, hd, hf⟩
  have H1 := Lib.hid (And.intro hd (Kept.of_fresh (T := devT) hf))
  clear hd hf
  go_wp2_with fail
  refine (chunk_any w1).mono ?_
  rintro e2 w2 ⟨v, rfl, ho, hf⟩
  have H2 := Lib.hid (And.intro (H1.out.1.fresh hf) (And.intro (own_base ho (Nat.zero_le _)) (H1.out.2.fresh hf)))
  clear ho hf
  go_wp2_with fail
  refine (write_any p (Dev.new 1) 0 v ckB w2 H2.out.1 (by decide) (by decide) ckB_length H2.out.2.1 (by decide)).mono ?_
  rintro e3 w3 ⟨rfl, hd, hk⟩
  rw [aw_write] at hd ⊢
  have H3 := Lib.hid (And.intro hd (H2.out.2.2.trans hk))
  clear hd hk
  go_wp2_with fail
  refine (flush_any p _ w3 H3.out.1 (by decide) (by decide) (by simp)).mono ?_
  rintro e4 w4 ⟨rfl, hd, hk⟩
  rw [aw_flush] at hd ⊢
  have H4 := Lib.hid (And.intro hd (H3.out.2.trans hk))
  clear hd hk
  go_wp2_with fail
  refine (crash_any p _ _ [] w4 H4.out.1 (World.ownsRow_nil _ _ _ _) (by decide) (by simp)).mono ?_
  rintro e5 w5 ⟨rfl, hd, hk⟩
  have H5 := Lib.hid (And.intro hd (H4.out.2.trans hk))
  clear hd hk
  go_wp2_with fail
  refine (read_any p _ 0 w5 H5.out.1 rfl rfl (by decide) (fun r hr => by
    have e : r = ckB := by simpa [Dev.crash, crashAll, awS, upd] using hr.symm
    rw [e]; show 0 < ckB.length ∧ ckB.length ≤ 1000000; rw [ckB_length]; decide)).mono ?_
  intro e6 w6 hr
  have hr2 : OkBytes ckB w5 e6 w6 := hr
  obtain ⟨v6, rfl, ho, hf⟩ := hr2
  obtain ⟨g6, cap6, rfl, -, -⟩ := own_slot ho (by rw [ckB_length]; decide)
  have H6 := Lib.hid (And.intro ho (H5.out.2.fresh hf))
  clear ho hf hr
  rw [ckB_length]
  go_wp2_with fail
  have hcv : ∀ (W : World) (g cap : Nat), W.ownsRow 0 5 1 (.slice (some ⟨g, 0, none⟩) 256 cap) 256 (u8s ckB) → (convert 44 9 (.slice (some ⟨g, 0, none⟩) 256 cap)).run Tryz.prog W = .ok (.string ckS) W := by
    intro W g cap h
    have h2 : Lib.Bytes W g 0 ckS := own_text (n := 256) (by rw [ckS_eq]; exact h) ckS_size.symm
    have := Lib.run_convert_whole (P := Tryz.prog) W 44 5 9 Tryz.underlying44 Tryz.underlying5 Tryz.underlying9 g 0 ckS h2 cap
    rwa [ckS_size] at this
  have HC := Lib.hid hcv
  have ho6 := H6.out.1
  rw [ckB_length] at ho6
  have HO := Lib.hid ho6
  have v1 := HC.out _ _ _ (own_base (b' := 0) ho6 (Nat.zero_le _))
  have v2 := HC.out _ _ _ (own_fresh (own_base (b' := 0) ho6 (Nat.zero_le _)) (Touch.refl _ w6).drew)
  clear hcv ho6
  go_region_law (first
    | (go_simp; go_at_call 15; refine (chunk_any _).mono ?_; intro e7 w7 hg; obtain ⟨v7, rfl, ho7, hf7⟩ := hg; obtain ⟨g7, cap7, rfl, -, -⟩ := own_slot ho7 (by rw [ckB_length]; decide); rw [ckB_length] at ho7 ⊢; have v3 := HC.out _ _ _ (own_base (b' := 0) ho7 (Nat.zero_le _)); have v4 := HC.out _ _ _ (own_fresh (own_base (b' := 0) HO.out (Nat.zero_le _)) hf7.of_drew); have H7 := Lib.hid (H6.out.2.fresh hf7.of_drew); clear ho7 hf7))
  all_goals
    go_wp2_with fail
    go_ret
    exact ⟨rfl, H7.out⟩

end Go.Proofs.YtcpelncjagaadaaGreatDoor
