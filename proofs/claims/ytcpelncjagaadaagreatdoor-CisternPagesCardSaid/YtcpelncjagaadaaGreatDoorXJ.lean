/-
  wal: Append.
-/
import Derived.Test.YtcpelncjagaadaaGreatDoorXI
namespace Go.Proofs.YtcpelncjagaadaaGreatDoor
open Go.RowKit

attribute [local go_sem ↓] Go.wp_at_zero Go.wp_at_succ
section
variable {α : Type}
/-- Writes, one behind the other, up to the first that fails. -/
def Dev.writes (D : Dev α) : List (Nat × α) → Int × Dev α
  | [] => (0, D)
  | x :: t => if (D.write x.1 x.2).1 = 0 then (D.write x.1 x.2).2.writes t else D.write x.1 x.2
theorem write_cases (D : Dev α) (a : Nat) (r : α) : ((D.write a r).1 = 0 ∧ (D.write a r).2.waits = D.waits ++ [(a, r)]) ∨ ((D.write a r).1 = 4 ∧ (D.write a r).2.waits = D.waits) := by
  unfold Dev.write
  split
  · exact .inl ⟨rfl, by rw [spend_waits]⟩
  · exact .inr ⟨rfl, by rw [spend_waits]⟩
theorem write_n (D : Dev α) (a : Nat) (r : α) : (D.write a r).2.n = D.n := by
  unfold Dev.write; split <;> exact spend_n D
theorem spend_left (D : Dev α) (h : D.left ≤ 1000) : D.spend.2.left ≤ 1000 := by
  unfold Dev.spend; repeat' split
  all_goals first | exact h | (simp only; omega)
theorem write_left (D : Dev α) (a : Nat) (r : α) (h : D.left ≤ 1000) : (D.write a r).2.left ≤ 1000 := by
  unfold Dev.write; split <;> exact spend_left D h
theorem writes_snoc (D : Dev α) (l : List (Nat × α)) (x : Nat × α) : D.writes (l ++ [x]) = if (D.writes l).1 = 0 then (D.writes l).2.write x.1 x.2 else D.writes l := by
  induction l generalizing D with
  | nil =>
    simp only [List.nil_append, Dev.writes, if_pos]
    split
    · rename_i h; rw [← h]
    · rfl
  | cons a t ih =>
    simp only [List.cons_append, Dev.writes]
    split
    · exact ih _
    · rfl
theorem writes_n (D : Dev α) (l : List (Nat × α)) : (D.writes l).2.n = D.n := by
  induction l generalizing D with
  | nil => rfl
  | cons a t ih =>
    simp only [Dev.writes]
    split
    · rw [ih, write_n]
    · rw [write_n]
theorem writes_left (D : Dev α) (l : List (Nat × α)) (h : D.left ≤ 1000) : (D.writes l).2.left ≤ 1000 := by
  induction l generalizing D with
  | nil => exact h
  | cons a t ih =>
    simp only [Dev.writes]
    split
    · exact ih _ (write_left D _ _ h)
    · exact write_left D _ _ h
theorem writes_len (D : Dev α) (l : List (Nat × α)) : (D.writes l).2.waits.length ≤ D.waits.length + l.length := by
  induction l generalizing D with
  | nil => exact Nat.le_refl _
  | cons a t ih =>
    simp only [Dev.writes, List.length_cons]
    split
    · have := ih (D.write a.1 a.2).2
      rcases write_cases D a.1 a.2 with h | h
      · rw [h.2, List.length_append] at this; simp at this; omega
      · rw [h.2] at this; omega
    · rcases write_cases D a.1 a.2 with h | h <;> rw [h.2] <;> simp <;> omega
theorem writes_stop (D : Dev α) (l : List (Nat × α)) (j : Nat) (h : (D.writes (l.take j)).1 ≠ 0) : D.writes l = D.writes (l.take j) := by
  induction l generalizing D j with
  | nil => simp
  | cons a t ih =>
    cases j with
    | zero => simp [Dev.writes] at h
    | succ j =>
      simp only [List.take_succ_cons, Dev.writes] at h ⊢
      split
      · rename_i h0; rw [if_pos h0] at h; exact ih _ j h
      · rfl
end
/-- A transaction's writes. -/
def txWs (L : Wal) (l : List Img) : List (Nat × Rec) := (recsOf L l).map fun r => (2 + r.s % L.sz, r.r)
theorem txWs_length (L : Wal) (l : List Img) : (txWs L l).length = l.length + 1 := by simp [txWs, recsOf_length]
theorem recsOf_at (L : Wal) (l : List Img) (j : Nat) (h : j < l.length + 1) : (recsOf L l)[j]? = some (recOf L l j) := by simp [recsOf, h]
theorem recOf_s (L : Wal) (l : List Img) (j : Nat) : (recOf L l j).s = L.next + j := by unfold recOf; split <;> rfl
theorem recOf_ok (L : Wal) (hL : L.ok) (l : List Img) (hl : l.length ≤ 1000) (hi : ∀ x ∈ l, x.1 < big ∧ x.2.size ≤ 160) (j : Nat) (hj : j < l.length + 1) : (recOf L l j).r.ok := by
  have h1 := hL.next
  have h2 := hL.epoch
  have hb : 10000000 < big := by decide
  unfold recOf
  split
  · rename_i h
    have hx := hi _ (List.getElem_mem h)
    have e : l.getD j (0, ⟨#[]⟩) = l[j] := by simp [List.getD, h]
    rw [e]
    refine ⟨.inl rfl, ?_, ?_, ?_, ?_, ?_, hx.1, hx.2⟩ <;> simp only <;> omega
  · refine ⟨.inr ⟨rfl, rfl, rfl⟩, ?_, ?_, ?_, ?_, ?_, ?_, ?_⟩ <;> simp only <;> first | omega | decide
theorem txWs_take (L : Wal) (l : List Img) (j : Nat) (h : j < l.length + 1) : (txWs L l).take (j + 1) = (txWs L l).take j ++ [(2 + (recOf L l j).s % L.sz, (recOf L l j).r)] := by
  rw [List.take_add_one]
  congr 1
  simp [txWs, recsOf_at L l j h]

end Go.Proofs.YtcpelncjagaadaaGreatDoor
