/-
  wal: transaction.
-/
import Derived.Test.YtcpelncjagaadaaGreatDoorXE
namespace Go.Proofs.YtcpelncjagaadaaGreatDoor
open Go.RowKit

attribute [local go_sem ↓] Go.wp_at_zero Go.wp_at_succ

deriving instance DecidableEq for LR
def secOf (z : Nat) (s : Nat → Sec Rec) (seq : Nat) : Sec Rec := s (2 + seq % z)
/-- What the record with a number must be in a transaction. -/
def wantL (head : LR) (next j : Nat) (r : LR) : LR := ⟨if j = head.c then 2 else 1, head.e, next + j, next, j, head.c, r.p, r.d⟩
def recAt (z : Nat) (s : Nat → Sec Rec) (next j : Nat) : LR × Bool := gotL (secOf z s (next + j)) (next + j)
def txOk (z : Nat) (s : Nat → Sec Rec) (next : Nat) (head : LR) (j : Nat) : Bool := (recAt z s next j).2 && decide ((recAt z s next j).1 = wantL head next j (recAt z s next j).1)
def imgs (z : Nat) (s : Nat → Sec Rec) (next n : Nat) : List (Nat × ByteArray) := (List.range n).map fun j => ((recAt z s next j).1.p, (recAt z s next j).1.d)
def txL (z : Nat) (s : Nat → Sec Rec) (next least room : Nat) : Option (List (Nat × ByteArray) × Nat) :=
  if (recAt z s next 0).2 = false ∨ (recAt z s next 0).1.e < least ∨ (recAt z s next 0).1.c ≥ room then none
  else if (List.range ((recAt z s next 0).1.c + 1)).all (txOk z s next (recAt z s next 0).1) then some (imgs z s next (recAt z s next 0).1.c, (recAt z s next 0).1.e) else none
def imgCells (l : List (Nat × ByteArray)) : List Value := l.flatMap fun x => [.int .i64 x.1, .string x.2]
theorem imgCells_length (l : List (Nat × ByteArray)) : (imgCells l).length = l.length * 2 := by
  induction l with
  | nil => rfl
  | cons a l ih => simp [imgCells] at *; omega
theorem imgCells_append (a b : List (Nat × ByteArray)) : imgCells (a ++ b) = imgCells a ++ imgCells b := by simp [imgCells]
theorem imgs_succ (z : Nat) (s : Nat → Sec Rec) (next n : Nat) : imgs z s next (n + 1) = imgs z s next n ++ [((recAt z s next n).1.p, (recAt z s next n).1.d)] := by simp [imgs, List.range_succ]
theorem imgs_length (z : Nat) (s : Nat → Sec Rec) (next n : Nat) : (imgs z s next n).length = n := by simp [imgs]
theorem txOk_ne {z : Nat} {s : Nat → Sec Rec} {next j : Nat} {r x : LR} (hx : recAt z s next j = (x, true)) (h : x ≠ wantL r next j x) : txOk z s next r j = false := by
  unfold txOk; rw [hx]; simp [h]
theorem txOk_no {z : Nat} {s : Nat → Sec Rec} {next j : Nat} {r x : LR} (hx : recAt z s next j = (x, false)) : txOk z s next r j = false := by
  unfold txOk; rw [hx]; rfl
theorem txOk_yes {z : Nat} {s : Nat → Sec Rec} {next j : Nat} {r x : LR} (hx : recAt z s next j = (x, true)) (h : x = wantL r next j x) : txOk z s next r j = true := by
  unfold txOk; rw [hx]; simp only [Bool.true_and]; exact decide_eq_true h
theorem want_eq {r x : LR} {next j k : Nat} (h0 : k = if j = r.c then 2 else 1) (h1 : (x.k : Int) = k) (h2 : (x.e : Int) = r.e) (h3 : (x.s : Int) = next + j) (h4 : (x.t : Int) = next) (h5 : (x.i : Int) = j) (h6 : (x.c : Int) = r.c) : x = wantL r next j x := by
  obtain ⟨a1, a2, a3, a4, a5, a6, a7, a8⟩ := x
  simp only at h1 h2 h3 h4 h5 h6
  obtain rfl : a1 = k := by omega
  obtain rfl : a2 = r.e := by omega
  obtain rfl : a3 = next + j := by omega
  obtain rfl : a4 = next := by omega
  obtain rfl : a5 = j := by omega
  obtain rfl : a6 = r.c := by omega
  simp only [wantL, h0]
theorem txL_none {z : Nat} {s : Nat → Sec Rec} {next least room j : Nat} {r : LR} (e0 : recAt z s next 0 = (r, true)) (hj : j ≤ r.c) (h : txOk z s next r j = false) : txL z s next least room = none := by
  unfold txL
  rw [e0]
  split
  · rfl
  · rw [if_neg]
    intro hh
    rw [List.all_eq_true] at hh
    have := hh j (by simp; omega)
    rw [h] at this
    cases this
theorem txL_some {z : Nat} {s : Nat → Sec Rec} {next least room : Nat} {r : LR} (e0 : recAt z s next 0 = (r, true)) (hE : ¬ r.e < least) (hC : ¬ r.c ≥ room) (h : ∀ j, j < r.c + 1 → txOk z s next r j = true) : txL z s next least room = some (imgs z s next r.c, r.e) := by
  unfold txL
  rw [e0]
  rw [if_neg (by simp; omega), if_pos]
  rw [List.all_eq_true]
  intro j hj
  exact h j (by simpa using hj)
theorem Tryz.info67 : (Tryz.prog.info? 67).map (fun i => (i.zero, i.size, i.bytes)) = some (some (.agg #[.int .i64 0, .string ⟨#[]⟩]), 2, 24) := by kernel_rfl

end Go.Proofs.YtcpelncjagaadaaGreatDoor
