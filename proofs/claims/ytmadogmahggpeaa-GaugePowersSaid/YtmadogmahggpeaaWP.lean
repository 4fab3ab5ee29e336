/-
  The walks of the plans: package backoff's and the reference's.
-/
import Derived.Test.YtmadogmahggpeaaWH
namespace Go.Proofs.Ytmadogmahggpeaa
open Go.RowKit

/-- The tick behind so many tries, and the plan's list. -/
def acc (base factor cap : Nat) (now : Int) : Nat → Int
  | 0 => now
  | k + 1 => acc base factor cap now k + delayZ base factor cap k
def planL (base factor cap : Nat) (now : Int) (n : Nat) : List Int := (List.range n).map fun k => acc base factor cap now (k + 1)

theorem acc_range (base factor cap : Nat) (now : Int) (k : Nat) : now ≤ acc base factor cap now k ∧ acc base factor cap now k ≤ now + 100000 * k := by
  induction k with
  | zero => simp [acc]
  | succ k ih =>
    have := delay_range base factor cap k
    simp only [acc]; omega
theorem planL_succ (base factor cap : Nat) (now : Int) (k : Nat) : planL base factor cap now (k + 1) = planL base factor cap now k ++ [acc base factor cap now (k + 1)] := by
  unfold planL; rw [List.range_succ, List.map_append]; rfl
theorem planL_length (base factor cap : Nat) (now : Int) (k : Nat) : (planL base factor cap now k).length = k := by simp [planL]

theorem Try.info3 : (Try.prog.info? 3).map (fun i => (i.zero, i.size, i.bytes)) = some (some (.int .i64 0), 1, 8) := by kernel_rfl

/-- A list of numbers as a slice of the call's own. -/
def Owns (B : Nat) (v : Value) (l : List Int) (w : World) : Prop := w.ownsRow B 3 1 v l.length (l.map (Value.int .i64))

theorem ownsRow_drewN {w : World} {base : Nat} {e : TypeId} {size : Nat} {v : Value} {n : Nat} {xs : List Value} (h : w.ownsRow base e size v n xs) (k : Nat) : (w.drewN k).ownsRow base e size v n xs := h

theorem Owns.grow {B : Nat} {v : Value} {l : List Int} {w : World} (h : Owns B v l w) (m : Nat) (o : Obj) : Owns B v l ((w.drewN m).alloc o) := World.ownsRow.alloc (ownsRow_drewN h m) o

theorem Owns.below {B : Nat} {v : Value} {l : List Int} {w w' : World} (h : Owns B v l w) (hb : Below w.heap.size w w') : Owns B v l w' := by
  refine World.ownsRow.kept (row := none) h ⟨hb.os, hb.tape, hb.output, hb.size, fun k hk _ => hb.block k hk⟩ ?_
  cases v.ownBlock with
  | none => exact .inl rfl
  | some k => exact .inr (by simp)

theorem below_own {B : Nat} {w w1 w2 : World} {v : Value} {n : Nat} {xs : List Value} (h : Below B w w1) (hB : B ≤ w1.heap.size) (hown : w1.ownsRow B 3 1 v n xs) (hg : w1.grownBy w2 v.ownBlock) : Below B w w2 :=
  h.grown hg hB (fun k hk => (hown.lt k hk).1)

theorem plan_step {B k : Nat} {base factor cap : Nat} {now : Int} {v v' : Value} {w w1 w' : World} (hown : Owns B v (planL base factor cap now k) w1) (hB : B ≤ w1.heap.size) (hbel : Below B w w1)
    (ho : w'.ownsRow B 3 1 v' ((planL base factor cap now k).length + 1) (List.map (Value.int IntKind.i64) (planL base factor cap now k) ++ [Value.int IntKind.i64 (acc base factor cap now k + delayZ base factor cap k)]))
    (hg : w1.grownBy w' v.ownBlock) : Owns B v' (planL base factor cap now (k + 1)) w' ∧ Below B w w' := by
  refine ⟨?_, below_own hbel hB hown hg⟩
  unfold Owns
  rw [planL_succ, List.length_append, List.map_append]
  exact ho

set_option maxHeartbeats 1000000 in
theorem docplan_yes (base factor cap : Nat) (now : Int) (n : Nat) (w : World) (h0 : 0 ≤ now) (h1 : now ≤ 1099511627776) (hn : n ≤ 1000) :
    Calls Try.prog 24 #[.float .f64 base, .float .f64 factor, .float .f64 cap, .int .i64 now, .int .i64 n] w fun e w' =>
      ∃ v, e = .returned (.tuple #[v, .int .i64 0]) ∧ Owns w.heap.size v (planL base factor cap now n) w' ∧ Below w.heap.size w w' := by
  obtain ⟨i0, hi, hz0, hz1, hz2⟩ := info_parts Try.info3
  go_enter Try.func24, Try.ntmps24
  go_wp2
  go_loopw [3, 12, 13] (fun a v i wr => ∃ k : Nat, k ≤ n ∧ a = .int .i64 (acc base factor cap now k) ∧ i = .int .i64 k ∧ Owns w.heap.size v (planL base factor cap now k) wr ∧ Below w.heap.size w wr)
    (fun _ _ i _ => n - (intOf i).toNat)
  case atStart => exact ⟨0, Nat.zero_le _, rfl, rfl, World.ownsRow_nil _ _ _ _, Below.refl _ _⟩
  case round =>
    obtain ⟨k, hk, rfl, rfl, hown, hbel⟩ := hrel
    have ha := acc_range base factor cap now k
    have hd := delay_range base factor cap k
    have Hown := Lib.hid hown
    have Hbel := Lib.hid hbel
    have hs := hbel.size
    clear hown hbel
    by_cases hlt : k < n
    · go_wp2_with fail
      refine (rdelay_any _ _ _ _ _ (by omega) (by omega)).mono ?_
      rintro e w1 ⟨m, rfl, rfl⟩
      go_wp2_with (at_builtin; refine wpList_append_own _ rfl _ _ 37 rfl w.heap.size 3 i0 (.int .i64 0) 1 8 Try.underlying37 hi hz0 hz1 hz2 rfl (by decide) _ _ _ rfl (ownsRow_drewN (Hown.out.alloc _) m) ⟨wr.heap.size, 0, none⟩ 1 1 [.int .i64 (acc base factor cap now k + delayZ base factor cap k)] rfl rfl ?c1 ?c2 ?c3 ?c4 ?c5 ?_)
      case c1 => exact cell_one_new _ _ _
      case c2 => intro u hu; simp at hu; subst hu; rfl
      case c3 => rw [planL_length]; unfold maxLen; omega
      case c4 => rw [planL_length]; omega
      case c5 => simp; omega
      intro v' w2 ho hg _
      obtain ⟨R1, R2⟩ := plan_step (w := w) (Owns.grow Hown.out m _) (by simp; omega) ((below_drewN Hbel.out m).alloc (by simpa using hs) _) ho hg
      have HR := Lib.hid (And.intro R1 R2)
      clear ho hg R1 R2
      go_wp2_with fail
      go_roundw
      case rel => exact ⟨k + 1, by omega, rfl, by go_num, HR.out.1, HR.out.2⟩
      case measure => simp [intOf]; omega
    · go_wp2_with fail
      go_ret2
      obtain rfl : k = n := by omega
      exact ⟨_, rfl, Hown.out, Hbel.out⟩

set_option maxHeartbeats 400000 in
theorem docplan_no (base factor cap : Nat) (now tries : Int) (w : World) (h : now < 0 ∨ 1099511627776 < now ∨ tries < 0 ∨ 1000 < tries) :
    Calls Try.prog 24 #[.float .f64 base, .float .f64 factor, .float .f64 cap, .int .i64 now, .int .i64 tries] w fun e w' =>
      e = .returned (.tuple #[.slice none 0 0, .int .i64 1]) ∧ w = w' := by
  by_cases a1 : now < 0
  · go_enter Try.func24, Try.ntmps24
    go_wp2_with fail
    go_ret2
    exact ⟨rfl, rfl⟩
  · by_cases a2 : 1099511627776 < now
    · go_enter Try.func24, Try.ntmps24
      go_wp2_with fail
      go_ret2
      exact ⟨rfl, rfl⟩
    · by_cases a3 : tries < 0
      · clear h
        go_enter Try.func24, Try.ntmps24
        go_wp2_with fail
        go_ret2
        exact ⟨rfl, rfl⟩
      · have a4 : 1000 < tries := by omega
        clear h
        go_enter Try.func24, Try.ntmps24
        go_wp2_with fail
        go_ret2
        exact ⟨rfl, rfl⟩

set_option maxHeartbeats 400000 in
theorem plan_no (base factor cap : Nat) (now tries : Int) (w : World) (h : now < 0 ∨ 1099511627776 < now ∨ tries < 0 ∨ 1000 < tries) :
    Calls Try.prog 25 #[setting base factor cap, .int .i64 now, .int .i64 tries] w fun e w' =>
      e = .returned (.tuple #[.slice none 0 0, .int .i64 1]) ∧ Below w.heap.size w w' := by
  by_cases a1 : now < 0
  · go_enter Try.func25, Try.ntmps25
    go_wp2_with fail
    go_ret2
    exact ⟨rfl, (Below.refl _ _).alloc (Nat.le_refl _) _⟩
  · by_cases a2 : 1099511627776 < now
    · go_enter Try.func25, Try.ntmps25
      go_wp2_with fail
      go_ret2
      exact ⟨rfl, (Below.refl _ _).alloc (Nat.le_refl _) _⟩
    · by_cases a3 : tries < 0
      · clear h
        go_enter Try.func25, Try.ntmps25
        go_wp2_with fail
        go_ret2
        exact ⟨rfl, (Below.refl _ _).alloc (Nat.le_refl _) _⟩
      · have a4 : 1000 < tries := by omega
        clear h
        go_enter Try.func25, Try.ntmps25
        go_wp2_with fail
        go_ret2
        exact ⟨rfl, (Below.refl _ _).alloc (Nat.le_refl _) _⟩

theorem Boxed.grown {base factor cap b B : Nat} {w w' : World} {v : Value} {n : Nat} {xs : List Value} (h : Boxed base factor cap b w) (hb : b < B) (hown : w.ownsRow B 3 1 v n xs) (hg : w.grownBy w' v.ownBlock) : Boxed base factor cap b w' := by
  have hne : ∀ i : Nat, some ((⟨b, i, none⟩ : Addr).block) ≠ v.ownBlock := fun i e => by have := (hown.lt b e.symm).1; omega
  exact ⟨Nat.lt_of_lt_of_le h.1 hg.size, hg.cell h.2.1 (hne 0), hg.cell h.2.2.1 (hne 1), hg.cell h.2.2.2 (hne 2)⟩

set_option maxHeartbeats 1000000 in
theorem plan_yes (base factor cap : Nat) (now : Int) (n : Nat) (w : World) (h0 : 0 ≤ now) (h1 : now ≤ 1099511627776) (hn : n ≤ 1000) (hc : cap < 18446744073709551616) :
    Calls Try.prog 25 #[setting base factor cap, .int .i64 now, .int .i64 n] w fun e w' =>
      ∃ v, e = .returned (.tuple #[v, .int .i64 0]) ∧ Owns (w.heap.size + 1) v (planL base factor cap now n) w' ∧ Below w.heap.size w w' := by
  obtain ⟨i0, hi, hz0, hz1, hz2⟩ := info_parts Try.info3
  have B0 := boxed_new base factor cap w 24
  go_enter Try.func25, Try.ntmps25
  go_wp2_with (at_make; refine wpList_make_own _ rfl _ _ 37 rfl (w.heap.size + 1) 3 i0 (.int .i64 0) 1 Try.underlying37 hi hz0 hz1 .i64 .i64 _ n rfl rfl rfl ?d1 ?d2 ?d3 ?_)
  case d1 => rw [hz2]; omega
  case d2 => unfold maxLen; omega
  case d3 => simp
  intro w0 ho0 hg0
  have L0 : Below w.heap.size w w0 := ((Below.refl _ _).alloc (Nat.le_refl _) _).grown hg0 (by simp) (fun k hk => by cases hk)
  have X0 : Boxed base factor cap w.heap.size w0 := ⟨Nat.lt_of_lt_of_le B0.1 hg0.size, hg0.cell B0.2.1 (by simp), hg0.cell B0.2.2.1 (by simp), hg0.cell B0.2.2.2 (by simp)⟩
  have G0 := Lib.hid (And.intro L0 (And.intro X0 ho0))
  clear hg0 ho0 L0 X0 B0
  go_wp2_with fail
  go_loopw [1, 8, 27] (fun a v i wr => ∃ k : Nat, k ≤ n ∧ a = .int .i64 (acc base factor cap now k) ∧ i = .int .i64 k ∧ Owns (w.heap.size + 1) v (planL base factor cap now k) wr ∧ Below w.heap.size w wr ∧ Boxed base factor cap w.heap.size wr)
    (fun _ _ i _ => n - (intOf i).toNat)
  case atStart => exact ⟨0, Nat.zero_le _, rfl, rfl, G0.out.2.2, G0.out.1, G0.out.2.1⟩
  case round =>
    obtain ⟨k, hk, rfl, rfl, hown, hbel, hbox⟩ := hrel
    have ha := acc_range base factor cap now k
    have hd := delay_range base factor cap k
    obtain ⟨z1, c0, c1, c2⟩ := id hbox
    have Hown := Lib.hid hown
    have Hbel := Lib.hid hbel
    have Hbox := Lib.hid hbox
    have hs := hbel.size
    clear hown hbel hbox
    by_cases hlt : k < n
    · go_wp2_with fail
      refine (delay_any _ _ _ _ _ (by omega) hc).mono ?_
      rintro e w1 ⟨rfl, hb1⟩
      have hs1 := hb1.size
      have Hown1 : Hid (Owns (w.heap.size + 1) u8 (planL base factor cap now k) w1) := Lib.hid (Owns.below Hown.out hb1)
      have Hbel1 := Lib.hid (Hbel.out.trans (hb1.mono hs))
      have Hbox1 := Lib.hid (Hbox.out.below hb1)
      clear hb1 c0 c1 c2
      go_wp2_with (at_builtin; refine wpList_append_own _ rfl _ _ 37 rfl (w.heap.size + 1) 3 i0 (.int .i64 0) 1 8 Try.underlying37 hi hz0 hz1 hz2 rfl (by decide) _ _ _ rfl (Hown1.out.alloc _) ⟨w1.heap.size, 0, none⟩ 1 1 [.int .i64 (acc base factor cap now k + delayZ base factor cap k)] rfl rfl ?c1 ?c2 ?c3 ?c4 ?c5 ?_)
      case c1 => exact cell_one_new _ _ _
      case c2 => intro u hu; simp at hu; subst hu; rfl
      case c3 => rw [planL_length]; unfold maxLen; omega
      case c4 => rw [planL_length]; omega
      case c5 => simp; omega
      intro v' w2 ho hg _
      have R3 := Lib.hid ((Hbox1.out.below ((Below.refl _ _).alloc (Nat.le_refl _) (Obj.cells #[Value.int IntKind.i64 (acc base factor cap now k + delayZ base factor cap ↑k)] 3))).grown (B := w.heap.size + 1) (by omega) (Hown1.out.alloc _) hg)
      have R2 := Lib.hid ((Hbel1.out.alloc (by omega) (Obj.cells #[Value.int IntKind.i64 (acc base factor cap now k + delayZ base factor cap ↑k)] 3)).grown hg (by simp; omega) (fun j hj => by have := ((Hown1.out.alloc (Obj.cells #[Value.int IntKind.i64 (acc base factor cap now k + delayZ base factor cap ↑k)] 3)).lt j hj).1; omega))
      have R1 : Hid (Owns (w.heap.size + 1) v' (planL base factor cap now (k + 1)) w2) := Lib.hid (by unfold Owns; rw [planL_succ, List.length_append, List.map_append]; exact ho)
      clear ho hg
      go_wp2_with fail
      go_roundw
      case rel => exact ⟨k + 1, by omega, rfl, by go_num, R1.out, R2.out, R3.out⟩
      case measure => simp [intOf]; omega
    · go_wp2_with fail
      go_ret2
      obtain rfl : k = n := by omega
      exact ⟨_, rfl, Hown.out, Hbel.out⟩

end Go.Proofs.Ytmadogmahggpeaa
