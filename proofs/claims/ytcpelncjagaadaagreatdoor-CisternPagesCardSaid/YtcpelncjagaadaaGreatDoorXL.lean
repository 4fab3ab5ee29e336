/-
  wal: Open.
-/
import Derived.Test.YtcpelncjagaadaaGreatDoorXK
namespace Go.Proofs.YtcpelncjagaadaaGreatDoor
open Go.RowKit

attribute [local go_sem ↓] Go.wp_at_zero Go.wp_at_succ

/-- The transactions that stand from a record on, and the number behind them. -/
def scanL (z : Nat) (s : Nat → Sec Rec) (tail : Nat) : Nat → Nat → Nat → List (List Img) × Nat
  | 0, next, _ => ([], next)
  | f + 1, next, least => match txL z s next least (z - (next - tail)) with
    | none => ([], next)
    | some (l, e) => (l :: (scanL z s tail f (next + l.length + 1) e).1, (scanL z s tail f (next + l.length + 1) e).2)
theorem txL_room {z : Nat} {s : Nat → Sec Rec} {next least room e : Nat} {l : List Img} (h : txL z s next least room = some (l, e)) : l.length < room := by
  unfold txL at h
  split at h
  · cases h
  · rename_i hn
    split at h
    · injection h with h
      injection h with h1 h2
      rw [← h1, imgs_length]
      omega
    · cases h
theorem scan_none {z : Nat} {s : Nat → Sec Rec} {tail f next least : Nat} (h : txL z s next least (z - (next - tail)) = none) : scanL z s tail (f + 1) next least = ([], next) := by
  unfold scanL; rw [h]
theorem scan_some {z : Nat} {s : Nat → Sec Rec} {tail f next least e : Nat} {l : List Img} (h : txL z s next least (z - (next - tail)) = some (l, e)) : scanL z s tail (f + 1) next least = (l :: (scanL z s tail f (next + l.length + 1) e).1, (scanL z s tail f (next + l.length + 1) e).2) := by
  conv => lhs; unfold scanL
  rw [h]
theorem gotL_bound {x : Sec Rec} {seq : Nat} (h : LogSec x) : (gotL x seq).1.e < big := by
  have hb : 0 < big := by decide
  unfold gotL
  split
  · exact hb
  · split
    · rename_i heq
      obtain ⟨l, h1, h2⟩ := h _ heq
      exact h2.2.1
    · exact hb
def TxsAt (w : World) (base : Nat) (v : Value) (txs : List (List Img)) : Prop :=
  ∃ xs, w.ownsRow base 65 1 v txs.length xs ∧ ∀ k (h : k < txs.length), ∃ u, xs[k]? = some u ∧ w.ownsRow base 67 2 u (txs[k]).length (imgCells txs[k])
theorem TxsAt.kept [Inhabited Bs] {T : List (Option TypeId)} {w w' : World} {base : Nat} {v : Value} {txs : List (List Img)} (h : TxsAt w base v txs) (hk : Kept T w w') (h1 : some 65 ∉ T) (h2 : some 67 ∉ T) : TxsAt w' base v txs := by
  obtain ⟨xs, ho, hc⟩ := h
  refine ⟨xs, own_kept ho hk h1, fun k hk' => ?_⟩
  obtain ⟨u, hu, hr⟩ := hc k hk'
  exact ⟨u, hu, own_kept hr hk h2⟩
theorem TxsAt.nil (w : World) (base : Nat) : TxsAt w base (.slice none 0 0) [] := ⟨[], World.ownsRow_nil _ _ _ _, fun k hk => absurd hk (by simp)⟩
theorem TxsAt.more [Inhabited Bs] {w w' : World} {base : Nat} {v v' u : Value} {txs : List (List Img)} {l : List Img} {xs : List Value} (ho : w.ownsRow base 65 1 v txs.length xs) (hc : ∀ k (h : k < txs.length), ∃ u, xs[k]? = some u ∧ w.ownsRow base 67 2 u (txs[k]).length (imgCells txs[k])) (ho' : w'.ownsRow base 65 1 v' (txs.length + 1) (xs ++ [u])) (hk : Kept [some 65] w w') (hu : w'.ownsRow base 67 2 u l.length (imgCells l)) : TxsAt w' base v' (txs ++ [l]) := by
  have hx : xs.length = txs.length := by have := ho.1; omega
  refine ⟨_, by simpa using ho', fun k hk' => ?_⟩
  by_cases h : k < txs.length
  · obtain ⟨y, h1, h2⟩ := hc k h
    refine ⟨y, by rw [List.getElem?_append_left (by omega)]; exact h1, ?_⟩
    rw [List.getElem_append_left h]
    exact own_kept h2 hk (by decide)
  · obtain rfl : k = txs.length := by simp at hk'; omega
    refine ⟨u, by rw [← hx, List.getElem?_append_right (Nat.le_refl _)]; simp, ?_⟩
    simpa using hu
theorem Tryz.info65 : (Tryz.prog.info? 65).map (fun i => (i.zero, i.size, i.bytes)) = some (some (.slice none 0 0), 1, 24) := by kernel_rfl

def OpenPost [Inhabited Bs] (p z tail epoch : Nat) (D : RD) (w : World) (e : Ending) (w' : World) : Prop :=
  ∃ q v, e = .returned (.tuple #[.pointer (some ⟨q, 0, none⟩), v, .int .i64 0]) ∧ w.heap.size ≤ q ∧ LogAt w' q p ⟨z, tail, (scanL z D.s tail (z + 1) tail 0).2, epoch⟩ ∧ TxsAt w' w.heap.size v (scanL z D.s tail (z + 1) tail 0).1 ∧ Fresh w w'

theorem read_some {α : Type} {enc : α → List Nat} {w w' : World} {x : Sec α} {e : Ending} (h : ReadPost enc w x e w') : ∃ v k, e = .returned (.tuple #[v, .int .i64 k]) ∧ (k = 0 ∨ k = 3) ∧ Fresh w w' := by
  unfold ReadPost at h
  split at h
  · exact ⟨_, _, h.1, .inr rfl, h.2⟩
  · split at h
    · obtain ⟨v, h1, -, h2⟩ := h; exact ⟨v, 0, h1, .inl rfl, h2⟩
    · obtain ⟨v, h1, -, h2⟩ := h; exact ⟨v, 0, h1, .inl rfl, h2⟩

set_option maxRecDepth 100000 in
set_option maxHeartbeats 8000000 in
theorem open_log [Inhabited Bs] (p z tail epoch : Nat) (D : RD) (w : World) (hD : DevAt Rec.bytes w p D) (hoff : D.off = false) (hw : D.waits = []) (hz : 2 ≤ z ∧ z ≤ 1000) (hn : 2 + z ≤ D.n) (ht : tail + z ≤ 1000000) (he : epoch ≤ 1000000) (hs : ∀ j, LogSec (D.s (2 + j % z))) :
    Calls Tryz.prog 22 #[.pointer (some ⟨p, 0, none⟩), .int .i64 2, .int .i64 z, .int .i64 tail, .int .i64 epoch] w (OpenPost p z tail epoch D w) := by
  obtain ⟨i0, hi, hz0, hz1, hz2⟩ := info_parts Tryz.info65
  have hlen : ∀ r, (D.s 2).b = some r → r.ok := by
    intro r hr
    have h0 := hs 0
    rw [Nat.zero_mod] at h0
    obtain ⟨l, -, h2⟩ := h0 r hr
    exact h2
  have HH := Lib.hid (And.intro hD (And.intro hs hlen))
  clear hD hs hlen
  have t1 : decide ((z : Int) ≥ 2) = true := by simp; omega
  have t2 : decide ((z : Int) ≤ 4096) = true := by simp; omega
  have t3 : IntKind.i64.wrap ((2 : Int) + z) = (2 : Int) + z := by rw [IntKind.wrap_i64]; omega
  have t4 : decide ((2 : Int) + z ≤ D.n) = true := by simp; omega
  have t5 : decide ((tail : Int) < 0) = false := by simp
  have t6 : decide ((epoch : Int) < 0) = false := by simp
  have t7 : decide ((tail : Int) > 1125899906842624) = false := by simp; omega
  have t8 : decide ((epoch : Int) > 1125899906842624) = false := by simp; omega
  go_enter Tryz.func22, Tryz.ntmps22
  go_wp2_with fail
  refine (size_any p D _ HH.out.1).mono ?_
  rintro e1 w1 ⟨rfl, rfl⟩
  go_wp2_with fail
  refine (read_any p D 2 _ HH.out.1 hoff hw (by omega) (fun r hr => by have := Rec.bytes_length (HH.out.2.2 r hr); omega)).mono ?_
  intro e1 w1 hg
  obtain ⟨v1, k1, rfl, hk1, hf1⟩ := read_some hg
  have H1 := Lib.hid hf1
  clear hg hf1
  have t9 : (k1 == 4) = false := by rcases hk1 with rfl | rfl <;> rfl
  go_wp2_with fail
  clear t1 t2 t3 t4 t5 t6 t7 t8 t9
  have hlo := HH.out.1.lo_le
  have HB0 := Lib.hid (And.intro (And.intro (Blk.new w1 93 #[.pointer (some ⟨p, 0, none⟩), .int .i64 2, .int .i64 z, .int .i64 tail, .int .i64 tail, .int .i64 epoch]) (Nat.le_trans hlo H1.out.size)) (H1.out.alloc (.cells #[.pointer (some ⟨p, 0, none⟩), .int .i64 2, .int .i64 z, .int .i64 tail, .int .i64 tail, .int .i64 epoch] 93)))
  go_loopw [17, 18] (fun u y wr => ∃ (done : List (List Img)) (f next least : Nat), y = .int .i64 least ∧ tail ≤ next ∧ next ≤ tail + z ∧ z - (next - tail) < f ∧ done.length ≤ next - tail ∧ sliceLen u = done.length ∧ scanL z D.s tail (z + 1) tail 0 = (done ++ (scanL z D.s tail f next least).1, (scanL z D.s tail f next least).2) ∧ LogAt wr w1.heap.size p ⟨z, tail, next, epoch⟩ ∧ TxsAt wr w.heap.size u done ∧ Fresh w wr) (fun u _ _ => z + 1 - sliceLen u)
  case atStart => exact ⟨[], z + 1, tail, 0, rfl, Nat.le_refl _, by omega, by omega, Nat.zero_le _, rfl, by simp, HB0.out.1, TxsAt.nil _ _, HB0.out.2⟩
  case round =>
    obtain ⟨done, f, next, least, rfl, h1, h2, h3, h4, h5, h6, hl, htx, hF⟩ := hrel
    have hLok : (⟨z, tail, next, epoch⟩ : Wal).ok := ⟨h1, h2, hz, by show next ≤ 1000000; omega, he⟩
    have HX := Lib.hid (And.intro h6 (And.intro hl (And.intro htx hF)))
    clear h6 hl htx hF
    obtain ⟨f, rfl⟩ : ∃ g, f = g + 1 := ⟨f - 1, by omega⟩
    go_wp2_with fail
    refine (tx_any w1.heap.size p least _ hLok D _ HX.out.2.1 (HH.out.1.fresh HX.out.2.2.2) hoff hw hn HH.out.2.1).mono ?_
    intro e2 w2 hg
    obtain ⟨hf2, hg⟩ := hg
    cases hT : txL z D.s next least (z - (next - tail)) with
    | none =>
      simp only [hT] at hg
      subst hg
      have HY := Lib.hid hf2
      clear hf2
      go_wp2_with fail
      go_ret3
      have e := HX.out.1
      rw [scan_none hT] at e
      simp only [List.append_nil] at e
      refine ⟨w1.heap.size, u17, rfl, H1.out.size, ?_, ?_, HX.out.2.2.2.both HY.out⟩
      · rw [e]; exact LogAt.kept (T := []) HX.out.2.1 (.of_fresh HY.out) (by simp)
      · rw [e]; exact HX.out.2.2.1.kept (T := []) (.of_fresh HY.out) (by simp) (by simp)
    | some le =>
      obtain ⟨l, ep⟩ := le
      simp only [hT] at hg
      obtain ⟨u2, rfl, ho2⟩ := hg
      have hroom := txL_room hT
      obtain ⟨A2, cap2, rfl⟩ := own_form ho2
      obtain ⟨xs, hox, hxs⟩ := HX.out.2.2.1.kept (T := []) (.of_fresh hf2) (by simp) (by simp)
      have hlg := LogAt.kept (T := []) HX.out.2.1 (.of_fresh hf2) (by simp)
      have hws := HX.out.2.2.2.both hf2
      have HE := Lib.hid (scan_some (f := f) hT)
      have HY := Lib.hid (And.intro hox (And.intro hxs (And.intro hlg (And.intro hws (own_base (b' := w.heap.size) ho2 HX.out.2.2.2.size)))))
      clear ho2 hox hxs hf2 hT
      obtain ⟨A1, cap1, rfl⟩ := own_form HY.out.1
      have em : IntKind.i64.wrap ((next : Int) + ((l.length : Int) + 1)) = (next : Int) + ((l.length : Int) + 1) := by rw [IntKind.wrap_i64]; omega
      go_wp2_with (at_builtin; refine wpList_append_own_at _ rfl _ _ 62 rfl w.heap.size 65 i0 (.slice none 0 0) 1 24 Tryz.underlying62 hi hz0 hz1 hz2 rfl (by decide) _ _ _ rfl (HY.out.1.alloc _) ⟨w2.heap.size, 0, none⟩ 1 1 [.slice A2 l.length cap2] rfl rfl (one_at _ _ _) ?c2 ?c3 ?c4 ?c5 ?_)
      case c2 => intro u hu; simp at hu; subst hu; rfl
      case c3 => unfold maxLen; omega
      case c4 => omega
      case c5 => have := HY.out.2.2.2.1.size; simp; omega
      intro v' w3 hown hg1 hnil hat
      have hk := Kept.grow HY.out.1 hlo hg1
      have hl3 := LogAt.kept hlg hk (by decide)
      have c4 := BlkL.cell hl3 4
      have f4 := BlkL.soft hl3 4
      simp only [List.getElem?_toArray, List.getElem?_cons_zero, List.getElem?_cons_succ] at c4
      have H3 := Lib.hid (And.intro hown (And.intro (Touch.grownNew (HY.out.2.2.2.1.alloc (.cells #[.slice A2 l.length cap2] 65)) (HY.out.1.alloc _) (Nat.le_refl _) hg1) (And.intro hk hl3)))
      obtain ⟨A3, cap3, rfl⟩ := own_form hown
      clear hown hg1 hnil hat hk hl3 hlg
      go_wp2_with fail
      go_roundw
      case rel =>
        refine ⟨done ++ [l], f, next + l.length + 1, ep, rfl, by omega, by omega, by omega, by simp; omega, by simp [sliceLen], ?_, ?_, ?_, ?_⟩
        · have e := HX.out.1
          rw [HE.out] at e
          rw [e]; simp
        · have h9 := H3.out.2.2.2.set 4 (.int .i64 ((next + l.length + 1 : Nat) : Int))
          have e9 : ((next + l.length + 1 : Nat) : Int) = (next : Int) + ((l.length : Int) + 1) := by omega
          rw [e9] at h9
          unfold LogAt
          simp only [e9]
          exact h9
        · exact (TxsAt.more HY.out.1 HY.out.2.1 H3.out.1 H3.out.2.2.1 (own_kept HY.out.2.2.2.2 H3.out.2.2.1 (by decide))).kept (T := [some 93]) (Kept.store H3.out.2.2.2 (by simp) _ _) (by decide) (by decide)
        · exact H3.out.2.1.setCell _ _ (fun hh => absurd H1.out.size (Nat.not_le.2 hh))
      case measure => simp only [sliceLen] at h5 ⊢; omega

end Go.Proofs.YtcpelncjagaadaaGreatDoor
