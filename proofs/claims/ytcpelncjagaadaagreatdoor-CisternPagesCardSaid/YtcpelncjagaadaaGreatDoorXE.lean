/-
  wal: read, joined.
-/
import Derived.Test.YtcpelncjagaadaaGreatDoorXD
namespace Go.Proofs.YtcpelncjagaadaaGreatDoor
open Go.RowKit

theorem lread_any [Inhabited Bs] (q p seq : Nat) (L : Wal) (D : RD) (w : World) (h : LogAt w q p L) (hD : DevAt Rec.bytes w p D) (hoff : D.off = false) (hw : D.waits = []) (hz : 2 ≤ L.sz ∧ L.sz ≤ 1000) (hn : 2 + L.sz ≤ D.n) (hs : LogSec (D.s (2 + seq % L.sz))) :
    Calls Tryz.prog 58 #[.pointer (some ⟨q, 0, none⟩), .int .i64 seq] w fun e w' => e = .returned (.tuple #[(gotL (D.s (2 + seq % L.sz)) seq).1.v, .bool (gotL (D.s (2 + seq % L.sz)) seq).2]) ∧ Fresh w w' := by
  rcases hx : D.s (2 + seq % L.sz) with ⟨b, t⟩
  rw [hx] at hs
  cases t with
  | true =>
    refine (lread_torn q p seq L D w h hD hoff hw hz hn hx (fun r hr => ?_)).mono ?_
    · obtain ⟨l, -, h2⟩ := hs r hr; exact h2
    · intro e w' hh; simpa [gotL] using hh
  | false =>
    cases b with
    | none =>
      refine (lread_none q p seq L D w h hD hoff hw hz hn hx).mono ?_
      intro e w' hh; simpa [gotL] using hh
    | some r =>
      obtain ⟨l, rfl, h2⟩ := hs r rfl
      refine (lread_some q p seq L D w h hD hoff hw hz hn l.k l.e l.s l.t l.i l.c l.p l.d hx h2).mono ?_
      intro e w' hh
      have e1 : ((l.s : Int) == seq) = (l.s == seq) := by
        rw [Bool.eq_iff_iff, beq_iff_eq, beq_iff_eq]; omega
      rw [e1] at hh
      simpa [gotL] using hh

end Go.Proofs.YtcpelncjagaadaaGreatDoor
