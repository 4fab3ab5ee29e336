/-
  page: bytes.Equal, read, Get.
-/
import Derived.Test.YtcpelncjagaadaaGreatDoorXQ
namespace Go.Proofs.YtcpelncjagaadaaGreatDoor
open Go.RowKit Go.Maps

attribute [local go_sem ↓] Go.wp_at_zero Go.wp_at_succ

/-- The text of some bytes. -/
def txt (B : List Nat) : ByteArray := ⟨(B.map UInt8.ofNat).toArray⟩
theorem sB_txt {B : List Nat} (h : ∀ b ∈ B, b < 256) : sB (txt B) = B := by
  unfold sB txt
  simp only [List.map_map]
  conv => rhs; rw [← List.map_id B]
  apply List.map_congr_left
  intro b hb
  have := h b hb
  simp
  omega
theorem txtB_size (B : List Nat) : (txt B).size = B.length := by
  show (txt B).data.size = _
  unfold txt
  simp
theorem shows_text {w : World} {g o n cap : Nat} {B : List Nat} (h : Shows (.slice (some ⟨g, o, none⟩) n cap) B w) (hB : ∀ b ∈ B, b < 256) : Lib.Bytes w g o (txt B) := by
  obtain ⟨ao, cap', e, -, hc⟩ := h
  intro i hi
  rw [txtB_size] at hi
  obtain ⟨g', o', rfl, -, hc⟩ := hc (by omega)
  injection e with e1 e2 e3
  injection e1 with e1
  injection e1 with e1 e4
  subst e1 e4
  rw [hc i hi, ← sB_getD (txt B) i (by rw [txtB_size]; exact hi), sB_txt hB]
theorem run_text {w : World} {g n cap : Nat} {B : List Nat} (h : Shows (.slice (some ⟨g, 0, none⟩) n cap) B w) (hB : ∀ b ∈ B, b < 256) : (convert 44 9 (.slice (some ⟨g, 0, none⟩) n cap)).run Tryz.prog w = .ok (.string (txt B)) w := by
  have e : n = (txt B).size := by
    obtain ⟨ao, cap', e, -⟩ := h
    injection e with _ e2 _
    rw [txtB_size, e2]
  subst e
  exact Lib.run_convert_whole (P := Tryz.prog) w 44 5 9 Tryz.underlying44 Tryz.underlying5 Tryz.underlying9 g 0 (txt B) (shows_text h hB) cap
theorem txt_inj {A B : List Nat} (hA : ∀ b ∈ A, b < 256) (hB : ∀ b ∈ B, b < 256) (h : txt A = txt B) : A = B := by rw [← sB_txt hA, ← sB_txt hB, h]

theorem equal_any (g1 g2 n1 n2 c1 c2 : Nat) (B1 B2 : List Nat) (w : World) (h1 : Shows (.slice (some ⟨g1, 0, none⟩) n1 c1) B1 w) (h2 : Shows (.slice (some ⟨g2, 0, none⟩) n2 c2) B2 w) (hB1 : ∀ b ∈ B1, b < 256) (hB2 : ∀ b ∈ B2, b < 256) (x : Bool) (hx : x = decide (B1 = B2)) :
    Calls Tryz.prog 49 #[.slice (some ⟨g1, 0, none⟩) n1 c1, .slice (some ⟨g2, 0, none⟩) n2 c2] w fun e w' => e = .returned (.bool x) ∧ w = w' := by
  have r1 := run_text h1 hB1
  have r2 := run_text h2 hB2
  have hq := Lib.hid (And.intro hx (And.intro hB1 hB2))
  clear h1 h2 hx hB1 hB2
  go_enter Tryz.func49, Tryz.ntmps49
  go_wp2_with fail
  go_ret
  refine ⟨ret_bool ?_, rfl⟩
  rw [hq.out.1, Bool.eq_iff_iff, beq_iff_eq, decide_eq_true_iff, ByteArray.toList_eq, ByteArray.toList_eq]
  exact ⟨fun h => txt_inj hq.out.2.1 hq.out.2.2 (byteArray_ext h), fun h => by rw [h]⟩

theorem le_head (n : Nat) (l : List Nat) : (le n 2 ++ l)[0]? = some (n % 256) := by
  simp [le, List.range_succ]
theorem bytes_ne {r : Rec} (h : r.ok) : r.bytes ≠ noughts := by
  intro e
  have hl := Rec.enc_le h
  have h1 : r.bytes[0]? = some ((sealB (enc r.items)).length % 256) := le_head _ _
  rw [e, sealB_length] at h1
  have h2 : noughts[0]? = some 0 := by rfl
  rw [h2] at h1
  injection h1 with h1
  omega

/-- A page's sector in its place. -/
def HomeSec (k : Nat) (x : Sec Rec) : Prop := ∀ r, x.b = some r → ∃ d, r = .home k d ∧ r.ok
/-- What stands in a page's place. -/
def readH (x : Sec Rec) : ByteArray × Int := if x.torn = true then (⟨#[]⟩, 3) else match x.b with
  | some (.home _ d) => (d, 0)
  | _ => (⟨#[]⟩, 0)
theorem noughts_lt : ∀ b ∈ noughts, b < 256 := by intro b hb; rw [List.eq_of_mem_replicate hb]; decide

set_option maxRecDepth 100000 in
set_option maxHeartbeats 8000000 in
theorem read_page [Inhabited Bs] (a p q bl bw k : Nat) (S : Sto) (D : RD) (w : World) (h : StoF w a p q bl bw S D) (hz : S.L.sz ≤ 900) (hk : k < 900) (hoff : D.off = false) (hw : D.waits = []) (hn : 2 + S.L.sz + k < D.n) (hs : HomeSec k (D.s (2 + S.L.sz + k))) :
    Calls Tryz.prog 31 #[.pointer (some ⟨a, 0, none⟩), .int .i64 k] w fun e w' => e = .returned (.tuple #[.string (readH (D.s (2 + S.L.sz + k))).1, .int .i64 (readH (D.s (2 + S.L.sz + k))).2]) ∧ Fresh w w' := by
  have c0 := h.blk.cell 0
  simp only [List.getElem?_toArray, List.getElem?_cons_zero] at c0
  have hlen : ∀ r, (D.s (2 + S.L.sz + k)).b = some r → 0 < r.bytes.length ∧ r.bytes.length ≤ 1000000 := by
    intro r hr
    obtain ⟨d, -, hok⟩ := hs r hr
    have := Rec.bytes_length hok; omega
  have HH := Lib.hid (And.intro h (And.intro hs hlen))
  obtain ⟨m, hm⟩ : ∃ m, 2 + S.L.sz + k = m := ⟨_, rfl⟩
  have hcH := fun W (hW : StoF W a p q bl bw S D) => home_any a p q bl bw k S D W hW hz hk
  rw [hm] at hcH hn ⊢
  have HM := Lib.hid (And.intro hm hcH)
  clear h hs hlen hm hcH
  rcases hx : D.s m with ⟨b, tn⟩
  have HX := Lib.hid hx
  clear hx
  cases tn with
  | true =>
    go_enter Tryz.func31, Tryz.ntmps31
    go_wp2_with fail
    go_region_held3 (fun w' => w'.cell? ⟨a, 0, none⟩ = some (.pointer (some ⟨p, 0, none⟩)))
      (first | go_keep | exact k0)
      (first
        | (go_at_call 33; refine (HM.out.2 _ (HH.out.1.fresh (Touch.refl _ _).drew)).mono ?_; rintro e1 w1 ⟨rfl, rfl⟩)
        | (go_at_call 17; refine (read_any p D m _ (HH.out.1.dev.fresh (Touch.refl _ _).drew) hoff hw hn (by rw [← HM.out.1]; exact HH.out.2.2)).mono ?_; intro e2 w2 hg; unfold ReadPost at hg; rw [HX.out] at hg; obtain ⟨rfl, hf2⟩ := hg; have hf2 : Fresh w w2 := hf2.of_drew; have H2 := Lib.hid hf2; have k0 := hf2.val c0 id; clear hf2))
    go_wp2_with fail
    go_ret2
    exact ⟨rfl, H2.out⟩
  | false =>
    cases b with
    | none =>
      go_enter Tryz.func31, Tryz.ntmps31
      go_wp2_with fail
      go_region_held3 (fun w' => w'.cell? ⟨a, 0, none⟩ = some (.pointer (some ⟨p, 0, none⟩)))
        (first | go_keep | exact k0)
        (first
          | (go_at_call 33; refine (HM.out.2 _ (HH.out.1.fresh (Touch.refl _ _).drew)).mono ?_; rintro e1 w1 ⟨rfl, rfl⟩)
          | (go_at_call 17; refine (read_any p D m _ (HH.out.1.dev.fresh (Touch.refl _ _).drew) hoff hw hn (by rw [← HM.out.1]; exact HH.out.2.2)).mono ?_; intro e2 w2 hg; unfold ReadPost at hg; rw [HX.out] at hg; have hg : OkBytes noughts _ e2 w2 := hg; obtain ⟨v2, rfl, ho2, hf2⟩ := hg; have hf2 : Fresh w w2 := hf2.of_drew; have H2 := Lib.hid (And.intro hf2 (own_base (b' := 0) ho2 (Nat.zero_le _))); have k0 := hf2.val c0 id; clear hf2 ho2))
      have ho2 := H2.out.2
      rw [show noughts.length = 256 from rfl] at ho2
      obtain ⟨g2, cap2, rfl, -, hg2⟩ := own_slot ho2 (by decide)
      have hmk := make256 w2
      have hF3 := (Touch.refl (fun _ => False) w2).alloc (.cells zeros 5)
      have hs1 : Shows (.slice (some ⟨g2, 0, none⟩) 256 cap2) noughts (w2.alloc (.cells zeros 5)) := (Shows.own H2.out.2).fresh hF3
      have hs2 : Shows (.slice (some ⟨w2.heap.size, 0, none⟩) 256 256) noughts (w2.alloc (.cells zeros 5)) := .own (own_of_blk (base := 0) (B := noughts) (by have := Blk.new w2 5 zeros; rw [zeros_arr] at this ⊢; exact this) (Nat.zero_le _) (by decide))
      have H3 := Lib.hid (And.intro hs1 (And.intro hs2 (H2.out.1.both hF3)))
      clear hs1 hs2 hF3 ho2
      go_wp2_with fail
      refine (equal_any g2 w2.heap.size 256 256 cap2 256 noughts noughts _ H3.out.1 H3.out.2.1 noughts_lt noughts_lt true ?hx).mono ?_
      case hx => simp
      rintro e4 w4 ⟨rfl, rfl⟩
      go_wp2_with fail
      go_ret2
      exact ⟨rfl, H3.out.2.2⟩
    | some r =>
      obtain ⟨d, rfl, hok⟩ : ∃ d, r = .home k d ∧ r.ok := by
        have := HH.out.2.1
        rw [HM.out.1, HX.out] at this
        exact this r rfl
      have hbl := Lib.hid (Rec.bytes_length hok)
      go_enter Tryz.func31, Tryz.ntmps31
      go_wp2_with fail
      go_region_held3 (fun w' => w'.cell? ⟨a, 0, none⟩ = some (.pointer (some ⟨p, 0, none⟩)))
        (first | go_keep | exact k0)
        (first
          | (go_at_call 33; refine (HM.out.2 _ (HH.out.1.fresh (Touch.refl _ _).drew)).mono ?_; rintro e1 w1 ⟨rfl, rfl⟩)
          | (go_at_call 17; refine (read_any p D m _ (HH.out.1.dev.fresh (Touch.refl _ _).drew) hoff hw hn (by rw [← HM.out.1]; exact HH.out.2.2)).mono ?_; intro e2 w2 hg; unfold ReadPost at hg; rw [HX.out] at hg; have hg : OkBytes (Rec.home k d).bytes _ e2 w2 := hg; obtain ⟨v2, rfl, ho2, hf2⟩ := hg; have hf2 : Fresh w w2 := hf2.of_drew; have H2 := Lib.hid (And.intro hf2 (own_base (b' := 0) ho2 (Nat.zero_le _))); have k0 := hf2.val c0 id; clear hf2 ho2))
      have ho2 := H2.out.2
      rw [hbl.out] at ho2
      obtain ⟨g2, cap2, rfl, -, hg2⟩ := own_slot ho2 (by decide)
      have hmk := make256 w2
      have hF3 := (Touch.refl (fun _ => False) w2).alloc (.cells zeros 5)
      have hs1 : Shows (.slice (some ⟨g2, 0, none⟩) 256 cap2) (Rec.home k d).bytes (w2.alloc (.cells zeros 5)) := (Shows.own H2.out.2).fresh hF3
      have hs2 : Shows (.slice (some ⟨w2.heap.size, 0, none⟩) 256 256) noughts (w2.alloc (.cells zeros 5)) := .own (own_of_blk (base := 0) (B := noughts) (by have := Blk.new w2 5 zeros; rw [zeros_arr] at this ⊢; exact this) (Nat.zero_le _) (by decide))
      have H3 := Lib.hid (And.intro hs1 (And.intro hs2 (H2.out.1.both hF3)))
      clear hs1 hs2 hF3 ho2
      go_wp2_with fail
      refine (equal_any g2 w2.heap.size 256 256 cap2 256 (Rec.home k d).bytes noughts _ H3.out.1 H3.out.2.1 (frameB_lt (sealB_lt (enc_lt _))) noughts_lt false ?hx).mono ?_
      case hx => simp [bytes_ne hok]
      rintro e4 w4 ⟨rfl, rfl⟩
      go_wp2_with fail
      refine (decodeHome_any k d _ _ hok H3.out.1).mono ?_
      rintro e5 w5 ⟨rfl, hf5⟩
      have H5 := Lib.hid ((H3.out.2.2.both hf5).alloc (.cells #[.int .i64 k, .string d] 84))
      clear hf5
      go_wp2_with fail
      go_ret2
      exact ⟨rfl, H5.out⟩

/-- What a page holds. -/
def Sto.get (S : Sto) (D : RD) (k : Nat) : ByteArray × Int := match look S.waits k with
  | some d => (d, 0)
  | none => match look S.lasts k with
    | some d => (d, 0)
    | none => readH (D.s (2 + S.L.sz + k))

set_option maxRecDepth 100000 in
set_option maxHeartbeats 8000000 in
theorem get_page [Inhabited Bs] (a p q bl bw k : Nat) (S : Sto) (D : RD) (w : World) (h : StoF w a p q bl bw S D) (hz : S.L.sz ≤ 900) (hpg : S.pg ≤ 900) (hk : k < S.pg) (hoff : D.off = false) (hw : D.waits = []) (hn : 2 + S.L.sz + k < D.n) (hs : HomeSec k (D.s (2 + S.L.sz + k))) :
    Calls Tryz.prog 12 #[.pointer (some ⟨a, 0, none⟩), .int .i64 k] w fun e w' => e = .returned (.tuple #[.string (S.get D k).1, .int .i64 (S.get D k).2]) ∧ Fresh w w' := by
  have c6 := h.blk.cell 6
  have c7 := h.blk.cell 7
  simp only [List.getElem?_toArray, List.getElem?_cons_zero, List.getElem?_cons_succ] at c6 c7
  have l1 := map_look_ok h.waits k (by omega)
  have l2 := map_look_ok h.lasts k (by omega)
  have HH := Lib.hid (And.intro h hs)
  clear h hs
  rcases h1 : look S.waits k with _ | d
  · rw [h1] at l1
    rcases h2 : look S.lasts k with _ | d
    · rw [h2] at l2
      simp only [Option.getD_none, Option.isSome_none] at l1 l2
      have HK := Lib.hid (And.intro h1 h2)
      clear h1 h2
      go_enter Tryz.func12, Tryz.ntmps12
      go_wp2_with fail
      refine (is_any a p q bl bw k S D _ HH.out.1 hk).mono ?_
      rintro e1 w1 ⟨rfl, rfl⟩
      go_wp2_with fail
      refine (read_page a p q bl bw k S D _ HH.out.1 hz (by omega) hoff hw hn HH.out.2).mono ?_
      rintro e1 w1 ⟨rfl, hf⟩
      have H1 := Lib.hid hf
      clear hf
      go_wp2_with fail
      go_ret2
      refine ⟨?_, H1.out⟩
      unfold Sto.get
      rw [HK.out.1, HK.out.2]
      rfl
    · rw [h2] at l2
      simp only [Option.getD_none, Option.isSome_none, Option.getD_some, Option.isSome_some] at l1 l2
      have HK := Lib.hid (And.intro h1 h2)
      clear h1 h2
      go_enter Tryz.func12, Tryz.ntmps12
      go_wp2_with fail
      refine (is_any a p q bl bw k S D _ HH.out.1 hk).mono ?_
      rintro e1 w1 ⟨rfl, rfl⟩
      go_wp2_with fail
      go_ret2
      refine ⟨?_, .refl _ _⟩
      unfold Sto.get
      rw [HK.out.1, HK.out.2]
      rfl
  · rw [h1] at l1
    simp only [Option.getD_some, Option.isSome_some] at l1
    have HK := Lib.hid h1
    clear h1 l2
    go_enter Tryz.func12, Tryz.ntmps12
    go_wp2_with fail
    refine (is_any a p q bl bw k S D _ HH.out.1 hk).mono ?_
    rintro e1 w1 ⟨rfl, rfl⟩
    go_wp2_with fail
    go_ret2
    refine ⟨?_, .refl _ _⟩
    unfold Sto.get
    rw [HK.out]
    rfl

end Go.Proofs.YtcpelncjagaadaaGreatDoor
