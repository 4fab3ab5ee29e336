/-
  A region that draws its order, whose operations each give SOME value out of a set that is fixed beforehand, in every world of a class, and leave a world of the class: one walk in the order of the text serves every order.
  (Derived/Still.lean, Derived/Deep/Quiet.lean show this where each operation gives ONE value and leaves the world that it got: here a float's operation may draw the bits of what is no number, and a callee may make memory.)
-/
import Derived.Still
import Derived.Below
import Derived.Deep.Draws
import Derived.KernelRfl
namespace Go.Proofs.Ytmadogmahggpeaa
namespace Loose

section
variable {P : Program} {ops : Array Oper} {md : Region.Mode} {C : World → Prop} {S : Nat → Value → Prop}

/-- What an operation has come to: some value of the set, in a world of the class. -/
def Upon (P : Program) (C : World → Prop) (T : Value → Prop) : Result Next → Prop
  | .ok (.value u) w' => C w' ∧ T u
  | .ok .skip w' => C w' ∧ T undef
  | .ok (.enter f args) w' => Calls P f args w' fun e w'' => ∃ v, e = .returned v ∧ T v ∧ C w''
  | _ => False

def At (P : Program) (C : World → Prop) (T : Value → Prop) (o : Oper) (a : Act) (w : World) : Prop := Upon P C T ((execOp a.eval o).run P w)

theorem Upon.some_value {T : Value → Prop} {r : Result Next} (h : Upon P C T r) : ∃ v, T v := by
  cases r with
  | halt x w => exact h.elim
  | ok n w =>
    cases n with
    | value u => exact ⟨u, h.2⟩
    | skip => exact ⟨_, h.2⟩
    | enter f args =>
      obtain ⟨e, w', fr, ⟨v, _, hv, _⟩, _⟩ := h []
      exact ⟨v, hv⟩
    | _ => exact h.elim

/-- The values that operation 'o', number 'i', may leave in this state. -/
def May (ops : Array Oper) (S : Nat → Value → Prop) (i : Nat) (o : Oper) (a : Act) (v : Value) : Prop :=
  if Region.wanted o (yielded ops a.tmps) = true then S i v else v = undef

/-- In this state the operation is passed over, or gives a value of its set in every world of the class. -/
def Fine (P : Program) (ops : Array Oper) (C : World → Prop) (S : Nat → Value → Prop) (i : Nat) (o : Oper) (a : Act) : Prop :=
  Region.wanted o (yielded ops a.tmps) = true → ∀ w, C w → At P C (S i) o a w

/-- Operation number 'i' comes up. -/
def Turn (P : Program) (ops : Array Oper) (C : World → Prop) (S : Nat → Value → Prop) (i : Nat) (K : Act → Prop) (a : Act) : Prop :=
  match ops[i]? with
  | none => K a
  | some o => Fine P ops C S i o a ∧ ∀ v, May ops S i o a v → K (a.put o.dst v)

theorem Turn.mono {i : Nat} {a : Act} {K K' : Act → Prop} (h : ∀ a, K a → K' a) (hh : Turn P ops C S i K a) : Turn P ops C S i K' a := by
  unfold Turn at *
  cases ho : ops[i]? with
  | none => rw [ho] at hh; exact h _ hh
  | some o => rw [ho] at hh; exact ⟨hh.1, fun v hv => h _ (hh.2 v hv)⟩

/-- Any order from here on. -/
def AnyWay (P : Program) (md : Region.Mode) (ops : Array Oper) (C : World → Prop) (S : Nat → Value → Prop) (Q : Act → Prop) : Nat → Array Bool → Act → Prop
  | 0, done, a => Region.ready md ops done = [] ∧ Q a
  | fuel + 1, done, a => (Region.ready md ops done = [] → Q a) ∧ ∀ i ∈ Region.ready md ops done, Turn P ops C S i (AnyWay P md ops C S Q fuel (done.setIfInBounds i true)) a

theorem wpOp_of_turn {i : Nat} {a : Act} {K : Act → Prop} {K' : Act → World → Prop} {Q' : Exit → Act → World → Prop} {w : World} (hw : C w) (h : ∀ a w', C w' → K a → K' a w') (hh : Turn P ops C S i K a) : wpOp P ops Q' i K' a w := by
  unfold Turn at hh
  unfold wpOp
  cases ho : ops[i]? with
  | none => rw [ho] at hh; exact h _ _ hw hh
  | some o =>
    rw [ho] at hh
    obtain ⟨hf, hn⟩ := hh
    simp only
    unfold Fine at hf
    unfold May at hn
    by_cases hwant : Region.wanted o (yielded ops a.tmps) = true
    · rw [if_pos hwant]
      simp only [hwant, if_true] at hn
      left
      have hat := hf hwant w hw
      unfold At at hat
      unfold Oper.wp
      generalize (execOp a.eval o).run P w = r at *
      cases r with
      | halt x w' => exact hat.elim
      | ok n w' =>
        cases n with
        | value u => exact h _ _ hat.1 (hn u hat.2)
        | skip => exact h _ _ hat.1 (hn undef hat.2)
        | enter f args =>
          refine Calls.mono hat ?_
          rintro e w'' ⟨v, rfl, hv, hc⟩
          exact h _ _ hc (hn v hv)
        | _ => exact hat.elim
    · rw [if_neg hwant]
      simp only [hwant, Bool.false_eq_true, if_false] at hn
      exact h _ _ hw (hn _ rfl)

theorem wpAny_of {Q : Act → Prop} {Q' : Exit → Act → World → Prop} (hQ : ∀ a w, C w → Q a → Q' .normal a w) : ∀ (fuel : Nat) (done : Array Bool) (a : Act) (w : World), C w →
    AnyWay P md ops C S Q fuel done a → wpAny P md ops Q' fuel done a w
  | 0, _, _, _, hw, h => ⟨h.1, hQ _ _ hw h.2⟩
  | fuel + 1, _, _, _, hw, h => ⟨fun h0 => hQ _ _ hw (h.1 h0), fun i hi => wpOp_of_turn hw (fun a' w' hw' => wpAny_of hQ fuel _ a' w' hw') (h.2 i hi)⟩

theorem Fine.same {i : Nat} {o : Oper} {a a' : Act} (h : Fine P ops C S i o a) (he : execOp a'.eval o = execOp a.eval o)
    (hw : Region.wanted o (yielded ops a'.tmps) = Region.wanted o (yielded ops a.tmps)) : Fine P ops C S i o a' := by
  unfold Fine At at *
  rw [he, hw]
  exact h

/-- There is a value that it may leave. -/
theorem may_some {i : Nat} {o : Oper} {a : Act} (hC : ∃ w, C w) (h : Fine P ops C S i o a) : ∃ v, May ops S i o a v := by
  unfold May
  by_cases hw : Region.wanted o (yielded ops a.tmps) = true
  · obtain ⟨w, hc⟩ := hC
    obtain ⟨v, hv⟩ := Upon.some_value (h hw w hc)
    exact ⟨v, by rw [if_pos hw]; exact hv⟩
  · exact ⟨undef, by rw [if_neg hw]⟩

/-- An operation apart from 'oi' may come up ahead of it. -/
theorem turn_put {i j : Nat} {oi oj : Oper} (hC : ∃ w, C w) (hj : ops[j]? = some oj) (hap : oi.apart ops oj = true) (hsi : ∀ cs b, oi.op ≠ .select cs b) (hsj : ∀ cs b, oj.op ≠ .select cs b)
    {K : Act → Prop} {a : Act} (hy : Fine P ops C S i oi a) (h : ∀ v, May ops S i oi a v → Turn P ops C S j K (a.put oi.dst v)) :
    Turn P ops C S j (fun a' => Fine P ops C S i oi a' ∧ ∀ v, May ops S i oi a' v → K (a'.put oi.dst v)) a := by
  obtain ⟨h1, h2, h3⟩ := Oper.apart_spec hap
  have hev : ∀ v, Region.wanted oj (yielded ops (a.put oi.dst v).tmps) = Region.wanted oj (yielded ops a.tmps) := fun v => wanted_put oj a oi.dst v h1
  have hex : ∀ v, execOp (a.put oi.dst v).eval oj = execOp a.eval oj := fun v => execOp_put oj hsj a oi.dst v h1
  obtain ⟨v0, hv0⟩ := may_some hC hy
  have hmay : ∀ u v, May ops S i oi (a.put oj.dst u) v ↔ May ops S i oi a v := fun u v => by
    unfold May; rw [wanted_put oi a oj.dst u h3]
  have hmayj : ∀ u v, May ops S j oj (a.put oi.dst v) u ↔ May ops S j oj a u := fun u v => by
    unfold May; rw [hev v]
  unfold Turn at *
  rw [hj] at *
  simp only at h ⊢
  refine ⟨(h v0 hv0).1.same (hex v0).symm (hev v0).symm, fun u hu => ⟨hy.same (execOp_put oi hsi a oj.dst u h3) (wanted_put oi a oj.dst u h3), fun v hv => ?_⟩⟩
  have := (h v ((hmay u v).1 hv)).2 u ((hmayj u v).2 hu)
  rw [Act.put_comm a v u h2] at this
  exact this

/-- An operation that may come up now may be taken first. -/
theorem any_first {Q : Act → Prop} {i : Nat} {oi : Oper} (hC : ∃ w, C w) (hi : ops[i]? = some oi) (hsel : ∀ (j : Nat) (o : Oper) cs b, ops[j]? = some o → o.op ≠ .select cs b) :
    ∀ (fuel : Nat) (done : Array Bool) (a : Act),
      (∀ j oj, ops[j]? = some oj → j ≠ i → done.getD j true = false → (∀ e ∈ oj.after, Region.binds md e = true → e.on ≠ i) → oi.apart ops oj = true) →
      i ∈ Region.ready md ops done → Fine P ops C S i oi a →
      (∀ v, May ops S i oi a v → AnyWay P md ops C S Q fuel (done.setIfInBounds i true) (a.put oi.dst v)) → AnyWay P md ops C S Q (fuel + 1) done a := by
  have take : ∀ {K : Act → Prop} {a : Act}, Fine P ops C S i oi a → (∀ v, May ops S i oi a v → K (a.put oi.dst v)) → Turn P ops C S i K a := by
    intro K a hf hk
    unfold Turn
    rw [hi]
    exact ⟨hf, hk⟩
  intro fuel
  induction fuel with
  | zero =>
    intro done a _ hr hf H
    refine ⟨fun h0 => absurd hr (by rw [h0]; exact List.not_mem_nil), fun j hj => ?_⟩
    by_cases hji : j = i
    · rw [hji]; exact take hf H
    · obtain ⟨v, hv⟩ := may_some hC hf
      have h1 := ready_mono hj hji
      rw [(H v hv).1] at h1
      cases h1
  | succ fuel ih =>
    intro done a hfree hr hf H
    refine ⟨fun h0 => absurd hr (by rw [h0]; exact List.not_mem_nil), fun j hj => ?_⟩
    by_cases hji : j = i
    · rw [hji]; exact take hf H
    · obtain ⟨hjun, oj, hoj, hall⟩ := mem_ready.1 hj
      have hiun := (mem_ready.1 hr).1
      have hnot : ∀ e ∈ oj.after, Region.binds md e = true → e.on ≠ i := by
        intro e he hb heq
        have h1 := hall e he hb
        rw [heq] at h1
        rcases Nat.lt_or_ge i done.size with h' | h'
        · simp [h'] at h1 hiun; rw [hiun] at h1; cases h1
        · simp [Array.getElem?_eq_none h'] at h1
      have hap := hfree j oj hoj hji hjun hnot
      have h2 := turn_put hC hoj hap (fun cs b => hsel i oi cs b hi) (fun cs b => hsel j oj cs b hoj) hf (fun v hv => (H v hv).2 j (ready_mono hj hji))
      refine h2.mono fun a' h3 => ih (done.setIfInBounds j true) a' ?_ (ready_mono hr (Ne.symm hji)) h3.1 ?_
      · intro k ok hk hki hun hno
        refine hfree k ok hk hki ?_ hno
        by_cases hjk : j = k
        · rw [← hjk]; exact hjun
        · rw [getD_set_ne true hjk] at hun; exact hun
      · intro v hv
        rw [Array.setIfInBounds_comm _ _ hji]
        exact h3.2 v hv

/-- The walk in the order of the text: the operations from number 'k' on. -/
def Walk (P : Program) (ops : Array Oper) (C : World → Prop) (S : Nat → Value → Prop) (Q : Act → Prop) : List Oper → Nat → Act → Prop
  | [], _, a => Q a
  | o :: rest, k, a => Fine P ops C S k o a ∧ ∀ v, May ops S k o a v → Walk P ops C S Q rest (k + 1) (a.put o.dst v)

theorem any_of_walk {Q : Act → Prop} (hC : ∃ w, C w) (hs : Region.noSelect ops = true) : ∀ (l : List Oper) (k : Nat) (done : Array Bool) (a : Act), (∀ j, l[j]? = ops[k + j]?) →
    Region.lexFrom md ops l.length k done = true → Walk P ops C S Q l k a → AnyWay P md ops C S Q l.length done a
  | [], _, _, _, _, hB, h => ⟨by simpa [Region.lexFrom] using hB, h⟩
  | o :: l, k, done, a, hl, hB, h => by
    have h0 : ops[k]? = some o := by simpa using (hl 0).symm
    simp only [List.length_cons, Region.lexFrom, Bool.and_eq_true] at hB
    obtain ⟨⟨hr, hf⟩, hB'⟩ := hB
    exact any_first hC h0 (Region.noSelect_spec hs) l.length done a (Region.free_spec h0 hf) (by simpa using hr) h.1
      (fun v hv => any_of_walk hC hs l (k + 1) _ _ (fun j => by have := hl (j + 1); simpa [Nat.add_assoc, Nat.add_comm 1 j] using this) hB' (h.2 v hv))

/-- The same, the sets in a list that is walked along. -/
def WalkL (P : Program) (ops : Array Oper) (C : World → Prop) (Q : Act → Prop) : List Oper → List (Value → Prop) → Act → Prop
  | [], _, a => Q a
  | _ :: _, [], _ => False
  | o :: rest, T :: Ts, a =>
    if Region.wanted o (yielded ops a.tmps) = true then (∀ w, C w → At P C T o a w) ∧ ∀ v, T v → WalkL P ops C Q rest Ts (a.put o.dst v) else WalkL P ops C Q rest Ts (a.put o.dst undef)

theorem walk_of_list {Q : Act → Prop} (L : List (Value → Prop)) : ∀ (l : List Oper) (Ts : List (Value → Prop)) (k : Nat) (a : Act), (∀ j, Ts[j]? = L[k + j]?) → WalkL P ops C Q l Ts a →
    Walk P ops C (fun k => L.getD k fun _ => True) Q l k a
  | [], _, _, _, _, h => h
  | _ :: _, [], _, _, _, h => h.elim
  | o :: rest, T :: Ts, k, a, hT, h => by
    have h0 : L.getD k (fun _ => True) = T := by
      have := hT 0
      simp only [List.getElem?_cons_zero, Nat.add_zero] at this
      rw [List.getD_eq_getElem?_getD, ← this]; rfl
    have hT' : ∀ j, Ts[j]? = L[k + 1 + j]? := fun j => by
      have := hT (j + 1)
      simp only [List.getElem?_cons_succ] at this
      rw [this, Nat.add_assoc, Nat.add_comm 1 j]
    unfold WalkL at h
    unfold Walk
    by_cases hw : Region.wanted o (yielded ops a.tmps) = true
    · rw [if_pos hw] at h
      refine ⟨fun _ => ?_, fun v hv => ?_⟩
      · simp only [h0]; exact h.1
      · unfold May at hv
        rw [if_pos hw] at hv
        simp only [h0] at hv
        exact walk_of_list L rest Ts (k + 1) _ hT' (h.2 v hv)
    · rw [if_neg hw] at h
      refine ⟨fun h' => absurd h' hw, fun v hv => ?_⟩
      unfold May at hv
      rw [if_neg hw] at hv
      rw [hv]
      exact walk_of_list L rest Ts (k + 1) _ hT' h

/-- ONE WALK SERVES EVERY ORDER. -/
theorem wp_region {id : Nat} {Q : Exit → Act → World → Prop} {a : Act} {w : World} {l : List Oper} (C : World → Prop) (L : List (Value → Prop)) (hm : P.follows .mixedOrders = true) (hB : Region.lexB .any l.toArray = true)
    (hC : C w.drew) (h : WalkL P l.toArray C (fun a' => ∀ w', C w' → Q .normal a' w') l L a) : (Code.region id l.toArray true).wp P Q a w := by
  simp only [Region.lexB, Bool.and_eq_true] at hB
  refine wp_region_any hm (wpAny_of (C := C) (S := fun k => L.getD k fun _ => True) (Q := fun a' => ∀ w', C w' → Q .normal a' w') (fun _ w' hw' h => h w' hw') _ _ _ _ hC ?_)
  have := any_of_walk (md := .any) ⟨_, hC⟩ hB.1 l 0 (Array.replicate l.toArray.size false) a (by simp) (by simpa using hB.2) (walk_of_list L l L 0 a (by simp) h)
  simpa using this

/-! The steps. -/
theorem walk_nil {Q : Act → Prop} {a : Act} (h : Q a) : WalkL P ops C Q [] [] a := h
theorem walk_skip {Q : Act → Prop} {a : Act} {o : Oper} {rest : List Oper} {T : Value → Prop} {Ts : List (Value → Prop)} (hw : Region.wanted o (yielded ops a.tmps) = false) (h : WalkL P ops C Q rest Ts (a.put o.dst undef)) : WalkL P ops C Q (o :: rest) (T :: Ts) a := by
  unfold WalkL; rw [if_neg (by rw [hw]; exact Bool.false_ne_true)]; exact h
theorem walk_want {Q : Act → Prop} {a : Act} {o : Oper} {rest : List Oper} (T : Value → Prop) {Ts : List (Value → Prop)} (hw : Region.wanted o (yielded ops a.tmps) = true) (h1 : ∀ w, C w → At P C T o a w)
    (h : ∀ v, T v → WalkL P ops C Q rest Ts (a.put o.dst v)) : WalkL P ops C Q (o :: rest) (T :: Ts) a := by
  unfold WalkL; rw [if_pos hw]; exact ⟨h1, h⟩
/-- One value, the world as it was. -/
theorem walk_one {Q : Act → Prop} {a : Act} {o : Oper} {rest : List Oper} {u : Value} {Ts : List (Value → Prop)} (hw : Region.wanted o (yielded ops a.tmps) = true) (h1 : ∀ w, C w → (execOp a.eval o).run P w = .ok (.value u) w)
    (h : WalkL P ops C Q rest Ts (a.put o.dst u)) : WalkL P ops C Q (o :: rest) ((fun v => v = u) :: Ts) a :=
  walk_want _ hw (fun w hc => (by unfold At; rw [h1 w hc]; exact ⟨hc, rfl⟩)) (fun v hv => (by rw [hv]; exact h))
theorem walk_move {Q : Act → Prop} {a : Act} {o : Oper} {rest : List Oper} {Ts : List (Value → Prop)} (x : Operand) (hw : Region.wanted o (yielded ops a.tmps) = true) (ho : o.op = .move x)
    (h : WalkL P ops C Q rest Ts (a.put o.dst (a.eval x))) : WalkL P ops C Q (o :: rest) ((fun v => v = a.eval x) :: Ts) a :=
  walk_one hw (fun w _ => (by unfold execOp; rw [ho]; rfl)) h
end

end Loose
end Go.Proofs.Ytmadogmahggpeaa
