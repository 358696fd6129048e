/-
  Statements whose operations may come in several orders: a reading may be taken first; what is asked of the world behind an operation is asked for those readings alone that need not have come up before it.
-/
import Derived.Test.YtbockhcoeefobaaSxH
import Derived.OrdersHeld
set_option linter.unusedSimpArgs false
set_option linter.unusedVariables false
namespace Go.Sx
open Go
section
variable {P : Program} {ops : Array Oper} {Q : Exit → Act → World → Prop} {md : Region.Mode} {S : Nat → World → World → Prop} {S0 : World → Prop}
def AnyS (P : Program) (md : Region.Mode) (ops : Array Oper) (Q : Exit → Act → World → Prop) (S : Nat → World → World → Prop) : Nat → Array Bool → Act → World → Prop
  | 0, listed, a, w => Region.ready md ops listed = [] ∧ Q .normal a w
  | n + 1, listed, a, w => (Region.ready md ops listed = [] → Q .normal a w) ∧
    ∀ i ∈ Region.ready md ops listed, wpOp P ops Q i (fun a' w' => S i w w' ∧ AnyS P md ops Q S n (listed.setIfInBounds i true) a' w') a w
theorem AnyS.any : ∀ {n : Nat} {listed : Array Bool} {a : Act} {w : World}, AnyS P md ops Q S n listed a w → wpAny P md ops Q n listed a w
  | 0, _, _, _, h => h
  | _ + 1, _, _, _, h => ⟨h.1, fun i hi => wpOp_mono (fun _ _ h' => h'.2.any) (h.2 i hi)⟩
/-- j need not wait for i -/
def notOn (md : Region.Mode) (ops : Array Oper) (i j : Nat) : Prop := ∀ oj, ops[j]? = some oj → ∀ e ∈ oj.after, Region.binds md e = true → e.on ≠ i
theorem AnyS.first {i : Nat} {oi : Oper} {v : Value} (hi : ops[i]? = some oi) (hsel : Region.noSelect ops = true) (hQ : ∀ c a w, Q (.panic c) (a.put oi.dst v) w → Q (.panic c) a w)
    (hSi : ∀ w, S0 w → S i w w) (hS : ∀ j oj w w', ops[j]? = some oj → j ≠ i → notOn md ops i j → S0 w → S j w w' → S0 w') : ∀ (n : Nat) (listed : Array Bool) (a : Act) (w : World),
      (∀ j oj, ops[j]? = some oj → j ≠ i → listed.getD j true = false → notOn md ops i j → oi.apart ops oj = true) → i ∈ Region.ready md ops listed → YieldsIf P ops S0 oi v a → S0 w →
      AnyS P md ops Q S n (listed.setIfInBounds i true) (a.put oi.dst v) w → AnyS P md ops Q S (n + 1) listed a w := by
  have sel := Region.noSelect_spec hsel
  intro n
  induction n with
  | zero =>
    intro listed a w hfree hr hy h0 h
    refine ⟨fun e => absurd hr (by rw [e]; simp), fun j hj => ?_⟩
    by_cases e : j = i
    · rw [e]; exact hy.wpOp hi h0 ⟨hSi _ h0, h⟩
    · exact absurd (ready_mono hj e) (by rw [h.1]; simp)
  | succ n ih =>
    intro listed a w hfree hr hy h0 h
    refine ⟨fun e => absurd hr (by rw [e]; simp), fun j hj => ?_⟩
    by_cases e : j = i
    · rw [e]; exact hy.wpOp hi h0 ⟨hSi _ h0, h⟩
    · obtain ⟨hun, oj, hoj, hall⟩ := mem_ready.1 hj
      have hno : notOn md ops i j := fun o ho x hx hb he => by
        rw [hoj] at ho; cases ho
        have h1 := hall x hx hb
        have h2 := (mem_ready.1 hr).1
        rw [he] at h1
        rw [Array.getD_eq_getD_getElem?] at h1 h2
        cases hg : listed[i]? with
        | none => rw [hg] at h1; simp at h1
        | some y => rw [hg] at h1 h2; simp at h1 h2; rw [h2] at h1; cases h1
      refine wpOp_mono ?_ (wpOp_putIf hoj (hfree j oj hoj e hun hno) (fun cs b => sel i oi cs b hi) (fun cs b => sel j oj cs b hoj) hQ hy (h.2 j (ready_mono hj e)))
      rintro a' w' ⟨hy', hs', hrest⟩
      refine ⟨hs', ih _ _ _ (fun k ok hk hki hun' hno' => hfree k ok hk hki ?_ hno') (ready_mono hr (Ne.symm e)) hy' (hS j oj w w' hoj e hno h0 hs') (by rw [Array.setIfInBounds_comm _ _ e]; exact hrest)⟩
      by_cases hjk : j = k
      · rw [← hjk]; exact hun
      · rw [← hun', getD_set_ne true hjk]
theorem AnyS.take {i : Nat} {oi : Oper} {v : Value} {n : Nat} {listed : Array Bool} {a : Act} {w : World} (hi : ops[i]? = some oi) (hsel : Region.noSelect ops = true) (hf : Region.free md ops listed i = true)
    (hr : (Region.ready md ops listed).contains i = true) (hQ : ∀ c a w, Q (.panic c) (a.put oi.dst v) w → Q (.panic c) a w) (hSi : ∀ w, S0 w → S i w w) (hS : ∀ j oj w w', ops[j]? = some oj → j ≠ i → notOn md ops i j → S0 w → S j w w' → S0 w')
    (hy : YieldsIf P ops S0 oi v a) (h0 : S0 w) (h : AnyS P md ops Q S n (listed.setIfInBounds i true) (a.put oi.dst v) w) : AnyS P md ops Q S (n + 1) listed a w :=
  AnyS.first hi hsel hQ hSi hS n listed a w (fun j oj h1 h2 h3 h4 => Region.free_spec hi hf j oj h1 h2 h3 (h4 oj h1)) (by simpa using hr) hy h0 h
theorem AnyS.all {rs : List Nat} {n : Nat} {listed : Array Bool} {a : Act} {w : World} (hr : Region.ready md ops listed = rs) (hne : rs ≠ [])
    (h : ∀ i ∈ rs, wpOp P ops Q i (fun a' w' => S i w w' ∧ AnyS P md ops Q S n (listed.setIfInBounds i true) a' w') a w) : AnyS P md ops Q S (n + 1) listed a w :=
  ⟨fun h0 => absurd (hr ▸ h0) hne, hr ▸ h⟩
theorem AnyS.done {listed : Array Bool} {a : Act} {w : World} (hr : Region.ready md ops listed = []) (h : Q .normal a w) : ∀ n, AnyS P md ops Q S n listed a w
  | 0 => ⟨hr, h⟩
  | _ + 1 => ⟨fun _ => h, by rw [hr]; simp⟩
/-- there is a reading that j need not wait for -/
def onB (j : Oper) (i : Nat) : Bool := j.after.toList.any fun e => Nat.beq e.on i && Region.binds .any e
/-- an operation whose value does not hang on the heap -/
def isN (P : Program) : Op → Bool
  | .move _ | .assign _ | .pick .. | .nilCheck _ | .fieldAddr .. | .field .. | .indexAddr .. | .unOp .. => true
  | .slice t _ _ _ none => match P.underlying t with | some (.slice _) => true | _ => false
  | .binOp _ t _ _ _ => match P.underlying t with
    | some d => match bkOf d with | .other => false | _ => true
    | none => true
  | _ => false
theorem opP_free {g : World} {o : Oper} (h : isN P o.op = true) (ρ : Operand → Value) (H H' : Hp) (k : Value → Prop) : opP P g o ρ H k = opP P g o ρ H' k := by
  obtain ⟨d, op, t, p, a, gd⟩ := o
  cases op <;> first | rfl | (simp only [isN] at h; first | cases h | skip)
  case binOp op t x y z =>
    simp only [opP]
    cases hu : P.underlying t with
    | none => rfl
    | some d =>
      simp only [hu] at h
      cases hb : bkOf d <;> simp only [hb] at h ⊢
      cases h
  case slice t x lo hi m =>
    cases m with
    | none =>
      simp only [opP]
      cases hu : P.underlying t with
      | none => simp [hu] at h
      | some d => cases d <;> first | rfl | (exfalso; simp [hu] at h)
    | some m => cases h
def isRd (P : Program) (o : Op) : Bool := isP o && !isN P o
def needS (P : Program) (ops : Array Oper) (j : Nat) : Bool := match ops[j]? with
  | some oj => (List.range ops.size).any fun i => match ops[i]? with | some oi => isRd P oi.op && !onB oj i && !Nat.beq i j | none => false
  | none => true
/-- what a step of number j keeps -/
def Keeps (P : Program) (g : World) (R : Hp) (ops : Array Oper) (j : Nat) (w w' : World) : Prop := ∀ oj, ops[j]? = some oj → (isP oj.op = true → w' = w) ∧ (isP oj.op = false → Own g [] w' ∧ (needS P ops j = true → Own g R w'))
theorem needS_spec {i j : Nat} {oi : Oper} (hi : ops[i]? = some oi) (hp : isRd P oi.op = true) (hne : j ≠ i) (h : notOn .any ops i j) : needS P ops j = true := by
  unfold needS
  split
  · rename_i oj hj
    rw [List.any_eq_true]
    refine ⟨i, List.mem_range.2 (Array.getElem?_eq_some_iff.1 hi).1, ?_⟩
    simp only [hi, hp, Bool.true_and, Bool.and_eq_true, Bool.not_eq_true']
    refine ⟨?_, ?_⟩
    · unfold onB
      rw [← Bool.not_eq_true, List.any_eq_true]
      rintro ⟨e, he, h2⟩
      simp only [Bool.and_eq_true] at h2
      exact h oj hj e (Array.mem_toList_iff.1 he) h2.2 (Nat.eq_of_beq_eq_true h2.1)
    · cases hb : Nat.beq i j
      · rfl
      · exact absurd (Nat.eq_of_beq_eq_true hb).symm hne
  · rfl
end
end Go.Sx
