/-
  A function's text as one statement on pieces of heap (den), and that it is true of the model's run of that text.
-/
import Derived.Test.YtbockhcoeefobaaSxF
set_option linter.unusedSimpArgs false
set_option linter.unusedVariables false
namespace Go.Sx
open Go
section
variable {P : Program} {g : World}

def isP : Op → Bool
  | .move _ | .assign _ | .pick .. | .load .. | .nilCheck _ | .binOp .. | .unOp .. | .convert .. | .fieldAddr .. | .field .. | .indexAddr .. | .index .. | .slice .. | .extract .. | .lookup .. | .makeFunc .. | .build .. | .makeInterface ..
  | .typeAssert .. => true
  | .call c => match c.callee with
    | .builtin .len | .builtin .cap | .builtin .min | .builtin .max => true
    | _ => false
  | _ => false

/-- a call that only reads -/
def CallQ (P : Program) (g : World) (f : FuncId) (args : Array Value) (H : Hp) (k : Value → Prop) : Prop :=
  ∃ v, SCalls P g f args H (fun e H' => e = .returned v ∧ H' = H) ∧ k v
def opQ (P : Program) (g : World) (o : Oper) (ρ : Operand → Value) (H : Hp) (k : Value → Prop) : Prop :=
  match o.op with
  | .call c => match c.callee with
    | .value (.func f) => cond (callable P f) (CallQ P g f (c.args.toList.map ρ).toArray H k) False
    | .value x => ∃ f first captured, ρ x = .func (.func f) first captured ∧ callable P f = true ∧ CallQ P g f (first ++ (c.args.toList.map ρ).toArray ++ captured) H k
    | _ => False
  | _ => False

def sameGuard : Option (Nat × Bool) → Option (Nat × Bool) → Bool
  | none, none => true
  | some (i, a), some (j, b) => Nat.beq i j && (a == b)
  | _, _ => false
theorem sameGuard_eq {x y : Option (Nat × Bool)} (h : sameGuard x y = true) : x = y := by
  cases x with
  | none => cases y <;> simp_all [sameGuard]
  | some a =>
    obtain ⟨i, a⟩ := a
    cases y with
    | none => simp [sameGuard] at h
    | some b =>
      obtain ⟨j, b⟩ := b
      simp only [sameGuard, Bool.and_eq_true, beq_iff_eq] at h
      rw [Nat.eq_of_beq_eq_true h.1, h.2]
def takeG (cur : Option (Nat × Bool)) : List Oper → List Oper
  | [] => []
  | o :: r => cond (sameGuard o.guard cur) [] (o :: takeG cur r)
def dropG (cur : Option (Nat × Bool)) : List Oper → List Oper
  | [] => []
  | o :: r => cond (sameGuard o.guard cur) (o :: r) (dropG cur r)
theorem take_drop_G (cur : Option (Nat × Bool)) (l : List Oper) : takeG cur l ++ dropG cur l = l := by
  induction l with
  | nil => rfl
  | cons o r ih => simp only [takeG, dropG]; cases sameGuard o.guard cur <;> simp [ih]
def skipG : List Oper → Fr → Fr
  | [], fr => fr
  | o :: r, fr => skipG r (upd fr o.dst undef)
def inDsts : List Oper → Nat → Bool
  | [], _ => false
  | o :: r, s => (match o.dst with | some d => Nat.beq s d | none => false) || inDsts r s
def okDsts (n : Nat) : List Oper → Bool
  | [] => true
  | o :: r => okDst n o.dst && okDsts n r
def garb (G : List Oper) (gs fr : Fr) : Fr := fun s => cond (inDsts G s) (gs s) (fr s)
def pickOf (p : Oper) (fr : Fr) : Value :=
  match p.op with
  | .pick c a b => match ev fr c with
    | .bool t => cond t (ev fr a) (ev fr b)
    | _ => undef
  | _ => undef
def isPick (p : Oper) : Bool := match p.op with | .pick .. => true | _ => false

def slotOf (ops : Array Oper) (j : Nat) : Option Nat := match ops[j]? with | some oj => oj.dst | none => none
/-- in a list that stands behind one guard: each operation stands behind that guard, or behind one whose slot the list has passed over -/
def skipOK (ops : Array Oper) (s : Nat) (want : Bool) : List Nat → List Oper → Bool
  | _, [] => true
  | seen, o :: r =>
    (match o.guard with
    | none => false
    | some (j, w) => match slotOf ops j with
      | none => false
      | some t => (Nat.beq t s && (w == want)) || seen.any (Nat.beq t)) &&
    skipOK ops s want (match o.dst with | some d => d :: seen | none => seen) r

/-- operations behind a guard that only read: t is what comes of the whole '&&', '||' -/
def Grp (v : Value) (want : Bool) (inner els k : Bool → Prop) : Prop := ∃ a t : Bool, v = .bool a ∧ (a = want → inner t) ∧ (a = !want → els t) ∧ k t
/-- operations behind a guard that may write: two ways -/
def Split (v : Value) (want : Bool) (k1 k2 : Prop) : Prop := ∃ a : Bool, v = .bool a ∧ (a = want → k1) ∧ (a = !want → k2)
/-- slots whose Bool the text itself fixes -/
def knGet : List (Nat × Bool) → Nat → Option Bool
  | [], _ => none
  | (t, b) :: r, s => cond (Nat.beq t s) (some b) (knGet r s)
def knDel : List (Nat × Bool) → Option Nat → List (Nat × Bool)
  | kn, none => kn
  | [], some _ => []
  | (t, b) :: r, some d => cond (Nat.beq t d) (knDel r (some d)) ((t, b) :: knDel r (some d))
def knDels : List (Nat × Bool) → List Oper → List (Nat × Bool)
  | kn, [] => kn
  | kn, o :: r => knDels (knDel kn o.dst) r
def knVal (kn : List (Nat × Bool)) : Operand → Option Bool
  | .const (.bool b) => some b
  | .tmp t => knGet kn t
  | _ => none
def knOp (kn : List (Nat × Bool)) (o : Oper) : Option Bool :=
  match o.op with
  | .move x => knVal kn x
  | .assign x => knVal kn x
  | .pick c a b => match knVal kn c with
    | some true => knVal kn a
    | some false => knVal kn b
    | none => none
  | _ => none
def knUp (kn : List (Nat × Bool)) (o : Oper) : List (Nat × Bool) :=
  match knOp kn o, o.dst with
  | some b, some d => (d, b) :: knDel kn (some d)
  | _, d => knDel kn d
def KnOK (kn : List (Nat × Bool)) (fr : Fr) : Prop := ∀ s b, knGet kn s = some b → fr s = .bool b
theorem KnOK.nil (fr : Fr) : KnOK [] fr := fun s b h => by simp [knGet] at h
theorem knDel_get {kn : List (Nat × Bool)} {d s : Nat} {b : Bool} (h : knGet (knDel kn (some d)) s = some b) : s ≠ d ∧ knGet kn s = some b := by
  induction kn with
  | nil => simp [knDel, knGet] at h
  | cons x r ih =>
    obtain ⟨t, c⟩ := x
    simp only [knDel] at h
    cases hb : Nat.beq t d <;> simp only [hb, cond_true, cond_false] at h
    · simp only [knGet] at h ⊢
      cases hs : Nat.beq t s <;> simp only [hs, cond_true, cond_false] at h ⊢
      · exact ih h
      · refine ⟨fun e => ?_, h⟩
        have := Nat.eq_of_beq_eq_true hs
        subst this; subst e; simp at hb
    · have h' := ih h
      refine ⟨h'.1, ?_⟩
      simp only [knGet]
      have := Nat.eq_of_beq_eq_true hb
      subst this
      cases hs : Nat.beq t s
      · exact h'.2
      · exact absurd (Nat.eq_of_beq_eq_true hs).symm h'.1
theorem KnOK.del {kn : List (Nat × Bool)} {fr : Fr} (h : KnOK kn fr) (d : Option Nat) (v : Value) : KnOK (knDel kn d) (upd fr d v) := by
  cases d with
  | none => cases kn <;> exact h
  | some d =>
    intro s b hs
    obtain ⟨h1, h2⟩ := knDel_get hs
    simp only [upd]
    cases hb : Nat.beq s d
    · exact h s b h2
    · exact absurd (Nat.eq_of_beq_eq_true hb) h1
theorem KnOK.put {kn : List (Nat × Bool)} {fr : Fr} (h : KnOK kn fr) {s : Nat} {b : Bool} (hs : fr s = .bool b) : KnOK ((s, b) :: kn) fr := by
  intro t c ht
  simp only [knGet] at ht
  cases hb : Nat.beq s t <;> simp only [hb, cond_true, cond_false] at ht
  · exact h t c ht
  · have := Nat.eq_of_beq_eq_true hb; subst this; simp only [Option.some.injEq] at ht; subst ht; exact hs
theorem knVal_ok {kn : List (Nat × Bool)} {fr : Fr} (h : KnOK kn fr) {x : Operand} {b : Bool} (hx : knVal kn x = some b) : ev fr x = .bool b := by
  cases x with
  | tmp t => exact h t b hx
  | const v => cases v <;> simp [knVal] at hx; subst hx; rfl
  | global g => simp [knVal] at hx
  | func f => simp [knVal] at hx
theorem knOp_ok {kn : List (Nat × Bool)} {fr : Fr} (h : KnOK kn fr) {o : Oper} {v : Value} (hv : valOf o (ev fr) v) {b : Bool} (hb : knOp kn o = some b) : v = .bool b := by
  unfold knOp at hb
  unfold valOf at hv
  split at hb
  · rename_i x hop; rw [hop] at hv; exact hv.trans (knVal_ok h hb)
  · rename_i x hop; rw [hop] at hv; exact hv.trans (knVal_ok h hb)
  · rename_i c a b' hop
    rw [hop] at hv
    split at hb
    · rename_i hc; rw [hv _ (knVal_ok h hc)]; exact knVal_ok h hb
    · rename_i hc; rw [hv _ (knVal_ok h hc)]; exact knVal_ok h hb
    · simp at hb
  · simp at hb
theorem KnOK.up {kn : List (Nat × Bool)} {fr : Fr} (h : KnOK kn fr) {o : Oper} {v : Value} (hv : valOf o (ev fr) v) : KnOK (knUp kn o) (upd fr o.dst v) := by
  unfold knUp
  split
  · rename_i b d hb hd
    rw [hd]
    exact (h.del (some d) v).put (by simp [upd, knOp_ok h hv hb])
  · exact h.del _ _
theorem KnOK.dels {kn : List (Nat × Bool)} {fr fr' : Fr} : ∀ (l : List Oper), KnOK kn fr → (∀ s, inDsts l s = false → fr' s = fr s) → KnOK (knDels kn l) fr' := by
  intro l
  have key : ∀ (l : List Oper) (kn : List (Nat × Bool)) (s : Nat) (b : Bool), knGet (knDels kn l) s = some b → inDsts l s = false ∧ knGet kn s = some b := by
    intro l
    induction l with
    | nil => intro kn s b h; exact ⟨rfl, h⟩
    | cons o r ih =>
      intro kn s b h
      simp only [knDels] at h
      obtain ⟨h1, h2⟩ := ih _ s b h
      simp only [inDsts, h1, Bool.or_false]
      cases hd : o.dst with
      | none => rw [hd] at h2; exact ⟨rfl, by cases kn <;> exact h2⟩
      | some d =>
        rw [hd] at h2
        obtain ⟨h3, h4⟩ := knDel_get h2
        refine ⟨?_, h4⟩
        cases hb : Nat.beq s d
        · exact hb
        · exact absurd (Nat.eq_of_beq_eq_true hb) h3
  intro h ho s b hs
  obtain ⟨h1, h2⟩ := key l kn s b hs
  rw [ho s h1]; exact h s b h2

/-- the operations of a statement, in the order of the text. q: all of them only read; gq: those behind a guard do -/
def denOps (P : Program) (g : World) (n : Nat) (ops : Array Oper) (gq : Bool) : Nat → Bool → Option (Nat × Bool) → List (Nat × Bool) → List Oper → Fr → Hp → (List (Nat × Bool) → Fr → Hp → Prop) → (List PanicEntry → Hp → Prop) → Prop
  | 0, _, _, _, _, _, _, _, _ => False
  | _ + 1, _, _, kn, [], fr, H, K, _ => K kn fr H
  | f + 1, q, cur, kn, o :: r, fr, H, K, KP =>
    cond (sameGuard o.guard cur)
      (cond (okDst n o.dst)
        (cond (isP o.op) (opP P g o (ev fr) H fun v => denOps P g n ops gq f q cur (knUp kn o) r (upd fr o.dst v) H K KP)
          (cond q (opQ P g o (ev fr) H fun v => denOps P g n ops gq f q cur (knDel kn o.dst) r (upd fr o.dst v) H K KP)
            (opE P g o (ev fr) H (fun v H' => denOps P g n ops gq f q cur (knDel kn o.dst) r (upd fr o.dst v) H' K KP) KP))) False)
      (match o.guard with
      | none => False
      | some (j, want) =>
        match slotOf ops j with
        | none => False
        | some s =>
          cond (okDst n (some s) && okDsts n (takeG cur (o :: r)) && !inDsts (takeG cur (o :: r)) s && skipOK ops s want [] (takeG cur (o :: r)))
          (match knGet kn s with
          | some b => cond (b == want)
              (denOps P g n ops gq f q o.guard kn (takeG cur (o :: r)) fr H (fun kn' fr' H' => denOps P g n ops gq f q cur kn' (dropG cur (o :: r)) fr' H' K KP) KP)
              (denOps P g n ops gq f q cur (knDels kn (takeG cur (o :: r))) (dropG cur (o :: r)) (skipG (takeG cur (o :: r)) fr) H K KP)
          | none =>
          cond (q || gq)
            (match dropG cur (o :: r) with
            | [] => False
            | p :: r' =>
              cond (isPick p && okDst n p.dst)
              (Grp (fr s) want
                (fun t => denOps P g n ops gq f true o.guard ((s, want) :: kn) (takeG cur (o :: r)) (upd fr (some s) (.bool want)) H (fun _ fr' H' => H' = H ∧ pickOf p fr' = .bool t) (fun _ _ => False))
                (fun t => pickOf p (skipG (takeG cur (o :: r)) (upd fr (some s) (.bool !want))) = .bool t)
                (fun t => ∀ gs, denOps P g n ops gq f q cur (knDel (knDels kn (takeG cur (o :: r))) p.dst) r' (upd (garb (takeG cur (o :: r)) gs fr) p.dst (.bool t)) H K KP)) False)
            (Split (fr s) want
              (denOps P g n ops gq f q o.guard ((s, want) :: kn) (takeG cur (o :: r)) (upd fr (some s) (.bool want)) H (fun kn' fr' H' => denOps P g n ops gq f q cur kn' (dropG cur (o :: r)) fr' H' K KP) KP)
              (denOps P g n ops gq f q cur ((s, !want) :: knDels kn (takeG cur (o :: r))) (dropG cur (o :: r)) (skipG (takeG cur (o :: r)) (upd fr (some s) (.bool !want))) H K KP))) False)

theorem upd_same {fr : Fr} {s : Nat} {v : Value} (h : fr s = v) : upd fr (some s) v = fr := by
  funext x
  simp only [upd]
  cases hb : Nat.beq x s
  · rfl
  · have := Nat.eq_of_beq_eq_true hb; subst this; simp [h]
theorem upd_ne {fr : Fr} {d : Option Nat} {v : Value} {s : Nat} (h : inDsts [({ (default : Oper) with dst := d })] s = false) : upd fr d v s = fr s := by
  cases d with
  | none => rfl
  | some d => simp only [inDsts, Bool.or_false] at h; simp only [upd, h, cond_false]
theorem inDsts_cons {o : Oper} {r : List Oper} {s : Nat} : inDsts (o :: r) s = (inDsts [({ (default : Oper) with dst := o.dst })] s || inDsts r s) := by
  simp [inDsts]
theorem inDsts_append {a b : List Oper} {s : Nat} : inDsts (a ++ b) s = (inDsts a s || inDsts b s) := by
  induction a with
  | nil => simp [inDsts]
  | cons o r ih => simp only [List.cons_append, inDsts, ih, Bool.or_assoc]
theorem inDsts_take {cur : Option (Nat × Bool)} {l : List Oper} {s : Nat} (h : inDsts l s = false) : inDsts (takeG cur l) s = false ∧ inDsts (dropG cur l) s = false := by
  have := take_drop_G cur l
  rw [← this, inDsts_append, Bool.or_eq_false_iff] at h
  exact h

def OutEq (l : List Oper) (fr fr' : Fr) : Prop := ∀ s, inDsts l s = false → fr' s = fr s
/-- the guard in force holds, and stays -/
def CurOK (ops : Array Oper) (cur : Option (Nat × Bool)) (l : List Oper) (fr : Fr) : Prop :=
  match cur with
  | none => True
  | some (j, want) => ∃ s, slotOf ops j = some s ∧ fr s = .bool want ∧ inDsts l s = false
theorem CurOK.tail {ops : Array Oper} {cur : Option (Nat × Bool)} {o : Oper} {r : List Oper} {fr fr' : Fr} (h : CurOK ops cur (o :: r) fr) (he : ∀ s, inDsts [({ (default : Oper) with dst := o.dst })] s = false → fr' s = fr s) : CurOK ops cur r fr' := by
  unfold CurOK at *
  split
  · trivial
  · obtain ⟨s, h1, h2, h3⟩ := h
    rw [inDsts_cons, Bool.or_eq_false_iff] at h3
    exact ⟨s, h1, (he s h3.1).trans h2, h3.2⟩
theorem yielded_of {n : Nat} {ops : Array Oper} {a : Act} {fr : Fr} (h : Agree n a fr) {j s : Nat} (hs : slotOf ops j = some s) : yielded ops a.tmps j = match fr s with | .bool b => some b | _ => none := by
  unfold slotOf at hs
  split at hs
  · rename_i oj hj
    have hg := h.get s
    rw [Array.getD_eq_getD_getElem?] at hg
    simp only [yielded, hj, Option.bind_some, hs]
    cases ht : a.tmps[s]? with
    | none => rw [ht] at hg; simp only [Option.getD_none] at hg; rw [← hg]; rfl
    | some v => rw [ht] at hg; simp only [Option.getD_some] at hg; rw [← hg]; cases v <;> rfl
  · simp at hs
theorem CurOK.wanted {n : Nat} {ops : Array Oper} {cur : Option (Nat × Bool)} {l : List Oper} {fr : Fr} (h : CurOK ops cur l fr) {o : Oper} (ho : o.guard = cur) {a : Act} (ha : Agree n a fr) : Region.wanted o (yielded ops a.tmps) = true := by
  unfold CurOK at h
  unfold Region.wanted
  rw [ho]
  split at h
  · rfl
  · obtain ⟨s, h1, h2, _⟩ := h
    simp only [yielded_of ha h1, h2, beq_self_eq_true]

theorem pickOf_run {p : Oper} {fr : Fr} {t : Bool} (hp : isPick p = true) (h : pickOf p fr = .bool t) (w : World) : (execOp (ev fr) p).run P w = .ok (.value (.bool t)) w := by
  unfold isPick at hp
  split at hp <;> try (simp at hp; done)
  rename_i c a b hop
  simp only [pickOf, hop] at h
  split at h
  · rename_i t' hc
    simp only [execOp, hop, hc, asBool]
    cases t' <;> simp only [cond_true, cond_false] at h <;> simp [h]
  · simp [undef] at h

/-- operations passed over -/
theorem skip_list {n : Nat} {ops : Array Oper} {Q : Exit → Act → World → Prop} {s : Nat} {want : Bool} {w : World} {rest : List Oper} : ∀ (l : List Oper) (seen : List Nat) (fr : Fr) (a : Act), okDsts n l = true → inDsts l s = false → skipOK ops s want seen l = true →
    fr s = .bool (!want) → (∀ t ∈ seen, fr t = undef) → Agree n a fr → (∀ a', Agree n a' (skipG l fr) → wpList P ops Q rest a' w) → wpList P ops Q (l ++ rest) a w
  | [], _, fr, a, _, _, _, _, _, ha, hk => hk a ha
  | o :: r, seen, fr, a, hd, hi, hs, hf, hseen, ha, hk => by
    simp only [okDsts, Bool.and_eq_true] at hd
    rw [inDsts_cons, Bool.or_eq_false_iff] at hi
    simp only [skipOK, Bool.and_eq_true] at hs
    obtain ⟨hs1, hs2⟩ := hs
    have hnw : Region.wanted o (yielded ops a.tmps) = false := by
      unfold Region.wanted
      split at hs1
      · simp at hs1
      · rename_i j w' hg
        rw [hg]
        split at hs1
        · simp at hs1
        · rename_i t ht
          simp only [yielded_of ha ht]
          simp only [Bool.or_eq_true, Bool.and_eq_true, beq_iff_eq] at hs1
          rcases hs1 with ⟨h1, rfl⟩ | h1
          · have := Nat.eq_of_beq_eq_true h1; subst this
            rw [hf]; cases w' <;> rfl
          · obtain ⟨u, hu, hb⟩ := List.any_eq_true.1 h1
            have := Nat.eq_of_beq_eq_true hb; subst this
            rw [hseen _ hu]; rfl
    simp only [List.cons_append, wpList, hnw, Bool.false_eq_true, if_false]
    refine skip_list r _ (upd fr o.dst undef) _ hd.2 hi.2 hs2 ?_ ?_ (ha.put hd.1 undef) (fun a' h' => hk a' h')
    · rw [upd_ne hi.1, hf]
    · intro t ht
      cases hdst : o.dst with
      | none => rw [hdst] at ht; exact hseen t ht
      | some d =>
        rw [hdst] at ht
        simp only [upd]
        cases hb : Nat.beq t d
        · simp only [cond_false]
          rcases List.mem_cons.1 ht with rfl | ht
          · simp at hb
          · exact hseen t ht
        · rfl
theorem skip_quiet {n : Nat} {ops : Array Oper} {C : World → Prop} {Q : Act → Prop} {s : Nat} {want : Bool} {rest : List Oper} : ∀ (l : List Oper) (seen : List Nat) (fr : Fr) (a : Act), okDsts n l = true → inDsts l s = false → skipOK ops s want seen l = true →
    fr s = .bool (!want) → (∀ t ∈ seen, fr t = undef) → Agree n a fr → (∀ a', Agree n a' (skipG l fr) → wpQuiet P ops C Q rest a') → wpQuiet P ops C Q (l ++ rest) a
  | [], _, fr, a, _, _, _, _, _, ha, hk => hk a ha
  | o :: r, seen, fr, a, hd, hi, hs, hf, hseen, ha, hk => by
    simp only [okDsts, Bool.and_eq_true] at hd
    rw [inDsts_cons, Bool.or_eq_false_iff] at hi
    simp only [skipOK, Bool.and_eq_true] at hs
    obtain ⟨hs1, hs2⟩ := hs
    have hnw : Region.wanted o (yielded ops a.tmps) = false := by
      unfold Region.wanted
      split at hs1
      · simp at hs1
      · rename_i j w' hg
        rw [hg]
        split at hs1
        · simp at hs1
        · rename_i t ht
          simp only [yielded_of ha ht]
          simp only [Bool.or_eq_true, Bool.and_eq_true, beq_iff_eq] at hs1
          rcases hs1 with ⟨h1, rfl⟩ | h1
          · have := Nat.eq_of_beq_eq_true h1; subst this
            rw [hf]; cases w' <;> rfl
          · obtain ⟨u, hu, hb⟩ := List.any_eq_true.1 h1
            have := Nat.eq_of_beq_eq_true hb; subst this
            rw [hseen _ hu]; rfl
    simp only [List.cons_append, wpQuiet, hnw, Bool.false_eq_true, if_false]
    refine skip_quiet r _ (upd fr o.dst undef) _ hd.2 hi.2 hs2 ?_ ?_ (ha.put hd.1 undef) (fun a' h' => hk a' h')
    · rw [upd_ne hi.1, hf]
    · intro t ht
      cases hdst : o.dst with
      | none => rw [hdst] at ht; exact hseen t ht
      | some d =>
        rw [hdst] at ht
        simp only [upd]
        cases hb : Nat.beq t d
        · simp only [cond_false]
          rcases List.mem_cons.1 ht with rfl | ht
          · simp at hb
          · exact hseen t ht
        · rfl
theorem skipG_out : ∀ (l : List Oper) (fr : Fr), OutEq l fr (skipG l fr)
  | [], fr => fun s _ => rfl
  | o :: r, fr => fun s hs => by
    rw [inDsts_cons, Bool.or_eq_false_iff] at hs
    rw [skipG, skipG_out r _ s hs.2, upd_ne hs.1]
end
end Go.Sx
