/-
  Whole texts: den, and a call by it.
-/
import Derived.Test.YtlnfeedpfganpaaE1
set_option linter.unusedSimpArgs false
set_option linter.unusedVariables false
namespace Go.Sx
open Go
section
variable {P : Program} {g : Gh}

def AndIf (b : Bool) (p q : Prop) : Prop := cond b (p ∧ q) q
theorem AndIf.of {b : Bool} {p q : Prop} (h : AndIf b p q) : (b = true → p) ∧ q := by
  cases b
  · exact ⟨fun e => (by cases e), h⟩
  · exact ⟨fun _ => h.1, h.2⟩

/-- a statement whose operations may come in several orders, some of which write: taken in the order l, which is shown to stand for all; R: what none of them writes -/
def denD (P : Program) (g : Gh) (n : Nat) (ops : Array Oper) (R : Hp) (K : Fr → Hp → Prop) : List Nat → Array Bool → Fr → Hp → Prop
  | [], listed, fr, H => cond (Region.ready .any ops listed).isEmpty (K fr H) False
  | i :: r, listed, fr, H =>
    match ops[i]? with
    | none => False
    | some o =>
      cond (okDst n o.dst && o.guard.isNone)
        (cond (isP o.op)
          (cond (Region.free .any ops listed i && (Region.ready .any ops listed).contains i)
            (opP P g o (ev fr) R fun v => denD P g n ops R K r (listed.setIfInBounds i true) (upd fr o.dst v) H) False)
          (cond (Region.ready .any ops listed == [i])
            (opE P g o (ev fr) H (fun v H' => AndIf (needS P ops i) (Ent H' R) (denD P g n ops R K r (listed.setIfInBounds i true) (upd fr o.dst v) H')) (fun _ _ => False)) False)) False

def NoPan (Q : Exit → Act → World → Prop) : Exit → Act → World → Prop
  | .panic _, _, _ => False
  | e, a, w => Q e a w

theorem wanted_none {o : Oper} (h : o.guard.isNone = true) (y : Nat → Option Bool) : Region.wanted o y = true := by
  unfold Region.wanted
  cases hg : o.guard <;> simp_all

theorem Own.right0 {g : Gh} {H : Hp} {w : World} (h : Own g H w) : Own g [] w := Own.right (A := H) (B := []) (by simpa using h)
theorem unlisted_of {listed : Array Bool} {i k : Nat} (hun : listed.getD i true = false) (h : (listed.setIfInBounds i true).getD k true = false) : listed.getD k true = false := by
  by_cases e : i = k
  · rw [← e]; exact hun
  · rwa [getD_set_ne true e] at h
theorem denD_any {n : Nat} {ops : Array Oper} {R : Hp} {K : Fr → Hp → Prop} {Q : Exit → Act → World → Prop} (hs : Region.noSelect ops = true) (fr0 : Fr)
    (hk : ∀ a w fr H, Agree n a fr → Own g H w → OutEq ops.toList fr0 fr → K fr H → Q .normal a w) :
    ∀ (l : List Nat) (listed : Array Bool) (fr : Fr) (H : Hp), denD P g n ops R K l listed fr H → ∀ (fuel : Nat), l.length ≤ fuel → ∀ (a : Act) (w : World), Agree n a fr → Own g H w → ((∃ k ok, ops[k]? = some ok ∧ isRd P ok.op = true ∧ listed.getD k true = false) → Own g R w) → OutEq ops.toList fr0 fr →
      AnyS P .any ops (NoPan Q) (Keeps P g R ops) fuel listed a w
  | [], listed, fr, H, h => by
    intro fuel _ a w ha hw hR ho
    unfold denD at h
    cases hr : (Region.ready .any ops listed).isEmpty <;> simp only [hr, cond_true, cond_false] at h
    exact AnyS.done (Q := NoPan Q) (by simpa using hr) (hk a w fr H ha hw ho h) fuel
  | i :: r, listed, fr, H, h => by
    intro fuel hfuel a w ha hw hR ho
    unfold denD at h
    split at h <;> try exact h.elim
    rename_i o hoi
    have hmem : o ∈ ops.toList := Array.mem_toList_iff.2 (Array.mem_of_getElem? hoi)
    have hout : ∀ v, OutEq ops.toList fr0 (upd fr o.dst v) := fun v s hs' => by
      rw [upd_ne, ho s hs']
      have : ∀ l : List Oper, o ∈ l → inDsts l s = false → inDsts [({ (default : Oper) with dst := o.dst })] s = false := by
        intro l
        induction l with
        | nil => intro h; simp at h
        | cons x y ih =>
          intro hm hi
          rw [inDsts_cons, Bool.or_eq_false_iff] at hi
          rcases List.mem_cons.1 hm with rfl | hm
          · exact hi.1
          · exact ih hm hi.2
      exact this _ hmem hs'
    cases hc : (okDst n o.dst && o.guard.isNone) <;> simp only [hc, cond_true, cond_false] at h
    simp only [Bool.and_eq_true] at hc
    obtain ⟨fuel, rfl⟩ : ∃ f, fuel = f + 1 := ⟨fuel - 1, by simp only [List.length_cons] at hfuel; omega⟩
    have hfuel' : r.length ≤ fuel := by simp only [List.length_cons] at hfuel; omega
    cases hip : isP o.op <;> simp only [hip, cond_true, cond_false] at h
    case true =>
      cases hch : (Region.free .any ops listed i && (Region.ready .any ops listed).contains i) <;> simp only [hch, cond_true, cond_false] at h
      simp only [Bool.and_eq_true] at hch
      have hun := (mem_ready.1 (by simpa using hch.2 : i ∈ Region.ready .any ops listed)).1
      have hself : ∀ w, Keeps P g R ops i w w := fun w oj hoj' => ⟨fun _ => rfl, fun hn => (by rw [hoi] at hoj'; cases hoj'; rw [hip] at hn; cases hn)⟩
      cases hn : isN P o.op
      case true =>
        rw [opP_free hn (ev fr) R []] at h
        obtain ⟨v, hk', hr⟩ := opP_reads h
        refine AnyS.take (S0 := Own g []) hoi hs hch.1 hch.2 (fun _ _ _ h => h) (fun w _ => hself w) (fun j oj w w' hoj hj hno h0 hk => ?_) (.inl ⟨wanted_none hc.2 _, fun w' hw' => by rw [ha.eval]; exact hr w' hw'⟩) hw.right0 ?_
        · cases hpj : isP oj.op
          · exact ((hk oj hoj).2 hpj).1
          · rw [(hk oj hoj).1 hpj]; exact h0
        · refine denD_any hs fr0 hk r _ _ H hk' fuel hfuel' _ w (ha.put hc.1 v) hw ?_ (hout v)
          rintro ⟨k, ok, hk1, hk2, hk3⟩
          exact hR ⟨k, ok, hk1, hk2, unlisted_of hun hk3⟩
      case false =>
        obtain ⟨v, hk', hr⟩ := opP_reads h
        have hrd : isRd P o.op = true := by simp [isRd, hip, hn]
        have hR' : Own g R w := hR ⟨i, o, hoi, hrd, hun⟩
        refine AnyS.take (S0 := Own g R) hoi hs hch.1 hch.2 (fun _ _ _ h => h) (fun w _ => hself w) (fun j oj w w' hoj hj hno h0 hk => ?_) (.inl ⟨wanted_none hc.2 _, fun w' hw' => by rw [ha.eval]; exact hr w' hw'⟩) hR' ?_
        · cases hpj : isP oj.op
          · exact ((hk oj hoj).2 hpj).2 (needS_spec hoi hrd hj hno) h0
          · rw [(hk oj hoj).1 hpj]; exact h0
        · exact denD_any hs fr0 hk r _ _ H hk' fuel hfuel' _ w (ha.put hc.1 v) hw (fun _ => hR') (hout v)
    case false =>
      cases hch : (Region.ready .any ops listed == [i]) <;> simp only [hch, cond_true, cond_false] at h
      have hrd := beq_iff_eq.1 hch
      have hri : i ∈ Region.ready .any ops listed := by rw [hrd]; simp
      refine AnyS.all hrd (by simp) fun j hj => ?_
      simp only [List.mem_singleton] at hj
      subst hj
      unfold wpOp
      simp only [hoi, wanted_none hc.2, if_true]
      refine .inl ?_
      unfold Oper.wp
      rw [ha.eval]
      refine (opE_op (ev_func fr) h w hw).upon (fun v H' w' ho' hb => ?_) (fun ch H' w' _ h0 => h0.elim)
      obtain ⟨he, hk'⟩ := hb.of
      refine ⟨fun oj hoj' => ⟨fun hp => (by rw [hoi] at hoj'; cases hoj'; rw [hip] at hp; cases hp), fun _ => ⟨ho'.right0, fun hn _ => he hn _ _ ho'⟩⟩, denD_any hs fr0 hk r _ _ H' hk' fuel hfuel' _ w' (ha.put hc.1 v) ho' ?_ (hout v)⟩
      rintro ⟨k, ok, hk1, hk2, hk3⟩
      refine he ?_ _ _ ho'
      have hki : j ≠ k := fun e => by
        subst e
        rw [Array.getD_eq_getD_getElem?, Array.getElem?_setIfInBounds_self] at hk3
        have := (mem_ready.1 hri).1
        rw [Array.getD_eq_getD_getElem?] at this
        split at hk3
        · simp at hk3
        · rename_i hlt; rw [Array.getElem?_eq_none (by omega)] at this; simp at this
      rw [getD_set_ne true hki] at hk3
      refine needS_spec hk1 hk2 hki fun oj hj e he' hb' heq => ?_
      obtain ⟨_, o2, ho2, hall⟩ := mem_ready.1 hri
      rw [hj] at ho2; cases ho2
      have h1 := hall e he' hb'
      rw [heq, Array.getD_eq_getD_getElem?] at h1
      rw [Array.getD_eq_getD_getElem?] at hk3
      cases hg : listed[k]? with
      | none => rw [hg] at h1; simp at h1
      | some y => rw [hg] at h1 hk3; simp at h1 hk3; rw [hk3] at h1; cases h1


/-! operations that make memory and look at none: they may come up at any time -/
abbrev Mk := Obj × (Nat → Value)
def MkSliceC (elem size bytes : Nat) (zero : Value) (l c : Value) (k : Mk → Prop) : Prop :=
  ∃ kl kc ln cn, l = .int kl (ln : Nat) ∧ c = .int kc (cn : Nat) ∧ ln ≤ cn ∧ (cn : Int) ≤ 9223372036854775807 ∧ cn * bytes ≤ 281474976710656 ∧
    k (.cells (madeCells zero.cells (cn * size)) elem (0, 0), fun b => .slice (some ⟨b, 0, none⟩) ln cn)
def BuildSlC (P : Program) (t len : Nat) (parts : List (Nat × Value)) (k : Mk → Prop) : Prop :=
  ∃ cs e n z, P.underlying t = some (.slice e) ∧ sizeD P e = some n ∧ zeroD P e = some z ∧ len * n ≤ 2 ^ 24 ∧
      Instr.fill (fun i => some (i * n, n)) ((Array.range (len * n)).map (z.cells[· % z.cells.size]!)) parts = some cs ∧ k (.cells cs e (0, 0), fun b => .slice (some ⟨b, 0, none⟩) len len)
/-- what such an operation will make -/
def Claim (P : Program) (o : Oper) (ρ : Operand → Value) (k : Mk → Prop) : Prop :=
  match o.op with
  | .alloc t => match zeroD P t with
    | some z => k (.cells z.cells t (0, 0), fun b => .pointer (some ⟨b, 0, none⟩))
    | none => False
  | .makeMap _ none => k (.map #[] 0, fun b => .map (some b))
  | .makeSlice t l c => match P.underlying t with
    | some (.slice e) => match sizeD P e, bytesD P e, zeroD P e with
      | some n, some b, some z => MkSliceC e n b z (ρ l) (ρ c) k
      | _, _, _ => False
    | _ => False
  | .buildSlice t len parts => BuildSlC P t len (parts.toList.map fun p => (p.1, ρ p.2)) k
  | _ => False
def Makes (P : Program) (o : Oper) (ρ : Operand → Value) (x : Mk) : Prop := ∀ w, (execOp ρ o).run P w = .ok (.value (x.2 w.heap.size)) (w.alloc x.1)
theorem Claim.makes {o : Oper} {ρ : Operand → Value} {k : Mk → Prop} (h : Claim P o ρ k) : ∃ x, Makes P o ρ x ∧ k x := by
  unfold Claim at h
  split at h
  · rename_i t hop
    split at h <;> try exact h.elim
    rename_i z hz
    obtain ⟨i, hi, hiz⟩ := zeroD_spec hz
    refine ⟨_, fun w => ?_, h⟩
    simp only [execOp, hop]
    simp [Instr.alloc, run_zero hi hiz, newVar, newRow]
  · rename_i t hop
    refine ⟨_, fun w => ?_, h⟩
    simp only [execOp, hop]
    simp [Instr.makeMap]
  · rename_i t l c hop
    split at h <;> try exact h.elim
    rename_i e ht
    split at h <;> try exact h.elim
    rename_i n b z hn hb hz
    obtain ⟨i, hi, hin⟩ := sizeD_spec hn
    obtain ⟨i', hi', hiz⟩ := zeroD_spec hz
    obtain ⟨i2, hi2, hib⟩ := bytesD_spec hb
    have e1 : i' = i := Option.some.inj (hi'.symm.trans hi)
    have e2 : i2 = i := Option.some.inj (hi2.symm.trans hi)
    subst e1; subst e2
    obtain ⟨kl, kc, ln, cn, hl, hc, hlc, hmax, hby, hk⟩ := h
    subst hin; subst hib
    refine ⟨_, fun w => ?_, hk⟩
    have e1 : IntKind.i64.wrap (ln : Int) = ln := IntWalk.i64_in _ (by omega)
    have e2 : IntKind.i64.wrap (cn : Int) = cn := IntWalk.i64_in _ (by omega)
    have e3 : ¬ ((i2.bytes : Int) * (cn : Int) > 281474976710656) := by
      have : ((cn * i2.bytes : Nat) : Int) ≤ 281474976710656 := by omega
      rw [Int.mul_comm]; push_cast at this; omega
    have e4 : ¬ ((cn : Int) < ln) := by omega
    simp only [execOp, hop]
    by_cases h0 : cn * i2.size = 0
    · simp [Instr.makeSlice, run_underlying ht, asInt, asIntOf, typeInfo, hi, hl, hc, e1, e2, e3, e4, sizeOf, zeroValue, hiz, newRow, madeCells, h0, show ¬ ((cn : Int) < 0) from by omega, show ¬ ((ln : Int) < 0) from by omega]
      have : Array.range 0 = #[] := rfl
      simp [this]
    · simp [Instr.makeSlice, run_underlying ht, asInt, asIntOf, typeInfo, hi, hl, hc, e1, e2, e3, e4, sizeOf, zeroValue, hiz, newRow, madeCells, h0, show ¬ ((cn : Int) < 0) from by omega, show ¬ ((ln : Int) < 0) from by omega]
  · rename_i t len parts hop
    obtain ⟨cs, e, n, z, ht, hn, hz, hl, hf, hk⟩ := h
    obtain ⟨i, hi, hin⟩ := sizeD_spec hn
    obtain ⟨i', hi', hiz⟩ := zeroD_spec hz
    have : i' = i := Option.some.inj (hi'.symm.trans hi)
    subst this
    subst hin
    refine ⟨_, fun w => ?_, hk⟩
    have hl' : ¬ (len * i'.size > 2 ^ 24) := by omega
    have hpl : (parts.map fun (x : Nat × Operand) => (x.1, ρ x.2)).toList = parts.toList.map fun p => (p.1, ρ p.2) := by rw [Array.toList_map]
    by_cases h0 : len * i'.size = 0
    · simp only [execOp, hop, Instr.buildSlice, Sem.run_bind, run_underlying ht, Result.andThen_ok, run_sizeOf hi, hl', if_false, h0, if_true, Sem.run_pure]
      rw [h0] at hf
      have hr0 : Array.range 0 = #[] := rfl
      simp only [hr0, Array.map_empty, List.map_toArray, List.map_nil] at hf ⊢
      rw [hpl, hf]
      simp [newRow]
    · simp only [execOp, hop, Instr.buildSlice, Sem.run_bind, run_underlying ht, Result.andThen_ok, run_sizeOf hi, hl', if_false, h0, run_zero hi hiz, Sem.run_pure]
      simp [hf, newRow]
  · exact h.elim
abbrev Cls := List (Nat × Mk)
def marks : Cls → Nat → Array Bool → Array Bool
  | [], _, l => l
  | x :: r, i, l => marks r i (cond (Nat.beq x.1 i) l (l.setIfInBounds x.1 true))
def apartAll (ops : Array Oper) (o : Oper) (i : Nat) (listed : Array Bool) : Cls → Bool
  | [] => true
  | x :: r => (Nat.beq x.1 i || listed.getD x.1 true || (match ops[x.1]? with | some of => of.apart ops o | none => false)) && apartAll ops o i listed r
def exOf : Cls → Nat → Option Mk
  | [], _ => none
  | x :: r, i => cond (Nat.beq x.1 i) (some x.2) (exOf r i)
def allL (listed : Array Bool) : Cls → Bool
  | [] => true
  | x :: r => listed.getD x.1 false && allL listed r
/-- hints: how a text is cut; nothing of truth hangs on them -/
inductive Hn
  | e
  | h (m : Nat) (L I : List Nat) (a b : Hn)
def Hn.m : Hn → Nat | .e => 0 | .h m _ _ _ _ => m
def Hn.L : Hn → List Nat | .e => [] | .h _ L _ _ _ => L
def Hn.I : Hn → List Nat | .e => [] | .h _ _ I _ _ => I
def Hn.a : Hn → Hn | .e => .e | .h _ _ _ a _ => a
def Hn.b : Hn → Hn | .e => .e | .h _ _ _ _ b => b

def Br (v : Value) (t f : Prop) : Prop := ∃ b, v = .bool b ∧ (b = true → t) ∧ (b = false → f)
/-- what a choice, or a move, comes to by the text alone -/
def knOf (p : Oper) (fr : Fr) : Value :=
  match p.op with
  | .move x => ev fr x
  | .assign x => ev fr x
  | _ => pickOf p fr
def isKn (p : Oper) : Bool := match p.op with | .pick .. => true | .move _ => true | .assign _ => true | _ => false
theorem knOf_run {p : Oper} {fr : Fr} {t : Bool} (hp : isKn p = true) (h : knOf p fr = .bool t) (w : World) : (execOp (ev fr) p).run P w = .ok (.value (.bool t)) w := by
  unfold isKn at hp
  unfold knOf at h
  split at h
  · rename_i x hop; simp only [execOp, hop, h]; rfl
  · rename_i x hop; simp only [execOp, hop, h]; rfl
  · rename_i h1 h2
    split at hp
    · rename_i hop; exact pickOf_run (by unfold isPick; rw [hop]) h w
    · rename_i x hop; exact absurd hop (h1 x)
    · rename_i x hop; exact absurd hop (h2 x)
    · cases hp
theorem isKn_isP {p : Oper} (hp : isKn p = true) : isP p.op = true := by
  unfold isKn at hp
  split at hp <;> first | (rename_i hop; rw [hop]; rfl) | cases hp
/-- is an operation wanted, as far as the text tells -/
def wantedD (ops : Array Oper) (fr : Fr) (o : Oper) : Option Bool :=
  match o.guard with
  | none => some true
  | some (j, want) => match slotOf ops j with
    | none => none
    | some s => match fr s with
      | .bool b => some (b == want)
      | .tuple _ => some false
      | _ => none
/-- likewise, with operations that may come up at any time once they are claimed: they are taken where the plan has them; behind a test the plan may go on in two ways -/
def denE (P : Program) (g : Gh) (n : Nat) (ops : Array Oper) (R : Hp) (K : Fr → Hp → Prop) : Hn → Cls → Array Bool → Fr → Hp → Prop
  | .e, cl, listed, fr, H => cond ((Region.ready .any ops listed).isEmpty && allL listed cl) (K fr H) False
  | .h m L _ pa pb, cl, listed, fr, H =>
    match L with
    | [i] =>
      match ops[i]? with
      | none => False
      | some o =>
        cond (Nat.beq m 1)
          (cond (okDst n o.dst && o.guard.isNone && !isP o.op && !listed.getD i true && apartAll ops o i listed cl && (match exOf cl i with | none => true | some _ => false))
            (Claim P o (ev fr) fun x => denE P g n ops R K pa ((i, x) :: cl) listed fr H) False)
          (cond (okDst n o.dst && apartAll ops o i listed cl && (Region.ready .any ops listed).contains i)
            (match wantedD ops fr o with
            | none => False
            | some false => cond (Region.free .any ops listed i && (match exOf cl i with | none => true | some _ => false)) (denE P g n ops R K pa cl (listed.setIfInBounds i true) (upd fr o.dst undef) H) False
            | some true =>
              cond (Nat.beq m 3) (cond (isKn o && Region.free .any ops listed i) (match knOf o fr with
                | .bool b => denE P g n ops R K pa cl (listed.setIfInBounds i true) (upd fr o.dst (.bool b)) H
                | _ => False) False)
              (cond (isP o.op)
                (cond (Region.free .any ops listed i)
                  (opP P g o (ev fr) R fun v => cond (Nat.beq m 0) (denE P g n ops R K pa cl (listed.setIfInBounds i true) (upd fr o.dst v) H)
                    (Br v (denE P g n ops R K pa cl (listed.setIfInBounds i true) (upd fr o.dst (.bool true)) H) (denE P g n ops R K pb cl (listed.setIfInBounds i true) (upd fr o.dst (.bool false)) H))) False)
                (cond (Region.ready .any ops (marks cl i listed) == [i])
                  (match exOf cl i with
                    | some x => New H x.1 fun b H' => denE P g n ops R K pa cl (listed.setIfInBounds i true) (upd fr o.dst (x.2 b)) H'
                    | none => ∀ F, opE P (g.add F) o (ev fr) H (fun v H' => AndIf (needS P ops i) (Ent H' R) (denE P g n ops R K pa cl (listed.setIfInBounds i true) (upd fr o.dst v) H')) (fun _ _ => False)) False))) False)
    | _ => False

theorem exOf_mem {cl : Cls} {i : Nat} {x : Mk} (h : exOf cl i = some x) : (i, x) ∈ cl := by
  induction cl with
  | nil => simp [exOf] at h
  | cons y r ih =>
    simp only [exOf] at h
    cases hb : Nat.beq y.1 i <;> simp only [hb, cond_true, cond_false] at h
    · exact List.mem_cons_of_mem _ (ih h)
    · have := Nat.eq_of_beq_eq_true hb
      simp only [Option.some.injEq] at h
      subst this; subst h; exact List.mem_cons_self
theorem exOf_some {cl : Cls} {i : Nat} (h : i ∈ cl.map Prod.fst) : ∃ x, exOf cl i = some x := by
  induction cl with
  | nil => simp at h
  | cons y r ih =>
    simp only [exOf]
    cases hb : Nat.beq y.1 i
    · simp only [cond_false]
      rw [List.map_cons, List.mem_cons] at h
      rcases h with h | h
      · subst h; simp at hb
      · exact ih h
    · exact ⟨_, rfl⟩
theorem exOf_key {cl : Cls} {i : Nat} {x : Mk} (h : exOf cl i = some x) : i ∈ cl.map Prod.fst := List.mem_map.2 ⟨_, exOf_mem h, rfl⟩
theorem marks_get {l : Cls} {i : Nat} {b : Array Bool} {k : Nat} : (marks l i b)[k]? = if k ∈ l.map Prod.fst ∧ k ≠ i ∧ k < b.size then some true else b[k]? := by
  induction l generalizing b with
  | nil => simp [marks]
  | cons y r ih =>
    simp only [marks]
    cases hy : Nat.beq y.1 i
    · have hne : y.1 ≠ i := fun e => by rw [e] at hy; simp at hy
      simp only [cond_false, ih, Array.size_setIfInBounds]
      by_cases hk : k ∈ r.map Prod.fst ∧ k ≠ i ∧ k < b.size
      · rw [if_pos hk, if_pos ⟨by rw [List.map_cons]; exact List.mem_cons_of_mem _ hk.1, hk.2⟩]
      · rw [if_neg hk]
        by_cases e : y.1 = k
        · subst e
          by_cases hlt : y.1 < b.size
          · rw [if_pos ⟨by simp, hne, hlt⟩, Array.getElem?_setIfInBounds_self_of_lt hlt]
          · rw [if_neg (fun h => hlt h.2.2), Array.getElem?_eq_none (by simp; omega), Array.getElem?_eq_none (by omega)]
        · rw [Array.getElem?_setIfInBounds_ne e, if_neg]
          rintro ⟨h1, h2⟩
          rw [List.map_cons, List.mem_cons] at h1
          rcases h1 with h1 | h1
          · exact e h1.symm
          · exact hk ⟨h1, h2⟩
    · have he := Nat.eq_of_beq_eq_true hy
      simp only [cond_true, ih]
      by_cases hk : k ∈ r.map Prod.fst ∧ k ≠ i ∧ k < b.size
      · rw [if_pos hk, if_pos ⟨by rw [List.map_cons]; exact List.mem_cons_of_mem _ hk.1, hk.2⟩]
      · rw [if_neg hk, if_neg]
        rintro ⟨h1, h2, h3⟩
        rw [List.map_cons, List.mem_cons] at h1
        rcases h1 with h1 | h1
        · exact h2 (h1.trans he)
        · exact hk ⟨h1, h2, h3⟩
theorem apartAll_spec {ops : Array Oper} {o : Oper} {i : Nat} {listed : Array Bool} {l : Cls} (h : apartAll ops o i listed l = true) {f : Nat} (hf : f ∈ l.map Prod.fst) (hne : f ≠ i) (hun : listed.getD f true = false) :
    ∃ of, ops[f]? = some of ∧ of.apart ops o = true := by
  induction l with
  | nil => simp at hf
  | cons x r ih =>
    simp only [apartAll, Bool.and_eq_true, Bool.or_eq_true] at h
    rw [List.map_cons] at hf
    rcases List.mem_cons.1 hf with rfl | hf
    · rcases h.1 with (h1 | h1) | h1
      · exact absurd (Nat.eq_of_beq_eq_true h1) hne
      · rw [hun] at h1; simp at h1
      · split at h1
        · rename_i of ho; exact ⟨of, ho, h1⟩
        · simp at h1
    · exact ih h.2 hf
theorem apart_comm {ops : Array Oper} {x y : Oper} (h : x.apart ops y = true) : y.apart ops x = true := by
  unfold Oper.apart at *
  cases hx : x.dst <;> cases hy : y.dst <;> simp_all
  exact fun e => h.1.2 e.symm
theorem free_more {ops : Array Oper} {l l' : Array Bool} {i : Nat} (h : Region.free .any ops l i = true) (hm : ∀ k, l.getD k true = true → l'.getD k true = true) : Region.free .any ops l' i = true := by
  unfold Region.free at *
  split at h
  · simp at h
  · rename_i oi hoi
    rw [List.all_eq_true] at h ⊢
    intro j hj
    have := h j hj
    simp only [Bool.or_eq_true] at this ⊢
    rcases this with (h1 | h1) | h1
    · exact .inl (.inl h1)
    · exact .inl (.inr (hm j h1))
    · exact .inr h1
/-- those that came up early: number, block, what they made -/
abbrev Early := List (Nat × Nat × Mk)
def erB (E : Early) : Hp := E.map fun x => (x.2.1, x.2.2.1)
/-- what is known of a claim whose turn has not come -/
structure ClOK (P : Program) (n : Nat) (ops : Array Oper) (listed : Array Bool) (cl : Cls) (fr : Fr) (j : Nat) (x : Mk) (o : Oper) : Prop where
  op : ops[j]? = some o
  notP : isP o.op = false
  dst : okDst n o.dst = true
  gd : o.guard.isNone = true
  makes : Makes P o (ev fr) x
  far : ∀ k y, exOf cl k = some y → k ≠ j → listed.getD k true = false → ∃ ok, ops[k]? = some ok ∧ ok.apart ops o = true
structure ErOK (P : Program) (n : Nat) (ops : Array Oper) (cl : Cls) (listed la : Array Bool) (E : Early) (fr fa : Fr) : Prop where
  mem : ∀ x ∈ E, exOf cl x.1 = some x.2.2 ∧ listed.getD x.1 true = false
  nd : (E.map Prod.fst).Nodup
  la : ∀ k, la[k]? = if k ∈ E.map Prod.fst then some true else listed[k]?
  out : ∀ s, (∀ x ∈ E, slotOf ops x.1 ≠ some s) → fa s = fr s
  at_ : ∀ x ∈ E, ∀ d, slotOf ops x.1 = some d → fa d = x.2.2.2 x.2.1
  cl : ∀ j x, exOf cl j = some x → listed.getD j true = false → ∃ o, ClOK P n ops listed cl fr j x o
section
variable {n : Nat} {ops : Array Oper} {cl : Cls} {listed la : Array Bool} {E : Early} {fr fa : Fr}
theorem ErOK.more (h : ErOK P n ops cl listed la E fr fa) {k : Nat} {b : Bool} (hk : listed.getD k b = true) : la.getD k b = true := by
  have := h.la k
  rw [Array.getD_eq_getD_getElem?] at hk ⊢
  rw [this]
  split
  · rfl
  · exact hk
theorem ErOK.ready (h : ErOK P n ops cl listed la E fr fa) {i : Nat} (hi : i ∉ E.map Prod.fst) (hr : i ∈ Region.ready .any ops listed) : i ∈ Region.ready .any ops la := by
  rw [mem_ready] at hr ⊢
  obtain ⟨h1, o, ho, hall⟩ := hr
  refine ⟨?_, o, ho, fun e he hb => h.more (hall e he hb)⟩
  have := h.la i
  rw [Array.getD_eq_getD_getElem?] at h1 ⊢
  rw [this, if_neg hi]; exact h1
theorem unset {i k : Nat} (h : (listed.setIfInBounds i true).getD k true = false) : i ≠ k ∧ listed.getD k true = false := by
  by_cases e : i = k
  · subst e
    rw [Array.getD_eq_getD_getElem?] at h
    rcases Nat.lt_or_ge i listed.size with hl | hl
    · rw [Array.getElem?_setIfInBounds_self_of_lt hl] at h; cases h
    · rw [Array.getElem?_eq_none (by simpa using hl)] at h; cases h
  · exact ⟨e, by rwa [getD_set_ne true e] at h⟩
theorem Makes.congr {o o' : Oper} {x : Mk} {v : Value} (h : Makes P o (ev fr) x) (hs : ∀ cs b, o.op ≠ .select cs b) (hap : o.apart ops o' = true) : Makes P o (ev (upd fr o'.dst v)) x := by
  have e : execOp (ev (upd fr o'.dst v)) o = execOp (ev fr) o := by
    refine execOp_congr o hs fun y hy => ?_
    cases y with
    | tmp t =>
      obtain ⟨_, _, h3⟩ := Oper.apart_spec hap
      cases hd : o'.dst with
      | none => rfl
      | some d =>
        have := h3 d hd
        have hne : Nat.beq t d = false := by
          cases hb : Nat.beq t d
          · rfl
          · have e := Nat.eq_of_beq_eq_true hb; subst e
            refine absurd ?_ this
            exact List.mem_append_left _ (List.mem_filterMap.2 ⟨Operand.tmp t, by simpa using hy, rfl⟩)
        simp only [ev, upd, hne, cond_false]
    | const v => rfl
    | global g => rfl
    | func f => rfl
  intro w; rw [e]; exact h w
/-- how claims stand behind an operation at its turn -/
theorem clStep (hs : Region.noSelect ops = true) (hcl : ∀ j x, exOf cl j = some x → listed.getD j true = false → ∃ o, ClOK P n ops listed cl fr j x o) {i : Nat} {o : Oper} (hap : apartAll ops o i listed cl = true) (v : Value) :
    ∀ j x, exOf cl j = some x → (listed.setIfInBounds i true).getD j true = false → ∃ oj, ClOK P n ops (listed.setIfInBounds i true) cl (upd fr o.dst v) j x oj := by
  intro j x hx hun
  obtain ⟨hne, hun'⟩ := unset hun
  obtain ⟨oj, h⟩ := hcl j x hx hun'
  obtain ⟨oj', ho', hap'⟩ := apartAll_spec hap (exOf_key hx) (Ne.symm hne) hun'
  rw [h.op] at ho'; cases ho'
  exact ⟨oj, h.op, h.notP, h.dst, h.gd, h.makes.congr (fun cs b => Region.noSelect_spec hs j oj cs b h.op) hap', fun k y hk hkj hku => h.far k y hk hkj (unset hku).2⟩
/-- an operation that is none of the early ones, taken: how things stand behind it -/
theorem ErOK.step (hs : Region.noSelect ops = true) (h : ErOK P n ops cl listed la E fr fa) {i : Nat} {o : Oper} (hoi : ops[i]? = some o) (hi : i ∉ E.map Prod.fst)
    (hap0 : apartAll ops o i listed cl = true) (v : Value) : ErOK P n ops cl (listed.setIfInBounds i true) (la.setIfInBounds i true) E (upd fr o.dst v) (upd fa o.dst v) := by
  have hap : ∀ x ∈ E, ∃ of, ops[x.1]? = some of ∧ of.apart ops o = true := fun x hx =>
      apartAll_spec hap0 (exOf_key (h.mem x hx).1) (fun e => hi (e ▸ List.mem_map_of_mem hx)) (h.mem x hx).2
  have hsz : la[i]? = listed[i]? := by rw [h.la i, if_neg hi]
  refine ⟨fun x hx => ⟨(h.mem x hx).1, ?_⟩, h.nd, fun k => ?_, fun s hs => ?_, fun x hx d hd => ?_, clStep hs h.cl hap0 v⟩
  · have hne : i ≠ x.1 := fun e => hi (e ▸ List.mem_map_of_mem hx)
    rw [getD_set_ne true hne]; exact (h.mem x hx).2
  · by_cases e : i = k
    · subst e
      rw [if_neg hi, Array.getElem?_setIfInBounds, Array.getElem?_setIfInBounds]
      simp only [if_true]
      have : i < la.size ↔ i < listed.size := by
        constructor
        · intro hlt; rw [Array.getElem?_eq_getElem hlt] at hsz; exact (Array.getElem?_eq_some_iff.1 hsz.symm).1
        · intro hlt; rw [Array.getElem?_eq_getElem hlt] at hsz; exact (Array.getElem?_eq_some_iff.1 hsz).1
      by_cases hlt : i < la.size
      · rw [if_pos hlt, if_pos (this.1 hlt)]
      · rw [if_neg hlt, if_neg (fun x => hlt (this.2 x))]
    · rw [Array.getElem?_setIfInBounds_ne e, Array.getElem?_setIfInBounds_ne e]; exact h.la k
  · cases hd : o.dst with
    | none => exact h.out s hs
    | some d =>
      simp only [upd]
      cases Nat.beq s d
      · exact h.out s hs
      · rfl
  · obtain ⟨of, hof, hap⟩ := hap x hx
    obtain ⟨h1, h2, h3⟩ := Oper.apart_spec hap
    have hofd : of.dst = some d := by simpa [slotOf, hof] using hd
    have := h2 d hofd
    cases hdo : o.dst with
    | none => exact h.at_ x hx d hd
    | some d' =>
      have hne : Nat.beq d d' = false := by
        cases hb : Nat.beq d d'
        · rfl
        · have e := Nat.eq_of_beq_eq_true hb; subst e; exact absurd hdo this
      simp only [upd, hne, cond_false]; exact h.at_ x hx d hd
theorem ErOK.exec (h : ErOK P n ops cl listed la E fr fa) {o : Oper}
    (hap : ∀ x ∈ E, ∃ of, ops[x.1]? = some of ∧ of.apart ops o = true) (hs : ∀ cs b, o.op ≠ .select cs b) : execOp (ev fa) o = execOp (ev fr) o := by
  refine execOp_congr o hs fun x hx => ?_
  cases x with
  | tmp t =>
    refine h.out t fun y hy e => ?_
    obtain ⟨of, hof, hap⟩ := hap y hy
    obtain ⟨h1, _, _⟩ := Oper.apart_spec hap
    refine h1 t (by simpa [slotOf, hof] using e) ?_
    exact List.mem_append_left _ (List.mem_filterMap.2 ⟨.tmp t, by simpa using hx, rfl⟩)
  | const v => rfl
  | global g => rfl
  | func f => rfl
/-- one that was claimed comes up ahead of its turn -/
theorem ErOK.early (h : ErOK P n ops cl listed la E fr fa) {j b : Nat} {x : Mk} (hj : exOf cl j = some x) (hjE : j ∉ E.map Prod.fst) (hun : listed.getD j true = false)
    {o : Oper} (ho : ops[j]? = some o) : ErOK P n ops cl listed (la.setIfInBounds j true) ((j, b, x) :: E) fr (upd fa o.dst (x.2 b)) := by
  obtain ⟨o', hcl⟩ := h.cl j x hj hun
  have ho' := hcl.op
  rw [ho] at ho'; cases ho'
  have hapart : ∀ y ∈ E, ∃ of, ops[y.1]? = some of ∧ of.apart ops o = true := fun y hy =>
    hcl.far y.1 _ (h.mem y hy).1 (fun e => hjE (e ▸ List.mem_map_of_mem hy)) (h.mem y hy).2
  have hltj : j < la.size := by
    have hl := h.la j
    rw [if_neg hjE] at hl
    have h2 : j < listed.size := by
      rcases Nat.lt_or_ge j listed.size with h2 | h2
      · exact h2
      · rw [Array.getD_eq_getD_getElem?, Array.getElem?_eq_none h2] at hun; simp at hun
    rw [Array.getElem?_eq_getElem h2] at hl
    exact (Array.getElem?_eq_some_iff.1 hl).1
  refine ⟨fun y hy => ?_, ?_, fun k => ?_, fun s hs => ?_, fun y hy d hd => ?_, h.cl⟩
  · rcases List.mem_cons.1 hy with rfl | hy
    · exact ⟨hj, hun⟩
    · exact h.mem y hy
  · rw [List.map_cons, List.nodup_cons]; exact ⟨hjE, h.nd⟩
  · by_cases e : j = k
    · subst e; rw [if_pos (by simp), Array.getElem?_setIfInBounds_self_of_lt hltj]
    · rw [Array.getElem?_setIfInBounds_ne e, h.la k]
      by_cases hk : k ∈ E.map Prod.fst
      · rw [if_pos hk, if_pos (by rw [List.map_cons]; exact List.mem_cons_of_mem _ hk)]
      · rw [if_neg hk, if_neg]
        rw [List.map_cons, List.mem_cons]
        rintro (h1 | hk')
        · exact e h1.symm
        · exact hk hk'
  · have hne := hs (j, b, x) (by simp)
    simp only [slotOf, ho] at hne
    rw [show upd fa o.dst (x.2 b) s = fa s from ?_]
    · exact h.out s fun y hy => hs y (by simp [hy])
    · cases hd : o.dst with
      | none => rfl
      | some d =>
        rw [hd] at hne
        have : Nat.beq s d = false := by
          cases hb : Nat.beq s d
          · rfl
          · exact absurd (congrArg some (Nat.eq_of_beq_eq_true hb).symm) hne
        simp only [upd, this, cond_false]
  · rcases List.mem_cons.1 hy with rfl | hy
    · simp only [slotOf, ho] at hd
      rw [hd]; simp [upd]
    · obtain ⟨of, hof, hap⟩ := hapart y hy
      obtain ⟨_, h2, _⟩ := Oper.apart_spec hap
      have hofd : of.dst = some d := by simpa [slotOf, hof] using hd
      have := h2 d hofd
      cases hdo : o.dst with
      | none => exact h.at_ y hy d hd
      | some d' =>
        have hne : Nat.beq d d' = false := by
          cases hb : Nat.beq d d'
          · rfl
          · have e := Nat.eq_of_beq_eq_true hb; subst e; exact absurd hdo this
        simp only [upd, hne, cond_false]; exact h.at_ y hy d hd
/-- the turn of one that came up early -/
theorem ErOK.turn (hs : Region.noSelect ops = true) {E1 E2 : Early} {j b : Nat} {x : Mk} (h : ErOK P n ops cl listed la (E1 ++ (j, b, x) :: E2) fr fa) {o : Oper} (ho : ops[j]? = some o) (hap0 : apartAll ops o j listed cl = true) :
    ErOK P n ops cl (listed.setIfInBounds j true) la (E1 ++ E2) (upd fr o.dst (x.2 b)) fa := by
  have hnd := h.nd
  rw [List.map_append, List.map_cons] at hnd
  have hjn : j ∉ (E1 ++ E2).map Prod.fst := by
    have := (List.perm_middle.nodup_iff.1 hnd)
    rw [List.nodup_cons] at this
    rw [List.map_append]; exact this.1
  have hsub : ∀ y, y ∈ E1 ++ E2 → y ∈ E1 ++ (j, b, x) :: E2 := fun y hy => by
    rcases List.mem_append.1 hy with hy | hy <;> simp [hy]
  have hjl : j < listed.size := by
    have h2 := (h.mem (j, b, x) (by simp)).2
    rcases Nat.lt_or_ge j listed.size with h3 | h3
    · exact h3
    · simp only at h2; rw [Array.getD_eq_getD_getElem?, Array.getElem?_eq_none h3] at h2; simp at h2
  refine ⟨fun y hy => ⟨(h.mem y (hsub y hy)).1, ?_⟩, ?_, fun k => ?_, fun s hs => ?_, fun y hy d hd => h.at_ y (hsub y hy) d hd, clStep hs h.cl hap0 _⟩
  · have hne : j ≠ y.1 := fun e => hjn (e ▸ List.mem_map_of_mem hy)
    rw [getD_set_ne true hne]; exact (h.mem y (hsub y hy)).2
  · have := (List.perm_middle.nodup_iff.1 hnd)
    rw [List.nodup_cons] at this
    rw [List.map_append]; exact this.2
  · have hk := h.la k
    by_cases e : j = k
    · subst e
      rw [if_pos (by simp)] at hk
      rw [hk, if_neg hjn, Array.getElem?_setIfInBounds_self_of_lt hjl]
    · rw [Array.getElem?_setIfInBounds_ne e, hk]
      have : k ∈ (E1 ++ (j, b, x) :: E2).map Prod.fst ↔ k ∈ (E1 ++ E2).map Prod.fst := by
        simp only [List.map_append, List.map_cons, List.mem_append, List.mem_cons]
        constructor
        · rintro (h | rfl | h)
          · exact .inl h
          · exact absurd rfl e
          · exact .inr h
        · rintro (h | h)
          · exact .inl h
          · exact .inr (.inr h)
      simp only [this]
  · by_cases e : slotOf ops j = some s
    · rw [h.at_ (j, b, x) (by simp) s e]
      simp only [slotOf, ho] at e
      rw [e]; simp [upd]
    · rw [h.out s fun y hy => ?_]
      · simp only [slotOf, ho] at e
        cases hd : o.dst with
        | none => rfl
        | some d =>
          rw [hd] at e
          have : Nat.beq s d = false := by
            cases hb : Nat.beq s d
            · rfl
            · exact absurd (congrArg some (Nat.eq_of_beq_eq_true hb).symm) e
          simp only [upd, this, cond_false]
      · rcases List.mem_append.1 hy with hy | hy
        · exact hs y (by simp [hy])
        · rcases List.mem_cons.1 hy with rfl | hy
          · exact e
          · exact hs y (by simp [hy])
/-- a claim -/
theorem ErOK.claim (h : ErOK P n ops cl listed la E fr fa) {i : Nat} {o : Oper} {x : Mk} (ho : ops[i]? = some o) (hd : okDst n o.dst = true) (hg : o.guard.isNone = true) (hp : isP o.op = false) (hun : listed.getD i true = false)
    (hap : apartAll ops o i listed cl = true) (hno : exOf cl i = none) (hm : Makes P o (ev fr) x) : ErOK P n ops ((i, x) :: cl) listed la E fr fa := by
  have hne : ∀ j y, exOf cl j = some y → j ≠ i := fun j y hj e => by subst e; rw [hno] at hj; cases hj
  have hex : ∀ j y, exOf cl j = some y → exOf ((i, x) :: cl) j = some y := fun j y hj => by
    have : Nat.beq i j = false := by
      cases hb : Nat.beq i j
      · rfl
      · exact absurd (Nat.eq_of_beq_eq_true hb).symm (hne j y hj)
    simp only [exOf, this, cond_false]; exact hj
  have hex' : ∀ j y, exOf ((i, x) :: cl) j = some y → (j = i ∧ y = x) ∨ (j ≠ i ∧ exOf cl j = some y) := fun j y hj => by
    simp only [exOf] at hj
    cases hb : Nat.beq i j <;> simp only [hb, cond_true, cond_false] at hj
    · exact .inr ⟨fun e => by subst e; simp at hb, hj⟩
    · exact .inl ⟨(Nat.eq_of_beq_eq_true hb).symm, by simpa using hj.symm⟩
  refine ⟨fun y hy => ⟨hex _ _ (h.mem y hy).1, (h.mem y hy).2⟩, h.nd, h.la, h.out, h.at_, fun j y hj hu => ?_⟩
  rcases hex' j y hj with ⟨rfl, rfl⟩ | ⟨hji, hj2⟩
  · refine ⟨o, ho, hp, hd, hg, hm, fun k z hk hkj hku => ?_⟩
    rcases hex' k z hk with ⟨rfl, rfl⟩ | ⟨_, hk⟩
    · exact absurd rfl hkj
    · exact apartAll_spec hap (exOf_key hk) hkj hku
  · obtain ⟨oj, hc⟩ := h.cl j y hj2 hu
    refine ⟨oj, hc.op, hc.notP, hc.dst, hc.gd, hc.makes, fun k z hk hkj hku => ?_⟩
    rcases hex' k z hk with ⟨rfl, rfl⟩ | ⟨_, hk⟩
    · obtain ⟨oj', h1, h2⟩ := apartAll_spec hap (exOf_key hj2) hji hu
      rw [hc.op] at h1; cases h1
      exact ⟨o, ho, apart_comm h2⟩
    · exact hc.far k z hk hkj hku
end
theorem erB_split {E1 E2 : Early} {y : Nat × Nat × Mk} : (erB (E1 ++ y :: E2)).Perm ((y.2.1, y.2.2.1) :: erB (E1 ++ E2)) := by
  unfold erB
  rw [List.map_append, List.map_cons, List.map_append]
  exact List.perm_middle

def cnt : List Bool → Nat
  | [] => 0
  | b :: r => cond b 0 1 + cnt r
theorem cnt_set : ∀ (l : List Bool) (i : Nat), l[i]? = some false → cnt (l.set i true) + 1 = cnt l
  | [], i, h => by simp at h
  | b :: r, 0, h => by simp only [List.getElem?_cons_zero, Option.some.injEq] at h; subst h; simp only [List.set_cons_zero, cnt, cond_true, cond_false]; omega
  | b :: r, i + 1, h => by
    simp only [List.getElem?_cons_succ] at h
    have := cnt_set r i h
    simp only [List.set_cons_succ, cnt]; omega
theorem cnt_replicate (n : Nat) : cnt (List.replicate n false) = n := by
  induction n with
  | zero => rfl
  | succ n ih => simp only [List.replicate_succ, cnt, ih, cond_false]; omega
theorem getD_true_false {a : Array Bool} {i : Nat} (h : a.getD i true = false) : a[i]? = some false := by
  rw [Array.getD_eq_getD_getElem?] at h
  cases hg : a[i]? with
  | none => rw [hg] at h; simp at h
  | some b => rw [hg] at h; simpa using h
theorem cnt_step {a : Array Bool} {i fuel : Nat} (h : a.getD i true = false) (hf : cnt a.toList ≤ fuel) : ∃ f, fuel = f + 1 ∧ cnt (a.setIfInBounds i true).toList ≤ f := by
  have h1 := getD_true_false h
  have h2 : a.toList[i]? = some false := by rw [Array.getElem?_toList]; exact h1
  have := cnt_set _ _ h2
  refine ⟨fuel - 1, by omega, ?_⟩
  have : (a.setIfInBounds i true).toList = a.toList.set i true := by simp
  rw [this]; omega
theorem allL_spec {listed : Array Bool} {l : Cls} (h : allL listed l = true) {f : Nat} (hf : f ∈ l.map Prod.fst) : listed.getD f false = true := by
  induction l with
  | nil => simp at hf
  | cons x r ih =>
    simp only [allL, Bool.and_eq_true] at h
    rw [List.map_cons] at hf
    rcases List.mem_cons.1 hf with rfl | hf
    · exact h.1
    · exact ih h.2 hf
theorem getD_ff {a : Array Bool} {i : Nat} (h : a.getD i false = true) : a.getD i true = true := by
  rw [Array.getD_eq_getD_getElem?] at *
  cases hg : a[i]? with
  | none => rfl
  | some b => rw [hg] at h; simpa using h

theorem denE_any {n : Nat} {ops : Array Oper} {R : Hp} {K : Fr → Hp → Prop} {Q : Exit → Act → World → Prop} (hs : Region.noSelect ops = true) (fr0 : Fr)
    (hk : ∀ a w fr H, Agree n a fr → Own g H w → OutEq ops.toList fr0 fr → K fr H → Q .normal a w) :
    ∀ (fuel : Nat) (l : Hn) (cl : Cls) (listed : Array Bool) (fr : Fr) (H : Hp), denE P g n ops R K l cl listed fr H → ∀ (E : Early) (la : Array Bool) (fa : Fr), cnt la.toList ≤ fuel → ErOK P n ops cl listed la E fr fa →
      ∀ (a : Act) (w : World), Agree n a fa → Own (g.add (erB E)) H w → ((∃ k ok, ops[k]? = some ok ∧ isRd P ok.op = true ∧ la.getD k true = false) → Own g R w) → OutEq ops.toList fr0 fr →
      AnyS P .any ops (NoPan Q) (Keeps P g R ops) fuel la a w
  | fuel, .e, cl, listed, fr, H, h => by
    intro E la fa hfuel hE a w ha hw hR ho
    unfold denE at h
    cases hr : ((Region.ready .any ops listed).isEmpty && allL listed cl) <;> simp only [hr, cond_true, cond_false] at h
    simp only [Bool.and_eq_true] at hr
    have hr' : Region.ready .any ops listed = [] := by simpa using hr.1
    have hE0 : E = [] := by
      cases E with
      | nil => rfl
      | cons x y =>
        have h1 := hE.mem x (by simp)
        have h2 := getD_ff (allL_spec hr.2 (exOf_key h1.1))
        rw [h1.2] at h2; cases h2
    subst hE0
    have hfa : fa = fr := by funext s; exact hE.out s (by simp)
    subst hfa
    refine AnyS.done (Q := NoPan Q) ?_ (hk a w fa H ha hw ho h) fuel
    rw [List.eq_nil_iff_forall_not_mem] at hr' ⊢
    intro k hk'
    refine hr' k ?_
    rw [mem_ready] at hk' ⊢
    obtain ⟨h1, o, h2, h3⟩ := hk'
    have hla := fun k => hE.la k
    simp only [List.map_nil, List.not_mem_nil, if_false] at hla
    refine ⟨?_, o, h2, fun e he hb => ?_⟩
    · rw [Array.getD_eq_getD_getElem?, ← hla, ← Array.getD_eq_getD_getElem?]; exact h1
    · rw [Array.getD_eq_getD_getElem?, ← hla, ← Array.getD_eq_getD_getElem?]; exact h3 e he hb
  | fuel, .h m L _ pa pb, cl, listed, fr, H, h => by
    intro E la fa hfuel hE a w ha hw hR ho
    have h0 := h
    unfold denE at h
    split at h <;> try exact h.elim
    rename_i i
    split at h <;> try exact h.elim
    rename_i o hoi
    cases h1 : Nat.beq m 1 <;> simp only [h1, cond_true, cond_false] at h
    case true =>
      cases hc : (okDst n o.dst && o.guard.isNone && !isP o.op && !listed.getD i true && apartAll ops o i listed cl && (match exOf cl i with | none => true | some _ => false)) <;> simp only [hc, cond_true, cond_false] at h
      simp only [Bool.and_eq_true, Bool.not_eq_true'] at hc
      obtain ⟨⟨⟨⟨⟨hd, hg⟩, hp⟩, hun⟩, hap⟩, hno⟩ := hc
      have hno' : exOf cl i = none := by
        split at hno
        · assumption
        · cases hno
      obtain ⟨x, hm, hk'⟩ := h.makes
      exact denE_any hs fr0 hk fuel pa _ listed fr H hk' E la fa hfuel (hE.claim hoi hd hg hp hun hap hno' hm) a w ha hw hR ho
    have hmem : o ∈ ops.toList := Array.mem_toList_iff.2 (Array.mem_of_getElem? hoi)
    have hout : ∀ v, OutEq ops.toList fr0 (upd fr o.dst v) := fun v s hs' => by
      rw [upd_ne, ho s hs']
      have : ∀ l : List Oper, o ∈ l → inDsts l s = false → inDsts [({ (default : Oper) with dst := o.dst })] s = false := by
        intro l
        induction l with
        | nil => intro h; simp at h
        | cons x y ih =>
          intro hm hi
          rw [inDsts_cons, Bool.or_eq_false_iff] at hi
          rcases List.mem_cons.1 hm with rfl | hm
          · exact hi.1
          · exact ih hm hi.2
      exact this _ hmem hs'
    cases hc : (okDst n o.dst && apartAll ops o i listed cl && (Region.ready .any ops listed).contains i) <;> simp only [hc, cond_true, cond_false] at h
    simp only [Bool.and_eq_true] at hc
    obtain ⟨⟨hd, hap0⟩, hri0⟩ := hc
    have hri : i ∈ Region.ready .any ops listed := by simpa using hri0
    have hun := (mem_ready.1 hri).1
    have hap : i ∉ E.map Prod.fst → ∀ x ∈ E, ∃ of, ops[x.1]? = some of ∧ of.apart ops o = true := fun hi x hx =>
      apartAll_spec hap0 (exOf_key (hE.mem x hx).1) (fun e => hi (e ▸ List.mem_map_of_mem hx)) (hE.mem x hx).2
    have hsel : ∀ cs b, o.op ≠ .select cs b := fun cs b => Region.noSelect_spec hs i o cs b hoi
    have unla : ∀ j, j ∈ Region.ready .any ops la → j ∉ E.map Prod.fst ∧ listed.getD j true = false := fun j hj => by
      have h1 := getD_true_false (mem_ready.1 hj).1
      have h2 := hE.la j
      by_cases hjE : j ∈ E.map Prod.fst
      · rw [if_pos hjE, h1] at h2; cases h2
      · rw [if_neg hjE, h1] at h2
        exact ⟨hjE, by rw [Array.getD_eq_getD_getElem?, ← h2]; rfl⟩
    -- what those that come up ahead of their turn do
    have early : ∀ f', fuel = f' + 1 → (∀ j, la.getD j true = false → cnt (la.setIfInBounds j true).toList ≤ f') → ∀ j x, j ∈ Region.ready .any ops la → exOf cl j = some x →
        wpOp P ops (NoPan Q) j (fun a' w' => Keeps P g R ops j w w' ∧ AnyS P .any ops (NoPan Q) (Keeps P g R ops) f' (la.setIfInBounds j true) a' w') a w := by
      intro f' hf' hcnt j x hj hjf
      obtain ⟨hjE, hjl⟩ := unla j hj
      obtain ⟨oj, hcl⟩ := hE.cl j x hjf hjl
      have hoj := hcl.op
      have hpj := hcl.notP
      have hgj := hcl.gd
      have hexj : execOp (ev fa) oj = execOp (ev fr) oj := hE.exec (fun y hy => hcl.far y.1 _ (hE.mem y hy).1 (fun e => hjE (e ▸ List.mem_map_of_mem hy)) (hE.mem y hy).2) (fun cs b => Region.noSelect_spec hs j oj cs b hoj)
      unfold wpOp
      simp only [hoj, wanted_none hgj, if_true]
      refine .inl ?_
      unfold Oper.wp
      rw [ha.eval, hexj, hcl.makes w]
      simp only [Oper.upon]
      have hal : ∀ {A : Hp}, Own g A w → Own g A (w.alloc x.1) := fun hA => (hA.alloc x.1).tail
      refine ⟨fun oj' hoj' => ⟨fun hp => ?_, fun _ => ⟨hal (Own.framed.2 hw).right0, fun _ h1 => hal h1⟩⟩, ?_⟩
      · rw [hoj] at hoj'; cases hoj'; rw [hpj] at hp; cases hp
      · have hE' := hE.early (b := w.heap.size) hjf hjE hjl hoj
        refine denE_any hs fr0 hk f' (.h m [i] _ pa pb) cl listed fr H h0 ((j, w.heap.size, x) :: E) _ _ (hcnt j (mem_ready.1 hj).1) hE' _ _ (ha.put hcl.dst _) ?_ ?_ ho
        · have h1 := hw.alloc x.1
          have h2 : Own (g.add (erB E)) (H ++ [(w.heap.size, x.1)]) (w.alloc x.1) := h1.perm (by exact (List.perm_append_comm (l₁ := [(w.heap.size, x.1)]) (l₂ := H)))
          have h3 := Own.framed.1 h2
          exact h3
        · rintro ⟨k, ok, hk1, hk2, hk3⟩
          refine hal (hR ⟨k, ok, hk1, hk2, unlisted_of (mem_ready.1 hj).1 hk3⟩)
    have hwant : ∀ b, wantedD ops fr o = some b → i ∉ E.map Prod.fst → Region.wanted o (yielded ops a.tmps) = b := by
      intro b hb hiE
      unfold wantedD at hb
      unfold Region.wanted
      split at hb
      · rename_i hg; simp only [hg]; simpa using hb
      · rename_i j want hg
        simp only [hg]
        split at hb <;> try (cases hb; done)
        rename_i s hslot
        rw [yielded_of ha hslot]
        have hfs : fa s = fr s := hE.out s fun y hy e => by
          obtain ⟨of, hof, hap⟩ := hap hiE y hy
          obtain ⟨h1, _, _⟩ := Oper.apart_spec hap
          refine h1 s (by simpa [slotOf, hof] using e) ?_
          refine List.mem_append_right _ ?_
          rw [hg]
          unfold slotOf at hslot
          cases hj : ops[j]? with
          | none => rw [hj] at hslot; cases hslot
          | some oj => rw [hj] at hslot; simp only at hslot; simp [hj, hslot]
        rw [hfs]
        split at hb
        · rename_i c hc; rw [hc]; simp only [Option.some.injEq] at hb; subst hb; cases c <;> cases want <;> rfl
        · rename_i c hc; rw [hc]; simp only [Option.some.injEq] at hb; subst hb; cases want <;> rfl
        · cases hb
    split at h <;> try exact h.elim
    · -- not wanted
      rename_i hwd
      cases hch : (Region.free .any ops listed i && (match exOf cl i with | none => true | some _ => false)) <;> simp only [hch, cond_true, cond_false] at h
      simp only [Bool.and_eq_true] at hch
      have hno' : exOf cl i = none := by
        have := hch.2
        split at this
        · assumption
        · cases this
      have hiE : i ∉ E.map Prod.fst := fun hm => by
        obtain ⟨x, hx, e⟩ := List.mem_map.1 hm
        have := (hE.mem x hx).1
        rw [e, hno'] at this; cases this
      have hria := hE.ready hiE hri
      have hunA := (mem_ready.1 hria).1
      obtain ⟨f', rfl, hcnt⟩ := cnt_step hunA hfuel
      have hfree := free_more (l' := la) hch.1 (fun k hk => hE.more hk)
      have hcon : (Region.ready .any ops la).contains i = true := by simpa using hria
      refine AnyS.take (S0 := Own g []) hoi hs hfree hcon (fun _ _ _ h => h) (fun w hw oj hoj => ⟨fun _ => rfl, fun _ => ⟨hw, fun _ h => h⟩⟩) (fun j oj w w' hoj hj hno h0 hk => ?_) (.inr ⟨hwant false hwd hiE, rfl⟩) (Own.framed.2 hw).right0 ?_
      · cases hpj : isP oj.op
        · exact ((hk oj hoj).2 hpj).1
        · rw [(hk oj hoj).1 hpj]; exact h0
      · refine denE_any hs fr0 hk f' pa cl _ _ H h E _ _ hcnt (hE.step hs hoi hiE hap0 _) _ w (ha.put hd _) hw ?_ (hout _)
        rintro ⟨k, ok, hk1, hk2, hk3⟩
        exact hR ⟨k, ok, hk1, hk2, unlisted_of hunA hk3⟩
    rename_i hwd
    have hgw := hwant true hwd
    have hcont : ∀ v f' la' a' w', (cond (Nat.beq m 0) (denE P g n ops R K pa cl (listed.setIfInBounds i true) (upd fr o.dst v) H)
                    (Br v (denE P g n ops R K pa cl (listed.setIfInBounds i true) (upd fr o.dst (.bool true)) H) (denE P g n ops R K pb cl (listed.setIfInBounds i true) (upd fr o.dst (.bool false)) H))) →
        cnt la'.toList ≤ f' → ErOK P n ops cl (listed.setIfInBounds i true) la' E (upd fr o.dst v) (upd fa o.dst v) → Agree n a' (upd fa o.dst v) → Own (g.add (erB E)) H w' →
        ((∃ k ok, ops[k]? = some ok ∧ isRd P ok.op = true ∧ la'.getD k true = false) → Own g R w') → f' < fuel → AnyS P .any ops (NoPan Q) (Keeps P g R ops) f' la' a' w' := by
      intro v f' la' a' w' hv h1 h2 h3 h4 h5 hlt
      cases hm : Nat.beq m 0 <;> simp only [hm, cond_true, cond_false] at hv
      · obtain ⟨b, rfl, hb1, hb2⟩ := hv
        cases b
        · exact denE_any hs fr0 hk f' pb cl _ _ H (hb2 rfl) E la' _ h1 h2 a' w' h3 h4 h5 (hout _)
        · exact denE_any hs fr0 hk f' pa cl _ _ H (hb1 rfl) E la' _ h1 h2 a' w' h3 h4 h5 (hout _)
      · exact denE_any hs fr0 hk f' pa cl _ _ H hv E la' _ h1 h2 a' w' h3 h4 h5 (hout _)
    cases h3 : Nat.beq m 3 <;> simp only [h3, cond_true, cond_false] at h
    case true =>
      cases hch : (isKn o && Region.free .any ops listed i) <;> simp only [hch, cond_true, cond_false] at h
      simp only [Bool.and_eq_true] at hch
      split at h <;> try exact h.elim
      rename_i b hpv
      have hip : isP o.op = true := isKn_isP hch.1
      have hiE : i ∉ E.map Prod.fst := fun hm => by
        obtain ⟨x, hx, e⟩ := List.mem_map.1 hm
        have h2 := hE.mem x hx
        obtain ⟨o', hcl⟩ := hE.cl _ _ h2.1 h2.2
        have h3 := hcl.op
        rw [e, hoi] at h3; cases h3
        have := hcl.notP
        rw [hip] at this; cases this
      have hria := hE.ready hiE hri
      have hunA := (mem_ready.1 hria).1
      obtain ⟨f', rfl, hcnt⟩ := cnt_step hunA hfuel
      have hfree := free_more (l' := la) hch.2 (fun k hk => hE.more hk)
      have hcon : (Region.ready .any ops la).contains i = true := by simpa using hria
      have hself : ∀ w, Keeps P g R ops i w w := fun w oj hoj' => ⟨fun _ => rfl, fun hn => (by rw [hoi] at hoj'; cases hoj'; rw [hip] at hn; cases hn)⟩
      have hexe := hE.exec (hap hiE) hsel
      refine AnyS.take (S0 := Own g []) hoi hs hfree hcon (fun _ _ _ h => h) (fun w _ => hself w) (fun j oj w w' hoj hj hno h0 hk => ?_) (.inl ⟨hgw hiE, fun w' hw' => by rw [ha.eval, hexe]; exact knOf_run hch.1 hpv w'⟩) (Own.framed.2 hw).right0 ?_
      · cases hpj : isP oj.op
        · exact ((hk oj hoj).2 hpj).1
        · rw [(hk oj hoj).1 hpj]; exact h0
      · refine denE_any hs fr0 hk f' pa cl _ _ H h E _ _ hcnt (hE.step hs hoi hiE hap0 _) _ w (ha.put hd _) hw ?_ (hout _)
        rintro ⟨k, ok, hk1, hk2, hk3⟩
        exact hR ⟨k, ok, hk1, hk2, unlisted_of hunA hk3⟩
    cases hip : isP o.op <;> simp only [hip, cond_true, cond_false] at h
    case true =>
      cases hch : (Region.free .any ops listed i) <;> simp only [hch, cond_true, cond_false] at h
      have hiE : i ∉ E.map Prod.fst := fun hm => by
        obtain ⟨x, hx, e⟩ := List.mem_map.1 hm
        have h2 := hE.mem x hx
        obtain ⟨o', hcl⟩ := hE.cl _ _ h2.1 h2.2
        have h3 := hcl.op
        rw [e, hoi] at h3; cases h3
        have := hcl.notP
        rw [hip] at this; cases this
      have hria := hE.ready hiE hri
      have hunA := (mem_ready.1 hria).1
      obtain ⟨f', rfl, hcnt⟩ := cnt_step hunA hfuel
      have hfree := free_more (l' := la) hch (fun k hk => hE.more hk)
      have hcon : (Region.ready .any ops la).contains i = true := by simpa using hria
      have hself : ∀ w, Keeps P g R ops i w w := fun w oj hoj' => ⟨fun _ => rfl, fun hn => (by rw [hoi] at hoj'; cases hoj'; rw [hip] at hn; cases hn)⟩
      have hst := fun v => hE.step hs hoi hiE hap0 v
      have hexe := hE.exec (hap hiE) hsel
      cases hn : isN P o.op
      case true =>
        rw [opP_free hn (ev fr) R []] at h
        obtain ⟨v, hk', hr⟩ := opP_reads h
        refine AnyS.take (S0 := Own g []) hoi hs hfree hcon (fun _ _ _ h => h) (fun w _ => hself w) (fun j oj w w' hoj hj hno h0 hk => ?_) (.inl ⟨hgw hiE, fun w' hw' => by rw [ha.eval, hexe]; exact hr w' hw'⟩) (Own.framed.2 hw).right0 ?_
        · cases hpj : isP oj.op
          · exact ((hk oj hoj).2 hpj).1
          · rw [(hk oj hoj).1 hpj]; exact h0
        · refine hcont v f' _ _ w hk' hcnt (hst v) (ha.put hd v) hw ?_ (by omega)
          rintro ⟨k, ok, hk1, hk2, hk3⟩
          exact hR ⟨k, ok, hk1, hk2, unlisted_of hunA hk3⟩
      case false =>
        obtain ⟨v, hk', hr⟩ := opP_reads h
        have hrd : isRd P o.op = true := by simp [isRd, hip, hn]
        have hR' : Own g R w := hR ⟨i, o, hoi, hrd, hunA⟩
        refine AnyS.take (S0 := Own g R) hoi hs hfree hcon (fun _ _ _ h => h) (fun w _ => hself w) (fun j oj w w' hoj hj hno h0 hk => ?_) (.inl ⟨hgw hiE, fun w' hw' => by rw [ha.eval, hexe]; exact hr w' hw'⟩) hR' ?_
        · cases hpj : isP oj.op
          · exact ((hk oj hoj).2 hpj).2 (needS_spec hoi hrd hj hno) h0
          · rw [(hk oj hoj).1 hpj]; exact h0
        · exact hcont v f' _ _ w hk' hcnt (hst v) (ha.put hd v) hw (fun _ => hR') (by omega)
    case false =>
      cases hch : (Region.ready .any ops (marks cl i listed) == [i]) <;> simp only [hch, cond_true, cond_false] at h
      have hrd := beq_iff_eq.1 hch
      by_cases hiE : i ∈ E.map Prod.fst
      · obtain ⟨⟨i', b, x⟩, hx, e⟩ := List.mem_map.1 hiE
        simp only at e; subst e
        have hex : exOf cl i' = some x := (hE.mem _ hx).1
        simp only [hex] at h
        obtain ⟨E1, E2, rfl⟩ := List.append_of_mem hx
        have hw1 : Own (g.add (erB (E1 ++ E2))) ((b, x.1) :: H) w := by
          have h1 := (Own.framed.2 hw).perm ((List.Perm.append_left H (erB_split (E1 := E1) (E2 := E2) (y := (i', b, x)))).trans List.perm_middle)
          exact (Own.framed (A := (b, x.1) :: H)).1 h1
        have hb : b ∉ H.map Prod.fst := by
          have := hw1.nd
          rw [List.cons_append, List.map_cons, List.nodup_cons, List.map_append, List.mem_append] at this
          exact fun h => this.1 (.inl h)
        exact denE_any hs fr0 hk fuel pa cl _ _ _ (h b hb) (E1 ++ E2) la fa hfuel (hE.turn hs hoi hap0) a w ha hw1 hR (hout _)
      · have hria := hE.ready hiE hri
        have hunA := (mem_ready.1 hria).1
        obtain ⟨f', rfl, hcnt⟩ := cnt_step hunA hfuel
        have hcntA : ∀ j, la.getD j true = false → cnt (la.setIfInBounds j true).toList ≤ f' := fun j hj => by
          obtain ⟨f2, h1, h2⟩ := cnt_step hj hfuel
          have : f2 = f' := by omega
          subst this; exact h2
        have hst := fun v => hE.step hs hoi hiE hap0 v
        have hexe := hE.exec (hap hiE) hsel
        refine AnyS.all rfl (fun e => by rw [e] at hria; simp at hria) fun j hj => ?_
        by_cases hji : j = i
        · subst hji
          have notP : ∀ oj, ops[j]? = some oj → isP oj.op = true → False := fun oj hoj hp => by rw [hoi] at hoj; cases hoj; rw [hip] at hp; cases hp
          unfold wpOp
          simp only [hoi, hgw hiE, if_true]
          refine .inl ?_
          unfold Oper.wp
          rw [ha.eval, hexe]
          cases hex : exOf cl j with
          | none =>
            simp only [hex] at h
            have h := h (erB E)
            refine (opE_op (ev_func fr) h w hw).upon (fun v H' w' ho' hb => ?_) (fun ch H' w' _ h0 => h0.elim)
            obtain ⟨he, hk'⟩ := hb.of
            have hRof : needS P ops j = true → Own g R w' := fun hn => (Own.framed.2 (he hn _ _ ho')).left
            refine ⟨fun oj hoj' => ⟨fun hp => (notP oj hoj' hp).elim, fun _ => ⟨(Own.framed.2 ho').right0, fun hn _ => hRof hn⟩⟩, denE_any hs fr0 hk f' pa cl _ _ H' hk' E _ _ hcnt (hst v) _ w' (ha.put hd v) ho' ?_ (hout v)⟩
            rintro ⟨k, ok, hk1, hk2, hk3⟩
            refine hRof ?_
            have hki : j ≠ k := fun e => by
              subst e
              have h1 := getD_true_false hunA
              have hlt := (Array.getElem?_eq_some_iff.1 h1).1
              rw [Array.getD_eq_getD_getElem?, Array.getElem?_setIfInBounds_self_of_lt hlt] at hk3
              cases hk3
            rw [getD_set_ne true hki] at hk3
            refine needS_spec hk1 hk2 hki fun oj hj e he' hb' heq => ?_
            obtain ⟨_, o2, ho2, hall⟩ := mem_ready.1 hria
            rw [hj] at ho2; cases ho2
            have h1 := hall e he' hb'
            rw [heq] at h1
            rw [getD_ff h1] at hk3; cases hk3
          | some x =>
            simp only [hex] at h
            obtain ⟨oj, hcl⟩ := hE.cl j x hex hun
            have hoj := hcl.op
            rw [hoi] at hoj; cases hoj
            rw [hcl.makes w]
            simp only [Oper.upon]
            have hal : ∀ {A : Hp}, Own g A w → Own g A (w.alloc x.1) := fun hA => (hA.alloc x.1).tail
            refine ⟨fun oj hoj' => ⟨fun hp => (notP oj hoj' hp).elim, fun _ => ⟨hal (Own.framed.2 hw).right0, fun _ h1 => hal h1⟩⟩, ?_⟩
            refine denE_any hs fr0 hk f' pa cl _ _ _ (h _ hw.fresh) E _ _ hcnt (hst _) _ _ (ha.put hd _) (hw.alloc x.1) ?_ (hout _)
            rintro ⟨k, ok, hk1, hk2, hk3⟩
            exact hal (hR ⟨k, ok, hk1, hk2, unlisted_of hunA hk3⟩)
        · obtain ⟨hjE, hjl⟩ := unla j hj
          cases hjf0 : exOf cl j with
          | some x => exact early f' rfl hcntA j x hj hjf0
          | none =>
          refine absurd ?_ hji
          have hjf : j ∉ cl.map Prod.fst := fun hm => by
            obtain ⟨x, hx⟩ := exOf_some hm
            rw [hjf0] at hx; cases hx
          have hjm : j ∈ Region.ready .any ops (marks cl i listed) := by
            obtain ⟨_, oj, hoj, hall⟩ := mem_ready.1 hj
            rw [mem_ready]
            refine ⟨?_, oj, hoj, fun e he hb => ?_⟩
            · rw [Array.getD_eq_getD_getElem?, marks_get, if_neg (fun h => hjf h.1), ← Array.getD_eq_getD_getElem?]; exact hjl
            · have h1 := hall e he hb
              have h2 := hE.la e.on
              rw [Array.getD_eq_getD_getElem?] at h1 ⊢
              rw [marks_get]
              by_cases hm : e.on ∈ E.map Prod.fst
              · obtain ⟨x, hx, e2⟩ := List.mem_map.1 hm
                have hlx := getD_true_false (hE.mem x hx).2
                rw [e2] at hlx
                have hlt := (Array.getElem?_eq_some_iff.1 hlx).1
                rw [if_pos ⟨e2 ▸ exOf_key (hE.mem x hx).1, fun e3 => hiE (e3 ▸ hm), hlt⟩]; rfl
              · rw [if_neg hm] at h2
                split
                · rfl
                · rw [← h2]; exact h1
          rw [hrd] at hjm
          simpa using hjm
  termination_by fuel l => (fuel, SizeOf.sizeOf l)

def inC : Code → Nat → Bool
  | .region _ ops _, s => inDsts ops.toList s
  | .seq a b, s => inC a s || inC b s
  | .cond _ a b, s => inC a s || inC b s
  | .block _ c, s => inC c s
  | .loop c, s => inC c s
  | .skip, _ => false
  | .ret, _ => false
  | .exit _, _ => false
  | _, _ => true
def noW (c : Code) : List Nat → Bool
  | [] => true
  | s :: r => !inC c s && noW c r
def elemB (s : Nat) : List Nat → Bool
  | [] => false
  | x :: r => Nat.beq s x || elemB s r
def mixL : List Nat → List Value → Fr → Fr
  | l :: L, v :: vs, base => fun s => cond (Nat.beq s l) v (mixL L vs base s)
  | _, _, base => base
def mix (L : List Nat) (vs : List Value) (I : List Nat) (fr gs : Fr) : Fr := mixL L vs fun s => cond (elemB s I) (fr s) (gs s)
def frs (fr : Fr) : List Nat → List Value
  | [] => []
  | s :: r => fr s :: frs fr r
def AllV : Nat → (List Value → Prop) → Prop
  | 0, p => p []
  | n + 1, p => ∀ v, AllV n fun vs => p (v :: vs)
theorem AllV.intro {p : List Value → Prop} (h : ∀ vs, p vs) : ∀ n, AllV n p
  | 0 => h _
  | n + 1 => fun v => AllV.intro (fun vs => h (v :: vs)) n
theorem AllV.elim {p : List Value → Prop} : ∀ {n : Nat}, AllV n p → ∀ vs : List Value, vs.length = n → p vs
  | 0, h, vs, e => by cases vs with | nil => exact h | cons x y => simp at e
  | n + 1, h, vs, e => by
    cases vs with
    | nil => simp at e
    | cons x y => exact AllV.elim (h x) y (by simpa using e)
theorem frs_length (fr : Fr) (L : List Nat) : (frs fr L).length = L.length := by induction L <;> simp [frs, *]
theorem mix_self {L I : List Nat} {fr fr' : Fr} (h : ∀ s, elemB s I = true → fr' s = fr s) : mix L (frs fr' L) I fr fr' = fr' := by
  funext s
  unfold mix
  induction L with
  | nil =>
    simp only [frs, mixL]
    cases he : elemB s I
    · rfl
    · exact (h s he).symm
  | cons l L ih =>
    simp only [frs, mixL]
    cases hb : Nat.beq s l
    · exact ih
    · have := Nat.eq_of_beq_eq_true hb; subst this; rfl
theorem noW_spec {c : Code} {I : List Nat} (h : noW c I = true) : ∀ s, elemB s I = true → inC c s = false := by
  induction I with
  | nil => intro s hs; simp [elemB] at hs
  | cons x r ih =>
    intro s hs
    simp only [noW, Bool.and_eq_true, Bool.not_eq_true'] at h
    simp only [elemB, Bool.or_eq_true] at hs
    rcases hs with hs | hs
    · rw [Nat.eq_of_beq_eq_true hs]; exact h.1
    · exact ih h.2 s hs

def thenD (next : Fr → Hp → Prop) (Q : Exit → Fr → Hp → Prop) : Exit → Fr → Hp → Prop
  | .normal, fr, H => next fr H
  | e, fr, H => Q e fr H
def blockD (id : Nat) (Q : Exit → Fr → Hp → Prop) : Exit → Fr → Hp → Prop
  | .exit id', fr, H => cond (Nat.beq id' id) (Q .normal fr H) (Q (.exit id') fr H)
  | e, fr, H => Q e fr H
/-- J, of a piece that this piece gives -/
def JE (J : List Value → Hp → Prop) (vs : List Value) (H : Hp) : Prop := ∃ H', Ent H H' ∧ J vs H'
/-- back at a loop's head, nearer to its end -/
def Back (I : List Value → Hp → Prop) (m : List Value → Hp → Nat) (vs' : List Value) (H' : Hp) (vs : List Value) (H : Hp) : Prop := ∃ H'', Ent H' H'' ∧ I vs' H'' ∧ m vs' H'' < m vs H
/-- a loop: I holds at each round's head of the slots that it carries and the heap; m falls -/
def Loop (L : List Nat) (vs : List Value) (H : Hp) (body : (List Value → Hp → Prop) → List Value → Hp → Prop) : Prop :=
  ∃ (I : List Value → Hp → Prop) (m : List Value → Hp → Nat), JE I vs H ∧ AllV L.length fun vs => ∀ H', I vs H' → body (fun vs' H'' => Back I m vs' H'' vs H') vs H'
def Join (k : Nat) (rest : List Value → Hp → Prop) (body : (List Value → Hp → Prop) → Prop) : Prop :=
  ∀ J : List Value → Hp → Prop, (AllV k fun vs => ∀ H, rest vs H → J vs H) → body J
def DR (H : Hp) (body : Hp → Prop) : Prop := ∃ R, Ent H R ∧ body R

def den (P : Program) (g : Gh) (n : Nat) : Code → Hn → (Exit → Fr → Hp → Prop) → Fr → Hp → Prop
  | .skip, _, Q, fr, H => Q .normal fr H
  | .ret, _, Q, fr, H => Q .ret fr H
  | .exit id, _, Q, fr, H => Q (.exit id) fr H
  | .seq x y, hn, Q, fr, H =>
    match hn.m with
    | 0 => den P g n x hn.a (thenD (den P g n y hn.b Q) Q) fr H
    | _ => cond (noW x hn.I)
        (Join hn.L.length (fun vs H' => ∀ gs, den P g n y hn.b Q (mix hn.L vs hn.I fr gs) H') fun J => den P g n x hn.a (thenD (fun fr' H' => JE J (frs fr' hn.L) H') Q) fr H) False
  | .cond c x y, hn, Q, fr, H => Br (ev fr c) (den P g n x hn.a Q fr H) (den P g n y hn.b Q fr H)
  | .block id c, hn, Q, fr, H => den P g n c hn.a (blockD id Q) fr H
  | .loop c, hn, Q, fr, H =>
    cond (noW c hn.I)
      (Loop hn.L (frs fr hn.L) H fun J vs H' => ∀ gs, den P g n c hn.a (thenD (fun fr' H'' => J (frs fr' hn.L) H'') Q) (mix hn.L vs hn.I fr gs) H') False
  | .region id ops draw, hn, Q, fr, H =>
    cond draw
      (match hn.m with
      | 0 => match hn.L with
       | [] => cond (P.follows .mixedOrders && Region.lexB .any ops) (denOps P g n ops true (ops.toList.length + 1) true none [] ops.toList fr H (fun _ fr' H' => Q .normal fr' H') (fun _ _ => False)) False
       | l => cond (P.follows .mixedOrders && Region.noSelect ops && Nat.ble l.length ops.size)
          (DR H fun R => denD P g n ops R (fun fr' H' => Q .normal fr' H') l (Array.replicate ops.size false) fr H) False
      | _ => cond (P.follows .mixedOrders && Region.noSelect ops)
          (DR H fun R => denE P g n ops R (fun fr' H' => Q .normal fr' H') hn.a [] (Array.replicate ops.size false) fr H) False)
      (denOps P g n ops (match hn.I with | [] => false | _ => true) (ops.toList.length + 1) false none [] ops.toList fr H (fun _ fr' H' => Q .normal fr' H') (fun ch H' => ∀ fr', Q (.panic ch) fr' H'))
  | _, _, _, _, _ => False

theorem wp_loop_rel {c : Code} {Q : Exit → Act → World → Prop} {a : Act} {w : World} (R : Act → World → Nat → Prop) (h₀ : ∃ m, R a w m)
    (round : ∀ a w m, R a w m → c.wp P (Exit.then (fun a' w' => ∃ m', m' < m ∧ R a' w' m') Q) a w) : (Code.loop c).wp P Q a w := by
  intro b k cs
  have key : ∀ n a w, R a w n →
      ∃ e a' w', Q e a' w' ∧ Arrives P (lone (b.at a (.code c :: .inLoop c :: k)) cs w) b k cs e a' w' := by
    intro n
    induction n using Nat.strongRecOn with
    | _ n ih =>
      intro a w hI
      obtain ⟨e, a₁, w₁, hq, harr⟩ := round a w n hI b (.inLoop c :: k) cs
      cases e with
      | normal =>
        obtain ⟨m', hlt, hI₁⟩ := hq
        obtain ⟨e₂, a₂, w₂, hq₂, harr₂⟩ := ih m' hlt a₁ w₁ hI₁
        exact ⟨e₂, a₂, w₂, hq₂, .of_steps (Steps.trans harr (.one step_inLoop)) harr₂⟩
      | exit id => exact ⟨_, a₁, w₁, hq, .pass (x := .inLoop c) rfl (fun _ _ => .inl (by simp)) harr⟩
      | goto l => exact ⟨_, a₁, w₁, hq, .pass (x := .inLoop c) rfl (fun _ _ => .inl (by simp)) harr⟩
      | ret => exact ⟨_, a₁, w₁, hq, .pass (x := .inLoop c) rfl (fun _ _ => .inl (by simp)) harr⟩
      | panic ch => exact ⟨_, a₁, w₁, hq, .pass (x := .inLoop c) rfl (fun _ _ => .inl (by simp)) harr⟩
      | outgrown => exact ⟨_, a₁, w₁, hq, .pass (x := .inLoop c) rfl (fun _ _ => .inl (by simp)) harr⟩
  obtain ⟨m, h₀⟩ := h₀
  obtain ⟨e, a', w', hq, harr⟩ := key m a w h₀
  exact ⟨e, a', w', hq, .of_steps (.one step_loop) harr⟩

def isPan : Exit → Bool
  | .panic _ => true
  | _ => false

theorem den_sound {n : Nat} : ∀ (c : Code) (hn : Hn) (Q : Exit → Fr → Hp → Prop) (fr : Fr) (H : Hp), den P g n c hn Q fr H → ∀ (a : Act) (w : World), Agree n a fr → Own g H w → c.wp P (fun e a' w' => ∃ fr' H', Agree n a' fr' ∧ Own g H' w' ∧ (isPan e = false → ∀ s, inC c s = false → fr' s = fr s) ∧ Q e fr' H') a w := by
  intro c
  induction c with
  | skip => intro hn Q fr H h a w ha hw; exact wp_skip ⟨fr, H, ha, hw, fun _ _ _ => rfl, h⟩
  | ret => intro hn Q fr H h a w ha hw; exact wp_ret ⟨fr, H, ha, hw, fun _ _ _ => rfl, h⟩
  | exit id => intro hn Q fr H h a w ha hw; exact wp_exit ⟨fr, H, ha, hw, fun _ _ _ => rfl, h⟩
  | seq x y ihx ihy =>
    intro hn Q fr H h a w ha hw
    unfold den at h
    have out2 : ∀ {fr1 fr2 : Fr}, (∀ s, inC x s = false → fr1 s = fr s) → (∀ s, inC y s = false → fr2 s = fr1 s) → ∀ s, inC (.seq x y) s = false → fr2 s = fr s := fun h1 h2 s hs => by
      simp only [inC, Bool.or_eq_false_iff] at hs
      rw [h2 s hs.2, h1 s hs.1]
    have out1 : ∀ {fr1 : Fr}, (∀ s, inC x s = false → fr1 s = fr s) → ∀ s, inC (.seq x y) s = false → fr1 s = fr s := fun h1 s hs => by
      simp only [inC, Bool.or_eq_false_iff] at hs
      exact h1 s hs.1
    split at h
    · refine wp_seq (wp_mono (ihx _ _ fr H h a w ha hw) ?_)
      rintro e a' w' ⟨fr', H', ha', hw', ho, hq⟩
      cases e with
      | normal => exact wp_mono (ihy _ _ fr' H' hq a' w' ha' hw') fun e2 a2 w2 ⟨fr2, H2, g1, g2, g3, g4⟩ => ⟨fr2, H2, g1, g2, fun hp => out2 (ho rfl) (g3 hp), g4⟩
      | exit id => exact ⟨fr', H', ha', hw', fun hp => out1 (ho hp), hq⟩
      | goto l => exact ⟨fr', H', ha', hw', fun hp => out1 (ho hp), hq⟩
      | ret => exact ⟨fr', H', ha', hw', fun hp => out1 (ho hp), hq⟩
      | panic ch => exact ⟨fr', H', ha', hw', fun hp => out1 (ho hp), hq⟩
      | outgrown => exact ⟨fr', H', ha', hw', fun hp => out1 (ho hp), hq⟩
    · cases hno : noW x hn.I <;> simp only [hno, cond_true, cond_false] at h
      have h' := h (fun vs H' => ∀ gs, den P g n y hn.b Q (mix hn.L vs hn.I fr gs) H') (AllV.intro (fun vs H' hh => hh) _)
      refine wp_seq (wp_mono (ihx _ _ fr H h' a w ha hw) ?_)
      rintro e a' w' ⟨fr', H', ha', hw', ho, hq⟩
      cases e with
      | normal =>
        obtain ⟨Hj, hent, hq⟩ := hq
        have hq' : den P g n y hn.b Q fr' Hj := by
          have := hq fr'
          rwa [mix_self fun s hs => ho rfl s (noW_spec hno s hs)] at this
        exact wp_mono (ihy _ _ fr' Hj hq' a' w' ha' (hent _ _ hw')) fun e2 a2 w2 ⟨fr2, H2, g1, g2, g3, g4⟩ => ⟨fr2, H2, g1, g2, fun hp => out2 (ho rfl) (g3 hp), g4⟩
      | exit id => exact ⟨fr', H', ha', hw', fun hp => out1 (ho hp), hq⟩
      | goto l => exact ⟨fr', H', ha', hw', fun hp => out1 (ho hp), hq⟩
      | ret => exact ⟨fr', H', ha', hw', fun hp => out1 (ho hp), hq⟩
      | panic ch => exact ⟨fr', H', ha', hw', fun hp => out1 (ho hp), hq⟩
      | outgrown => exact ⟨fr', H', ha', hw', fun hp => out1 (ho hp), hq⟩
  | cond c x y ihx ihy =>
    intro hn Q fr H h a w ha hw
    obtain ⟨b, hb, ht, hf⟩ := h
    refine wp_cond_split (t := b) (by rw [ha.eval]; exact hb) (fun e => ?_) (fun e => ?_)
    · exact wp_mono (ihx _ _ fr H (ht e) a w ha hw) fun e2 a2 w2 ⟨fr2, H2, g1, g2, g3, g4⟩ => ⟨fr2, H2, g1, g2, fun hp s hs => g3 hp s (by simp only [inC, Bool.or_eq_false_iff] at hs; exact hs.1), g4⟩
    · exact wp_mono (ihy _ _ fr H (hf e) a w ha hw) fun e2 a2 w2 ⟨fr2, H2, g1, g2, g3, g4⟩ => ⟨fr2, H2, g1, g2, fun hp s hs => g3 hp s (by simp only [inC, Bool.or_eq_false_iff] at hs; exact hs.2), g4⟩
  | block id c ih =>
    intro hn Q fr H h a w ha hw
    refine wp_block (wp_mono (ih _ _ fr H h a w ha hw) ?_)
    rintro e a' w' ⟨fr', H', ha', hw', ho, hq⟩
    cases e with
    | exit id' =>
      simp only [blockD] at hq
      cases hb : Nat.beq id' id <;> simp only [hb, cond_true, cond_false] at hq
      · have : id' ≠ id := fun e => by subst e; simp at hb
        simp only [Exit.inBlock, this, if_false]
        exact ⟨fr', H', ha', hw', ho, hq⟩
      · have := Nat.eq_of_beq_eq_true hb
        simp only [Exit.inBlock, this, if_true]
        exact ⟨fr', H', ha', hw', ho, hq⟩
    | normal => exact ⟨fr', H', ha', hw', ho, hq⟩
    | goto l => exact ⟨fr', H', ha', hw', ho, hq⟩
    | ret => exact ⟨fr', H', ha', hw', ho, hq⟩
    | panic ch => exact ⟨fr', H', ha', hw', ho, hq⟩
    | outgrown => exact ⟨fr', H', ha', hw', ho, hq⟩
  | loop c ih =>
    intro hn Q fr H h a w ha hw
    unfold den at h
    cases hno : noW c hn.I <;> simp only [hno, cond_true, cond_false] at h
    obtain ⟨I, m, ⟨H0, hent0, h0⟩, hr⟩ := h
    refine wp_loop_rel (fun a w k => ∃ fr' H', Agree n a fr' ∧ Own g H' w ∧ (∀ s, inC c s = false → fr' s = fr s) ∧ I (frs fr' hn.L) H' ∧ m (frs fr' hn.L) H' = k) ⟨_, fr, H0, ha, hent0 _ _ hw, fun _ _ => rfl, h0, rfl⟩ ?_
    rintro a w k ⟨fr1, H1, ha1, hw1, ho1, hI, rfl⟩
    have hb := hr.elim (frs fr1 hn.L) (frs_length _ _) H1 hI fr1
    rw [mix_self fun s hs => ho1 s (noW_spec hno s hs)] at hb
    refine wp_mono (ih _ _ fr1 H1 hb a w ha1 hw1) ?_
    rintro e a' w' ⟨fr', H', ha', hw', ho, hq⟩
    have ho' : isPan e = false → ∀ s, inC c s = false → fr' s = fr s := fun hp s hs => (ho hp s hs).trans (ho1 s hs)
    cases e with
    | normal => obtain ⟨Hj, hent, hq1, hq2⟩ := hq; exact ⟨_, hq2, fr', Hj, ha', hent _ _ hw', ho' rfl, hq1, rfl⟩
    | exit id => exact ⟨fr', H', ha', hw', ho', hq⟩
    | goto l => exact ⟨fr', H', ha', hw', ho', hq⟩
    | ret => exact ⟨fr', H', ha', hw', ho', hq⟩
    | panic ch => exact ⟨fr', H', ha', hw', ho', hq⟩
    | outgrown => exact ⟨fr', H', ha', hw', ho', hq⟩
  | region id ops draw =>
    intro hn Q fr H h a w ha hw
    unfold den at h
    cases draw <;> simp only [cond_true, cond_false] at h
    case false =>
      refine wp_region_list ?_
      have := denOps_seq _ _ _ _ _ fr H _ _ h trivial (KnOK.nil fr) a w ha hw [] (fun e a' w' => ∃ fr' H', Agree n a' fr' ∧ Own g H' w' ∧ (isPan e = false → ∀ s, inC (.region id ops false) s = false → fr' s = fr s) ∧ Q e fr' H') ?_ ?_
      · simpa using this
      · intro a' w' kn' fr' H' h1 h2 h3 _ h4
        exact ⟨fr', H', h1, h2, fun _ => h3, h4⟩
      · intro ch a' w' fr' H' h1 h2 h3
        exact ⟨fr', H', h1, h2, fun hp => by simp [isPan] at hp, h3 fr'⟩
    case true =>
      split at h
      · split at h
        · cases hc : (P.follows .mixedOrders && Region.lexB .any ops) <;> simp only [hc, cond_true, cond_false] at h
          simp only [Bool.and_eq_true] at hc
          refine wp_region_quiet (C := Own g H) hc.1 hc.2 hw.drew' ?_
          have := denOps_quiet _ none _ ops.toList fr H _ _ h trivial (KnOK.nil fr) a ha [] (fun a' => ∀ w', Own g H w' → ∃ fr' H', Agree n a' fr' ∧ Own g H' w' ∧ (isPan .normal = false → ∀ s, inC (.region id ops true) s = false → fr' s = fr s) ∧ Q .normal fr' H') ?_
          · simpa using this
          · intro a' kn' fr' h1 h3 _ h4
            exact fun w' hw' => ⟨fr', H, h1, hw', fun _ => h3, h4⟩
        · cases hc : (P.follows .mixedOrders && Region.noSelect ops && Nat.ble hn.L.length ops.size) <;> simp only [hc, cond_true, cond_false] at h
          simp only [Bool.and_eq_true] at hc
          obtain ⟨R, hR, h⟩ := h
          refine wp_mono (Q := NoPan fun e a' w' => ∃ fr' H', Agree n a' fr' ∧ Own g H' w' ∧ (isPan e = false → ∀ s, inC (.region id ops true) s = false → fr' s = fr s) ∧ Q e fr' H') ?_ ?_
          · refine wp_region_any hc.1.1 (AnyS.any (S := Keeps P g R ops) ?_)
            exact denD_any hc.1.2 fr (fun a w fr' H' h1 h2 h3 h4 => ⟨fr', H', h1, h2, fun _ => h3, h4⟩) _ _ fr H h _ (Nat.le_of_ble_eq_true hc.2) _ _ ha hw.drew' (fun _ => (hR _ _ hw).drew') (OutEq.refl _ _)
          · intro e a w h
            cases e <;> first | exact h | exact h.elim
      · cases hc : (P.follows .mixedOrders && Region.noSelect ops) <;> simp only [hc, cond_true, cond_false] at h
        simp only [Bool.and_eq_true] at hc
        obtain ⟨R, hR, h⟩ := h
        refine wp_mono (Q := NoPan fun e a' w' => ∃ fr' H', Agree n a' fr' ∧ Own g H' w' ∧ (isPan e = false → ∀ s, inC (.region id ops true) s = false → fr' s = fr s) ∧ Q e fr' H') ?_ ?_
        · refine wp_region_any hc.1 (AnyS.any (S := Keeps P g R ops) ?_)
          refine denE_any hc.2 fr (fun a w fr' H' h1 h2 h3 h4 => ⟨fr', H', h1, h2, fun _ => h3, h4⟩) _ _ [] _ fr H h [] _ fr (by rw [Array.toList_replicate, cnt_replicate]; exact Nat.le_refl _) ⟨by simp, by simp, by simp, fun _ _ => rfl, by simp, fun j x hx => by simp [exOf] at hx⟩ _ _ ha hw.drew' (fun _ => (hR _ _ hw).drew') (OutEq.refl _ _)
        · intro e a w h
          cases e <;> first | exact h | exact h.elim
  | label l => intro hn Q fr H h; exact h.elim
  | goto l => intro hn Q fr H h; exact h.elim
  | scope c _ => intro hn Q fr H h; exact h.elim
  | refuse s => intro hn Q fr H h; exact h.elim
  | rangeFunc f ps as b _ _ => intro hn Q fr H h; exact h.elim

/-! words of the listings -/
def PanR (R : Ending → Hp → Prop) : List PanicEntry → Hp → Prop := fun ch H => ∀ _ : Fr, R (.panicked ch) H
def NoKP : List PanicEntry → Hp → Prop := fun _ _ => False
/-- operation i of region id of a function's text -/
def regAt : Code → Nat → Option (Array Oper)
  | .region id ops _, k => cond (Nat.beq id k) (some ops) none
  | .seq a b, k => match regAt a k with | some x => some x | none => regAt b k
  | .cond _ a b, k => match regAt a k with | some x => some x | none => regAt b k
  | .block _ c, k => regAt c k
  | .loop c, k => regAt c k
  | _, _ => none
def opAt (f : Func) (r i : Nat) : Oper := match f.body with | some c => (match regAt c r with | some ops => (match ops[i]? with | some o => o | none => default) | none => default) | none => default

/-! a call -/
def initFr : List Value → Nat → Fr
  | [], _ => fun _ => undef
  | v :: r, i => fun s => cond (Nat.beq s i) v (initFr r (i + 1) s)
def resL (P : Program) (fr : Fr) (H : Hp) : List ResultVar → (List Value → Prop) → Prop
  | [], k => k []
  | .tmp t :: r, k => resL P fr H r fun vs => k (fr t :: vs)
  | .cell a t :: r, k => match P.underlying t, sizeD P t with
    | some d, some n => cond (isAggD d) (LdA n H (fr a) fun v => resL P fr H r fun vs => k (v :: vs)) (Ld H (fr a) fun v => resL P fr H r fun vs => k (v :: vs))
    | _, _ => False
def tupV : List Value → Value
  | [v] => v
  | vs => .tuple vs.toArray
def endQ (P : Program) (fn : Func) (R : Ending → Hp → Prop) : Exit → Fr → Hp → Prop
  | .normal, fr, H => resL P fr H fn.results.toList fun vs => R (.returned (tupV vs)) H
  | .ret, fr, H => resL P fr H fn.results.toList fun vs => R (.returned (tupV vs)) H
  | .panic ch, _, H => R (.panicked ch) H
  | _, _, _ => False
def denF (P : Program) (g : Gh) (fn : Func) (hn : Hn) (args : List Value) (H : Hp) (R : Ending → Hp → Prop) : Prop :=
  match fn.body with
  | some c => cond (Nat.ble args.length fn.ntmps) (den P g fn.ntmps c hn (endQ P fn R) (initFr args 0) H) False
  | none => False

theorem initFr_get : ∀ (l : List Value) (i s : Nat), initFr l i s = if s < i then undef else l.getD (s - i) undef
  | [], i, s => by simp [initFr]
  | v :: r, i, s => by
    simp only [initFr, initFr_get r (i + 1) s]
    cases hb : Nat.beq s i
    · have hne : s ≠ i := fun e => by subst e; simp at hb
      simp only [cond_false]
      by_cases h : s < i
      · rw [if_pos (by omega), if_pos h]
      · rw [if_neg (by omega), if_neg h, show s - i = (s - (i + 1)) + 1 by omega]
        simp [List.getD]
    · have := Nat.eq_of_beq_eq_true hb; subst this
      simp [List.getD]

def resF (fr : Fr) : ResultVar → Sem Value
  | .tmp t => pure (fr t)
  | .cell b t => do loadVar t (← asAddr (fr b))
theorem loadVar_run {fr : Fr} {H : Hp} {w : World} (hw : Own g H w) {b : Tmp} {t : TypeId} {v : Value} {p : Addr} (hp : fr b = .pointer (some p)) (h : (Instr.loadAt t (fr b)).run P w = .ok v w) : (resF fr (.cell b t)).run P w = .ok v w := by
  rw [hp] at h
  simp only [resF, hp, asAddr]
  simpa [Instr.loadAt, Instr.sureAddr] using h
theorem resL_run {fr : Fr} {H : Hp} {w : World} (hw : Own g H w) : ∀ (l : List ResultVar) (k : List Value → Prop), resL P fr H l k →
    ∃ vs, (l.mapM (resF fr)).run P w = .ok vs w ∧ k vs
  | [], k, h => ⟨[], by simp, h⟩
  | .tmp t :: r, k, h => by
    obtain ⟨vs, hr, hk⟩ := resL_run hw r _ h
    refine ⟨fr t :: vs, ?_, hk⟩
    simp only [List.mapM_cons, Sem.run_bind, Sem.run_pure, Result.andThen_ok, hr, resF]
  | .cell b t :: r, k, h => by
    unfold resL at h
    split at h <;> try exact h.elim
    rename_i d m hd hm
    obtain ⟨i, hi, him⟩ := sizeD_spec hm
    cases hag : isAggD d <;> simp only [hag, cond_true, cond_false] at h
    · obtain ⟨v, hk', hf⟩ := h.fix
      obtain ⟨v2, hr2, e⟩ := hf.run (P := P) hw hd hag
      subst e
      obtain ⟨bb, off, c, T, fz, u, hp, _⟩ := hf
      obtain ⟨vs, hr, hk⟩ := resL_run hw r _ hk'
      refine ⟨v2 :: vs, ?_, hk⟩
      have := loadVar_run hw hp hr2
      simp only [List.mapM_cons, Sem.run_bind, Result.andThen_ok, hr, Sem.run_pure, this]
    · obtain ⟨v, hk', hf⟩ := h.fix
      obtain ⟨v2, hr2, e⟩ := hf.run (P := P) hw hd hag hi him
      subst e
      obtain ⟨bb, off, c, T, fz, hp, _⟩ := hf
      obtain ⟨vs, hr, hk⟩ := resL_run hw r _ hk'
      refine ⟨v2 :: vs, ?_, hk⟩
      have := loadVar_run hw hp hr2
      simp only [List.mapM_cons, Sem.run_bind, Result.andThen_ok, hr, Sem.run_pure, this]
theorem results_run {fn : Func} {fr : Fr} {H : Hp} {n : Nat} {a : Act} {w : World} (ha : Agree n a fr) (hw : Own g H w) {k : List Value → Prop} (h : resL P fr H fn.results.toList k) :
    ∃ vs, (results fn a.tmps).run P w = .ok (tupV vs) w ∧ k vs := by
  obtain ⟨vs, hr, hk⟩ := resL_run (P := P) hw _ _ h
  refine ⟨vs, ?_, hk⟩
  have e : results fn a.tmps = (do let vs ← fn.results.mapM (resF fr); pure (if h : vs.size = 1 then vs[0] else .tuple vs)) := by
    unfold results
    congr 1
    congr 1
    funext x
    cases x <;> simp only [resF, ha.get]
  rw [e, Array.mapM_eq_mapM_toList]
  simp only [Sem.run_bind, Sem.run_map, hr, Result.andThen_ok, Sem.run_pure]
  congr 1
  match vs with
  | [] => rfl
  | [v] => rfl
  | a :: b :: r => simp [tupV]

theorem denF_sound {f : FuncId} {fn : Func} {hn : Hn} {args : List Value} {H : Hp} {R : Ending → Hp → Prop} (hf : P.funcs[f]? = some fn) (h : denF P g fn hn args H R) : SCalls P g f args.toArray H R := by
  intro w hw
  unfold denF at h
  split at h <;> try exact h.elim
  rename_i c hc
  cases hl : Nat.ble args.length fn.ntmps <;> simp only [hl, cond_true, cond_false] at h
  have hle := Nat.le_of_ble_eq_true hl
  refine calls_of_wp hf hc (wp_mono (den_sound c hn _ _ H h _ w ⟨rfl, ?_, ?_⟩ hw) ?_)
  · simp; omega
  · intro s
    rw [initFr_get, Array.getD_eq_getD_getElem?, Array.getElem?_append]
    simp only [List.size_toArray, Nat.not_lt_zero, if_false, Nat.sub_zero]
    by_cases hs : s < args.length
    · simp [hs, List.getD]
    · rw [if_neg hs]
      rw [Array.getElem?_replicate]
      have : args.getD s undef = undef := by simp [List.getD, List.getElem?_eq_none (Nat.le_of_not_lt hs)]
      rw [this]
      split <;> rfl
  · rintro e a' w' ⟨fr', H', ha', hw', _, hq⟩
    cases e with
    | normal => obtain ⟨vs, hr, hk⟩ := results_run ha' hw' hq; exact ⟨ha'.defers, _, hr, H', hw', hk⟩
    | ret => obtain ⟨vs, hr, hk⟩ := results_run ha' hw' hq; exact ⟨ha'.defers, _, hr, H', hw', hk⟩
    | panic ch => exact ⟨ha'.defers, H', hw', hq⟩
    | exit id => exact hq.elim
    | goto l => exact hq.elim
    | outgrown => exact hq.elim
end
end Go.Sx
