/-
  Operations that only read (opP) and the others (opE): each word of SxB at its operation.
-/
import Derived.Test.YtbockhcoeefobaaSxD
import Derived.Deep.Quiet
import Derived.OrdersHeld
set_option linter.unusedSimpArgs false
set_option linter.unusedVariables false
namespace Go.Sx
open Go
section
variable {P : Program} {g : World} {H : Hp} {K : Value → Hp → Prop} {KP : List PanicEntry → Hp → Prop}

def NilV (x : Value) : Option Value :=
  match x with
  | .pointer (some a) => some (.pointer (some a))
  | .func (.func f) a b => some (.func (.func f) a b)
  | .iface t v => some (.iface t v)
  | _ => none
def Nil (x : Value) (k : Value → Prop) : Prop := ∃ v, NilV x = some v ∧ k v
def PMk (fn : Fn) (a b : List Value) (k : Value → Prop) : Prop := k (.func fn a.toArray b.toArray)
/-- a struct or array laid out of its parts -/
def Build (P : Program) (t : TypeId) (parts : List (Nat × Value)) (k : Value → Prop) : Prop := ∃ v, (∀ w, (Instr.build t parts.toArray).run P w = .ok v w) ∧ k v
/-- anything else that only reads -/
def RunP (P : Program) (g : World) (o : Oper) (ρ : Operand → Value) (H : Hp) (k : Value → Prop) : Prop :=
  ∃ v, (∀ w, Own g H w → (execOp ρ o).run P w = .ok (.value v) w) ∧ k v

def sizeD (P : Program) (t : TypeId) : Option Nat := match P.info? t with | some i => some i.size | none => none
def zeroD (P : Program) (t : TypeId) : Option Value := match P.info? t with | some i => i.zero | none => none
def bytesD (P : Program) (t : TypeId) : Option Nat := match P.info? t with | some i => some i.bytes | none => none

/-- operations that only read: their law -/
def opP (P : Program) (g : World) (o : Oper) (ρ : Operand → Value) (H : Hp) (k : Value → Prop) : Prop :=
  match o.op with
  | .move x => k (ρ x)
  | .assign x => k (ρ x)
  | .pick c a b => Pick (ρ c) (ρ a) (ρ b) k
  | .load t a =>
    match P.underlying t, sizeD P t with
    | some d, some n => cond (isAggD d) (LdA n H (ρ a) k) (Ld H (ρ a) k)
    | _, _ => False
  | .nilCheck x => Nil (ρ x) k
  | .binOp op t x y _ =>
    match P.underlying t with
    | some d => match bkOf d with
      | .other => RunP P g o ρ H k
      | bk => Bin bk op (ρ x) (ρ y) k
    | none => False
  | .unOp op _ x => Un op (ρ x) k
  | .convert s d x =>
    match P.underlying s, P.underlying d with
    | some _, some (.int kd) => ConvI kd (ρ x) k
    | _, _ => RunP P g o ρ H k
  | .fieldAddr s x f =>
    match P.underlying s with
    | some (.struct fs) => match fs[f]? with
      | some fl => match sizeD P fl.type with
        | some (_ + 1) => FAddr fl.offset (ρ x) k
        | _ => False
      | none => False
    | _ => False
  | .field s x f =>
    match P.underlying s with
    | some (.struct fs) => match fs[f]? with
      | some fl => match P.underlying fl.type, sizeD P fl.type with
        | some d, some n => cond (isAggD d) (FldA fl.offset n (ρ x) k) (Fld fl.offset (ρ x) k)
        | _, _ => False
      | none => False
    | _ => False
  | .indexAddr t x i =>
    match P.underlying t with
    | some (.slice e) => match sizeD P e with
      | some n => IAddr n (ρ x) (ρ i) k
      | none => False
    | some (.array len e) => match sizeD P e with
      | some n => AAddr len n (ρ x) (ρ i) k
      | none => False
    | _ => False
  | .slice t x lo hi none =>
    match P.underlying t with
    | some (.slice e) => match sizeD P e with
      | some n => SliceE n (ρ x) (lo.map ρ) (hi.map ρ) k
      | none => False
    | _ => RunP P g o ρ H k
  | .extract t i => Ext i (ρ t) k
  | .lookup t m key ok =>
    match P.underlying t with
    | some (.map kt e) => match P.underlying kt, zeroD P e with
      | some kd, some z => cond (plainKey kd) (Look kd z ok H (ρ m) (ρ key) k) (RunP P g o ρ H k)
      | _, _ => False
    | _ => False
  | .makeFunc fn a b => PMk fn (a.toList.map ρ) (b.toList.map ρ) k
  | .build t parts => Build P t (parts.toList.map fun p => (p.1, ρ p.2)) k
  | .makeInterface t x =>
    match P.underlying t with
    | some (.interface _) => False
    | some _ => k (.iface t (ρ x))
    | none => False
  | .call c =>
    match c.callee with
    | .builtin .len =>
      match c.args.toList, c.argTypes.toList with
      | [x], [t] => match P.underlying t with
        | some (.slice _) => LenS (ρ x) k
        | some (.map _ _) => LenM H (ρ x) k
        | _ => RunP P g o ρ H k
      | _, _ => False
    | .builtin _ => RunP P g o ρ H k
    | _ => False
  | _ => RunP P g o ρ H k

theorem mapList {α β : Type} (f : α → β) (a : Array α) : (a.toList.map f).toArray = a.map f := by rw [← Array.toList_map, Array.toArray_toList]
theorem arr1 {α : Type} {a : Array α} {x : α} (h : a.toList = [x]) : a = #[x] := by cases a; simp_all
theorem arr2 {α : Type} {a : Array α} {x y : α} (h : a.toList = [x, y]) : a = #[x, y] := by cases a; simp_all

theorem Ld.fix {p : Value} {k : Value → Prop} (h : Ld H p k) : ∃ v, k v ∧ Ld H p (· = v) := by
  obtain ⟨b, off, c, T, fz, v, h1, h2, h3, hk⟩ := h; exact ⟨v, hk, b, off, c, T, fz, v, h1, h2, h3, rfl⟩
theorem LdA.fix {n : Nat} {p : Value} {k : Value → Prop} (h : LdA n H p k) : ∃ v, k v ∧ LdA n H p (· = v) := by
  obtain ⟨b, off, c, T, fz, h1, h2, h3, hk⟩ := h; exact ⟨_, hk, b, off, c, T, fz, h1, h2, h3, rfl⟩
theorem Look.fix {kd : TypeDesc} {zero : Value} {ok : Bool} {m key : Value} {k : Value → Prop} (h : Look kd zero ok H m key k) : ∃ v, k v ∧ Look kd zero ok H m key (· = v) := by
  obtain ⟨es, r, h1, h2, hk⟩ := h; exact ⟨_, hk, es, r, h1, h2, rfl⟩
theorem LenM.fix {x : Value} {k : Value → Prop} (h : LenM H x k) : ∃ v, k v ∧ LenM H x (· = v) := by
  obtain ⟨m, h1, ⟨h2, hk⟩ | ⟨b, es, clock, h2, h3, hk⟩⟩ := h
  · exact ⟨_, hk, m, h1, .inl ⟨h2, rfl⟩⟩
  · exact ⟨_, hk, m, h1, .inr ⟨b, es, clock, h2, h3, rfl⟩⟩

/-- the outcome of an operation that only reads -/
def Reads (P : Program) (g : World) (o : Oper) (ρ : Operand → Value) (H : Hp) (k : Value → Prop) : Prop :=
  ∃ v, k v ∧ ∀ w, Own g H w → (execOp ρ o).run P w = .ok (.value v) w

theorem Reads.mk {o : Oper} {ρ : Operand → Value} {k : Value → Prop} {s : Sem Value} (he : execOp ρ o = (do pure (.value (← s)))) (h : ∃ v, k v ∧ ∀ w, Own g H w → s.run P w = .ok v w) : Reads P g o ρ H k := by
  obtain ⟨v, hk, hr⟩ := h
  refine ⟨v, hk, fun w hw => ?_⟩
  rw [he]
  simp only [Sem.run_bind, hr w hw, Result.andThen_ok, Sem.run_pure]
theorem RunP.reads {o : Oper} {ρ : Operand → Value} {k : Value → Prop} (h : RunP P g o ρ H k) : Reads P g o ρ H k := let ⟨v, h1, h2⟩ := h; ⟨v, h2, h1⟩

theorem uni {s : Sem Value} {k : Value → Prop} {C : (Value → Prop) → Prop} (hfix : ∃ v, k v ∧ C (· = v)) (hrun : ∀ (k : Value → Prop), C k → ∀ w, Own g H w → ∃ v, s.run P w = .ok v w ∧ k v) :
    ∃ v, k v ∧ ∀ w, Own g H w → s.run P w = .ok v w := by
  obtain ⟨v, hk, hc⟩ := hfix
  refine ⟨v, hk, fun w hw => ?_⟩
  obtain ⟨u, hr, rfl⟩ := hrun _ hc w hw
  exact hr

theorem sizeD_spec {t : TypeId} {n : Nat} (h : sizeD P t = some n) : ∃ i, P.info? t = some i ∧ i.size = n := by
  unfold sizeD at h
  split at h
  · rename_i i hi; exact ⟨i, hi, by simpa using h⟩
  · simp at h
theorem zeroD_spec {t : TypeId} {z : Value} (h : zeroD P t = some z) : ∃ i, P.info? t = some i ∧ i.zero = some z := by
  unfold zeroD at h
  split at h
  · rename_i i hi; exact ⟨i, hi, by simpa using h⟩
  · simp at h

theorem opP_reads {o : Oper} {ρ : Operand → Value} {k : Value → Prop} (h : opP P g o ρ H k) : Reads P g o ρ H k := by
  obtain ⟨dst, op, type, pos, after, guard⟩ := o
  cases op <;> simp only [opP] at h
  case move x => exact ⟨_, h, fun w _ => rfl⟩
  case assign x => exact ⟨_, h, fun w _ => rfl⟩
  case pick c a b =>
    obtain ⟨t, hc, hk⟩ := h
    refine ⟨_, hk, fun w _ => ?_⟩
    cases t <;> simp [execOp, hc, asBool]
  case load t a =>
    split at h
    · rename_i d n hd hn
      obtain ⟨i, hi, hin⟩ := sizeD_spec hn
      refine Reads.mk (s := Instr.loadAt t (ρ a)) rfl ?_
      cases ha : isAggD d <;> simp only [ha, cond_true, cond_false] at h
      · exact uni h.fix fun k hk w hw => hk.run hw hd ha
      · exact uni h.fix fun k hk w hw => hk.run hw hd ha hi hin
    · exact h.elim
  case nilCheck x =>
    obtain ⟨v, hv, hk⟩ := h
    refine ⟨v, hk, fun w _ => ?_⟩
    unfold NilV at hv
    simp only [execOp]
    split at hv <;> simp only [Option.some.injEq, reduceCtorEq] at hv <;> subst hv <;> simp_all
  case binOp op t x y yt =>
    split at h
    · rename_i d hd
      split at h
      · exact h.reads
      · rename_i hbk
        refine Reads.mk (s := do eqGuard op t x y (ρ x) (ρ y); binOp op t (ρ x) (ρ y)) rfl ?_
        obtain ⟨v, hv, hk⟩ := h
        exact ⟨v, hk, fun w _ => by
          obtain ⟨u, hr, rfl⟩ := Bin.run (P := P) (k := (· = v)) ⟨v, hv, rfl⟩ w (ox := x) (oy := y) hd rfl
          exact hr⟩
    · exact h.elim
  case unOp op t x =>
    obtain ⟨v, hv, hk⟩ := h
    refine Reads.mk (s := Op.unary op (ρ x)) rfl ⟨v, hk, fun w _ => ?_⟩
    obtain ⟨u, hr, rfl⟩ := Un.run (P := P) (k := (· = v)) ⟨v, hv, rfl⟩ w
    exact hr
  case convert s d x =>
    split at h
    · rename_i ds kd hs hd
      obtain ⟨j, n, hx, hk⟩ := h
      refine Reads.mk (s := Go.convert s d (ρ x)) rfl ⟨_, hk, fun w _ => ?_⟩
      obtain ⟨u, hr, rfl⟩ := ConvI.run (P := P) (kd := kd) (k := (· = _)) ⟨j, n, hx, rfl⟩ w hs hd rfl
      exact hr
    · exact h.reads
  case fieldAddr s x f =>
    split at h <;> try exact h.elim
    rename_i fs hs
    split at h <;> try exact h.elim
    rename_i fl hf
    split at h <;> try exact h.elim
    rename_i m hm
    obtain ⟨i, hi, hin⟩ := sizeD_spec hm
    obtain ⟨b, o, hx, hk⟩ := h
    refine Reads.mk (s := Instr.fieldAt s (ρ x) f) rfl ⟨_, hk, fun w _ => ?_⟩
    obtain ⟨u, hr, rfl⟩ := FAddr.run (P := P) (k := (· = _)) ⟨b, o, hx, rfl⟩ w hs hf hi (by omega) rfl
    exact hr
  case field s x f =>
    split at h <;> try exact h.elim
    rename_i fs hs
    split at h <;> try exact h.elim
    rename_i fl hf
    split at h <;> try exact h.elim
    rename_i d n hd hn
    obtain ⟨i, hi, hin⟩ := sizeD_spec hn
    refine Reads.mk (s := Instr.field s (ρ x) f) rfl ?_
    cases ha : isAggD d <;> simp only [ha, cond_true, cond_false] at h
    · obtain ⟨cs, v, hx, hv, hk⟩ := h
      refine ⟨v, hk, fun w _ => ?_⟩
      obtain ⟨u, hr, rfl⟩ := Fld.run (P := P) (k := (· = v)) ⟨cs, v, hx, hv, rfl⟩ w hs hf hd ha rfl
      exact hr
    · obtain ⟨cs, hx, hk⟩ := h
      refine ⟨_, hk, fun w _ => ?_⟩
      obtain ⟨u, hr, rfl⟩ := FldA.run (P := P) (k := (· = _)) ⟨cs, hx, rfl⟩ w hs hf hd ha hi hin rfl
      exact hr
  case indexAddr t x ix =>
    refine Reads.mk (s := Instr.indexAt t (ρ x) (ρ ix)) rfl ?_
    split at h
    · rename_i e ht
      split at h <;> try exact h.elim
      rename_i n hn
      obtain ⟨i, hi, hin⟩ := sizeD_spec hn
      obtain ⟨b, o, n', c, kd, j, hx, hix, h0, h1, hk⟩ := h
      refine ⟨_, hk, fun w _ => ?_⟩
      obtain ⟨u, hr, rfl⟩ := IAddr.run (P := P) (k := (· = _)) ⟨b, o, n', c, kd, j, hx, hix, h0, h1, rfl⟩ w ht hi hin
      exact hr
    · rename_i len e ht
      split at h <;> try exact h.elim
      rename_i n hn
      obtain ⟨i, hi, hin⟩ := sizeD_spec hn
      obtain ⟨b, o, kd, j, hx, hix, h0, h1, hk⟩ := h
      refine ⟨_, hk, fun w _ => ?_⟩
      obtain ⟨u, hr, rfl⟩ := AAddr.run (P := P) (k := (· = _)) ⟨b, o, kd, j, hx, hix, h0, h1, rfl⟩ w ht hi hin
      exact hr
    · exact h.elim
  case slice t x lo hi mx =>
    cases mx with
    | some m => simp only at h; exact h.reads
    | none =>
      simp only at h
      split at h
      · rename_i e ht
        split at h <;> try exact h.elim
        rename_i n hn
        obtain ⟨i, hi', hin⟩ := sizeD_spec hn
        obtain ⟨a, n', c, l, hh, hx, hl, hh', h0, h1, h2, hk⟩ := h
        refine Reads.mk (s := Instr.sliceAt t (ρ x) (lo.map ρ) (hi.map ρ) none) rfl ⟨_, hk, fun w _ => ?_⟩
        obtain ⟨u, hr, rfl⟩ := SliceE.run (P := P) (k := (· = _)) ⟨a, n', c, l, hh, hx, hl, hh', h0, h1, h2, rfl⟩ w ht hi' hin
        exact hr
      · exact h.reads
  case extract t i =>
    obtain ⟨vs, v, hx, hv, hk⟩ := h
    refine Reads.mk (s := Instr.extract (ρ t) i) rfl ⟨v, hk, fun w _ => ?_⟩
    obtain ⟨u, hr, rfl⟩ := Ext.run (P := P) (k := (· = v)) ⟨vs, v, hx, hv, rfl⟩ w
    exact hr
  case lookup t m key ok =>
    split at h <;> try exact h.elim
    rename_i kt e ht
    split at h <;> try exact h.elim
    rename_i kd z hkt hz
    obtain ⟨i, hi, hiz⟩ := zeroD_spec hz
    cases hp : plainKey kd <;> simp only [hp, cond_true, cond_false] at h
    · exact h.reads
    · exact Reads.mk (s := Instr.lookup t (ρ m) (ρ key) ok) rfl (uni h.fix fun k hk w hw => hk.run hw ht hkt hp hi hiz)
  case makeFunc fn a b =>
    refine ⟨_, h, fun w _ => ?_⟩
    simp [execOp, Instr.makeFunc, mapList]
  case build t parts =>
    obtain ⟨v, hr, hk⟩ := h
    refine Reads.mk (s := Instr.build t (parts.map fun (i, x) => (i, ρ x))) rfl ⟨v, hk, fun w _ => ?_⟩
    have := hr w
    rw [mapList (fun p : Nat × Operand => (p.1, ρ p.2)) parts] at this
    exact this
  case makeInterface t x =>
    split at h
    · exact h.elim
    · rename_i d hnot hd
      refine Reads.mk (s := Instr.makeInterface t (ρ x)) rfl ⟨_, h, fun w _ => ?_⟩
      simp only [Instr.makeInterface, Sem.run_bind, run_underlying hd, Result.andThen_ok]
      cases d <;> first | rfl | exact absurd hd (hnot _)
    · exact h.elim
  case call c =>
    obtain ⟨callee, args, argTypes⟩ := c
    cases callee with
    | value f => simp only at h
    | invoke r m => simp only at h
    | builtin b =>
      cases b <;> simp only at h <;> try exact h.reads
      split at h <;> try exact h.elim
      rename_i x t hx ht
      have hx := arr1 hx
      have ht := arr1 ht
      subst hx; subst ht
      split at h
      · rename_i e hd
        refine Reads.mk (s := Builtin.len_ #[t] type #[ρ x]) (by simp [execOp, resolve, invoke, builtin, bind, Sem.bind]; rfl) ?_
        obtain ⟨a, n, c, hx, hk⟩ := h
        refine ⟨_, hk, fun w _ => ?_⟩
        obtain ⟨u, hr, rfl⟩ := LenS.run (P := P) (k := (· = _)) ⟨a, n, c, hx, rfl⟩ w (ty := type) hd
        exact hr
      · rename_i e e' hd
        refine Reads.mk (s := Builtin.len_ #[t] type #[ρ x]) (by simp [execOp, resolve, invoke, builtin, bind, Sem.bind]; rfl) ?_
        exact uni h.fix fun k hk w hw => hk.run hw hd
      · exact h.reads
  all_goals exact h.reads

/-- what is known of an operation's value by the text alone -/
def valOf (o : Oper) (ρ : Operand → Value) (v : Value) : Prop :=
  match o.op with
  | .move x => v = ρ x
  | .assign x => v = ρ x
  | .pick c a b => ∀ t, ρ c = .bool t → v = cond t (ρ a) (ρ b)
  | _ => True
theorem opP_val {o : Oper} {ρ : Operand → Value} {k : Value → Prop} (h : opP P g o ρ H k) : ∃ v, k v ∧ (∀ w, Own g H w → (execOp ρ o).run P w = .ok (.value v) w) ∧ valOf o ρ v := by
  obtain ⟨dst, op, type, pos, after, guard⟩ := o
  cases op
  case move x => exact ⟨_, h, fun w _ => rfl, rfl⟩
  case assign x => exact ⟨_, h, fun w _ => rfl, rfl⟩
  case pick c a b =>
    obtain ⟨t, hc, hk⟩ := h
    refine ⟨_, hk, fun w _ => ?_, fun t' ht' => ?_⟩
    · cases t <;> simp [execOp, hc, asBool]
    · rw [hc] at ht'; simp only [Value.bool.injEq] at ht'; subst ht'; rfl
  all_goals
    obtain ⟨v, hk, hr⟩ := opP_reads h
    exact ⟨v, hk, hr, trivial⟩
end
end Go.Sx
