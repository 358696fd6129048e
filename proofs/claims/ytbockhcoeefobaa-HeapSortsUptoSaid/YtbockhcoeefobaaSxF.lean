/-
  Operations that write, make memory or call (opE).
-/
import Derived.Test.YtbockhcoeefobaaSxE
set_option linter.unusedSimpArgs false
set_option linter.unusedVariables false
namespace Go.Sx
open Go
section
variable {P : Program} {g : World} {H : Hp} {K : Value → Hp → Prop} {KP : List PanicEntry → Hp → Prop}

def BuildSl (P : Program) (t len : Nat) (parts : List (Nat × Value)) (H : Hp) (k : Value → Hp → Prop) : Prop :=
  ∃ cs, (∃ e n z, P.underlying t = some (.slice e) ∧ sizeD P e = some n ∧ zeroD P e = some z ∧ len * n ≤ 2 ^ 24 ∧ 0 < len * n ∧
      Instr.fill (fun i => some (i * n, n)) ((Array.range (len * n)).map (z.cells[· % z.cells.size]!)) parts = some cs ∧
      New H (.cells cs e (0, 0)) fun b H' => k (.slice (some ⟨b, 0, none⟩) len len) H')

/-- operations that write, make memory, call -/
def opE (P : Program) (g : World) (o : Oper) (ρ : Operand → Value) (H : Hp) (K : Value → Hp → Prop) (KP : List PanicEntry → Hp → Prop) : Prop :=
  match o.op with
  | .alloc t => match zeroD P t with
    | some z => New H (.cells z.cells t (0, 0)) fun b H' => K (.pointer (some ⟨b, 0, none⟩)) H'
    | none => False
  | .box t x => New H (.cells (ρ x).cells t (0, 0)) fun b H' => K (.pointer (some ⟨b, 0, none⟩)) H'
  | .store t a x => match sizeD P t with
    | some n => St n H (ρ a) (ρ x) fun H' => K undef H'
    | none => False
  | .buildSlice t len parts => BuildSl P t len (parts.toList.map fun p => (p.1, ρ p.2)) H K
  | .makeMap _ none => MkMap H K
  | .makeSlice t l c => match P.underlying t with
    | some (.slice e) => match sizeD P e, bytesD P e, zeroD P e with
      | some n, some b, some z => MkSlice e n b z H (ρ l) (ρ c) K
      | _, _, _ => False
    | _ => False
  | .mapUpdate t m key x => match P.underlying t with
    | some (.map kt _) => match P.underlying kt with
      | some kd => cond (plainKey kd) (MapUpd kd H (ρ m) (ρ key) (ρ x) fun H' => K undef H') (Op1 P g o ρ H K KP)
      | none => False
    | _ => False
  | .call c =>
    match c.callee with
    | .value (.func f) => cond (callable P f) (CallF P g f (c.args.toList.map ρ).toArray H K KP) (Op1 P g o ρ H K KP)
    | .value f => CallV P g (ρ f) (c.args.toList.map ρ).toArray H K KP
    | .builtin .append =>
      match c.args.toList, c.argTypes.toList with
      | [s, x], [t, t'] => match P.underlying t, P.underlying t' with
        | some (.slice e), some (.slice _) => match sizeD P e, bytesD P e, zeroD P e with
          | some n, some b, some z => App P e n b z H (ρ s) (ρ x) K
          | _, _, _ => False
        | _, _ => Op1 P g o ρ H K KP
      | _, _ => False
    | .builtin .delete =>
      match c.args.toList, c.argTypes.toList with
      | [m, key], [t, _] => match P.underlying t with
        | some (.map kt _) => match P.underlying kt with
          | some kd => cond (plainKey kd) (MapDel kd H (ρ m) (ρ key) fun H' => K (.tuple #[]) H') (Op1 P g o ρ H K KP)
          | none => False
        | _ => False
      | _, _ => Op1 P g o ρ H K KP
    | _ => Op1 P g o ρ H K KP
  | _ => Op1 P g o ρ H K KP

theorem bytesD_spec {t : TypeId} {n : Nat} (h : bytesD P t = some n) : ∃ i, P.info? t = some i ∧ i.bytes = n := by
  unfold bytesD at h
  split at h
  · rename_i i hi; exact ⟨i, hi, by simpa using h⟩
  · simp at h

theorem Op1.ofValue {o : Oper} {ρ : Operand → Value} {s : Sem Value} (he : execOp ρ o = (do pure (.value (← s)))) (h : ∀ w, Own g H w → ∃ v w' H', s.run P w = .ok v w' ∧ Own g H' w' ∧ K v H') : Op1 P g o ρ H K KP := by
  intro w hw
  obtain ⟨v, w', H', hr, ho, hk⟩ := h w hw
  rw [he]
  simp only [Sem.run_bind, hr, Result.andThen_ok, Sem.run_pure]
  exact ⟨H', ho, hk⟩
theorem Op1.ofUnit {o : Oper} {ρ : Operand → Value} {s : Sem Unit} (he : execOp ρ o = (do s; pure .skip)) (h : ∀ w, Own g H w → ∃ w' H', s.run P w = .ok () w' ∧ Own g H' w' ∧ K undef H') : Op1 P g o ρ H K KP := by
  intro w hw
  obtain ⟨w', H', hr, ho, hk⟩ := h w hw
  rw [he]
  simp only [Sem.run_bind, hr, Result.andThen_ok, Sem.run_pure]
  exact ⟨H', ho, hk⟩

theorem callable_run {f : FuncId} (h : callable P f = true) (args : Array Value) (w : World) : (callFunc f args).run P w = .ok (.enter f args) w := by
  unfold callable at h
  split at h
  · simp at h
  · rename_i fn hf
    simp only [Bool.and_eq_true, Bool.not_eq_true'] at h
    obtain ⟨h1, h2⟩ := h
    have h3 : fn.body.isNone = false := by cases hb : fn.body <;> simp_all
    simp only [callFunc, Sem.run_bind, run_program, Result.andThen_ok, hf, show (fn.name == "runtime.NumGoroutine") = false from h1, h3, Bool.false_eq_true, if_false]
    rfl

theorem CallV.op {o : Oper} {c : Call} {ρ : Operand → Value} {x : Operand} (ho : o.op = .call c) (hc : c.callee = .value x) (h : CallV P g (ρ x) (c.args.toList.map ρ).toArray H K KP) : Op1 P g o ρ H K KP := by
  obtain ⟨f, first, captured, hf, hcl, hcall⟩ := h
  rw [mapList] at hcall
  intro w hw
  have hr : (execOp ρ o).run P w = .ok (.enter f (first ++ c.args.map ρ ++ captured)) w := by
    simp only [execOp, ho, resolve, hc, Deferred.ofValue, hf, invoke]
    show (callFunc f (first ++ c.args.map ρ ++ captured)).run P w = _
    exact callable_run hcl _ w
  rw [hr]
  exact hcall w hw

theorem opE_op {o : Oper} {ρ : Operand → Value} (hρ : ∀ f, ρ (.func f) = .func (.func f) #[] #[]) (h : opE P g o ρ H K KP) : Op1 P g o ρ H K KP := by
  unfold opE at h
  split at h
  case h_1 t hop =>
    split at h
    · rename_i z hz
      obtain ⟨i, hi, hiz⟩ := zeroD_spec hz
      refine Op1.ofValue (s := Instr.alloc t true (.tuple #[])) (by simp only [execOp, hop]) fun w hw => ⟨_, _, _, ?_, hw.alloc _, h _ hw.fresh⟩
      simp [Instr.alloc, run_zero hi hiz, newVar, newRow]
    · exact h.elim
  case h_2 t x hop =>
    refine Op1.ofValue (s := Instr.box t (ρ x)) (by simp only [execOp, hop]) fun w hw => ⟨_, _, _, ?_, hw.alloc _, h _ hw.fresh⟩
    simp [Instr.box, newVar, newRow]
  case h_3 t a x hop =>
    split at h
    · rename_i n hn
      obtain ⟨i, hi, hin⟩ := sizeD_spec hn
      exact Op1.ofUnit (s := Instr.storeAt t (ρ a) (ρ x)) (by simp only [execOp, hop]) fun w hw => h.run hw hi hin
    · exact h.elim
  case h_4 t len parts hop =>
    obtain ⟨cs, e, n, z, ht, hn, hz, hl, hpos, hf, hk⟩ := h
    obtain ⟨i, hi, hin⟩ := sizeD_spec hn
    obtain ⟨i', hi', hiz⟩ := zeroD_spec hz
    have : i' = i := Option.some.inj (hi'.symm.trans hi)
    subst this
    subst hin
    refine Op1.ofValue (s := Instr.buildSlice t len (parts.map fun (i, x) => (i, ρ x))) (by simp only [execOp, hop]) fun w hw => ⟨_, _, _, ?_, hw.alloc _, hk _ hw.fresh⟩
    have hl' : ¬ (len * i'.size > 2 ^ 24) := by omega
    have hpl : (parts.map fun (x : Nat × Operand) => (x.1, ρ x.2)).toList = parts.toList.map fun p => (p.1, ρ p.2) := by rw [Array.toList_map]
    have h0 : ¬ (len * i'.size = 0) := by omega
    simp only [Instr.buildSlice, Sem.run_bind, run_underlying ht, Result.andThen_ok, run_sizeOf hi, hl', if_false, h0, run_zero hi hiz, Sem.run_pure]
    simp [hf, newRow]
  case h_5 t hop =>
    refine Op1.ofValue (s := Instr.makeMap t none) (by simp only [execOp, hop]; rfl) fun w hw => ⟨_, _, _, ?_, hw.alloc _, h _ hw.fresh⟩
    simp [Instr.makeMap]
  case h_6 t l c hop =>
    split at h <;> try exact h.elim
    rename_i e ht
    split at h <;> try exact h.elim
    rename_i n b z hn hb hz
    obtain ⟨i, hi, hin⟩ := sizeD_spec hn
    obtain ⟨i', hi', hiz⟩ := zeroD_spec hz
    obtain ⟨i2, hi2, hib⟩ := bytesD_spec hb
    have e1 : i' = i := Option.some.inj (hi'.symm.trans hi)
    have e2 : i2 = i := Option.some.inj (hi2.symm.trans hi)
    subst e1; subst e2
    exact Op1.ofValue (s := Instr.makeSlice t (ρ l) (ρ c)) (by simp only [execOp, hop]) fun w hw => h.run hw ht hi hiz hin hib
  case h_7 t m key x hop =>
    split at h <;> try exact h.elim
    rename_i kt e ht
    split at h <;> try exact h.elim
    rename_i kd hkt
    cases hp : plainKey kd <;> simp only [hp, cond_true, cond_false] at h
    · exact h
    · exact Op1.ofUnit (s := Instr.mapUpdate t (ρ m) (ρ key) (ρ x)) (by simp only [execOp, hop]) fun w hw => h.run hw ht hkt hp
  case h_8 c hop =>
    split at h
    · rename_i f hc
      cases hcl : callable P f <;> simp only [hcl, cond_true, cond_false] at h
      · exact h
      · rw [mapList] at h
        intro w hw
        have hr : (execOp ρ o).run P w = .ok (.enter f (c.args.map ρ)) w := by
          simp only [execOp, hop, resolve, hc, Deferred.ofValue, hρ, invoke]
          show (callFunc f ((#[] ++ c.args.map ρ) ++ #[])).run P w = _
          rw [Array.empty_append, Array.append_empty]
          exact callable_run hcl _ w
        rw [hr]
        exact h w hw
    · rename_i x _ hc
      exact CallV.op hop hc h
    · rename_i hc
      split at h <;> try exact h.elim
      rename_i s x t t' hx ht
      have hx := arr2 hx
      have ht := arr2 ht
      split at h
      · rename_i e e' hd hd'
        split at h <;> try exact h.elim
        rename_i n b z hn hb hz
        obtain ⟨i, hi, hin⟩ := sizeD_spec hn
        obtain ⟨i', hi', hiz⟩ := zeroD_spec hz
        obtain ⟨i2, hi2, hib⟩ := bytesD_spec hb
        have e1 : i' = i := Option.some.inj (hi'.symm.trans hi)
        have e2 : i2 = i := Option.some.inj (hi2.symm.trans hi)
        subst e1; subst e2
        refine Op1.ofValue (s := Builtin.append_ #[t, t'] o.type #[ρ s, ρ x]) ?_ fun w hw => h.run hw hd ⟨_, hd'⟩ hi hiz hin hib
        simp only [execOp, hop, resolve, hc, hx, ht, invoke, builtin]
        simp [bind, Sem.bind]; rfl
      · exact h
    · rename_i hc
      split at h
      · rename_i m key t t' hx ht
        have hx := arr2 hx
        have ht := arr2 ht
        split at h <;> try exact h.elim
        rename_i kt e hd
        split at h <;> try exact h.elim
        rename_i kd hkt
        cases hp : plainKey kd <;> simp only [hp, cond_true, cond_false] at h
        · exact h
        · refine Op1.ofValue (s := Builtin.delete_ #[t, t'] o.type #[ρ m, ρ key]) ?_ fun w hw => ?_
          · simp only [execOp, hop, resolve, hc, hx, ht, invoke, builtin]
            simp [bind, Sem.bind]; rfl
          · obtain ⟨w', H', hr, ho, hk⟩ := h.run (P := P) hw (as := #[t, t']) (ty := o.type) rfl hd hkt hp
            exact ⟨_, w', H', hr, ho, hk⟩
      · exact h
    · exact h
  all_goals exact h
end
end Go.Sx
