/-
  Each law of SxB is true of the model's operation.
-/
import Derived.Test.YtbockhcoeefobaaSxB
set_option linter.unusedSimpArgs false
set_option linter.unusedVariables false
namespace Go.Sx
open Go
section
variable {P : Program} {g : World} {H : Hp} {K : Value → Hp → Prop} {KP : List PanicEntry → Hp → Prop}

theorem After.value {v : Value} {w : World} (ho : Own g H w) (hk : K v H) : After P g K KP (.ok (.value v) w) := ⟨H, ho, hk⟩

theorem run_zero {t : TypeId} {i : TypeInfo} {z : Value} (hi : P.info? t = some i) (hz : i.zero = some z) (w : World) : (zeroValue t).run P w = .ok z w := by
  simp [zeroValue, typeInfo, hi, hz]
theorem run_isAgg {t : TypeId} {d : TypeDesc} (hd : P.underlying t = some d) (w : World) : (isAgg t).run P w = .ok (isAggD d) w := by
  simp only [isAgg, Sem.run_bind, run_underlying hd, Result.andThen_ok]
  cases d <;> rfl
theorem run_sizeOf {t : TypeId} {i : TypeInfo} (hi : P.info? t = some i) (w : World) : (sizeOf t).run P w = .ok i.size w := by
  simp [sizeOf, typeInfo, hi]

theorem New.after {o : Obj} (h : New H o fun b H' => K (.pointer (some ⟨b, 0, none⟩)) H') {w : World} (hw : Own g H w) :
    After P g K KP (.ok (.value (.pointer (some ⟨w.heap.size, 0, none⟩))) (w.alloc o)) :=
  ⟨_, hw.alloc o, h _ hw.fresh⟩

theorem Ld.run {p : Value} {k : Value → Prop} (h : Ld H p k) {w : World} (hw : Own g H w) {t : TypeId} {d : TypeDesc} (hd : P.underlying t = some d) (ha : isAggD d = false) :
    ∃ v, (Instr.loadAt t p).run P w = .ok v w ∧ k v := by
  obtain ⟨b, off, c, T, fz, v, rfl, hm, hc, hk⟩ := h
  refine ⟨v, ?_, hk⟩
  have := hw.cell hm off
  rw [hc] at this
  simp only [Instr.loadAt, Instr.sureAddr, loadVar, Sem.run_bind, Sem.run_pure, Result.andThen_ok, run_isAgg hd, ha, Sem.run_ite, Bool.false_eq_true, if_false, run_load, this]
theorem LdA.run {n : Nat} {p : Value} {k : Value → Prop} (h : LdA n H p k) {w : World} (hw : Own g H w) {t : TypeId} {d : TypeDesc} (hd : P.underlying t = some d) (ha : isAggD d = true)
    {i : TypeInfo} (hi : P.info? t = some i) (hn : i.size = n) :
    ∃ v, (Instr.loadAt t p).run P w = .ok v w ∧ k v := by
  obtain ⟨b, off, c, T, fz, rfl, hm, hs, hk⟩ := h
  refine ⟨_, ?_, hk⟩
  simp only [Instr.loadAt, Instr.sureAddr, loadVar, Sem.run_bind, Sem.run_pure, Result.andThen_ok, run_isAgg hd, ha, Sem.run_ite, if_true, run_sizeOf hi, hn, run_loadCells_own hw hm off n hs]
theorem St.run {n : Nat} {p x : Value} {k : Hp → Prop} (h : St n H p x k) {w : World} (hw : Own g H w) {t : TypeId} {i : TypeInfo} (hi : P.info? t = some i) (hn : i.size = n) :
    ∃ w' H', (Instr.storeAt t p x).run P w = .ok () w' ∧ Own g H' w' ∧ k H' := by
  obtain ⟨b, off, c, T, H', rfl, hx, hs, hv, hu, hk⟩ := h
  obtain ⟨w', hr, ho⟩ := run_storeCells_own (P := P) off x.cells.toList 0 c H H' w hw (by simpa using hu) hv (by simp; omega)
  refine ⟨w', H', ?_, ho, hk⟩
  simp only [Instr.storeAt, Instr.sureAddr, storeVar, Sem.run_bind, Sem.run_pure, Result.andThen_ok, run_sizeOf hi, hn, hx, ne_eq, not_true, if_false, hr]
  
theorem intV_run {op : BinOp} {k : IntKind} {a b : Int} {v : Value} {t : TypeId} (h : intV op k a b = some v) (w : World) (hs : op ≠ .shl ∧ op ≠ .shr) :
    (binOp op t (.int k a) (.int k b)).run P w = .ok v w := by
  cases op <;> simp [intV] at h hs <;> try subst h
  case quo => 
    obtain ⟨h0, rfl⟩ := h
    simp [binOp, Op.intDiv, h0]
  case rem =>
    obtain ⟨h0, rfl⟩ := h
    simp [binOp, Op.intDiv, h0]
  all_goals first
    | simp [binOp, Op.intArith]; done
    | simp [binOp, Op.intCmp]; done
    | (simp only [binOp_and, binOp_or, binOp_xor, binOp_andNot, intBits_and, intBits_or, intBits_xor, intBits_andNot]; rfl)

theorem run_equal_of {t : TypeId} {x y : Value} {r : Result Bool} {w : World} (h : ∀ d, (Op.equalIn (d + 1) t x y).run P w = r) : (Op.equal t x y).run P w = r := h 9999
theorem run_eql_bool {t : TypeId} (hd : P.underlying t = some .bool) (a b : Bool) (w : World) : (Op.equal t (.bool a) (.bool b)).run P w = .ok (a == b) w :=
  run_equal_of fun d => by simp [Op.equalIn, run_underlying hd]
theorem run_eql_ptr {t e : TypeId} (hd : P.underlying t = some (.pointer e)) (a b : Option Addr) (hab : a.isNone ∨ b.isNone) (w : World) : (Op.equal t (.pointer a) (.pointer b)).run P w = .ok (a.isNone && b.isNone) w :=
  run_equal_of fun d => by cases a <;> cases b <;> simp at hab <;> simp [Op.equalIn, run_underlying hd]
theorem run_eql_slice {t e : TypeId} (hd : P.underlying t = some (.slice e)) (a b : Option Addr) (n c n' c' : Nat) (hab : a.isNone ∨ b.isNone) (w : World) : (Op.equal t (.slice a n c) (.slice b n' c')).run P w = .ok (a.isNone && b.isNone) w :=
  run_equal_of fun d => by cases a <;> cases b <;> simp at hab <;> simp [Op.equalIn, run_underlying hd]
theorem run_eql_map {t e f : TypeId} (hd : P.underlying t = some (.map e f)) (a b : Option Nat) (hab : a.isNone ∨ b.isNone) (w : World) : (Op.equal t (.map a) (.map b)).run P w = .ok (a.isNone && b.isNone) w :=
  run_equal_of fun d => by cases a <;> cases b <;> simp at hab <;> simp [Op.equalIn, run_underlying hd]
theorem binV_run {kd : BK} {op : BinOp} {x y v : Value} {t : TypeId} {d : TypeDesc} (hd : P.underlying t = some d) (hk : bkOf d = kd) (h : binV kd op x y = some v) (w : World) :
    (binOp op t x y).run P w = .ok v w := by
  cases x <;> simp only [binV] at h <;> try (simp at h; done)
  case int k a =>
    cases y <;> simp only at h <;> try (simp at h; done)
    rename_i k' b
    by_cases hs : op = .shl
    · subst hs
      simp only at h
      split at h
      · simp at h
      · simp only [Option.some.injEq] at h; subst h; rename_i hb; simp [binOp, Op.shift, hb]
    by_cases hs' : op = .shr
    · subst hs'
      simp only at h
      split at h
      · simp at h
      · simp only [Option.some.injEq] at h; subst h; rename_i hb; simp [binOp, Op.shift, hb]
    have h2 : (if k = k' then intV op k a b else none) = some v := by
      cases op <;> first | exact h | exact absurd rfl hs | exact absurd rfl hs'
    split at h2
    · rename_i e; subst e; exact intV_run h2 w ⟨hs, hs'⟩
    · simp at h2
  case bool a =>
    split at h <;> simp only [Option.some.injEq, reduceCtorEq] at h
    all_goals
      subst h
      have : d = .bool := by cases d <;> simp_all [bkOf]
      subst this
      simp [binOp, run_eql_bool hd]
  case string a =>
    split at h <;> simp only [Option.some.injEq, reduceCtorEq] at h
    all_goals
      subst h
      first | rfl | (simp only [binOp, Op.stringOp]; rfl)
  case pointer a =>
    split at h <;> try (simp at h; done)
    all_goals
      have : ∃ e, d = .pointer e := by cases d <;> simp_all [bkOf]
      obtain ⟨e, rfl⟩ := this
      split at h <;> simp only [Option.some.injEq, reduceCtorEq] at h
      subst h
      rename_i bb hab
      simp [binOp, run_eql_ptr hd _ _ hab]
  case slice a n c =>
    split at h <;> try (simp at h; done)
    all_goals
      have : ∃ e, d = .slice e := by cases d <;> simp_all [bkOf]
      obtain ⟨e, rfl⟩ := this
      split at h <;> simp only [Option.some.injEq, reduceCtorEq] at h
      subst h
      rename_i bb _ _ hab
      simp [binOp, run_eql_slice hd _ _ _ _ _ _ hab]
  case map a =>
    split at h <;> try (simp at h; done)
    all_goals
      have : ∃ e f, d = .map e f := by cases d <;> simp_all [bkOf]
      obtain ⟨e, f, rfl⟩ := this
      split at h <;> simp only [Option.some.injEq, reduceCtorEq] at h
      subst h
      rename_i bb hab
      simp [binOp, run_eql_map hd _ _ hab]

theorem binV_guard {kd : BK} {op : BinOp} {x y v : Value} {t : TypeId} {ox oy : Operand} (h : binV kd op x y = some v) : eqGuard op t ox oy x y = pure () := by
  cases x <;> simp [binV] at h <;> cases op <;> rfl

theorem Bin.run {kd : BK} {op : BinOp} {x y : Value} {k : Value → Prop} (h : Bin kd op x y k) (w : World) {t : TypeId} {d : TypeDesc} {ox oy : Operand} (hd : P.underlying t = some d) (hk : bkOf d = kd) :
    ∃ v, (do eqGuard op t ox oy x y; binOp op t x y : Sem Value).run P w = .ok v w ∧ k v := by
  obtain ⟨v, hv, hkv⟩ := h
  refine ⟨v, ?_, hkv⟩
  rw [Sem.run_bind, binV_guard hv]
  simp only [Sem.run_pure, Result.andThen_ok]
  exact binV_run hd hk hv w
theorem Un.run {op : UnOp} {x : Value} {k : Value → Prop} (h : Un op x k) (w : World) : ∃ v, (Op.unary op x).run P w = .ok v w ∧ k v := by
  obtain ⟨v, hv, hk⟩ := h
  refine ⟨v, ?_, hk⟩
  cases op <;> cases x <;> simp [unV] at hv <;> subst hv
  all_goals first | (simp [Op.unary, Op.intArith]; done) | rfl
theorem ConvI.run {kd : IntKind} {x : Value} {k : Value → Prop} (h : ConvI kd x k) (w : World) {src dst : TypeId} {ds dd : TypeDesc} (hs : P.underlying src = some ds) (hd : P.underlying dst = some dd) (hk : dd = .int kd) :
    ∃ v, (convert src dst x).run P w = .ok v w ∧ k v := by
  obtain ⟨j, n, rfl, hkv⟩ := h
  subst hk
  refine ⟨_, ?_, hkv⟩
  simp only [convert, Sem.run_bind, run_underlying hs, run_underlying hd, Result.andThen_ok]
  cases ds <;> rfl
theorem FAddr.run {off : Nat} {x : Value} {k : Value → Prop} (h : FAddr off x k) (w : World) {s : TypeId} {fs : Array Field} {f : Nat} {fl : Field} {i : TypeInfo} (hs : P.underlying s = some (.struct fs)) (hf : fs[f]? = some fl)
    (hi : P.info? fl.type = some i) (h0 : i.size ≠ 0) (ho : fl.offset = off) : ∃ v, (Instr.fieldAt s x f).run P w = .ok v w ∧ k v := by
  obtain ⟨b, o, rfl, hk⟩ := h
  refine ⟨_, ?_, hk⟩
  subst ho
  simp [Instr.fieldAt, run_underlying hs, hf, Instr.sureAddr, fieldPlace, run_sizeOf hi, h0, Addr.add_lit]
theorem Fld.run {off : Nat} {x : Value} {k : Value → Prop} (h : Fld off x k) (w : World) {s : TypeId} {fs : Array Field} {f : Nat} {fl : Field} {d : TypeDesc} (hs : P.underlying s = some (.struct fs)) (hf : fs[f]? = some fl)
    (hd : P.underlying fl.type = some d) (ha : isAggD d = false) (ho : fl.offset = off) : ∃ v, (Instr.field s x f).run P w = .ok v w ∧ k v := by
  obtain ⟨cs, v, rfl, hc, hk⟩ := h
  refine ⟨v, ?_, hk⟩
  subst ho
  simp [Instr.field, run_underlying hs, hf, asAgg, part, run_isAgg hd, ha, hc]
theorem FldA.run {off n : Nat} {x : Value} {k : Value → Prop} (h : FldA off n x k) (w : World) {s : TypeId} {fs : Array Field} {f : Nat} {fl : Field} {d : TypeDesc} {i : TypeInfo} (hs : P.underlying s = some (.struct fs)) (hf : fs[f]? = some fl)
    (hd : P.underlying fl.type = some d) (ha : isAggD d = true) (hi : P.info? fl.type = some i) (hn : i.size = n) (ho : fl.offset = off) : ∃ v, (Instr.field s x f).run P w = .ok v w ∧ k v := by
  obtain ⟨cs, rfl, hk⟩ := h
  refine ⟨_, ?_, hk⟩
  subst ho; subst hn
  simp [Instr.field, run_underlying hs, hf, asAgg, part, run_isAgg hd, ha, run_sizeOf hi]
theorem IAddr.run {size : Nat} {x ix : Value} {k : Value → Prop} (h : IAddr size x ix k) (w : World) {t e : TypeId} {i : TypeInfo} (ht : P.underlying t = some (.slice e)) (hi : P.info? e = some i) (hn : i.size = size) :
    ∃ v, (Instr.indexAt t x ix).run P w = .ok v w ∧ k v := by
  obtain ⟨b, o, n, c, kd, j, rfl, rfl, h0, h1, hk⟩ := h
  refine ⟨_, ?_, hk⟩
  subst hn
  simp [Instr.indexAt, run_underlying ht, asIntOf, h0, h1, run_sizeOf hi, Addr.add_lit]
theorem AAddr.run {len size : Nat} {x ix : Value} {k : Value → Prop} (h : AAddr len size x ix k) (w : World) {t e : TypeId} {i : TypeInfo} (ht : P.underlying t = some (.array len e)) (hi : P.info? e = some i) (hn : i.size = size) :
    ∃ v, (Instr.indexAt t x ix).run P w = .ok v w ∧ k v := by
  obtain ⟨b, o, kd, j, rfl, rfl, h0, h1, hk⟩ := h
  refine ⟨_, ?_, hk⟩
  subst hn
  simp [Instr.indexAt, run_underlying ht, asIntOf, h0, h1, run_sizeOf hi, Addr.add_lit, Instr.sureAddr]
theorem SliceE.run {size : Nat} {x : Value} {lo hi : Option Value} {k : Value → Prop} (h : SliceE size x lo hi k) (w : World) {t e : TypeId} {i : TypeInfo} (ht : P.underlying t = some (.slice e)) (hi' : P.info? e = some i) (hn : i.size = size) :
    ∃ v, (Instr.sliceAt t x lo hi none).run P w = .ok v w ∧ k v := by
  obtain ⟨a, n, c, l, hh, rfl, hl, hh', h0, h1, h2, hk⟩ := h
  refine ⟨_, ?_, hk⟩
  subst hn
  have bl : ∀ (kk : IntKind) (z : Int) (y : Nat) (cd : BoundsCode), 0 ≤ z → z ≤ y → (Instr.sliceBound (.int kk z) y cd).run P w = .ok z.toNat w := by
    intro kk z y cd a1 a2
    simp [Instr.sliceBound, asIntOf, a1, a2]
  have hcl : ∀ (m l : Nat), (if m = l then a else a.map (·.add (l * i.size))) = (if m = l then a else a.map fun x => x.add (l * i.size)) := fun _ _ => rfl
  have e1 : l ≤ ((hh.toNat : Nat) : Int) := by omega
  cases lo with
  | none =>
    simp only [loOf, Option.some.injEq] at hl
    subst hl
    cases hi with
    | none =>
      simp only [hiOf, Option.some.injEq] at hh'
      subst hh'
      simp [Instr.sliceAt, run_underlying ht, Instr.slice, Instr.sliceBounds, run_sizeOf hi']
    | some v =>
      cases v <;> simp only [hiOf, reduceCtorEq, Option.some.injEq] at hh'
      subst hh'
      simp [Instr.sliceAt, run_underlying ht, Instr.slice, Instr.sliceBounds, run_sizeOf hi', bl _ _ c .sliceAcap (by omega) h2]
  | some vl =>
    cases vl <;> simp only [loOf, reduceCtorEq, Option.some.injEq] at hl
    subst hl
    cases hi with
    | none =>
      simp only [hiOf, Option.some.injEq] at hh'
      subst hh'
      have := bl ‹_› _ n .sliceB h0 h1
      simp [Instr.sliceAt, run_underlying ht, Instr.slice, Instr.sliceBounds, run_sizeOf hi', this]
    | some v =>
      cases v <;> simp only [hiOf, reduceCtorEq, Option.some.injEq] at hh'
      subst hh'
      rename_i k1 n1 k2 n2
      have b1 := bl k2 n2 c .sliceAcap (by omega) h2
      have b2 := bl k1 n1 n2.toNat .sliceB h0 (by omega)
      simp [Instr.sliceAt, run_underlying ht, Instr.slice, Instr.sliceBounds, run_sizeOf hi', b1, b2]
theorem Ext.run {i : Nat} {x : Value} {k : Value → Prop} (h : Ext i x k) (w : World) : ∃ v, (Instr.extract x i).run P w = .ok v w ∧ k v := by
  obtain ⟨vs, v, rfl, hv, hk⟩ := h
  exact ⟨v, by simp [Instr.extract, hv], hk⟩
theorem LenS.run {x : Value} {k : Value → Prop} (h : LenS x k) (w : World) {t e ty : TypeId} (ht : P.underlying t = some (.slice e)) : ∃ v, (Builtin.len_ #[t] ty #[x]).run P w = .ok v w ∧ k v := by
  obtain ⟨a, n, c, rfl, hk⟩ := h
  exact ⟨_, by simp [Builtin.len_, run_underlying ht, goInt], hk⟩
theorem run_getObj_own {w : World} (hw : Own g H w) {b : Nat} {es : Array MapEntry} {clock : Nat} (hm : (b, Obj.map es clock) ∈ H) : (getObj b).run P w = .ok (.map es clock) w := by
  have := hw.has _ hm
  simp only at this
  simp [getObj, Sem.run, this]
theorem LenM.run {x : Value} {k : Value → Prop} (h : LenM H x k) {w : World} (hw : Own g H w) {t e e' ty : TypeId} (ht : P.underlying t = some (.map e e')) : ∃ v, (Builtin.len_ #[t] ty #[x]).run P w = .ok v w ∧ k v := by
  obtain ⟨m, rfl, ⟨rfl, hk⟩ | ⟨b, es, clock, rfl, hm, hk⟩⟩ := h
  · exact ⟨_, by simp [Builtin.len_, run_underlying ht, goInt], hk⟩
  · exact ⟨_, by simp [Builtin.len_, run_underlying ht, goInt, run_getObj_own hw hm], hk⟩
end
end Go.Sx
