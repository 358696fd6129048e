/-
  The operations of the model, one law an operation, over pieces of heap: what must hold of a piece so that the operation runs, with what value and what piece behind it.
-/
import Derived.Test.YtbockhcoeefobaaSxA
set_option linter.unusedSimpArgs false
set_option linter.unusedVariables false
namespace Go.Sx
open Go

abbrev Fr := Nat → Value
def upd (fr : Fr) (d : Option Nat) (v : Value) : Fr :=
  match d with
  | none => fr
  | some d => fun s => cond (Nat.beq s d) v (fr s)
def ev (fr : Fr) : Operand → Value
  | .tmp t => fr t
  | .const v => v
  | .global g => .pointer (some ⟨g, 0, none⟩)
  | .func f => .func (.func f) #[] #[]
def okDst (n : Nat) : Option Nat → Bool
  | none => true
  | some d => Nat.blt d n

structure Agree (n : Nat) (a : Act) (fr : Fr) : Prop where
  defers : a.defers = []
  size : a.tmps.size = n
  get : ∀ s, a.tmps.getD s undef = fr s
theorem Agree.eval {n : Nat} {a : Act} {fr : Fr} (h : Agree n a fr) : a.eval = ev fr := by
  funext x
  cases x <;> simp only [Act.eval, ev]
  exact h.get _
theorem Agree.put {n : Nat} {a : Act} {fr : Fr} (h : Agree n a fr) {d : Option Nat} (hd : okDst n d = true) (v : Value) : Agree n (a.put d v) (upd fr d v) := by
  cases d with
  | none => exact h
  | some d =>
    have hlt : d < n := by simpa [okDst, Nat.blt_eq] using hd
    refine ⟨h.defers, by simp [Act.put, h.size], fun s => ?_⟩
    simp only [Act.put, upd]
    have hs := h.size
    by_cases e : s = d
    · subst e; simp [hs, hlt]
    · have e' : d ≠ s := fun x => e x.symm
      have hb : Nat.beq s d = false := by
        cases hh : Nat.beq s d
        · rfl
        · exact absurd (Nat.eq_of_beq_eq_true hh) e
      rw [hb]
      simp only [cond_false]
      have := h.get s
      simpa [Array.getD_eq_getD_getElem?, Array.getElem?_setIfInBounds_ne e'] using this

/-- a call, on a piece of heap -/
def SCalls (P : Program) (g : World) (f : FuncId) (args : Array Value) (H : Hp) (R : Ending → Hp → Prop) : Prop :=
  ∀ w, Own g H w → Calls P f args w fun e w' => ∃ H', Own g H' w' ∧ R e H'
theorem SCalls.mono {P : Program} {g : World} {f : FuncId} {args : Array Value} {H : Hp} {R R' : Ending → Hp → Prop} (h : SCalls P g f args H R) (hr : ∀ e H', R e H' → R' e H') :
    SCalls P g f args H R' := fun w hw => (h w hw).mono fun e w' ⟨H', o, r⟩ => ⟨H', o, hr _ _ r⟩
theorem SCalls.pre {P : Program} {g : World} {f : FuncId} {args : Array Value} {H H' : Hp} {R : Ending → Hp → Prop} (h : SCalls P g f args H' R) (he : Ent H H') :
    SCalls P g f args H R := fun w hw => h w (he _ _ hw)
theorem SCalls.post {P : Program} {g : World} {f : FuncId} {args : Array Value} {H : Hp} {R R' : Ending → Hp → Prop} (h : SCalls P g f args H R)
    (hr : ∀ e H', R e H' → ∃ H'', Ent H' H'' ∧ R' e H'') : SCalls P g f args H R' := fun w hw => (h w hw).mono fun e w' ⟨H', o, r⟩ =>
  let ⟨H'', en, r'⟩ := hr _ _ r; ⟨H'', en _ _ o, r'⟩

def Kend (K : Value → Hp → Prop) (KP : List PanicEntry → Hp → Prop) : Ending → Hp → Prop
  | .returned v, H => K v H
  | .panicked ch, H => KP ch H
  | .outgrown, _ => False
/-- what is asked of an operation's outcome -/
def After (P : Program) (g : World) (K : Value → Hp → Prop) (KP : List PanicEntry → Hp → Prop) : Result Next → Prop
  | .ok (.value v) w => ∃ H, Own g H w ∧ K v H
  | .ok .skip w => ∃ H, Own g H w ∧ K undef H
  | .ok (.enter f args) w => Calls P f args w fun e w' => ∃ H, Own g H w' ∧ Kend K KP e H
  | .halt (.panic v) w => ∃ H, Own g H w ∧ KP [{ v, recovered := false }] H
  | _ => False
def Op1 (P : Program) (g : World) (o : Oper) (ρ : Operand → Value) (H : Hp) (K : Value → Hp → Prop) (KP : List PanicEntry → Hp → Prop) : Prop :=
  ∀ w, Own g H w → After P g K KP ((execOp ρ o).run P w)

/-! the words of a listing -/
def New (H : Hp) (o : Obj) (k : Nat → Hp → Prop) : Prop := ∀ b, b ∉ H.map Prod.fst → k b ((b, o) :: H)
def Pick (c a b : Value) (k : Value → Prop) : Prop := ∃ t, c = .bool t ∧ k (cond t a b)
def Ld (H : Hp) (p : Value) (k : Value → Prop) : Prop :=
  ∃ b off c T fz v, p = .pointer (some ⟨b, off, none⟩) ∧ (b, Obj.cells c T fz) ∈ H ∧ c[off]? = some v ∧ k v
def LdA (n : Nat) (H : Hp) (p : Value) (k : Value → Prop) : Prop :=
  ∃ b off c T fz, p = .pointer (some ⟨b, off, none⟩) ∧ (b, Obj.cells c T fz) ∈ H ∧ off + n ≤ c.size ∧ k (.agg (c.extract off (off + n)))
def St (n : Nat) (H : Hp) (p x : Value) (k : Hp → Prop) : Prop :=
  ∃ b off c T H', p = .pointer (some ⟨b, off, none⟩) ∧ x.cells.size = n ∧ off + n ≤ c.size ∧ (∀ v ∈ x.cells.toList, v.oneCell' = true) ∧
    Upd b (.cells c T (0, 0)) (.cells (over c off x.cells.toList) T (0, 0)) H H' ∧ k H'
def NilChk (x : Value) (k : Value → Prop) : Prop :=
  match x with
  | .pointer (some a) => k (.pointer (some a))
  | .func (.func f) a b => k (.func (.func f) a b)
  | .iface t v => k (.iface t v)
  | _ => False
/-- how '==' looks at a type -/
inductive BK | num | bool | ptr | slice | map | func | str | other
def bkOf : TypeDesc → BK
  | .bool => .bool
  | .int _ => .num
  | .pointer _ => .ptr
  | .slice _ => .slice
  | .map _ _ => .map
  | .func _ _ _ => .func
  | .string => .str
  | _ => .other
def intV (op : BinOp) (k : IntKind) (a b : Int) : Option Value :=
  match op with
  | .add => some (.int k (k.wrap (a + b)))
  | .sub => some (.int k (k.wrap (a - b)))
  | .mul => some (.int k (k.wrap (a * b)))
  | .quo => if b = 0 then none else some (.int k (k.wrap (a.tdiv b)))
  | .rem => if b = 0 then none else some (.int k (a.tmod b))
  | .and => some (.int k (bits .and k a b))
  | .or => some (.int k (bits .or k a b))
  | .xor => some (.int k (bits .xor k a b))
  | .andNot => some (.int k (bits .andNot k a b))
  | .eql => some (.bool (a == b))
  | .neq => some (.bool (a != b))
  | .lss => some (.bool (decide (a < b)))
  | .leq => some (.bool (decide (a ≤ b)))
  | .gtr => some (.bool (decide (b < a)))
  | .geq => some (.bool (decide (b ≤ a)))
  | _ => none
/-- operators whose answer hangs on the two values alone -/
def binV (kd : BK) (op : BinOp) (x y : Value) : Option Value :=
  match x with
  | .int k a =>
    match y with
    | .int k' b =>
      match op with
      | .shl => if b < 0 then none else some (.int k (k.wrap (a * 2 ^ (min b.toNat k.bits))))
      | .shr => if b < 0 then none else some (.int k (a.fdiv (2 ^ (min b.toNat k.bits))))
      | op => if k = k' then intV op k a b else none
    | _ => none
  | .bool a =>
    match kd, op, y with
    | .bool, .eql, .bool b => some (.bool (a == b))
    | .bool, .neq, .bool b => some (.bool (!(a == b)))
    | _, _, _ => none
  | .string a =>
    match op, y with
    | .eql, .string b => some (.bool (a.toList == b.toList))
    | .neq, .string b => some (.bool (!(a.toList == b.toList)))
    | _, _ => none
  | .pointer a =>
    match kd, op, y with
    | .ptr, .eql, .pointer b => if a.isNone ∨ b.isNone then some (.bool (a.isNone && b.isNone)) else none
    | .ptr, .neq, .pointer b => if a.isNone ∨ b.isNone then some (.bool (!(a.isNone && b.isNone))) else none
    | _, _, _ => none
  | .slice a n c =>
    match kd, op, y with
    | .slice, .eql, .slice b _ _ => if a.isNone ∨ b.isNone then some (.bool (a.isNone && b.isNone)) else none
    | .slice, .neq, .slice b _ _ => if a.isNone ∨ b.isNone then some (.bool (!(a.isNone && b.isNone))) else none
    | _, _, _ => none
  | .map a =>
    match kd, op, y with
    | .map, .eql, .map b => if a.isNone ∨ b.isNone then some (.bool (a.isNone && b.isNone)) else none
    | .map, .neq, .map b => if a.isNone ∨ b.isNone then some (.bool (!(a.isNone && b.isNone))) else none
    | _, _, _ => none
  | _ => none
def Bin (kd : BK) (op : BinOp) (x y : Value) (k : Value → Prop) : Prop := ∃ v, binV kd op x y = some v ∧ k v
def unV (op : UnOp) (x : Value) : Option Value :=
  match op, x with
  | .neg, .int k n => some (.int k (k.wrap (0 - n)))
  | .not, .bool b => some (.bool !b)
  | .xor, .int k n => some (.int k (bits .xor k (if k.signed then -1 else k.max) n))
  | _, _ => none
def Un (op : UnOp) (x : Value) (k : Value → Prop) : Prop := ∃ v, unV op x = some v ∧ k v
def ConvI (kd : IntKind) (x : Value) (k : Value → Prop) : Prop := ∃ j n, x = .int j n ∧ k (.int kd (kd.wrap n))
def FAddr (off : Nat) (x : Value) (k : Value → Prop) : Prop := ∃ b o, x = .pointer (some ⟨b, o, none⟩) ∧ k (.pointer (some ⟨b, o + off, none⟩))
def Fld (off : Nat) (x : Value) (k : Value → Prop) : Prop := ∃ cs v, x = .agg cs ∧ cs[off]? = some v ∧ k v
def FldA (off n : Nat) (x : Value) (k : Value → Prop) : Prop := ∃ cs, x = .agg cs ∧ k (.agg (cs.extract off (off + n)))
/-- '&s[i]' -/
def IAddr (size : Nat) (x ix : Value) (k : Value → Prop) : Prop :=
  ∃ b o n c kd i, x = .slice (some ⟨b, o, none⟩) n c ∧ ix = .int kd i ∧ 0 ≤ i ∧ i < (n : Int) ∧ k (.pointer (some ⟨b, o + i.toNat * size, none⟩))
/-- '&a[i]', a an array variable -/
def AAddr (len size : Nat) (x ix : Value) (k : Value → Prop) : Prop :=
  ∃ b o kd i, x = .pointer (some ⟨b, o, none⟩) ∧ ix = .int kd i ∧ 0 ≤ i ∧ i < (len : Int) ∧ k (.pointer (some ⟨b, o + i.toNat * size, none⟩))
def loOf : Option Value → Option Int
  | none => some 0
  | some (.int _ n) => some n
  | _ => none
def hiOf (len : Nat) : Option Value → Option Int
  | none => some len
  | some (.int _ n) => some n
  | _ => none
/-- 's[lo:hi]' of a slice -/
def SliceE (size : Nat) (x : Value) (lo hi : Option Value) (k : Value → Prop) : Prop :=
  ∃ a n c l h, x = .slice a n c ∧ loOf lo = some l ∧ hiOf n hi = some h ∧ 0 ≤ l ∧ l ≤ h ∧ h ≤ (c : Int) ∧
    k (.slice (if c = l.toNat then a else a.map (·.add (l.toNat * size))) (h.toNat - l.toNat) (c - l.toNat))
def Ext (i : Nat) (x : Value) (k : Value → Prop) : Prop := ∃ vs v, x = .tuple vs ∧ vs[i]? = some v ∧ k v
def LenS (x : Value) (k : Value → Prop) : Prop := ∃ a n c, x = .slice a n c ∧ k (.int .i64 n)
def LenM (H : Hp) (x : Value) (k : Value → Prop) : Prop :=
  ∃ m, x = .map m ∧ ((m = none ∧ k (.int .i64 0)) ∨ ∃ b es clock, m = some b ∧ (b, Obj.map es clock) ∈ H ∧ k (.int .i64 es.size))
/-- the first n cells of a slice's array -/
def Cells (H : Hp) (base : Option Addr) (n : Nat) (cs : Array Value) : Prop :=
  match base with
  | none => cs = #[]
  | some a => a.spot = none ∧ ∃ c T fz, (a.block, Obj.cells c T fz) ∈ H ∧ a.off + n ≤ c.size ∧ cs = c.extract a.off (a.off + n)
def App (P : Program) (elem size bytes : Nat) (zero : Value) (H : Hp) (s x : Value) (k : Value → Hp → Prop) : Prop :=
  ∃ base n cap xb m xc olds news, s = .slice base n cap ∧ x = .slice xb m xc ∧ Cells H base (n * size) olds ∧ Cells H xb (m * size) news ∧
    news.size = m * size ∧ olds.size = n * size ∧ (∀ v ∈ news.toList, v.oneCell' = true) ∧
    (n + m ≤ cap → match base with
      | none => k (.slice none (n + m) cap) H
      | some a => ∃ c T H', a.spot = none ∧ a.off + n * size + m * size ≤ c.size ∧ Upd a.block (.cells c T (0, 0)) (.cells (over c (a.off + n * size) news.toList) T (0, 0)) H H' ∧ k (.slice (some a) (n + m) cap) H') ∧
    (cap < n + m → (n + m) * bytes ≤ 140737488355328 ∧ (n + m : Nat) ≤ 9223372036854775807 ∧ ∀ newcap, n + m ≤ newcap →
      New H (.cells (olds ++ news ++ Builtin.zeroCells zero.cells (newcap - (n + m))) elem (0, 0)) fun b H' => ∃ H'', Ent H' H'' ∧ k (.slice (some ⟨b, 0, none⟩) (n + m) newcap) H'')
def MkSlice (elem size bytes : Nat) (zero : Value) (H : Hp) (l c : Value) (k : Value → Hp → Prop) : Prop :=
  ∃ kl kc ln cn, l = .int kl (ln : Nat) ∧ c = .int kc (cn : Nat) ∧ ln ≤ cn ∧ (cn : Int) ≤ 9223372036854775807 ∧ cn * bytes ≤ 281474976710656 ∧
    New H (.cells (madeCells zero.cells (cn * size)) elem (0, 0)) fun b H' => k (.slice (some ⟨b, 0, none⟩) ln cn) H'
def MkMap (H : Hp) (k : Value → Hp → Prop) : Prop := New H (.map #[] 0) fun b H' => k (.map (some b)) H'
def MapAt (H : Hp) (m : Value) (es : Array MapEntry) : Prop := (m = .map none ∧ es = #[]) ∨ ∃ b clock, m = .map (some b) ∧ (b, Obj.map es clock) ∈ H
/-- a look-up in a map whose keys are plain (numbers, strings, bools) -/
def Look (kd : TypeDesc) (zero : Value) (ok : Bool) (H : Hp) (m key : Value) (k : Value → Prop) : Prop :=
  ∃ es r, MapAt H m es ∧ Instr.findNow kd key es.toList 0 = some r ∧
    k (match r with
      | some (_, v) => cond ok (.tuple #[v, .bool true]) v
      | none => cond ok (.tuple #[zero, .bool false]) zero)
def MapUpd (kd : TypeDesc) (H : Hp) (m key val : Value) (k : Hp → Prop) : Prop :=
  ∃ b es clock r, m = .map (some b) ∧ Instr.findNow kd key es.toList 0 = some r ∧
    match r with
    | some (i, _) => (∀ e, es[i]? = some e → Instr.sameBits 10000 e.key key = true) ∧ i < es.size ∧ ∃ H', Upd b (.map es clock) (.map (es.modify i fun e => { e with key, val }) clock) H H' ∧ k H'
    | none => ∃ H', Upd b (.map es clock) (.map (es.push { key, val, born := clock }) (clock + 1)) H H' ∧ k H'
def MapDel (kd : TypeDesc) (H : Hp) (m key : Value) (k : Hp → Prop) : Prop :=
  (m = .map none ∧ k H) ∨ ∃ b es clock r, m = .map (some b) ∧ Instr.findNow kd key es.toList 0 = some r ∧
    match r with
    | some (i, _) => ∃ H', Upd b (.map es clock) (.map (es.eraseIdxIfInBounds i) clock) H H' ∧ k H'
    | none => (b, Obj.map es clock) ∈ H ∧ k H
/-- may function f be called: it has a body and none of the model's own names -/
def callable (P : Program) (f : FuncId) : Bool :=
  match P.funcs[f]? with
  | none => false
  | some fn => !(fn.name == "runtime.NumGoroutine") && fn.body.isSome
def CallF (P : Program) (g : World) (f : FuncId) (args : Array Value) (H : Hp) (K : Value → Hp → Prop) (KP : List PanicEntry → Hp → Prop) : Prop :=
  SCalls P g f args H (Kend K KP)
def CallV (P : Program) (g : World) (fv : Value) (args : Array Value) (H : Hp) (K : Value → Hp → Prop) (KP : List PanicEntry → Hp → Prop) : Prop :=
  ∃ f first captured, fv = .func (.func f) first captured ∧ callable P f = true ∧ CallF P g f (first ++ args ++ captured) H K KP
def plainKey : TypeDesc → Bool
  | .int _ | .string | .bool => true
  | _ => false
def isAggD : TypeDesc → Bool
  | .struct _ | .array _ _ => true
  | _ => false

def loadK (d : Option TypeDesc) (i : Option TypeInfo) (H : Hp) (p : Value) (k : Value → Prop) : Prop :=
  match d, i with
  | some d, some i => cond (isAggD d) (LdA i.size H p k) (Ld H p k)
  | _, _ => False
end Go.Sx
