import Derived.WalkKit
import Derived.Still
import Derived.KernelRfl
import Derived.Deep.Quiet
import Derived.OrdersHeld
/-
  A small separation logic over the model's heap, and the model's operations as laws of it. Nothing here names a program.
-/
set_option linter.unusedSimpArgs false
namespace Go.Sx
open Go

/-- a piece of heap: blocks by number -/
abbrev Hp := List (Nat × Obj)
/-- what a run is told of and leaves alone: the world that it began in, and blocks that stay as they are -/
structure Gh where
  w : World
  fr : Hp
/-- more blocks that stay -/
def Gh.add (g : Gh) (F : Hp) : Gh := ⟨g.w, F ++ g.fr⟩

/-- the world holds these blocks, each once, and those of g; what the run doesn't touch is as in g -/
structure Own (g : Gh) (H : Hp) (w : World) : Prop where
  os : w.os = g.w.os
  out : w.output = g.w.output
  tape : w.tape = g.w.tape
  nd : ((H ++ g.fr).map Prod.fst).Nodup
  has0 : ∀ x, x ∈ H ++ g.fr → w.heap[x.1]? = some x.2
theorem Own.has {g : Gh} {H : Hp} {w : World} (h : Own g H w) (x : Nat × Obj) (hx : x ∈ H) : w.heap[x.1]? = some x.2 := h.has0 x (List.mem_append_left _ hx)

theorem Own.perm {g : Gh} {H H' : Hp} {w : World} (h : Own g H w) (p : H.Perm H') : Own g H' w :=
  ⟨h.os, h.out, h.tape, ((p.append_right _).map _).nodup_iff.1 h.nd, fun x hx => h.has0 x ((p.append_right _).mem_iff.2 hx)⟩
theorem Own.right {g : Gh} {A B : Hp} {w : World} (h : Own g (A ++ B) w) : Own g B w :=
  ⟨h.os, h.out, h.tape, by have := h.nd; rw [List.append_assoc, List.map_append] at this; exact (List.nodup_append.1 this).2.1, fun x hx => h.has0 x (by rw [List.append_assoc]; exact List.mem_append_right _ hx)⟩
theorem Own.left {g : Gh} {A B : Hp} {w : World} (h : Own g (A ++ B) w) : Own g A w := Own.right (A := B) (h.perm List.perm_append_comm)
theorem Own.tail {g : Gh} {x : Nat × Obj} {B : Hp} {w : World} (h : Own g (x :: B) w) : Own g B w := Own.right (A := [x]) h
theorem Own.framed {g : Gh} {A F : Hp} {w : World} : Own g (A ++ F) w ↔ Own (g.add F) A w := by
  constructor
  · intro h; exact ⟨h.os, h.out, h.tape, by have := h.nd; rw [List.append_assoc] at this; exact this, fun x hx => h.has0 x (by rw [List.append_assoc]; exact hx)⟩
  · intro h; exact ⟨h.os, h.out, h.tape, by have := h.nd; rw [List.append_assoc]; exact this, fun x hx => h.has0 x (by rw [List.append_assoc] at hx; exact hx)⟩

/-- H is enough for H' -/
def Ent (H H' : Hp) : Prop := ∀ g w, Own g H w → Own g H' w
theorem Ent.refl (H : Hp) : Ent H H := fun _ _ h => h
theorem Ent.trans {A B C : Hp} (h : Ent A B) (h' : Ent B C) : Ent A C := fun g w x => h' g w (h g w x)
theorem Ent.perm {A B : Hp} (p : A.Perm B) : Ent A B := fun _ _ h => h.perm p
theorem Ent.right {A B : Hp} : Ent (A ++ B) B := fun _ _ h => h.right
theorem Ent.left {A B : Hp} : Ent (A ++ B) A := fun _ _ h => h.left
theorem Ent.tail {x : Nat × Obj} {B : Hp} : Ent (x :: B) B := fun _ _ h => h.tail
theorem Ent.frame {A B : Hp} (h : Ent A B) (F : Hp) : Ent (A ++ F) (B ++ F) := fun _ _ o => Own.framed.2 (h _ _ (Own.framed.1 o))
theorem Ent.prep {A B : Hp} (h : Ent A B) (F : Hp) : Ent (F ++ A) (F ++ B) := (Ent.perm List.perm_append_comm).trans ((h.frame F).trans (.perm List.perm_append_comm))

/-- one block turned -/
inductive Upd (b : Nat) (o o' : Obj) : Hp → Hp → Prop
  | head (R : Hp) : Upd b o o' ((b, o) :: R) ((b, o') :: R)
  | tail {x : Nat × Obj} {R R' : Hp} (h : Upd b o o' R R') : Upd b o o' (x :: R) (x :: R')

theorem Upd.mem {b : Nat} {o o' : Obj} {H H' : Hp} (h : Upd b o o' H H') : (b, o) ∈ H := by
  induction h with
  | head R => simp
  | tail _ ih => simp [ih]
theorem Upd.keys {b : Nat} {o o' : Obj} {H H' : Hp} (h : Upd b o o' H H') : H'.map Prod.fst = H.map Prod.fst := by
  induction h with
  | head R => simp
  | tail _ ih => simp [ih]
theorem Upd.mem_cases {b : Nat} {o o' : Obj} {H H' : Hp} (h : Upd b o o' H H') (nd : (H.map Prod.fst).Nodup) : ∀ x ∈ H', x = (b, o') ∨ (x ∈ H ∧ x.1 ≠ b) := by
  induction h with
  | head R =>
    intro x hx
    rcases List.mem_cons.1 hx with rfl | hx
    · exact .inl rfl
    · refine .inr ⟨by simp [hx], fun e => ?_⟩
      simp only [List.map_cons, List.nodup_cons] at nd
      exact nd.1 (e ▸ List.mem_map_of_mem hx)
  | @tail y R R' h ih =>
    intro x hx
    simp only [List.map_cons, List.nodup_cons] at nd
    rcases List.mem_cons.1 hx with rfl | hx
    · refine .inr ⟨by simp, fun e => ?_⟩
      exact nd.1 (e ▸ List.mem_map_of_mem (f := Prod.fst) h.mem)
    · rcases ih nd.2 x hx with h1 | h1
      · exact .inl h1
      · exact .inr ⟨by simp [h1.1], h1.2⟩
theorem Upd.append {b : Nat} {o o' : Obj} {C C' : Hp} (h : Upd b o o' C C') (B : Hp) : Upd b o o' (C ++ B) (C' ++ B) := by
  induction h with
  | head R => exact .head _
  | tail _ ih => exact .tail ih
theorem Own.upd {g : Gh} {H H' : Hp} {w w' : World} {b : Nat} {o o' : Obj} (h : Own g H w) (u : Upd b o o' H H')
    (hos : w'.os = w.os) (hout : w'.output = w.output) (htape : w'.tape = w.tape)
    (hb : w'.heap[b]? = some o') (hr : ∀ c, c ≠ b → w'.heap[c]? = w.heap[c]?) : Own g H' w' :=
  ⟨hos.trans h.os, hout.trans h.out, htape.trans h.tape, by rw [(u.append g.fr).keys]; exact h.nd, fun x hx => by
    rcases (u.append g.fr).mem_cases h.nd x hx with rfl | ⟨h1, h2⟩
    · exact hb
    · rw [hr _ h2]; exact h.has0 x h1⟩
theorem Own.same {g : Gh} {H : Hp} {w w' : World} (h : Own g H w) (hos : w'.os = w.os) (hout : w'.output = w.output) (htape : w'.tape = w.tape)
    (hr : ∀ (c : Nat) (o : Obj), w.heap[c]? = some o → w'.heap[c]? = some o) : Own g H w' :=
  ⟨hos.trans h.os, hout.trans h.out, htape.trans h.tape, h.nd, fun x hx => hr _ _ (h.has0 x hx)⟩
theorem Own.drew {g : Gh} {H : Hp} {w : World} (h : Own g H w) : Own g H w.drew := h.same rfl rfl rfl fun _ _ h => h
theorem Own.drew' {g : Gh} {H : Hp} {w : World} (h : Own g H w) : Own g H { w with drawn := w.drawn + 1 } := h.drew
theorem Own.lt0 {g : Gh} {H : Hp} {w : World} (h : Own g H w) {x : Nat × Obj} (hx : x ∈ H ++ g.fr) : x.1 < w.heap.size := by
  have := h.has0 x hx
  exact (Array.getElem?_eq_some_iff.1 this).1
theorem Own.lt {g : Gh} {H : Hp} {w : World} (h : Own g H w) {x : Nat × Obj} (hx : x ∈ H) : x.1 < w.heap.size := h.lt0 (List.mem_append_left _ hx)
theorem Own.fresh0 {g : Gh} {H : Hp} {w : World} (h : Own g H w) : w.heap.size ∉ (H ++ g.fr).map Prod.fst := by
  intro hm
  obtain ⟨x, hx, e⟩ := List.mem_map.1 hm
  have := h.lt0 hx
  omega
theorem Own.fresh {g : Gh} {H : Hp} {w : World} (h : Own g H w) : w.heap.size ∉ H.map Prod.fst := fun hm => h.fresh0 (by rw [List.map_append]; exact List.mem_append_left _ hm)
theorem Own.alloc {g : Gh} {H : Hp} {w : World} (h : Own g H w) (o : Obj) : Own g ((w.heap.size, o) :: H) (w.alloc o) := by
  refine ⟨h.os, h.out, h.tape, ?_, ?_⟩
  · rw [List.cons_append, List.map_cons, List.nodup_cons]; exact ⟨h.fresh0, h.nd⟩
  · intro x hx
    rw [List.cons_append] at hx
    rcases List.mem_cons.1 hx with rfl | hx
    · show (w.heap.push o)[w.heap.size]? = some o
      rw [Array.getElem?_push, if_pos rfl]
    · have := h.has0 x hx
      have hl := h.lt0 hx
      show (w.heap.push o)[x.1]? = some x.2
      rw [Array.getElem?_push, if_neg (by omega)]
      exact this

theorem Own.cell {g : Gh} {H : Hp} {w : World} (h : Own g H w) {b : Nat} {c : Array Value} {T : TypeId} {fz : Nat × Nat} (hm : (b, Obj.cells c T fz) ∈ H) (off : Nat) :
    w.cell? ⟨b, off, none⟩ = c[off]? := by
  have := h.has _ hm
  simp only [World.cell?]
  simp only at this
  rw [this]
  rfl
theorem Own.frozen {g : Gh} {H : Hp} {w : World} (h : Own g H w) {b : Nat} {c : Array Value} {T : TypeId} (hm : (b, Obj.cells c T (0, 0)) ∈ H) (off : Nat) (sp : Option Nat) :
    w.frozen? ⟨b, off, sp⟩ = false := by
  have := h.has _ hm
  simp only at this
  simp [World.frozen?, this]
theorem Own.shape {g : Gh} {H : Hp} {w : World} (h : Own g H w) {b : Nat} {c : Array Value} {T : TypeId} {fz : Nat × Nat} (hm : (b, Obj.cells c T fz) ∈ H) :
    w.shape? b = some (T, c.size) := by
  have := h.has _ hm
  simp only at this
  simp [World.shape?, this]

/-- cells laid over an array from off on -/
def over (c : Array Value) (off : Nat) : List Value → Array Value
  | [] => c
  | v :: r => over (c.setIfInBounds off v) (off + 1) r
theorem over_size (c : Array Value) (off : Nat) (l : List Value) : (over c off l).size = c.size := by
  induction l generalizing c off with
  | nil => rfl
  | cons v r ih => simp [over, ih]

theorem Own.setCell {g : Gh} {H : Hp} {w : World} (h : Own g H w) {b : Nat} {c : Array Value} {T : TypeId} {fz : Nat × Nat} {H' : Hp} (off : Nat) (v : Value)
    (u : Upd b (.cells c T fz) (.cells (c.setIfInBounds off v) T fz) H H') : Own g H' (w.setCell ⟨b, off, none⟩ v) := by
  refine h.upd u rfl rfl rfl ?_ ?_
  · have := h.has _ u.mem
    simp only at this
    simp [World.setCell, Array.getElem?_modify, this]
  · intro d hd
    simp only [World.setCell]
    rw [Array.getElem?_modify, if_neg (fun e => hd (Eq.symm e))]

/-- any update of one block can be put in the place of another -/
theorem Upd.re {b : Nat} {o o' : Obj} {H H' : Hp} (u : Upd b o o' H H') (o₁ : Obj) : ∃ H₁, Upd b o o₁ H H₁ ∧ Upd b o₁ o' H₁ H' := by
  induction u with
  | head R => exact ⟨_, .head R, .head R⟩
  | tail _ ih => obtain ⟨H₁, u1, u2⟩ := ih; exact ⟨_, .tail u1, .tail u2⟩

theorem run_storeCells_own {P : Program} {g : Gh} {b : Nat} {T : TypeId} (off : Nat) : ∀ (l : List Value) (i : Nat) (c : Array Value) (H H' : Hp) (w : World), Own g H w →
    Upd b (.cells c T (0, 0)) (.cells (over c (off + i) l) T (0, 0)) H H' → (∀ v ∈ l, v.oneCell' = true) → off + i + l.length ≤ c.size →
    ∃ w', (storeCells ⟨b, off, none⟩ l i).run P w = .ok () w' ∧ Own g H' w'
  | [], i, c, H, H', w, h, u, _, _ => by
    refine ⟨w, rfl, ?_⟩
    exact h.upd u rfl rfl rfl (h.has _ u.mem) fun _ _ => rfl
  | v :: r, i, c, H, H', w, h, u, h1, hs => by
    obtain ⟨H₁, u1, u2⟩ := u.re (.cells (c.setIfInBounds (off + i) v) T (0, 0))
    have hw1 := h.setCell (off + i) v u1
    simp only [List.length_cons] at hs
    obtain ⟨w', hr, ho⟩ := run_storeCells_own (P := P) off r (i + 1) (c.setIfInBounds (off + i) v) H₁ H' _ hw1 (by simpa [over, Nat.add_assoc] using u2) (fun x hx => h1 x (by simp [hx])) (by simp; omega)
    refine ⟨w', ?_, ho⟩
    have hc : w.cell? ⟨b, off + i, none⟩ = some c[off + i] := by
      rw [h.cell u.mem, Array.getElem?_eq_getElem]
    have hf := h.frozen u.mem (off + i) none
    have ha : Addr.add ⟨b, off, none⟩ i = ⟨b, off + i, none⟩ := Addr.add_lit _ _ _
    simp only [storeCells, Sem.run_bind, ha, run_store P w _ v .plain (h1 v (by simp)), hc, hf, Bool.false_eq_true, if_false, Result.andThen_ok, hr]

theorem run_loadCells_own {P : Program} {g : Gh} {H : Hp} {w : World} (h : Own g H w) {b : Nat} {c : Array Value} {T : TypeId} {fz : Nat × Nat} (hm : (b, Obj.cells c T fz) ∈ H)
    (off n : Nat) (hs : off + n ≤ c.size) : (loadCells ⟨b, off, none⟩ n).run P w = .ok (c.extract off (off + n)) w := by
  have hl : ((c.extract off (off + n)).toList).length = n := by simp; omega
  have := run_loadCells_list (P := P) w ⟨b, off, none⟩ (c.extract off (off + n)).toList (fun j v hj => by
    rw [Addr.add_lit, h.cell hm]
    have hjn : j < n := by
      have := (List.getElem?_eq_some_iff.1 hj).1
      omega
    rw [Array.getElem?_toList, Array.getElem?_extract] at hj
    rw [if_pos (by omega)] at hj
    exact hj)
  rw [hl] at this
  exact this

end Go.Sx
/-
  The operations of the model, one law an operation, over pieces of heap: what must hold of a piece so that the operation runs, with what value and what piece behind it.
-/
set_option linter.unusedSimpArgs false
set_option linter.unusedVariables false
namespace Go.Sx
open Go

abbrev Fr := Nat → Value
def upd (fr : Fr) (d : Option Nat) (v : Value) : Fr :=
  match d with
  | none => fr
  | some d => fun s => cond (Nat.beq s d) v (fr s)
def ev (fr : Fr) : Operand → Value
  | .tmp t => fr t
  | .const v => v
  | .global g => .pointer (some ⟨g, 0, none⟩)
  | .func f => .func (.func f) #[] #[]
def okDst (n : Nat) : Option Nat → Bool
  | none => true
  | some d => Nat.blt d n

structure Agree (n : Nat) (a : Act) (fr : Fr) : Prop where
  defers : a.defers = []
  size : a.tmps.size = n
  get : ∀ s, a.tmps.getD s undef = fr s
theorem Agree.eval {n : Nat} {a : Act} {fr : Fr} (h : Agree n a fr) : a.eval = ev fr := by
  funext x
  cases x <;> simp only [Act.eval, ev]
  exact h.get _
theorem Agree.put {n : Nat} {a : Act} {fr : Fr} (h : Agree n a fr) {d : Option Nat} (hd : okDst n d = true) (v : Value) : Agree n (a.put d v) (upd fr d v) := by
  cases d with
  | none => exact h
  | some d =>
    have hlt : d < n := by simpa [okDst, Nat.blt_eq] using hd
    refine ⟨h.defers, by simp [Act.put, h.size], fun s => ?_⟩
    simp only [Act.put, upd]
    have hs := h.size
    by_cases e : s = d
    · subst e; simp [hs, hlt]
    · have e' : d ≠ s := fun x => e x.symm
      have hb : Nat.beq s d = false := by
        cases hh : Nat.beq s d
        · rfl
        · exact absurd (Nat.eq_of_beq_eq_true hh) e
      rw [hb]
      simp only [cond_false]
      have := h.get s
      simpa [Array.getD_eq_getD_getElem?, Array.getElem?_setIfInBounds_ne e'] using this

/-- a call, on a piece of heap -/
def SCalls (P : Program) (g : Gh) (f : FuncId) (args : Array Value) (H : Hp) (R : Ending → Hp → Prop) : Prop :=
  ∀ w, Own g H w → Calls P f args w fun e w' => ∃ H', Own g H' w' ∧ R e H'
theorem SCalls.mono {P : Program} {g : Gh} {f : FuncId} {args : Array Value} {H : Hp} {R R' : Ending → Hp → Prop} (h : SCalls P g f args H R) (hr : ∀ e H', R e H' → R' e H') :
    SCalls P g f args H R' := fun w hw => (h w hw).mono fun e w' ⟨H', o, r⟩ => ⟨H', o, hr _ _ r⟩
theorem SCalls.pre {P : Program} {g : Gh} {f : FuncId} {args : Array Value} {H H' : Hp} {R : Ending → Hp → Prop} (h : SCalls P g f args H' R) (he : Ent H H') :
    SCalls P g f args H R := fun w hw => h w (he _ _ hw)
theorem SCalls.post {P : Program} {g : Gh} {f : FuncId} {args : Array Value} {H : Hp} {R R' : Ending → Hp → Prop} (h : SCalls P g f args H R)
    (hr : ∀ e H', R e H' → ∃ H'', Ent H' H'' ∧ R' e H'') : SCalls P g f args H R' := fun w hw => (h w hw).mono fun e w' ⟨H', o, r⟩ =>
  let ⟨H'', en, r'⟩ := hr _ _ r; ⟨H'', en _ _ o, r'⟩

def Kend (K : Value → Hp → Prop) (KP : List PanicEntry → Hp → Prop) : Ending → Hp → Prop
  | .returned v, H => K v H
  | .panicked ch, H => KP ch H
  | .outgrown, _ => False
/-- what is asked of an operation's outcome -/
def After (P : Program) (g : Gh) (K : Value → Hp → Prop) (KP : List PanicEntry → Hp → Prop) : Result Next → Prop
  | .ok (.value v) w => ∃ H, Own g H w ∧ K v H
  | .ok .skip w => ∃ H, Own g H w ∧ K undef H
  | .ok (.enter f args) w => Calls P f args w fun e w' => ∃ H, Own g H w' ∧ Kend K KP e H
  | .halt (.panic v) w => ∃ H, Own g H w ∧ KP [{ v, recovered := false }] H
  | _ => False
def Op1 (P : Program) (g : Gh) (o : Oper) (ρ : Operand → Value) (H : Hp) (K : Value → Hp → Prop) (KP : List PanicEntry → Hp → Prop) : Prop :=
  ∀ w, Own g H w → After P g K KP ((execOp ρ o).run P w)

/-! the words of a listing -/
def New (H : Hp) (o : Obj) (k : Nat → Hp → Prop) : Prop := ∀ b, b ∉ H.map Prod.fst → k b ((b, o) :: H)
def Pick (c a b : Value) (k : Value → Prop) : Prop := ∃ t, c = .bool t ∧ k (cond t a b)
def Ld (H : Hp) (p : Value) (k : Value → Prop) : Prop :=
  ∃ b off c T fz v, p = .pointer (some ⟨b, off, none⟩) ∧ (b, Obj.cells c T fz) ∈ H ∧ c[off]? = some v ∧ k v
def LdA (n : Nat) (H : Hp) (p : Value) (k : Value → Prop) : Prop :=
  ∃ b off c T fz, p = .pointer (some ⟨b, off, none⟩) ∧ (b, Obj.cells c T fz) ∈ H ∧ off + n ≤ c.size ∧ k (.agg (c.extract off (off + n)))
def St (n : Nat) (H : Hp) (p x : Value) (k : Hp → Prop) : Prop :=
  ∃ b off c T H', p = .pointer (some ⟨b, off, none⟩) ∧ x.cells.size = n ∧ off + n ≤ c.size ∧ (∀ v ∈ x.cells.toList, v.oneCell' = true) ∧
    Upd b (.cells c T (0, 0)) (.cells (over c off x.cells.toList) T (0, 0)) H H' ∧ k H'
def NilChk (x : Value) (k : Value → Prop) : Prop :=
  match x with
  | .pointer (some a) => k (.pointer (some a))
  | .func (.func f) a b => k (.func (.func f) a b)
  | .iface t v => k (.iface t v)
  | _ => False
/-- how '==' looks at a type -/
inductive BK | num | bool | ptr | slice | map | func | str | other
def bkOf : TypeDesc → BK
  | .bool => .bool
  | .int _ => .num
  | .pointer _ => .ptr
  | .slice _ => .slice
  | .map _ _ => .map
  | .func _ _ _ => .func
  | .string => .str
  | _ => .other
def intV (op : BinOp) (k : IntKind) (a b : Int) : Option Value :=
  match op with
  | .add => some (.int k (k.wrap (a + b)))
  | .sub => some (.int k (k.wrap (a - b)))
  | .mul => some (.int k (k.wrap (a * b)))
  | .quo => if b = 0 then none else some (.int k (k.wrap (a.tdiv b)))
  | .rem => if b = 0 then none else some (.int k (a.tmod b))
  | .and => some (.int k (bits .and k a b))
  | .or => some (.int k (bits .or k a b))
  | .xor => some (.int k (bits .xor k a b))
  | .andNot => some (.int k (bits .andNot k a b))
  | .eql => some (.bool (a == b))
  | .neq => some (.bool (a != b))
  | .lss => some (.bool (decide (a < b)))
  | .leq => some (.bool (decide (a ≤ b)))
  | .gtr => some (.bool (decide (b < a)))
  | .geq => some (.bool (decide (b ≤ a)))
  | _ => none
/-- operators whose answer hangs on the two values alone -/
def binV (kd : BK) (op : BinOp) (x y : Value) : Option Value :=
  match x with
  | .int k a =>
    match y with
    | .int k' b =>
      match op with
      | .shl => if b < 0 then none else some (.int k (k.wrap (a * 2 ^ (min b.toNat k.bits))))
      | .shr => if b < 0 then none else some (.int k (a.fdiv (2 ^ (min b.toNat k.bits))))
      | op => if k = k' then intV op k a b else none
    | _ => none
  | .bool a =>
    match kd, op, y with
    | .bool, .eql, .bool b => some (.bool (a == b))
    | .bool, .neq, .bool b => some (.bool (!(a == b)))
    | _, _, _ => none
  | .string a =>
    match op, y with
    | .eql, .string b => some (.bool (a.toList == b.toList))
    | .neq, .string b => some (.bool (!(a.toList == b.toList)))
    | _, _ => none
  | .pointer a =>
    match kd, op, y with
    | .ptr, .eql, .pointer b => if a.isNone ∨ b.isNone then some (.bool (a.isNone && b.isNone)) else none
    | .ptr, .neq, .pointer b => if a.isNone ∨ b.isNone then some (.bool (!(a.isNone && b.isNone))) else none
    | _, _, _ => none
  | .slice a n c =>
    match kd, op, y with
    | .slice, .eql, .slice b _ _ => if a.isNone ∨ b.isNone then some (.bool (a.isNone && b.isNone)) else none
    | .slice, .neq, .slice b _ _ => if a.isNone ∨ b.isNone then some (.bool (!(a.isNone && b.isNone))) else none
    | _, _, _ => none
  | .map a =>
    match kd, op, y with
    | .map, .eql, .map b => if a.isNone ∨ b.isNone then some (.bool (a.isNone && b.isNone)) else none
    | .map, .neq, .map b => if a.isNone ∨ b.isNone then some (.bool (!(a.isNone && b.isNone))) else none
    | _, _, _ => none
  | _ => none
def Bin (kd : BK) (op : BinOp) (x y : Value) (k : Value → Prop) : Prop := ∃ v, binV kd op x y = some v ∧ k v
def unV (op : UnOp) (x : Value) : Option Value :=
  match op, x with
  | .neg, .int k n => some (.int k (k.wrap (0 - n)))
  | .not, .bool b => some (.bool !b)
  | .xor, .int k n => some (.int k (bits .xor k (if k.signed then -1 else k.max) n))
  | _, _ => none
def Un (op : UnOp) (x : Value) (k : Value → Prop) : Prop := ∃ v, unV op x = some v ∧ k v
def ConvI (kd : IntKind) (x : Value) (k : Value → Prop) : Prop := ∃ j n, x = .int j n ∧ k (.int kd (kd.wrap n))
def FAddr (off : Nat) (x : Value) (k : Value → Prop) : Prop := ∃ b o, x = .pointer (some ⟨b, o, none⟩) ∧ k (.pointer (some ⟨b, o + off, none⟩))
def Fld (off : Nat) (x : Value) (k : Value → Prop) : Prop := ∃ cs v, x = .agg cs ∧ cs[off]? = some v ∧ k v
def FldA (off n : Nat) (x : Value) (k : Value → Prop) : Prop := ∃ cs, x = .agg cs ∧ k (.agg (cs.extract off (off + n)))
/-- '&s[i]' -/
def IAddr (size : Nat) (x ix : Value) (k : Value → Prop) : Prop :=
  ∃ b o n c kd i, x = .slice (some ⟨b, o, none⟩) n c ∧ ix = .int kd i ∧ 0 ≤ i ∧ i < (n : Int) ∧ k (.pointer (some ⟨b, o + i.toNat * size, none⟩))
/-- '&a[i]', a an array variable -/
def AAddr (len size : Nat) (x ix : Value) (k : Value → Prop) : Prop :=
  ∃ b o kd i, x = .pointer (some ⟨b, o, none⟩) ∧ ix = .int kd i ∧ 0 ≤ i ∧ i < (len : Int) ∧ k (.pointer (some ⟨b, o + i.toNat * size, none⟩))
def loOf : Option Value → Option Int
  | none => some 0
  | some (.int _ n) => some n
  | _ => none
def hiOf (len : Nat) : Option Value → Option Int
  | none => some len
  | some (.int _ n) => some n
  | _ => none
/-- 's[lo:hi]' of a slice -/
def SliceE (size : Nat) (x : Value) (lo hi : Option Value) (k : Value → Prop) : Prop :=
  ∃ a n c l h, x = .slice a n c ∧ loOf lo = some l ∧ hiOf n hi = some h ∧ 0 ≤ l ∧ l ≤ h ∧ h ≤ (c : Int) ∧
    k (.slice (if c = l.toNat then a else a.map (·.add (l.toNat * size))) (h.toNat - l.toNat) (c - l.toNat))
def Ext (i : Nat) (x : Value) (k : Value → Prop) : Prop := ∃ vs v, x = .tuple vs ∧ vs[i]? = some v ∧ k v
def LenS (x : Value) (k : Value → Prop) : Prop := ∃ a n c, x = .slice a n c ∧ k (.int .i64 n)
def LenM (H : Hp) (x : Value) (k : Value → Prop) : Prop :=
  ∃ m, x = .map m ∧ ((m = none ∧ k (.int .i64 0)) ∨ ∃ b es clock, m = some b ∧ (b, Obj.map es clock) ∈ H ∧ k (.int .i64 es.size))
/-- the first n cells of a slice's array -/
def Cells (H : Hp) (base : Option Addr) (n : Nat) (cs : Array Value) : Prop :=
  match base with
  | none => cs = #[]
  | some a => (n = 0 ∧ cs = #[]) ∨ (a.spot = none ∧ ∃ c T fz, (a.block, Obj.cells c T fz) ∈ H ∧ a.off + n ≤ c.size ∧ cs = c.extract a.off (a.off + n))
def App (P : Program) (elem size bytes : Nat) (zero : Value) (H : Hp) (s x : Value) (k : Value → Hp → Prop) : Prop :=
  ∃ base n cap xb m xc olds news, s = .slice base n cap ∧ x = .slice xb m xc ∧ Cells H base (n * size) olds ∧ Cells H xb (m * size) news ∧
    news.size = m * size ∧ olds.size = n * size ∧ (∀ v ∈ news.toList, v.oneCell' = true) ∧
    (n + m ≤ cap → match base with
      | none => k (.slice none (n + m) cap) H
      | some a => ∃ c T H', a.spot = none ∧ a.off + n * size + m * size ≤ c.size ∧ Upd a.block (.cells c T (0, 0)) (.cells (over c (a.off + n * size) news.toList) T (0, 0)) H H' ∧ k (.slice (some a) (n + m) cap) H') ∧
    (cap < n + m → (n + m) * bytes ≤ 140737488355328 ∧ (n + m : Nat) ≤ 9223372036854775807 ∧ ∀ newcap, n + m ≤ newcap →
      New H (.cells (olds ++ news ++ Builtin.zeroCells zero.cells (newcap - (n + m))) elem (0, 0)) fun b H' => ∃ H'', Ent H' H'' ∧ k (.slice (some ⟨b, 0, none⟩) (n + m) newcap) H'')
def MkSlice (elem size bytes : Nat) (zero : Value) (H : Hp) (l c : Value) (k : Value → Hp → Prop) : Prop :=
  ∃ kl kc ln cn, l = .int kl (ln : Nat) ∧ c = .int kc (cn : Nat) ∧ ln ≤ cn ∧ (cn : Int) ≤ 9223372036854775807 ∧ cn * bytes ≤ 281474976710656 ∧
    New H (.cells (madeCells zero.cells (cn * size)) elem (0, 0)) fun b H' => k (.slice (some ⟨b, 0, none⟩) ln cn) H'
def MkMap (H : Hp) (k : Value → Hp → Prop) : Prop := New H (.map #[] 0) fun b H' => k (.map (some b)) H'
def MapAt (H : Hp) (m : Value) (es : Array MapEntry) : Prop := (m = .map none ∧ es = #[]) ∨ ∃ b clock, m = .map (some b) ∧ (b, Obj.map es clock) ∈ H
/-- a look-up in a map whose keys are plain (numbers, strings, bools) -/
def Look (kd : TypeDesc) (zero : Value) (ok : Bool) (H : Hp) (m key : Value) (k : Value → Prop) : Prop :=
  ∃ es r, MapAt H m es ∧ Instr.findNow kd key es.toList 0 = some r ∧
    k (match r with
      | some (_, v) => cond ok (.tuple #[v, .bool true]) v
      | none => cond ok (.tuple #[zero, .bool false]) zero)
def MapUpd (kd : TypeDesc) (H : Hp) (m key val : Value) (k : Hp → Prop) : Prop :=
  ∃ b es clock r, m = .map (some b) ∧ Instr.findNow kd key es.toList 0 = some r ∧
    match r with
    | some (i, _) => (∀ e, es[i]? = some e → Instr.sameBits 10000 e.key key = true) ∧ i < es.size ∧ ∃ H', Upd b (.map es clock) (.map (es.modify i fun e => { e with key, val }) clock) H H' ∧ k H'
    | none => ∃ H', Upd b (.map es clock) (.map (es.push { key, val, born := clock }) (clock + 1)) H H' ∧ k H'
def MapDel (kd : TypeDesc) (H : Hp) (m key : Value) (k : Hp → Prop) : Prop :=
  (m = .map none ∧ k H) ∨ ∃ b es clock r, m = .map (some b) ∧ Instr.findNow kd key es.toList 0 = some r ∧
    match r with
    | some (i, _) => ∃ H', Upd b (.map es clock) (.map (es.eraseIdxIfInBounds i) clock) H H' ∧ k H'
    | none => (b, Obj.map es clock) ∈ H ∧ k H
/-- may function f be called: it has a body and none of the model's own names -/
def callable (P : Program) (f : FuncId) : Bool :=
  match P.funcs[f]? with
  | none => false
  | some fn => !(fn.name == "runtime.NumGoroutine") && fn.body.isSome
def CallF (P : Program) (g : Gh) (f : FuncId) (args : Array Value) (H : Hp) (K : Value → Hp → Prop) (KP : List PanicEntry → Hp → Prop) : Prop :=
  SCalls P g f args H (Kend K KP)
def CallV (P : Program) (g : Gh) (fv : Value) (args : Array Value) (H : Hp) (K : Value → Hp → Prop) (KP : List PanicEntry → Hp → Prop) : Prop :=
  ∃ f first captured, fv = .func (.func f) first captured ∧ callable P f = true ∧ CallF P g f (first ++ args ++ captured) H K KP
/-! maps whose keys are structs or arrays -/
def EqV (P : Program) (kt : TypeId) (x y : Value) (b : Bool) : Prop := ∀ w, (Op.equal kt x y).run P w = .ok b w
def ChkV (P : Program) (kt : TypeId) (x : Value) : Prop := ∀ e w, (Instr.checkKey e 10000 kt x).run P w = .ok () w
def FindS (P : Program) (kt : TypeId) (key : Value) : List MapEntry → Nat → Option (Nat × Value) → Prop
  | [], _, r => r = none
  | e :: es, i, r => ∃ b, EqV P kt key e.key b ∧ (b = true → r = some (i, e.val)) ∧ (b = false → FindS P kt key es (i + 1) r)
def LookS (P : Program) (kt : TypeId) (zero : Value) (ok : Bool) (H : Hp) (m key : Value) (k : Value → Prop) : Prop :=
  ∃ es r, MapAt H m es ∧ ChkV P kt key ∧ FindS P kt key es.toList 0 r ∧
    k (match r with
      | some (_, v) => cond ok (.tuple #[v, .bool true]) v
      | none => cond ok (.tuple #[zero, .bool false]) zero)
def MapUpdS (P : Program) (kt : TypeId) (H : Hp) (m key val : Value) (k : Hp → Prop) : Prop :=
  ∃ b es clock r, m = .map (some b) ∧ ChkV P kt key ∧ FindS P kt key es.toList 0 r ∧
    match r with
    | some (i, _) => (∀ e, es[i]? = some e → Instr.sameBits 10000 e.key key = true) ∧ i < es.size ∧ ∃ H', Upd b (.map es clock) (.map (es.modify i fun e => { e with key, val }) clock) H H' ∧ k H'
    | none => ∃ H', Upd b (.map es clock) (.map (es.push { key, val, born := clock }) (clock + 1)) H H' ∧ k H'
def MapDelS (P : Program) (kt : TypeId) (H : Hp) (m key : Value) (k : Hp → Prop) : Prop :=
  ChkV P kt key ∧ ((m = .map none ∧ k H) ∨ ∃ b es clock r, m = .map (some b) ∧ FindS P kt key es.toList 0 r ∧
    match r with
    | some (i, _) => ∃ H', Upd b (.map es clock) (.map (es.eraseIdxIfInBounds i) clock) H H' ∧ k H'
    | none => (b, Obj.map es clock) ∈ H ∧ k H)
/-- 'range m' begins -/
def Rng (H : Hp) (x : Value) (k : Value → Hp → Prop) : Prop :=
  (x = .map none ∧ New H (.mapIter none 0 #[] 0) fun b H' => k (.pointer (some ⟨b, 0, none⟩)) H') ∨
  ∃ m es clock, x = .map (some m) ∧ (m, Obj.map es clock) ∈ H ∧ New H (.mapIter (some m) clock #[] clock) fun b H' => k (.pointer (some ⟨b, 0, none⟩)) H'
/-- its next round, of a map to which nothing was added since -/
def Nxt (H : Hp) (it : Value) (k : Value → Hp → Prop) : Prop :=
  ∃ b mo since seen last, it = .pointer (some ⟨b, 0, none⟩) ∧ (b, Obj.mapIter mo since seen last) ∈ H ∧
    match mo with
    | none => k (.tuple #[.bool false]) H
    | some m => ∃ es clock, (m, Obj.map es clock) ∈ H ∧ (∀ e ∈ es.toList, e.born < since ∧ e.born < last) ∧
      (∀ e ∈ es.toList, e.born ∉ seen → ∃ H', Upd b (.mapIter (some m) since seen last) (.mapIter (some m) since (seen.push e.born) clock) H H' ∧ k (.tuple #[.bool true, e.key, e.val]) H') ∧
      ((∀ e ∈ es.toList, e.born ∈ seen) → k (.tuple #[.bool false]) H)
/-- the entry at which the ranging stands, read anew -/
def Entr (H : Hp) (it : Value) (k : Value → Prop) : Prop :=
  ∃ b m since seen stamp clock es e, it = .pointer (some ⟨b, 0, none⟩) ∧ (b, Obj.mapIter (some m) since seen clock) ∈ H ∧ seen.back? = some stamp ∧ (m, Obj.map es clock) ∈ H ∧ es.find? (·.born == stamp) = some e ∧ k (.tuple #[e.key, e.val])
def MaxI (x y : Value) (k : Value → Prop) : Prop := ∃ kd a b, x = .int kd a ∧ y = .int kd b ∧ k (.int kd (if b > a then b else a))
def MinI (x y : Value) (k : Value → Prop) : Prop := ∃ kd a b, x = .int kd a ∧ y = .int kd b ∧ k (.int kd (if b < a then b else a))
/-- string(bytes) -/
def BytesS (H : Hp) (x : Value) (k : Value → Prop) : Prop :=
  ∃ base n c, ∃ bs : List UInt8, x = .slice base n c ∧ Cells H base n ((bs.map fun b => Value.int .u8 b.toNat).toArray) ∧ bs.length = n ∧ k (.string ⟨bs.toArray⟩)
/-- 's[i]' of a string -/
def StrIx (x i : Value) (k : Value → Prop) : Prop := ∃ s kd j b, x = .string s ∧ i = .int kd j ∧ 0 ≤ j ∧ s[j.toNat]? = some b ∧ k (.int .u8 b.toNat)
def LenStr (x : Value) (k : Value → Prop) : Prop := ∃ s, x = .string s ∧ k (.int .i64 s.size)
def plainKey : TypeDesc → Bool
  | .int _ | .string | .bool => true
  | _ => false
def isAggD : TypeDesc → Bool
  | .struct _ | .array _ _ => true
  | _ => false

def loadK (d : Option TypeDesc) (i : Option TypeInfo) (H : Hp) (p : Value) (k : Value → Prop) : Prop :=
  match d, i with
  | some d, some i => cond (isAggD d) (LdA i.size H p k) (Ld H p k)
  | _, _ => False
end Go.Sx
/-
  Each law of SxB is true of the model's operation.
-/
set_option linter.unusedSimpArgs false
set_option linter.unusedVariables false
namespace Go.Sx
open Go
section
variable {P : Program} {g : Gh} {H : Hp} {K : Value → Hp → Prop} {KP : List PanicEntry → Hp → Prop}

theorem After.value {v : Value} {w : World} (ho : Own g H w) (hk : K v H) : After P g K KP (.ok (.value v) w) := ⟨H, ho, hk⟩

theorem run_zero {t : TypeId} {i : TypeInfo} {z : Value} (hi : P.info? t = some i) (hz : i.zero = some z) (w : World) : (zeroValue t).run P w = .ok z w := by
  simp [zeroValue, typeInfo, hi, hz]
theorem run_isAgg {t : TypeId} {d : TypeDesc} (hd : P.underlying t = some d) (w : World) : (isAgg t).run P w = .ok (isAggD d) w := by
  simp only [isAgg, Sem.run_bind, run_underlying hd, Result.andThen_ok]
  cases d <;> rfl
theorem run_sizeOf {t : TypeId} {i : TypeInfo} (hi : P.info? t = some i) (w : World) : (sizeOf t).run P w = .ok i.size w := by
  simp [sizeOf, typeInfo, hi]

theorem New.after {o : Obj} (h : New H o fun b H' => K (.pointer (some ⟨b, 0, none⟩)) H') {w : World} (hw : Own g H w) :
    After P g K KP (.ok (.value (.pointer (some ⟨w.heap.size, 0, none⟩))) (w.alloc o)) :=
  ⟨_, hw.alloc o, h _ hw.fresh⟩

theorem Ld.run {p : Value} {k : Value → Prop} (h : Ld H p k) {w : World} (hw : Own g H w) {t : TypeId} {d : TypeDesc} (hd : P.underlying t = some d) (ha : isAggD d = false) :
    ∃ v, (Instr.loadAt t p).run P w = .ok v w ∧ k v := by
  obtain ⟨b, off, c, T, fz, v, rfl, hm, hc, hk⟩ := h
  refine ⟨v, ?_, hk⟩
  have := hw.cell hm off
  rw [hc] at this
  simp only [Instr.loadAt, Instr.sureAddr, loadVar, Sem.run_bind, Sem.run_pure, Result.andThen_ok, run_isAgg hd, ha, Sem.run_ite, Bool.false_eq_true, if_false, run_load, this]
theorem LdA.run {n : Nat} {p : Value} {k : Value → Prop} (h : LdA n H p k) {w : World} (hw : Own g H w) {t : TypeId} {d : TypeDesc} (hd : P.underlying t = some d) (ha : isAggD d = true)
    {i : TypeInfo} (hi : P.info? t = some i) (hn : i.size = n) :
    ∃ v, (Instr.loadAt t p).run P w = .ok v w ∧ k v := by
  obtain ⟨b, off, c, T, fz, rfl, hm, hs, hk⟩ := h
  refine ⟨_, ?_, hk⟩
  simp only [Instr.loadAt, Instr.sureAddr, loadVar, Sem.run_bind, Sem.run_pure, Result.andThen_ok, run_isAgg hd, ha, Sem.run_ite, if_true, run_sizeOf hi, hn, run_loadCells_own hw hm off n hs]
theorem St.run {n : Nat} {p x : Value} {k : Hp → Prop} (h : St n H p x k) {w : World} (hw : Own g H w) {t : TypeId} {i : TypeInfo} (hi : P.info? t = some i) (hn : i.size = n) :
    ∃ w' H', (Instr.storeAt t p x).run P w = .ok () w' ∧ Own g H' w' ∧ k H' := by
  obtain ⟨b, off, c, T, H', rfl, hx, hs, hv, hu, hk⟩ := h
  obtain ⟨w', hr, ho⟩ := run_storeCells_own (P := P) off x.cells.toList 0 c H H' w hw (by simpa using hu) hv (by simp; omega)
  refine ⟨w', H', ?_, ho, hk⟩
  simp only [Instr.storeAt, Instr.sureAddr, storeVar, Sem.run_bind, Sem.run_pure, Result.andThen_ok, run_sizeOf hi, hn, hx, ne_eq, not_true, if_false, hr]
  
theorem intV_run {op : BinOp} {k : IntKind} {a b : Int} {v : Value} {t : TypeId} (h : intV op k a b = some v) (w : World) (hs : op ≠ .shl ∧ op ≠ .shr) :
    (binOp op t (.int k a) (.int k b)).run P w = .ok v w := by
  cases op <;> simp [intV] at h hs <;> try subst h
  case quo => 
    obtain ⟨h0, rfl⟩ := h
    simp [binOp, Op.intDiv, h0]
  case rem =>
    obtain ⟨h0, rfl⟩ := h
    simp [binOp, Op.intDiv, h0]
  all_goals first
    | simp [binOp, Op.intArith]; done
    | simp [binOp, Op.intCmp]; done
    | (simp only [binOp_and, binOp_or, binOp_xor, binOp_andNot, intBits_and, intBits_or, intBits_xor, intBits_andNot]; rfl)

theorem run_equal_of {t : TypeId} {x y : Value} {r : Result Bool} {w : World} (h : ∀ d, (Op.equalIn (d + 1) t x y).run P w = r) : (Op.equal t x y).run P w = r := h 9999
theorem run_eql_bool {t : TypeId} (hd : P.underlying t = some .bool) (a b : Bool) (w : World) : (Op.equal t (.bool a) (.bool b)).run P w = .ok (a == b) w :=
  run_equal_of fun d => by simp [Op.equalIn, run_underlying hd]
theorem run_eql_ptr {t e : TypeId} (hd : P.underlying t = some (.pointer e)) (a b : Option Addr) (hab : a.isNone ∨ b.isNone) (w : World) : (Op.equal t (.pointer a) (.pointer b)).run P w = .ok (a.isNone && b.isNone) w :=
  run_equal_of fun d => by cases a <;> cases b <;> simp at hab <;> simp [Op.equalIn, run_underlying hd]
theorem run_eql_slice {t e : TypeId} (hd : P.underlying t = some (.slice e)) (a b : Option Addr) (n c n' c' : Nat) (hab : a.isNone ∨ b.isNone) (w : World) : (Op.equal t (.slice a n c) (.slice b n' c')).run P w = .ok (a.isNone && b.isNone) w :=
  run_equal_of fun d => by cases a <;> cases b <;> simp at hab <;> simp [Op.equalIn, run_underlying hd]
theorem run_eql_map {t e f : TypeId} (hd : P.underlying t = some (.map e f)) (a b : Option Nat) (hab : a.isNone ∨ b.isNone) (w : World) : (Op.equal t (.map a) (.map b)).run P w = .ok (a.isNone && b.isNone) w :=
  run_equal_of fun d => by cases a <;> cases b <;> simp at hab <;> simp [Op.equalIn, run_underlying hd]
theorem binV_run {kd : BK} {op : BinOp} {x y v : Value} {t : TypeId} {d : TypeDesc} (hd : P.underlying t = some d) (hk : bkOf d = kd) (h : binV kd op x y = some v) (w : World) :
    (binOp op t x y).run P w = .ok v w := by
  cases x <;> simp only [binV] at h <;> try (simp at h; done)
  case int k a =>
    cases y <;> simp only at h <;> try (simp at h; done)
    rename_i k' b
    by_cases hs : op = .shl
    · subst hs
      simp only at h
      split at h
      · simp at h
      · simp only [Option.some.injEq] at h; subst h; rename_i hb; simp [binOp, Op.shift, hb]
    by_cases hs' : op = .shr
    · subst hs'
      simp only at h
      split at h
      · simp at h
      · simp only [Option.some.injEq] at h; subst h; rename_i hb; simp [binOp, Op.shift, hb]
    have h2 : (if k = k' then intV op k a b else none) = some v := by
      cases op <;> first | exact h | exact absurd rfl hs | exact absurd rfl hs'
    split at h2
    · rename_i e; subst e; exact intV_run h2 w ⟨hs, hs'⟩
    · simp at h2
  case bool a =>
    split at h <;> simp only [Option.some.injEq, reduceCtorEq] at h
    all_goals
      subst h
      have : d = .bool := by cases d <;> simp_all [bkOf]
      subst this
      simp [binOp, run_eql_bool hd]
  case string a =>
    split at h <;> simp only [Option.some.injEq, reduceCtorEq] at h
    all_goals
      subst h
      first | rfl | (simp only [binOp, Op.stringOp]; rfl)
  case pointer a =>
    split at h <;> try (simp at h; done)
    all_goals
      have : ∃ e, d = .pointer e := by cases d <;> simp_all [bkOf]
      obtain ⟨e, rfl⟩ := this
      split at h <;> simp only [Option.some.injEq, reduceCtorEq] at h
      subst h
      rename_i bb hab
      simp [binOp, run_eql_ptr hd _ _ hab]
  case slice a n c =>
    split at h <;> try (simp at h; done)
    all_goals
      have : ∃ e, d = .slice e := by cases d <;> simp_all [bkOf]
      obtain ⟨e, rfl⟩ := this
      split at h <;> simp only [Option.some.injEq, reduceCtorEq] at h
      subst h
      rename_i bb _ _ hab
      simp [binOp, run_eql_slice hd _ _ _ _ _ _ hab]
  case map a =>
    split at h <;> try (simp at h; done)
    all_goals
      have : ∃ e f, d = .map e f := by cases d <;> simp_all [bkOf]
      obtain ⟨e, f, rfl⟩ := this
      split at h <;> simp only [Option.some.injEq, reduceCtorEq] at h
      subst h
      rename_i bb hab
      simp [binOp, run_eql_map hd _ _ hab]

theorem binV_guard {kd : BK} {op : BinOp} {x y v : Value} {t : TypeId} {ox oy : Operand} (h : binV kd op x y = some v) : eqGuard op t ox oy x y = pure () := by
  cases x <;> simp [binV] at h <;> cases op <;> rfl

theorem Bin.run {kd : BK} {op : BinOp} {x y : Value} {k : Value → Prop} (h : Bin kd op x y k) (w : World) {t : TypeId} {d : TypeDesc} {ox oy : Operand} (hd : P.underlying t = some d) (hk : bkOf d = kd) :
    ∃ v, (do eqGuard op t ox oy x y; binOp op t x y : Sem Value).run P w = .ok v w ∧ k v := by
  obtain ⟨v, hv, hkv⟩ := h
  refine ⟨v, ?_, hkv⟩
  rw [Sem.run_bind, binV_guard hv]
  simp only [Sem.run_pure, Result.andThen_ok]
  exact binV_run hd hk hv w
theorem Un.run {op : UnOp} {x : Value} {k : Value → Prop} (h : Un op x k) (w : World) : ∃ v, (Op.unary op x).run P w = .ok v w ∧ k v := by
  obtain ⟨v, hv, hk⟩ := h
  refine ⟨v, ?_, hk⟩
  cases op <;> cases x <;> simp [unV] at hv <;> subst hv
  all_goals first | (simp [Op.unary, Op.intArith]; done) | rfl
theorem ConvI.run {kd : IntKind} {x : Value} {k : Value → Prop} (h : ConvI kd x k) (w : World) {src dst : TypeId} {ds dd : TypeDesc} (hs : P.underlying src = some ds) (hd : P.underlying dst = some dd) (hk : dd = .int kd) :
    ∃ v, (convert src dst x).run P w = .ok v w ∧ k v := by
  obtain ⟨j, n, rfl, hkv⟩ := h
  subst hk
  refine ⟨_, ?_, hkv⟩
  simp only [convert, Sem.run_bind, run_underlying hs, run_underlying hd, Result.andThen_ok]
  cases ds <;> rfl
theorem FAddr.run {off : Nat} {x : Value} {k : Value → Prop} (h : FAddr off x k) (w : World) {s : TypeId} {fs : Array Field} {f : Nat} {fl : Field} {i : TypeInfo} (hs : P.underlying s = some (.struct fs)) (hf : fs[f]? = some fl)
    (hi : P.info? fl.type = some i) (h0 : i.size ≠ 0) (ho : fl.offset = off) : ∃ v, (Instr.fieldAt s x f).run P w = .ok v w ∧ k v := by
  obtain ⟨b, o, rfl, hk⟩ := h
  refine ⟨_, ?_, hk⟩
  subst ho
  simp [Instr.fieldAt, run_underlying hs, hf, Instr.sureAddr, fieldPlace, run_sizeOf hi, h0, Addr.add_lit]
theorem Fld.run {off : Nat} {x : Value} {k : Value → Prop} (h : Fld off x k) (w : World) {s : TypeId} {fs : Array Field} {f : Nat} {fl : Field} {d : TypeDesc} (hs : P.underlying s = some (.struct fs)) (hf : fs[f]? = some fl)
    (hd : P.underlying fl.type = some d) (ha : isAggD d = false) (ho : fl.offset = off) : ∃ v, (Instr.field s x f).run P w = .ok v w ∧ k v := by
  obtain ⟨cs, v, rfl, hc, hk⟩ := h
  refine ⟨v, ?_, hk⟩
  subst ho
  simp [Instr.field, run_underlying hs, hf, asAgg, part, run_isAgg hd, ha, hc]
theorem FldA.run {off n : Nat} {x : Value} {k : Value → Prop} (h : FldA off n x k) (w : World) {s : TypeId} {fs : Array Field} {f : Nat} {fl : Field} {d : TypeDesc} {i : TypeInfo} (hs : P.underlying s = some (.struct fs)) (hf : fs[f]? = some fl)
    (hd : P.underlying fl.type = some d) (ha : isAggD d = true) (hi : P.info? fl.type = some i) (hn : i.size = n) (ho : fl.offset = off) : ∃ v, (Instr.field s x f).run P w = .ok v w ∧ k v := by
  obtain ⟨cs, rfl, hk⟩ := h
  refine ⟨_, ?_, hk⟩
  subst ho; subst hn
  simp [Instr.field, run_underlying hs, hf, asAgg, part, run_isAgg hd, ha, run_sizeOf hi]
theorem IAddr.run {size : Nat} {x ix : Value} {k : Value → Prop} (h : IAddr size x ix k) (w : World) {t e : TypeId} {i : TypeInfo} (ht : P.underlying t = some (.slice e)) (hi : P.info? e = some i) (hn : i.size = size) :
    ∃ v, (Instr.indexAt t x ix).run P w = .ok v w ∧ k v := by
  obtain ⟨b, o, n, c, kd, j, rfl, rfl, h0, h1, hk⟩ := h
  refine ⟨_, ?_, hk⟩
  subst hn
  simp [Instr.indexAt, run_underlying ht, asIntOf, h0, h1, run_sizeOf hi, Addr.add_lit]
theorem AAddr.run {len size : Nat} {x ix : Value} {k : Value → Prop} (h : AAddr len size x ix k) (w : World) {t e : TypeId} {i : TypeInfo} (ht : P.underlying t = some (.array len e)) (hi : P.info? e = some i) (hn : i.size = size) :
    ∃ v, (Instr.indexAt t x ix).run P w = .ok v w ∧ k v := by
  obtain ⟨b, o, kd, j, rfl, rfl, h0, h1, hk⟩ := h
  refine ⟨_, ?_, hk⟩
  subst hn
  simp [Instr.indexAt, run_underlying ht, asIntOf, h0, h1, run_sizeOf hi, Addr.add_lit, Instr.sureAddr]
theorem SliceE.run {size : Nat} {x : Value} {lo hi : Option Value} {k : Value → Prop} (h : SliceE size x lo hi k) (w : World) {t e : TypeId} {i : TypeInfo} (ht : P.underlying t = some (.slice e)) (hi' : P.info? e = some i) (hn : i.size = size) :
    ∃ v, (Instr.sliceAt t x lo hi none).run P w = .ok v w ∧ k v := by
  obtain ⟨a, n, c, l, hh, rfl, hl, hh', h0, h1, h2, hk⟩ := h
  refine ⟨_, ?_, hk⟩
  subst hn
  have bl : ∀ (kk : IntKind) (z : Int) (y : Nat) (cd : BoundsCode), 0 ≤ z → z ≤ y → (Instr.sliceBound (.int kk z) y cd).run P w = .ok z.toNat w := by
    intro kk z y cd a1 a2
    simp [Instr.sliceBound, asIntOf, a1, a2]
  have hcl : ∀ (m l : Nat), (if m = l then a else a.map (·.add (l * i.size))) = (if m = l then a else a.map fun x => x.add (l * i.size)) := fun _ _ => rfl
  have e1 : l ≤ ((hh.toNat : Nat) : Int) := by omega
  cases lo with
  | none =>
    simp only [loOf, Option.some.injEq] at hl
    subst hl
    cases hi with
    | none =>
      simp only [hiOf, Option.some.injEq] at hh'
      subst hh'
      simp [Instr.sliceAt, run_underlying ht, Instr.slice, Instr.sliceBounds, run_sizeOf hi']
    | some v =>
      cases v <;> simp only [hiOf, reduceCtorEq, Option.some.injEq] at hh'
      subst hh'
      simp [Instr.sliceAt, run_underlying ht, Instr.slice, Instr.sliceBounds, run_sizeOf hi', bl _ _ c .sliceAcap (by omega) h2]
  | some vl =>
    cases vl <;> simp only [loOf, reduceCtorEq, Option.some.injEq] at hl
    subst hl
    cases hi with
    | none =>
      simp only [hiOf, Option.some.injEq] at hh'
      subst hh'
      have := bl ‹_› _ n .sliceB h0 h1
      simp [Instr.sliceAt, run_underlying ht, Instr.slice, Instr.sliceBounds, run_sizeOf hi', this]
    | some v =>
      cases v <;> simp only [hiOf, reduceCtorEq, Option.some.injEq] at hh'
      subst hh'
      rename_i k1 n1 k2 n2
      have b1 := bl k2 n2 c .sliceAcap (by omega) h2
      have b2 := bl k1 n1 n2.toNat .sliceB h0 (by omega)
      simp [Instr.sliceAt, run_underlying ht, Instr.slice, Instr.sliceBounds, run_sizeOf hi', b1, b2]
theorem Ext.run {i : Nat} {x : Value} {k : Value → Prop} (h : Ext i x k) (w : World) : ∃ v, (Instr.extract x i).run P w = .ok v w ∧ k v := by
  obtain ⟨vs, v, rfl, hv, hk⟩ := h
  exact ⟨v, by simp [Instr.extract, hv], hk⟩
theorem LenS.run {x : Value} {k : Value → Prop} (h : LenS x k) (w : World) {t e ty : TypeId} (ht : P.underlying t = some (.slice e)) : ∃ v, (Builtin.len_ #[t] ty #[x]).run P w = .ok v w ∧ k v := by
  obtain ⟨a, n, c, rfl, hk⟩ := h
  exact ⟨_, by simp [Builtin.len_, run_underlying ht, goInt], hk⟩
theorem run_getObj_own {w : World} (hw : Own g H w) {b : Nat} {es : Array MapEntry} {clock : Nat} (hm : (b, Obj.map es clock) ∈ H) : (getObj b).run P w = .ok (.map es clock) w := by
  have := hw.has _ hm
  simp only at this
  simp [getObj, Sem.run, this]
theorem LenM.run {x : Value} {k : Value → Prop} (h : LenM H x k) {w : World} (hw : Own g H w) {t e e' ty : TypeId} (ht : P.underlying t = some (.map e e')) : ∃ v, (Builtin.len_ #[t] ty #[x]).run P w = .ok v w ∧ k v := by
  obtain ⟨m, rfl, ⟨rfl, hk⟩ | ⟨b, es, clock, rfl, hm, hk⟩⟩ := h
  · exact ⟨_, by simp [Builtin.len_, run_underlying ht, goInt], hk⟩
  · exact ⟨_, by simp [Builtin.len_, run_underlying ht, goInt, run_getObj_own hw hm], hk⟩
end
end Go.Sx
/-
  Laws on append, make, maps; and all operations under one word (opK).
-/
set_option linter.unusedSimpArgs false
set_option linter.unusedVariables false
namespace Go.Sx
open Go
section
variable {P : Program} {g : Gh} {H : Hp} {K : Value → Hp → Prop} {KP : List PanicEntry → Hp → Prop}

theorem Cells.run {w : World} (hw : Own g H w) {base : Option Addr} {size n cap : Nat} {cs : Array Value} (h : Cells H base (n * size) cs) :
    (Builtin.firstCells size n (.slice base n cap)).run P w = .ok cs w := by
  cases base with
  | none => simp only [Cells] at h; subst h; simp [Builtin.firstCells]
  | some a =>
    rcases h with ⟨hn, rfl⟩ | ⟨h0, c, T, fz, hm, hs, rfl⟩
    · simp only [Builtin.firstCells, hn]; rfl
    obtain ⟨b, o, sp⟩ := a
    simp only at h0 hm hs; subst h0
    simp only [Builtin.firstCells, run_loadCells_own hw hm _ _ hs]

theorem App.run {elem size bytes : Nat} {zero : Value} {s x : Value} {k : Value → Hp → Prop} (h : App P elem size bytes zero H s x k) {w : World} (hw : Own g H w) {t t' ty : TypeId} {i : TypeInfo}
    (ht : P.underlying t = some (.slice elem)) (ht' : ∃ e, P.underlying t' = some (.slice e)) (hi : P.info? elem = some i) (hz : i.zero = some zero) (hn : i.size = size) (hb : i.bytes = bytes) :
    ∃ v w' H', (Builtin.append_ #[t, t'] ty #[s, x]).run P w = .ok v w' ∧ Own g H' w' ∧ k v H' := by
  obtain ⟨base, n, cap, xb, m, xc, olds, news, rfl, rfl, hco, hcn, hsn, hso, hone, hfit, hgrow⟩ := h
  obtain ⟨e', ht'⟩ := ht'
  subst hn; subst hb
  by_cases hc : n + m ≤ cap
  · have hk := hfit hc
    have hnew := Cells.run (P := P) (cap := xc) hw hcn
    cases base with
    | none =>
      refine ⟨_, w, H, ?_, hw, hk⟩
      simp [Builtin.append_, run_underlying ht, run_underlying ht', run_sizeOf hi, Builtin.lenOf, hc, hnew]
    | some a =>
      obtain ⟨c, T, H', h0, hs, hu, hk⟩ := hk
      obtain ⟨b, o, sp⟩ := a
      simp only at h0 hu hs; subst h0
      obtain ⟨w', hr, ho⟩ := run_storeCells_own (P := P) (o + n * i.size) news.toList 0 c H H' w hw (by simpa using hu) hone (by simp; omega)
      refine ⟨_, w', H', ?_, ho, hk⟩
      simp [Builtin.append_, run_underlying ht, run_underlying ht', run_sizeOf hi, Builtin.lenOf, hc, hnew, Addr.add_lit, hr]
  · obtain ⟨hb47, h63, hk⟩ := hgrow (by omega)
    have hw1 := hw.drew
    have hnew := Cells.run (P := P) (cap := xc) hw1 hcn
    have hold := Cells.run (P := P) (cap := cap) hw1 hco
    have hnx : Builtin.nextslicecap (n + m) cap * i.bytes ≤ 281474976710656 := growslice_fits (by omega) hb47
    have h48' : ¬ (281474976710656 < Builtin.nextslicecap (n + m) cap * i.bytes) := by omega
    have h63' : ¬ (9223372036854775807 < ((n : Int) + (m : Int))) := by omega
    obtain ⟨H'', hent, hkk⟩ := hk (grownCap w (n + m) cap elem) (by simp only [grownCap, Question.cut]; omega) _ hw1.fresh
    refine ⟨_, _, _, ?_, hent _ _ (hw1.alloc _), hkk⟩
    · simp [Builtin.append_, run_underlying ht, run_underlying ht', sizeOf, typeInfo, zeroValue, hi, hz, Builtin.lenOf, hc, h63', h48', Question.forced, hnew, hold, newRow, grownCap]

theorem MkSlice.run {elem size bytes : Nat} {zero : Value} {l c : Value} {k : Value → Hp → Prop} (h : MkSlice elem size bytes zero H l c k) {w : World} (hw : Own g H w) {t : TypeId} {i : TypeInfo}
    (ht : P.underlying t = some (.slice elem)) (hi : P.info? elem = some i) (hz : i.zero = some zero) (hn : i.size = size) (hb : i.bytes = bytes) :
    ∃ v w' H', (Instr.makeSlice t l c).run P w = .ok v w' ∧ Own g H' w' ∧ k v H' := by
  obtain ⟨kl, kc, ln, cn, rfl, rfl, hlc, hmax, hby, hk⟩ := h
  subst hn; subst hb
  refine ⟨_, _, _, ?_, hw.alloc _, hk _ hw.fresh⟩
  have e1 : IntKind.i64.wrap (ln : Int) = ln := IntWalk.i64_in _ (by omega)
  have e2 : IntKind.i64.wrap (cn : Int) = cn := IntWalk.i64_in _ (by omega)
  have e3 : ¬ ((i.bytes : Int) * (cn : Int) > 281474976710656) := by
    have : ((cn * i.bytes : Nat) : Int) ≤ 281474976710656 := by omega
    rw [Int.mul_comm]; push_cast at this; omega
  have e4 : ¬ ((cn : Int) < ln) := by omega
  by_cases h0 : cn * i.size = 0
  · simp [Instr.makeSlice, run_underlying ht, asInt, asIntOf, typeInfo, hi, e1, e2, e3, e4, sizeOf, zeroValue, hz, newRow, madeCells, h0, show ¬ ((cn : Int) < 0) from by omega, show ¬ ((ln : Int) < 0) from by omega]
    have : Array.range 0 = #[] := rfl
    simp [this]
  · simp [Instr.makeSlice, run_underlying ht, asInt, asIntOf, typeInfo, hi, e1, e2, e3, e4, sizeOf, zeroValue, hz, newRow, madeCells, h0, show ¬ ((cn : Int) < 0) from by omega, show ¬ ((ln : Int) < 0) from by omega]

theorem MapAt.run {m : Value} {es : Array MapEntry} (h : MapAt H m es) {w : World} (hw : Own g H w) :
    (m = .map none ∧ es = #[]) ∨ ∃ b clock, m = .map (some b) ∧ (getObj b).run P w = .ok (.map es clock) w := by
  rcases h with h | ⟨b, clock, hm, hb⟩
  · exact .inl h
  · exact .inr ⟨b, clock, hm, run_getObj_own hw hb⟩
theorem run_checkKey (e : Bool) {t : TypeId} {d : TypeDesc} (hd : P.underlying t = some d) (hp : plainKey d = true) (v : Value) (w : World) : (Instr.checkKey e 10000 t v).run P w = .ok () w := by
  have : ∀ n, (Instr.checkKey e (n + 1) t v).run P w = .ok () w := fun n => by
    simp only [Instr.checkKey, Sem.run_bind, run_underlying hd, Result.andThen_ok]
    cases d <;> first | (simp [plainKey] at hp; done) | rfl
  exact this 9999
theorem run_findKey {t : TypeId} {d : TypeDesc} (hd : P.underlying t = some d) {key : Value} {es : List MapEntry} {r : Option (Nat × Value)} (h : Instr.findNow d key es 0 = some r) (w : World) :
    (Instr.findKey t key es).run P w = .ok r w := by
  simp [Instr.findKey, run_underlying hd, h]
theorem Look.run {kd : TypeDesc} {zero : Value} {ok : Bool} {m key : Value} {k : Value → Prop} (h : Look kd zero ok H m key k) {w : World} (hw : Own g H w) {t kt e : TypeId} {i : TypeInfo}
    (ht : P.underlying t = some (.map kt e)) (hk : P.underlying kt = some kd) (hp : plainKey kd = true) (hi : P.info? e = some i) (hz : i.zero = some zero) :
    ∃ v, (Instr.lookup t m key ok).run P w = .ok v w ∧ k v := by
  obtain ⟨es, r, hm, hf, hkv⟩ := h
  have hchk := fun b => run_checkKey (P := P) b hk hp key w
  have hfk := run_findKey (P := P) hk hf w
  refine ⟨_, ?_, hkv⟩
  rcases hm.run (P := P) hw with ⟨rfl, rfl⟩ | ⟨b, clock, rfl, hg⟩
  · cases r with
    | none => cases ok <;> simp [Instr.lookup, run_underlying ht, hchk, hfk, run_zero hi hz]
    | some x => obtain ⟨j, v⟩ := x; cases ok <;> simp [Instr.lookup, run_underlying ht, hchk, hfk]
  · cases r with
    | none => cases ok <;> simp [Instr.lookup, run_underlying ht, hchk, hfk, run_zero hi hz, hg]
    | some x => obtain ⟨j, v⟩ := x; cases ok <;> simp [Instr.lookup, run_underlying ht, hchk, hfk, hg]
theorem run_setObj_own {w : World} (hw : Own g H w) {b : Nat} {es : Array MapEntry} {clock : Nat} (es' : Array MapEntry) (clock' : Nat) {H' : Hp} (hu : Upd b (.map es clock) (.map es' clock') H H') :
    ∃ w', (setObj b (.map es' clock')).run P w = .ok () w' ∧ Own g H' w' := by
  have hm := hw.has _ hu.mem
  simp only at hm
  refine ⟨{ w with heap := w.heap.setIfInBounds b (.map es' clock') }, by simp [setObj, Sem.run, hm], ?_⟩
  have hlt := hw.lt hu.mem
  refine hw.upd hu rfl rfl rfl ?_ ?_
  · simp only at hlt; simp [hlt]
  · intro c hc; rw [Array.getElem?_setIfInBounds, if_neg (fun e => hc (Eq.symm e))]
theorem MapUpd.run {kd : TypeDesc} {m key val : Value} {k : Hp → Prop} (h : MapUpd kd H m key val k) {w : World} (hw : Own g H w) {t kt e : TypeId}
    (ht : P.underlying t = some (.map kt e)) (hk : P.underlying kt = some kd) (hp : plainKey kd = true) :
    ∃ w' H', (Instr.mapUpdate t m key val).run P w = .ok () w' ∧ Own g H' w' ∧ k H' := by
  obtain ⟨b, es, clock, r, rfl, hf, hr⟩ := h
  have hchk := fun b => run_checkKey (P := P) b hk hp key w
  have hfk := run_findKey (P := P) hk hf w
  cases r with
  | none =>
    obtain ⟨H', hu, hkk⟩ := hr
    obtain ⟨w', hs, ho⟩ := run_setObj_own (P := P) hw _ _ hu
    refine ⟨w', H', ?_, ho, hkk⟩
    simp [Instr.mapUpdate, run_underlying ht, run_getObj_own hw hu.mem, hchk, hfk, hs]
  | some x =>
    obtain ⟨j, v⟩ := x
    obtain ⟨hsame, hj, H', hu, hkk⟩ := hr
    obtain ⟨w', hs, ho⟩ := run_setObj_own (P := P) hw _ _ hu
    refine ⟨w', H', ?_, ho, hkk⟩
    have hsb := hsame es[j] (Array.getElem?_eq_getElem hj)
    simp [Instr.mapUpdate, run_underlying ht, run_getObj_own hw hu.mem, hchk, hfk, hj, Instr.keyThatStays, hsb, hs]
theorem MapDel.run {kd : TypeDesc} {m key : Value} {k : Hp → Prop} (h : MapDel kd H m key k) {w : World} (hw : Own g H w) {t kt e ty : TypeId} {as : Array TypeId} (has : as[0]? = some t)
    (ht : P.underlying t = some (.map kt e)) (hk : P.underlying kt = some kd) (hp : plainKey kd = true) :
    ∃ w' H', (Builtin.delete_ as ty #[m, key]).run P w = .ok (.tuple #[]) w' ∧ Own g H' w' ∧ k H' := by
  have hchk := fun b => run_checkKey (P := P) b hk hp key w
  rcases h with ⟨rfl, hkk⟩ | ⟨b, es, clock, r, rfl, hf, hr⟩
  · exact ⟨w, H, by simp [Builtin.delete_, has, run_underlying ht, hchk], hw, hkk⟩
  · have hfk := run_findKey (P := P) hk hf w
    cases r with
    | none =>
      obtain ⟨hm, hkk⟩ := hr
      have hu : ∃ H', Upd b (.map es clock) (.map es clock) H H' ∧ H' = H := by
        clear hkk hf hfk hw
        induction H with
        | nil => simp at hm
        | cons x R ih =>
          rcases List.mem_cons.1 hm with e | hm'
          · subst e; exact ⟨_, .head _, rfl⟩
          · obtain ⟨H', u, rfl⟩ := ih hm'; exact ⟨_, .tail u, rfl⟩
      obtain ⟨H', hu, rfl⟩ := hu
      obtain ⟨w', hs, ho⟩ := run_setObj_own (P := P) hw _ _ hu
      exact ⟨w', _, by simp [Builtin.delete_, has, run_underlying ht, run_getObj_own hw hm, hchk, hfk, hs], ho, hkk⟩
    | some x =>
      obtain ⟨j, v⟩ := x
      obtain ⟨H', hu, hkk⟩ := hr
      obtain ⟨w', hs, ho⟩ := run_setObj_own (P := P) hw _ _ hu
      exact ⟨w', _, by simp [Builtin.delete_, has, run_underlying ht, run_getObj_own hw hu.mem, hchk, hfk, hs], ho, hkk⟩

theorem findNow_agg {kd : TypeDesc} (h : isAggD kd = true) (key : Value) (es : List MapEntry) (i : Nat) : Instr.findNow kd key es i = if es = [] then some none else none := by
  cases es with
  | nil => rfl
  | cons e r =>
    simp only [Instr.findNow, reduceCtorEq, if_false]
    cases kd <;> simp [isAggD] at h <;> rfl
theorem run_findAsking {kt : TypeId} {key : Value} : ∀ {es : List MapEntry} {i : Nat} {r : Option (Nat × Value)}, FindS P kt key es i r → ∀ w, (Instr.findAsking kt key es i).run P w = .ok r w
  | [], i, r, h, w => by simp only [FindS] at h; subst h; rfl
  | e :: es, i, r, h, w => by
    obtain ⟨b, he, h1, h2⟩ := h
    simp only [Instr.findAsking, Sem.run_bind, he w, Result.andThen_ok]
    cases b
    · simp only [Bool.false_eq_true, if_false]; exact run_findAsking (h2 rfl) w
    · simp only [if_true, h1 rfl, Sem.run_pure]
theorem run_findKeyS {t : TypeId} {d : TypeDesc} (hd : P.underlying t = some d) (ha : isAggD d = true) {key : Value} {es : List MapEntry} {r : Option (Nat × Value)} (h : FindS P t key es 0 r) (w : World) :
    (Instr.findKey t key es).run P w = .ok r w := by
  simp only [Instr.findKey, Sem.run_bind, run_underlying hd, Result.andThen_ok, findNow_agg ha]
  cases es with
  | nil => simp only [FindS] at h; subst h; simp
  | cons e es => simp only [reduceCtorEq, if_false]; exact run_findAsking h w
theorem LookS.run {zero : Value} {ok : Bool} {m key : Value} {k : Value → Prop} {t kt e : TypeId} {kd : TypeDesc} (h : LookS P kt zero ok H m key k) {w : World} (hw : Own g H w) {i : TypeInfo}
    (ht : P.underlying t = some (.map kt e)) (hk : P.underlying kt = some kd) (hp : isAggD kd = true) (hi : P.info? e = some i) (hz : i.zero = some zero) :
    ∃ v, (Instr.lookup t m key ok).run P w = .ok v w ∧ k v := by
  obtain ⟨es, r, hm, hc, hf, hkv⟩ := h
  have hchk := fun b => hc b w
  have hfk := run_findKeyS (P := P) hk hp hf w
  refine ⟨_, ?_, hkv⟩
  rcases hm.run (P := P) hw with ⟨rfl, rfl⟩ | ⟨b, clock, rfl, hg⟩
  · cases r with
    | none => cases ok <;> simp [Instr.lookup, run_underlying ht, hchk, hfk, run_zero hi hz]
    | some x => obtain ⟨j, v⟩ := x; cases ok <;> simp [Instr.lookup, run_underlying ht, hchk, hfk]
  · cases r with
    | none => cases ok <;> simp [Instr.lookup, run_underlying ht, hchk, hfk, run_zero hi hz, hg]
    | some x => obtain ⟨j, v⟩ := x; cases ok <;> simp [Instr.lookup, run_underlying ht, hchk, hfk, hg]
theorem MapUpdS.run {m key val : Value} {k : Hp → Prop} {t kt e : TypeId} {kd : TypeDesc} (h : MapUpdS P kt H m key val k) {w : World} (hw : Own g H w)
    (ht : P.underlying t = some (.map kt e)) (hk : P.underlying kt = some kd) (hp : isAggD kd = true) :
    ∃ w' H', (Instr.mapUpdate t m key val).run P w = .ok () w' ∧ Own g H' w' ∧ k H' := by
  obtain ⟨b, es, clock, r, rfl, hc, hf, hr⟩ := h
  have hchk := fun b => hc b w
  have hfk := run_findKeyS (P := P) hk hp hf w
  cases r with
  | none =>
    obtain ⟨H', hu, hkk⟩ := hr
    obtain ⟨w', hs, ho⟩ := run_setObj_own (P := P) hw _ _ hu
    refine ⟨w', H', ?_, ho, hkk⟩
    simp [Instr.mapUpdate, run_underlying ht, run_getObj_own hw hu.mem, hchk, hfk, hs]
  | some x =>
    obtain ⟨j, v⟩ := x
    obtain ⟨hsame, hj, H', hu, hkk⟩ := hr
    obtain ⟨w', hs, ho⟩ := run_setObj_own (P := P) hw _ _ hu
    refine ⟨w', H', ?_, ho, hkk⟩
    have hsb := hsame es[j] (Array.getElem?_eq_getElem hj)
    simp [Instr.mapUpdate, run_underlying ht, run_getObj_own hw hu.mem, hchk, hfk, hj, Instr.keyThatStays, hsb, hs]
theorem Upd.same {b : Nat} {o : Obj} {H : Hp} (hm : (b, o) ∈ H) : Upd b o o H H := by
  induction H with
  | nil => simp at hm
  | cons x R ih =>
    rcases List.mem_cons.1 hm with e | hm'
    · subst e; exact .head _
    · exact .tail (ih hm')
theorem MapDelS.run {m key : Value} {k : Hp → Prop} {t kt e ty : TypeId} {kd : TypeDesc} {as : Array TypeId} (h : MapDelS P kt H m key k) {w : World} (hw : Own g H w) (has : as[0]? = some t)
    (ht : P.underlying t = some (.map kt e)) (hk : P.underlying kt = some kd) (hp : isAggD kd = true) :
    ∃ w' H', (Builtin.delete_ as ty #[m, key]).run P w = .ok (.tuple #[]) w' ∧ Own g H' w' ∧ k H' := by
  obtain ⟨hc, h⟩ := h
  have hchk := fun b => hc b w
  rcases h with ⟨rfl, hkk⟩ | ⟨b, es, clock, r, rfl, hf, hr⟩
  · exact ⟨w, H, by simp [Builtin.delete_, has, run_underlying ht, hchk], hw, hkk⟩
  · have hfk := run_findKeyS (P := P) hk hp hf w
    cases r with
    | none =>
      obtain ⟨hm, hkk⟩ := hr
      obtain ⟨w', hs, ho⟩ := run_setObj_own (P := P) hw _ _ (Upd.same hm)
      exact ⟨w', _, by simp [Builtin.delete_, has, run_underlying ht, run_getObj_own hw hm, hchk, hfk, hs], ho, hkk⟩
    | some x =>
      obtain ⟨j, v⟩ := x
      obtain ⟨H', hu, hkk⟩ := hr
      obtain ⟨w', hs, ho⟩ := run_setObj_own (P := P) hw _ _ hu
      exact ⟨w', _, by simp [Builtin.delete_, has, run_underlying ht, run_getObj_own hw hu.mem, hchk, hfk, hs], ho, hkk⟩

theorem Rng.run {x : Value} {k : Value → Hp → Prop} (h : Rng H x k) {w : World} (hw : Own g H w) {t kt e : TypeId} (ht : P.underlying t = some (.map kt e)) :
    ∃ v w' H', (Instr.range t x).run P w = .ok v w' ∧ Own g H' w' ∧ k v H' := by
  rcases h with ⟨rfl, hk⟩ | ⟨m, es, clock, rfl, hm, hk⟩
  · refine ⟨_, _, _, ?_, hw.alloc _, hk _ hw.fresh⟩
    simp [Instr.range, run_underlying ht]
  · refine ⟨_, _, _, ?_, hw.alloc _, hk _ hw.fresh⟩
    simp [Instr.range, run_underlying ht, run_getObj_own hw hm]
theorem run_getObj_iter {w : World} (hw : Own g H w) {b : Nat} {mo : Option Nat} {since last : Nat} {seen : Array Nat} (hm : (b, Obj.mapIter mo since seen last) ∈ H) : (getObj b).run P w = .ok (.mapIter mo since seen last) w := by
  have := hw.has _ hm
  simp only at this
  simp [getObj, Sem.run, this]
theorem run_setObj_iter {w : World} (hw : Own g H w) {b : Nat} {mo mo' : Option Nat} {since last since' last' : Nat} {seen seen' : Array Nat} {H' : Hp} (hu : Upd b (.mapIter mo since seen last) (.mapIter mo' since' seen' last') H H') :
    ∃ w', (setObj b (.mapIter mo' since' seen' last')).run P w = .ok () w' ∧ Own g H' w' := by
  have hm := hw.has _ hu.mem
  simp only at hm
  refine ⟨{ w with heap := w.heap.setIfInBounds b (.mapIter mo' since' seen' last') }, by simp [setObj, Sem.run, hm], ?_⟩
  have hlt := hw.lt hu.mem
  refine hw.upd hu rfl rfl rfl ?_ ?_
  · simp only at hlt; simp [hlt]
  · intro c hc; rw [Array.getElem?_setIfInBounds, if_neg (fun e => hc (Eq.symm e))]
theorem Entr.run {it : Value} {k : Value → Prop} (h : Entr H it k) {w : World} (hw : Own g H w) : ∃ v, (Instr.entry it).run P w = .ok v w ∧ k v := by
  obtain ⟨b, m, since, seen, stamp, clock, es, e, rfl, hb, hs, hm, hf, hk⟩ := h
  refine ⟨_, ?_, hk⟩
  simp [Instr.entry, run_getObj_iter (P := P) hw hb, hs, run_getObj_own (P := P) hw hm, hf]
theorem run_choose_next (n : Nat) (hn : 0 < n) {w : World} : ∃ i w', (choose (.mapNext n)).run P w = .ok i w' ∧ i < n ∧ (w' = w ∨ w' = w.drew) := by
  by_cases h : n ≤ 1
  · exact ⟨0, w, by simp [choose, Sem.run, Question.forced, h], hn, .inl rfl⟩
  · exact ⟨_, _, by simp only [choose, Sem.run, Question.forced, h, decide_false, Bool.false_eq_true, if_false]; rfl, Nat.mod_lt _ hn, .inr rfl⟩
theorem Nxt.run {it : Value} {k : Value → Hp → Prop} (h : Nxt H it k) {w : World} (hw : Own g H w) {ty : TypeId} :
    ∃ v w' H', (Instr.next it false ty).run P w = .ok v w' ∧ Own g H' w' ∧ k v H' := by
  obtain ⟨b, mo, since, seen, last, rfl, hb, h⟩ := h
  have hgi := run_getObj_iter (P := P) hw hb
  cases mo with
  | none => exact ⟨_, w, H, by simp [Instr.next, hgi], hw, h⟩
  | some m =>
    obtain ⟨es, clock, hm, hborn, hnext, hover⟩ := h
    have hgm := run_getObj_own (P := P) hw hm
    have hmark : (!seen.isEmpty && !es.isEmpty && es.all (fun e => decide (e.born ≥ last))) = false := by
      cases he : es.isEmpty
      · have hne : es ≠ #[] := by intro e; rw [e] at he; simp at he
        have : es.all (fun e => decide (e.born ≥ last)) = false := by
          rw [← Bool.not_eq_true, Array.all_eq_true]
          intro hall
          have h0 : 0 < es.size := Array.size_pos_iff.2 hne
          have := hall 0 h0
          have h2 := (hborn es[0] (by simp)).2
          simp only [ge_iff_le, decide_eq_true_eq] at this
          omega
        rw [this]; simp
      · simp
    have hold : ((es.filter fun e => !seen.contains e.born).filter fun e => decide (e.born < since)) = es.filter fun e => !seen.contains e.born := by
      rw [Array.filter_eq_self]
      intro e he
      have := (Array.mem_filter.1 he).1
      exact decide_eq_true (hborn e (by simpa using this)).1
    have hnew : ((es.filter fun e => !seen.contains e.born).filter fun e => decide (e.born ≥ since)) = #[] := by
      rw [Array.filter_eq_empty_iff]
      intro e he
      have := (Array.mem_filter.1 he).1
      have := (hborn e (by simpa using this)).1
      simp only [ge_iff_le, decide_eq_true_eq]; omega
    generalize hleft : (es.filter fun e => !seen.contains e.born) = left at hold hnew
    have hrun : ∀ (rest : Sem Value) , (Instr.next (.pointer (some ⟨b, 0, none⟩)) false ty).run P w = ((choose (.mapNext (((if left.isEmpty then #[none] else #[]) ++ left.map some).size))).run P w).andThen fun i w => (Sem.run P (match ((if left.isEmpty then #[none] else #[]) ++ left.map some)[i]? with
        | some (some e) => do setObj b (.mapIter (some m) since (seen.push e.born) clock); pure (.tuple #[.bool true, e.key, e.val])
        | some none => pure (.tuple #[.bool false])
        | none => stuck "Next: no such candidate" : Sem Value) w) := by
      intro _
      simp only [Instr.next, Sem.run_bind, hgi, Result.andThen_ok, hgm, hmark, Bool.false_eq_true, if_false, hleft, hold, hnew, Array.append_empty, Sem.run_pure]
      rfl
    rw [hrun (pure undef)]
    by_cases hemp : left = #[]
    · subst hemp
      simp only [Array.isEmpty_empty, if_true, Array.map_empty, Array.append_empty]
      refine ⟨_, w, H, ?_, hw, hover fun e he => ?_⟩
      · simp [choose, Sem.run, Question.forced]
      · have := Array.filter_eq_empty_iff.1 hleft e (by simpa using he)
        simpa using this
    · have hne : left.isEmpty = false := by simpa using hemp
      have hpos : 0 < left.size := Array.size_pos_iff.2 hemp
      simp only [hne, Bool.false_eq_true, if_false, Array.empty_append, Array.size_map]
      obtain ⟨i, w1, hc, hi, hw1⟩ := run_choose_next (P := P) (w := w) left.size hpos
      rw [hc]
      simp only [Result.andThen_ok]
      have hget : (left.map some)[i]? = some (some left[i]) := by simp [hi]
      simp only [hget]
      have hmem : left[i] ∈ es.filter fun e => !seen.contains e.born := by rw [hleft]; exact Array.getElem_mem hi
      obtain ⟨he1, he2⟩ := Array.mem_filter.1 hmem
      obtain ⟨H', hu, hk⟩ := hnext left[i] (by simpa using he1) (by simpa using he2)
      have ho1 : Own g H w1 := by rcases hw1 with rfl | rfl; exact hw; exact hw.drew
      obtain ⟨w2, hs, ho2⟩ := run_setObj_iter (P := P) ho1 hu
      exact ⟨_, w2, H', by simp [hs], ho2, hk⟩
end
end Go.Sx
/-
  Operations that only read (opP) and the others (opE): each word of SxB at its operation.
-/
set_option linter.unusedSimpArgs false
set_option linter.unusedVariables false
namespace Go.Sx
open Go
section
variable {P : Program} {g : Gh} {H : Hp} {K : Value → Hp → Prop} {KP : List PanicEntry → Hp → Prop}

def NilV (x : Value) : Option Value :=
  match x with
  | .pointer (some a) => some (.pointer (some a))
  | .func (.func f) a b => some (.func (.func f) a b)
  | .iface t v => some (.iface t v)
  | _ => none
def Nil (x : Value) (k : Value → Prop) : Prop := ∃ v, NilV x = some v ∧ k v
def PMk (fn : Fn) (a b : List Value) (k : Value → Prop) : Prop := k (.func fn a.toArray b.toArray)
/-- a struct or array laid out of its parts -/
def Build (P : Program) (t : TypeId) (parts : List (Nat × Value)) (k : Value → Prop) : Prop := ∃ v, (∀ w, (Instr.build t parts.toArray).run P w = .ok v w) ∧ k v
/-- anything else that only reads -/
def RunP (P : Program) (g : Gh) (o : Oper) (ρ : Operand → Value) (H : Hp) (k : Value → Prop) : Prop :=
  ∃ v, (∀ w, Own g H w → (execOp ρ o).run P w = .ok (.value v) w) ∧ k v

def sizeD (P : Program) (t : TypeId) : Option Nat := match P.info? t with | some i => some i.size | none => none
def zeroD (P : Program) (t : TypeId) : Option Value := match P.info? t with | some i => i.zero | none => none
def bytesD (P : Program) (t : TypeId) : Option Nat := match P.info? t with | some i => some i.bytes | none => none

/-- operations that only read: their law -/
def opP (P : Program) (g : Gh) (o : Oper) (ρ : Operand → Value) (H : Hp) (k : Value → Prop) : Prop :=
  match o.op with
  | .move x => k (ρ x)
  | .assign x => k (ρ x)
  | .pick c a b => Pick (ρ c) (ρ a) (ρ b) k
  | .load t a =>
    match P.underlying t, sizeD P t with
    | some d, some n => cond (isAggD d) (LdA n H (ρ a) k) (Ld H (ρ a) k)
    | _, _ => False
  | .nilCheck x => Nil (ρ x) k
  | .binOp op t x y _ =>
    match P.underlying t with
    | some d => match bkOf d with
      | .other => RunP P g o ρ H k
      | bk => Bin bk op (ρ x) (ρ y) k
    | none => False
  | .unOp op _ x => Un op (ρ x) k
  | .convert s d x =>
    match P.underlying s, P.underlying d with
    | some _, some (.int kd) => ConvI kd (ρ x) k
    | some (.slice e), some .string => match P.underlying e with
      | some (.int .u8) => BytesS H (ρ x) k
      | _ => RunP P g o ρ H k
    | _, _ => RunP P g o ρ H k
  | .index t x i =>
    match P.underlying t with
    | some .string => StrIx (ρ x) (ρ i) k
    | _ => RunP P g o ρ H k
  | .fieldAddr s x f =>
    match P.underlying s with
    | some (.struct fs) => match fs[f]? with
      | some fl => match sizeD P fl.type with
        | some (_ + 1) => FAddr fl.offset (ρ x) k
        | _ => False
      | none => False
    | _ => False
  | .field s x f =>
    match P.underlying s with
    | some (.struct fs) => match fs[f]? with
      | some fl => match P.underlying fl.type, sizeD P fl.type with
        | some d, some n => cond (isAggD d) (FldA fl.offset n (ρ x) k) (Fld fl.offset (ρ x) k)
        | _, _ => False
      | none => False
    | _ => False
  | .indexAddr t x i =>
    match P.underlying t with
    | some (.slice e) => match sizeD P e with
      | some n => IAddr n (ρ x) (ρ i) k
      | none => False
    | some (.array len e) => match sizeD P e with
      | some n => AAddr len n (ρ x) (ρ i) k
      | none => False
    | _ => False
  | .slice t x lo hi none =>
    match P.underlying t with
    | some (.slice e) => match sizeD P e with
      | some n => SliceE n (ρ x) (lo.map ρ) (hi.map ρ) k
      | none => False
    | _ => RunP P g o ρ H k
  | .extract t i => Ext i (ρ t) k
  | .lookup t m key ok =>
    match P.underlying t with
    | some (.map kt e) => match P.underlying kt, zeroD P e with
      | some kd, some z => cond (plainKey kd) (Look kd z ok H (ρ m) (ρ key) k) (cond (isAggD kd) (LookS P kt z ok H (ρ m) (ρ key) k) (RunP P g o ρ H k))
      | _, _ => False
    | _ => False
  | .makeFunc fn a b => PMk fn (a.toList.map ρ) (b.toList.map ρ) k
  | .build t parts => Build P t (parts.toList.map fun p => (p.1, ρ p.2)) k
  | .makeInterface t x =>
    match P.underlying t with
    | some (.interface _) => False
    | some _ => k (.iface t (ρ x))
    | none => False
  | .call c =>
    match c.callee with
    | .builtin .len =>
      match c.args.toList, c.argTypes.toList with
      | [x], [t] => match P.underlying t with
        | some (.slice _) => LenS (ρ x) k
        | some (.map _ _) => LenM H (ρ x) k
        | some .string => LenStr (ρ x) k
        | _ => RunP P g o ρ H k
      | _, _ => False
    | .builtin .max => match c.args.toList, c.argTypes.toList with
      | [x, y], [t, _] => match P.underlying t with
        | some (.int _) => MaxI (ρ x) (ρ y) k
        | _ => RunP P g o ρ H k
      | _, _ => RunP P g o ρ H k
    | .builtin .min => match c.args.toList, c.argTypes.toList with
      | [x, y], [t, _] => match P.underlying t with
        | some (.int _) => MinI (ρ x) (ρ y) k
        | _ => RunP P g o ρ H k
      | _, _ => RunP P g o ρ H k
    | .builtin _ => RunP P g o ρ H k
    | _ => False
  | _ => RunP P g o ρ H k

theorem mapList {α β : Type} (f : α → β) (a : Array α) : (a.toList.map f).toArray = a.map f := by rw [← Array.toList_map, Array.toArray_toList]
theorem arr1 {α : Type} {a : Array α} {x : α} (h : a.toList = [x]) : a = #[x] := by cases a; simp_all
theorem arr2 {α : Type} {a : Array α} {x y : α} (h : a.toList = [x, y]) : a = #[x, y] := by cases a; simp_all

theorem Ld.fix {p : Value} {k : Value → Prop} (h : Ld H p k) : ∃ v, k v ∧ Ld H p (· = v) := by
  obtain ⟨b, off, c, T, fz, v, h1, h2, h3, hk⟩ := h; exact ⟨v, hk, b, off, c, T, fz, v, h1, h2, h3, rfl⟩
theorem LdA.fix {n : Nat} {p : Value} {k : Value → Prop} (h : LdA n H p k) : ∃ v, k v ∧ LdA n H p (· = v) := by
  obtain ⟨b, off, c, T, fz, h1, h2, h3, hk⟩ := h; exact ⟨_, hk, b, off, c, T, fz, h1, h2, h3, rfl⟩
theorem Look.fix {kd : TypeDesc} {zero : Value} {ok : Bool} {m key : Value} {k : Value → Prop} (h : Look kd zero ok H m key k) : ∃ v, k v ∧ Look kd zero ok H m key (· = v) := by
  obtain ⟨es, r, h1, h2, hk⟩ := h; exact ⟨_, hk, es, r, h1, h2, rfl⟩
theorem LenM.fix {x : Value} {k : Value → Prop} (h : LenM H x k) : ∃ v, k v ∧ LenM H x (· = v) := by
  obtain ⟨m, h1, ⟨h2, hk⟩ | ⟨b, es, clock, h2, h3, hk⟩⟩ := h
  · exact ⟨_, hk, m, h1, .inl ⟨h2, rfl⟩⟩
  · exact ⟨_, hk, m, h1, .inr ⟨b, es, clock, h2, h3, rfl⟩⟩

theorem LookS.fix {kt : TypeId} {zero : Value} {ok : Bool} {m key : Value} {k : Value → Prop} (h : LookS P kt zero ok H m key k) : ∃ v, k v ∧ LookS P kt zero ok H m key (· = v) := by
  obtain ⟨es, r, h1, h2, h3, hk⟩ := h; exact ⟨_, hk, es, r, h1, h2, h3, rfl⟩
theorem bytes_loop {F : Value → ByteArray → Sem (ForInStep ByteArray)} (hF : ∀ (b : UInt8) s, F (.int .u8 b.toNat) s = pure (.yield (s.push b))) {l : List UInt8} (s : ByteArray) (w : World) :
    (forIn (l.map fun b => Value.int .u8 b.toNat) s F).run P w = .ok (⟨s.data ++ l.toArray⟩ : ByteArray) w := by
  induction l generalizing s with
  | nil => simp
  | cons b r ih =>
    simp only [List.map_cons, List.forIn_cons, hF, Sem.run_bind, Sem.run_pure, Result.andThen_ok]
    rw [ih]
    congr 1
    simp [ByteArray.push]
theorem BytesS.run {x : Value} {k : Value → Prop} (h : BytesS H x k) {w : World} (hw : Own g H w) : ∃ v, (Conv.bytesToString x).run P w = .ok v w ∧ k v := by
  obtain ⟨base, n, c, bs, rfl, hc, hn, hk⟩ := h
  refine ⟨_, ?_, hk⟩
  cases base with
  | none =>
    simp only [Cells] at hc
    have : bs = [] := by simpa using congrArg Array.size hc
    subst this; rfl
  | some a =>
    have := Cells.run (P := P) (size := 1) (cap := c) hw (by rw [Nat.mul_one]; exact hc)
    simp only [Builtin.firstCells, Nat.mul_one] at this
    simp only [Conv.bytesToString, Sem.run_bind, this, Result.andThen_ok]
    rw [List.forIn_toArray, bytes_loop (P := P) (l := bs) (fun b s => by simp)]
    have e : ByteArray.empty.data = #[] := rfl
    simp [e]
theorem BytesS.fix {x : Value} {k : Value → Prop} (h : BytesS H x k) : ∃ v, k v ∧ BytesS H x (· = v) := by
  obtain ⟨base, n, c, bs, h1, h2, h3, hk⟩ := h; exact ⟨_, hk, base, n, c, bs, h1, h2, h3, rfl⟩

/-- the outcome of an operation that only reads -/
def Reads (P : Program) (g : Gh) (o : Oper) (ρ : Operand → Value) (H : Hp) (k : Value → Prop) : Prop :=
  ∃ v, k v ∧ ∀ w, Own g H w → (execOp ρ o).run P w = .ok (.value v) w

theorem Reads.mk {o : Oper} {ρ : Operand → Value} {k : Value → Prop} {s : Sem Value} (he : execOp ρ o = (do pure (.value (← s)))) (h : ∃ v, k v ∧ ∀ w, Own g H w → s.run P w = .ok v w) : Reads P g o ρ H k := by
  obtain ⟨v, hk, hr⟩ := h
  refine ⟨v, hk, fun w hw => ?_⟩
  rw [he]
  simp only [Sem.run_bind, hr w hw, Result.andThen_ok, Sem.run_pure]
theorem RunP.reads {o : Oper} {ρ : Operand → Value} {k : Value → Prop} (h : RunP P g o ρ H k) : Reads P g o ρ H k := let ⟨v, h1, h2⟩ := h; ⟨v, h2, h1⟩

theorem uni {s : Sem Value} {k : Value → Prop} {C : (Value → Prop) → Prop} (hfix : ∃ v, k v ∧ C (· = v)) (hrun : ∀ (k : Value → Prop), C k → ∀ w, Own g H w → ∃ v, s.run P w = .ok v w ∧ k v) :
    ∃ v, k v ∧ ∀ w, Own g H w → s.run P w = .ok v w := by
  obtain ⟨v, hk, hc⟩ := hfix
  refine ⟨v, hk, fun w hw => ?_⟩
  obtain ⟨u, hr, rfl⟩ := hrun _ hc w hw
  exact hr

theorem sizeD_spec {t : TypeId} {n : Nat} (h : sizeD P t = some n) : ∃ i, P.info? t = some i ∧ i.size = n := by
  unfold sizeD at h
  split at h
  · rename_i i hi; exact ⟨i, hi, by simpa using h⟩
  · simp at h
theorem zeroD_spec {t : TypeId} {z : Value} (h : zeroD P t = some z) : ∃ i, P.info? t = some i ∧ i.zero = some z := by
  unfold zeroD at h
  split at h
  · rename_i i hi; exact ⟨i, hi, by simpa using h⟩
  · simp at h

theorem opP_reads {o : Oper} {ρ : Operand → Value} {k : Value → Prop} (h : opP P g o ρ H k) : Reads P g o ρ H k := by
  obtain ⟨dst, op, type, pos, after, guard⟩ := o
  cases op <;> simp only [opP] at h
  case move x => exact ⟨_, h, fun w _ => rfl⟩
  case assign x => exact ⟨_, h, fun w _ => rfl⟩
  case pick c a b =>
    obtain ⟨t, hc, hk⟩ := h
    refine ⟨_, hk, fun w _ => ?_⟩
    cases t <;> simp [execOp, hc, asBool]
  case load t a =>
    split at h
    · rename_i d n hd hn
      obtain ⟨i, hi, hin⟩ := sizeD_spec hn
      refine Reads.mk (s := Instr.loadAt t (ρ a)) rfl ?_
      cases ha : isAggD d <;> simp only [ha, cond_true, cond_false] at h
      · exact uni h.fix fun k hk w hw => hk.run hw hd ha
      · exact uni h.fix fun k hk w hw => hk.run hw hd ha hi hin
    · exact h.elim
  case nilCheck x =>
    obtain ⟨v, hv, hk⟩ := h
    refine ⟨v, hk, fun w _ => ?_⟩
    unfold NilV at hv
    simp only [execOp]
    split at hv <;> simp only [Option.some.injEq, reduceCtorEq] at hv <;> subst hv <;> simp_all
  case binOp op t x y yt =>
    split at h
    · rename_i d hd
      split at h
      · exact h.reads
      · rename_i hbk
        refine Reads.mk (s := do eqGuard op t x y (ρ x) (ρ y); binOp op t (ρ x) (ρ y)) rfl ?_
        obtain ⟨v, hv, hk⟩ := h
        exact ⟨v, hk, fun w _ => by
          obtain ⟨u, hr, rfl⟩ := Bin.run (P := P) (k := (· = v)) ⟨v, hv, rfl⟩ w (ox := x) (oy := y) hd rfl
          exact hr⟩
    · exact h.elim
  case unOp op t x =>
    obtain ⟨v, hv, hk⟩ := h
    refine Reads.mk (s := Op.unary op (ρ x)) rfl ⟨v, hk, fun w _ => ?_⟩
    obtain ⟨u, hr, rfl⟩ := Un.run (P := P) (k := (· = v)) ⟨v, hv, rfl⟩ w
    exact hr
  case convert s d x =>
    split at h
    · rename_i ds kd hs hd
      obtain ⟨j, n, hx, hk⟩ := h
      refine Reads.mk (s := Go.convert s d (ρ x)) rfl ⟨_, hk, fun w _ => ?_⟩
      obtain ⟨u, hr, rfl⟩ := ConvI.run (P := P) (kd := kd) (k := (· = _)) ⟨j, n, hx, rfl⟩ w hs hd rfl
      exact hr
    · rename_i e hs hd
      split at h
      · rename_i he
        refine Reads.mk (s := Go.convert s d (ρ x)) rfl ?_
        have : ∀ w, (Go.convert s d (ρ x)).run P w = (Conv.bytesToString (ρ x)).run P w := fun w => by
          obtain ⟨base, n, c, bs, hx, _⟩ := h
          simp only [Go.convert, Sem.run_bind, run_underlying hs, run_underlying hd, Result.andThen_ok, hx, run_underlying he]
        simp only [this]
        exact uni h.fix fun k hk w hw => hk.run hw
      · exact h.reads
    · exact h.reads
  case index t x i =>
    split at h
    · rename_i ht
      obtain ⟨s, kd, j, b, hx, hi, h0, hb, hk⟩ := h
      refine Reads.mk (s := Instr.index t (ρ x) (ρ i)) rfl ⟨_, hk, fun w _ => ?_⟩
      simp [Instr.index, run_underlying ht, hx, hi, asIntOf, h0, hb]
    · exact h.reads
  case fieldAddr s x f =>
    split at h <;> try exact h.elim
    rename_i fs hs
    split at h <;> try exact h.elim
    rename_i fl hf
    split at h <;> try exact h.elim
    rename_i m hm
    obtain ⟨i, hi, hin⟩ := sizeD_spec hm
    obtain ⟨b, o, hx, hk⟩ := h
    refine Reads.mk (s := Instr.fieldAt s (ρ x) f) rfl ⟨_, hk, fun w _ => ?_⟩
    obtain ⟨u, hr, rfl⟩ := FAddr.run (P := P) (k := (· = _)) ⟨b, o, hx, rfl⟩ w hs hf hi (by omega) rfl
    exact hr
  case field s x f =>
    split at h <;> try exact h.elim
    rename_i fs hs
    split at h <;> try exact h.elim
    rename_i fl hf
    split at h <;> try exact h.elim
    rename_i d n hd hn
    obtain ⟨i, hi, hin⟩ := sizeD_spec hn
    refine Reads.mk (s := Instr.field s (ρ x) f) rfl ?_
    cases ha : isAggD d <;> simp only [ha, cond_true, cond_false] at h
    · obtain ⟨cs, v, hx, hv, hk⟩ := h
      refine ⟨v, hk, fun w _ => ?_⟩
      obtain ⟨u, hr, rfl⟩ := Fld.run (P := P) (k := (· = v)) ⟨cs, v, hx, hv, rfl⟩ w hs hf hd ha rfl
      exact hr
    · obtain ⟨cs, hx, hk⟩ := h
      refine ⟨_, hk, fun w _ => ?_⟩
      obtain ⟨u, hr, rfl⟩ := FldA.run (P := P) (k := (· = _)) ⟨cs, hx, rfl⟩ w hs hf hd ha hi hin rfl
      exact hr
  case indexAddr t x ix =>
    refine Reads.mk (s := Instr.indexAt t (ρ x) (ρ ix)) rfl ?_
    split at h
    · rename_i e ht
      split at h <;> try exact h.elim
      rename_i n hn
      obtain ⟨i, hi, hin⟩ := sizeD_spec hn
      obtain ⟨b, o, n', c, kd, j, hx, hix, h0, h1, hk⟩ := h
      refine ⟨_, hk, fun w _ => ?_⟩
      obtain ⟨u, hr, rfl⟩ := IAddr.run (P := P) (k := (· = _)) ⟨b, o, n', c, kd, j, hx, hix, h0, h1, rfl⟩ w ht hi hin
      exact hr
    · rename_i len e ht
      split at h <;> try exact h.elim
      rename_i n hn
      obtain ⟨i, hi, hin⟩ := sizeD_spec hn
      obtain ⟨b, o, kd, j, hx, hix, h0, h1, hk⟩ := h
      refine ⟨_, hk, fun w _ => ?_⟩
      obtain ⟨u, hr, rfl⟩ := AAddr.run (P := P) (k := (· = _)) ⟨b, o, kd, j, hx, hix, h0, h1, rfl⟩ w ht hi hin
      exact hr
    · exact h.elim
  case slice t x lo hi mx =>
    cases mx with
    | some m => simp only at h; exact h.reads
    | none =>
      simp only at h
      split at h
      · rename_i e ht
        split at h <;> try exact h.elim
        rename_i n hn
        obtain ⟨i, hi', hin⟩ := sizeD_spec hn
        obtain ⟨a, n', c, l, hh, hx, hl, hh', h0, h1, h2, hk⟩ := h
        refine Reads.mk (s := Instr.sliceAt t (ρ x) (lo.map ρ) (hi.map ρ) none) rfl ⟨_, hk, fun w _ => ?_⟩
        obtain ⟨u, hr, rfl⟩ := SliceE.run (P := P) (k := (· = _)) ⟨a, n', c, l, hh, hx, hl, hh', h0, h1, h2, rfl⟩ w ht hi' hin
        exact hr
      · exact h.reads
  case extract t i =>
    obtain ⟨vs, v, hx, hv, hk⟩ := h
    refine Reads.mk (s := Instr.extract (ρ t) i) rfl ⟨v, hk, fun w _ => ?_⟩
    obtain ⟨u, hr, rfl⟩ := Ext.run (P := P) (k := (· = v)) ⟨vs, v, hx, hv, rfl⟩ w
    exact hr
  case lookup t m key ok =>
    split at h <;> try exact h.elim
    rename_i kt e ht
    split at h <;> try exact h.elim
    rename_i kd z hkt hz
    obtain ⟨i, hi, hiz⟩ := zeroD_spec hz
    cases hp : plainKey kd <;> simp only [hp, cond_true, cond_false] at h
    · cases hp2 : isAggD kd <;> simp only [hp2, cond_true, cond_false] at h
      · exact h.reads
      · exact Reads.mk (s := Instr.lookup t (ρ m) (ρ key) ok) rfl (uni h.fix fun k hk w hw => hk.run hw ht hkt hp2 hi hiz)
    · exact Reads.mk (s := Instr.lookup t (ρ m) (ρ key) ok) rfl (uni h.fix fun k hk w hw => hk.run hw ht hkt hp hi hiz)
  case makeFunc fn a b =>
    refine ⟨_, h, fun w _ => ?_⟩
    simp [execOp, Instr.makeFunc, mapList]
  case build t parts =>
    obtain ⟨v, hr, hk⟩ := h
    refine Reads.mk (s := Instr.build t (parts.map fun (i, x) => (i, ρ x))) rfl ⟨v, hk, fun w _ => ?_⟩
    have := hr w
    rw [mapList (fun p : Nat × Operand => (p.1, ρ p.2)) parts] at this
    exact this
  case makeInterface t x =>
    split at h
    · exact h.elim
    · rename_i d hnot hd
      refine Reads.mk (s := Instr.makeInterface t (ρ x)) rfl ⟨_, h, fun w _ => ?_⟩
      simp only [Instr.makeInterface, Sem.run_bind, run_underlying hd, Result.andThen_ok]
      cases d <;> first | rfl | exact absurd hd (hnot _)
    · exact h.elim
  case call c =>
    obtain ⟨callee, args, argTypes⟩ := c
    cases callee with
    | value f => simp only at h
    | invoke r m => simp only at h
    | builtin b =>
      cases b <;> simp only at h <;> try exact h.reads
      case max =>
        split at h <;> try exact h.reads
        rename_i x y t t' hx ht
        split at h <;> try exact h.reads
        have hx := arr2 hx
        have ht := arr2 ht
        subst hx; subst ht
        obtain ⟨kd, a, b, h1, h2, hk⟩ := h
        refine Reads.mk (s := Builtin.max_ #[t, t'] type #[ρ x, ρ y]) (by simp [execOp, resolve, invoke, builtin, bind, Sem.bind]; rfl) ⟨_, hk, fun w _ => ?_⟩
        simp [Builtin.max_, Builtin.max2, h1, h2]
      case min =>
        split at h <;> try exact h.reads
        rename_i x y t t' hx ht
        split at h <;> try exact h.reads
        have hx := arr2 hx
        have ht := arr2 ht
        subst hx; subst ht
        obtain ⟨kd, a, b, h1, h2, hk⟩ := h
        refine Reads.mk (s := Builtin.min_ #[t, t'] type #[ρ x, ρ y]) (by simp [execOp, resolve, invoke, builtin, bind, Sem.bind]; rfl) ⟨_, hk, fun w _ => ?_⟩
        simp [Builtin.min_, Builtin.min2, h1, h2]
      split at h <;> try exact h.elim
      rename_i x t hx ht
      have hx := arr1 hx
      have ht := arr1 ht
      subst hx; subst ht
      split at h
      · rename_i e hd
        refine Reads.mk (s := Builtin.len_ #[t] type #[ρ x]) (by simp [execOp, resolve, invoke, builtin, bind, Sem.bind]; rfl) ?_
        obtain ⟨a, n, c, hx, hk⟩ := h
        refine ⟨_, hk, fun w _ => ?_⟩
        obtain ⟨u, hr, rfl⟩ := LenS.run (P := P) (k := (· = _)) ⟨a, n, c, hx, rfl⟩ w (ty := type) hd
        exact hr
      · rename_i e e' hd
        refine Reads.mk (s := Builtin.len_ #[t] type #[ρ x]) (by simp [execOp, resolve, invoke, builtin, bind, Sem.bind]; rfl) ?_
        exact uni h.fix fun k hk w hw => hk.run hw hd
      · rename_i hd
        refine Reads.mk (s := Builtin.len_ #[t] type #[ρ x]) (by simp [execOp, resolve, invoke, builtin, bind, Sem.bind]; rfl) ?_
        obtain ⟨s, hx, hk⟩ := h
        exact ⟨_, hk, fun w _ => by simp [Builtin.len_, run_underlying hd, hx, goInt]⟩
      · exact h.reads
  all_goals exact h.reads

/-- what is known of an operation's value by the text alone -/
def valOf (o : Oper) (ρ : Operand → Value) (v : Value) : Prop :=
  match o.op with
  | .move x => v = ρ x
  | .assign x => v = ρ x
  | .pick c a b => ∀ t, ρ c = .bool t → v = cond t (ρ a) (ρ b)
  | _ => True
theorem opP_val {o : Oper} {ρ : Operand → Value} {k : Value → Prop} (h : opP P g o ρ H k) : ∃ v, k v ∧ (∀ w, Own g H w → (execOp ρ o).run P w = .ok (.value v) w) ∧ valOf o ρ v := by
  obtain ⟨dst, op, type, pos, after, guard⟩ := o
  cases op
  case move x => exact ⟨_, h, fun w _ => rfl, rfl⟩
  case assign x => exact ⟨_, h, fun w _ => rfl, rfl⟩
  case pick c a b =>
    obtain ⟨t, hc, hk⟩ := h
    refine ⟨_, hk, fun w _ => ?_, fun t' ht' => ?_⟩
    · cases t <;> simp [execOp, hc, asBool]
    · rw [hc] at ht'; simp only [Value.bool.injEq] at ht'; subst ht'; rfl
  all_goals
    obtain ⟨v, hk, hr⟩ := opP_reads h
    exact ⟨v, hk, hr, trivial⟩
end
end Go.Sx
/-
  Operations that write, make memory or call (opE).
-/
set_option linter.unusedSimpArgs false
set_option linter.unusedVariables false
namespace Go.Sx
open Go
section
variable {P : Program} {g : Gh} {H : Hp} {K : Value → Hp → Prop} {KP : List PanicEntry → Hp → Prop}

def BuildSl (P : Program) (t len : Nat) (parts : List (Nat × Value)) (H : Hp) (k : Value → Hp → Prop) : Prop :=
  ∃ cs, (∃ e n z, P.underlying t = some (.slice e) ∧ sizeD P e = some n ∧ zeroD P e = some z ∧ len * n ≤ 2 ^ 24 ∧
      Instr.fill (fun i => some (i * n, n)) ((Array.range (len * n)).map (z.cells[· % z.cells.size]!)) parts = some cs ∧
      New H (.cells cs e (0, 0)) fun b H' => k (.slice (some ⟨b, 0, none⟩) len len) H')

/-- operations that write, make memory, call -/
def opE (P : Program) (g : Gh) (o : Oper) (ρ : Operand → Value) (H : Hp) (K : Value → Hp → Prop) (KP : List PanicEntry → Hp → Prop) : Prop :=
  match o.op with
  | .alloc t => match zeroD P t with
    | some z => New H (.cells z.cells t (0, 0)) fun b H' => K (.pointer (some ⟨b, 0, none⟩)) H'
    | none => False
  | .box t x => New H (.cells (ρ x).cells t (0, 0)) fun b H' => K (.pointer (some ⟨b, 0, none⟩)) H'
  | .store t a x => match sizeD P t with
    | some n => St n H (ρ a) (ρ x) fun H' => K undef H'
    | none => False
  | .buildSlice t len parts => BuildSl P t len (parts.toList.map fun p => (p.1, ρ p.2)) H K
  | .makeMap _ none => MkMap H K
  | .makeSlice t l c => match P.underlying t with
    | some (.slice e) => match sizeD P e, bytesD P e, zeroD P e with
      | some n, some b, some z => MkSlice e n b z H (ρ l) (ρ c) K
      | _, _, _ => False
    | _ => False
  | .mapUpdate t m key x => match P.underlying t with
    | some (.map kt _) => match P.underlying kt with
      | some kd => cond (plainKey kd) (MapUpd kd H (ρ m) (ρ key) (ρ x) fun H' => K undef H') (cond (isAggD kd) (MapUpdS P kt H (ρ m) (ρ key) (ρ x) fun H' => K undef H') (Op1 P g o ρ H K KP))
      | none => False
    | _ => False
  | .range t x => match P.underlying t with
    | some (.map _ _) => Rng H (ρ x) K
    | _ => Op1 P g o ρ H K KP
  | .next it false => Nxt H (ρ it) K
  | .entry it => Entr H (ρ it) fun v => K v H
  | .call c =>
    match c.callee with
    | .value (.func f) => cond (callable P f) (CallF P g f (c.args.toList.map ρ).toArray H K KP) (Op1 P g o ρ H K KP)
    | .value f => CallV P g (ρ f) (c.args.toList.map ρ).toArray H K KP
    | .builtin .append =>
      match c.args.toList, c.argTypes.toList with
      | [s, x], [t, t'] => match P.underlying t, P.underlying t' with
        | some (.slice e), some (.slice _) => match sizeD P e, bytesD P e, zeroD P e with
          | some n, some b, some z => App P e n b z H (ρ s) (ρ x) K
          | _, _, _ => False
        | _, _ => Op1 P g o ρ H K KP
      | _, _ => False
    | .builtin .delete =>
      match c.args.toList, c.argTypes.toList with
      | [m, key], [t, _] => match P.underlying t with
        | some (.map kt _) => match P.underlying kt with
          | some kd => cond (plainKey kd) (MapDel kd H (ρ m) (ρ key) fun H' => K (.tuple #[]) H') (cond (isAggD kd) (MapDelS P kt H (ρ m) (ρ key) fun H' => K (.tuple #[]) H') (Op1 P g o ρ H K KP))
          | none => False
        | _ => False
      | _, _ => Op1 P g o ρ H K KP
    | _ => Op1 P g o ρ H K KP
  | _ => Op1 P g o ρ H K KP

theorem bytesD_spec {t : TypeId} {n : Nat} (h : bytesD P t = some n) : ∃ i, P.info? t = some i ∧ i.bytes = n := by
  unfold bytesD at h
  split at h
  · rename_i i hi; exact ⟨i, hi, by simpa using h⟩
  · simp at h

theorem Op1.ofValue {o : Oper} {ρ : Operand → Value} {s : Sem Value} (he : execOp ρ o = (do pure (.value (← s)))) (h : ∀ w, Own g H w → ∃ v w' H', s.run P w = .ok v w' ∧ Own g H' w' ∧ K v H') : Op1 P g o ρ H K KP := by
  intro w hw
  obtain ⟨v, w', H', hr, ho, hk⟩ := h w hw
  rw [he]
  simp only [Sem.run_bind, hr, Result.andThen_ok, Sem.run_pure]
  exact ⟨H', ho, hk⟩
theorem Op1.ofUnit {o : Oper} {ρ : Operand → Value} {s : Sem Unit} (he : execOp ρ o = (do s; pure .skip)) (h : ∀ w, Own g H w → ∃ w' H', s.run P w = .ok () w' ∧ Own g H' w' ∧ K undef H') : Op1 P g o ρ H K KP := by
  intro w hw
  obtain ⟨w', H', hr, ho, hk⟩ := h w hw
  rw [he]
  simp only [Sem.run_bind, hr, Result.andThen_ok, Sem.run_pure]
  exact ⟨H', ho, hk⟩

theorem callable_run {f : FuncId} (h : callable P f = true) (args : Array Value) (w : World) : (callFunc f args).run P w = .ok (.enter f args) w := by
  unfold callable at h
  split at h
  · simp at h
  · rename_i fn hf
    simp only [Bool.and_eq_true, Bool.not_eq_true'] at h
    obtain ⟨h1, h2⟩ := h
    have h3 : fn.body.isNone = false := by cases hb : fn.body <;> simp_all
    simp only [callFunc, Sem.run_bind, run_program, Result.andThen_ok, hf, show (fn.name == "runtime.NumGoroutine") = false from h1, h3, Bool.false_eq_true, if_false]
    rfl

theorem CallV.op {o : Oper} {c : Call} {ρ : Operand → Value} {x : Operand} (ho : o.op = .call c) (hc : c.callee = .value x) (h : CallV P g (ρ x) (c.args.toList.map ρ).toArray H K KP) : Op1 P g o ρ H K KP := by
  obtain ⟨f, first, captured, hf, hcl, hcall⟩ := h
  rw [mapList] at hcall
  intro w hw
  have hr : (execOp ρ o).run P w = .ok (.enter f (first ++ c.args.map ρ ++ captured)) w := by
    simp only [execOp, ho, resolve, hc, Deferred.ofValue, hf, invoke]
    show (callFunc f (first ++ c.args.map ρ ++ captured)).run P w = _
    exact callable_run hcl _ w
  rw [hr]
  exact hcall w hw

theorem opE_op {o : Oper} {ρ : Operand → Value} (hρ : ∀ f, ρ (.func f) = .func (.func f) #[] #[]) (h : opE P g o ρ H K KP) : Op1 P g o ρ H K KP := by
  unfold opE at h
  split at h
  case h_1 t hop =>
    split at h
    · rename_i z hz
      obtain ⟨i, hi, hiz⟩ := zeroD_spec hz
      refine Op1.ofValue (s := Instr.alloc t true (.tuple #[])) (by simp only [execOp, hop]) fun w hw => ⟨_, _, _, ?_, hw.alloc _, h _ hw.fresh⟩
      simp [Instr.alloc, run_zero hi hiz, newVar, newRow]
    · exact h.elim
  case h_2 t x hop =>
    refine Op1.ofValue (s := Instr.box t (ρ x)) (by simp only [execOp, hop]) fun w hw => ⟨_, _, _, ?_, hw.alloc _, h _ hw.fresh⟩
    simp [Instr.box, newVar, newRow]
  case h_3 t a x hop =>
    split at h
    · rename_i n hn
      obtain ⟨i, hi, hin⟩ := sizeD_spec hn
      exact Op1.ofUnit (s := Instr.storeAt t (ρ a) (ρ x)) (by simp only [execOp, hop]) fun w hw => h.run hw hi hin
    · exact h.elim
  case h_4 t len parts hop =>
    obtain ⟨cs, e, n, z, ht, hn, hz, hl, hf, hk⟩ := h
    obtain ⟨i, hi, hin⟩ := sizeD_spec hn
    obtain ⟨i', hi', hiz⟩ := zeroD_spec hz
    have : i' = i := Option.some.inj (hi'.symm.trans hi)
    subst this
    subst hin
    refine Op1.ofValue (s := Instr.buildSlice t len (parts.map fun (i, x) => (i, ρ x))) (by simp only [execOp, hop]) fun w hw => ⟨_, _, _, ?_, hw.alloc _, hk _ hw.fresh⟩
    have hl' : ¬ (len * i'.size > 2 ^ 24) := by omega
    have hpl : (parts.map fun (x : Nat × Operand) => (x.1, ρ x.2)).toList = parts.toList.map fun p => (p.1, ρ p.2) := by rw [Array.toList_map]
    by_cases h0 : len * i'.size = 0
    · simp only [Instr.buildSlice, Sem.run_bind, run_underlying ht, Result.andThen_ok, run_sizeOf hi, hl', if_false, h0, if_true, Sem.run_pure]
      rw [h0] at hf
      have hr0 : Array.range 0 = #[] := rfl
      simp only [hr0, Array.map_empty, List.map_toArray, List.map_nil] at hf ⊢
      rw [hpl, hf]
      simp [newRow]
    · simp only [Instr.buildSlice, Sem.run_bind, run_underlying ht, Result.andThen_ok, run_sizeOf hi, hl', if_false, h0, run_zero hi hiz, Sem.run_pure]
      simp [hf, newRow]
  case h_5 t hop =>
    refine Op1.ofValue (s := Instr.makeMap t none) (by simp only [execOp, hop]; rfl) fun w hw => ⟨_, _, _, ?_, hw.alloc _, h _ hw.fresh⟩
    simp [Instr.makeMap]
  case h_6 t l c hop =>
    split at h <;> try exact h.elim
    rename_i e ht
    split at h <;> try exact h.elim
    rename_i n b z hn hb hz
    obtain ⟨i, hi, hin⟩ := sizeD_spec hn
    obtain ⟨i', hi', hiz⟩ := zeroD_spec hz
    obtain ⟨i2, hi2, hib⟩ := bytesD_spec hb
    have e1 : i' = i := Option.some.inj (hi'.symm.trans hi)
    have e2 : i2 = i := Option.some.inj (hi2.symm.trans hi)
    subst e1; subst e2
    exact Op1.ofValue (s := Instr.makeSlice t (ρ l) (ρ c)) (by simp only [execOp, hop]) fun w hw => h.run hw ht hi hiz hin hib
  case h_7 t m key x hop =>
    split at h <;> try exact h.elim
    rename_i kt e ht
    split at h <;> try exact h.elim
    rename_i kd hkt
    cases hp : plainKey kd <;> simp only [hp, cond_true, cond_false] at h
    · cases hp2 : isAggD kd <;> simp only [hp2, cond_true, cond_false] at h
      · exact h
      · exact Op1.ofUnit (s := Instr.mapUpdate t (ρ m) (ρ key) (ρ x)) (by simp only [execOp, hop]) fun w hw => h.run hw ht hkt hp2
    · exact Op1.ofUnit (s := Instr.mapUpdate t (ρ m) (ρ key) (ρ x)) (by simp only [execOp, hop]) fun w hw => h.run hw ht hkt hp
  case h_8 t x hop =>
    split at h
    · rename_i kt e ht
      exact Op1.ofValue (s := Instr.range t (ρ x)) (by simp only [execOp, hop]) fun w hw => h.run hw ht
    · exact h
  case h_9 it hop =>
    exact Op1.ofValue (s := Instr.next (ρ it) false o.type) (by simp only [execOp, hop]) fun w hw => h.run hw
  case h_10 it hop =>
    exact Op1.ofValue (s := Instr.entry (ρ it)) (by simp only [execOp, hop]) fun w hw => let ⟨v, hr, hk⟩ := h.run hw; ⟨v, w, H, hr, hw, hk⟩
  case h_11 c hop =>
    split at h
    · rename_i f hc
      cases hcl : callable P f <;> simp only [hcl, cond_true, cond_false] at h
      · exact h
      · rw [mapList] at h
        intro w hw
        have hr : (execOp ρ o).run P w = .ok (.enter f (c.args.map ρ)) w := by
          simp only [execOp, hop, resolve, hc, Deferred.ofValue, hρ, invoke]
          show (callFunc f ((#[] ++ c.args.map ρ) ++ #[])).run P w = _
          rw [Array.empty_append, Array.append_empty]
          exact callable_run hcl _ w
        rw [hr]
        exact h w hw
    · rename_i x _ hc
      exact CallV.op hop hc h
    · rename_i hc
      split at h <;> try exact h.elim
      rename_i s x t t' hx ht
      have hx := arr2 hx
      have ht := arr2 ht
      split at h
      · rename_i e e' hd hd'
        split at h <;> try exact h.elim
        rename_i n b z hn hb hz
        obtain ⟨i, hi, hin⟩ := sizeD_spec hn
        obtain ⟨i', hi', hiz⟩ := zeroD_spec hz
        obtain ⟨i2, hi2, hib⟩ := bytesD_spec hb
        have e1 : i' = i := Option.some.inj (hi'.symm.trans hi)
        have e2 : i2 = i := Option.some.inj (hi2.symm.trans hi)
        subst e1; subst e2
        refine Op1.ofValue (s := Builtin.append_ #[t, t'] o.type #[ρ s, ρ x]) ?_ fun w hw => h.run hw hd ⟨_, hd'⟩ hi hiz hin hib
        simp only [execOp, hop, resolve, hc, hx, ht, invoke, builtin]
        simp [bind, Sem.bind]; rfl
      · exact h
    · rename_i hc
      split at h
      · rename_i m key t t' hx ht
        have hx := arr2 hx
        have ht := arr2 ht
        split at h <;> try exact h.elim
        rename_i kt e hd
        split at h <;> try exact h.elim
        rename_i kd hkt
        cases hp : plainKey kd <;> simp only [hp, cond_true, cond_false] at h
        · cases hp2 : isAggD kd <;> simp only [hp2, cond_true, cond_false] at h
          · exact h
          · refine Op1.ofValue (s := Builtin.delete_ #[t, t'] o.type #[ρ m, ρ key]) ?_ fun w hw => ?_
            · simp only [execOp, hop, resolve, hc, hx, ht, invoke, builtin]
              simp [bind, Sem.bind]; rfl
            · obtain ⟨w', H', hr, ho, hk⟩ := h.run (P := P) hw (as := #[t, t']) (ty := o.type) rfl hd hkt hp2
              exact ⟨_, w', H', hr, ho, hk⟩
        · refine Op1.ofValue (s := Builtin.delete_ #[t, t'] o.type #[ρ m, ρ key]) ?_ fun w hw => ?_
          · simp only [execOp, hop, resolve, hc, hx, ht, invoke, builtin]
            simp [bind, Sem.bind]; rfl
          · obtain ⟨w', H', hr, ho, hk⟩ := h.run (P := P) hw (as := #[t, t']) (ty := o.type) rfl hd hkt hp
            exact ⟨_, w', H', hr, ho, hk⟩
      · exact h
    · exact h
  all_goals exact h
end
end Go.Sx
/-
  A function's text as one statement on pieces of heap (den), and that it is true of the model's run of that text.
-/
set_option linter.unusedSimpArgs false
set_option linter.unusedVariables false
namespace Go.Sx
open Go
section
variable {P : Program} {g : Gh}

def isP : Op → Bool
  | .move _ | .assign _ | .pick .. | .load .. | .nilCheck _ | .binOp .. | .unOp .. | .convert .. | .fieldAddr .. | .field .. | .indexAddr .. | .index .. | .slice .. | .extract .. | .lookup .. | .makeFunc .. | .build .. | .makeInterface ..
  | .typeAssert .. => true
  | .call c => match c.callee with
    | .builtin .len | .builtin .cap | .builtin .min | .builtin .max => true
    | _ => false
  | _ => false

/-- a call that only reads -/
def CallQ (P : Program) (g : Gh) (f : FuncId) (args : Array Value) (H : Hp) (k : Value → Prop) : Prop :=
  ∃ v, SCalls P g f args H (fun e H' => e = .returned v ∧ H' = H) ∧ k v
def opQ (P : Program) (g : Gh) (o : Oper) (ρ : Operand → Value) (H : Hp) (k : Value → Prop) : Prop :=
  match o.op with
  | .call c => match c.callee with
    | .value (.func f) => cond (callable P f) (CallQ P g f (c.args.toList.map ρ).toArray H k) False
    | .value x => ∃ f first captured, ρ x = .func (.func f) first captured ∧ callable P f = true ∧ CallQ P g f (first ++ (c.args.toList.map ρ).toArray ++ captured) H k
    | _ => False
  | _ => False

def sameGuard : Option (Nat × Bool) → Option (Nat × Bool) → Bool
  | none, none => true
  | some (i, a), some (j, b) => Nat.beq i j && (a == b)
  | _, _ => false
theorem sameGuard_eq {x y : Option (Nat × Bool)} (h : sameGuard x y = true) : x = y := by
  cases x with
  | none => cases y <;> simp_all [sameGuard]
  | some a =>
    obtain ⟨i, a⟩ := a
    cases y with
    | none => simp [sameGuard] at h
    | some b =>
      obtain ⟨j, b⟩ := b
      simp only [sameGuard, Bool.and_eq_true, beq_iff_eq] at h
      rw [Nat.eq_of_beq_eq_true h.1, h.2]
def takeG (cur : Option (Nat × Bool)) : List Oper → List Oper
  | [] => []
  | o :: r => cond (sameGuard o.guard cur) [] (o :: takeG cur r)
def dropG (cur : Option (Nat × Bool)) : List Oper → List Oper
  | [] => []
  | o :: r => cond (sameGuard o.guard cur) (o :: r) (dropG cur r)
theorem take_drop_G (cur : Option (Nat × Bool)) (l : List Oper) : takeG cur l ++ dropG cur l = l := by
  induction l with
  | nil => rfl
  | cons o r ih => simp only [takeG, dropG]; cases sameGuard o.guard cur <;> simp [ih]
def skipG : List Oper → Fr → Fr
  | [], fr => fr
  | o :: r, fr => skipG r (upd fr o.dst undef)
def inDsts : List Oper → Nat → Bool
  | [], _ => false
  | o :: r, s => (match o.dst with | some d => Nat.beq s d | none => false) || inDsts r s
def okDsts (n : Nat) : List Oper → Bool
  | [] => true
  | o :: r => okDst n o.dst && okDsts n r
def garb (G : List Oper) (gs fr : Fr) : Fr := fun s => cond (inDsts G s) (gs s) (fr s)
def pickOf (p : Oper) (fr : Fr) : Value :=
  match p.op with
  | .pick c a b => match ev fr c with
    | .bool t => cond t (ev fr a) (ev fr b)
    | _ => undef
  | _ => undef
def isPick (p : Oper) : Bool := match p.op with | .pick .. => true | _ => false

def slotOf (ops : Array Oper) (j : Nat) : Option Nat := match ops[j]? with | some oj => oj.dst | none => none
/-- in a list that stands behind one guard: each operation stands behind that guard, or behind one whose slot the list has passed over -/
def skipOK (ops : Array Oper) (s : Nat) (want : Bool) : List Nat → List Oper → Bool
  | _, [] => true
  | seen, o :: r =>
    (match o.guard with
    | none => false
    | some (j, w) => match slotOf ops j with
      | none => false
      | some t => (Nat.beq t s && (w == want)) || seen.any (Nat.beq t)) &&
    skipOK ops s want (match o.dst with | some d => d :: seen | none => seen) r

/-- operations behind a guard that only read: t is what comes of the whole '&&', '||' -/
def Grp (v : Value) (want : Bool) (inner els k : Bool → Prop) : Prop := ∃ a t : Bool, v = .bool a ∧ (a = want → inner t) ∧ (a = !want → els t) ∧ k t
/-- operations behind a guard that may write: two ways -/
def Split (v : Value) (want : Bool) (k1 k2 : Prop) : Prop := ∃ a : Bool, v = .bool a ∧ (a = want → k1) ∧ (a = !want → k2)
/-- slots whose Bool the text itself fixes -/
def knGet : List (Nat × Bool) → Nat → Option Bool
  | [], _ => none
  | (t, b) :: r, s => cond (Nat.beq t s) (some b) (knGet r s)
def knDel : List (Nat × Bool) → Option Nat → List (Nat × Bool)
  | kn, none => kn
  | [], some _ => []
  | (t, b) :: r, some d => cond (Nat.beq t d) (knDel r (some d)) ((t, b) :: knDel r (some d))
def knDels : List (Nat × Bool) → List Oper → List (Nat × Bool)
  | kn, [] => kn
  | kn, o :: r => knDels (knDel kn o.dst) r
def knVal (kn : List (Nat × Bool)) : Operand → Option Bool
  | .const (.bool b) => some b
  | .tmp t => knGet kn t
  | _ => none
def knOp (kn : List (Nat × Bool)) (o : Oper) : Option Bool :=
  match o.op with
  | .move x => knVal kn x
  | .assign x => knVal kn x
  | .pick c a b => match knVal kn c with
    | some true => knVal kn a
    | some false => knVal kn b
    | none => none
  | _ => none
def knUp (kn : List (Nat × Bool)) (o : Oper) : List (Nat × Bool) :=
  match knOp kn o, o.dst with
  | some b, some d => (d, b) :: knDel kn (some d)
  | _, d => knDel kn d
def KnOK (kn : List (Nat × Bool)) (fr : Fr) : Prop := ∀ s b, knGet kn s = some b → fr s = .bool b
theorem KnOK.nil (fr : Fr) : KnOK [] fr := fun s b h => by simp [knGet] at h
theorem knDel_get {kn : List (Nat × Bool)} {d s : Nat} {b : Bool} (h : knGet (knDel kn (some d)) s = some b) : s ≠ d ∧ knGet kn s = some b := by
  induction kn with
  | nil => simp [knDel, knGet] at h
  | cons x r ih =>
    obtain ⟨t, c⟩ := x
    simp only [knDel] at h
    cases hb : Nat.beq t d <;> simp only [hb, cond_true, cond_false] at h
    · simp only [knGet] at h ⊢
      cases hs : Nat.beq t s <;> simp only [hs, cond_true, cond_false] at h ⊢
      · exact ih h
      · refine ⟨fun e => ?_, h⟩
        have := Nat.eq_of_beq_eq_true hs
        subst this; subst e; simp at hb
    · have h' := ih h
      refine ⟨h'.1, ?_⟩
      simp only [knGet]
      have := Nat.eq_of_beq_eq_true hb
      subst this
      cases hs : Nat.beq t s
      · exact h'.2
      · exact absurd (Nat.eq_of_beq_eq_true hs).symm h'.1
theorem KnOK.del {kn : List (Nat × Bool)} {fr : Fr} (h : KnOK kn fr) (d : Option Nat) (v : Value) : KnOK (knDel kn d) (upd fr d v) := by
  cases d with
  | none => cases kn <;> exact h
  | some d =>
    intro s b hs
    obtain ⟨h1, h2⟩ := knDel_get hs
    simp only [upd]
    cases hb : Nat.beq s d
    · exact h s b h2
    · exact absurd (Nat.eq_of_beq_eq_true hb) h1
theorem KnOK.put {kn : List (Nat × Bool)} {fr : Fr} (h : KnOK kn fr) {s : Nat} {b : Bool} (hs : fr s = .bool b) : KnOK ((s, b) :: kn) fr := by
  intro t c ht
  simp only [knGet] at ht
  cases hb : Nat.beq s t <;> simp only [hb, cond_true, cond_false] at ht
  · exact h t c ht
  · have := Nat.eq_of_beq_eq_true hb; subst this; simp only [Option.some.injEq] at ht; subst ht; exact hs
theorem knVal_ok {kn : List (Nat × Bool)} {fr : Fr} (h : KnOK kn fr) {x : Operand} {b : Bool} (hx : knVal kn x = some b) : ev fr x = .bool b := by
  cases x with
  | tmp t => exact h t b hx
  | const v => cases v <;> simp [knVal] at hx; subst hx; rfl
  | global g => simp [knVal] at hx
  | func f => simp [knVal] at hx
theorem knOp_ok {kn : List (Nat × Bool)} {fr : Fr} (h : KnOK kn fr) {o : Oper} {v : Value} (hv : valOf o (ev fr) v) {b : Bool} (hb : knOp kn o = some b) : v = .bool b := by
  unfold knOp at hb
  unfold valOf at hv
  split at hb
  · rename_i x hop; rw [hop] at hv; exact hv.trans (knVal_ok h hb)
  · rename_i x hop; rw [hop] at hv; exact hv.trans (knVal_ok h hb)
  · rename_i c a b' hop
    rw [hop] at hv
    split at hb
    · rename_i hc; rw [hv _ (knVal_ok h hc)]; exact knVal_ok h hb
    · rename_i hc; rw [hv _ (knVal_ok h hc)]; exact knVal_ok h hb
    · simp at hb
  · simp at hb
theorem KnOK.up {kn : List (Nat × Bool)} {fr : Fr} (h : KnOK kn fr) {o : Oper} {v : Value} (hv : valOf o (ev fr) v) : KnOK (knUp kn o) (upd fr o.dst v) := by
  unfold knUp
  split
  · rename_i b d hb hd
    rw [hd]
    exact (h.del (some d) v).put (by simp [upd, knOp_ok h hv hb])
  · exact h.del _ _
theorem KnOK.dels {kn : List (Nat × Bool)} {fr fr' : Fr} : ∀ (l : List Oper), KnOK kn fr → (∀ s, inDsts l s = false → fr' s = fr s) → KnOK (knDels kn l) fr' := by
  intro l
  have key : ∀ (l : List Oper) (kn : List (Nat × Bool)) (s : Nat) (b : Bool), knGet (knDels kn l) s = some b → inDsts l s = false ∧ knGet kn s = some b := by
    intro l
    induction l with
    | nil => intro kn s b h; exact ⟨rfl, h⟩
    | cons o r ih =>
      intro kn s b h
      simp only [knDels] at h
      obtain ⟨h1, h2⟩ := ih _ s b h
      simp only [inDsts, h1, Bool.or_false]
      cases hd : o.dst with
      | none => rw [hd] at h2; exact ⟨rfl, by cases kn <;> exact h2⟩
      | some d =>
        rw [hd] at h2
        obtain ⟨h3, h4⟩ := knDel_get h2
        refine ⟨?_, h4⟩
        cases hb : Nat.beq s d
        · exact hb
        · exact absurd (Nat.eq_of_beq_eq_true hb) h3
  intro h ho s b hs
  obtain ⟨h1, h2⟩ := key l kn s b hs
  rw [ho s h1]; exact h s b h2

/-- the operations of a statement, in the order of the text. q: all of them only read; gq: those behind a guard do -/
def denOps (P : Program) (g : Gh) (n : Nat) (ops : Array Oper) (gq : Bool) : Nat → Bool → Option (Nat × Bool) → List (Nat × Bool) → List Oper → Fr → Hp → (List (Nat × Bool) → Fr → Hp → Prop) → (List PanicEntry → Hp → Prop) → Prop
  | 0, _, _, _, _, _, _, _, _ => False
  | _ + 1, _, _, kn, [], fr, H, K, _ => K kn fr H
  | f + 1, q, cur, kn, o :: r, fr, H, K, KP =>
    cond (sameGuard o.guard cur)
      (cond (okDst n o.dst)
        (cond (isP o.op) (opP P g o (ev fr) H fun v => denOps P g n ops gq f q cur (knUp kn o) r (upd fr o.dst v) H K KP)
          (cond q (opQ P g o (ev fr) H fun v => denOps P g n ops gq f q cur (knDel kn o.dst) r (upd fr o.dst v) H K KP)
            (opE P g o (ev fr) H (fun v H' => denOps P g n ops gq f q cur (knDel kn o.dst) r (upd fr o.dst v) H' K KP) KP))) False)
      (match o.guard with
      | none => False
      | some (j, want) =>
        match slotOf ops j with
        | none => False
        | some s =>
          cond (okDst n (some s) && okDsts n (takeG cur (o :: r)) && !inDsts (takeG cur (o :: r)) s && skipOK ops s want [] (takeG cur (o :: r)))
          (match knGet kn s with
          | some b => cond (b == want)
              (denOps P g n ops gq f q o.guard kn (takeG cur (o :: r)) fr H (fun kn' fr' H' => denOps P g n ops gq f q cur kn' (dropG cur (o :: r)) fr' H' K KP) KP)
              (denOps P g n ops gq f q cur (knDels kn (takeG cur (o :: r))) (dropG cur (o :: r)) (skipG (takeG cur (o :: r)) fr) H K KP)
          | none =>
          cond (q || gq)
            (match dropG cur (o :: r) with
            | [] => False
            | p :: r' =>
              cond (isPick p && okDst n p.dst)
              (Grp (fr s) want
                (fun t => denOps P g n ops gq f true o.guard ((s, want) :: kn) (takeG cur (o :: r)) (upd fr (some s) (.bool want)) H (fun _ fr' H' => H' = H ∧ pickOf p fr' = .bool t) (fun _ _ => False))
                (fun t => pickOf p (skipG (takeG cur (o :: r)) (upd fr (some s) (.bool !want))) = .bool t)
                (fun t => ∀ gs, denOps P g n ops gq f q cur (knDel (knDels kn (takeG cur (o :: r))) p.dst) r' (upd (garb (takeG cur (o :: r)) gs fr) p.dst (.bool t)) H K KP)) False)
            (Split (fr s) want
              (denOps P g n ops gq f q o.guard ((s, want) :: kn) (takeG cur (o :: r)) (upd fr (some s) (.bool want)) H (fun kn' fr' H' => denOps P g n ops gq f q cur kn' (dropG cur (o :: r)) fr' H' K KP) KP)
              (denOps P g n ops gq f q cur ((s, !want) :: knDels kn (takeG cur (o :: r))) (dropG cur (o :: r)) (skipG (takeG cur (o :: r)) (upd fr (some s) (.bool !want))) H K KP))) False)

theorem upd_same {fr : Fr} {s : Nat} {v : Value} (h : fr s = v) : upd fr (some s) v = fr := by
  funext x
  simp only [upd]
  cases hb : Nat.beq x s
  · rfl
  · have := Nat.eq_of_beq_eq_true hb; subst this; simp [h]
theorem upd_ne {fr : Fr} {d : Option Nat} {v : Value} {s : Nat} (h : inDsts [({ (default : Oper) with dst := d })] s = false) : upd fr d v s = fr s := by
  cases d with
  | none => rfl
  | some d => simp only [inDsts, Bool.or_false] at h; simp only [upd, h, cond_false]
theorem inDsts_cons {o : Oper} {r : List Oper} {s : Nat} : inDsts (o :: r) s = (inDsts [({ (default : Oper) with dst := o.dst })] s || inDsts r s) := by
  simp [inDsts]
theorem inDsts_append {a b : List Oper} {s : Nat} : inDsts (a ++ b) s = (inDsts a s || inDsts b s) := by
  induction a with
  | nil => simp [inDsts]
  | cons o r ih => simp only [List.cons_append, inDsts, ih, Bool.or_assoc]
theorem inDsts_take {cur : Option (Nat × Bool)} {l : List Oper} {s : Nat} (h : inDsts l s = false) : inDsts (takeG cur l) s = false ∧ inDsts (dropG cur l) s = false := by
  have := take_drop_G cur l
  rw [← this, inDsts_append, Bool.or_eq_false_iff] at h
  exact h

def OutEq (l : List Oper) (fr fr' : Fr) : Prop := ∀ s, inDsts l s = false → fr' s = fr s
/-- the guard in force holds, and stays -/
def CurOK (ops : Array Oper) (cur : Option (Nat × Bool)) (l : List Oper) (fr : Fr) : Prop :=
  match cur with
  | none => True
  | some (j, want) => ∃ s, slotOf ops j = some s ∧ fr s = .bool want ∧ inDsts l s = false
theorem CurOK.tail {ops : Array Oper} {cur : Option (Nat × Bool)} {o : Oper} {r : List Oper} {fr fr' : Fr} (h : CurOK ops cur (o :: r) fr) (he : ∀ s, inDsts [({ (default : Oper) with dst := o.dst })] s = false → fr' s = fr s) : CurOK ops cur r fr' := by
  unfold CurOK at *
  split
  · trivial
  · obtain ⟨s, h1, h2, h3⟩ := h
    rw [inDsts_cons, Bool.or_eq_false_iff] at h3
    exact ⟨s, h1, (he s h3.1).trans h2, h3.2⟩
theorem yielded_of {n : Nat} {ops : Array Oper} {a : Act} {fr : Fr} (h : Agree n a fr) {j s : Nat} (hs : slotOf ops j = some s) : yielded ops a.tmps j = match fr s with | .bool b => some b | _ => none := by
  unfold slotOf at hs
  split at hs
  · rename_i oj hj
    have hg := h.get s
    rw [Array.getD_eq_getD_getElem?] at hg
    simp only [yielded, hj, Option.bind_some, hs]
    cases ht : a.tmps[s]? with
    | none => rw [ht] at hg; simp only [Option.getD_none] at hg; rw [← hg]; rfl
    | some v => rw [ht] at hg; simp only [Option.getD_some] at hg; rw [← hg]; cases v <;> rfl
  · simp at hs
theorem CurOK.wanted {n : Nat} {ops : Array Oper} {cur : Option (Nat × Bool)} {l : List Oper} {fr : Fr} (h : CurOK ops cur l fr) {o : Oper} (ho : o.guard = cur) {a : Act} (ha : Agree n a fr) : Region.wanted o (yielded ops a.tmps) = true := by
  unfold CurOK at h
  unfold Region.wanted
  rw [ho]
  split at h
  · rfl
  · obtain ⟨s, h1, h2, _⟩ := h
    simp only [yielded_of ha h1, h2, beq_self_eq_true]

theorem pickOf_run {p : Oper} {fr : Fr} {t : Bool} (hp : isPick p = true) (h : pickOf p fr = .bool t) (w : World) : (execOp (ev fr) p).run P w = .ok (.value (.bool t)) w := by
  unfold isPick at hp
  split at hp <;> try (simp at hp; done)
  rename_i c a b hop
  simp only [pickOf, hop] at h
  split at h
  · rename_i t' hc
    simp only [execOp, hop, hc, asBool]
    cases t' <;> simp only [cond_true, cond_false] at h <;> simp [h]
  · simp [undef] at h

/-- operations passed over -/
theorem skip_list {n : Nat} {ops : Array Oper} {Q : Exit → Act → World → Prop} {s : Nat} {want : Bool} {w : World} {rest : List Oper} : ∀ (l : List Oper) (seen : List Nat) (fr : Fr) (a : Act), okDsts n l = true → inDsts l s = false → skipOK ops s want seen l = true →
    fr s = .bool (!want) → (∀ t ∈ seen, fr t = undef) → Agree n a fr → (∀ a', Agree n a' (skipG l fr) → wpList P ops Q rest a' w) → wpList P ops Q (l ++ rest) a w
  | [], _, fr, a, _, _, _, _, _, ha, hk => hk a ha
  | o :: r, seen, fr, a, hd, hi, hs, hf, hseen, ha, hk => by
    simp only [okDsts, Bool.and_eq_true] at hd
    rw [inDsts_cons, Bool.or_eq_false_iff] at hi
    simp only [skipOK, Bool.and_eq_true] at hs
    obtain ⟨hs1, hs2⟩ := hs
    have hnw : Region.wanted o (yielded ops a.tmps) = false := by
      unfold Region.wanted
      split at hs1
      · simp at hs1
      · rename_i j w' hg
        rw [hg]
        split at hs1
        · simp at hs1
        · rename_i t ht
          simp only [yielded_of ha ht]
          simp only [Bool.or_eq_true, Bool.and_eq_true, beq_iff_eq] at hs1
          rcases hs1 with ⟨h1, rfl⟩ | h1
          · have := Nat.eq_of_beq_eq_true h1; subst this
            rw [hf]; cases w' <;> rfl
          · obtain ⟨u, hu, hb⟩ := List.any_eq_true.1 h1
            have := Nat.eq_of_beq_eq_true hb; subst this
            rw [hseen _ hu]; rfl
    simp only [List.cons_append, wpList, hnw, Bool.false_eq_true, if_false]
    refine skip_list r _ (upd fr o.dst undef) _ hd.2 hi.2 hs2 ?_ ?_ (ha.put hd.1 undef) (fun a' h' => hk a' h')
    · rw [upd_ne hi.1, hf]
    · intro t ht
      cases hdst : o.dst with
      | none => rw [hdst] at ht; exact hseen t ht
      | some d =>
        rw [hdst] at ht
        simp only [upd]
        cases hb : Nat.beq t d
        · simp only [cond_false]
          rcases List.mem_cons.1 ht with rfl | ht
          · simp at hb
          · exact hseen t ht
        · rfl
theorem skip_quiet {n : Nat} {ops : Array Oper} {C : World → Prop} {Q : Act → Prop} {s : Nat} {want : Bool} {rest : List Oper} : ∀ (l : List Oper) (seen : List Nat) (fr : Fr) (a : Act), okDsts n l = true → inDsts l s = false → skipOK ops s want seen l = true →
    fr s = .bool (!want) → (∀ t ∈ seen, fr t = undef) → Agree n a fr → (∀ a', Agree n a' (skipG l fr) → wpQuiet P ops C Q rest a') → wpQuiet P ops C Q (l ++ rest) a
  | [], _, fr, a, _, _, _, _, _, ha, hk => hk a ha
  | o :: r, seen, fr, a, hd, hi, hs, hf, hseen, ha, hk => by
    simp only [okDsts, Bool.and_eq_true] at hd
    rw [inDsts_cons, Bool.or_eq_false_iff] at hi
    simp only [skipOK, Bool.and_eq_true] at hs
    obtain ⟨hs1, hs2⟩ := hs
    have hnw : Region.wanted o (yielded ops a.tmps) = false := by
      unfold Region.wanted
      split at hs1
      · simp at hs1
      · rename_i j w' hg
        rw [hg]
        split at hs1
        · simp at hs1
        · rename_i t ht
          simp only [yielded_of ha ht]
          simp only [Bool.or_eq_true, Bool.and_eq_true, beq_iff_eq] at hs1
          rcases hs1 with ⟨h1, rfl⟩ | h1
          · have := Nat.eq_of_beq_eq_true h1; subst this
            rw [hf]; cases w' <;> rfl
          · obtain ⟨u, hu, hb⟩ := List.any_eq_true.1 h1
            have := Nat.eq_of_beq_eq_true hb; subst this
            rw [hseen _ hu]; rfl
    simp only [List.cons_append, wpQuiet, hnw, Bool.false_eq_true, if_false]
    refine skip_quiet r _ (upd fr o.dst undef) _ hd.2 hi.2 hs2 ?_ ?_ (ha.put hd.1 undef) (fun a' h' => hk a' h')
    · rw [upd_ne hi.1, hf]
    · intro t ht
      cases hdst : o.dst with
      | none => rw [hdst] at ht; exact hseen t ht
      | some d =>
        rw [hdst] at ht
        simp only [upd]
        cases hb : Nat.beq t d
        · simp only [cond_false]
          rcases List.mem_cons.1 ht with rfl | ht
          · simp at hb
          · exact hseen t ht
        · rfl
theorem skipG_out : ∀ (l : List Oper) (fr : Fr), OutEq l fr (skipG l fr)
  | [], fr => fun s _ => rfl
  | o :: r, fr => fun s hs => by
    rw [inDsts_cons, Bool.or_eq_false_iff] at hs
    rw [skipG, skipG_out r _ s hs.2, upd_ne hs.1]
end
end Go.Sx
/-
  denOps is true of the model's run of a statement's operations: in the text's order (denOps_seq), and in whatever order where all only read (denOps_quiet).
-/
set_option linter.unusedSimpArgs false
set_option linter.unusedVariables false
namespace Go.Sx
open Go
section
variable {P : Program} {g : Gh}

theorem ev_func (fr : Fr) : ∀ f, ev fr (.func f) = .func (.func f) #[] #[] := fun _ => rfl

theorem opQ_run {o : Oper} {fr : Fr} {H : Hp} {k : Value → Prop} (h : opQ P g o (ev fr) H k) :
    ∃ v f args, (∀ w, (execOp (ev fr) o).run P w = .ok (.enter f args) w) ∧ SCalls P g f args H (fun e H' => e = .returned v ∧ H' = H) ∧ k v := by
  unfold opQ at h
  split at h <;> try exact h.elim
  rename_i c hop
  split at h <;> try exact h.elim
  · rename_i f hc
    cases hcl : callable P f <;> simp only [hcl, cond_true, cond_false] at h
    obtain ⟨v, hs, hk⟩ := h
    rw [mapList] at hs
    refine ⟨v, f, _, fun w => ?_, hs, hk⟩
    simp only [execOp, hop, resolve, hc, Deferred.ofValue, ev_func, invoke]
    show (callFunc f ((#[] ++ c.args.map (ev fr)) ++ #[])).run P w = _
    rw [Array.empty_append, Array.append_empty]
    exact callable_run hcl _ w
  · rename_i x _ hc
    obtain ⟨f, first, captured, hf, hcl, v, hs, hk⟩ := h
    rw [mapList] at hs
    refine ⟨v, f, _, fun w => ?_, hs, hk⟩
    simp only [execOp, hop, resolve, hc, Deferred.ofValue, hf, invoke]
    show (callFunc f (first ++ c.args.map (ev fr) ++ captured)).run P w = _
    exact callable_run hcl _ w

theorem After.upon {o : Oper} {a : Act} {K : Value → Hp → Prop} {KP : List PanicEntry → Hp → Prop} {next : Act → World → Prop} {Q : Exit → Act → World → Prop} {r : Result Next}
    (h : After P g K KP r) (hn : ∀ v H' w', Own g H' w' → K v H' → next (a.put o.dst v) w') (hp : ∀ ch H' w', Own g H' w' → KP ch H' → Q (.panic ch) a w') : o.upon P a next Q r := by
  cases r with
  | ok n w' =>
    cases n <;> simp only [After] at h <;> simp only [Oper.upon]
    case value v => obtain ⟨H', ho, hk⟩ := h; exact hn _ _ _ ho hk
    case skip => obtain ⟨H', ho, hk⟩ := h; exact hn _ _ _ ho hk
    case enter f args =>
      refine h.mono fun e w'' ⟨H', ho, hk⟩ => ?_
      cases e with
      | returned v => exact hn _ _ _ ho hk
      | panicked ch => exact hp _ _ _ ho hk
      | outgrown => exact hk.elim
  | halt x w' =>
    cases x <;> simp only [After] at h
    case panic v => obtain ⟨H', ho, hk⟩ := h; exact hp _ _ _ ho hk

theorem OutEq.refl (l : List Oper) (fr : Fr) : OutEq l fr fr := fun _ _ => rfl
theorem OutEq.cons {o : Oper} {r : List Oper} {fr fr' : Fr} {v : Value} (h : OutEq r (upd fr o.dst v) fr') : OutEq (o :: r) fr fr' := fun s hs => by
  rw [inDsts_cons, Bool.or_eq_false_iff] at hs
  rw [h s hs.2, upd_ne hs.1]

theorem denOps_seq {n : Nat} {ops : Array Oper} {gq : Bool} : ∀ (f : Nat) (q : Bool) (cur : Option (Nat × Bool)) (kn : List (Nat × Bool)) (l : List Oper) (fr : Fr) (H : Hp) (K : List (Nat × Bool) → Fr → Hp → Prop) (KP : List PanicEntry → Hp → Prop),
    denOps P g n ops gq f q cur kn l fr H K KP → CurOK ops cur l fr → KnOK kn fr → ∀ (a : Act) (w : World), Agree n a fr → Own g H w → ∀ (rest : List Oper) (Q : Exit → Act → World → Prop),
    (∀ a' w' kn' fr' H', Agree n a' fr' → Own g H' w' → OutEq l fr fr' → KnOK kn' fr' → K kn' fr' H' → wpList P ops Q rest a' w') →
    (∀ ch a' w' fr' H', Agree n a' fr' → Own g H' w' → KP ch H' → Q (.panic ch) a' w') → wpList P ops Q (l ++ rest) a w
  | 0, _, _, _, _, _, _, _, _, h => h.elim
  | f + 1, q, cur, kn, [], fr, H, K, KP, h => fun _ hkn a w ha hw rest Q hk _ => hk a w kn fr H ha hw (OutEq.refl _ _) hkn h
  | f + 1, q, cur, kn, o :: r, fr, H, K, KP, h => by
    intro hcur hkn a w ha hw rest Q hk hp
    unfold denOps at h
    cases hsg : sameGuard o.guard cur <;> simp only [hsg, cond_true, cond_false] at h
    case true =>
      have hg := sameGuard_eq hsg
      have hwant := hcur.wanted hg ha
      cases hd : okDst n o.dst <;> simp only [hd, cond_true, cond_false] at h
      simp only [List.cons_append, wpList, hwant, if_true]
      refine .inl ?_
      unfold Oper.wp
      rw [ha.eval]
      cases hip : isP o.op <;> simp only [hip, cond_true, cond_false] at h
      case true =>
        obtain ⟨v, hk', hr, hv⟩ := opP_val h
        rw [hr w hw]
        exact denOps_seq f q cur _ r _ H K KP hk' (hcur.tail fun s hs => upd_ne hs) (hkn.up hv) _ w (ha.put hd v) hw rest Q (fun a' w' kn' fr' H' h1 h2 h3 h5 h4 => hk a' w' kn' fr' H' h1 h2 h3.cons h5 h4) hp
      case false =>
        cases q <;> simp only [cond_true, cond_false] at h
        case true =>
          obtain ⟨v, f', args, hr, hs, hk'⟩ := opQ_run h
          rw [hr w]
          refine (hs w hw).mono fun e w'' ⟨H', ho, he, hH⟩ => ?_
          subst he; subst hH
          exact denOps_seq f true cur _ r _ H' K KP hk' (hcur.tail fun s hs => upd_ne hs) (hkn.del _ _) _ w'' (ha.put hd v) ho rest Q (fun a' w' kn' fr' H' h1 h2 h3 h5 h4 => hk a' w' kn' fr' H' h1 h2 h3.cons h5 h4) hp
        case false =>
          refine (opE_op (ev_func fr) h w hw).upon (fun v H' w' ho hk' => ?_) (fun ch H' w' ho hk' => hp ch a w' fr H' ha ho hk')
          exact denOps_seq f false cur _ r _ H' K KP hk' (hcur.tail fun s hs => upd_ne hs) (hkn.del _ _) _ w' (ha.put hd v) ho rest Q (fun a' w' kn' fr' H' h1 h2 h3 h5 h4 => hk a' w' kn' fr' H' h1 h2 h3.cons h5 h4) hp
    case false =>
      split at h <;> try exact h.elim
      rename_i j want hog
      split at h <;> try exact h.elim
      rename_i s hslot
      generalize hG : takeG cur (o :: r) = G at h
      generalize hR : dropG cur (o :: r) = R at h
      have hGR : G ++ R = o :: r := by rw [← hG, ← hR]; exact take_drop_G _ _
      cases hchk : (okDst n (some s) && okDsts n G && !inDsts G s && skipOK ops s want [] G) <;> simp only [hchk, cond_true, cond_false] at h
      simp only [Bool.and_eq_true, Bool.not_eq_true'] at hchk
      obtain ⟨⟨⟨hds, hdG⟩, hiG⟩, hsk⟩ := hchk
      rw [← hGR, List.append_assoc]
      have hOutG : ∀ fr', OutEq G fr fr' → ∀ s, inDsts (o :: r) s = false → fr' s = fr s := fun fr' ho s hs => by
        rw [← hGR, inDsts_append, Bool.or_eq_false_iff] at hs
        exact ho s hs.1
      have hcurR : ∀ fr', OutEq G fr fr' → CurOK ops cur R fr' := fun fr' ho => by
        unfold CurOK at hcur ⊢
        split
        · trivial
        · obtain ⟨t, h1, h2, h3⟩ := hcur
          have h3' := h3
          rw [← hGR, inDsts_append, Bool.or_eq_false_iff] at h3'
          exact ⟨t, h1, (ho t h3'.1).trans h2, h3'.2⟩
      have hknG : ∀ fr', OutEq G fr fr' → KnOK (knDels kn G) fr' := fun fr' ho => hkn.dels G ho
      split at h
      · rename_i b hb
        have hfs := hkn s b hb
        cases hbw : (b == want) <;> simp only [hbw, cond_true, cond_false] at h
        · have hbw' : b = !want := by cases b <;> cases want <;> simp_all
          subst hbw'
          refine skip_list G [] fr a hdG hiG hsk hfs (fun t ht => by simp at ht) ha fun a' ha' => ?_
          refine denOps_seq f q cur _ R _ H K KP h (hcurR _ (skipG_out G fr)) (hknG _ (skipG_out G fr)) a' w ha' hw rest Q (fun a2 w2 kn2 fr2 H2 k1 k2 k3 k5 k4 => hk a2 w2 kn2 fr2 H2 k1 k2 ?_ k5 k4) hp
          intro x hx
          have hx' := hx
          rw [← hGR, inDsts_append, Bool.or_eq_false_iff] at hx'
          rw [k3 x hx'.2, skipG_out G fr x hx'.1]
        · have hbw' : b = want := by cases b <;> cases want <;> simp_all
          subst hbw'
          refine denOps_seq f q o.guard kn G fr H _ KP h ?_ hkn a w ha hw (R ++ rest) Q ?_ hp
          · rw [hog]; exact ⟨s, hslot, hfs, hiG⟩
          · intro a' w' kn' fr' H' g1 g2 g3 g5 g4
            refine denOps_seq f q cur kn' R fr' H' K KP g4 (hcurR fr' g3) g5 a' w' g1 g2 rest Q (fun a2 w2 kn2 fr2 H2 k1 k2 k3 k5 k4 => hk a2 w2 kn2 fr2 H2 k1 k2 ?_ k5 k4) hp
            intro x hx
            have hx' := hx
            rw [← hGR, inDsts_append, Bool.or_eq_false_iff] at hx'
            rw [k3 x hx'.2, g3 x hx'.1]
      rename_i hknone
      cases hqq : (q || gq) <;> simp only [hqq, cond_true, cond_false] at h
      case true =>
        split at h <;> try exact h.elim
        rename_i p r' 
        have hpg : sameGuard p.guard cur = true := by
          have : ∀ l : List Oper, dropG cur l = p :: r' → sameGuard p.guard cur = true := by
            intro l
            induction l with
            | nil => intro e; simp [dropG] at e
            | cons x y ih =>
              intro e
              simp only [dropG] at e
              cases hx : sameGuard x.guard cur <;> simp only [hx, cond_true, cond_false] at e
              · exact ih e
              · simp only [List.cons.injEq] at e; rw [← e.1]; exact hx
          exact this _ hR
        cases hpk : (isPick p && okDst n p.dst) <;> simp only [hpk, cond_true, cond_false] at h
        simp only [Bool.and_eq_true] at hpk
        obtain ⟨b, t, hfs, h1, h2, h3⟩ := h
        have hfin : ∀ (a' : Act) (w' : World) (fr' : Fr), Agree n a' fr' → Own g H w' → OutEq G fr fr' → pickOf p fr' = .bool t → wpList P ops Q (p :: r' ++ rest) a' w' := by
          intro a' w' fr' ha' hw' ho hpv
          have hwant := (hcurR fr' ho).wanted (sameGuard_eq hpg) ha'
          simp only [List.cons_append, wpList, hwant, if_true]
          refine .inl ?_
          unfold Oper.wp
          rw [ha'.eval, pickOf_run hpk.1 hpv w']
          have hgarb : garb G fr' fr = fr' := by
            funext x
            simp only [garb]
            cases hx : inDsts G x
            · exact (ho x hx).symm
            · rfl
          have h3' := h3 fr'
          rw [hgarb] at h3'
          refine denOps_seq f q cur _ r' _ H K KP h3' ((hcurR fr' ho).tail fun s hs => upd_ne hs) ((hknG fr' ho).del _ _) _ w' (ha'.put hpk.2 _) hw' rest Q (fun a2 w2 kn2 fr2 H2 g1 g2 g3 g5 g4 => hk a2 w2 kn2 fr2 H2 g1 g2 ?_ g5 g4) hp
          intro x hx
          have hx' := hx
          rw [← hGR, inDsts_append, Bool.or_eq_false_iff, inDsts_cons, Bool.or_eq_false_iff] at hx'
          rw [g3 x hx'.2.2, upd_ne hx'.2.1, ho x hx'.1]
        by_cases hbw : b = want
        · subst hbw
          have h1' := h1 rfl
          rw [upd_same hfs] at h1'
          refine denOps_seq f true o.guard _ G fr H _ _ h1' ?_ (hkn.put hfs) a w ha hw (p :: r' ++ rest) Q ?_ ?_
          · rw [hog]; exact ⟨s, hslot, hfs, hiG⟩
          · intro a' w' kn' fr' H' g1 g2 g3 _ ⟨g4, g5⟩
            subst g4
            exact hfin a' w' fr' g1 g2 g3 g5
          · intro _ _ _ _ _ _ _ h0; exact h0.elim
        · have hbw' : b = !want := by cases b <;> cases want <;> simp_all
          have h2' := h2 hbw'
          subst hbw'
          rw [upd_same hfs] at h2'
          refine skip_list G [] fr a hdG hiG hsk hfs (fun t ht => by simp at ht) ha fun a' ha' => ?_
          exact hfin a' w _ ha' hw (skipG_out G fr) h2'
      case false =>
        obtain ⟨b, hfs, h1, h2⟩ := h
        by_cases hbw : b = want
        · subst hbw
          have h1' := h1 rfl
          rw [upd_same hfs] at h1'
          refine denOps_seq f q o.guard _ G fr H _ KP h1' ?_ (hkn.put hfs) a w ha hw (R ++ rest) Q ?_ hp
          · rw [hog]; exact ⟨s, hslot, hfs, hiG⟩
          · intro a' w' kn' fr' H' g1 g2 g3 g5 g4
            refine denOps_seq f q cur kn' R fr' H' K KP g4 (hcurR fr' g3) g5 a' w' g1 g2 rest Q (fun a2 w2 kn2 fr2 H2 k1 k2 k3 k5 k4 => hk a2 w2 kn2 fr2 H2 k1 k2 ?_ k5 k4) hp
            intro x hx
            have hx' := hx
            rw [← hGR, inDsts_append, Bool.or_eq_false_iff] at hx'
            rw [k3 x hx'.2, g3 x hx'.1]
        · have hbw' : b = !want := by cases b <;> cases want <;> simp_all
          have h2' := h2 hbw'
          subst hbw'
          rw [upd_same hfs] at h2'
          refine skip_list G [] fr a hdG hiG hsk hfs (fun t ht => by simp at ht) ha fun a' ha' => ?_
          refine denOps_seq f q cur _ R _ H K KP h2' (hcurR _ (skipG_out G fr)) ((hknG _ (skipG_out G fr)).put (by rw [skipG_out G fr s hiG, hfs])) a' w ha' hw rest Q (fun a2 w2 kn2 fr2 H2 k1 k2 k3 k5 k4 => hk a2 w2 kn2 fr2 H2 k1 k2 ?_ k5 k4) hp
          intro x hx
          have hx' := hx
          rw [← hGR, inDsts_append, Bool.or_eq_false_iff] at hx'
          rw [k3 x hx'.2, skipG_out G fr x hx'.1]

theorem denOps_quiet {n : Nat} {ops : Array Oper} {gq : Bool} : ∀ (f : Nat) (cur : Option (Nat × Bool)) (kn : List (Nat × Bool)) (l : List Oper) (fr : Fr) (H : Hp) (K : List (Nat × Bool) → Fr → Hp → Prop) (KP : List PanicEntry → Hp → Prop),
    denOps P g n ops gq f true cur kn l fr H K KP → CurOK ops cur l fr → KnOK kn fr → ∀ (a : Act), Agree n a fr → ∀ (rest : List Oper) (Q : Act → Prop),
    (∀ a' kn' fr', Agree n a' fr' → OutEq l fr fr' → KnOK kn' fr' → K kn' fr' H → wpQuiet P ops (Own g H) Q rest a') → wpQuiet P ops (Own g H) Q (l ++ rest) a
  | 0, _, _, _, _, _, _, _, h => h.elim
  | f + 1, cur, kn, [], fr, H, K, KP, h => fun _ hkn a ha rest Q hk => hk a kn fr ha (OutEq.refl _ _) hkn h
  | f + 1, cur, kn, o :: r, fr, H, K, KP, h => by
    intro hcur hkn a ha rest Q hk
    unfold denOps at h
    cases hsg : sameGuard o.guard cur <;> simp only [hsg, cond_true, cond_false] at h
    case true =>
      have hg := sameGuard_eq hsg
      have hwant := hcur.wanted hg ha
      cases hd : okDst n o.dst <;> simp only [hd, cond_true, cond_false] at h
      simp only [List.cons_append, wpQuiet, hwant, if_true]
      cases hip : isP o.op <;> simp only [hip, cond_true, cond_false] at h
      case true =>
        obtain ⟨v, hk', hr, hv⟩ := opP_val h
        refine ⟨v, fun w hw => ?_, ?_⟩
        · unfold Oper.quietAt
          rw [ha.eval, hr w hw]
          exact ⟨rfl, rfl⟩
        · exact denOps_quiet f cur _ r _ H K KP hk' (hcur.tail fun s hs => upd_ne hs) (hkn.up hv) _ (ha.put hd v) rest Q (fun a' kn' fr' h1 h3 h5 h4 => hk a' kn' fr' h1 h3.cons h5 h4)
      case false =>
        obtain ⟨v, f', args, hr, hs, hk'⟩ := opQ_run h
        refine ⟨v, fun w hw => ?_, ?_⟩
        · unfold Oper.quietAt
          rw [ha.eval, hr w]
          refine ⟨rfl, (hs w hw).mono fun e w'' ⟨H', ho, he, hH⟩ => ?_⟩
          subst hH
          exact ⟨he, ho⟩
        · exact denOps_quiet f cur _ r _ H K KP hk' (hcur.tail fun s hs => upd_ne hs) (hkn.del _ _) _ (ha.put hd v) rest Q (fun a' kn' fr' h1 h3 h5 h4 => hk a' kn' fr' h1 h3.cons h5 h4)
    case false =>
      split at h <;> try exact h.elim
      rename_i j want hog
      split at h <;> try exact h.elim
      rename_i s hslot
      generalize hG : takeG cur (o :: r) = G at h
      generalize hR : dropG cur (o :: r) = R at h
      have hGR : G ++ R = o :: r := by rw [← hG, ← hR]; exact take_drop_G _ _
      cases hchk : (okDst n (some s) && okDsts n G && !inDsts G s && skipOK ops s want [] G) <;> simp only [hchk, cond_true, cond_false] at h
      simp only [Bool.and_eq_true, Bool.not_eq_true'] at hchk
      obtain ⟨⟨⟨hds, hdG⟩, hiG⟩, hsk⟩ := hchk
      rw [← hGR, List.append_assoc]
      have hcurR : ∀ fr', OutEq G fr fr' → CurOK ops cur R fr' := fun fr' ho => by
        unfold CurOK at hcur ⊢
        split
        · trivial
        · obtain ⟨t, h1, h2, h3⟩ := hcur
          have h3' := h3
          rw [← hGR, inDsts_append, Bool.or_eq_false_iff] at h3'
          exact ⟨t, h1, (ho t h3'.1).trans h2, h3'.2⟩
      have hknG : ∀ fr', OutEq G fr fr' → KnOK (knDels kn G) fr' := fun fr' ho => hkn.dels G ho
      split at h
      · rename_i b hb
        have hfs := hkn s b hb
        cases hbw : (b == want) <;> simp only [hbw, cond_true, cond_false] at h
        · have hbw' : b = !want := by cases b <;> cases want <;> simp_all
          subst hbw'
          refine skip_quiet G [] fr a hdG hiG hsk hfs (fun t ht => by simp at ht) ha fun a' ha' => ?_
          refine denOps_quiet f cur _ R _ H K KP h (hcurR _ (skipG_out G fr)) (hknG _ (skipG_out G fr)) a' ha' rest Q (fun a2 kn2 fr2 k1 k3 k5 k4 => hk a2 kn2 fr2 k1 ?_ k5 k4)
          intro x hx
          have hx' := hx
          rw [← hGR, inDsts_append, Bool.or_eq_false_iff] at hx'
          rw [k3 x hx'.2, skipG_out G fr x hx'.1]
        · have hbw' : b = want := by cases b <;> cases want <;> simp_all
          subst hbw'
          refine denOps_quiet f o.guard kn G fr H _ KP h ?_ hkn a ha (R ++ rest) Q ?_
          · rw [hog]; exact ⟨s, hslot, hfs, hiG⟩
          · intro a' kn' fr' g1 g3 g5 g4
            refine denOps_quiet f cur kn' R fr' H K KP g4 (hcurR fr' g3) g5 a' g1 rest Q (fun a2 kn2 fr2 k1 k3 k5 k4 => hk a2 kn2 fr2 k1 ?_ k5 k4)
            intro x hx
            have hx' := hx
            rw [← hGR, inDsts_append, Bool.or_eq_false_iff] at hx'
            rw [k3 x hx'.2, g3 x hx'.1]
      rename_i hknone
      simp only [Bool.true_or, cond_true] at h
      split at h <;> try exact h.elim
      rename_i p r' 
      have hpg : sameGuard p.guard cur = true := by
        have : ∀ l : List Oper, dropG cur l = p :: r' → sameGuard p.guard cur = true := by
          intro l
          induction l with
          | nil => intro e; simp [dropG] at e
          | cons x y ih =>
            intro e
            simp only [dropG] at e
            cases hx : sameGuard x.guard cur <;> simp only [hx, cond_true, cond_false] at e
            · exact ih e
            · simp only [List.cons.injEq] at e; rw [← e.1]; exact hx
        exact this _ hR
      cases hpk : (isPick p && okDst n p.dst) <;> simp only [hpk, cond_true, cond_false] at h
      simp only [Bool.and_eq_true] at hpk
      obtain ⟨b, t, hfs, h1, h2, h3⟩ := h
      have hfin : ∀ (a' : Act) (fr' : Fr), Agree n a' fr' → OutEq G fr fr' → pickOf p fr' = .bool t → wpQuiet P ops (Own g H) Q (p :: r' ++ rest) a' := by
        intro a' fr' ha' ho hpv
        have hwant := (hcurR fr' ho).wanted (sameGuard_eq hpg) ha'
        simp only [List.cons_append, wpQuiet, hwant, if_true]
        refine ⟨.bool t, fun w hw => ?_, ?_⟩
        · unfold Oper.quietAt
          rw [ha'.eval, pickOf_run hpk.1 hpv w]
          exact ⟨rfl, rfl⟩
        have hgarb : garb G fr' fr = fr' := by
          funext x
          simp only [garb]
          cases hx : inDsts G x
          · exact (ho x hx).symm
          · rfl
        have h3' := h3 fr'
        rw [hgarb] at h3'
        refine denOps_quiet f cur _ r' _ H K KP h3' ((hcurR fr' ho).tail fun s hs => upd_ne hs) ((hknG fr' ho).del _ _) _ (ha'.put hpk.2 _) rest Q (fun a2 kn2 fr2 g1 g3 g5 g4 => hk a2 kn2 fr2 g1 ?_ g5 g4)
        intro x hx
        have hx' := hx
        rw [← hGR, inDsts_append, Bool.or_eq_false_iff, inDsts_cons, Bool.or_eq_false_iff] at hx'
        rw [g3 x hx'.2.2, upd_ne hx'.2.1, ho x hx'.1]
      by_cases hbw : b = want
      · subst hbw
        have h1' := h1 rfl
        rw [upd_same hfs] at h1'
        refine denOps_quiet f o.guard _ G fr H _ _ h1' ?_ (hkn.put hfs) a ha (p :: r' ++ rest) Q ?_
        · rw [hog]; exact ⟨s, hslot, hfs, hiG⟩
        · intro a' kn' fr' g1 g3 _ ⟨_, g5⟩
          exact hfin a' fr' g1 g3 g5
      · have hbw' : b = !want := by cases b <;> cases want <;> simp_all
        have h2' := h2 hbw'
        subst hbw'
        rw [upd_same hfs] at h2'
        refine skip_quiet G [] fr a hdG hiG hsk hfs (fun t ht => by simp at ht) ha fun a' ha' => ?_
        exact hfin a' _ ha' (skipG_out G fr) h2'
end
end Go.Sx
/-
  Statements whose operations may come in several orders: a reading may be taken first; what is asked of the world behind an operation is asked for those readings alone that need not have come up before it.
-/
set_option linter.unusedSimpArgs false
set_option linter.unusedVariables false
namespace Go.Sx
open Go
section
variable {P : Program} {ops : Array Oper} {Q : Exit → Act → World → Prop} {md : Region.Mode} {S : Nat → World → World → Prop} {S0 : World → Prop}
def AnyS (P : Program) (md : Region.Mode) (ops : Array Oper) (Q : Exit → Act → World → Prop) (S : Nat → World → World → Prop) : Nat → Array Bool → Act → World → Prop
  | 0, listed, a, w => Region.ready md ops listed = [] ∧ Q .normal a w
  | n + 1, listed, a, w => (Region.ready md ops listed = [] → Q .normal a w) ∧
    ∀ i ∈ Region.ready md ops listed, wpOp P ops Q i (fun a' w' => S i w w' ∧ AnyS P md ops Q S n (listed.setIfInBounds i true) a' w') a w
theorem AnyS.any : ∀ {n : Nat} {listed : Array Bool} {a : Act} {w : World}, AnyS P md ops Q S n listed a w → wpAny P md ops Q n listed a w
  | 0, _, _, _, h => h
  | _ + 1, _, _, _, h => ⟨h.1, fun i hi => wpOp_mono (fun _ _ h' => h'.2.any) (h.2 i hi)⟩
/-- j need not wait for i -/
def notOn (md : Region.Mode) (ops : Array Oper) (i j : Nat) : Prop := ∀ oj, ops[j]? = some oj → ∀ e ∈ oj.after, Region.binds md e = true → e.on ≠ i
theorem AnyS.first {i : Nat} {oi : Oper} {v : Value} (hi : ops[i]? = some oi) (hsel : Region.noSelect ops = true) (hQ : ∀ c a w, Q (.panic c) (a.put oi.dst v) w → Q (.panic c) a w)
    (hSi : ∀ w, S0 w → S i w w) (hS : ∀ j oj w w', ops[j]? = some oj → j ≠ i → notOn md ops i j → S0 w → S j w w' → S0 w') : ∀ (n : Nat) (listed : Array Bool) (a : Act) (w : World),
      (∀ j oj, ops[j]? = some oj → j ≠ i → listed.getD j true = false → notOn md ops i j → oi.apart ops oj = true) → i ∈ Region.ready md ops listed → YieldsIf P ops S0 oi v a → S0 w →
      AnyS P md ops Q S n (listed.setIfInBounds i true) (a.put oi.dst v) w → AnyS P md ops Q S (n + 1) listed a w := by
  have sel := Region.noSelect_spec hsel
  intro n
  induction n with
  | zero =>
    intro listed a w hfree hr hy h0 h
    refine ⟨fun e => absurd hr (by rw [e]; simp), fun j hj => ?_⟩
    by_cases e : j = i
    · rw [e]; exact hy.wpOp hi h0 ⟨hSi _ h0, h⟩
    · exact absurd (ready_mono hj e) (by rw [h.1]; simp)
  | succ n ih =>
    intro listed a w hfree hr hy h0 h
    refine ⟨fun e => absurd hr (by rw [e]; simp), fun j hj => ?_⟩
    by_cases e : j = i
    · rw [e]; exact hy.wpOp hi h0 ⟨hSi _ h0, h⟩
    · obtain ⟨hun, oj, hoj, hall⟩ := mem_ready.1 hj
      have hno : notOn md ops i j := fun o ho x hx hb he => by
        rw [hoj] at ho; cases ho
        have h1 := hall x hx hb
        have h2 := (mem_ready.1 hr).1
        rw [he] at h1
        rw [Array.getD_eq_getD_getElem?] at h1 h2
        cases hg : listed[i]? with
        | none => rw [hg] at h1; simp at h1
        | some y => rw [hg] at h1 h2; simp at h1 h2; rw [h2] at h1; cases h1
      refine wpOp_mono ?_ (wpOp_putIf hoj (hfree j oj hoj e hun hno) (fun cs b => sel i oi cs b hi) (fun cs b => sel j oj cs b hoj) hQ hy (h.2 j (ready_mono hj e)))
      rintro a' w' ⟨hy', hs', hrest⟩
      refine ⟨hs', ih _ _ _ (fun k ok hk hki hun' hno' => hfree k ok hk hki ?_ hno') (ready_mono hr (Ne.symm e)) hy' (hS j oj w w' hoj e hno h0 hs') (by rw [Array.setIfInBounds_comm _ _ e]; exact hrest)⟩
      by_cases hjk : j = k
      · rw [← hjk]; exact hun
      · rw [← hun', getD_set_ne true hjk]
theorem AnyS.take {i : Nat} {oi : Oper} {v : Value} {n : Nat} {listed : Array Bool} {a : Act} {w : World} (hi : ops[i]? = some oi) (hsel : Region.noSelect ops = true) (hf : Region.free md ops listed i = true)
    (hr : (Region.ready md ops listed).contains i = true) (hQ : ∀ c a w, Q (.panic c) (a.put oi.dst v) w → Q (.panic c) a w) (hSi : ∀ w, S0 w → S i w w) (hS : ∀ j oj w w', ops[j]? = some oj → j ≠ i → notOn md ops i j → S0 w → S j w w' → S0 w')
    (hy : YieldsIf P ops S0 oi v a) (h0 : S0 w) (h : AnyS P md ops Q S n (listed.setIfInBounds i true) (a.put oi.dst v) w) : AnyS P md ops Q S (n + 1) listed a w :=
  AnyS.first hi hsel hQ hSi hS n listed a w (fun j oj h1 h2 h3 h4 => Region.free_spec hi hf j oj h1 h2 h3 (h4 oj h1)) (by simpa using hr) hy h0 h
theorem AnyS.all {rs : List Nat} {n : Nat} {listed : Array Bool} {a : Act} {w : World} (hr : Region.ready md ops listed = rs) (hne : rs ≠ [])
    (h : ∀ i ∈ rs, wpOp P ops Q i (fun a' w' => S i w w' ∧ AnyS P md ops Q S n (listed.setIfInBounds i true) a' w') a w) : AnyS P md ops Q S (n + 1) listed a w :=
  ⟨fun h0 => absurd (hr ▸ h0) hne, hr ▸ h⟩
theorem AnyS.done {listed : Array Bool} {a : Act} {w : World} (hr : Region.ready md ops listed = []) (h : Q .normal a w) : ∀ n, AnyS P md ops Q S n listed a w
  | 0 => ⟨hr, h⟩
  | _ + 1 => ⟨fun _ => h, by rw [hr]; simp⟩
/-- there is a reading that j need not wait for -/
def onB (j : Oper) (i : Nat) : Bool := j.after.toList.any fun e => Nat.beq e.on i && Region.binds .any e
/-- an operation whose value does not hang on the heap -/
def isN (P : Program) : Op → Bool
  | .move _ | .assign _ | .pick .. | .nilCheck _ | .fieldAddr .. | .field .. | .indexAddr .. | .unOp .. => true
  | .slice t _ _ _ none => match P.underlying t with | some (.slice _) => true | _ => false
  | .binOp _ t _ _ _ => match P.underlying t with
    | some d => match bkOf d with | .other => false | _ => true
    | none => true
  | _ => false
theorem opP_free {g : Gh} {o : Oper} (h : isN P o.op = true) (ρ : Operand → Value) (H H' : Hp) (k : Value → Prop) : opP P g o ρ H k = opP P g o ρ H' k := by
  obtain ⟨d, op, t, p, a, gd⟩ := o
  cases op <;> first | rfl | (simp only [isN] at h; first | cases h | skip)
  case binOp op t x y z =>
    simp only [opP]
    cases hu : P.underlying t with
    | none => rfl
    | some d =>
      simp only [hu] at h
      cases hb : bkOf d <;> simp only [hb] at h ⊢
      cases h
  case slice t x lo hi m =>
    cases m with
    | none =>
      simp only [opP]
      cases hu : P.underlying t with
      | none => simp [hu] at h
      | some d => cases d <;> first | rfl | (exfalso; simp [hu] at h)
    | some m => cases h
def isRd (P : Program) (o : Op) : Bool := isP o && !isN P o
def needS (P : Program) (ops : Array Oper) (j : Nat) : Bool := match ops[j]? with
  | some oj => (List.range ops.size).any fun i => match ops[i]? with | some oi => isRd P oi.op && !onB oj i && !Nat.beq i j | none => false
  | none => true
/-- what a step of number j keeps -/
def Keeps (P : Program) (g : Gh) (R : Hp) (ops : Array Oper) (j : Nat) (w w' : World) : Prop := ∀ oj, ops[j]? = some oj → (isP oj.op = true → w' = w) ∧ (isP oj.op = false → Own g [] w' ∧ (needS P ops j = true → Own g R w → Own g R w'))
theorem needS_spec {i j : Nat} {oi : Oper} (hi : ops[i]? = some oi) (hp : isRd P oi.op = true) (hne : j ≠ i) (h : notOn .any ops i j) : needS P ops j = true := by
  unfold needS
  split
  · rename_i oj hj
    rw [List.any_eq_true]
    refine ⟨i, List.mem_range.2 (Array.getElem?_eq_some_iff.1 hi).1, ?_⟩
    simp only [hi, hp, Bool.true_and, Bool.and_eq_true, Bool.not_eq_true']
    refine ⟨?_, ?_⟩
    · unfold onB
      rw [← Bool.not_eq_true, List.any_eq_true]
      rintro ⟨e, he, h2⟩
      simp only [Bool.and_eq_true] at h2
      exact h oj hj e (Array.mem_toList_iff.1 he) h2.2 (Nat.eq_of_beq_eq_true h2.1)
    · cases hb : Nat.beq i j
      · rfl
      · exact absurd (Nat.eq_of_beq_eq_true hb).symm hne
  · rfl
end
end Go.Sx
