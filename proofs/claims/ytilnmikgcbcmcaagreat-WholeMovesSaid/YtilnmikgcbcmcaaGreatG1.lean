import Derived.WalkKit
import Derived.Still
import Derived.KernelRfl
import Derived.Deep.Quiet
import Derived.OrdersHeld
set_option linter.unusedVariables false
set_option linter.unusedSimpArgs false
set_option linter.unusedSectionVars false
namespace Go.Sx
open Go
abbrev Hp := List (Nat × Obj)
structure Gh where
 w : World
 fr : Hp
def Gh.add (g : Gh) (F : Hp) : Gh := ⟨g.w, F ++ g.fr⟩
structure Own (g : Gh) (H : Hp) (w : World) : Prop where
 os : w.os = g.w.os
 out : w.output = g.w.output
 tape : w.tape = g.w.tape
 nd : ((H ++ g.fr).map Prod.fst).Nodup
 has0 : ∀ x, x ∈ H ++ g.fr → w.heap[x.1]? = some x.2
theorem Own.has {g : Gh} {H : Hp} {w : World} (h : Own g H w) (x : Nat × Obj) (hx : x ∈ H) : w.heap[x.1]? = some x.2 := h.has0 x (List.mem_append_left _ hx)
theorem Own.perm {g : Gh} {H H' : Hp} {w : World} (h : Own g H w) (p : H.Perm H') : Own g H' w :=
 ⟨h.os, h.out, h.tape, ((p.append_right _).map _).nodup_iff.1 h.nd, fun x hx => h.has0 x ((p.append_right _).mem_iff.2 hx)⟩
theorem Own.right {g : Gh} {A B : Hp} {w : World} (h : Own g (A ++ B) w) : Own g B w :=
 ⟨h.os, h.out, h.tape, by have := h.nd; rw [List.append_assoc, List.map_append] at this; exact (List.nodup_append.1 this).2.1, fun x hx => h.has0 x (by rw [List.append_assoc]; exact List.mem_append_right _ hx)⟩
theorem Own.left {g : Gh} {A B : Hp} {w : World} (h : Own g (A ++ B) w) : Own g A w := Own.right (A := B) (h.perm List.perm_append_comm)
theorem Own.tail {g : Gh} {x : Nat × Obj} {B : Hp} {w : World} (h : Own g (x :: B) w) : Own g B w := Own.right (A := [x]) h
theorem Own.framed {g : Gh} {A F : Hp} {w : World} : Own g (A ++ F) w ↔ Own (g.add F) A w := by
 constructor
 ·intro h; exact ⟨h.os, h.out, h.tape, by have := h.nd; rw [List.append_assoc] at this; exact this, fun x hx => h.has0 x (by rw [List.append_assoc]; exact hx)⟩
 ·intro h; exact ⟨h.os, h.out, h.tape, by have := h.nd; rw [List.append_assoc]; exact this, fun x hx => h.has0 x (by rw [List.append_assoc] at hx; exact hx)⟩
def Ent (H H' : Hp) : Prop := ∀ g w, Own g H w → Own g H' w
theorem Ent.refl (H : Hp) : Ent H H := fun _ _ h => h
theorem Ent.trans {A B C : Hp} (h : Ent A B) (h' : Ent B C) : Ent A C := fun g w x => h' g w (h g w x)
theorem Ent.perm {A B : Hp} (p : A.Perm B) : Ent A B := fun _ _ h => h.perm p
theorem Ent.right {A B : Hp} : Ent (A ++ B) B := fun _ _ h => h.right
theorem Ent.left {A B : Hp} : Ent (A ++ B) A := fun _ _ h => h.left
theorem Ent.tail {x : Nat × Obj} {B : Hp} : Ent (x :: B) B := fun _ _ h => h.tail
theorem Ent.frame {A B : Hp} (h : Ent A B) (F : Hp) : Ent (A ++ F) (B ++ F) := fun _ _ o => Own.framed.2 (h _ _ (Own.framed.1 o))
theorem Ent.prep {A B : Hp} (h : Ent A B) (F : Hp) : Ent (F ++ A) (F ++ B) := (Ent.perm List.perm_append_comm).trans ((h.frame F).trans (.perm List.perm_append_comm))
inductive Upd (b : Nat) (o o' : Obj) : Hp → Hp → Prop
 | head (R : Hp) : Upd b o o' ((b, o) :: R) ((b, o') :: R)
 | tail {x : Nat × Obj} {R R' : Hp} (h : Upd b o o' R R') : Upd b o o' (x :: R) (x :: R')
theorem Upd.mem {b : Nat} {o o' : Obj} {H H' : Hp} (h : Upd b o o' H H') : (b, o) ∈ H := by
 induction h with
 | head R => simp
 | tail _ ih => simp [ih]
theorem Upd.keys {b : Nat} {o o' : Obj} {H H' : Hp} (h : Upd b o o' H H') : H'.map Prod.fst = H.map Prod.fst := by
 induction h with
 | head R => simp
 | tail _ ih => simp [ih]
theorem Upd.mem_cases {b : Nat} {o o' : Obj} {H H' : Hp} (h : Upd b o o' H H') (nd : (H.map Prod.fst).Nodup) : ∀ x ∈ H', x = (b, o') ∨ (x ∈ H ∧ x.1 ≠ b) := by
 induction h with
 | head R =>
  intro x hx
  rcases List.mem_cons.1 hx with rfl | hx
  ·exact .inl rfl
  ·refine .inr ⟨by simp [hx], fun e => ?_⟩
   simp only [List.map_cons, List.nodup_cons] at nd
   exact nd.1 (e ▸ List.mem_map_of_mem hx)
 | @tail y R R' h ih =>
  intro x hx
  simp only [List.map_cons, List.nodup_cons] at nd
  rcases List.mem_cons.1 hx with rfl | hx
  ·refine .inr ⟨by simp, fun e => ?_⟩
   exact nd.1 (e ▸ List.mem_map_of_mem (f := Prod.fst) h.mem)
  ·rcases ih nd.2 x hx with h1 | h1
   ·exact .inl h1
   ·exact .inr ⟨by simp [h1.1], h1.2⟩
theorem Upd.append {b : Nat} {o o' : Obj} {C C' : Hp} (h : Upd b o o' C C') (B : Hp) : Upd b o o' (C ++ B) (C' ++ B) := by
 induction h with
 | head R => exact .head _
 | tail _ ih => exact .tail ih
theorem Own.upd {g : Gh} {H H' : Hp} {w w' : World} {b : Nat} {o o' : Obj} (h : Own g H w) (u : Upd b o o' H H')
  (hos : w'.os = w.os) (hout : w'.output = w.output) (htape : w'.tape = w.tape)
  (hb : w'.heap[b]? = some o') (hr : ∀ c, c ≠ b → w'.heap[c]? = w.heap[c]?) : Own g H' w' :=
 ⟨hos.trans h.os, hout.trans h.out, htape.trans h.tape, by rw [(u.append g.fr).keys]; exact h.nd, fun x hx => by
  rcases (u.append g.fr).mem_cases h.nd x hx with rfl | ⟨h1, h2⟩
  ·exact hb
  ·rw [hr _ h2]; exact h.has0 x h1⟩
theorem Own.same {g : Gh} {H : Hp} {w w' : World} (h : Own g H w) (hos : w'.os = w.os) (hout : w'.output = w.output) (htape : w'.tape = w.tape)
  (hr : ∀ (c : Nat) (o : Obj), w.heap[c]? = some o → w'.heap[c]? = some o) : Own g H w' :=
 ⟨hos.trans h.os, hout.trans h.out, htape.trans h.tape, h.nd, fun x hx => hr _ _ (h.has0 x hx)⟩
theorem Own.drew {g : Gh} {H : Hp} {w : World} (h : Own g H w) : Own g H w.drew := h.same rfl rfl rfl fun _ _ h => h
theorem Own.drew' {g : Gh} {H : Hp} {w : World} (h : Own g H w) : Own g H { w with drawn := w.drawn + 1 } := h.drew
theorem Own.lt0 {g : Gh} {H : Hp} {w : World} (h : Own g H w) {x : Nat × Obj} (hx : x ∈ H ++ g.fr) : x.1 < w.heap.size := by
 have := h.has0 x hx
 exact (Array.getElem?_eq_some_iff.1 this).1
theorem Own.lt {g : Gh} {H : Hp} {w : World} (h : Own g H w) {x : Nat × Obj} (hx : x ∈ H) : x.1 < w.heap.size := h.lt0 (List.mem_append_left _ hx)
theorem Own.fresh0 {g : Gh} {H : Hp} {w : World} (h : Own g H w) : w.heap.size ∉ (H ++ g.fr).map Prod.fst := by
 intro hm
 obtain ⟨x, hx, e⟩ := List.mem_map.1 hm
 have := h.lt0 hx
 omega
theorem Own.fresh {g : Gh} {H : Hp} {w : World} (h : Own g H w) : w.heap.size ∉ H.map Prod.fst := fun hm => h.fresh0 (by rw [List.map_append]; exact List.mem_append_left _ hm)
theorem Own.alloc {g : Gh} {H : Hp} {w : World} (h : Own g H w) (o : Obj) : Own g ((w.heap.size, o) :: H) (w.alloc o) := by
 refine ⟨h.os, h.out, h.tape, ?_, ?_⟩
 ·rw [List.cons_append, List.map_cons, List.nodup_cons]; exact ⟨h.fresh0, h.nd⟩
 ·intro x hx
  rw [List.cons_append] at hx
  rcases List.mem_cons.1 hx with rfl | hx
  ·show (w.heap.push o)[w.heap.size]? = some o
   rw [Array.getElem?_push, if_pos rfl]
  ·have := h.has0 x hx
   have hl := h.lt0 hx
   show (w.heap.push o)[x.1]? = some x.2
   rw [Array.getElem?_push, if_neg (by omega)]
   exact this
theorem Own.cell {g : Gh} {H : Hp} {w : World} (h : Own g H w) {b : Nat} {c : Array Value} {T : TypeId} {fz : Nat × Nat} (hm : (b, Obj.cells c T fz) ∈ H) (off : Nat) :
  w.cell? ⟨b, off, none⟩ = c[off]? := by
 have := h.has _ hm
 simp only [World.cell?]
 simp only at this
 rw [this]
 rfl
theorem Own.frozen {g : Gh} {H : Hp} {w : World} (h : Own g H w) {b : Nat} {c : Array Value} {T : TypeId} (hm : (b, Obj.cells c T (0, 0)) ∈ H) (off : Nat) (sp : Option Nat) :
  w.frozen? ⟨b, off, sp⟩ = false := by
 have := h.has _ hm
 simp only at this
 simp [World.frozen?, this]
def over (c : Array Value) (off : Nat) : List Value → Array Value
 | [] => c
 | v :: r => over (c.setIfInBounds off v) (off + 1) r
theorem Own.setCell {g : Gh} {H : Hp} {w : World} (h : Own g H w) {b : Nat} {c : Array Value} {T : TypeId} {fz : Nat × Nat} {H' : Hp} (off : Nat) (v : Value)
  (u : Upd b (.cells c T fz) (.cells (c.setIfInBounds off v) T fz) H H') : Own g H' (w.setCell ⟨b, off, none⟩ v) := by
 refine h.upd u rfl rfl rfl ?_ ?_
 ·have := h.has _ u.mem
  simp only at this
  simp [World.setCell, Array.getElem?_modify, this]
 ·intro d hd
  simp only [World.setCell]
  rw [Array.getElem?_modify, if_neg (fun e => hd (Eq.symm e))]
theorem Upd.re {b : Nat} {o o' : Obj} {H H' : Hp} (u : Upd b o o' H H') (o₁ : Obj) : ∃ H₁, Upd b o o₁ H H₁ ∧ Upd b o₁ o' H₁ H' := by
 induction u with
 | head R => exact ⟨_, .head R, .head R⟩
 | tail _ ih => obtain ⟨H₁, u1, u2⟩ := ih; exact ⟨_, .tail u1, .tail u2⟩
theorem run_storeCells_own {P : Program} {g : Gh} {b : Nat} {T : TypeId} (off : Nat) : ∀ (l : List Value) (i : Nat) (c : Array Value) (H H' : Hp) (w : World), Own g H w →
  Upd b (.cells c T (0, 0)) (.cells (over c (off + i) l) T (0, 0)) H H' → (∀ v ∈ l, v.oneCell' = true) → off + i + l.length ≤ c.size →
  ∃ w', (storeCells ⟨b, off, none⟩ l i).run P w = .ok () w' ∧ Own g H' w'
 | [], i, c, H, H', w, h, u, _, _ => by
  refine ⟨w, rfl, ?_⟩
  exact h.upd u rfl rfl rfl (h.has _ u.mem) fun _ _ => rfl
 | v :: r, i, c, H, H', w, h, u, h1, hs => by
  obtain ⟨H₁, u1, u2⟩ := u.re (.cells (c.setIfInBounds (off + i) v) T (0, 0))
  have hw1 := h.setCell (off + i) v u1
  simp only [List.length_cons] at hs
  obtain ⟨w', hr, ho⟩ := run_storeCells_own (P := P) off r (i + 1) (c.setIfInBounds (off + i) v) H₁ H' _ hw1 (by simpa [over, Nat.add_assoc] using u2) (fun x hx => h1 x (by simp [hx])) (by simp; omega)
  refine ⟨w', ?_, ho⟩
  have hc : w.cell? ⟨b, off + i, none⟩ = some c[off + i] := by
   rw [h.cell u.mem, Array.getElem?_eq_getElem]
  have hf := h.frozen u.mem (off + i) none
  have ha : Addr.add ⟨b, off, none⟩ i = ⟨b, off + i, none⟩ := Addr.add_lit _ _ _
  simp only [storeCells, Sem.run_bind, ha, run_store P w _ v .plain (h1 v (by simp)), hc, hf, Bool.false_eq_true, if_false, Result.andThen_ok, hr]
theorem run_loadCells_own {P : Program} {g : Gh} {H : Hp} {w : World} (h : Own g H w) {b : Nat} {c : Array Value} {T : TypeId} {fz : Nat × Nat} (hm : (b, Obj.cells c T fz) ∈ H)
  (off n : Nat) (hs : off + n ≤ c.size) : (loadCells ⟨b, off, none⟩ n).run P w = .ok (c.extract off (off + n)) w := by
 have hl : ((c.extract off (off + n)).toList).length = n := by simp; omega
 have := run_loadCells_list (P := P) w ⟨b, off, none⟩ (c.extract off (off + n)).toList (fun j v hj => by
  rw [Addr.add_lit, h.cell hm]
  have hjn : j < n := by
   have := (List.getElem?_eq_some_iff.1 hj).1
   omega
  rw [Array.getElem?_toList, Array.getElem?_extract] at hj
  rw [if_pos (by omega)] at hj
  exact hj)
 rw [hl] at this
 exact this
end Go.Sx
namespace Go.Sx
open Go
abbrev Fr := Nat → Value
def upd (fr : Fr) (d : Option Nat) (v : Value) : Fr :=
 match d with
 | none => fr
 | some d => fun s => cond (Nat.beq s d) v (fr s)
def ev (fr : Fr) : Operand → Value
 | .tmp t => fr t
 | .const v => v
 | .global g => .pointer (some ⟨g, 0, none⟩)
 | .func f => .func (.func f) #[] #[]
def okDst (n : Nat) : Option Nat → Bool
 | none => true
 | some d => Nat.blt d n
structure Agree (ds : List Deferred) (n : Nat) (a : Act) (fr : Fr) : Prop where
 defers : a.defers = ds
 size : a.tmps.size = n
 get : ∀ s, a.tmps.getD s undef = fr s
theorem Agree.eval {ds : List Deferred} {n : Nat} {a : Act} {fr : Fr} (h : Agree ds n a fr) : a.eval = ev fr := by
 funext x
 cases x <;> simp only [Act.eval, ev]
 exact h.get _
theorem Agree.put {ds : List Deferred} {n : Nat} {a : Act} {fr : Fr} (h : Agree ds n a fr) {d : Option Nat} (hd : okDst n d = true) (v : Value) : Agree ds n (a.put d v) (upd fr d v) := by
 cases d with
 | none => exact h
 | some d =>
  have hlt : d < n := by simpa [okDst, Nat.blt_eq] using hd
  refine ⟨h.defers, by simp [Act.put, h.size], fun s => ?_⟩
  simp only [Act.put, upd]
  have hs := h.size
  by_cases e : s = d
  ·subst e; simp [hs, hlt]
  ·have e' : d ≠ s := fun x => e x.symm
   have hb : Nat.beq s d = false := by
    cases hh : Nat.beq s d
    ·rfl
    ·exact absurd (Nat.eq_of_beq_eq_true hh) e
   rw [hb]
   simp only [cond_false]
   have := h.get s
   simpa [Array.getD_eq_getD_getElem?, Array.getElem?_setIfInBounds_ne e'] using this
def SCalls (P : Program) (g : Gh) (f : FuncId) (args : Array Value) (H : Hp) (R : Ending → Hp → Prop) : Prop :=
 ∀ w, Own g H w → Calls P f args w fun e w' => ∃ H', Own g H' w' ∧ R e H'
theorem SCalls.mono {P : Program} {g : Gh} {f : FuncId} {args : Array Value} {H : Hp} {R R' : Ending → Hp → Prop} (h : SCalls P g f args H R) (hr : ∀ e H', R e H' → R' e H') :
  SCalls P g f args H R' := fun w hw => (h w hw).mono fun e w' ⟨H', o, r⟩ => ⟨H', o, hr _ _ r⟩
theorem SCalls.pre {P : Program} {g : Gh} {f : FuncId} {args : Array Value} {H H' : Hp} {R : Ending → Hp → Prop} (h : SCalls P g f args H' R) (he : Ent H H') :
  SCalls P g f args H R := fun w hw => h w (he _ _ hw)
theorem SCalls.post {P : Program} {g : Gh} {f : FuncId} {args : Array Value} {H : Hp} {R R' : Ending → Hp → Prop} (h : SCalls P g f args H R)
  (hr : ∀ e H', R e H' → ∃ H'', Ent H' H'' ∧ R' e H'') : SCalls P g f args H R' := fun w hw => (h w hw).mono fun e w' ⟨H', o, r⟩ =>
 let ⟨H'', en, r'⟩ := hr _ _ r; ⟨H'', en _ _ o, r'⟩
def Kend (K : Value → Hp → Prop) (KP : List PanicEntry → Hp → Prop) : Ending → Hp → Prop
 | .returned v, H => K v H
 | .panicked ch, H => KP ch H
 | .outgrown, _ => False
def After (P : Program) (g : Gh) (K : Value → Hp → Prop) (KP : List PanicEntry → Hp → Prop) : Result Next → Prop
 | .ok (.value v) w => ∃ H, Own g H w ∧ K v H
 | .ok .skip w => ∃ H, Own g H w ∧ K undef H
 | .ok (.enter f args) w => Calls P f args w fun e w' => ∃ H, Own g H w' ∧ Kend K KP e H
 | .halt (.panic v) w => ∃ H, Own g H w ∧ KP [{ v, recovered := false }] H
 | _ => False
def Op1 (P : Program) (g : Gh) (o : Oper) (ρ : Operand → Value) (H : Hp) (K : Value → Hp → Prop) (KP : List PanicEntry → Hp → Prop) : Prop :=
 ∀ w, Own g H w → After P g K KP ((execOp ρ o).run P w)
def New (H : Hp) (o : Obj) (k : Nat → Hp → Prop) : Prop := ∀ b, b ∉ H.map Prod.fst → k b ((b, o) :: H)
def Pick (c a b : Value) (k : Value → Prop) : Prop := ∃ t, c = .bool t ∧ k (cond t a b)
def Ld (H : Hp) (p : Value) (k : Value → Prop) : Prop :=
 ∃ b off c T fz v, p = .pointer (some ⟨b, off, none⟩) ∧ (b, Obj.cells c T fz) ∈ H ∧ c[off]? = some v ∧ k v
def LdA (n : Nat) (H : Hp) (p : Value) (k : Value → Prop) : Prop :=
 ∃ b off c T fz, p = .pointer (some ⟨b, off, none⟩) ∧ (b, Obj.cells c T fz) ∈ H ∧ off + n ≤ c.size ∧ k (.agg (c.extract off (off + n)))
def St (n : Nat) (H : Hp) (p x : Value) (k : Hp → Prop) : Prop :=
 ∃ b off c T H', p = .pointer (some ⟨b, off, none⟩) ∧ x.cells.size = n ∧ off + n ≤ c.size ∧ (∀ v ∈ x.cells.toList, v.oneCell' = true) ∧
  Upd b (.cells c T (0, 0)) (.cells (over c off x.cells.toList) T (0, 0)) H H' ∧ k H'
inductive BK | num | bool | ptr | slice | map | func | str | other
def bkOf : TypeDesc → BK
 | .bool => .bool
 | .int _ => .num
 | .pointer _ => .ptr
 | .slice _ => .slice
 | .map _ _ => .map
 | .func _ _ _ => .func
 | .string => .str
 | _ => .other
def intV (op : BinOp) (k : IntKind) (a b : Int) : Option Value :=
 match op with
 | .add => some (.int k (k.wrap (a + b)))
 | .sub => some (.int k (k.wrap (a - b)))
 | .mul => some (.int k (k.wrap (a * b)))
 | .quo => if b = 0 then none else some (.int k (k.wrap (a.tdiv b)))
 | .rem => if b = 0 then none else some (.int k (a.tmod b))
 | .and => some (.int k (bits .and k a b))
 | .or => some (.int k (bits .or k a b))
 | .xor => some (.int k (bits .xor k a b))
 | .andNot => some (.int k (bits .andNot k a b))
 | .eql => some (.bool (a == b))
 | .neq => some (.bool (a != b))
 | .lss => some (.bool (decide (a < b)))
 | .leq => some (.bool (decide (a ≤ b)))
 | .gtr => some (.bool (decide (b < a)))
 | .geq => some (.bool (decide (b ≤ a)))
 | _ => none
def binV (kd : BK) (op : BinOp) (x y : Value) : Option Value :=
 match x with
 | .int k a =>
  match y with
  | .int k' b =>
   match op with
   | .shl => if b < 0 then none else some (.int k (k.wrap (a * 2 ^ (min b.toNat k.bits))))
   | .shr => if b < 0 then none else some (.int k (a.fdiv (2 ^ (min b.toNat k.bits))))
   | op => if k = k' then intV op k a b else none
  | _ => none
 | .bool a =>
  match kd, op, y with
  | .bool, .eql, .bool b => some (.bool (a == b))
  | .bool, .neq, .bool b => some (.bool (!(a == b)))
  | _, _, _ => none
 | .string a =>
  match op, y with
  | .eql, .string b => some (.bool (a.toList == b.toList))
  | .neq, .string b => some (.bool (!(a.toList == b.toList)))
  | _, _ => none
 | .pointer a =>
  match kd, op, y with
  | .ptr, .eql, .pointer b => if a.isNone ∨ b.isNone then some (.bool (a.isNone && b.isNone)) else none
  | .ptr, .neq, .pointer b => if a.isNone ∨ b.isNone then some (.bool (!(a.isNone && b.isNone))) else none
  | _, _, _ => none
 | .slice a n c =>
  match kd, op, y with
  | .slice, .eql, .slice b _ _ => if a.isNone ∨ b.isNone then some (.bool (a.isNone && b.isNone)) else none
  | .slice, .neq, .slice b _ _ => if a.isNone ∨ b.isNone then some (.bool (!(a.isNone && b.isNone))) else none
  | _, _, _ => none
 | .map a =>
  match kd, op, y with
  | .map, .eql, .map b => if a.isNone ∨ b.isNone then some (.bool (a.isNone && b.isNone)) else none
  | .map, .neq, .map b => if a.isNone ∨ b.isNone then some (.bool (!(a.isNone && b.isNone))) else none
  | _, _, _ => none
 | _ => none
def Bin (kd : BK) (op : BinOp) (x y : Value) (k : Value → Prop) : Prop := ∃ v, binV kd op x y = some v ∧ k v
def unV (op : UnOp) (x : Value) : Option Value :=
 match op, x with
 | .neg, .int k n => some (.int k (k.wrap (0 - n)))
 | .not, .bool b => some (.bool !b)
 | .xor, .int k n => some (.int k (bits .xor k (if k.signed then -1 else k.max) n))
 | _, _ => none
def Un (op : UnOp) (x : Value) (k : Value → Prop) : Prop := ∃ v, unV op x = some v ∧ k v
def ConvI (kd : IntKind) (x : Value) (k : Value → Prop) : Prop := ∃ j n, x = .int j n ∧ k (.int kd (kd.wrap n))
def FAddr (off : Nat) (x : Value) (k : Value → Prop) : Prop := ∃ b o, x = .pointer (some ⟨b, o, none⟩) ∧ k (.pointer (some ⟨b, o + off, none⟩))
def Fld (off : Nat) (x : Value) (k : Value → Prop) : Prop := ∃ cs v, x = .agg cs ∧ cs[off]? = some v ∧ k v
def FldA (off n : Nat) (x : Value) (k : Value → Prop) : Prop := ∃ cs, x = .agg cs ∧ k (.agg (cs.extract off (off + n)))
def IAddr (size : Nat) (x ix : Value) (k : Value → Prop) : Prop :=
 ∃ b o n c kd i, x = .slice (some ⟨b, o, none⟩) n c ∧ ix = .int kd i ∧ 0 ≤ i ∧ i < (n : Int) ∧ k (.pointer (some ⟨b, o + i.toNat * size, none⟩))
def AAddr (len size : Nat) (x ix : Value) (k : Value → Prop) : Prop :=
 ∃ b o kd i, x = .pointer (some ⟨b, o, none⟩) ∧ ix = .int kd i ∧ 0 ≤ i ∧ i < (len : Int) ∧ k (.pointer (some ⟨b, o + i.toNat * size, none⟩))
def loOf : Option Value → Option Int
 | none => some 0
 | some (.int _ n) => some n
 | _ => none
def hiOf (len : Nat) : Option Value → Option Int
 | none => some len
 | some (.int _ n) => some n
 | _ => none
def SliceE (size : Nat) (x : Value) (lo hi : Option Value) (k : Value → Prop) : Prop :=
 ∃ a n c l h, x = .slice a n c ∧ loOf lo = some l ∧ hiOf n hi = some h ∧ 0 ≤ l ∧ l ≤ h ∧ h ≤ (c : Int) ∧
  k (.slice (if c = l.toNat then a else a.map (·.add (l.toNat * size))) (h.toNat - l.toNat) (c - l.toNat))
def Ext (i : Nat) (x : Value) (k : Value → Prop) : Prop := ∃ vs v, x = .tuple vs ∧ vs[i]? = some v ∧ k v
def LenS (x : Value) (k : Value → Prop) : Prop := ∃ a n c, x = .slice a n c ∧ k (.int .i64 n)
def LenM (H : Hp) (x : Value) (k : Value → Prop) : Prop :=
 ∃ m, x = .map m ∧ ((m = none ∧ k (.int .i64 0)) ∨ ∃ b es clock, m = some b ∧ (b, Obj.map es clock) ∈ H ∧ k (.int .i64 es.size))
def Cells (H : Hp) (base : Option Addr) (n : Nat) (cs : Array Value) : Prop :=
 match base with
 | none => cs = #[]
 | some a => (n = 0 ∧ cs = #[]) ∨ (a.spot = none ∧ ∃ c T fz, (a.block, Obj.cells c T fz) ∈ H ∧ a.off + n ≤ c.size ∧ cs = c.extract a.off (a.off + n))
def App (P : Program) (elem size bytes : Nat) (zero : Value) (H : Hp) (s x : Value) (k : Value → Hp → Prop) : Prop :=
 ∃ base n cap xb m xc olds news, s = .slice base n cap ∧ x = .slice xb m xc ∧ Cells H base (n * size) olds ∧ Cells H xb (m * size) news ∧
  news.size = m * size ∧ olds.size = n * size ∧ (∀ v ∈ news.toList, v.oneCell' = true) ∧
  (n + m ≤ cap → match base with
   | none => k (.slice none (n + m) cap) H
   | some a => ∃ c T H', a.spot = none ∧ a.off + n * size + m * size ≤ c.size ∧ Upd a.block (.cells c T (0, 0)) (.cells (over c (a.off + n * size) news.toList) T (0, 0)) H H' ∧ k (.slice (some a) (n + m) cap) H') ∧
  (cap < n + m → (n + m) * bytes ≤ 140737488355328 ∧ (n + m : Nat) ≤ 9223372036854775807 ∧ ∀ newcap, n + m ≤ newcap →
   New H (.cells (olds ++ news ++ Builtin.zeroCells zero.cells (newcap - (n + m))) elem (0, 0)) fun b H' => ∃ H'', Ent H' H'' ∧ k (.slice (some ⟨b, 0, none⟩) (n + m) newcap) H'')
def MkSlice (elem size bytes : Nat) (zero : Value) (H : Hp) (l c : Value) (k : Value → Hp → Prop) : Prop :=
 ∃ kl kc ln cn, l = .int kl (ln : Nat) ∧ c = .int kc (cn : Nat) ∧ ln ≤ cn ∧ (cn : Int) ≤ 9223372036854775807 ∧ cn * bytes ≤ 281474976710656 ∧
  New H (.cells (madeCells zero.cells (cn * size)) elem (0, 0)) fun b H' => k (.slice (some ⟨b, 0, none⟩) ln cn) H'
def MkMap (H : Hp) (k : Value → Hp → Prop) : Prop := New H (.map #[] 0) fun b H' => k (.map (some b)) H'
def MapAt (H : Hp) (m : Value) (es : Array MapEntry) : Prop := (m = .map none ∧ es = #[]) ∨ ∃ b clock, m = .map (some b) ∧ (b, Obj.map es clock) ∈ H
def Look (kd : TypeDesc) (zero : Value) (ok : Bool) (H : Hp) (m key : Value) (k : Value → Prop) : Prop :=
 ∃ es r, MapAt H m es ∧ Instr.findNow kd key es.toList 0 = some r ∧
  k (match r with
   | some (_, v) => cond ok (.tuple #[v, .bool true]) v
   | none => cond ok (.tuple #[zero, .bool false]) zero)
def MapUpd (kd : TypeDesc) (H : Hp) (m key val : Value) (k : Hp → Prop) : Prop :=
 ∃ b es clock r, m = .map (some b) ∧ Instr.findNow kd key es.toList 0 = some r ∧
  match r with
  | some (i, _) => (∀ e, es[i]? = some e → Instr.sameBits 10000 e.key key = true) ∧ i < es.size ∧ ∃ H', Upd b (.map es clock) (.map (es.modify i fun e => { e with key, val }) clock) H H' ∧ k H'
  | none => ∃ H', Upd b (.map es clock) (.map (es.push { key, val, born := clock }) (clock + 1)) H H' ∧ k H'
def MapDel (kd : TypeDesc) (H : Hp) (m key : Value) (k : Hp → Prop) : Prop :=
 (m = .map none ∧ k H) ∨ ∃ b es clock r, m = .map (some b) ∧ Instr.findNow kd key es.toList 0 = some r ∧
  match r with
  | some (i, _) => ∃ H', Upd b (.map es clock) (.map (es.eraseIdxIfInBounds i) clock) H H' ∧ k H'
  | none => (b, Obj.map es clock) ∈ H ∧ k H
def callable (P : Program) (f : FuncId) : Bool :=
 match P.funcs[f]? with
 | none => false
 | some fn => !(fn.name == "runtime.NumGoroutine") && fn.body.isSome
def CallF (P : Program) (g : Gh) (f : FuncId) (args : Array Value) (H : Hp) (K : Value → Hp → Prop) (KP : List PanicEntry → Hp → Prop) : Prop :=
 SCalls P g f args H (Kend K KP)
def CallV (P : Program) (g : Gh) (fv : Value) (args : Array Value) (H : Hp) (K : Value → Hp → Prop) (KP : List PanicEntry → Hp → Prop) : Prop :=
 ∃ f first captured, fv = .func (.func f) first captured ∧ callable P f = true ∧ CallF P g f (first ++ args ++ captured) H K KP
def EqV (P : Program) (kt : TypeId) (x y : Value) (b : Bool) : Prop := ∀ w, (Op.equal kt x y).run P w = .ok b w
def ChkV (P : Program) (kt : TypeId) (x : Value) : Prop := ∀ e w, (Instr.checkKey e 10000 kt x).run P w = .ok () w
def FindS (P : Program) (kt : TypeId) (key : Value) : List MapEntry → Nat → Option (Nat × Value) → Prop
 | [], _, r => r = none
 | e :: es, i, r => ∃ b, EqV P kt key e.key b ∧ (b = true → r = some (i, e.val)) ∧ (b = false → FindS P kt key es (i + 1) r)
def LookS (P : Program) (kt : TypeId) (zero : Value) (ok : Bool) (H : Hp) (m key : Value) (k : Value → Prop) : Prop :=
 ∃ es r, MapAt H m es ∧ ChkV P kt key ∧ FindS P kt key es.toList 0 r ∧
  k (match r with
   | some (_, v) => cond ok (.tuple #[v, .bool true]) v
   | none => cond ok (.tuple #[zero, .bool false]) zero)
def MapUpdS (P : Program) (kt : TypeId) (H : Hp) (m key val : Value) (k : Hp → Prop) : Prop :=
 ∃ b es clock r, m = .map (some b) ∧ ChkV P kt key ∧ FindS P kt key es.toList 0 r ∧
  match r with
  | some (i, _) => (∀ e, es[i]? = some e → Instr.sameBits 10000 e.key key = true) ∧ i < es.size ∧ ∃ H', Upd b (.map es clock) (.map (es.modify i fun e => { e with key, val }) clock) H H' ∧ k H'
  | none => ∃ H', Upd b (.map es clock) (.map (es.push { key, val, born := clock }) (clock + 1)) H H' ∧ k H'
def MapDelS (P : Program) (kt : TypeId) (H : Hp) (m key : Value) (k : Hp → Prop) : Prop :=
 ChkV P kt key ∧ ((m = .map none ∧ k H) ∨ ∃ b es clock r, m = .map (some b) ∧ FindS P kt key es.toList 0 r ∧
  match r with
  | some (i, _) => ∃ H', Upd b (.map es clock) (.map (es.eraseIdxIfInBounds i) clock) H H' ∧ k H'
  | none => (b, Obj.map es clock) ∈ H ∧ k H)
def Rng (H : Hp) (x : Value) (k : Value → Hp → Prop) : Prop :=
 (x = .map none ∧ New H (.mapIter none 0 #[] 0) fun b H' => k (.pointer (some ⟨b, 0, none⟩)) H') ∨
 ∃ m es clock, x = .map (some m) ∧ (m, Obj.map es clock) ∈ H ∧ New H (.mapIter (some m) clock #[] clock) fun b H' => k (.pointer (some ⟨b, 0, none⟩)) H'
def Nxt (H : Hp) (it : Value) (k : Value → Hp → Prop) : Prop :=
 ∃ b mo since seen last, it = .pointer (some ⟨b, 0, none⟩) ∧ (b, Obj.mapIter mo since seen last) ∈ H ∧
  match mo with
  | none => k (.tuple #[.bool false]) H
  | some m => ∃ es clock, (m, Obj.map es clock) ∈ H ∧ (∀ e ∈ es.toList, e.born < since ∧ e.born < last) ∧
   (∀ e ∈ es.toList, e.born ∉ seen → ∃ H', Upd b (.mapIter (some m) since seen last) (.mapIter (some m) since (seen.push e.born) clock) H H' ∧ k (.tuple #[.bool true, e.key, e.val]) H') ∧
   ((∀ e ∈ es.toList, e.born ∈ seen) → k (.tuple #[.bool false]) H)
def Entr (H : Hp) (it : Value) (k : Value → Prop) : Prop :=
 ∃ b m since seen stamp clock es e, it = .pointer (some ⟨b, 0, none⟩) ∧ (b, Obj.mapIter (some m) since seen clock) ∈ H ∧ seen.back? = some stamp ∧ (m, Obj.map es clock) ∈ H ∧ es.find? (·.born == stamp) = some e ∧ k (.tuple #[e.key, e.val])
def MaxI (x y : Value) (k : Value → Prop) : Prop := ∃ kd a b, x = .int kd a ∧ y = .int kd b ∧ k (.int kd (if b > a then b else a))
def MinI (x y : Value) (k : Value → Prop) : Prop := ∃ kd a b, x = .int kd a ∧ y = .int kd b ∧ k (.int kd (if b < a then b else a))
def BytesS (H : Hp) (x : Value) (k : Value → Prop) : Prop :=
 ∃ base n c, ∃ bs : List UInt8, x = .slice base n c ∧ Cells H base n ((bs.map fun b => Value.int .u8 b.toNat).toArray) ∧ bs.length = n ∧ k (.string ⟨bs.toArray⟩)
def StrIx (x i : Value) (k : Value → Prop) : Prop := ∃ s kd j b, x = .string s ∧ i = .int kd j ∧ 0 ≤ j ∧ s[j.toNat]? = some b ∧ k (.int .u8 b.toNat)
def LenStr (x : Value) (k : Value → Prop) : Prop := ∃ s, x = .string s ∧ k (.int .i64 s.size)
def plainKey : TypeDesc → Bool
 | .int _ | .string | .bool => true
 | _ => false
def isAggD : TypeDesc → Bool
 | .struct _ | .array _ _ => true
 | _ => false
end Go.Sx
namespace Go.Sx
open Go
section
variable {P : Program} {g : Gh} {H : Hp} {K : Value → Hp → Prop} {KP : List PanicEntry → Hp → Prop}
theorem run_zero {t : TypeId} {i : TypeInfo} {z : Value} (hi : P.info? t = some i) (hz : i.zero = some z) (w : World) : (zeroValue t).run P w = .ok z w := by
 simp [zeroValue, typeInfo, hi, hz]
theorem run_isAgg {t : TypeId} {d : TypeDesc} (hd : P.underlying t = some d) (w : World) : (isAgg t).run P w = .ok (isAggD d) w := by
 simp only [isAgg, Sem.run_bind, run_underlying hd, Result.andThen_ok]
 cases d <;> rfl
theorem run_sizeOf {t : TypeId} {i : TypeInfo} (hi : P.info? t = some i) (w : World) : (sizeOf t).run P w = .ok i.size w := by
 simp [sizeOf, typeInfo, hi]
theorem Ld.run {p : Value} {k : Value → Prop} (h : Ld H p k) {w : World} (hw : Own g H w) {t : TypeId} {d : TypeDesc} (hd : P.underlying t = some d) (ha : isAggD d = false) :
  ∃ v, (Instr.loadAt t p).run P w = .ok v w ∧ k v := by
 obtain ⟨b, off, c, T, fz, v, rfl, hm, hc, hk⟩ := h
 refine ⟨v, ?_, hk⟩
 have := hw.cell hm off
 rw [hc] at this
 simp only [Instr.loadAt, Instr.sureAddr, loadVar, Sem.run_bind, Sem.run_pure, Result.andThen_ok, run_isAgg hd, ha, Sem.run_ite, Bool.false_eq_true, if_false, run_load, this]
theorem LdA.run {n : Nat} {p : Value} {k : Value → Prop} (h : LdA n H p k) {w : World} (hw : Own g H w) {t : TypeId} {d : TypeDesc} (hd : P.underlying t = some d) (ha : isAggD d = true)
  {i : TypeInfo} (hi : P.info? t = some i) (hn : i.size = n) :
  ∃ v, (Instr.loadAt t p).run P w = .ok v w ∧ k v := by
 obtain ⟨b, off, c, T, fz, rfl, hm, hs, hk⟩ := h
 refine ⟨_, ?_, hk⟩
 simp only [Instr.loadAt, Instr.sureAddr, loadVar, Sem.run_bind, Sem.run_pure, Result.andThen_ok, run_isAgg hd, ha, Sem.run_ite, if_true, run_sizeOf hi, hn, run_loadCells_own hw hm off n hs]
theorem St.run {n : Nat} {p x : Value} {k : Hp → Prop} (h : St n H p x k) {w : World} (hw : Own g H w) {t : TypeId} {i : TypeInfo} (hi : P.info? t = some i) (hn : i.size = n) :
  ∃ w' H', (Instr.storeAt t p x).run P w = .ok () w' ∧ Own g H' w' ∧ k H' := by
 obtain ⟨b, off, c, T, H', rfl, hx, hs, hv, hu, hk⟩ := h
 obtain ⟨w', hr, ho⟩ := run_storeCells_own (P := P) off x.cells.toList 0 c H H' w hw (by simpa using hu) hv (by simp; omega)
 refine ⟨w', H', ?_, ho, hk⟩
 simp only [Instr.storeAt, Instr.sureAddr, storeVar, Sem.run_bind, Sem.run_pure, Result.andThen_ok, run_sizeOf hi, hn, hx, ne_eq, not_true, if_false, hr]
theorem intV_run {op : BinOp} {k : IntKind} {a b : Int} {v : Value} {t : TypeId} (h : intV op k a b = some v) (w : World) (hs : op ≠ .shl ∧ op ≠ .shr) :
  (binOp op t (.int k a) (.int k b)).run P w = .ok v w := by
 cases op <;> simp [intV] at h hs <;> try subst h
 case quo => 
  obtain ⟨h0, rfl⟩ := h
  simp [binOp, Op.intDiv, h0]
 case rem =>
  obtain ⟨h0, rfl⟩ := h
  simp [binOp, Op.intDiv, h0]
 all_goals first
  | simp [binOp, Op.intArith]; done
  | simp [binOp, Op.intCmp]; done
  | (simp only [binOp_and, binOp_or, binOp_xor, binOp_andNot, intBits_and, intBits_or, intBits_xor, intBits_andNot]; rfl)
theorem run_equal_of {t : TypeId} {x y : Value} {r : Result Bool} {w : World} (h : ∀ d, (Op.equalIn (d + 1) t x y).run P w = r) : (Op.equal t x y).run P w = r := h 9999
theorem run_eql_bool {t : TypeId} (hd : P.underlying t = some .bool) (a b : Bool) (w : World) : (Op.equal t (.bool a) (.bool b)).run P w = .ok (a == b) w :=
 run_equal_of fun d => by simp [Op.equalIn, run_underlying hd]
theorem run_eql_ptr {t e : TypeId} (hd : P.underlying t = some (.pointer e)) (a b : Option Addr) (hab : a.isNone ∨ b.isNone) (w : World) : (Op.equal t (.pointer a) (.pointer b)).run P w = .ok (a.isNone && b.isNone) w :=
 run_equal_of fun d => by cases a <;> cases b <;> simp at hab <;> simp [Op.equalIn, run_underlying hd]
theorem run_eql_slice {t e : TypeId} (hd : P.underlying t = some (.slice e)) (a b : Option Addr) (n c n' c' : Nat) (hab : a.isNone ∨ b.isNone) (w : World) : (Op.equal t (.slice a n c) (.slice b n' c')).run P w = .ok (a.isNone && b.isNone) w :=
 run_equal_of fun d => by cases a <;> cases b <;> simp at hab <;> simp [Op.equalIn, run_underlying hd]
theorem run_eql_map {t e f : TypeId} (hd : P.underlying t = some (.map e f)) (a b : Option Nat) (hab : a.isNone ∨ b.isNone) (w : World) : (Op.equal t (.map a) (.map b)).run P w = .ok (a.isNone && b.isNone) w :=
 run_equal_of fun d => by cases a <;> cases b <;> simp at hab <;> simp [Op.equalIn, run_underlying hd]
theorem binV_run {kd : BK} {op : BinOp} {x y v : Value} {t : TypeId} {d : TypeDesc} (hd : P.underlying t = some d) (hk : bkOf d = kd) (h : binV kd op x y = some v) (w : World) :
  (binOp op t x y).run P w = .ok v w := by
 cases x <;> simp only [binV] at h <;> try (simp at h; done)
 case int k a =>
  cases y <;> simp only at h <;> try (simp at h; done)
  rename_i k' b
  by_cases hs : op = .shl
  ·subst hs
   simp only at h
   split at h
   ·simp at h
   ·simp only [Option.some.injEq] at h; subst h; rename_i hb; simp [binOp, Op.shift, hb]
  by_cases hs' : op = .shr
  ·subst hs'
   simp only at h
   split at h
   ·simp at h
   ·simp only [Option.some.injEq] at h; subst h; rename_i hb; simp [binOp, Op.shift, hb]
  have h2 : (if k = k' then intV op k a b else none) = some v := by
   cases op <;> first | exact h | exact absurd rfl hs | exact absurd rfl hs'
  split at h2
  ·rename_i e; subst e; exact intV_run h2 w ⟨hs, hs'⟩
  ·simp at h2
 case bool a =>
  split at h <;> simp only [Option.some.injEq, reduceCtorEq] at h
  all_goals
   subst h
   have : d = .bool := by cases d <;> simp_all [bkOf]
   subst this
   simp [binOp, run_eql_bool hd]
 case string a =>
  split at h <;> simp only [Option.some.injEq, reduceCtorEq] at h
  all_goals
   subst h
   first | rfl | (simp only [binOp, Op.stringOp]; rfl)
 case pointer a =>
  split at h <;> try (simp at h; done)
  all_goals
   have : ∃ e, d = .pointer e := by cases d <;> simp_all [bkOf]
   obtain ⟨e, rfl⟩ := this
   split at h <;> simp only [Option.some.injEq, reduceCtorEq] at h
   subst h
   rename_i bb hab
   simp [binOp, run_eql_ptr hd _ _ hab]
 case slice a n c =>
  split at h <;> try (simp at h; done)
  all_goals
   have : ∃ e, d = .slice e := by cases d <;> simp_all [bkOf]
   obtain ⟨e, rfl⟩ := this
   split at h <;> simp only [Option.some.injEq, reduceCtorEq] at h
   subst h
   rename_i bb _ _ hab
   simp [binOp, run_eql_slice hd _ _ _ _ _ _ hab]
 case map a =>
  split at h <;> try (simp at h; done)
  all_goals
   have : ∃ e f, d = .map e f := by cases d <;> simp_all [bkOf]
   obtain ⟨e, f, rfl⟩ := this
   split at h <;> simp only [Option.some.injEq, reduceCtorEq] at h
   subst h
   rename_i bb hab
   simp [binOp, run_eql_map hd _ _ hab]
theorem binV_guard {kd : BK} {op : BinOp} {x y v : Value} {t : TypeId} {ox oy : Operand} (h : binV kd op x y = some v) : eqGuard op t ox oy x y = pure () := by
 cases x <;> simp [binV] at h <;> cases op <;> rfl
theorem Bin.run {kd : BK} {op : BinOp} {x y : Value} {k : Value → Prop} (h : Bin kd op x y k) (w : World) {t : TypeId} {d : TypeDesc} {ox oy : Operand} (hd : P.underlying t = some d) (hk : bkOf d = kd) :
  ∃ v, (do eqGuard op t ox oy x y; binOp op t x y : Sem Value).run P w = .ok v w ∧ k v := by
 obtain ⟨v, hv, hkv⟩ := h
 refine ⟨v, ?_, hkv⟩
 rw [Sem.run_bind, binV_guard hv]
 simp only [Sem.run_pure, Result.andThen_ok]
 exact binV_run hd hk hv w
theorem Un.run {op : UnOp} {x : Value} {k : Value → Prop} (h : Un op x k) (w : World) : ∃ v, (Op.unary op x).run P w = .ok v w ∧ k v := by
 obtain ⟨v, hv, hk⟩ := h
 refine ⟨v, ?_, hk⟩
 cases op <;> cases x <;> simp [unV] at hv <;> subst hv
 all_goals first | (simp [Op.unary, Op.intArith]; done) | rfl
theorem ConvI.run {kd : IntKind} {x : Value} {k : Value → Prop} (h : ConvI kd x k) (w : World) {src dst : TypeId} {ds dd : TypeDesc} (hs : P.underlying src = some ds) (hd : P.underlying dst = some dd) (hk : dd = .int kd) :
  ∃ v, (convert src dst x).run P w = .ok v w ∧ k v := by
 obtain ⟨j, n, rfl, hkv⟩ := h
 subst hk
 refine ⟨_, ?_, hkv⟩
 simp only [convert, Sem.run_bind, run_underlying hs, run_underlying hd, Result.andThen_ok]
 cases ds <;> rfl
theorem FAddr.run {off : Nat} {x : Value} {k : Value → Prop} (h : FAddr off x k) (w : World) {s : TypeId} {fs : Array Field} {f : Nat} {fl : Field} {i : TypeInfo} (hs : P.underlying s = some (.struct fs)) (hf : fs[f]? = some fl)
  (hi : P.info? fl.type = some i) (h0 : i.size ≠ 0) (ho : fl.offset = off) : ∃ v, (Instr.fieldAt s x f).run P w = .ok v w ∧ k v := by
 obtain ⟨b, o, rfl, hk⟩ := h
 refine ⟨_, ?_, hk⟩
 subst ho
 simp [Instr.fieldAt, run_underlying hs, hf, Instr.sureAddr, fieldPlace, run_sizeOf hi, h0, Addr.add_lit]
theorem Fld.run {off : Nat} {x : Value} {k : Value → Prop} (h : Fld off x k) (w : World) {s : TypeId} {fs : Array Field} {f : Nat} {fl : Field} {d : TypeDesc} (hs : P.underlying s = some (.struct fs)) (hf : fs[f]? = some fl)
  (hd : P.underlying fl.type = some d) (ha : isAggD d = false) (ho : fl.offset = off) : ∃ v, (Instr.field s x f).run P w = .ok v w ∧ k v := by
 obtain ⟨cs, v, rfl, hc, hk⟩ := h
 refine ⟨v, ?_, hk⟩
 subst ho
 simp [Instr.field, run_underlying hs, hf, asAgg, part, run_isAgg hd, ha, hc]
theorem FldA.run {off n : Nat} {x : Value} {k : Value → Prop} (h : FldA off n x k) (w : World) {s : TypeId} {fs : Array Field} {f : Nat} {fl : Field} {d : TypeDesc} {i : TypeInfo} (hs : P.underlying s = some (.struct fs)) (hf : fs[f]? = some fl)
  (hd : P.underlying fl.type = some d) (ha : isAggD d = true) (hi : P.info? fl.type = some i) (hn : i.size = n) (ho : fl.offset = off) : ∃ v, (Instr.field s x f).run P w = .ok v w ∧ k v := by
 obtain ⟨cs, rfl, hk⟩ := h
 refine ⟨_, ?_, hk⟩
 subst ho; subst hn
 simp [Instr.field, run_underlying hs, hf, asAgg, part, run_isAgg hd, ha, run_sizeOf hi]
theorem IAddr.run {size : Nat} {x ix : Value} {k : Value → Prop} (h : IAddr size x ix k) (w : World) {t e : TypeId} {i : TypeInfo} (ht : P.underlying t = some (.slice e)) (hi : P.info? e = some i) (hn : i.size = size) :
  ∃ v, (Instr.indexAt t x ix).run P w = .ok v w ∧ k v := by
 obtain ⟨b, o, n, c, kd, j, rfl, rfl, h0, h1, hk⟩ := h
 refine ⟨_, ?_, hk⟩
 subst hn
 simp [Instr.indexAt, run_underlying ht, asIntOf, h0, h1, run_sizeOf hi, Addr.add_lit]
theorem AAddr.run {len size : Nat} {x ix : Value} {k : Value → Prop} (h : AAddr len size x ix k) (w : World) {t e : TypeId} {i : TypeInfo} (ht : P.underlying t = some (.array len e)) (hi : P.info? e = some i) (hn : i.size = size) :
  ∃ v, (Instr.indexAt t x ix).run P w = .ok v w ∧ k v := by
 obtain ⟨b, o, kd, j, rfl, rfl, h0, h1, hk⟩ := h
 refine ⟨_, ?_, hk⟩
 subst hn
 simp [Instr.indexAt, run_underlying ht, asIntOf, h0, h1, run_sizeOf hi, Addr.add_lit, Instr.sureAddr]
theorem SliceE.run {size : Nat} {x : Value} {lo hi : Option Value} {k : Value → Prop} (h : SliceE size x lo hi k) (w : World) {t e : TypeId} {i : TypeInfo} (ht : P.underlying t = some (.slice e)) (hi' : P.info? e = some i) (hn : i.size = size) :
  ∃ v, (Instr.sliceAt t x lo hi none).run P w = .ok v w ∧ k v := by
 obtain ⟨a, n, c, l, hh, rfl, hl, hh', h0, h1, h2, hk⟩ := h
 refine ⟨_, ?_, hk⟩
 subst hn
 have bl : ∀ (kk : IntKind) (z : Int) (y : Nat) (cd : BoundsCode), 0 ≤ z → z ≤ y → (Instr.sliceBound (.int kk z) y cd).run P w = .ok z.toNat w := by
  intro kk z y cd a1 a2
  simp [Instr.sliceBound, asIntOf, a1, a2]
 have hcl : ∀ (m l : Nat), (if m = l then a else a.map (·.add (l * i.size))) = (if m = l then a else a.map fun x => x.add (l * i.size)) := fun _ _ => rfl
 have e1 : l ≤ ((hh.toNat : Nat) : Int) := by omega
 cases lo with
 | none =>
  simp only [loOf, Option.some.injEq] at hl
  subst hl
  cases hi with
  | none =>
   simp only [hiOf, Option.some.injEq] at hh'
   subst hh'
   simp [Instr.sliceAt, run_underlying ht, Instr.slice, Instr.sliceBounds, run_sizeOf hi']
  | some v =>
   cases v <;> simp only [hiOf, reduceCtorEq, Option.some.injEq] at hh'
   subst hh'
   simp [Instr.sliceAt, run_underlying ht, Instr.slice, Instr.sliceBounds, run_sizeOf hi', bl _ _ c .sliceAcap (by omega) h2]
 | some vl =>
  cases vl <;> simp only [loOf, reduceCtorEq, Option.some.injEq] at hl
  subst hl
  cases hi with
  | none =>
   simp only [hiOf, Option.some.injEq] at hh'
   subst hh'
   have := bl ‹_› _ n .sliceB h0 h1
   simp [Instr.sliceAt, run_underlying ht, Instr.slice, Instr.sliceBounds, run_sizeOf hi', this]
  | some v =>
   cases v <;> simp only [hiOf, reduceCtorEq, Option.some.injEq] at hh'
   subst hh'
   rename_i k1 n1 k2 n2
   have b1 := bl k2 n2 c .sliceAcap (by omega) h2
   have b2 := bl k1 n1 n2.toNat .sliceB h0 (by omega)
   simp [Instr.sliceAt, run_underlying ht, Instr.slice, Instr.sliceBounds, run_sizeOf hi', b1, b2]
theorem Ext.run {i : Nat} {x : Value} {k : Value → Prop} (h : Ext i x k) (w : World) : ∃ v, (Instr.extract x i).run P w = .ok v w ∧ k v := by
 obtain ⟨vs, v, rfl, hv, hk⟩ := h
 exact ⟨v, by simp [Instr.extract, hv], hk⟩
theorem LenS.run {x : Value} {k : Value → Prop} (h : LenS x k) (w : World) {t e ty : TypeId} (ht : P.underlying t = some (.slice e)) : ∃ v, (Builtin.len_ #[t] ty #[x]).run P w = .ok v w ∧ k v := by
 obtain ⟨a, n, c, rfl, hk⟩ := h
 exact ⟨_, by simp [Builtin.len_, run_underlying ht, goInt], hk⟩
theorem run_getObj_own {w : World} (hw : Own g H w) {b : Nat} {es : Array MapEntry} {clock : Nat} (hm : (b, Obj.map es clock) ∈ H) : (getObj b).run P w = .ok (.map es clock) w := by
 have := hw.has _ hm
 simp only at this
 simp [getObj, Sem.run, this]
theorem LenM.run {x : Value} {k : Value → Prop} (h : LenM H x k) {w : World} (hw : Own g H w) {t e e' ty : TypeId} (ht : P.underlying t = some (.map e e')) : ∃ v, (Builtin.len_ #[t] ty #[x]).run P w = .ok v w ∧ k v := by
 obtain ⟨m, rfl, ⟨rfl, hk⟩ | ⟨b, es, clock, rfl, hm, hk⟩⟩ := h
 ·exact ⟨_, by simp [Builtin.len_, run_underlying ht, goInt], hk⟩
 ·exact ⟨_, by simp [Builtin.len_, run_underlying ht, goInt, run_getObj_own hw hm], hk⟩
end
end Go.Sx
namespace Go.Sx
open Go
section
variable {P : Program} {g : Gh} {H : Hp} {K : Value → Hp → Prop} {KP : List PanicEntry → Hp → Prop}
theorem Cells.run {w : World} (hw : Own g H w) {base : Option Addr} {size n cap : Nat} {cs : Array Value} (h : Cells H base (n * size) cs) :
  (Builtin.firstCells size n (.slice base n cap)).run P w = .ok cs w := by
 cases base with
 | none => simp only [Cells] at h; subst h; simp [Builtin.firstCells]
 | some a =>
  rcases h with ⟨hn, rfl⟩ | ⟨h0, c, T, fz, hm, hs, rfl⟩
  ·simp only [Builtin.firstCells, hn]; rfl
  obtain ⟨b, o, sp⟩ := a
  simp only at h0 hm hs; subst h0
  simp only [Builtin.firstCells, run_loadCells_own hw hm _ _ hs]
theorem App.run {elem size bytes : Nat} {zero : Value} {s x : Value} {k : Value → Hp → Prop} (h : App P elem size bytes zero H s x k) {w : World} (hw : Own g H w) {t t' ty : TypeId} {i : TypeInfo}
  (ht : P.underlying t = some (.slice elem)) (ht' : ∃ e, P.underlying t' = some (.slice e)) (hi : P.info? elem = some i) (hz : i.zero = some zero) (hn : i.size = size) (hb : i.bytes = bytes) :
  ∃ v w' H', (Builtin.append_ #[t, t'] ty #[s, x]).run P w = .ok v w' ∧ Own g H' w' ∧ k v H' := by
 obtain ⟨base, n, cap, xb, m, xc, olds, news, rfl, rfl, hco, hcn, hsn, hso, hone, hfit, hgrow⟩ := h
 obtain ⟨e', ht'⟩ := ht'
 subst hn; subst hb
 by_cases hc : n + m ≤ cap
 ·have hk := hfit hc
  have hnew := Cells.run (P := P) (cap := xc) hw hcn
  cases base with
  | none =>
   refine ⟨_, w, H, ?_, hw, hk⟩
   simp [Builtin.append_, run_underlying ht, run_underlying ht', run_sizeOf hi, Builtin.lenOf, hc, hnew]
  | some a =>
   obtain ⟨c, T, H', h0, hs, hu, hk⟩ := hk
   obtain ⟨b, o, sp⟩ := a
   simp only at h0 hu hs; subst h0
   obtain ⟨w', hr, ho⟩ := run_storeCells_own (P := P) (o + n * i.size) news.toList 0 c H H' w hw (by simpa using hu) hone (by simp; omega)
   refine ⟨_, w', H', ?_, ho, hk⟩
   simp [Builtin.append_, run_underlying ht, run_underlying ht', run_sizeOf hi, Builtin.lenOf, hc, hnew, Addr.add_lit, hr]
 ·obtain ⟨hb47, h63, hk⟩ := hgrow (by omega)
  have hw1 := hw.drew
  have hnew := Cells.run (P := P) (cap := xc) hw1 hcn
  have hold := Cells.run (P := P) (cap := cap) hw1 hco
  have hnx : Builtin.nextslicecap (n + m) cap * i.bytes ≤ 281474976710656 := growslice_fits (by omega) hb47
  have h48' : ¬ (281474976710656 < Builtin.nextslicecap (n + m) cap * i.bytes) := by omega
  have h63' : ¬ (9223372036854775807 < ((n : Int) + (m : Int))) := by omega
  obtain ⟨H'', hent, hkk⟩ := hk (grownCap w (n + m) cap elem) (by simp only [grownCap, Question.cut]; omega) _ hw1.fresh
  refine ⟨_, _, _, ?_, hent _ _ (hw1.alloc _), hkk⟩
  ·simp [Builtin.append_, run_underlying ht, run_underlying ht', sizeOf, typeInfo, zeroValue, hi, hz, Builtin.lenOf, hc, h63', h48', Question.forced, hnew, hold, newRow, grownCap]
theorem MkSlice.run {elem size bytes : Nat} {zero : Value} {l c : Value} {k : Value → Hp → Prop} (h : MkSlice elem size bytes zero H l c k) {w : World} (hw : Own g H w) {t : TypeId} {i : TypeInfo}
  (ht : P.underlying t = some (.slice elem)) (hi : P.info? elem = some i) (hz : i.zero = some zero) (hn : i.size = size) (hb : i.bytes = bytes) :
  ∃ v w' H', (Instr.makeSlice t l c).run P w = .ok v w' ∧ Own g H' w' ∧ k v H' := by
 obtain ⟨kl, kc, ln, cn, rfl, rfl, hlc, hmax, hby, hk⟩ := h
 subst hn; subst hb
 refine ⟨_, _, _, ?_, hw.alloc _, hk _ hw.fresh⟩
 have e1 : IntKind.i64.wrap (ln : Int) = ln := IntWalk.i64_in _ (by omega)
 have e2 : IntKind.i64.wrap (cn : Int) = cn := IntWalk.i64_in _ (by omega)
 have e3 : ¬ ((i.bytes : Int) * (cn : Int) > 281474976710656) := by
  have : ((cn * i.bytes : Nat) : Int) ≤ 281474976710656 := by omega
  rw [Int.mul_comm]; push_cast at this; omega
 have e4 : ¬ ((cn : Int) < ln) := by omega
 by_cases h0 : cn * i.size = 0
 ·simp [Instr.makeSlice, run_underlying ht, asInt, asIntOf, typeInfo, hi, e1, e2, e3, e4, sizeOf, zeroValue, hz, newRow, madeCells, h0, show ¬ ((cn : Int) < 0) from by omega, show ¬ ((ln : Int) < 0) from by omega]
  have : Array.range 0 = #[] := rfl
  simp [this]
 ·simp [Instr.makeSlice, run_underlying ht, asInt, asIntOf, typeInfo, hi, e1, e2, e3, e4, sizeOf, zeroValue, hz, newRow, madeCells, h0, show ¬ ((cn : Int) < 0) from by omega, show ¬ ((ln : Int) < 0) from by omega]
theorem MapAt.run {m : Value} {es : Array MapEntry} (h : MapAt H m es) {w : World} (hw : Own g H w) :
  (m = .map none ∧ es = #[]) ∨ ∃ b clock, m = .map (some b) ∧ (getObj b).run P w = .ok (.map es clock) w := by
 rcases h with h | ⟨b, clock, hm, hb⟩
 ·exact .inl h
 ·exact .inr ⟨b, clock, hm, run_getObj_own hw hb⟩
theorem run_checkKey (e : Bool) {t : TypeId} {d : TypeDesc} (hd : P.underlying t = some d) (hp : plainKey d = true) (v : Value) (w : World) : (Instr.checkKey e 10000 t v).run P w = .ok () w := by
 have : ∀ n, (Instr.checkKey e (n + 1) t v).run P w = .ok () w := fun n => by
  simp only [Instr.checkKey, Sem.run_bind, run_underlying hd, Result.andThen_ok]
  cases d <;> first | (simp [plainKey] at hp; done) | rfl
 exact this 9999
theorem run_findKey {t : TypeId} {d : TypeDesc} (hd : P.underlying t = some d) {key : Value} {es : List MapEntry} {r : Option (Nat × Value)} (h : Instr.findNow d key es 0 = some r) (w : World) :
  (Instr.findKey t key es).run P w = .ok r w := by
 simp [Instr.findKey, run_underlying hd, h]
theorem Look.run {kd : TypeDesc} {zero : Value} {ok : Bool} {m key : Value} {k : Value → Prop} (h : Look kd zero ok H m key k) {w : World} (hw : Own g H w) {t kt e : TypeId} {i : TypeInfo}
  (ht : P.underlying t = some (.map kt e)) (hk : P.underlying kt = some kd) (hp : plainKey kd = true) (hi : P.info? e = some i) (hz : i.zero = some zero) :
  ∃ v, (Instr.lookup t m key ok).run P w = .ok v w ∧ k v := by
 obtain ⟨es, r, hm, hf, hkv⟩ := h
 have hchk := fun b => run_checkKey (P := P) b hk hp key w
 have hfk := run_findKey (P := P) hk hf w
 refine ⟨_, ?_, hkv⟩
 rcases hm.run (P := P) hw with ⟨rfl, rfl⟩ | ⟨b, clock, rfl, hg⟩
 ·cases r with
  | none => cases ok <;> simp [Instr.lookup, run_underlying ht, hchk, hfk, run_zero hi hz]
  | some x => obtain ⟨j, v⟩ := x; cases ok <;> simp [Instr.lookup, run_underlying ht, hchk, hfk]
 ·cases r with
  | none => cases ok <;> simp [Instr.lookup, run_underlying ht, hchk, hfk, run_zero hi hz, hg]
  | some x => obtain ⟨j, v⟩ := x; cases ok <;> simp [Instr.lookup, run_underlying ht, hchk, hfk, hg]
theorem run_setObj_own {w : World} (hw : Own g H w) {b : Nat} {es : Array MapEntry} {clock : Nat} (es' : Array MapEntry) (clock' : Nat) {H' : Hp} (hu : Upd b (.map es clock) (.map es' clock') H H') :
  ∃ w', (setObj b (.map es' clock')).run P w = .ok () w' ∧ Own g H' w' := by
 have hm := hw.has _ hu.mem
 simp only at hm
 refine ⟨{ w with heap := w.heap.setIfInBounds b (.map es' clock') }, by simp [setObj, Sem.run, hm], ?_⟩
 have hlt := hw.lt hu.mem
 refine hw.upd hu rfl rfl rfl ?_ ?_
 ·simp only at hlt; simp [hlt]
 ·intro c hc; rw [Array.getElem?_setIfInBounds, if_neg (fun e => hc (Eq.symm e))]
theorem MapUpd.run {kd : TypeDesc} {m key val : Value} {k : Hp → Prop} (h : MapUpd kd H m key val k) {w : World} (hw : Own g H w) {t kt e : TypeId}
  (ht : P.underlying t = some (.map kt e)) (hk : P.underlying kt = some kd) (hp : plainKey kd = true) :
  ∃ w' H', (Instr.mapUpdate t m key val).run P w = .ok () w' ∧ Own g H' w' ∧ k H' := by
 obtain ⟨b, es, clock, r, rfl, hf, hr⟩ := h
 have hchk := fun b => run_checkKey (P := P) b hk hp key w
 have hfk := run_findKey (P := P) hk hf w
 cases r with
 | none =>
  obtain ⟨H', hu, hkk⟩ := hr
  obtain ⟨w', hs, ho⟩ := run_setObj_own (P := P) hw _ _ hu
  refine ⟨w', H', ?_, ho, hkk⟩
  simp [Instr.mapUpdate, run_underlying ht, run_getObj_own hw hu.mem, hchk, hfk, hs]
 | some x =>
  obtain ⟨j, v⟩ := x
  obtain ⟨hsame, hj, H', hu, hkk⟩ := hr
  obtain ⟨w', hs, ho⟩ := run_setObj_own (P := P) hw _ _ hu
  refine ⟨w', H', ?_, ho, hkk⟩
  have hsb := hsame es[j] (Array.getElem?_eq_getElem hj)
  simp [Instr.mapUpdate, run_underlying ht, run_getObj_own hw hu.mem, hchk, hfk, hj, Instr.keyThatStays, hsb, hs]
theorem MapDel.run {kd : TypeDesc} {m key : Value} {k : Hp → Prop} (h : MapDel kd H m key k) {w : World} (hw : Own g H w) {t kt e ty : TypeId} {as : Array TypeId} (has : as[0]? = some t)
  (ht : P.underlying t = some (.map kt e)) (hk : P.underlying kt = some kd) (hp : plainKey kd = true) :
  ∃ w' H', (Builtin.delete_ as ty #[m, key]).run P w = .ok (.tuple #[]) w' ∧ Own g H' w' ∧ k H' := by
 have hchk := fun b => run_checkKey (P := P) b hk hp key w
 rcases h with ⟨rfl, hkk⟩ | ⟨b, es, clock, r, rfl, hf, hr⟩
 ·exact ⟨w, H, by simp [Builtin.delete_, has, run_underlying ht, hchk], hw, hkk⟩
 ·have hfk := run_findKey (P := P) hk hf w
  cases r with
  | none =>
   obtain ⟨hm, hkk⟩ := hr
   have hu : ∃ H', Upd b (.map es clock) (.map es clock) H H' ∧ H' = H := by
    clear hkk hf hfk hw
    induction H with
    | nil => simp at hm
    | cons x R ih =>
     rcases List.mem_cons.1 hm with e | hm'
     ·subst e; exact ⟨_, .head _, rfl⟩
     ·obtain ⟨H', u, rfl⟩ := ih hm'; exact ⟨_, .tail u, rfl⟩
   obtain ⟨H', hu, rfl⟩ := hu
   obtain ⟨w', hs, ho⟩ := run_setObj_own (P := P) hw _ _ hu
   exact ⟨w', _, by simp [Builtin.delete_, has, run_underlying ht, run_getObj_own hw hm, hchk, hfk, hs], ho, hkk⟩
  | some x =>
   obtain ⟨j, v⟩ := x
   obtain ⟨H', hu, hkk⟩ := hr
   obtain ⟨w', hs, ho⟩ := run_setObj_own (P := P) hw _ _ hu
   exact ⟨w', _, by simp [Builtin.delete_, has, run_underlying ht, run_getObj_own hw hu.mem, hchk, hfk, hs], ho, hkk⟩
theorem findNow_agg {kd : TypeDesc} (h : isAggD kd = true) (key : Value) (es : List MapEntry) (i : Nat) : Instr.findNow kd key es i = if es = [] then some none else none := by
 cases es with
 | nil => rfl
 | cons e r =>
  simp only [Instr.findNow, reduceCtorEq, if_false]
  cases kd <;> simp [isAggD] at h <;> rfl
theorem run_findAsking {kt : TypeId} {key : Value} : ∀ {es : List MapEntry} {i : Nat} {r : Option (Nat × Value)}, FindS P kt key es i r → ∀ w, (Instr.findAsking kt key es i).run P w = .ok r w
 | [], i, r, h, w => by simp only [FindS] at h; subst h; rfl
 | e :: es, i, r, h, w => by
  obtain ⟨b, he, h1, h2⟩ := h
  simp only [Instr.findAsking, Sem.run_bind, he w, Result.andThen_ok]
  cases b
  ·simp only [Bool.false_eq_true, if_false]; exact run_findAsking (h2 rfl) w
  ·simp only [if_true, h1 rfl, Sem.run_pure]
theorem run_findKeyS {t : TypeId} {d : TypeDesc} (hd : P.underlying t = some d) (ha : isAggD d = true) {key : Value} {es : List MapEntry} {r : Option (Nat × Value)} (h : FindS P t key es 0 r) (w : World) :
  (Instr.findKey t key es).run P w = .ok r w := by
 simp only [Instr.findKey, Sem.run_bind, run_underlying hd, Result.andThen_ok, findNow_agg ha]
 cases es with
 | nil => simp only [FindS] at h; subst h; simp
 | cons e es => simp only [reduceCtorEq, if_false]; exact run_findAsking h w
theorem LookS.run {zero : Value} {ok : Bool} {m key : Value} {k : Value → Prop} {t kt e : TypeId} {kd : TypeDesc} (h : LookS P kt zero ok H m key k) {w : World} (hw : Own g H w) {i : TypeInfo}
  (ht : P.underlying t = some (.map kt e)) (hk : P.underlying kt = some kd) (hp : isAggD kd = true) (hi : P.info? e = some i) (hz : i.zero = some zero) :
  ∃ v, (Instr.lookup t m key ok).run P w = .ok v w ∧ k v := by
 obtain ⟨es, r, hm, hc, hf, hkv⟩ := h
 have hchk := fun b => hc b w
 have hfk := run_findKeyS (P := P) hk hp hf w
 refine ⟨_, ?_, hkv⟩
 rcases hm.run (P := P) hw with ⟨rfl, rfl⟩ | ⟨b, clock, rfl, hg⟩
 ·cases r with
  | none => cases ok <;> simp [Instr.lookup, run_underlying ht, hchk, hfk, run_zero hi hz]
  | some x => obtain ⟨j, v⟩ := x; cases ok <;> simp [Instr.lookup, run_underlying ht, hchk, hfk]
 ·cases r with
  | none => cases ok <;> simp [Instr.lookup, run_underlying ht, hchk, hfk, run_zero hi hz, hg]
  | some x => obtain ⟨j, v⟩ := x; cases ok <;> simp [Instr.lookup, run_underlying ht, hchk, hfk, hg]
theorem MapUpdS.run {m key val : Value} {k : Hp → Prop} {t kt e : TypeId} {kd : TypeDesc} (h : MapUpdS P kt H m key val k) {w : World} (hw : Own g H w)
  (ht : P.underlying t = some (.map kt e)) (hk : P.underlying kt = some kd) (hp : isAggD kd = true) :
  ∃ w' H', (Instr.mapUpdate t m key val).run P w = .ok () w' ∧ Own g H' w' ∧ k H' := by
 obtain ⟨b, es, clock, r, rfl, hc, hf, hr⟩ := h
 have hchk := fun b => hc b w
 have hfk := run_findKeyS (P := P) hk hp hf w
 cases r with
 | none =>
  obtain ⟨H', hu, hkk⟩ := hr
  obtain ⟨w', hs, ho⟩ := run_setObj_own (P := P) hw _ _ hu
  refine ⟨w', H', ?_, ho, hkk⟩
  simp [Instr.mapUpdate, run_underlying ht, run_getObj_own hw hu.mem, hchk, hfk, hs]
 | some x =>
  obtain ⟨j, v⟩ := x
  obtain ⟨hsame, hj, H', hu, hkk⟩ := hr
  obtain ⟨w', hs, ho⟩ := run_setObj_own (P := P) hw _ _ hu
  refine ⟨w', H', ?_, ho, hkk⟩
  have hsb := hsame es[j] (Array.getElem?_eq_getElem hj)
  simp [Instr.mapUpdate, run_underlying ht, run_getObj_own hw hu.mem, hchk, hfk, hj, Instr.keyThatStays, hsb, hs]
theorem Upd.same {b : Nat} {o : Obj} {H : Hp} (hm : (b, o) ∈ H) : Upd b o o H H := by
 induction H with
 | nil => simp at hm
 | cons x R ih =>
  rcases List.mem_cons.1 hm with e | hm'
  ·subst e; exact .head _
  ·exact .tail (ih hm')
theorem MapDelS.run {m key : Value} {k : Hp → Prop} {t kt e ty : TypeId} {kd : TypeDesc} {as : Array TypeId} (h : MapDelS P kt H m key k) {w : World} (hw : Own g H w) (has : as[0]? = some t)
  (ht : P.underlying t = some (.map kt e)) (hk : P.underlying kt = some kd) (hp : isAggD kd = true) :
  ∃ w' H', (Builtin.delete_ as ty #[m, key]).run P w = .ok (.tuple #[]) w' ∧ Own g H' w' ∧ k H' := by
 obtain ⟨hc, h⟩ := h
 have hchk := fun b => hc b w
 rcases h with ⟨rfl, hkk⟩ | ⟨b, es, clock, r, rfl, hf, hr⟩
 ·exact ⟨w, H, by simp [Builtin.delete_, has, run_underlying ht, hchk], hw, hkk⟩
 ·have hfk := run_findKeyS (P := P) hk hp hf w
  cases r with
  | none =>
   obtain ⟨hm, hkk⟩ := hr
   obtain ⟨w', hs, ho⟩ := run_setObj_own (P := P) hw _ _ (Upd.same hm)
   exact ⟨w', _, by simp [Builtin.delete_, has, run_underlying ht, run_getObj_own hw hm, hchk, hfk, hs], ho, hkk⟩
  | some x =>
   obtain ⟨j, v⟩ := x
   obtain ⟨H', hu, hkk⟩ := hr
   obtain ⟨w', hs, ho⟩ := run_setObj_own (P := P) hw _ _ hu
   exact ⟨w', _, by simp [Builtin.delete_, has, run_underlying ht, run_getObj_own hw hu.mem, hchk, hfk, hs], ho, hkk⟩
theorem Rng.run {x : Value} {k : Value → Hp → Prop} (h : Rng H x k) {w : World} (hw : Own g H w) {t kt e : TypeId} (ht : P.underlying t = some (.map kt e)) :
  ∃ v w' H', (Instr.range t x).run P w = .ok v w' ∧ Own g H' w' ∧ k v H' := by
 rcases h with ⟨rfl, hk⟩ | ⟨m, es, clock, rfl, hm, hk⟩
 ·refine ⟨_, _, _, ?_, hw.alloc _, hk _ hw.fresh⟩
  simp [Instr.range, run_underlying ht]
 ·refine ⟨_, _, _, ?_, hw.alloc _, hk _ hw.fresh⟩
  simp [Instr.range, run_underlying ht, run_getObj_own hw hm]
theorem run_getObj_iter {w : World} (hw : Own g H w) {b : Nat} {mo : Option Nat} {since last : Nat} {seen : Array Nat} (hm : (b, Obj.mapIter mo since seen last) ∈ H) : (getObj b).run P w = .ok (.mapIter mo since seen last) w := by
 have := hw.has _ hm
 simp only at this
 simp [getObj, Sem.run, this]
theorem run_setObj_iter {w : World} (hw : Own g H w) {b : Nat} {mo mo' : Option Nat} {since last since' last' : Nat} {seen seen' : Array Nat} {H' : Hp} (hu : Upd b (.mapIter mo since seen last) (.mapIter mo' since' seen' last') H H') :
  ∃ w', (setObj b (.mapIter mo' since' seen' last')).run P w = .ok () w' ∧ Own g H' w' := by
 have hm := hw.has _ hu.mem
 simp only at hm
 refine ⟨{ w with heap := w.heap.setIfInBounds b (.mapIter mo' since' seen' last') }, by simp [setObj, Sem.run, hm], ?_⟩
 have hlt := hw.lt hu.mem
 refine hw.upd hu rfl rfl rfl ?_ ?_
 ·simp only at hlt; simp [hlt]
 ·intro c hc; rw [Array.getElem?_setIfInBounds, if_neg (fun e => hc (Eq.symm e))]
theorem Entr.run {it : Value} {k : Value → Prop} (h : Entr H it k) {w : World} (hw : Own g H w) : ∃ v, (Instr.entry it).run P w = .ok v w ∧ k v := by
 obtain ⟨b, m, since, seen, stamp, clock, es, e, rfl, hb, hs, hm, hf, hk⟩ := h
 refine ⟨_, ?_, hk⟩
 simp [Instr.entry, run_getObj_iter (P := P) hw hb, hs, run_getObj_own (P := P) hw hm, hf]
theorem run_choose_next (n : Nat) (hn : 0 < n) {w : World} : ∃ i w', (choose (.mapNext n)).run P w = .ok i w' ∧ i < n ∧ (w' = w ∨ w' = w.drew) := by
 by_cases h : n ≤ 1
 ·exact ⟨0, w, by simp [choose, Sem.run, Question.forced, h], hn, .inl rfl⟩
 ·exact ⟨_, _, by simp only [choose, Sem.run, Question.forced, h, decide_false, Bool.false_eq_true, if_false]; rfl, Nat.mod_lt _ hn, .inr rfl⟩
theorem Nxt.run {it : Value} {k : Value → Hp → Prop} (h : Nxt H it k) {w : World} (hw : Own g H w) {ty : TypeId} :
  ∃ v w' H', (Instr.next it false ty).run P w = .ok v w' ∧ Own g H' w' ∧ k v H' := by
 obtain ⟨b, mo, since, seen, last, rfl, hb, h⟩ := h
 have hgi := run_getObj_iter (P := P) hw hb
 cases mo with
 | none => exact ⟨_, w, H, by simp [Instr.next, hgi], hw, h⟩
 | some m =>
  obtain ⟨es, clock, hm, hborn, hnext, hover⟩ := h
  have hgm := run_getObj_own (P := P) hw hm
  have hmark : (!seen.isEmpty && !es.isEmpty && es.all (fun e => decide (e.born ≥ last))) = false := by
   cases he : es.isEmpty
   ·have hne : es ≠ #[] := by intro e; rw [e] at he; simp at he
    have : es.all (fun e => decide (e.born ≥ last)) = false := by
     rw [← Bool.not_eq_true, Array.all_eq_true]
     intro hall
     have h0 : 0 < es.size := Array.size_pos_iff.2 hne
     have := hall 0 h0
     have h2 := (hborn es[0] (by simp)).2
     simp only [ge_iff_le, decide_eq_true_eq] at this
     omega
    rw [this]; simp
   ·simp
  have hold : ((es.filter fun e => !seen.contains e.born).filter fun e => decide (e.born < since)) = es.filter fun e => !seen.contains e.born := by
   rw [Array.filter_eq_self]
   intro e he
   have := (Array.mem_filter.1 he).1
   exact decide_eq_true (hborn e (by simpa using this)).1
  have hnew : ((es.filter fun e => !seen.contains e.born).filter fun e => decide (e.born ≥ since)) = #[] := by
   rw [Array.filter_eq_empty_iff]
   intro e he
   have := (Array.mem_filter.1 he).1
   have := (hborn e (by simpa using this)).1
   simp only [ge_iff_le, decide_eq_true_eq]; omega
  generalize hleft : (es.filter fun e => !seen.contains e.born) = left at hold hnew
  have hrun : ∀ (rest : Sem Value) , (Instr.next (.pointer (some ⟨b, 0, none⟩)) false ty).run P w = ((choose (.mapNext (((if left.isEmpty then #[none] else #[]) ++ left.map some).size))).run P w).andThen fun i w => (Sem.run P (match ((if left.isEmpty then #[none] else #[]) ++ left.map some)[i]? with
    | some (some e) => do setObj b (.mapIter (some m) since (seen.push e.born) clock); pure (.tuple #[.bool true, e.key, e.val])
    | some none => pure (.tuple #[.bool false])
    | none => stuck "Next: no such candidate" : Sem Value) w) := by
   intro _
   simp only [Instr.next, Sem.run_bind, hgi, Result.andThen_ok, hgm, hmark, Bool.false_eq_true, if_false, hleft, hold, hnew, Array.append_empty, Sem.run_pure]
   rfl
  rw [hrun (pure undef)]
  by_cases hemp : left = #[]
  ·subst hemp
   simp only [Array.isEmpty_empty, if_true, Array.map_empty, Array.append_empty]
   refine ⟨_, w, H, ?_, hw, hover fun e he => ?_⟩
   ·simp [choose, Sem.run, Question.forced]
   ·have := Array.filter_eq_empty_iff.1 hleft e (by simpa using he)
    simpa using this
  ·have hne : left.isEmpty = false := by simpa using hemp
   have hpos : 0 < left.size := Array.size_pos_iff.2 hemp
   simp only [hne, Bool.false_eq_true, if_false, Array.empty_append, Array.size_map]
   obtain ⟨i, w1, hc, hi, hw1⟩ := run_choose_next (P := P) (w := w) left.size hpos
   rw [hc]
   simp only [Result.andThen_ok]
   have hget : (left.map some)[i]? = some (some left[i]) := by simp [hi]
   simp only [hget]
   have hmem : left[i] ∈ es.filter fun e => !seen.contains e.born := by rw [hleft]; exact Array.getElem_mem hi
   obtain ⟨he1, he2⟩ := Array.mem_filter.1 hmem
   obtain ⟨H', hu, hk⟩ := hnext left[i] (by simpa using he1) (by simpa using he2)
   have ho1 : Own g H w1 := by rcases hw1 with rfl | rfl; exact hw; exact hw.drew
   obtain ⟨w2, hs, ho2⟩ := run_setObj_iter (P := P) ho1 hu
   exact ⟨_, w2, H', by simp [hs], ho2, hk⟩
end
end Go.Sx
namespace Go.Sx
open Go
section
variable {P : Program} {g : Gh} {H : Hp} {K : Value → Hp → Prop} {KP : List PanicEntry → Hp → Prop}
def NilV (x : Value) : Option Value :=
 match x with
 | .pointer (some a) => some (.pointer (some a))
 | .func (.func f) a b => some (.func (.func f) a b)
 | .iface t v => some (.iface t v)
 | _ => none
def Nil (x : Value) (k : Value → Prop) : Prop := ∃ v, NilV x = some v ∧ k v
def PMk (fn : Fn) (a b : List Value) (k : Value → Prop) : Prop := k (.func fn a.toArray b.toArray)
def Build (P : Program) (t : TypeId) (parts : List (Nat × Value)) (k : Value → Prop) : Prop := ∃ v, (∀ w, (Instr.build t parts.toArray).run P w = .ok v w) ∧ k v
def RunP (P : Program) (g : Gh) (o : Oper) (ρ : Operand → Value) (H : Hp) (k : Value → Prop) : Prop :=
 ∃ v, (∀ w, Own g H w → (execOp ρ o).run P w = .ok (.value v) w) ∧ k v
def sizeD (P : Program) (t : TypeId) : Option Nat := match P.info? t with | some i => some i.size | none => none
def zeroD (P : Program) (t : TypeId) : Option Value := match P.info? t with | some i => i.zero | none => none
def bytesD (P : Program) (t : TypeId) : Option Nat := match P.info? t with | some i => some i.bytes | none => none
def opP (P : Program) (g : Gh) (o : Oper) (ρ : Operand → Value) (H : Hp) (k : Value → Prop) : Prop :=
 match o.op with
 | .move x => k (ρ x)
 | .assign x => k (ρ x)
 | .pick c a b => Pick (ρ c) (ρ a) (ρ b) k
 | .load t a =>
  match P.underlying t, sizeD P t with
  | some d, some n => cond (isAggD d) (LdA n H (ρ a) k) (Ld H (ρ a) k)
  | _, _ => False
 | .nilCheck x => Nil (ρ x) k
 | .binOp op t x y _ =>
  match P.underlying t with
  | some d => match bkOf d with
   | .other => RunP P g o ρ H k
   | bk => Bin bk op (ρ x) (ρ y) k
  | none => False
 | .unOp op _ x => Un op (ρ x) k
 | .convert s d x =>
  match P.underlying s, P.underlying d with
  | some _, some (.int kd) => ConvI kd (ρ x) k
  | some (.slice e), some .string => match P.underlying e with
   | some (.int .u8) => BytesS H (ρ x) k
   | _ => RunP P g o ρ H k
  | _, _ => RunP P g o ρ H k
 | .index t x i =>
  match P.underlying t with
  | some .string => StrIx (ρ x) (ρ i) k
  | _ => RunP P g o ρ H k
 | .fieldAddr s x f =>
  match P.underlying s with
  | some (.struct fs) => match fs[f]? with
   | some fl => match sizeD P fl.type with
    | some (_ + 1) => FAddr fl.offset (ρ x) k
    | _ => False
   | none => False
  | _ => False
 | .field s x f =>
  match P.underlying s with
  | some (.struct fs) => match fs[f]? with
   | some fl => match P.underlying fl.type, sizeD P fl.type with
    | some d, some n => cond (isAggD d) (FldA fl.offset n (ρ x) k) (Fld fl.offset (ρ x) k)
    | _, _ => False
   | none => False
  | _ => False
 | .indexAddr t x i =>
  match P.underlying t with
  | some (.slice e) => match sizeD P e with
   | some n => IAddr n (ρ x) (ρ i) k
   | none => False
  | some (.array len e) => match sizeD P e with
   | some n => AAddr len n (ρ x) (ρ i) k
   | none => False
  | _ => False
 | .slice t x lo hi none =>
  match P.underlying t with
  | some (.slice e) => match sizeD P e with
   | some n => SliceE n (ρ x) (lo.map ρ) (hi.map ρ) k
   | none => False
  | _ => RunP P g o ρ H k
 | .extract t i => Ext i (ρ t) k
 | .lookup t m key ok =>
  match P.underlying t with
  | some (.map kt e) => match P.underlying kt, zeroD P e with
   | some kd, some z => cond (plainKey kd) (Look kd z ok H (ρ m) (ρ key) k) (cond (isAggD kd) (LookS P kt z ok H (ρ m) (ρ key) k) (RunP P g o ρ H k))
   | _, _ => False
  | _ => False
 | .makeFunc fn a b => PMk fn (a.toList.map ρ) (b.toList.map ρ) k
 | .build t parts => Build P t (parts.toList.map fun p => (p.1, ρ p.2)) k
 | .makeInterface t x =>
  match P.underlying t with
  | some (.interface _) => False
  | some _ => k (.iface t (ρ x))
  | none => False
 | .call c =>
  match c.callee with
  | .builtin .len =>
   match c.args.toList, c.argTypes.toList with
   | [x], [t] => match P.underlying t with
    | some (.slice _) => LenS (ρ x) k
    | some (.map _ _) => LenM H (ρ x) k
    | some .string => LenStr (ρ x) k
    | _ => RunP P g o ρ H k
   | _, _ => False
  | .builtin .max => match c.args.toList, c.argTypes.toList with
   | [x, y], [t, _] => match P.underlying t with
    | some (.int _) => MaxI (ρ x) (ρ y) k
    | _ => RunP P g o ρ H k
   | _, _ => RunP P g o ρ H k
  | .builtin .min => match c.args.toList, c.argTypes.toList with
   | [x, y], [t, _] => match P.underlying t with
    | some (.int _) => MinI (ρ x) (ρ y) k
    | _ => RunP P g o ρ H k
   | _, _ => RunP P g o ρ H k
  | .builtin _ => RunP P g o ρ H k
  | _ => False
 | _ => RunP P g o ρ H k
theorem mapList {α β : Type} (f : α → β) (a : Array α) : (a.toList.map f).toArray = a.map f := by rw [← Array.toList_map, Array.toArray_toList]
theorem arr1 {α : Type} {a : Array α} {x : α} (h : a.toList = [x]) : a = #[x] := by cases a; simp_all
theorem arr2 {α : Type} {a : Array α} {x y : α} (h : a.toList = [x, y]) : a = #[x, y] := by cases a; simp_all
theorem Ld.fix {p : Value} {k : Value → Prop} (h : Ld H p k) : ∃ v, k v ∧ Ld H p (· = v) := by
 obtain ⟨b, off, c, T, fz, v, h1, h2, h3, hk⟩ := h; exact ⟨v, hk, b, off, c, T, fz, v, h1, h2, h3, rfl⟩
theorem LdA.fix {n : Nat} {p : Value} {k : Value → Prop} (h : LdA n H p k) : ∃ v, k v ∧ LdA n H p (· = v) := by
 obtain ⟨b, off, c, T, fz, h1, h2, h3, hk⟩ := h; exact ⟨_, hk, b, off, c, T, fz, h1, h2, h3, rfl⟩
theorem Look.fix {kd : TypeDesc} {zero : Value} {ok : Bool} {m key : Value} {k : Value → Prop} (h : Look kd zero ok H m key k) : ∃ v, k v ∧ Look kd zero ok H m key (· = v) := by
 obtain ⟨es, r, h1, h2, hk⟩ := h; exact ⟨_, hk, es, r, h1, h2, rfl⟩
theorem LenM.fix {x : Value} {k : Value → Prop} (h : LenM H x k) : ∃ v, k v ∧ LenM H x (· = v) := by
 obtain ⟨m, h1, ⟨h2, hk⟩ | ⟨b, es, clock, h2, h3, hk⟩⟩ := h
 ·exact ⟨_, hk, m, h1, .inl ⟨h2, rfl⟩⟩
 ·exact ⟨_, hk, m, h1, .inr ⟨b, es, clock, h2, h3, rfl⟩⟩
theorem LookS.fix {kt : TypeId} {zero : Value} {ok : Bool} {m key : Value} {k : Value → Prop} (h : LookS P kt zero ok H m key k) : ∃ v, k v ∧ LookS P kt zero ok H m key (· = v) := by
 obtain ⟨es, r, h1, h2, h3, hk⟩ := h; exact ⟨_, hk, es, r, h1, h2, h3, rfl⟩
theorem bytes_loop {F : Value → ByteArray → Sem (ForInStep ByteArray)} (hF : ∀ (b : UInt8) s, F (.int .u8 b.toNat) s = pure (.yield (s.push b))) {l : List UInt8} (s : ByteArray) (w : World) :
  (forIn (l.map fun b => Value.int .u8 b.toNat) s F).run P w = .ok (⟨s.data ++ l.toArray⟩ : ByteArray) w := by
 induction l generalizing s with
 | nil => simp
 | cons b r ih =>
  simp only [List.map_cons, List.forIn_cons, hF, Sem.run_bind, Sem.run_pure, Result.andThen_ok]
  rw [ih]
  congr 1
  simp [ByteArray.push]
theorem BytesS.run {x : Value} {k : Value → Prop} (h : BytesS H x k) {w : World} (hw : Own g H w) : ∃ v, (Conv.bytesToString x).run P w = .ok v w ∧ k v := by
 obtain ⟨base, n, c, bs, rfl, hc, hn, hk⟩ := h
 refine ⟨_, ?_, hk⟩
 cases base with
 | none =>
  simp only [Cells] at hc
  have : bs = [] := by simpa using congrArg Array.size hc
  subst this; rfl
 | some a =>
  have := Cells.run (P := P) (size := 1) (cap := c) hw (by rw [Nat.mul_one]; exact hc)
  simp only [Builtin.firstCells, Nat.mul_one] at this
  simp only [Conv.bytesToString, Sem.run_bind, this, Result.andThen_ok]
  rw [List.forIn_toArray, bytes_loop (P := P) (l := bs) (fun b s => by simp)]
  have e : ByteArray.empty.data = #[] := rfl
  simp [e]
theorem BytesS.fix {x : Value} {k : Value → Prop} (h : BytesS H x k) : ∃ v, k v ∧ BytesS H x (· = v) := by
 obtain ⟨base, n, c, bs, h1, h2, h3, hk⟩ := h; exact ⟨_, hk, base, n, c, bs, h1, h2, h3, rfl⟩
def Reads (P : Program) (g : Gh) (o : Oper) (ρ : Operand → Value) (H : Hp) (k : Value → Prop) : Prop :=
 ∃ v, k v ∧ ∀ w, Own g H w → (execOp ρ o).run P w = .ok (.value v) w
theorem Reads.mk {o : Oper} {ρ : Operand → Value} {k : Value → Prop} {s : Sem Value} (he : execOp ρ o = (do pure (.value (← s)))) (h : ∃ v, k v ∧ ∀ w, Own g H w → s.run P w = .ok v w) : Reads P g o ρ H k := by
 obtain ⟨v, hk, hr⟩ := h
 refine ⟨v, hk, fun w hw => ?_⟩
 rw [he]
 simp only [Sem.run_bind, hr w hw, Result.andThen_ok, Sem.run_pure]
theorem RunP.reads {o : Oper} {ρ : Operand → Value} {k : Value → Prop} (h : RunP P g o ρ H k) : Reads P g o ρ H k := let ⟨v, h1, h2⟩ := h; ⟨v, h2, h1⟩
theorem uni {s : Sem Value} {k : Value → Prop} {C : (Value → Prop) → Prop} (hfix : ∃ v, k v ∧ C (· = v)) (hrun : ∀ (k : Value → Prop), C k → ∀ w, Own g H w → ∃ v, s.run P w = .ok v w ∧ k v) :
  ∃ v, k v ∧ ∀ w, Own g H w → s.run P w = .ok v w := by
 obtain ⟨v, hk, hc⟩ := hfix
 refine ⟨v, hk, fun w hw => ?_⟩
 obtain ⟨u, hr, rfl⟩ := hrun _ hc w hw
 exact hr
theorem sizeD_spec {t : TypeId} {n : Nat} (h : sizeD P t = some n) : ∃ i, P.info? t = some i ∧ i.size = n := by
 unfold sizeD at h
 split at h
 ·rename_i i hi; exact ⟨i, hi, by simpa using h⟩
 ·simp at h
theorem zeroD_spec {t : TypeId} {z : Value} (h : zeroD P t = some z) : ∃ i, P.info? t = some i ∧ i.zero = some z := by
 unfold zeroD at h
 split at h
 ·rename_i i hi; exact ⟨i, hi, by simpa using h⟩
 ·simp at h
theorem opP_reads {o : Oper} {ρ : Operand → Value} {k : Value → Prop} (h : opP P g o ρ H k) : Reads P g o ρ H k := by
 obtain ⟨dst, op, type, pos, after, guard⟩ := o
 cases op <;> simp only [opP] at h
 case move x => exact ⟨_, h, fun w _ => rfl⟩
 case assign x => exact ⟨_, h, fun w _ => rfl⟩
 case pick c a b =>
  obtain ⟨t, hc, hk⟩ := h
  refine ⟨_, hk, fun w _ => ?_⟩
  cases t <;> simp [execOp, hc, asBool]
 case load t a =>
  split at h
  ·rename_i d n hd hn
   obtain ⟨i, hi, hin⟩ := sizeD_spec hn
   refine Reads.mk (s := Instr.loadAt t (ρ a)) rfl ?_
   cases ha : isAggD d <;> simp only [ha, cond_true, cond_false] at h
   ·exact uni h.fix fun k hk w hw => hk.run hw hd ha
   ·exact uni h.fix fun k hk w hw => hk.run hw hd ha hi hin
  ·exact h.elim
 case nilCheck x =>
  obtain ⟨v, hv, hk⟩ := h
  refine ⟨v, hk, fun w _ => ?_⟩
  unfold NilV at hv
  simp only [execOp]
  split at hv <;> simp only [Option.some.injEq, reduceCtorEq] at hv <;> subst hv <;> simp_all
 case binOp op t x y yt =>
  split at h
  ·rename_i d hd
   split at h
   ·exact h.reads
   ·rename_i hbk
    refine Reads.mk (s := do eqGuard op t x y (ρ x) (ρ y); binOp op t (ρ x) (ρ y)) rfl ?_
    obtain ⟨v, hv, hk⟩ := h
    exact ⟨v, hk, fun w _ => by
     obtain ⟨u, hr, rfl⟩ := Bin.run (P := P) (k := (· = v)) ⟨v, hv, rfl⟩ w (ox := x) (oy := y) hd rfl
     exact hr⟩
  ·exact h.elim
 case unOp op t x =>
  obtain ⟨v, hv, hk⟩ := h
  refine Reads.mk (s := Op.unary op (ρ x)) rfl ⟨v, hk, fun w _ => ?_⟩
  obtain ⟨u, hr, rfl⟩ := Un.run (P := P) (k := (· = v)) ⟨v, hv, rfl⟩ w
  exact hr
 case convert s d x =>
  split at h
  ·rename_i ds kd hs hd
   obtain ⟨j, n, hx, hk⟩ := h
   refine Reads.mk (s := Go.convert s d (ρ x)) rfl ⟨_, hk, fun w _ => ?_⟩
   obtain ⟨u, hr, rfl⟩ := ConvI.run (P := P) (kd := kd) (k := (· = _)) ⟨j, n, hx, rfl⟩ w hs hd rfl
   exact hr
  ·rename_i e hs hd
   split at h
   ·rename_i he
    refine Reads.mk (s := Go.convert s d (ρ x)) rfl ?_
    have : ∀ w, (Go.convert s d (ρ x)).run P w = (Conv.bytesToString (ρ x)).run P w := fun w => by
     obtain ⟨base, n, c, bs, hx, _⟩ := h
     simp only [Go.convert, Sem.run_bind, run_underlying hs, run_underlying hd, Result.andThen_ok, hx, run_underlying he]
    simp only [this]
    exact uni h.fix fun k hk w hw => hk.run hw
   ·exact h.reads
  ·exact h.reads
 case index t x i =>
  split at h
  ·rename_i ht
   obtain ⟨s, kd, j, b, hx, hi, h0, hb, hk⟩ := h
   refine Reads.mk (s := Instr.index t (ρ x) (ρ i)) rfl ⟨_, hk, fun w _ => ?_⟩
   simp [Instr.index, run_underlying ht, hx, hi, asIntOf, h0, hb]
  ·exact h.reads
 case fieldAddr s x f =>
  split at h <;> try exact h.elim
  rename_i fs hs
  split at h <;> try exact h.elim
  rename_i fl hf
  split at h <;> try exact h.elim
  rename_i m hm
  obtain ⟨i, hi, hin⟩ := sizeD_spec hm
  obtain ⟨b, o, hx, hk⟩ := h
  refine Reads.mk (s := Instr.fieldAt s (ρ x) f) rfl ⟨_, hk, fun w _ => ?_⟩
  obtain ⟨u, hr, rfl⟩ := FAddr.run (P := P) (k := (· = _)) ⟨b, o, hx, rfl⟩ w hs hf hi (by omega) rfl
  exact hr
 case field s x f =>
  split at h <;> try exact h.elim
  rename_i fs hs
  split at h <;> try exact h.elim
  rename_i fl hf
  split at h <;> try exact h.elim
  rename_i d n hd hn
  obtain ⟨i, hi, hin⟩ := sizeD_spec hn
  refine Reads.mk (s := Instr.field s (ρ x) f) rfl ?_
  cases ha : isAggD d <;> simp only [ha, cond_true, cond_false] at h
  ·obtain ⟨cs, v, hx, hv, hk⟩ := h
   refine ⟨v, hk, fun w _ => ?_⟩
   obtain ⟨u, hr, rfl⟩ := Fld.run (P := P) (k := (· = v)) ⟨cs, v, hx, hv, rfl⟩ w hs hf hd ha rfl
   exact hr
  ·obtain ⟨cs, hx, hk⟩ := h
   refine ⟨_, hk, fun w _ => ?_⟩
   obtain ⟨u, hr, rfl⟩ := FldA.run (P := P) (k := (· = _)) ⟨cs, hx, rfl⟩ w hs hf hd ha hi hin rfl
   exact hr
 case indexAddr t x ix =>
  refine Reads.mk (s := Instr.indexAt t (ρ x) (ρ ix)) rfl ?_
  split at h
  ·rename_i e ht
   split at h <;> try exact h.elim
   rename_i n hn
   obtain ⟨i, hi, hin⟩ := sizeD_spec hn
   obtain ⟨b, o, n', c, kd, j, hx, hix, h0, h1, hk⟩ := h
   refine ⟨_, hk, fun w _ => ?_⟩
   obtain ⟨u, hr, rfl⟩ := IAddr.run (P := P) (k := (· = _)) ⟨b, o, n', c, kd, j, hx, hix, h0, h1, rfl⟩ w ht hi hin
   exact hr
  ·rename_i len e ht
   split at h <;> try exact h.elim
   rename_i n hn
   obtain ⟨i, hi, hin⟩ := sizeD_spec hn
   obtain ⟨b, o, kd, j, hx, hix, h0, h1, hk⟩ := h
   refine ⟨_, hk, fun w _ => ?_⟩
   obtain ⟨u, hr, rfl⟩ := AAddr.run (P := P) (k := (· = _)) ⟨b, o, kd, j, hx, hix, h0, h1, rfl⟩ w ht hi hin
   exact hr
  ·exact h.elim
 case slice t x lo hi mx =>
  cases mx with
  | some m => simp only at h; exact h.reads
  | none =>
   simp only at h
   split at h
   ·rename_i e ht
    split at h <;> try exact h.elim
    rename_i n hn
    obtain ⟨i, hi', hin⟩ := sizeD_spec hn
    obtain ⟨a, n', c, l, hh, hx, hl, hh', h0, h1, h2, hk⟩ := h
    refine Reads.mk (s := Instr.sliceAt t (ρ x) (lo.map ρ) (hi.map ρ) none) rfl ⟨_, hk, fun w _ => ?_⟩
    obtain ⟨u, hr, rfl⟩ := SliceE.run (P := P) (k := (· = _)) ⟨a, n', c, l, hh, hx, hl, hh', h0, h1, h2, rfl⟩ w ht hi' hin
    exact hr
   ·exact h.reads
 case extract t i =>
  obtain ⟨vs, v, hx, hv, hk⟩ := h
  refine Reads.mk (s := Instr.extract (ρ t) i) rfl ⟨v, hk, fun w _ => ?_⟩
  obtain ⟨u, hr, rfl⟩ := Ext.run (P := P) (k := (· = v)) ⟨vs, v, hx, hv, rfl⟩ w
  exact hr
 case lookup t m key ok =>
  split at h <;> try exact h.elim
  rename_i kt e ht
  split at h <;> try exact h.elim
  rename_i kd z hkt hz
  obtain ⟨i, hi, hiz⟩ := zeroD_spec hz
  cases hp : plainKey kd <;> simp only [hp, cond_true, cond_false] at h
  ·cases hp2 : isAggD kd <;> simp only [hp2, cond_true, cond_false] at h
   ·exact h.reads
   ·exact Reads.mk (s := Instr.lookup t (ρ m) (ρ key) ok) rfl (uni h.fix fun k hk w hw => hk.run hw ht hkt hp2 hi hiz)
  ·exact Reads.mk (s := Instr.lookup t (ρ m) (ρ key) ok) rfl (uni h.fix fun k hk w hw => hk.run hw ht hkt hp hi hiz)
 case makeFunc fn a b =>
  refine ⟨_, h, fun w _ => ?_⟩
  simp [execOp, Instr.makeFunc, mapList]
 case build t parts =>
  obtain ⟨v, hr, hk⟩ := h
  refine Reads.mk (s := Instr.build t (parts.map fun (i, x) => (i, ρ x))) rfl ⟨v, hk, fun w _ => ?_⟩
  have := hr w
  rw [mapList (fun p : Nat × Operand => (p.1, ρ p.2)) parts] at this
  exact this
 case makeInterface t x =>
  split at h
  ·exact h.elim
  ·rename_i d hnot hd
   refine Reads.mk (s := Instr.makeInterface t (ρ x)) rfl ⟨_, h, fun w _ => ?_⟩
   simp only [Instr.makeInterface, Sem.run_bind, run_underlying hd, Result.andThen_ok]
   cases d <;> first | rfl | exact absurd hd (hnot _)
  ·exact h.elim
 case call c =>
  obtain ⟨callee, args, argTypes⟩ := c
  cases callee with
  | value f => simp only at h
  | invoke r m => simp only at h
  | builtin b =>
   cases b <;> simp only at h <;> try exact h.reads
   case max =>
    split at h <;> try exact h.reads
    rename_i x y t t' hx ht
    split at h <;> try exact h.reads
    have hx := arr2 hx
    have ht := arr2 ht
    subst hx; subst ht
    obtain ⟨kd, a, b, h1, h2, hk⟩ := h
    refine Reads.mk (s := Builtin.max_ #[t, t'] type #[ρ x, ρ y]) (by simp [execOp, resolve, invoke, builtin, bind, Sem.bind]; rfl) ⟨_, hk, fun w _ => ?_⟩
    simp [Builtin.max_, Builtin.max2, h1, h2]
   case min =>
    split at h <;> try exact h.reads
    rename_i x y t t' hx ht
    split at h <;> try exact h.reads
    have hx := arr2 hx
    have ht := arr2 ht
    subst hx; subst ht
    obtain ⟨kd, a, b, h1, h2, hk⟩ := h
    refine Reads.mk (s := Builtin.min_ #[t, t'] type #[ρ x, ρ y]) (by simp [execOp, resolve, invoke, builtin, bind, Sem.bind]; rfl) ⟨_, hk, fun w _ => ?_⟩
    simp [Builtin.min_, Builtin.min2, h1, h2]
   split at h <;> try exact h.elim
   rename_i x t hx ht
   have hx := arr1 hx
   have ht := arr1 ht
   subst hx; subst ht
   split at h
   ·rename_i e hd
    refine Reads.mk (s := Builtin.len_ #[t] type #[ρ x]) (by simp [execOp, resolve, invoke, builtin, bind, Sem.bind]; rfl) ?_
    obtain ⟨a, n, c, hx, hk⟩ := h
    refine ⟨_, hk, fun w _ => ?_⟩
    obtain ⟨u, hr, rfl⟩ := LenS.run (P := P) (k := (· = _)) ⟨a, n, c, hx, rfl⟩ w (ty := type) hd
    exact hr
   ·rename_i e e' hd
    refine Reads.mk (s := Builtin.len_ #[t] type #[ρ x]) (by simp [execOp, resolve, invoke, builtin, bind, Sem.bind]; rfl) ?_
    exact uni h.fix fun k hk w hw => hk.run hw hd
   ·rename_i hd
    refine Reads.mk (s := Builtin.len_ #[t] type #[ρ x]) (by simp [execOp, resolve, invoke, builtin, bind, Sem.bind]; rfl) ?_
    obtain ⟨s, hx, hk⟩ := h
    exact ⟨_, hk, fun w _ => by simp [Builtin.len_, run_underlying hd, hx, goInt]⟩
   ·exact h.reads
 all_goals exact h.reads
def valOf (o : Oper) (ρ : Operand → Value) (v : Value) : Prop :=
 match o.op with
 | .move x => v = ρ x
 | .assign x => v = ρ x
 | .pick c a b => ∀ t, ρ c = .bool t → v = cond t (ρ a) (ρ b)
 | _ => True
theorem opP_val {o : Oper} {ρ : Operand → Value} {k : Value → Prop} (h : opP P g o ρ H k) : ∃ v, k v ∧ (∀ w, Own g H w → (execOp ρ o).run P w = .ok (.value v) w) ∧ valOf o ρ v := by
 obtain ⟨dst, op, type, pos, after, guard⟩ := o
 cases op
 case move x => exact ⟨_, h, fun w _ => rfl, rfl⟩
 case assign x => exact ⟨_, h, fun w _ => rfl, rfl⟩
 case pick c a b =>
  obtain ⟨t, hc, hk⟩ := h
  refine ⟨_, hk, fun w _ => ?_, fun t' ht' => ?_⟩
  ·cases t <;> simp [execOp, hc, asBool]
  ·rw [hc] at ht'; simp only [Value.bool.injEq] at ht'; subst ht'; rfl
 all_goals
  obtain ⟨v, hk, hr⟩ := opP_reads h
  exact ⟨v, hk, hr, trivial⟩
end
end Go.Sx
namespace Go.Sx
open Go
section
variable {P : Program} {g : Gh} {H : Hp} {K : Value → Hp → Prop} {KP : List PanicEntry → Hp → Prop}
def BuildSl (P : Program) (t len : Nat) (parts : List (Nat × Value)) (H : Hp) (k : Value → Hp → Prop) : Prop :=
 ∃ cs, (∃ e n z, P.underlying t = some (.slice e) ∧ sizeD P e = some n ∧ zeroD P e = some z ∧ len * n ≤ 2 ^ 24 ∧
   Instr.fill (fun i => some (i * n, n)) ((Array.range (len * n)).map (z.cells[· % z.cells.size]!)) parts = some cs ∧
   New H (.cells cs e (0, 0)) fun b H' => k (.slice (some ⟨b, 0, none⟩) len len) H')
def opE (P : Program) (g : Gh) (o : Oper) (ρ : Operand → Value) (H : Hp) (K : Value → Hp → Prop) (KP : List PanicEntry → Hp → Prop) : Prop :=
 match o.op with
 | .alloc t => match zeroD P t with
  | some z => New H (.cells z.cells t (0, 0)) fun b H' => K (.pointer (some ⟨b, 0, none⟩)) H'
  | none => False
 | .box t x => New H (.cells (ρ x).cells t (0, 0)) fun b H' => K (.pointer (some ⟨b, 0, none⟩)) H'
 | .store t a x => match sizeD P t with
  | some n => St n H (ρ a) (ρ x) fun H' => K undef H'
  | none => False
 | .buildSlice t len parts => BuildSl P t len (parts.toList.map fun p => (p.1, ρ p.2)) H K
 | .makeMap _ none => MkMap H K
 | .makeSlice t l c => match P.underlying t with
  | some (.slice e) => match sizeD P e, bytesD P e, zeroD P e with
   | some n, some b, some z => MkSlice e n b z H (ρ l) (ρ c) K
   | _, _, _ => False
  | _ => False
 | .mapUpdate t m key x => match P.underlying t with
  | some (.map kt _) => match P.underlying kt with
   | some kd => cond (plainKey kd) (MapUpd kd H (ρ m) (ρ key) (ρ x) fun H' => K undef H') (cond (isAggD kd) (MapUpdS P kt H (ρ m) (ρ key) (ρ x) fun H' => K undef H') (Op1 P g o ρ H K KP))
   | none => False
  | _ => False
 | .range t x => match P.underlying t with
  | some (.map _ _) => Rng H (ρ x) K
  | _ => Op1 P g o ρ H K KP
 | .next it false => Nxt H (ρ it) K
 | .entry it => Entr H (ρ it) fun v => K v H
 | .call c =>
  match c.callee with
  | .value (.func f) => cond (callable P f) (CallF P g f (c.args.toList.map ρ).toArray H K KP) (Op1 P g o ρ H K KP)
  | .value f => CallV P g (ρ f) (c.args.toList.map ρ).toArray H K KP
  | .builtin .append =>
   match c.args.toList, c.argTypes.toList with
   | [s, x], [t, t'] => match P.underlying t, P.underlying t' with
    | some (.slice e), some (.slice _) => match sizeD P e, bytesD P e, zeroD P e with
     | some n, some b, some z => App P e n b z H (ρ s) (ρ x) K
     | _, _, _ => False
    | _, _ => Op1 P g o ρ H K KP
   | _, _ => False
  | .builtin .delete =>
   match c.args.toList, c.argTypes.toList with
   | [m, key], [t, _] => match P.underlying t with
    | some (.map kt _) => match P.underlying kt with
     | some kd => cond (plainKey kd) (MapDel kd H (ρ m) (ρ key) fun H' => K (.tuple #[]) H') (cond (isAggD kd) (MapDelS P kt H (ρ m) (ρ key) fun H' => K (.tuple #[]) H') (Op1 P g o ρ H K KP))
     | none => False
    | _ => False
   | _, _ => Op1 P g o ρ H K KP
  | _ => Op1 P g o ρ H K KP
 | _ => Op1 P g o ρ H K KP
theorem bytesD_spec {t : TypeId} {n : Nat} (h : bytesD P t = some n) : ∃ i, P.info? t = some i ∧ i.bytes = n := by
 unfold bytesD at h
 split at h
 ·rename_i i hi; exact ⟨i, hi, by simpa using h⟩
 ·simp at h
theorem Op1.ofValue {o : Oper} {ρ : Operand → Value} {s : Sem Value} (he : execOp ρ o = (do pure (.value (← s)))) (h : ∀ w, Own g H w → ∃ v w' H', s.run P w = .ok v w' ∧ Own g H' w' ∧ K v H') : Op1 P g o ρ H K KP := by
 intro w hw
 obtain ⟨v, w', H', hr, ho, hk⟩ := h w hw
 rw [he]
 simp only [Sem.run_bind, hr, Result.andThen_ok, Sem.run_pure]
 exact ⟨H', ho, hk⟩
theorem Op1.ofUnit {o : Oper} {ρ : Operand → Value} {s : Sem Unit} (he : execOp ρ o = (do s; pure .skip)) (h : ∀ w, Own g H w → ∃ w' H', s.run P w = .ok () w' ∧ Own g H' w' ∧ K undef H') : Op1 P g o ρ H K KP := by
 intro w hw
 obtain ⟨w', H', hr, ho, hk⟩ := h w hw
 rw [he]
 simp only [Sem.run_bind, hr, Result.andThen_ok, Sem.run_pure]
 exact ⟨H', ho, hk⟩
theorem callable_run {f : FuncId} (h : callable P f = true) (args : Array Value) (w : World) : (callFunc f args).run P w = .ok (.enter f args) w := by
 unfold callable at h
 split at h
 ·simp at h
 ·rename_i fn hf
  simp only [Bool.and_eq_true, Bool.not_eq_true'] at h
  obtain ⟨h1, h2⟩ := h
  have h3 : fn.body.isNone = false := by cases hb : fn.body <;> simp_all
  simp only [callFunc, Sem.run_bind, run_program, Result.andThen_ok, hf, show (fn.name == "runtime.NumGoroutine") = false from h1, h3, Bool.false_eq_true, if_false]
  rfl
theorem CallV.op {o : Oper} {c : Call} {ρ : Operand → Value} {x : Operand} (ho : o.op = .call c) (hc : c.callee = .value x) (h : CallV P g (ρ x) (c.args.toList.map ρ).toArray H K KP) : Op1 P g o ρ H K KP := by
 obtain ⟨f, first, captured, hf, hcl, hcall⟩ := h
 rw [mapList] at hcall
 intro w hw
 have hr : (execOp ρ o).run P w = .ok (.enter f (first ++ c.args.map ρ ++ captured)) w := by
  simp only [execOp, ho, resolve, hc, Deferred.ofValue, hf, invoke]
  show (callFunc f (first ++ c.args.map ρ ++ captured)).run P w = _
  exact callable_run hcl _ w
 rw [hr]
 exact hcall w hw
theorem opE_op {o : Oper} {ρ : Operand → Value} (hρ : ∀ f, ρ (.func f) = .func (.func f) #[] #[]) (h : opE P g o ρ H K KP) : Op1 P g o ρ H K KP := by
 unfold opE at h
 split at h
 case h_1 t hop =>
  split at h
  ·rename_i z hz
   obtain ⟨i, hi, hiz⟩ := zeroD_spec hz
   refine Op1.ofValue (s := Instr.alloc t true (.tuple #[])) (by simp only [execOp, hop]) fun w hw => ⟨_, _, _, ?_, hw.alloc _, h _ hw.fresh⟩
   simp [Instr.alloc, run_zero hi hiz, newVar, newRow]
  ·exact h.elim
 case h_2 t x hop =>
  refine Op1.ofValue (s := Instr.box t (ρ x)) (by simp only [execOp, hop]) fun w hw => ⟨_, _, _, ?_, hw.alloc _, h _ hw.fresh⟩
  simp [Instr.box, newVar, newRow]
 case h_3 t a x hop =>
  split at h
  ·rename_i n hn
   obtain ⟨i, hi, hin⟩ := sizeD_spec hn
   exact Op1.ofUnit (s := Instr.storeAt t (ρ a) (ρ x)) (by simp only [execOp, hop]) fun w hw => h.run hw hi hin
  ·exact h.elim
 case h_4 t len parts hop =>
  obtain ⟨cs, e, n, z, ht, hn, hz, hl, hf, hk⟩ := h
  obtain ⟨i, hi, hin⟩ := sizeD_spec hn
  obtain ⟨i', hi', hiz⟩ := zeroD_spec hz
  have : i' = i := Option.some.inj (hi'.symm.trans hi)
  subst this
  subst hin
  refine Op1.ofValue (s := Instr.buildSlice t len (parts.map fun (i, x) => (i, ρ x))) (by simp only [execOp, hop]) fun w hw => ⟨_, _, _, ?_, hw.alloc _, hk _ hw.fresh⟩
  have hl' : ¬ (len * i'.size > 2 ^ 24) := by omega
  have hpl : (parts.map fun (x : Nat × Operand) => (x.1, ρ x.2)).toList = parts.toList.map fun p => (p.1, ρ p.2) := by rw [Array.toList_map]
  by_cases h0 : len * i'.size = 0
  ·simp only [Instr.buildSlice, Sem.run_bind, run_underlying ht, Result.andThen_ok, run_sizeOf hi, hl', if_false, h0, if_true, Sem.run_pure]
   rw [h0] at hf
   have hr0 : Array.range 0 = #[] := rfl
   simp only [hr0, Array.map_empty, List.map_toArray, List.map_nil] at hf ⊢
   rw [hpl, hf]
   simp [newRow]
  ·simp only [Instr.buildSlice, Sem.run_bind, run_underlying ht, Result.andThen_ok, run_sizeOf hi, hl', if_false, h0, run_zero hi hiz, Sem.run_pure]
   simp [hf, newRow]
 case h_5 t hop =>
  refine Op1.ofValue (s := Instr.makeMap t none) (by simp only [execOp, hop]; rfl) fun w hw => ⟨_, _, _, ?_, hw.alloc _, h _ hw.fresh⟩
  simp [Instr.makeMap]
 case h_6 t l c hop =>
  split at h <;> try exact h.elim
  rename_i e ht
  split at h <;> try exact h.elim
  rename_i n b z hn hb hz
  obtain ⟨i, hi, hin⟩ := sizeD_spec hn
  obtain ⟨i', hi', hiz⟩ := zeroD_spec hz
  obtain ⟨i2, hi2, hib⟩ := bytesD_spec hb
  have e1 : i' = i := Option.some.inj (hi'.symm.trans hi)
  have e2 : i2 = i := Option.some.inj (hi2.symm.trans hi)
  subst e1; subst e2
  exact Op1.ofValue (s := Instr.makeSlice t (ρ l) (ρ c)) (by simp only [execOp, hop]) fun w hw => h.run hw ht hi hiz hin hib
 case h_7 t m key x hop =>
  split at h <;> try exact h.elim
  rename_i kt e ht
  split at h <;> try exact h.elim
  rename_i kd hkt
  cases hp : plainKey kd <;> simp only [hp, cond_true, cond_false] at h
  ·cases hp2 : isAggD kd <;> simp only [hp2, cond_true, cond_false] at h
   ·exact h
   ·exact Op1.ofUnit (s := Instr.mapUpdate t (ρ m) (ρ key) (ρ x)) (by simp only [execOp, hop]) fun w hw => h.run hw ht hkt hp2
  ·exact Op1.ofUnit (s := Instr.mapUpdate t (ρ m) (ρ key) (ρ x)) (by simp only [execOp, hop]) fun w hw => h.run hw ht hkt hp
 case h_8 t x hop =>
  split at h
  ·rename_i kt e ht
   exact Op1.ofValue (s := Instr.range t (ρ x)) (by simp only [execOp, hop]) fun w hw => h.run hw ht
  ·exact h
 case h_9 it hop =>
  exact Op1.ofValue (s := Instr.next (ρ it) false o.type) (by simp only [execOp, hop]) fun w hw => h.run hw
 case h_10 it hop =>
  exact Op1.ofValue (s := Instr.entry (ρ it)) (by simp only [execOp, hop]) fun w hw => let ⟨v, hr, hk⟩ := h.run hw; ⟨v, w, H, hr, hw, hk⟩
 case h_11 c hop =>
  split at h
  ·rename_i f hc
   cases hcl : callable P f <;> simp only [hcl, cond_true, cond_false] at h
   ·exact h
   ·rw [mapList] at h
    intro w hw
    have hr : (execOp ρ o).run P w = .ok (.enter f (c.args.map ρ)) w := by
     simp only [execOp, hop, resolve, hc, Deferred.ofValue, hρ, invoke]
     show (callFunc f ((#[] ++ c.args.map ρ) ++ #[])).run P w = _
     rw [Array.empty_append, Array.append_empty]
     exact callable_run hcl _ w
    rw [hr]
    exact h w hw
  ·rename_i x _ hc
   exact CallV.op hop hc h
  ·rename_i hc
   split at h <;> try exact h.elim
   rename_i s x t t' hx ht
   have hx := arr2 hx
   have ht := arr2 ht
   split at h
   ·rename_i e e' hd hd'
    split at h <;> try exact h.elim
    rename_i n b z hn hb hz
    obtain ⟨i, hi, hin⟩ := sizeD_spec hn
    obtain ⟨i', hi', hiz⟩ := zeroD_spec hz
    obtain ⟨i2, hi2, hib⟩ := bytesD_spec hb
    have e1 : i' = i := Option.some.inj (hi'.symm.trans hi)
    have e2 : i2 = i := Option.some.inj (hi2.symm.trans hi)
    subst e1; subst e2
    refine Op1.ofValue (s := Builtin.append_ #[t, t'] o.type #[ρ s, ρ x]) ?_ fun w hw => h.run hw hd ⟨_, hd'⟩ hi hiz hin hib
    simp only [execOp, hop, resolve, hc, hx, ht, invoke, builtin]
    simp [bind, Sem.bind]; rfl
   ·exact h
  ·rename_i hc
   split at h
   ·rename_i m key t t' hx ht
    have hx := arr2 hx
    have ht := arr2 ht
    split at h <;> try exact h.elim
    rename_i kt e hd
    split at h <;> try exact h.elim
    rename_i kd hkt
    cases hp : plainKey kd <;> simp only [hp, cond_true, cond_false] at h
    ·cases hp2 : isAggD kd <;> simp only [hp2, cond_true, cond_false] at h
     ·exact h
     ·refine Op1.ofValue (s := Builtin.delete_ #[t, t'] o.type #[ρ m, ρ key]) ?_ fun w hw => ?_
      ·simp only [execOp, hop, resolve, hc, hx, ht, invoke, builtin]
       simp [bind, Sem.bind]; rfl
      ·obtain ⟨w', H', hr, ho, hk⟩ := h.run (P := P) hw (as := #[t, t']) (ty := o.type) rfl hd hkt hp2
       exact ⟨_, w', H', hr, ho, hk⟩
    ·refine Op1.ofValue (s := Builtin.delete_ #[t, t'] o.type #[ρ m, ρ key]) ?_ fun w hw => ?_
     ·simp only [execOp, hop, resolve, hc, hx, ht, invoke, builtin]
      simp [bind, Sem.bind]; rfl
     ·obtain ⟨w', H', hr, ho, hk⟩ := h.run (P := P) hw (as := #[t, t']) (ty := o.type) rfl hd hkt hp
      exact ⟨_, w', H', hr, ho, hk⟩
   ·exact h
  ·exact h
 all_goals exact h
end
end Go.Sx
namespace Go.Sx
open Go
section
variable {P : Program} {g : Gh} {ds : List Deferred}
def isP : Op → Bool
 | .move _ | .assign _ | .pick .. | .load .. | .nilCheck _ | .binOp .. | .unOp .. | .convert .. | .fieldAddr .. | .field .. | .indexAddr .. | .index .. | .slice .. | .extract .. | .lookup .. | .makeFunc .. | .build .. | .makeInterface ..
 | .typeAssert .. => true
 | .call c => match c.callee with
  | .builtin .len | .builtin .cap | .builtin .min | .builtin .max => true
  | _ => false
 | _ => false
def CallQ (P : Program) (g : Gh) (f : FuncId) (args : Array Value) (H : Hp) (k : Value → Prop) : Prop :=
 ∃ v, SCalls P g f args H (fun e H' => e = .returned v ∧ H' = H) ∧ k v
def opQ (P : Program) (g : Gh) (o : Oper) (ρ : Operand → Value) (H : Hp) (k : Value → Prop) : Prop :=
 match o.op with
 | .call c => match c.callee with
  | .value (.func f) => cond (callable P f) (CallQ P g f (c.args.toList.map ρ).toArray H k) False
  | .value x => ∃ f first captured, ρ x = .func (.func f) first captured ∧ callable P f = true ∧ CallQ P g f (first ++ (c.args.toList.map ρ).toArray ++ captured) H k
  | _ => False
 | _ => False
def sameGuard : Option (Nat × Bool) → Option (Nat × Bool) → Bool
 | none, none => true
 | some (i, a), some (j, b) => Nat.beq i j && (a == b)
 | _, _ => false
theorem sameGuard_eq {x y : Option (Nat × Bool)} (h : sameGuard x y = true) : x = y := by
 cases x with
 | none => cases y <;> simp_all [sameGuard]
 | some a =>
  obtain ⟨i, a⟩ := a
  cases y with
  | none => simp [sameGuard] at h
  | some b =>
   obtain ⟨j, b⟩ := b
   simp only [sameGuard, Bool.and_eq_true, beq_iff_eq] at h
   rw [Nat.eq_of_beq_eq_true h.1, h.2]
def takeG (cur : Option (Nat × Bool)) : List Oper → List Oper
 | [] => []
 | o :: r => cond (sameGuard o.guard cur) [] (o :: takeG cur r)
def dropG (cur : Option (Nat × Bool)) : List Oper → List Oper
 | [] => []
 | o :: r => cond (sameGuard o.guard cur) (o :: r) (dropG cur r)
theorem take_drop_G (cur : Option (Nat × Bool)) (l : List Oper) : takeG cur l ++ dropG cur l = l := by
 induction l with
 | nil => rfl
 | cons o r ih => simp only [takeG, dropG]; cases sameGuard o.guard cur <;> simp [ih]
def skipG : List Oper → Fr → Fr
 | [], fr => fr
 | o :: r, fr => skipG r (upd fr o.dst undef)
def inDsts : List Oper → Nat → Bool
 | [], _ => false
 | o :: r, s => (match o.dst with | some d => Nat.beq s d | none => false) || inDsts r s
def okDsts (n : Nat) : List Oper → Bool
 | [] => true
 | o :: r => okDst n o.dst && okDsts n r
def garb (G : List Oper) (gs fr : Fr) : Fr := fun s => cond (inDsts G s) (gs s) (fr s)
def pickOf (p : Oper) (fr : Fr) : Value :=
 match p.op with
 | .pick c a b => match ev fr c with
  | .bool t => cond t (ev fr a) (ev fr b)
  | _ => undef
 | _ => undef
def isPick (p : Oper) : Bool := match p.op with | .pick .. => true | _ => false
def slotOf (ops : Array Oper) (j : Nat) : Option Nat := match ops[j]? with | some oj => oj.dst | none => none
def skipOK (ops : Array Oper) (s : Nat) (want : Bool) : List Nat → List Oper → Bool
 | _, [] => true
 | seen, o :: r =>
  (match o.guard with
  | none => false
  | some (j, w) => match slotOf ops j with
   | none => false
   | some t => (Nat.beq t s && (w == want)) || seen.any (Nat.beq t)) &&
  skipOK ops s want (match o.dst with | some d => d :: seen | none => seen) r
def Grp (v : Value) (want : Bool) (inner els k : Bool → Prop) : Prop := ∃ a t : Bool, v = .bool a ∧ (a = want → inner t) ∧ (a = !want → els t) ∧ k t
def Split (v : Value) (want : Bool) (k1 k2 : Prop) : Prop := ∃ a : Bool, v = .bool a ∧ (a = want → k1) ∧ (a = !want → k2)
def knGet : List (Nat × Bool) → Nat → Option Bool
 | [], _ => none
 | (t, b) :: r, s => cond (Nat.beq t s) (some b) (knGet r s)
def knDel : List (Nat × Bool) → Option Nat → List (Nat × Bool)
 | kn, none => kn
 | [], some _ => []
 | (t, b) :: r, some d => cond (Nat.beq t d) (knDel r (some d)) ((t, b) :: knDel r (some d))
def knDels : List (Nat × Bool) → List Oper → List (Nat × Bool)
 | kn, [] => kn
 | kn, o :: r => knDels (knDel kn o.dst) r
def knVal (kn : List (Nat × Bool)) : Operand → Option Bool
 | .const (.bool b) => some b
 | .tmp t => knGet kn t
 | _ => none
def knOp (kn : List (Nat × Bool)) (o : Oper) : Option Bool :=
 match o.op with
 | .move x => knVal kn x
 | .assign x => knVal kn x
 | .pick c a b => match knVal kn c with
  | some true => knVal kn a
  | some false => knVal kn b
  | none => none
 | _ => none
def knUp (kn : List (Nat × Bool)) (o : Oper) : List (Nat × Bool) :=
 match knOp kn o, o.dst with
 | some b, some d => (d, b) :: knDel kn (some d)
 | _, d => knDel kn d
def KnOK (kn : List (Nat × Bool)) (fr : Fr) : Prop := ∀ s b, knGet kn s = some b → fr s = .bool b
theorem KnOK.nil (fr : Fr) : KnOK [] fr := fun s b h => by simp [knGet] at h
theorem knDel_get {kn : List (Nat × Bool)} {d s : Nat} {b : Bool} (h : knGet (knDel kn (some d)) s = some b) : s ≠ d ∧ knGet kn s = some b := by
 induction kn with
 | nil => simp [knDel, knGet] at h
 | cons x r ih =>
  obtain ⟨t, c⟩ := x
  simp only [knDel] at h
  cases hb : Nat.beq t d <;> simp only [hb, cond_true, cond_false] at h
  ·simp only [knGet] at h ⊢
   cases hs : Nat.beq t s <;> simp only [hs, cond_true, cond_false] at h ⊢
   ·exact ih h
   ·refine ⟨fun e => ?_, h⟩
    have := Nat.eq_of_beq_eq_true hs
    subst this; subst e; simp at hb
  ·have h' := ih h
   refine ⟨h'.1, ?_⟩
   simp only [knGet]
   have := Nat.eq_of_beq_eq_true hb
   subst this
   cases hs : Nat.beq t s
   ·exact h'.2
   ·exact absurd (Nat.eq_of_beq_eq_true hs).symm h'.1
theorem KnOK.del {kn : List (Nat × Bool)} {fr : Fr} (h : KnOK kn fr) (d : Option Nat) (v : Value) : KnOK (knDel kn d) (upd fr d v) := by
 cases d with
 | none => cases kn <;> exact h
 | some d =>
  intro s b hs
  obtain ⟨h1, h2⟩ := knDel_get hs
  simp only [upd]
  cases hb : Nat.beq s d
  ·exact h s b h2
  ·exact absurd (Nat.eq_of_beq_eq_true hb) h1
theorem KnOK.put {kn : List (Nat × Bool)} {fr : Fr} (h : KnOK kn fr) {s : Nat} {b : Bool} (hs : fr s = .bool b) : KnOK ((s, b) :: kn) fr := by
 intro t c ht
 simp only [knGet] at ht
 cases hb : Nat.beq s t <;> simp only [hb, cond_true, cond_false] at ht
 ·exact h t c ht
 ·have := Nat.eq_of_beq_eq_true hb; subst this; simp only [Option.some.injEq] at ht; subst ht; exact hs
theorem knVal_ok {kn : List (Nat × Bool)} {fr : Fr} (h : KnOK kn fr) {x : Operand} {b : Bool} (hx : knVal kn x = some b) : ev fr x = .bool b := by
 cases x with
 | tmp t => exact h t b hx
 | const v => cases v <;> simp [knVal] at hx; subst hx; rfl
 | global g => simp [knVal] at hx
 | func f => simp [knVal] at hx
theorem knOp_ok {kn : List (Nat × Bool)} {fr : Fr} (h : KnOK kn fr) {o : Oper} {v : Value} (hv : valOf o (ev fr) v) {b : Bool} (hb : knOp kn o = some b) : v = .bool b := by
 unfold knOp at hb
 unfold valOf at hv
 split at hb
 ·rename_i x hop; rw [hop] at hv; exact hv.trans (knVal_ok h hb)
 ·rename_i x hop; rw [hop] at hv; exact hv.trans (knVal_ok h hb)
 ·rename_i c a b' hop
  rw [hop] at hv
  split at hb
  ·rename_i hc; rw [hv _ (knVal_ok h hc)]; exact knVal_ok h hb
  ·rename_i hc; rw [hv _ (knVal_ok h hc)]; exact knVal_ok h hb
  ·simp at hb
 ·simp at hb
theorem KnOK.up {kn : List (Nat × Bool)} {fr : Fr} (h : KnOK kn fr) {o : Oper} {v : Value} (hv : valOf o (ev fr) v) : KnOK (knUp kn o) (upd fr o.dst v) := by
 unfold knUp
 split
 ·rename_i b d hb hd
  rw [hd]
  exact (h.del (some d) v).put (by simp [upd, knOp_ok h hv hb])
 ·exact h.del _ _
theorem KnOK.dels {kn : List (Nat × Bool)} {fr fr' : Fr} : ∀ (l : List Oper), KnOK kn fr → (∀ s, inDsts l s = false → fr' s = fr s) → KnOK (knDels kn l) fr' := by
 intro l
 have key : ∀ (l : List Oper) (kn : List (Nat × Bool)) (s : Nat) (b : Bool), knGet (knDels kn l) s = some b → inDsts l s = false ∧ knGet kn s = some b := by
  intro l
  induction l with
  | nil => intro kn s b h; exact ⟨rfl, h⟩
  | cons o r ih =>
   intro kn s b h
   simp only [knDels] at h
   obtain ⟨h1, h2⟩ := ih _ s b h
   simp only [inDsts, h1, Bool.or_false]
   cases hd : o.dst with
   | none => rw [hd] at h2; exact ⟨rfl, by cases kn <;> exact h2⟩
   | some d =>
    rw [hd] at h2
    obtain ⟨h3, h4⟩ := knDel_get h2
    refine ⟨?_, h4⟩
    cases hb : Nat.beq s d
    ·exact hb
    ·exact absurd (Nat.eq_of_beq_eq_true hb) h3
 intro h ho s b hs
 obtain ⟨h1, h2⟩ := key l kn s b hs
 rw [ho s h1]; exact h s b h2
def denOps (P : Program) (g : Gh) (n : Nat) (ops : Array Oper) (gq : Bool) : Nat → Bool → Option (Nat × Bool) → List (Nat × Bool) → List Oper → Fr → Hp → (List (Nat × Bool) → Fr → Hp → Prop) → (List PanicEntry → Hp → Prop) → Prop
 | 0, _, _, _, _, _, _, _, _ => False
 | _ + 1, _, _, kn, [], fr, H, K, _ => K kn fr H
 | f + 1, q, cur, kn, o :: r, fr, H, K, KP =>
  cond (sameGuard o.guard cur)
   (cond (okDst n o.dst)
    (cond (isP o.op) (opP P g o (ev fr) H fun v => denOps P g n ops gq f q cur (knUp kn o) r (upd fr o.dst v) H K KP)
     (cond q (opQ P g o (ev fr) H fun v => denOps P g n ops gq f q cur (knDel kn o.dst) r (upd fr o.dst v) H K KP)
      (opE P g o (ev fr) H (fun v H' => denOps P g n ops gq f q cur (knDel kn o.dst) r (upd fr o.dst v) H' K KP) KP))) False)
   (match o.guard with
   | none => False
   | some (j, want) =>
    match slotOf ops j with
    | none => False
    | some s =>
     cond (okDst n (some s) && okDsts n (takeG cur (o :: r)) && !inDsts (takeG cur (o :: r)) s && skipOK ops s want [] (takeG cur (o :: r)))
     (match knGet kn s with
     | some b => cond (b == want)
       (denOps P g n ops gq f q o.guard kn (takeG cur (o :: r)) fr H (fun kn' fr' H' => denOps P g n ops gq f q cur kn' (dropG cur (o :: r)) fr' H' K KP) KP)
       (denOps P g n ops gq f q cur (knDels kn (takeG cur (o :: r))) (dropG cur (o :: r)) (skipG (takeG cur (o :: r)) fr) H K KP)
     | none =>
     cond (q || gq)
      (match dropG cur (o :: r) with
      | [] => False
      | p :: r' =>
       cond (isPick p && okDst n p.dst)
       (Grp (fr s) want
        (fun t => denOps P g n ops gq f true o.guard ((s, want) :: kn) (takeG cur (o :: r)) (upd fr (some s) (.bool want)) H (fun _ fr' H' => H' = H ∧ pickOf p fr' = .bool t) (fun _ _ => False))
        (fun t => pickOf p (skipG (takeG cur (o :: r)) (upd fr (some s) (.bool !want))) = .bool t)
        (fun t => ∀ gs, denOps P g n ops gq f q cur (knDel (knDels kn (takeG cur (o :: r))) p.dst) r' (upd (garb (takeG cur (o :: r)) gs fr) p.dst (.bool t)) H K KP)) False)
      (Split (fr s) want
       (denOps P g n ops gq f q o.guard ((s, want) :: kn) (takeG cur (o :: r)) (upd fr (some s) (.bool want)) H (fun kn' fr' H' => denOps P g n ops gq f q cur kn' (dropG cur (o :: r)) fr' H' K KP) KP)
       (denOps P g n ops gq f q cur ((s, !want) :: knDels kn (takeG cur (o :: r))) (dropG cur (o :: r)) (skipG (takeG cur (o :: r)) (upd fr (some s) (.bool !want))) H K KP))) False)
theorem upd_same {fr : Fr} {s : Nat} {v : Value} (h : fr s = v) : upd fr (some s) v = fr := by
 funext x
 simp only [upd]
 cases hb : Nat.beq x s
 ·rfl
 ·have := Nat.eq_of_beq_eq_true hb; subst this; simp [h]
theorem upd_ne {fr : Fr} {d : Option Nat} {v : Value} {s : Nat} (h : inDsts [({ (default : Oper) with dst := d })] s = false) : upd fr d v s = fr s := by
 cases d with
 | none => rfl
 | some d => simp only [inDsts, Bool.or_false] at h; simp only [upd, h, cond_false]
theorem inDsts_cons {o : Oper} {r : List Oper} {s : Nat} : inDsts (o :: r) s = (inDsts [({ (default : Oper) with dst := o.dst })] s || inDsts r s) := by
 simp [inDsts]
theorem inDsts_append {a b : List Oper} {s : Nat} : inDsts (a ++ b) s = (inDsts a s || inDsts b s) := by
 induction a with
 | nil => simp [inDsts]
 | cons o r ih => simp only [List.cons_append, inDsts, ih, Bool.or_assoc]
def OutEq (l : List Oper) (fr fr' : Fr) : Prop := ∀ s, inDsts l s = false → fr' s = fr s
def CurOK (ops : Array Oper) (cur : Option (Nat × Bool)) (l : List Oper) (fr : Fr) : Prop :=
 match cur with
 | none => True
 | some (j, want) => ∃ s, slotOf ops j = some s ∧ fr s = .bool want ∧ inDsts l s = false
theorem CurOK.tail {ops : Array Oper} {cur : Option (Nat × Bool)} {o : Oper} {r : List Oper} {fr fr' : Fr} (h : CurOK ops cur (o :: r) fr) (he : ∀ s, inDsts [({ (default : Oper) with dst := o.dst })] s = false → fr' s = fr s) : CurOK ops cur r fr' := by
 unfold CurOK at *
 split
 ·trivial
 ·obtain ⟨s, h1, h2, h3⟩ := h
  rw [inDsts_cons, Bool.or_eq_false_iff] at h3
  exact ⟨s, h1, (he s h3.1).trans h2, h3.2⟩
theorem yielded_of {n : Nat} {ops : Array Oper} {a : Act} {fr : Fr} (h : Agree ds n a fr) {j s : Nat} (hs : slotOf ops j = some s) : yielded ops a.tmps j = match fr s with | .bool b => some b | _ => none := by
 unfold slotOf at hs
 split at hs
 ·rename_i oj hj
  have hg := h.get s
  rw [Array.getD_eq_getD_getElem?] at hg
  simp only [yielded, hj, Option.bind_some, hs]
  cases ht : a.tmps[s]? with
  | none => rw [ht] at hg; simp only [Option.getD_none] at hg; rw [← hg]; rfl
  | some v => rw [ht] at hg; simp only [Option.getD_some] at hg; rw [← hg]; cases v <;> rfl
 ·simp at hs
theorem CurOK.wanted {n : Nat} {ops : Array Oper} {cur : Option (Nat × Bool)} {l : List Oper} {fr : Fr} (h : CurOK ops cur l fr) {o : Oper} (ho : o.guard = cur) {a : Act} (ha : Agree ds n a fr) : Region.wanted o (yielded ops a.tmps) = true := by
 unfold CurOK at h
 unfold Region.wanted
 rw [ho]
 split at h
 ·rfl
 ·obtain ⟨s, h1, h2, _⟩ := h
  simp only [yielded_of ha h1, h2, beq_self_eq_true]
theorem pickOf_run {p : Oper} {fr : Fr} {t : Bool} (hp : isPick p = true) (h : pickOf p fr = .bool t) (w : World) : (execOp (ev fr) p).run P w = .ok (.value (.bool t)) w := by
 unfold isPick at hp
 split at hp <;> try (simp at hp; done)
 rename_i c a b hop
 simp only [pickOf, hop] at h
 split at h
 ·rename_i t' hc
  simp only [execOp, hop, hc, asBool]
  cases t' <;> simp only [cond_true, cond_false] at h <;> simp [h]
 ·simp [undef] at h
theorem skip_list {n : Nat} {ops : Array Oper} {Q : Exit → Act → World → Prop} {s : Nat} {want : Bool} {w : World} {rest : List Oper} : ∀ (l : List Oper) (seen : List Nat) (fr : Fr) (a : Act), okDsts n l = true → inDsts l s = false → skipOK ops s want seen l = true →
  fr s = .bool (!want) → (∀ t ∈ seen, fr t = undef) → Agree ds n a fr → (∀ a', Agree ds n a' (skipG l fr) → wpList P ops Q rest a' w) → wpList P ops Q (l ++ rest) a w
 | [], _, fr, a, _, _, _, _, _, ha, hk => hk a ha
 | o :: r, seen, fr, a, hd, hi, hs, hf, hseen, ha, hk => by
  simp only [okDsts, Bool.and_eq_true] at hd
  rw [inDsts_cons, Bool.or_eq_false_iff] at hi
  simp only [skipOK, Bool.and_eq_true] at hs
  obtain ⟨hs1, hs2⟩ := hs
  have hnw : Region.wanted o (yielded ops a.tmps) = false := by
   unfold Region.wanted
   split at hs1
   ·simp at hs1
   ·rename_i j w' hg
    rw [hg]
    split at hs1
    ·simp at hs1
    ·rename_i t ht
     simp only [yielded_of ha ht]
     simp only [Bool.or_eq_true, Bool.and_eq_true, beq_iff_eq] at hs1
     rcases hs1 with ⟨h1, rfl⟩ | h1
     ·have := Nat.eq_of_beq_eq_true h1; subst this
      rw [hf]; cases w' <;> rfl
     ·obtain ⟨u, hu, hb⟩ := List.any_eq_true.1 h1
      have := Nat.eq_of_beq_eq_true hb; subst this
      rw [hseen _ hu]; rfl
  simp only [List.cons_append, wpList, hnw, Bool.false_eq_true, if_false]
  refine skip_list r _ (upd fr o.dst undef) _ hd.2 hi.2 hs2 ?_ ?_ (ha.put hd.1 undef) (fun a' h' => hk a' h')
  ·rw [upd_ne hi.1, hf]
  ·intro t ht
   cases hdst : o.dst with
   | none => rw [hdst] at ht; exact hseen t ht
   | some d =>
    rw [hdst] at ht
    simp only [upd]
    cases hb : Nat.beq t d
    ·simp only [cond_false]
     rcases List.mem_cons.1 ht with rfl | ht
     ·simp at hb
     ·exact hseen t ht
    ·rfl
theorem skip_quiet {n : Nat} {ops : Array Oper} {C : World → Prop} {Q : Act → Prop} {s : Nat} {want : Bool} {rest : List Oper} : ∀ (l : List Oper) (seen : List Nat) (fr : Fr) (a : Act), okDsts n l = true → inDsts l s = false → skipOK ops s want seen l = true →
  fr s = .bool (!want) → (∀ t ∈ seen, fr t = undef) → Agree ds n a fr → (∀ a', Agree ds n a' (skipG l fr) → wpQuiet P ops C Q rest a') → wpQuiet P ops C Q (l ++ rest) a
 | [], _, fr, a, _, _, _, _, _, ha, hk => hk a ha
 | o :: r, seen, fr, a, hd, hi, hs, hf, hseen, ha, hk => by
  simp only [okDsts, Bool.and_eq_true] at hd
  rw [inDsts_cons, Bool.or_eq_false_iff] at hi
  simp only [skipOK, Bool.and_eq_true] at hs
  obtain ⟨hs1, hs2⟩ := hs
  have hnw : Region.wanted o (yielded ops a.tmps) = false := by
   unfold Region.wanted
   split at hs1
   ·simp at hs1
   ·rename_i j w' hg
    rw [hg]
    split at hs1
    ·simp at hs1
    ·rename_i t ht
     simp only [yielded_of ha ht]
     simp only [Bool.or_eq_true, Bool.and_eq_true, beq_iff_eq] at hs1
     rcases hs1 with ⟨h1, rfl⟩ | h1
     ·have := Nat.eq_of_beq_eq_true h1; subst this
      rw [hf]; cases w' <;> rfl
     ·obtain ⟨u, hu, hb⟩ := List.any_eq_true.1 h1
      have := Nat.eq_of_beq_eq_true hb; subst this
      rw [hseen _ hu]; rfl
  simp only [List.cons_append, wpQuiet, hnw, Bool.false_eq_true, if_false]
  refine skip_quiet r _ (upd fr o.dst undef) _ hd.2 hi.2 hs2 ?_ ?_ (ha.put hd.1 undef) (fun a' h' => hk a' h')
  ·rw [upd_ne hi.1, hf]
  ·intro t ht
   cases hdst : o.dst with
   | none => rw [hdst] at ht; exact hseen t ht
   | some d =>
    rw [hdst] at ht
    simp only [upd]
    cases hb : Nat.beq t d
    ·simp only [cond_false]
     rcases List.mem_cons.1 ht with rfl | ht
     ·simp at hb
     ·exact hseen t ht
    ·rfl
theorem skipG_out : ∀ (l : List Oper) (fr : Fr), OutEq l fr (skipG l fr)
 | [], fr => fun s _ => rfl
 | o :: r, fr => fun s hs => by
  rw [inDsts_cons, Bool.or_eq_false_iff] at hs
  rw [skipG, skipG_out r _ s hs.2, upd_ne hs.1]
end
end Go.Sx
namespace Go.Sx
open Go
section
variable {P : Program} {g : Gh} {ds : List Deferred}
theorem ev_func (fr : Fr) : ∀ f, ev fr (.func f) = .func (.func f) #[] #[] := fun _ => rfl
theorem opQ_run {o : Oper} {fr : Fr} {H : Hp} {k : Value → Prop} (h : opQ P g o (ev fr) H k) :
  ∃ v f args, (∀ w, (execOp (ev fr) o).run P w = .ok (.enter f args) w) ∧ SCalls P g f args H (fun e H' => e = .returned v ∧ H' = H) ∧ k v := by
 unfold opQ at h
 split at h <;> try exact h.elim
 rename_i c hop
 split at h <;> try exact h.elim
 ·rename_i f hc
  cases hcl : callable P f <;> simp only [hcl, cond_true, cond_false] at h
  obtain ⟨v, hs, hk⟩ := h
  rw [mapList] at hs
  refine ⟨v, f, _, fun w => ?_, hs, hk⟩
  simp only [execOp, hop, resolve, hc, Deferred.ofValue, ev_func, invoke]
  show (callFunc f ((#[] ++ c.args.map (ev fr)) ++ #[])).run P w = _
  rw [Array.empty_append, Array.append_empty]
  exact callable_run hcl _ w
 ·rename_i x _ hc
  obtain ⟨f, first, captured, hf, hcl, v, hs, hk⟩ := h
  rw [mapList] at hs
  refine ⟨v, f, _, fun w => ?_, hs, hk⟩
  simp only [execOp, hop, resolve, hc, Deferred.ofValue, hf, invoke]
  show (callFunc f (first ++ c.args.map (ev fr) ++ captured)).run P w = _
  exact callable_run hcl _ w
theorem After.upon {o : Oper} {a : Act} {K : Value → Hp → Prop} {KP : List PanicEntry → Hp → Prop} {next : Act → World → Prop} {Q : Exit → Act → World → Prop} {r : Result Next}
  (h : After P g K KP r) (hn : ∀ v H' w', Own g H' w' → K v H' → next (a.put o.dst v) w') (hp : ∀ ch H' w', Own g H' w' → KP ch H' → Q (.panic ch) a w') : o.upon P a next Q r := by
 cases r with
 | ok n w' =>
  cases n <;> simp only [After] at h <;> simp only [Oper.upon]
  case value v => obtain ⟨H', ho, hk⟩ := h; exact hn _ _ _ ho hk
  case skip => obtain ⟨H', ho, hk⟩ := h; exact hn _ _ _ ho hk
  case enter f args =>
   refine h.mono fun e w'' ⟨H', ho, hk⟩ => ?_
   cases e with
   | returned v => exact hn _ _ _ ho hk
   | panicked ch => exact hp _ _ _ ho hk
   | outgrown => exact hk.elim
 | halt x w' =>
  cases x <;> simp only [After] at h
  case panic v => obtain ⟨H', ho, hk⟩ := h; exact hp _ _ _ ho hk
theorem OutEq.refl (l : List Oper) (fr : Fr) : OutEq l fr fr := fun _ _ => rfl
theorem OutEq.cons {o : Oper} {r : List Oper} {fr fr' : Fr} {v : Value} (h : OutEq r (upd fr o.dst v) fr') : OutEq (o :: r) fr fr' := fun s hs => by
 rw [inDsts_cons, Bool.or_eq_false_iff] at hs
 rw [h s hs.2, upd_ne hs.1]
theorem denOps_seq {n : Nat} {ops : Array Oper} {gq : Bool} : ∀ (f : Nat) (q : Bool) (cur : Option (Nat × Bool)) (kn : List (Nat × Bool)) (l : List Oper) (fr : Fr) (H : Hp) (K : List (Nat × Bool) → Fr → Hp → Prop) (KP : List PanicEntry → Hp → Prop),
  denOps P g n ops gq f q cur kn l fr H K KP → CurOK ops cur l fr → KnOK kn fr → ∀ (a : Act) (w : World), Agree ds n a fr → Own g H w → ∀ (rest : List Oper) (Q : Exit → Act → World → Prop),
  (∀ a' w' kn' fr' H', Agree ds n a' fr' → Own g H' w' → OutEq l fr fr' → KnOK kn' fr' → K kn' fr' H' → wpList P ops Q rest a' w') →
  (∀ ch a' w' fr' H', Agree ds n a' fr' → Own g H' w' → KP ch H' → Q (.panic ch) a' w') → wpList P ops Q (l ++ rest) a w
 | 0, _, _, _, _, _, _, _, _, h => h.elim
 | f + 1, q, cur, kn, [], fr, H, K, KP, h => fun _ hkn a w ha hw rest Q hk _ => hk a w kn fr H ha hw (OutEq.refl _ _) hkn h
 | f + 1, q, cur, kn, o :: r, fr, H, K, KP, h => by
  intro hcur hkn a w ha hw rest Q hk hp
  unfold denOps at h
  cases hsg : sameGuard o.guard cur <;> simp only [hsg, cond_true, cond_false] at h
  case true =>
   have hg := sameGuard_eq hsg
   have hwant := hcur.wanted hg ha
   cases hd : okDst n o.dst <;> simp only [hd, cond_true, cond_false] at h
   simp only [List.cons_append, wpList, hwant, if_true]
   refine .inl ?_
   unfold Oper.wp
   rw [ha.eval]
   cases hip : isP o.op <;> simp only [hip, cond_true, cond_false] at h
   case true =>
    obtain ⟨v, hk', hr, hv⟩ := opP_val h
    rw [hr w hw]
    exact denOps_seq f q cur _ r _ H K KP hk' (hcur.tail fun s hs => upd_ne hs) (hkn.up hv) _ w (ha.put hd v) hw rest Q (fun a' w' kn' fr' H' h1 h2 h3 h5 h4 => hk a' w' kn' fr' H' h1 h2 h3.cons h5 h4) hp
   case false =>
    cases q <;> simp only [cond_true, cond_false] at h
    case true =>
     obtain ⟨v, f', args, hr, hs, hk'⟩ := opQ_run h
     rw [hr w]
     refine (hs w hw).mono fun e w'' ⟨H', ho, he, hH⟩ => ?_
     subst he; subst hH
     exact denOps_seq f true cur _ r _ H' K KP hk' (hcur.tail fun s hs => upd_ne hs) (hkn.del _ _) _ w'' (ha.put hd v) ho rest Q (fun a' w' kn' fr' H' h1 h2 h3 h5 h4 => hk a' w' kn' fr' H' h1 h2 h3.cons h5 h4) hp
    case false =>
     refine (opE_op (ev_func fr) h w hw).upon (fun v H' w' ho hk' => ?_) (fun ch H' w' ho hk' => hp ch a w' fr H' ha ho hk')
     exact denOps_seq f false cur _ r _ H' K KP hk' (hcur.tail fun s hs => upd_ne hs) (hkn.del _ _) _ w' (ha.put hd v) ho rest Q (fun a' w' kn' fr' H' h1 h2 h3 h5 h4 => hk a' w' kn' fr' H' h1 h2 h3.cons h5 h4) hp
  case false =>
   split at h <;> try exact h.elim
   rename_i j want hog
   split at h <;> try exact h.elim
   rename_i s hslot
   generalize hG : takeG cur (o :: r) = G at h
   generalize hR : dropG cur (o :: r) = R at h
   have hGR : G ++ R = o :: r := by rw [← hG, ← hR]; exact take_drop_G _ _
   cases hchk : (okDst n (some s) && okDsts n G && !inDsts G s && skipOK ops s want [] G) <;> simp only [hchk, cond_true, cond_false] at h
   simp only [Bool.and_eq_true, Bool.not_eq_true'] at hchk
   obtain ⟨⟨⟨hds, hdG⟩, hiG⟩, hsk⟩ := hchk
   rw [← hGR, List.append_assoc]
   have hOutG : ∀ fr', OutEq G fr fr' → ∀ s, inDsts (o :: r) s = false → fr' s = fr s := fun fr' ho s hs => by
    rw [← hGR, inDsts_append, Bool.or_eq_false_iff] at hs
    exact ho s hs.1
   have hcurR : ∀ fr', OutEq G fr fr' → CurOK ops cur R fr' := fun fr' ho => by
    unfold CurOK at hcur ⊢
    split
    ·trivial
    ·obtain ⟨t, h1, h2, h3⟩ := hcur
     have h3' := h3
     rw [← hGR, inDsts_append, Bool.or_eq_false_iff] at h3'
     exact ⟨t, h1, (ho t h3'.1).trans h2, h3'.2⟩
   have hknG : ∀ fr', OutEq G fr fr' → KnOK (knDels kn G) fr' := fun fr' ho => hkn.dels G ho
   split at h
   ·rename_i b hb
    have hfs := hkn s b hb
    cases hbw : (b == want) <;> simp only [hbw, cond_true, cond_false] at h
    ·have hbw' : b = !want := by cases b <;> cases want <;> simp_all
     subst hbw'
     refine skip_list G [] fr a hdG hiG hsk hfs (fun t ht => by simp at ht) ha fun a' ha' => ?_
     refine denOps_seq f q cur _ R _ H K KP h (hcurR _ (skipG_out G fr)) (hknG _ (skipG_out G fr)) a' w ha' hw rest Q (fun a2 w2 kn2 fr2 H2 k1 k2 k3 k5 k4 => hk a2 w2 kn2 fr2 H2 k1 k2 ?_ k5 k4) hp
     intro x hx
     have hx' := hx
     rw [← hGR, inDsts_append, Bool.or_eq_false_iff] at hx'
     rw [k3 x hx'.2, skipG_out G fr x hx'.1]
    ·have hbw' : b = want := by cases b <;> cases want <;> simp_all
     subst hbw'
     refine denOps_seq f q o.guard kn G fr H _ KP h ?_ hkn a w ha hw (R ++ rest) Q ?_ hp
     ·rw [hog]; exact ⟨s, hslot, hfs, hiG⟩
     ·intro a' w' kn' fr' H' g1 g2 g3 g5 g4
      refine denOps_seq f q cur kn' R fr' H' K KP g4 (hcurR fr' g3) g5 a' w' g1 g2 rest Q (fun a2 w2 kn2 fr2 H2 k1 k2 k3 k5 k4 => hk a2 w2 kn2 fr2 H2 k1 k2 ?_ k5 k4) hp
      intro x hx
      have hx' := hx
      rw [← hGR, inDsts_append, Bool.or_eq_false_iff] at hx'
      rw [k3 x hx'.2, g3 x hx'.1]
   rename_i hknone
   cases hqq : (q || gq) <;> simp only [hqq, cond_true, cond_false] at h
   case true =>
    split at h <;> try exact h.elim
    rename_i p r' 
    have hpg : sameGuard p.guard cur = true := by
     have : ∀ l : List Oper, dropG cur l = p :: r' → sameGuard p.guard cur = true := by
      intro l
      induction l with
      | nil => intro e; simp [dropG] at e
      | cons x y ih =>
       intro e
       simp only [dropG] at e
       cases hx : sameGuard x.guard cur <;> simp only [hx, cond_true, cond_false] at e
       ·exact ih e
       ·simp only [List.cons.injEq] at e; rw [← e.1]; exact hx
     exact this _ hR
    cases hpk : (isPick p && okDst n p.dst) <;> simp only [hpk, cond_true, cond_false] at h
    simp only [Bool.and_eq_true] at hpk
    obtain ⟨b, t, hfs, h1, h2, h3⟩ := h
    have hfin : ∀ (a' : Act) (w' : World) (fr' : Fr), Agree ds n a' fr' → Own g H w' → OutEq G fr fr' → pickOf p fr' = .bool t → wpList P ops Q (p :: r' ++ rest) a' w' := by
     intro a' w' fr' ha' hw' ho hpv
     have hwant := (hcurR fr' ho).wanted (sameGuard_eq hpg) ha'
     simp only [List.cons_append, wpList, hwant, if_true]
     refine .inl ?_
     unfold Oper.wp
     rw [ha'.eval, pickOf_run hpk.1 hpv w']
     have hgarb : garb G fr' fr = fr' := by
      funext x
      simp only [garb]
      cases hx : inDsts G x
      ·exact (ho x hx).symm
      ·rfl
     have h3' := h3 fr'
     rw [hgarb] at h3'
     refine denOps_seq f q cur _ r' _ H K KP h3' ((hcurR fr' ho).tail fun s hs => upd_ne hs) ((hknG fr' ho).del _ _) _ w' (ha'.put hpk.2 _) hw' rest Q (fun a2 w2 kn2 fr2 H2 g1 g2 g3 g5 g4 => hk a2 w2 kn2 fr2 H2 g1 g2 ?_ g5 g4) hp
     intro x hx
     have hx' := hx
     rw [← hGR, inDsts_append, Bool.or_eq_false_iff, inDsts_cons, Bool.or_eq_false_iff] at hx'
     rw [g3 x hx'.2.2, upd_ne hx'.2.1, ho x hx'.1]
    by_cases hbw : b = want
    ·subst hbw
     have h1' := h1 rfl
     rw [upd_same hfs] at h1'
     refine denOps_seq f true o.guard _ G fr H _ _ h1' ?_ (hkn.put hfs) a w ha hw (p :: r' ++ rest) Q ?_ ?_
     ·rw [hog]; exact ⟨s, hslot, hfs, hiG⟩
     ·intro a' w' kn' fr' H' g1 g2 g3 _ ⟨g4, g5⟩
      subst g4
      exact hfin a' w' fr' g1 g2 g3 g5
     ·intro _ _ _ _ _ _ _ h0; exact h0.elim
    ·have hbw' : b = !want := by cases b <;> cases want <;> simp_all
     have h2' := h2 hbw'
     subst hbw'
     rw [upd_same hfs] at h2'
     refine skip_list G [] fr a hdG hiG hsk hfs (fun t ht => by simp at ht) ha fun a' ha' => ?_
     exact hfin a' w _ ha' hw (skipG_out G fr) h2'
   case false =>
    obtain ⟨b, hfs, h1, h2⟩ := h
    by_cases hbw : b = want
    ·subst hbw
     have h1' := h1 rfl
     rw [upd_same hfs] at h1'
     refine denOps_seq f q o.guard _ G fr H _ KP h1' ?_ (hkn.put hfs) a w ha hw (R ++ rest) Q ?_ hp
     ·rw [hog]; exact ⟨s, hslot, hfs, hiG⟩
     ·intro a' w' kn' fr' H' g1 g2 g3 g5 g4
      refine denOps_seq f q cur kn' R fr' H' K KP g4 (hcurR fr' g3) g5 a' w' g1 g2 rest Q (fun a2 w2 kn2 fr2 H2 k1 k2 k3 k5 k4 => hk a2 w2 kn2 fr2 H2 k1 k2 ?_ k5 k4) hp
      intro x hx
      have hx' := hx
      rw [← hGR, inDsts_append, Bool.or_eq_false_iff] at hx'
      rw [k3 x hx'.2, g3 x hx'.1]
    ·have hbw' : b = !want := by cases b <;> cases want <;> simp_all
     have h2' := h2 hbw'
     subst hbw'
     rw [upd_same hfs] at h2'
     refine skip_list G [] fr a hdG hiG hsk hfs (fun t ht => by simp at ht) ha fun a' ha' => ?_
     refine denOps_seq f q cur _ R _ H K KP h2' (hcurR _ (skipG_out G fr)) ((hknG _ (skipG_out G fr)).put (by rw [skipG_out G fr s hiG, hfs])) a' w ha' hw rest Q (fun a2 w2 kn2 fr2 H2 k1 k2 k3 k5 k4 => hk a2 w2 kn2 fr2 H2 k1 k2 ?_ k5 k4) hp
     intro x hx
     have hx' := hx
     rw [← hGR, inDsts_append, Bool.or_eq_false_iff] at hx'
     rw [k3 x hx'.2, skipG_out G fr x hx'.1]
theorem denOps_quiet {n : Nat} {ops : Array Oper} {gq : Bool} : ∀ (f : Nat) (cur : Option (Nat × Bool)) (kn : List (Nat × Bool)) (l : List Oper) (fr : Fr) (H : Hp) (K : List (Nat × Bool) → Fr → Hp → Prop) (KP : List PanicEntry → Hp → Prop),
  denOps P g n ops gq f true cur kn l fr H K KP → CurOK ops cur l fr → KnOK kn fr → ∀ (a : Act), Agree ds n a fr → ∀ (rest : List Oper) (Q : Act → Prop),
  (∀ a' kn' fr', Agree ds n a' fr' → OutEq l fr fr' → KnOK kn' fr' → K kn' fr' H → wpQuiet P ops (Own g H) Q rest a') → wpQuiet P ops (Own g H) Q (l ++ rest) a
 | 0, _, _, _, _, _, _, _, h => h.elim
 | f + 1, cur, kn, [], fr, H, K, KP, h => fun _ hkn a ha rest Q hk => hk a kn fr ha (OutEq.refl _ _) hkn h
 | f + 1, cur, kn, o :: r, fr, H, K, KP, h => by
  intro hcur hkn a ha rest Q hk
  unfold denOps at h
  cases hsg : sameGuard o.guard cur <;> simp only [hsg, cond_true, cond_false] at h
  case true =>
   have hg := sameGuard_eq hsg
   have hwant := hcur.wanted hg ha
   cases hd : okDst n o.dst <;> simp only [hd, cond_true, cond_false] at h
   simp only [List.cons_append, wpQuiet, hwant, if_true]
   cases hip : isP o.op <;> simp only [hip, cond_true, cond_false] at h
   case true =>
    obtain ⟨v, hk', hr, hv⟩ := opP_val h
    refine ⟨v, fun w hw => ?_, ?_⟩
    ·unfold Oper.quietAt
     rw [ha.eval, hr w hw]
     exact ⟨rfl, rfl⟩
    ·exact denOps_quiet f cur _ r _ H K KP hk' (hcur.tail fun s hs => upd_ne hs) (hkn.up hv) _ (ha.put hd v) rest Q (fun a' kn' fr' h1 h3 h5 h4 => hk a' kn' fr' h1 h3.cons h5 h4)
   case false =>
    obtain ⟨v, f', args, hr, hs, hk'⟩ := opQ_run h
    refine ⟨v, fun w hw => ?_, ?_⟩
    ·unfold Oper.quietAt
     rw [ha.eval, hr w]
     refine ⟨rfl, (hs w hw).mono fun e w'' ⟨H', ho, he, hH⟩ => ?_⟩
     subst hH
     exact ⟨he, ho⟩
    ·exact denOps_quiet f cur _ r _ H K KP hk' (hcur.tail fun s hs => upd_ne hs) (hkn.del _ _) _ (ha.put hd v) rest Q (fun a' kn' fr' h1 h3 h5 h4 => hk a' kn' fr' h1 h3.cons h5 h4)
  case false =>
   split at h <;> try exact h.elim
   rename_i j want hog
   split at h <;> try exact h.elim
   rename_i s hslot
   generalize hG : takeG cur (o :: r) = G at h
   generalize hR : dropG cur (o :: r) = R at h
   have hGR : G ++ R = o :: r := by rw [← hG, ← hR]; exact take_drop_G _ _
   cases hchk : (okDst n (some s) && okDsts n G && !inDsts G s && skipOK ops s want [] G) <;> simp only [hchk, cond_true, cond_false] at h
   simp only [Bool.and_eq_true, Bool.not_eq_true'] at hchk
   obtain ⟨⟨⟨hds, hdG⟩, hiG⟩, hsk⟩ := hchk
   rw [← hGR, List.append_assoc]
   have hcurR : ∀ fr', OutEq G fr fr' → CurOK ops cur R fr' := fun fr' ho => by
    unfold CurOK at hcur ⊢
    split
    ·trivial
    ·obtain ⟨t, h1, h2, h3⟩ := hcur
     have h3' := h3
     rw [← hGR, inDsts_append, Bool.or_eq_false_iff] at h3'
     exact ⟨t, h1, (ho t h3'.1).trans h2, h3'.2⟩
   have hknG : ∀ fr', OutEq G fr fr' → KnOK (knDels kn G) fr' := fun fr' ho => hkn.dels G ho
   split at h
   ·rename_i b hb
    have hfs := hkn s b hb
    cases hbw : (b == want) <;> simp only [hbw, cond_true, cond_false] at h
    ·have hbw' : b = !want := by cases b <;> cases want <;> simp_all
     subst hbw'
     refine skip_quiet G [] fr a hdG hiG hsk hfs (fun t ht => by simp at ht) ha fun a' ha' => ?_
     refine denOps_quiet f cur _ R _ H K KP h (hcurR _ (skipG_out G fr)) (hknG _ (skipG_out G fr)) a' ha' rest Q (fun a2 kn2 fr2 k1 k3 k5 k4 => hk a2 kn2 fr2 k1 ?_ k5 k4)
     intro x hx
     have hx' := hx
     rw [← hGR, inDsts_append, Bool.or_eq_false_iff] at hx'
     rw [k3 x hx'.2, skipG_out G fr x hx'.1]
    ·have hbw' : b = want := by cases b <;> cases want <;> simp_all
     subst hbw'
     refine denOps_quiet f o.guard kn G fr H _ KP h ?_ hkn a ha (R ++ rest) Q ?_
     ·rw [hog]; exact ⟨s, hslot, hfs, hiG⟩
     ·intro a' kn' fr' g1 g3 g5 g4
      refine denOps_quiet f cur kn' R fr' H K KP g4 (hcurR fr' g3) g5 a' g1 rest Q (fun a2 kn2 fr2 k1 k3 k5 k4 => hk a2 kn2 fr2 k1 ?_ k5 k4)
      intro x hx
      have hx' := hx
      rw [← hGR, inDsts_append, Bool.or_eq_false_iff] at hx'
      rw [k3 x hx'.2, g3 x hx'.1]
   rename_i hknone
   simp only [Bool.true_or, cond_true] at h
   split at h <;> try exact h.elim
   rename_i p r' 
   have hpg : sameGuard p.guard cur = true := by
    have : ∀ l : List Oper, dropG cur l = p :: r' → sameGuard p.guard cur = true := by
     intro l
     induction l with
     | nil => intro e; simp [dropG] at e
     | cons x y ih =>
      intro e
      simp only [dropG] at e
      cases hx : sameGuard x.guard cur <;> simp only [hx, cond_true, cond_false] at e
      ·exact ih e
      ·simp only [List.cons.injEq] at e; rw [← e.1]; exact hx
    exact this _ hR
   cases hpk : (isPick p && okDst n p.dst) <;> simp only [hpk, cond_true, cond_false] at h
   simp only [Bool.and_eq_true] at hpk
   obtain ⟨b, t, hfs, h1, h2, h3⟩ := h
   have hfin : ∀ (a' : Act) (fr' : Fr), Agree ds n a' fr' → OutEq G fr fr' → pickOf p fr' = .bool t → wpQuiet P ops (Own g H) Q (p :: r' ++ rest) a' := by
    intro a' fr' ha' ho hpv
    have hwant := (hcurR fr' ho).wanted (sameGuard_eq hpg) ha'
    simp only [List.cons_append, wpQuiet, hwant, if_true]
    refine ⟨.bool t, fun w hw => ?_, ?_⟩
    ·unfold Oper.quietAt
     rw [ha'.eval, pickOf_run hpk.1 hpv w]
     exact ⟨rfl, rfl⟩
    have hgarb : garb G fr' fr = fr' := by
     funext x
     simp only [garb]
     cases hx : inDsts G x
     ·exact (ho x hx).symm
     ·rfl
    have h3' := h3 fr'
    rw [hgarb] at h3'
    refine denOps_quiet f cur _ r' _ H K KP h3' ((hcurR fr' ho).tail fun s hs => upd_ne hs) ((hknG fr' ho).del _ _) _ (ha'.put hpk.2 _) rest Q (fun a2 kn2 fr2 g1 g3 g5 g4 => hk a2 kn2 fr2 g1 ?_ g5 g4)
    intro x hx
    have hx' := hx
    rw [← hGR, inDsts_append, Bool.or_eq_false_iff, inDsts_cons, Bool.or_eq_false_iff] at hx'
    rw [g3 x hx'.2.2, upd_ne hx'.2.1, ho x hx'.1]
   by_cases hbw : b = want
   ·subst hbw
    have h1' := h1 rfl
    rw [upd_same hfs] at h1'
    refine denOps_quiet f o.guard _ G fr H _ _ h1' ?_ (hkn.put hfs) a ha (p :: r' ++ rest) Q ?_
    ·rw [hog]; exact ⟨s, hslot, hfs, hiG⟩
    ·intro a' kn' fr' g1 g3 _ ⟨_, g5⟩
     exact hfin a' fr' g1 g3 g5
   ·have hbw' : b = !want := by cases b <;> cases want <;> simp_all
    have h2' := h2 hbw'
    subst hbw'
    rw [upd_same hfs] at h2'
    refine skip_quiet G [] fr a hdG hiG hsk hfs (fun t ht => by simp at ht) ha fun a' ha' => ?_
    exact hfin a' _ ha' (skipG_out G fr) h2'
end
end Go.Sx
namespace Go.Sx
open Go
section
variable {P : Program} {ops : Array Oper} {Q : Exit → Act → World → Prop} {md : Region.Mode} {S : Nat → World → World → Prop} {S0 : World → Prop}
def AnyS (P : Program) (md : Region.Mode) (ops : Array Oper) (Q : Exit → Act → World → Prop) (S : Nat → World → World → Prop) : Nat → Array Bool → Act → World → Prop
 | 0, listed, a, w => Region.ready md ops listed = [] ∧ Q .normal a w
 | n + 1, listed, a, w => (Region.ready md ops listed = [] → Q .normal a w) ∧
  ∀ i ∈ Region.ready md ops listed, wpOp P ops Q i (fun a' w' => S i w w' ∧ AnyS P md ops Q S n (listed.setIfInBounds i true) a' w') a w
theorem AnyS.any : ∀ {n : Nat} {listed : Array Bool} {a : Act} {w : World}, AnyS P md ops Q S n listed a w → wpAny P md ops Q n listed a w
 | 0, _, _, _, h => h
 | _ + 1, _, _, _, h => ⟨h.1, fun i hi => wpOp_mono (fun _ _ h' => h'.2.any) (h.2 i hi)⟩
def notOn (md : Region.Mode) (ops : Array Oper) (i j : Nat) : Prop := ∀ oj, ops[j]? = some oj → ∀ e ∈ oj.after, Region.binds md e = true → e.on ≠ i
theorem AnyS.first {i : Nat} {oi : Oper} {v : Value} (hi : ops[i]? = some oi) (hsel : Region.noSelect ops = true) (hQ : ∀ c a w, Q (.panic c) (a.put oi.dst v) w → Q (.panic c) a w)
  (hSi : ∀ w, S0 w → S i w w) (hS : ∀ j oj w w', ops[j]? = some oj → j ≠ i → notOn md ops i j → S0 w → S j w w' → S0 w') : ∀ (n : Nat) (listed : Array Bool) (a : Act) (w : World),
   (∀ j oj, ops[j]? = some oj → j ≠ i → listed.getD j true = false → notOn md ops i j → oi.apart ops oj = true) → i ∈ Region.ready md ops listed → YieldsIf P ops S0 oi v a → S0 w →
   AnyS P md ops Q S n (listed.setIfInBounds i true) (a.put oi.dst v) w → AnyS P md ops Q S (n + 1) listed a w := by
 have sel := Region.noSelect_spec hsel
 intro n
 induction n with
 | zero =>
  intro listed a w hfree hr hy h0 h
  refine ⟨fun e => absurd hr (by rw [e]; simp), fun j hj => ?_⟩
  by_cases e : j = i
  ·rw [e]; exact hy.wpOp hi h0 ⟨hSi _ h0, h⟩
  ·exact absurd (ready_mono hj e) (by rw [h.1]; simp)
 | succ n ih =>
  intro listed a w hfree hr hy h0 h
  refine ⟨fun e => absurd hr (by rw [e]; simp), fun j hj => ?_⟩
  by_cases e : j = i
  ·rw [e]; exact hy.wpOp hi h0 ⟨hSi _ h0, h⟩
  ·obtain ⟨hun, oj, hoj, hall⟩ := mem_ready.1 hj
   have hno : notOn md ops i j := fun o ho x hx hb he => by
    rw [hoj] at ho; cases ho
    have h1 := hall x hx hb
    have h2 := (mem_ready.1 hr).1
    rw [he] at h1
    rw [Array.getD_eq_getD_getElem?] at h1 h2
    cases hg : listed[i]? with
    | none => rw [hg] at h1; simp at h1
    | some y => rw [hg] at h1 h2; simp at h1 h2; rw [h2] at h1; cases h1
   refine wpOp_mono ?_ (wpOp_putIf hoj (hfree j oj hoj e hun hno) (fun cs b => sel i oi cs b hi) (fun cs b => sel j oj cs b hoj) hQ hy (h.2 j (ready_mono hj e)))
   rintro a' w' ⟨hy', hs', hrest⟩
   refine ⟨hs', ih _ _ _ (fun k ok hk hki hun' hno' => hfree k ok hk hki ?_ hno') (ready_mono hr (Ne.symm e)) hy' (hS j oj w w' hoj e hno h0 hs') (by rw [Array.setIfInBounds_comm _ _ e]; exact hrest)⟩
   by_cases hjk : j = k
   ·rw [← hjk]; exact hun
   ·rw [← hun', getD_set_ne true hjk]
theorem AnyS.take {i : Nat} {oi : Oper} {v : Value} {n : Nat} {listed : Array Bool} {a : Act} {w : World} (hi : ops[i]? = some oi) (hsel : Region.noSelect ops = true) (hf : Region.free md ops listed i = true)
  (hr : (Region.ready md ops listed).contains i = true) (hQ : ∀ c a w, Q (.panic c) (a.put oi.dst v) w → Q (.panic c) a w) (hSi : ∀ w, S0 w → S i w w) (hS : ∀ j oj w w', ops[j]? = some oj → j ≠ i → notOn md ops i j → S0 w → S j w w' → S0 w')
  (hy : YieldsIf P ops S0 oi v a) (h0 : S0 w) (h : AnyS P md ops Q S n (listed.setIfInBounds i true) (a.put oi.dst v) w) : AnyS P md ops Q S (n + 1) listed a w :=
 AnyS.first hi hsel hQ hSi hS n listed a w (fun j oj h1 h2 h3 h4 => Region.free_spec hi hf j oj h1 h2 h3 (h4 oj h1)) (by simpa using hr) hy h0 h
theorem AnyS.all {rs : List Nat} {n : Nat} {listed : Array Bool} {a : Act} {w : World} (hr : Region.ready md ops listed = rs) (hne : rs ≠ [])
  (h : ∀ i ∈ rs, wpOp P ops Q i (fun a' w' => S i w w' ∧ AnyS P md ops Q S n (listed.setIfInBounds i true) a' w') a w) : AnyS P md ops Q S (n + 1) listed a w :=
 ⟨fun h0 => absurd (hr ▸ h0) hne, hr ▸ h⟩
theorem AnyS.done {listed : Array Bool} {a : Act} {w : World} (hr : Region.ready md ops listed = []) (h : Q .normal a w) : ∀ n, AnyS P md ops Q S n listed a w
 | 0 => ⟨hr, h⟩
 | _ + 1 => ⟨fun _ => h, by rw [hr]; simp⟩
def onB (j : Oper) (i : Nat) : Bool := j.after.toList.any fun e => Nat.beq e.on i && Region.binds .any e
def isN (P : Program) : Op → Bool
 | .move _ | .assign _ | .pick .. | .nilCheck _ | .fieldAddr .. | .field .. | .indexAddr .. | .unOp .. => true
 | .slice t _ _ _ none => match P.underlying t with | some (.slice _) => true | _ => false
 | .binOp _ t _ _ _ => match P.underlying t with
  | some d => match bkOf d with | .other => false | _ => true
  | none => true
 | _ => false
theorem opP_free {g : Gh} {o : Oper} (h : isN P o.op = true) (ρ : Operand → Value) (H H' : Hp) (k : Value → Prop) : opP P g o ρ H k = opP P g o ρ H' k := by
 obtain ⟨d, op, t, p, a, gd⟩ := o
 cases op <;> first | rfl | (simp only [isN] at h; first | cases h | skip)
 case binOp op t x y z =>
  simp only [opP]
  cases hu : P.underlying t with
  | none => rfl
  | some d =>
   simp only [hu] at h
   cases hb : bkOf d <;> simp only [hb] at h ⊢
   cases h
 case slice t x lo hi m =>
  cases m with
  | none =>
   simp only [opP]
   cases hu : P.underlying t with
   | none => simp [hu] at h
   | some d => cases d <;> first | rfl | (exfalso; simp [hu] at h)
  | some m => cases h
def isRd (P : Program) (o : Op) : Bool := isP o && !isN P o
def needS (P : Program) (ops : Array Oper) (j : Nat) : Bool := match ops[j]? with
 | some oj => (List.range ops.size).any fun i => match ops[i]? with | some oi => isRd P oi.op && !onB oj i && !Nat.beq i j | none => false
 | none => true
def Keeps (P : Program) (g : Gh) (R : Hp) (ops : Array Oper) (j : Nat) (w w' : World) : Prop := ∀ oj, ops[j]? = some oj → (isP oj.op = true → w' = w) ∧ (isP oj.op = false → Own g [] w' ∧ (needS P ops j = true → Own g R w → Own g R w'))
theorem needS_spec {i j : Nat} {oi : Oper} (hi : ops[i]? = some oi) (hp : isRd P oi.op = true) (hne : j ≠ i) (h : notOn .any ops i j) : needS P ops j = true := by
 unfold needS
 split
 ·rename_i oj hj
  rw [List.any_eq_true]
  refine ⟨i, List.mem_range.2 (Array.getElem?_eq_some_iff.1 hi).1, ?_⟩
  simp only [hi, hp, Bool.true_and, Bool.and_eq_true, Bool.not_eq_true']
  refine ⟨?_, ?_⟩
  ·unfold onB
   rw [← Bool.not_eq_true, List.any_eq_true]
   rintro ⟨e, he, h2⟩
   simp only [Bool.and_eq_true] at h2
   exact h oj hj e (Array.mem_toList_iff.1 he) h2.2 (Nat.eq_of_beq_eq_true h2.1)
  ·cases hb : Nat.beq i j
   ·rfl
   ·exact absurd (Nat.eq_of_beq_eq_true hb).symm hne
 ·rfl
end
end Go.Sx
namespace Go.Sx
open Go
section
variable {P : Program} {g : Gh} {ds : List Deferred}
def AndIf (b : Bool) (p q : Prop) : Prop := cond b (p ∧ q) q
theorem AndIf.of {b : Bool} {p q : Prop} (h : AndIf b p q) : (b = true → p) ∧ q := by
  cases b
  · exact ⟨fun e => (by cases e), h⟩
  · exact ⟨fun _ => h.1, h.2⟩
def denD (P : Program) (g : Gh) (n : Nat) (ops : Array Oper) (R : Hp) (K : Fr → Hp → Prop) : List Nat → Array Bool → Fr → Hp → Prop
  | [], listed, fr, H => cond (Region.ready .any ops listed).isEmpty (K fr H) False
  | i :: r, listed, fr, H =>
    match ops[i]? with
    | none => False
    | some o =>
      cond (okDst n o.dst && o.guard.isNone)
        (cond (isP o.op)
          (cond (Region.free .any ops listed i && (Region.ready .any ops listed).contains i)
            (opP P g o (ev fr) R fun v => denD P g n ops R K r (listed.setIfInBounds i true) (upd fr o.dst v) H) False)
          (cond (Region.ready .any ops listed == [i])
            (opE P g o (ev fr) H (fun v H' => AndIf (needS P ops i) (Ent H' R) (denD P g n ops R K r (listed.setIfInBounds i true) (upd fr o.dst v) H')) (fun _ _ => False)) False)) False
def NoPan (Q : Exit → Act → World → Prop) : Exit → Act → World → Prop
  | .panic _, _, _ => False
  | e, a, w => Q e a w
theorem wanted_none {o : Oper} (h : o.guard.isNone = true) (y : Nat → Option Bool) : Region.wanted o y = true := by
  unfold Region.wanted
  cases hg : o.guard <;> simp_all
theorem Own.right0 {g : Gh} {H : Hp} {w : World} (h : Own g H w) : Own g [] w := Own.right (A := H) (B := []) (by simpa using h)
theorem unlisted_of {listed : Array Bool} {i k : Nat} (hun : listed.getD i true = false) (h : (listed.setIfInBounds i true).getD k true = false) : listed.getD k true = false := by
  by_cases e : i = k
  · rw [← e]; exact hun
  · rwa [getD_set_ne true e] at h
theorem denD_any {n : Nat} {ops : Array Oper} {R : Hp} {K : Fr → Hp → Prop} {Q : Exit → Act → World → Prop} (hs : Region.noSelect ops = true) (fr0 : Fr)
    (hk : ∀ a w fr H, Agree ds n a fr → Own g H w → OutEq ops.toList fr0 fr → K fr H → Q .normal a w) :
    ∀ (l : List Nat) (listed : Array Bool) (fr : Fr) (H : Hp), denD P g n ops R K l listed fr H → ∀ (fuel : Nat), l.length ≤ fuel → ∀ (a : Act) (w : World), Agree ds n a fr → Own g H w → ((∃ k ok, ops[k]? = some ok ∧ isRd P ok.op = true ∧ listed.getD k true = false) → Own g R w) → OutEq ops.toList fr0 fr →
      AnyS P .any ops (NoPan Q) (Keeps P g R ops) fuel listed a w
  | [], listed, fr, H, h => by
    intro fuel _ a w ha hw hR ho
    unfold denD at h
    cases hr : (Region.ready .any ops listed).isEmpty <;> simp only [hr, cond_true, cond_false] at h
    exact AnyS.done (Q := NoPan Q) (by simpa using hr) (hk a w fr H ha hw ho h) fuel
  | i :: r, listed, fr, H, h => by
    intro fuel hfuel a w ha hw hR ho
    unfold denD at h
    split at h <;> try exact h.elim
    rename_i o hoi
    have hmem : o ∈ ops.toList := Array.mem_toList_iff.2 (Array.mem_of_getElem? hoi)
    have hout : ∀ v, OutEq ops.toList fr0 (upd fr o.dst v) := fun v s hs' => by
      rw [upd_ne, ho s hs']
      have : ∀ l : List Oper, o ∈ l → inDsts l s = false → inDsts [({ (default : Oper) with dst := o.dst })] s = false := by
        intro l
        induction l with
        | nil => intro h; simp at h
        | cons x y ih =>
          intro hm hi
          rw [inDsts_cons, Bool.or_eq_false_iff] at hi
          rcases List.mem_cons.1 hm with rfl | hm
          · exact hi.1
          · exact ih hm hi.2
      exact this _ hmem hs'
    cases hc : (okDst n o.dst && o.guard.isNone) <;> simp only [hc, cond_true, cond_false] at h
    simp only [Bool.and_eq_true] at hc
    obtain ⟨fuel, rfl⟩ : ∃ f, fuel = f + 1 := ⟨fuel - 1, by simp only [List.length_cons] at hfuel; omega⟩
    have hfuel' : r.length ≤ fuel := by simp only [List.length_cons] at hfuel; omega
    cases hip : isP o.op <;> simp only [hip, cond_true, cond_false] at h
    case true =>
      cases hch : (Region.free .any ops listed i && (Region.ready .any ops listed).contains i) <;> simp only [hch, cond_true, cond_false] at h
      simp only [Bool.and_eq_true] at hch
      have hun := (mem_ready.1 (by simpa using hch.2 : i ∈ Region.ready .any ops listed)).1
      have hself : ∀ w, Keeps P g R ops i w w := fun w oj hoj' => ⟨fun _ => rfl, fun hn => (by rw [hoi] at hoj'; cases hoj'; rw [hip] at hn; cases hn)⟩
      cases hn : isN P o.op
      case true =>
        rw [opP_free hn (ev fr) R []] at h
        obtain ⟨v, hk', hr⟩ := opP_reads h
        refine AnyS.take (S0 := Own g []) hoi hs hch.1 hch.2 (fun _ _ _ h => h) (fun w _ => hself w) (fun j oj w w' hoj hj hno h0 hk => ?_) (.inl ⟨wanted_none hc.2 _, fun w' hw' => by rw [ha.eval]; exact hr w' hw'⟩) hw.right0 ?_
        · cases hpj : isP oj.op
          · exact ((hk oj hoj).2 hpj).1
          · rw [(hk oj hoj).1 hpj]; exact h0
        · refine denD_any hs fr0 hk r _ _ H hk' fuel hfuel' _ w (ha.put hc.1 v) hw ?_ (hout v)
          rintro ⟨k, ok, hk1, hk2, hk3⟩
          exact hR ⟨k, ok, hk1, hk2, unlisted_of hun hk3⟩
      case false =>
        obtain ⟨v, hk', hr⟩ := opP_reads h
        have hrd : isRd P o.op = true := by simp [isRd, hip, hn]
        have hR' : Own g R w := hR ⟨i, o, hoi, hrd, hun⟩
        refine AnyS.take (S0 := Own g R) hoi hs hch.1 hch.2 (fun _ _ _ h => h) (fun w _ => hself w) (fun j oj w w' hoj hj hno h0 hk => ?_) (.inl ⟨wanted_none hc.2 _, fun w' hw' => by rw [ha.eval]; exact hr w' hw'⟩) hR' ?_
        · cases hpj : isP oj.op
          · exact ((hk oj hoj).2 hpj).2 (needS_spec hoi hrd hj hno) h0
          · rw [(hk oj hoj).1 hpj]; exact h0
        · exact denD_any hs fr0 hk r _ _ H hk' fuel hfuel' _ w (ha.put hc.1 v) hw (fun _ => hR') (hout v)
    case false =>
      cases hch : (Region.ready .any ops listed == [i]) <;> simp only [hch, cond_true, cond_false] at h
      have hrd := beq_iff_eq.1 hch
      have hri : i ∈ Region.ready .any ops listed := by rw [hrd]; simp
      refine AnyS.all hrd (by simp) fun j hj => ?_
      simp only [List.mem_singleton] at hj
      subst hj
      unfold wpOp
      simp only [hoi, wanted_none hc.2, if_true]
      refine .inl ?_
      unfold Oper.wp
      rw [ha.eval]
      refine (opE_op (ev_func fr) h w hw).upon (fun v H' w' ho' hb => ?_) (fun ch H' w' _ h0 => h0.elim)
      obtain ⟨he, hk'⟩ := hb.of
      refine ⟨fun oj hoj' => ⟨fun hp => (by rw [hoi] at hoj'; cases hoj'; rw [hip] at hp; cases hp), fun _ => ⟨ho'.right0, fun hn _ => he hn _ _ ho'⟩⟩, denD_any hs fr0 hk r _ _ H' hk' fuel hfuel' _ w' (ha.put hc.1 v) ho' ?_ (hout v)⟩
      rintro ⟨k, ok, hk1, hk2, hk3⟩
      refine he ?_ _ _ ho'
      have hki : j ≠ k := fun e => by
        subst e
        rw [Array.getD_eq_getD_getElem?, Array.getElem?_setIfInBounds_self] at hk3
        have := (mem_ready.1 hri).1
        rw [Array.getD_eq_getD_getElem?] at this
        split at hk3
        · simp at hk3
        · rename_i hlt; rw [Array.getElem?_eq_none (by omega)] at this; simp at this
      rw [getD_set_ne true hki] at hk3
      refine needS_spec hk1 hk2 hki fun oj hj e he' hb' heq => ?_
      obtain ⟨_, o2, ho2, hall⟩ := mem_ready.1 hri
      rw [hj] at ho2; cases ho2
      have h1 := hall e he' hb'
      rw [heq, Array.getD_eq_getD_getElem?] at h1
      rw [Array.getD_eq_getD_getElem?] at hk3
      cases hg : listed[k]? with
      | none => rw [hg] at h1; simp at h1
      | some y => rw [hg] at h1 hk3; simp at h1 hk3; rw [hk3] at h1; cases h1
abbrev Mk := Obj × (Nat → Value)
def MkSliceC (elem size bytes : Nat) (zero : Value) (l c : Value) (k : Mk → Prop) : Prop :=
  ∃ kl kc ln cn, l = .int kl (ln : Nat) ∧ c = .int kc (cn : Nat) ∧ ln ≤ cn ∧ (cn : Int) ≤ 9223372036854775807 ∧ cn * bytes ≤ 281474976710656 ∧
    k (.cells (madeCells zero.cells (cn * size)) elem (0, 0), fun b => .slice (some ⟨b, 0, none⟩) ln cn)
def BuildSlC (P : Program) (t len : Nat) (parts : List (Nat × Value)) (k : Mk → Prop) : Prop :=
  ∃ cs e n z, P.underlying t = some (.slice e) ∧ sizeD P e = some n ∧ zeroD P e = some z ∧ len * n ≤ 2 ^ 24 ∧
      Instr.fill (fun i => some (i * n, n)) ((Array.range (len * n)).map (z.cells[· % z.cells.size]!)) parts = some cs ∧ k (.cells cs e (0, 0), fun b => .slice (some ⟨b, 0, none⟩) len len)
def Claim (P : Program) (o : Oper) (ρ : Operand → Value) (k : Mk → Prop) : Prop :=
  match o.op with
  | .alloc t => match zeroD P t with
    | some z => k (.cells z.cells t (0, 0), fun b => .pointer (some ⟨b, 0, none⟩))
    | none => False
  | .makeMap _ none => k (.map #[] 0, fun b => .map (some b))
  | .makeSlice t l c => match P.underlying t with
    | some (.slice e) => match sizeD P e, bytesD P e, zeroD P e with
      | some n, some b, some z => MkSliceC e n b z (ρ l) (ρ c) k
      | _, _, _ => False
    | _ => False
  | .buildSlice t len parts => BuildSlC P t len (parts.toList.map fun p => (p.1, ρ p.2)) k
  | _ => False
def Makes (P : Program) (o : Oper) (ρ : Operand → Value) (x : Mk) : Prop := ∀ w, (execOp ρ o).run P w = .ok (.value (x.2 w.heap.size)) (w.alloc x.1)
theorem Claim.makes {o : Oper} {ρ : Operand → Value} {k : Mk → Prop} (h : Claim P o ρ k) : ∃ x, Makes P o ρ x ∧ k x := by
  unfold Claim at h
  split at h
  · rename_i t hop
    split at h <;> try exact h.elim
    rename_i z hz
    obtain ⟨i, hi, hiz⟩ := zeroD_spec hz
    refine ⟨_, fun w => ?_, h⟩
    simp only [execOp, hop]
    simp [Instr.alloc, run_zero hi hiz, newVar, newRow]
  · rename_i t hop
    refine ⟨_, fun w => ?_, h⟩
    simp only [execOp, hop]
    simp [Instr.makeMap]
  · rename_i t l c hop
    split at h <;> try exact h.elim
    rename_i e ht
    split at h <;> try exact h.elim
    rename_i n b z hn hb hz
    obtain ⟨i, hi, hin⟩ := sizeD_spec hn
    obtain ⟨i', hi', hiz⟩ := zeroD_spec hz
    obtain ⟨i2, hi2, hib⟩ := bytesD_spec hb
    have e1 : i' = i := Option.some.inj (hi'.symm.trans hi)
    have e2 : i2 = i := Option.some.inj (hi2.symm.trans hi)
    subst e1; subst e2
    obtain ⟨kl, kc, ln, cn, hl, hc, hlc, hmax, hby, hk⟩ := h
    subst hin; subst hib
    refine ⟨_, fun w => ?_, hk⟩
    have e1 : IntKind.i64.wrap (ln : Int) = ln := IntWalk.i64_in _ (by omega)
    have e2 : IntKind.i64.wrap (cn : Int) = cn := IntWalk.i64_in _ (by omega)
    have e3 : ¬ ((i2.bytes : Int) * (cn : Int) > 281474976710656) := by
      have : ((cn * i2.bytes : Nat) : Int) ≤ 281474976710656 := by omega
      rw [Int.mul_comm]; push_cast at this; omega
    have e4 : ¬ ((cn : Int) < ln) := by omega
    simp only [execOp, hop]
    by_cases h0 : cn * i2.size = 0
    · simp [Instr.makeSlice, run_underlying ht, asInt, asIntOf, typeInfo, hi, hl, hc, e1, e2, e3, e4, sizeOf, zeroValue, hiz, newRow, madeCells, h0, show ¬ ((cn : Int) < 0) from by omega, show ¬ ((ln : Int) < 0) from by omega]
      have : Array.range 0 = #[] := rfl
      simp [this]
    · simp [Instr.makeSlice, run_underlying ht, asInt, asIntOf, typeInfo, hi, hl, hc, e1, e2, e3, e4, sizeOf, zeroValue, hiz, newRow, madeCells, h0, show ¬ ((cn : Int) < 0) from by omega, show ¬ ((ln : Int) < 0) from by omega]
  · rename_i t len parts hop
    obtain ⟨cs, e, n, z, ht, hn, hz, hl, hf, hk⟩ := h
    obtain ⟨i, hi, hin⟩ := sizeD_spec hn
    obtain ⟨i', hi', hiz⟩ := zeroD_spec hz
    have : i' = i := Option.some.inj (hi'.symm.trans hi)
    subst this
    subst hin
    refine ⟨_, fun w => ?_, hk⟩
    have hl' : ¬ (len * i'.size > 2 ^ 24) := by omega
    have hpl : (parts.map fun (x : Nat × Operand) => (x.1, ρ x.2)).toList = parts.toList.map fun p => (p.1, ρ p.2) := by rw [Array.toList_map]
    by_cases h0 : len * i'.size = 0
    · simp only [execOp, hop, Instr.buildSlice, Sem.run_bind, run_underlying ht, Result.andThen_ok, run_sizeOf hi, hl', if_false, h0, if_true, Sem.run_pure]
      rw [h0] at hf
      have hr0 : Array.range 0 = #[] := rfl
      simp only [hr0, Array.map_empty, List.map_toArray, List.map_nil] at hf ⊢
      rw [hpl, hf]
      simp [newRow]
    · simp only [execOp, hop, Instr.buildSlice, Sem.run_bind, run_underlying ht, Result.andThen_ok, run_sizeOf hi, hl', if_false, h0, run_zero hi hiz, Sem.run_pure]
      simp [hf, newRow]
  · exact h.elim
abbrev Cls := List (Nat × Mk)
def marks : Cls → Nat → Array Bool → Array Bool
  | [], _, l => l
  | x :: r, i, l => marks r i (cond (Nat.beq x.1 i) l (l.setIfInBounds x.1 true))
def apartAll (ops : Array Oper) (o : Oper) (i : Nat) (listed : Array Bool) : Cls → Bool
  | [] => true
  | x :: r => (Nat.beq x.1 i || listed.getD x.1 true || (match ops[x.1]? with | some of => of.apart ops o | none => false)) && apartAll ops o i listed r
def exOf : Cls → Nat → Option Mk
  | [], _ => none
  | x :: r, i => cond (Nat.beq x.1 i) (some x.2) (exOf r i)
def allL (listed : Array Bool) : Cls → Bool
  | [] => true
  | x :: r => listed.getD x.1 false && allL listed r
inductive Hn
  | e
  | h (m : Nat) (L I : List Nat) (a b : Hn)
def Hn.m : Hn → Nat | .e => 0 | .h m _ _ _ _ => m
def Hn.L : Hn → List Nat | .e => [] | .h _ L _ _ _ => L
def Hn.I : Hn → List Nat | .e => [] | .h _ _ I _ _ => I
def Hn.a : Hn → Hn | .e => .e | .h _ _ _ a _ => a
def Hn.b : Hn → Hn | .e => .e | .h _ _ _ _ b => b
def Br (v : Value) (t f : Prop) : Prop := ∃ b, v = .bool b ∧ (b = true → t) ∧ (b = false → f)
def knOf (p : Oper) (fr : Fr) : Value :=
  match p.op with
  | .move x => ev fr x
  | .assign x => ev fr x
  | _ => pickOf p fr
def isKn (p : Oper) : Bool := match p.op with | .pick .. => true | .move _ => true | .assign _ => true | _ => false
theorem knOf_run {p : Oper} {fr : Fr} {t : Bool} (hp : isKn p = true) (h : knOf p fr = .bool t) (w : World) : (execOp (ev fr) p).run P w = .ok (.value (.bool t)) w := by
  unfold isKn at hp
  unfold knOf at h
  split at h
  · rename_i x hop; simp only [execOp, hop, h]; rfl
  · rename_i x hop; simp only [execOp, hop, h]; rfl
  · rename_i h1 h2
    split at hp
    · rename_i hop; exact pickOf_run (by unfold isPick; rw [hop]) h w
    · rename_i x hop; exact absurd hop (h1 x)
    · rename_i x hop; exact absurd hop (h2 x)
    · cases hp
theorem isKn_isP {p : Oper} (hp : isKn p = true) : isP p.op = true := by
  unfold isKn at hp
  split at hp <;> first | (rename_i hop; rw [hop]; rfl) | cases hp
def wantedD (ops : Array Oper) (fr : Fr) (o : Oper) : Option Bool :=
  match o.guard with
  | none => some true
  | some (j, want) => match slotOf ops j with
    | none => none
    | some s => match fr s with
      | .bool b => some (b == want)
      | .tuple _ => some false
      | _ => none
def denE (P : Program) (g : Gh) (n : Nat) (ops : Array Oper) (R : Hp) (K : Fr → Hp → Prop) : Hn → Cls → Array Bool → Fr → Hp → Prop
  | .e, cl, listed, fr, H => cond ((Region.ready .any ops listed).isEmpty && allL listed cl) (K fr H) False
  | .h m L _ pa pb, cl, listed, fr, H =>
    match L with
    | [i] =>
      match ops[i]? with
      | none => False
      | some o =>
        cond (Nat.beq m 1)
          (cond (okDst n o.dst && o.guard.isNone && !isP o.op && !listed.getD i true && apartAll ops o i listed cl && (match exOf cl i with | none => true | some _ => false))
            (Claim P o (ev fr) fun x => denE P g n ops R K pa ((i, x) :: cl) listed fr H) False)
          (cond (okDst n o.dst && apartAll ops o i listed cl && (Region.ready .any ops listed).contains i)
            (match wantedD ops fr o with
            | none => False
            | some false => cond (Region.free .any ops listed i && (match exOf cl i with | none => true | some _ => false)) (denE P g n ops R K pa cl (listed.setIfInBounds i true) (upd fr o.dst undef) H) False
            | some true =>
              cond (Nat.beq m 3) (cond (isKn o && Region.free .any ops listed i) (match knOf o fr with
                | .bool b => denE P g n ops R K pa cl (listed.setIfInBounds i true) (upd fr o.dst (.bool b)) H
                | _ => False) False)
              (cond (isP o.op)
                (cond (Region.free .any ops listed i)
                  (opP P g o (ev fr) R fun v => cond (Nat.beq m 0) (denE P g n ops R K pa cl (listed.setIfInBounds i true) (upd fr o.dst v) H)
                    (Br v (denE P g n ops R K pa cl (listed.setIfInBounds i true) (upd fr o.dst (.bool true)) H) (denE P g n ops R K pb cl (listed.setIfInBounds i true) (upd fr o.dst (.bool false)) H))) False)
                (cond (Region.ready .any ops (marks cl i listed) == [i])
                  (match exOf cl i with
                    | some x => New H x.1 fun b H' => denE P g n ops R K pa cl (listed.setIfInBounds i true) (upd fr o.dst (x.2 b)) H'
                    | none => ∀ F, opE P (g.add F) o (ev fr) H (fun v H' => AndIf (needS P ops i) (Ent H' R) (denE P g n ops R K pa cl (listed.setIfInBounds i true) (upd fr o.dst v) H')) (fun _ _ => False)) False))) False)
    | _ => False
theorem exOf_mem {cl : Cls} {i : Nat} {x : Mk} (h : exOf cl i = some x) : (i, x) ∈ cl := by
  induction cl with
  | nil => simp [exOf] at h
  | cons y r ih =>
    simp only [exOf] at h
    cases hb : Nat.beq y.1 i <;> simp only [hb, cond_true, cond_false] at h
    · exact List.mem_cons_of_mem _ (ih h)
    · have := Nat.eq_of_beq_eq_true hb
      simp only [Option.some.injEq] at h
      subst this; subst h; exact List.mem_cons_self
theorem exOf_some {cl : Cls} {i : Nat} (h : i ∈ cl.map Prod.fst) : ∃ x, exOf cl i = some x := by
  induction cl with
  | nil => simp at h
  | cons y r ih =>
    simp only [exOf]
    cases hb : Nat.beq y.1 i
    · simp only [cond_false]
      rw [List.map_cons, List.mem_cons] at h
      rcases h with h | h
      · subst h; simp at hb
      · exact ih h
    · exact ⟨_, rfl⟩
theorem exOf_key {cl : Cls} {i : Nat} {x : Mk} (h : exOf cl i = some x) : i ∈ cl.map Prod.fst := List.mem_map.2 ⟨_, exOf_mem h, rfl⟩
theorem marks_get {l : Cls} {i : Nat} {b : Array Bool} {k : Nat} : (marks l i b)[k]? = if k ∈ l.map Prod.fst ∧ k ≠ i ∧ k < b.size then some true else b[k]? := by
  induction l generalizing b with
  | nil => simp [marks]
  | cons y r ih =>
    simp only [marks]
    cases hy : Nat.beq y.1 i
    · have hne : y.1 ≠ i := fun e => by rw [e] at hy; simp at hy
      simp only [cond_false, ih, Array.size_setIfInBounds]
      by_cases hk : k ∈ r.map Prod.fst ∧ k ≠ i ∧ k < b.size
      · rw [if_pos hk, if_pos ⟨by rw [List.map_cons]; exact List.mem_cons_of_mem _ hk.1, hk.2⟩]
      · rw [if_neg hk]
        by_cases e : y.1 = k
        · subst e
          by_cases hlt : y.1 < b.size
          · rw [if_pos ⟨by simp, hne, hlt⟩, Array.getElem?_setIfInBounds_self_of_lt hlt]
          · rw [if_neg (fun h => hlt h.2.2), Array.getElem?_eq_none (by simp; omega), Array.getElem?_eq_none (by omega)]
        · rw [Array.getElem?_setIfInBounds_ne e, if_neg]
          rintro ⟨h1, h2⟩
          rw [List.map_cons, List.mem_cons] at h1
          rcases h1 with h1 | h1
          · exact e h1.symm
          · exact hk ⟨h1, h2⟩
    · have he := Nat.eq_of_beq_eq_true hy
      simp only [cond_true, ih]
      by_cases hk : k ∈ r.map Prod.fst ∧ k ≠ i ∧ k < b.size
      · rw [if_pos hk, if_pos ⟨by rw [List.map_cons]; exact List.mem_cons_of_mem _ hk.1, hk.2⟩]
      · rw [if_neg hk, if_neg]
        rintro ⟨h1, h2, h3⟩
        rw [List.map_cons, List.mem_cons] at h1
        rcases h1 with h1 | h1
        · exact h2 (h1.trans he)
        · exact hk ⟨h1, h2, h3⟩
theorem apartAll_spec {ops : Array Oper} {o : Oper} {i : Nat} {listed : Array Bool} {l : Cls} (h : apartAll ops o i listed l = true) {f : Nat} (hf : f ∈ l.map Prod.fst) (hne : f ≠ i) (hun : listed.getD f true = false) :
    ∃ of, ops[f]? = some of ∧ of.apart ops o = true := by
  induction l with
  | nil => simp at hf
  | cons x r ih =>
    simp only [apartAll, Bool.and_eq_true, Bool.or_eq_true] at h
    rw [List.map_cons] at hf
    rcases List.mem_cons.1 hf with rfl | hf
    · rcases h.1 with (h1 | h1) | h1
      · exact absurd (Nat.eq_of_beq_eq_true h1) hne
      · rw [hun] at h1; simp at h1
      · split at h1
        · rename_i of ho; exact ⟨of, ho, h1⟩
        · simp at h1
    · exact ih h.2 hf
theorem apart_comm {ops : Array Oper} {x y : Oper} (h : x.apart ops y = true) : y.apart ops x = true := by
  unfold Oper.apart at *
  cases hx : x.dst <;> cases hy : y.dst <;> simp_all
  exact fun e => h.1.2 e.symm
theorem free_more {ops : Array Oper} {l l' : Array Bool} {i : Nat} (h : Region.free .any ops l i = true) (hm : ∀ k, l.getD k true = true → l'.getD k true = true) : Region.free .any ops l' i = true := by
  unfold Region.free at *
  split at h
  · simp at h
  · rename_i oi hoi
    rw [List.all_eq_true] at h ⊢
    intro j hj
    have := h j hj
    simp only [Bool.or_eq_true] at this ⊢
    rcases this with (h1 | h1) | h1
    · exact .inl (.inl h1)
    · exact .inl (.inr (hm j h1))
    · exact .inr h1
abbrev Early := List (Nat × Nat × Mk)
def erB (E : Early) : Hp := E.map fun x => (x.2.1, x.2.2.1)
structure ClOK (P : Program) (n : Nat) (ops : Array Oper) (listed : Array Bool) (cl : Cls) (fr : Fr) (j : Nat) (x : Mk) (o : Oper) : Prop where
  op : ops[j]? = some o
  notP : isP o.op = false
  dst : okDst n o.dst = true
  gd : o.guard.isNone = true
  makes : Makes P o (ev fr) x
  far : ∀ k y, exOf cl k = some y → k ≠ j → listed.getD k true = false → ∃ ok, ops[k]? = some ok ∧ ok.apart ops o = true
structure ErOK (P : Program) (n : Nat) (ops : Array Oper) (cl : Cls) (listed la : Array Bool) (E : Early) (fr fa : Fr) : Prop where
  mem : ∀ x ∈ E, exOf cl x.1 = some x.2.2 ∧ listed.getD x.1 true = false
  nd : (E.map Prod.fst).Nodup
  la : ∀ k, la[k]? = if k ∈ E.map Prod.fst then some true else listed[k]?
  out : ∀ s, (∀ x ∈ E, slotOf ops x.1 ≠ some s) → fa s = fr s
  at_ : ∀ x ∈ E, ∀ d, slotOf ops x.1 = some d → fa d = x.2.2.2 x.2.1
  cl : ∀ j x, exOf cl j = some x → listed.getD j true = false → ∃ o, ClOK P n ops listed cl fr j x o
section
variable {n : Nat} {ops : Array Oper} {cl : Cls} {listed la : Array Bool} {E : Early} {fr fa : Fr}
theorem ErOK.more (h : ErOK P n ops cl listed la E fr fa) {k : Nat} {b : Bool} (hk : listed.getD k b = true) : la.getD k b = true := by
  have := h.la k
  rw [Array.getD_eq_getD_getElem?] at hk ⊢
  rw [this]
  split
  · rfl
  · exact hk
theorem ErOK.ready (h : ErOK P n ops cl listed la E fr fa) {i : Nat} (hi : i ∉ E.map Prod.fst) (hr : i ∈ Region.ready .any ops listed) : i ∈ Region.ready .any ops la := by
  rw [mem_ready] at hr ⊢
  obtain ⟨h1, o, ho, hall⟩ := hr
  refine ⟨?_, o, ho, fun e he hb => h.more (hall e he hb)⟩
  have := h.la i
  rw [Array.getD_eq_getD_getElem?] at h1 ⊢
  rw [this, if_neg hi]; exact h1
theorem unset {i k : Nat} (h : (listed.setIfInBounds i true).getD k true = false) : i ≠ k ∧ listed.getD k true = false := by
  by_cases e : i = k
  · subst e
    rw [Array.getD_eq_getD_getElem?] at h
    rcases Nat.lt_or_ge i listed.size with hl | hl
    · rw [Array.getElem?_setIfInBounds_self_of_lt hl] at h; cases h
    · rw [Array.getElem?_eq_none (by simpa using hl)] at h; cases h
  · exact ⟨e, by rwa [getD_set_ne true e] at h⟩
theorem Makes.congr {o o' : Oper} {x : Mk} {v : Value} (h : Makes P o (ev fr) x) (hs : ∀ cs b, o.op ≠ .select cs b) (hap : o.apart ops o' = true) : Makes P o (ev (upd fr o'.dst v)) x := by
  have e : execOp (ev (upd fr o'.dst v)) o = execOp (ev fr) o := by
    refine execOp_congr o hs fun y hy => ?_
    cases y with
    | tmp t =>
      obtain ⟨_, _, h3⟩ := Oper.apart_spec hap
      cases hd : o'.dst with
      | none => rfl
      | some d =>
        have := h3 d hd
        have hne : Nat.beq t d = false := by
          cases hb : Nat.beq t d
          · rfl
          · have e := Nat.eq_of_beq_eq_true hb; subst e
            refine absurd ?_ this
            exact List.mem_append_left _ (List.mem_filterMap.2 ⟨Operand.tmp t, by simpa using hy, rfl⟩)
        simp only [ev, upd, hne, cond_false]
    | const v => rfl
    | global g => rfl
    | func f => rfl
  intro w; rw [e]; exact h w
theorem clStep (hs : Region.noSelect ops = true) (hcl : ∀ j x, exOf cl j = some x → listed.getD j true = false → ∃ o, ClOK P n ops listed cl fr j x o) {i : Nat} {o : Oper} (hap : apartAll ops o i listed cl = true) (v : Value) :
    ∀ j x, exOf cl j = some x → (listed.setIfInBounds i true).getD j true = false → ∃ oj, ClOK P n ops (listed.setIfInBounds i true) cl (upd fr o.dst v) j x oj := by
  intro j x hx hun
  obtain ⟨hne, hun'⟩ := unset hun
  obtain ⟨oj, h⟩ := hcl j x hx hun'
  obtain ⟨oj', ho', hap'⟩ := apartAll_spec hap (exOf_key hx) (Ne.symm hne) hun'
  rw [h.op] at ho'; cases ho'
  exact ⟨oj, h.op, h.notP, h.dst, h.gd, h.makes.congr (fun cs b => Region.noSelect_spec hs j oj cs b h.op) hap', fun k y hk hkj hku => h.far k y hk hkj (unset hku).2⟩
theorem ErOK.step (hs : Region.noSelect ops = true) (h : ErOK P n ops cl listed la E fr fa) {i : Nat} {o : Oper} (hoi : ops[i]? = some o) (hi : i ∉ E.map Prod.fst)
    (hap0 : apartAll ops o i listed cl = true) (v : Value) : ErOK P n ops cl (listed.setIfInBounds i true) (la.setIfInBounds i true) E (upd fr o.dst v) (upd fa o.dst v) := by
  have hap : ∀ x ∈ E, ∃ of, ops[x.1]? = some of ∧ of.apart ops o = true := fun x hx =>
      apartAll_spec hap0 (exOf_key (h.mem x hx).1) (fun e => hi (e ▸ List.mem_map_of_mem hx)) (h.mem x hx).2
  have hsz : la[i]? = listed[i]? := by rw [h.la i, if_neg hi]
  refine ⟨fun x hx => ⟨(h.mem x hx).1, ?_⟩, h.nd, fun k => ?_, fun s hs => ?_, fun x hx d hd => ?_, clStep hs h.cl hap0 v⟩
  · have hne : i ≠ x.1 := fun e => hi (e ▸ List.mem_map_of_mem hx)
    rw [getD_set_ne true hne]; exact (h.mem x hx).2
  · by_cases e : i = k
    · subst e
      rw [if_neg hi, Array.getElem?_setIfInBounds, Array.getElem?_setIfInBounds]
      simp only [if_true]
      have : i < la.size ↔ i < listed.size := by
        constructor
        · intro hlt; rw [Array.getElem?_eq_getElem hlt] at hsz; exact (Array.getElem?_eq_some_iff.1 hsz.symm).1
        · intro hlt; rw [Array.getElem?_eq_getElem hlt] at hsz; exact (Array.getElem?_eq_some_iff.1 hsz).1
      by_cases hlt : i < la.size
      · rw [if_pos hlt, if_pos (this.1 hlt)]
      · rw [if_neg hlt, if_neg (fun x => hlt (this.2 x))]
    · rw [Array.getElem?_setIfInBounds_ne e, Array.getElem?_setIfInBounds_ne e]; exact h.la k
  · cases hd : o.dst with
    | none => exact h.out s hs
    | some d =>
      simp only [upd]
      cases Nat.beq s d
      · exact h.out s hs
      · rfl
  · obtain ⟨of, hof, hap⟩ := hap x hx
    obtain ⟨h1, h2, h3⟩ := Oper.apart_spec hap
    have hofd : of.dst = some d := by simpa [slotOf, hof] using hd
    have := h2 d hofd
    cases hdo : o.dst with
    | none => exact h.at_ x hx d hd
    | some d' =>
      have hne : Nat.beq d d' = false := by
        cases hb : Nat.beq d d'
        · rfl
        · have e := Nat.eq_of_beq_eq_true hb; subst e; exact absurd hdo this
      simp only [upd, hne, cond_false]; exact h.at_ x hx d hd
theorem ErOK.exec (h : ErOK P n ops cl listed la E fr fa) {o : Oper}
    (hap : ∀ x ∈ E, ∃ of, ops[x.1]? = some of ∧ of.apart ops o = true) (hs : ∀ cs b, o.op ≠ .select cs b) : execOp (ev fa) o = execOp (ev fr) o := by
  refine execOp_congr o hs fun x hx => ?_
  cases x with
  | tmp t =>
    refine h.out t fun y hy e => ?_
    obtain ⟨of, hof, hap⟩ := hap y hy
    obtain ⟨h1, _, _⟩ := Oper.apart_spec hap
    refine h1 t (by simpa [slotOf, hof] using e) ?_
    exact List.mem_append_left _ (List.mem_filterMap.2 ⟨.tmp t, by simpa using hx, rfl⟩)
  | const v => rfl
  | global g => rfl
  | func f => rfl
theorem ErOK.early (h : ErOK P n ops cl listed la E fr fa) {j b : Nat} {x : Mk} (hj : exOf cl j = some x) (hjE : j ∉ E.map Prod.fst) (hun : listed.getD j true = false)
    {o : Oper} (ho : ops[j]? = some o) : ErOK P n ops cl listed (la.setIfInBounds j true) ((j, b, x) :: E) fr (upd fa o.dst (x.2 b)) := by
  obtain ⟨o', hcl⟩ := h.cl j x hj hun
  have ho' := hcl.op
  rw [ho] at ho'; cases ho'
  have hapart : ∀ y ∈ E, ∃ of, ops[y.1]? = some of ∧ of.apart ops o = true := fun y hy =>
    hcl.far y.1 _ (h.mem y hy).1 (fun e => hjE (e ▸ List.mem_map_of_mem hy)) (h.mem y hy).2
  have hltj : j < la.size := by
    have hl := h.la j
    rw [if_neg hjE] at hl
    have h2 : j < listed.size := by
      rcases Nat.lt_or_ge j listed.size with h2 | h2
      · exact h2
      · rw [Array.getD_eq_getD_getElem?, Array.getElem?_eq_none h2] at hun; simp at hun
    rw [Array.getElem?_eq_getElem h2] at hl
    exact (Array.getElem?_eq_some_iff.1 hl).1
  refine ⟨fun y hy => ?_, ?_, fun k => ?_, fun s hs => ?_, fun y hy d hd => ?_, h.cl⟩
  · rcases List.mem_cons.1 hy with rfl | hy
    · exact ⟨hj, hun⟩
    · exact h.mem y hy
  · rw [List.map_cons, List.nodup_cons]; exact ⟨hjE, h.nd⟩
  · by_cases e : j = k
    · subst e; rw [if_pos (by simp), Array.getElem?_setIfInBounds_self_of_lt hltj]
    · rw [Array.getElem?_setIfInBounds_ne e, h.la k]
      by_cases hk : k ∈ E.map Prod.fst
      · rw [if_pos hk, if_pos (by rw [List.map_cons]; exact List.mem_cons_of_mem _ hk)]
      · rw [if_neg hk, if_neg]
        rw [List.map_cons, List.mem_cons]
        rintro (h1 | hk')
        · exact e h1.symm
        · exact hk hk'
  · have hne := hs (j, b, x) (by simp)
    simp only [slotOf, ho] at hne
    rw [show upd fa o.dst (x.2 b) s = fa s from ?_]
    · exact h.out s fun y hy => hs y (by simp [hy])
    · cases hd : o.dst with
      | none => rfl
      | some d =>
        rw [hd] at hne
        have : Nat.beq s d = false := by
          cases hb : Nat.beq s d
          · rfl
          · exact absurd (congrArg some (Nat.eq_of_beq_eq_true hb).symm) hne
        simp only [upd, this, cond_false]
  · rcases List.mem_cons.1 hy with rfl | hy
    · simp only [slotOf, ho] at hd
      rw [hd]; simp [upd]
    · obtain ⟨of, hof, hap⟩ := hapart y hy
      obtain ⟨_, h2, _⟩ := Oper.apart_spec hap
      have hofd : of.dst = some d := by simpa [slotOf, hof] using hd
      have := h2 d hofd
      cases hdo : o.dst with
      | none => exact h.at_ y hy d hd
      | some d' =>
        have hne : Nat.beq d d' = false := by
          cases hb : Nat.beq d d'
          · rfl
          · have e := Nat.eq_of_beq_eq_true hb; subst e; exact absurd hdo this
        simp only [upd, hne, cond_false]; exact h.at_ y hy d hd
theorem ErOK.turn (hs : Region.noSelect ops = true) {E1 E2 : Early} {j b : Nat} {x : Mk} (h : ErOK P n ops cl listed la (E1 ++ (j, b, x) :: E2) fr fa) {o : Oper} (ho : ops[j]? = some o) (hap0 : apartAll ops o j listed cl = true) :
    ErOK P n ops cl (listed.setIfInBounds j true) la (E1 ++ E2) (upd fr o.dst (x.2 b)) fa := by
  have hnd := h.nd
  rw [List.map_append, List.map_cons] at hnd
  have hjn : j ∉ (E1 ++ E2).map Prod.fst := by
    have := (List.perm_middle.nodup_iff.1 hnd)
    rw [List.nodup_cons] at this
    rw [List.map_append]; exact this.1
  have hsub : ∀ y, y ∈ E1 ++ E2 → y ∈ E1 ++ (j, b, x) :: E2 := fun y hy => by
    rcases List.mem_append.1 hy with hy | hy <;> simp [hy]
  have hjl : j < listed.size := by
    have h2 := (h.mem (j, b, x) (by simp)).2
    rcases Nat.lt_or_ge j listed.size with h3 | h3
    · exact h3
    · simp only at h2; rw [Array.getD_eq_getD_getElem?, Array.getElem?_eq_none h3] at h2; simp at h2
  refine ⟨fun y hy => ⟨(h.mem y (hsub y hy)).1, ?_⟩, ?_, fun k => ?_, fun s hs => ?_, fun y hy d hd => h.at_ y (hsub y hy) d hd, clStep hs h.cl hap0 _⟩
  · have hne : j ≠ y.1 := fun e => hjn (e ▸ List.mem_map_of_mem hy)
    rw [getD_set_ne true hne]; exact (h.mem y (hsub y hy)).2
  · have := (List.perm_middle.nodup_iff.1 hnd)
    rw [List.nodup_cons] at this
    rw [List.map_append]; exact this.2
  · have hk := h.la k
    by_cases e : j = k
    · subst e
      rw [if_pos (by simp)] at hk
      rw [hk, if_neg hjn, Array.getElem?_setIfInBounds_self_of_lt hjl]
    · rw [Array.getElem?_setIfInBounds_ne e, hk]
      have : k ∈ (E1 ++ (j, b, x) :: E2).map Prod.fst ↔ k ∈ (E1 ++ E2).map Prod.fst := by
        simp only [List.map_append, List.map_cons, List.mem_append, List.mem_cons]
        constructor
        · rintro (h | rfl | h)
          · exact .inl h
          · exact absurd rfl e
          · exact .inr h
        · rintro (h | h)
          · exact .inl h
          · exact .inr (.inr h)
      simp only [this]
  · by_cases e : slotOf ops j = some s
    · rw [h.at_ (j, b, x) (by simp) s e]
      simp only [slotOf, ho] at e
      rw [e]; simp [upd]
    · rw [h.out s fun y hy => ?_]
      · simp only [slotOf, ho] at e
        cases hd : o.dst with
        | none => rfl
        | some d =>
          rw [hd] at e
          have : Nat.beq s d = false := by
            cases hb : Nat.beq s d
            · rfl
            · exact absurd (congrArg some (Nat.eq_of_beq_eq_true hb).symm) e
          simp only [upd, this, cond_false]
      · rcases List.mem_append.1 hy with hy | hy
        · exact hs y (by simp [hy])
        · rcases List.mem_cons.1 hy with rfl | hy
          · exact e
          · exact hs y (by simp [hy])
theorem ErOK.claim (h : ErOK P n ops cl listed la E fr fa) {i : Nat} {o : Oper} {x : Mk} (ho : ops[i]? = some o) (hd : okDst n o.dst = true) (hg : o.guard.isNone = true) (hp : isP o.op = false) (hun : listed.getD i true = false)
    (hap : apartAll ops o i listed cl = true) (hno : exOf cl i = none) (hm : Makes P o (ev fr) x) : ErOK P n ops ((i, x) :: cl) listed la E fr fa := by
  have hne : ∀ j y, exOf cl j = some y → j ≠ i := fun j y hj e => by subst e; rw [hno] at hj; cases hj
  have hex : ∀ j y, exOf cl j = some y → exOf ((i, x) :: cl) j = some y := fun j y hj => by
    have : Nat.beq i j = false := by
      cases hb : Nat.beq i j
      · rfl
      · exact absurd (Nat.eq_of_beq_eq_true hb).symm (hne j y hj)
    simp only [exOf, this, cond_false]; exact hj
  have hex' : ∀ j y, exOf ((i, x) :: cl) j = some y → (j = i ∧ y = x) ∨ (j ≠ i ∧ exOf cl j = some y) := fun j y hj => by
    simp only [exOf] at hj
    cases hb : Nat.beq i j <;> simp only [hb, cond_true, cond_false] at hj
    · exact .inr ⟨fun e => by subst e; simp at hb, hj⟩
    · exact .inl ⟨(Nat.eq_of_beq_eq_true hb).symm, by simpa using hj.symm⟩
  refine ⟨fun y hy => ⟨hex _ _ (h.mem y hy).1, (h.mem y hy).2⟩, h.nd, h.la, h.out, h.at_, fun j y hj hu => ?_⟩
  rcases hex' j y hj with ⟨rfl, rfl⟩ | ⟨hji, hj2⟩
  · refine ⟨o, ho, hp, hd, hg, hm, fun k z hk hkj hku => ?_⟩
    rcases hex' k z hk with ⟨rfl, rfl⟩ | ⟨_, hk⟩
    · exact absurd rfl hkj
    · exact apartAll_spec hap (exOf_key hk) hkj hku
  · obtain ⟨oj, hc⟩ := h.cl j y hj2 hu
    refine ⟨oj, hc.op, hc.notP, hc.dst, hc.gd, hc.makes, fun k z hk hkj hku => ?_⟩
    rcases hex' k z hk with ⟨rfl, rfl⟩ | ⟨_, hk⟩
    · obtain ⟨oj', h1, h2⟩ := apartAll_spec hap (exOf_key hj2) hji hu
      rw [hc.op] at h1; cases h1
      exact ⟨o, ho, apart_comm h2⟩
    · exact hc.far k z hk hkj hku
end
theorem erB_split {E1 E2 : Early} {y : Nat × Nat × Mk} : (erB (E1 ++ y :: E2)).Perm ((y.2.1, y.2.2.1) :: erB (E1 ++ E2)) := by
  unfold erB
  rw [List.map_append, List.map_cons, List.map_append]
  exact List.perm_middle
def cnt : List Bool → Nat
  | [] => 0
  | b :: r => cond b 0 1 + cnt r
theorem cnt_set : ∀ (l : List Bool) (i : Nat), l[i]? = some false → cnt (l.set i true) + 1 = cnt l
  | [], i, h => by simp at h
  | b :: r, 0, h => by simp only [List.getElem?_cons_zero, Option.some.injEq] at h; subst h; simp only [List.set_cons_zero, cnt, cond_true, cond_false]; omega
  | b :: r, i + 1, h => by
    simp only [List.getElem?_cons_succ] at h
    have := cnt_set r i h
    simp only [List.set_cons_succ, cnt]; omega
theorem cnt_replicate (n : Nat) : cnt (List.replicate n false) = n := by
  induction n with
  | zero => rfl
  | succ n ih => simp only [List.replicate_succ, cnt, ih, cond_false]; omega
theorem getD_true_false {a : Array Bool} {i : Nat} (h : a.getD i true = false) : a[i]? = some false := by
  rw [Array.getD_eq_getD_getElem?] at h
  cases hg : a[i]? with
  | none => rw [hg] at h; simp at h
  | some b => rw [hg] at h; simpa using h
theorem cnt_step {a : Array Bool} {i fuel : Nat} (h : a.getD i true = false) (hf : cnt a.toList ≤ fuel) : ∃ f, fuel = f + 1 ∧ cnt (a.setIfInBounds i true).toList ≤ f := by
  have h1 := getD_true_false h
  have h2 : a.toList[i]? = some false := by rw [Array.getElem?_toList]; exact h1
  have := cnt_set _ _ h2
  refine ⟨fuel - 1, by omega, ?_⟩
  have : (a.setIfInBounds i true).toList = a.toList.set i true := by simp
  rw [this]; omega
theorem allL_spec {listed : Array Bool} {l : Cls} (h : allL listed l = true) {f : Nat} (hf : f ∈ l.map Prod.fst) : listed.getD f false = true := by
  induction l with
  | nil => simp at hf
  | cons x r ih =>
    simp only [allL, Bool.and_eq_true] at h
    rw [List.map_cons] at hf
    rcases List.mem_cons.1 hf with rfl | hf
    · exact h.1
    · exact ih h.2 hf
theorem getD_ff {a : Array Bool} {i : Nat} (h : a.getD i false = true) : a.getD i true = true := by
  rw [Array.getD_eq_getD_getElem?] at *
  cases hg : a[i]? with
  | none => rfl
  | some b => rw [hg] at h; simpa using h
theorem denE_any {n : Nat} {ops : Array Oper} {R : Hp} {K : Fr → Hp → Prop} {Q : Exit → Act → World → Prop} (hs : Region.noSelect ops = true) (fr0 : Fr)
    (hk : ∀ a w fr H, Agree ds n a fr → Own g H w → OutEq ops.toList fr0 fr → K fr H → Q .normal a w) :
    ∀ (fuel : Nat) (l : Hn) (cl : Cls) (listed : Array Bool) (fr : Fr) (H : Hp), denE P g n ops R K l cl listed fr H → ∀ (E : Early) (la : Array Bool) (fa : Fr), cnt la.toList ≤ fuel → ErOK P n ops cl listed la E fr fa →
      ∀ (a : Act) (w : World), Agree ds n a fa → Own (g.add (erB E)) H w → ((∃ k ok, ops[k]? = some ok ∧ isRd P ok.op = true ∧ la.getD k true = false) → Own g R w) → OutEq ops.toList fr0 fr →
      AnyS P .any ops (NoPan Q) (Keeps P g R ops) fuel la a w
  | fuel, .e, cl, listed, fr, H, h => by
    intro E la fa hfuel hE a w ha hw hR ho
    unfold denE at h
    cases hr : ((Region.ready .any ops listed).isEmpty && allL listed cl) <;> simp only [hr, cond_true, cond_false] at h
    simp only [Bool.and_eq_true] at hr
    have hr' : Region.ready .any ops listed = [] := by simpa using hr.1
    have hE0 : E = [] := by
      cases E with
      | nil => rfl
      | cons x y =>
        have h1 := hE.mem x (by simp)
        have h2 := getD_ff (allL_spec hr.2 (exOf_key h1.1))
        rw [h1.2] at h2; cases h2
    subst hE0
    have hfa : fa = fr := by funext s; exact hE.out s (by simp)
    subst hfa
    refine AnyS.done (Q := NoPan Q) ?_ (hk a w fa H ha hw ho h) fuel
    rw [List.eq_nil_iff_forall_not_mem] at hr' ⊢
    intro k hk'
    refine hr' k ?_
    rw [mem_ready] at hk' ⊢
    obtain ⟨h1, o, h2, h3⟩ := hk'
    have hla := fun k => hE.la k
    simp only [List.map_nil, List.not_mem_nil, if_false] at hla
    refine ⟨?_, o, h2, fun e he hb => ?_⟩
    · rw [Array.getD_eq_getD_getElem?, ← hla, ← Array.getD_eq_getD_getElem?]; exact h1
    · rw [Array.getD_eq_getD_getElem?, ← hla, ← Array.getD_eq_getD_getElem?]; exact h3 e he hb
  | fuel, .h m L _ pa pb, cl, listed, fr, H, h => by
    intro E la fa hfuel hE a w ha hw hR ho
    have h0 := h
    unfold denE at h
    split at h <;> try exact h.elim
    rename_i i
    split at h <;> try exact h.elim
    rename_i o hoi
    cases h1 : Nat.beq m 1 <;> simp only [h1, cond_true, cond_false] at h
    case true =>
      cases hc : (okDst n o.dst && o.guard.isNone && !isP o.op && !listed.getD i true && apartAll ops o i listed cl && (match exOf cl i with | none => true | some _ => false)) <;> simp only [hc, cond_true, cond_false] at h
      simp only [Bool.and_eq_true, Bool.not_eq_true'] at hc
      obtain ⟨⟨⟨⟨⟨hd, hg⟩, hp⟩, hun⟩, hap⟩, hno⟩ := hc
      have hno' : exOf cl i = none := by
        split at hno
        · assumption
        · cases hno
      obtain ⟨x, hm, hk'⟩ := h.makes
      exact denE_any hs fr0 hk fuel pa _ listed fr H hk' E la fa hfuel (hE.claim hoi hd hg hp hun hap hno' hm) a w ha hw hR ho
    have hmem : o ∈ ops.toList := Array.mem_toList_iff.2 (Array.mem_of_getElem? hoi)
    have hout : ∀ v, OutEq ops.toList fr0 (upd fr o.dst v) := fun v s hs' => by
      rw [upd_ne, ho s hs']
      have : ∀ l : List Oper, o ∈ l → inDsts l s = false → inDsts [({ (default : Oper) with dst := o.dst })] s = false := by
        intro l
        induction l with
        | nil => intro h; simp at h
        | cons x y ih =>
          intro hm hi
          rw [inDsts_cons, Bool.or_eq_false_iff] at hi
          rcases List.mem_cons.1 hm with rfl | hm
          · exact hi.1
          · exact ih hm hi.2
      exact this _ hmem hs'
    cases hc : (okDst n o.dst && apartAll ops o i listed cl && (Region.ready .any ops listed).contains i) <;> simp only [hc, cond_true, cond_false] at h
    simp only [Bool.and_eq_true] at hc
    obtain ⟨⟨hd, hap0⟩, hri0⟩ := hc
    have hri : i ∈ Region.ready .any ops listed := by simpa using hri0
    have hun := (mem_ready.1 hri).1
    have hap : i ∉ E.map Prod.fst → ∀ x ∈ E, ∃ of, ops[x.1]? = some of ∧ of.apart ops o = true := fun hi x hx =>
      apartAll_spec hap0 (exOf_key (hE.mem x hx).1) (fun e => hi (e ▸ List.mem_map_of_mem hx)) (hE.mem x hx).2
    have hsel : ∀ cs b, o.op ≠ .select cs b := fun cs b => Region.noSelect_spec hs i o cs b hoi
    have unla : ∀ j, j ∈ Region.ready .any ops la → j ∉ E.map Prod.fst ∧ listed.getD j true = false := fun j hj => by
      have h1 := getD_true_false (mem_ready.1 hj).1
      have h2 := hE.la j
      by_cases hjE : j ∈ E.map Prod.fst
      · rw [if_pos hjE, h1] at h2; cases h2
      · rw [if_neg hjE, h1] at h2
        exact ⟨hjE, by rw [Array.getD_eq_getD_getElem?, ← h2]; rfl⟩
    have early : ∀ f', fuel = f' + 1 → (∀ j, la.getD j true = false → cnt (la.setIfInBounds j true).toList ≤ f') → ∀ j x, j ∈ Region.ready .any ops la → exOf cl j = some x →
        wpOp P ops (NoPan Q) j (fun a' w' => Keeps P g R ops j w w' ∧ AnyS P .any ops (NoPan Q) (Keeps P g R ops) f' (la.setIfInBounds j true) a' w') a w := by
      intro f' hf' hcnt j x hj hjf
      obtain ⟨hjE, hjl⟩ := unla j hj
      obtain ⟨oj, hcl⟩ := hE.cl j x hjf hjl
      have hoj := hcl.op
      have hpj := hcl.notP
      have hgj := hcl.gd
      have hexj : execOp (ev fa) oj = execOp (ev fr) oj := hE.exec (fun y hy => hcl.far y.1 _ (hE.mem y hy).1 (fun e => hjE (e ▸ List.mem_map_of_mem hy)) (hE.mem y hy).2) (fun cs b => Region.noSelect_spec hs j oj cs b hoj)
      unfold wpOp
      simp only [hoj, wanted_none hgj, if_true]
      refine .inl ?_
      unfold Oper.wp
      rw [ha.eval, hexj, hcl.makes w]
      simp only [Oper.upon]
      have hal : ∀ {A : Hp}, Own g A w → Own g A (w.alloc x.1) := fun hA => (hA.alloc x.1).tail
      refine ⟨fun oj' hoj' => ⟨fun hp => ?_, fun _ => ⟨hal (Own.framed.2 hw).right0, fun _ h1 => hal h1⟩⟩, ?_⟩
      · rw [hoj] at hoj'; cases hoj'; rw [hpj] at hp; cases hp
      · have hE' := hE.early (b := w.heap.size) hjf hjE hjl hoj
        refine denE_any hs fr0 hk f' (.h m [i] _ pa pb) cl listed fr H h0 ((j, w.heap.size, x) :: E) _ _ (hcnt j (mem_ready.1 hj).1) hE' _ _ (ha.put hcl.dst _) ?_ ?_ ho
        · have h1 := hw.alloc x.1
          have h2 : Own (g.add (erB E)) (H ++ [(w.heap.size, x.1)]) (w.alloc x.1) := h1.perm (by exact (List.perm_append_comm (l₁ := [(w.heap.size, x.1)]) (l₂ := H)))
          have h3 := Own.framed.1 h2
          exact h3
        · rintro ⟨k, ok, hk1, hk2, hk3⟩
          refine hal (hR ⟨k, ok, hk1, hk2, unlisted_of (mem_ready.1 hj).1 hk3⟩)
    have hwant : ∀ b, wantedD ops fr o = some b → i ∉ E.map Prod.fst → Region.wanted o (yielded ops a.tmps) = b := by
      intro b hb hiE
      unfold wantedD at hb
      unfold Region.wanted
      split at hb
      · rename_i hg; simp only [hg]; simpa using hb
      · rename_i j want hg
        simp only [hg]
        split at hb <;> try (cases hb; done)
        rename_i s hslot
        rw [yielded_of ha hslot]
        have hfs : fa s = fr s := hE.out s fun y hy e => by
          obtain ⟨of, hof, hap⟩ := hap hiE y hy
          obtain ⟨h1, _, _⟩ := Oper.apart_spec hap
          refine h1 s (by simpa [slotOf, hof] using e) ?_
          refine List.mem_append_right _ ?_
          rw [hg]
          unfold slotOf at hslot
          cases hj : ops[j]? with
          | none => rw [hj] at hslot; cases hslot
          | some oj => rw [hj] at hslot; simp only at hslot; simp [hj, hslot]
        rw [hfs]
        split at hb
        · rename_i c hc; rw [hc]; simp only [Option.some.injEq] at hb; subst hb; cases c <;> cases want <;> rfl
        · rename_i c hc; rw [hc]; simp only [Option.some.injEq] at hb; subst hb; cases want <;> rfl
        · cases hb
    split at h <;> try exact h.elim
    · -- not wanted
      rename_i hwd
      cases hch : (Region.free .any ops listed i && (match exOf cl i with | none => true | some _ => false)) <;> simp only [hch, cond_true, cond_false] at h
      simp only [Bool.and_eq_true] at hch
      have hno' : exOf cl i = none := by
        have := hch.2
        split at this
        · assumption
        · cases this
      have hiE : i ∉ E.map Prod.fst := fun hm => by
        obtain ⟨x, hx, e⟩ := List.mem_map.1 hm
        have := (hE.mem x hx).1
        rw [e, hno'] at this; cases this
      have hria := hE.ready hiE hri
      have hunA := (mem_ready.1 hria).1
      obtain ⟨f', rfl, hcnt⟩ := cnt_step hunA hfuel
      have hfree := free_more (l' := la) hch.1 (fun k hk => hE.more hk)
      have hcon : (Region.ready .any ops la).contains i = true := by simpa using hria
      refine AnyS.take (S0 := Own g []) hoi hs hfree hcon (fun _ _ _ h => h) (fun w hw oj hoj => ⟨fun _ => rfl, fun _ => ⟨hw, fun _ h => h⟩⟩) (fun j oj w w' hoj hj hno h0 hk => ?_) (.inr ⟨hwant false hwd hiE, rfl⟩) (Own.framed.2 hw).right0 ?_
      · cases hpj : isP oj.op
        · exact ((hk oj hoj).2 hpj).1
        · rw [(hk oj hoj).1 hpj]; exact h0
      · refine denE_any hs fr0 hk f' pa cl _ _ H h E _ _ hcnt (hE.step hs hoi hiE hap0 _) _ w (ha.put hd _) hw ?_ (hout _)
        rintro ⟨k, ok, hk1, hk2, hk3⟩
        exact hR ⟨k, ok, hk1, hk2, unlisted_of hunA hk3⟩
    rename_i hwd
    have hgw := hwant true hwd
    have hcont : ∀ v f' la' a' w', (cond (Nat.beq m 0) (denE P g n ops R K pa cl (listed.setIfInBounds i true) (upd fr o.dst v) H)
                    (Br v (denE P g n ops R K pa cl (listed.setIfInBounds i true) (upd fr o.dst (.bool true)) H) (denE P g n ops R K pb cl (listed.setIfInBounds i true) (upd fr o.dst (.bool false)) H))) →
        cnt la'.toList ≤ f' → ErOK P n ops cl (listed.setIfInBounds i true) la' E (upd fr o.dst v) (upd fa o.dst v) → Agree ds n a' (upd fa o.dst v) → Own (g.add (erB E)) H w' →
        ((∃ k ok, ops[k]? = some ok ∧ isRd P ok.op = true ∧ la'.getD k true = false) → Own g R w') → f' < fuel → AnyS P .any ops (NoPan Q) (Keeps P g R ops) f' la' a' w' := by
      intro v f' la' a' w' hv h1 h2 h3 h4 h5 hlt
      cases hm : Nat.beq m 0 <;> simp only [hm, cond_true, cond_false] at hv
      · obtain ⟨b, rfl, hb1, hb2⟩ := hv
        cases b
        · exact denE_any hs fr0 hk f' pb cl _ _ H (hb2 rfl) E la' _ h1 h2 a' w' h3 h4 h5 (hout _)
        · exact denE_any hs fr0 hk f' pa cl _ _ H (hb1 rfl) E la' _ h1 h2 a' w' h3 h4 h5 (hout _)
      · exact denE_any hs fr0 hk f' pa cl _ _ H hv E la' _ h1 h2 a' w' h3 h4 h5 (hout _)
    cases h3 : Nat.beq m 3 <;> simp only [h3, cond_true, cond_false] at h
    case true =>
      cases hch : (isKn o && Region.free .any ops listed i) <;> simp only [hch, cond_true, cond_false] at h
      simp only [Bool.and_eq_true] at hch
      split at h <;> try exact h.elim
      rename_i b hpv
      have hip : isP o.op = true := isKn_isP hch.1
      have hiE : i ∉ E.map Prod.fst := fun hm => by
        obtain ⟨x, hx, e⟩ := List.mem_map.1 hm
        have h2 := hE.mem x hx
        obtain ⟨o', hcl⟩ := hE.cl _ _ h2.1 h2.2
        have h3 := hcl.op
        rw [e, hoi] at h3; cases h3
        have := hcl.notP
        rw [hip] at this; cases this
      have hria := hE.ready hiE hri
      have hunA := (mem_ready.1 hria).1
      obtain ⟨f', rfl, hcnt⟩ := cnt_step hunA hfuel
      have hfree := free_more (l' := la) hch.2 (fun k hk => hE.more hk)
      have hcon : (Region.ready .any ops la).contains i = true := by simpa using hria
      have hself : ∀ w, Keeps P g R ops i w w := fun w oj hoj' => ⟨fun _ => rfl, fun hn => (by rw [hoi] at hoj'; cases hoj'; rw [hip] at hn; cases hn)⟩
      have hexe := hE.exec (hap hiE) hsel
      refine AnyS.take (S0 := Own g []) hoi hs hfree hcon (fun _ _ _ h => h) (fun w _ => hself w) (fun j oj w w' hoj hj hno h0 hk => ?_) (.inl ⟨hgw hiE, fun w' hw' => by rw [ha.eval, hexe]; exact knOf_run hch.1 hpv w'⟩) (Own.framed.2 hw).right0 ?_
      · cases hpj : isP oj.op
        · exact ((hk oj hoj).2 hpj).1
        · rw [(hk oj hoj).1 hpj]; exact h0
      · refine denE_any hs fr0 hk f' pa cl _ _ H h E _ _ hcnt (hE.step hs hoi hiE hap0 _) _ w (ha.put hd _) hw ?_ (hout _)
        rintro ⟨k, ok, hk1, hk2, hk3⟩
        exact hR ⟨k, ok, hk1, hk2, unlisted_of hunA hk3⟩
    cases hip : isP o.op <;> simp only [hip, cond_true, cond_false] at h
    case true =>
      cases hch : (Region.free .any ops listed i) <;> simp only [hch, cond_true, cond_false] at h
      have hiE : i ∉ E.map Prod.fst := fun hm => by
        obtain ⟨x, hx, e⟩ := List.mem_map.1 hm
        have h2 := hE.mem x hx
        obtain ⟨o', hcl⟩ := hE.cl _ _ h2.1 h2.2
        have h3 := hcl.op
        rw [e, hoi] at h3; cases h3
        have := hcl.notP
        rw [hip] at this; cases this
      have hria := hE.ready hiE hri
      have hunA := (mem_ready.1 hria).1
      obtain ⟨f', rfl, hcnt⟩ := cnt_step hunA hfuel
      have hfree := free_more (l' := la) hch (fun k hk => hE.more hk)
      have hcon : (Region.ready .any ops la).contains i = true := by simpa using hria
      have hself : ∀ w, Keeps P g R ops i w w := fun w oj hoj' => ⟨fun _ => rfl, fun hn => (by rw [hoi] at hoj'; cases hoj'; rw [hip] at hn; cases hn)⟩
      have hst := fun v => hE.step hs hoi hiE hap0 v
      have hexe := hE.exec (hap hiE) hsel
      cases hn : isN P o.op
      case true =>
        rw [opP_free hn (ev fr) R []] at h
        obtain ⟨v, hk', hr⟩ := opP_reads h
        refine AnyS.take (S0 := Own g []) hoi hs hfree hcon (fun _ _ _ h => h) (fun w _ => hself w) (fun j oj w w' hoj hj hno h0 hk => ?_) (.inl ⟨hgw hiE, fun w' hw' => by rw [ha.eval, hexe]; exact hr w' hw'⟩) (Own.framed.2 hw).right0 ?_
        · cases hpj : isP oj.op
          · exact ((hk oj hoj).2 hpj).1
          · rw [(hk oj hoj).1 hpj]; exact h0
        · refine hcont v f' _ _ w hk' hcnt (hst v) (ha.put hd v) hw ?_ (by omega)
          rintro ⟨k, ok, hk1, hk2, hk3⟩
          exact hR ⟨k, ok, hk1, hk2, unlisted_of hunA hk3⟩
      case false =>
        obtain ⟨v, hk', hr⟩ := opP_reads h
        have hrd : isRd P o.op = true := by simp [isRd, hip, hn]
        have hR' : Own g R w := hR ⟨i, o, hoi, hrd, hunA⟩
        refine AnyS.take (S0 := Own g R) hoi hs hfree hcon (fun _ _ _ h => h) (fun w _ => hself w) (fun j oj w w' hoj hj hno h0 hk => ?_) (.inl ⟨hgw hiE, fun w' hw' => by rw [ha.eval, hexe]; exact hr w' hw'⟩) hR' ?_
        · cases hpj : isP oj.op
          · exact ((hk oj hoj).2 hpj).2 (needS_spec hoi hrd hj hno) h0
          · rw [(hk oj hoj).1 hpj]; exact h0
        · exact hcont v f' _ _ w hk' hcnt (hst v) (ha.put hd v) hw (fun _ => hR') (by omega)
    case false =>
      cases hch : (Region.ready .any ops (marks cl i listed) == [i]) <;> simp only [hch, cond_true, cond_false] at h
      have hrd := beq_iff_eq.1 hch
      by_cases hiE : i ∈ E.map Prod.fst
      · obtain ⟨⟨i', b, x⟩, hx, e⟩ := List.mem_map.1 hiE
        simp only at e; subst e
        have hex : exOf cl i' = some x := (hE.mem _ hx).1
        simp only [hex] at h
        obtain ⟨E1, E2, rfl⟩ := List.append_of_mem hx
        have hw1 : Own (g.add (erB (E1 ++ E2))) ((b, x.1) :: H) w := by
          have h1 := (Own.framed.2 hw).perm ((List.Perm.append_left H (erB_split (E1 := E1) (E2 := E2) (y := (i', b, x)))).trans List.perm_middle)
          exact (Own.framed (A := (b, x.1) :: H)).1 h1
        have hb : b ∉ H.map Prod.fst := by
          have := hw1.nd
          rw [List.cons_append, List.map_cons, List.nodup_cons, List.map_append, List.mem_append] at this
          exact fun h => this.1 (.inl h)
        exact denE_any hs fr0 hk fuel pa cl _ _ _ (h b hb) (E1 ++ E2) la fa hfuel (hE.turn hs hoi hap0) a w ha hw1 hR (hout _)
      · have hria := hE.ready hiE hri
        have hunA := (mem_ready.1 hria).1
        obtain ⟨f', rfl, hcnt⟩ := cnt_step hunA hfuel
        have hcntA : ∀ j, la.getD j true = false → cnt (la.setIfInBounds j true).toList ≤ f' := fun j hj => by
          obtain ⟨f2, h1, h2⟩ := cnt_step hj hfuel
          have : f2 = f' := by omega
          subst this; exact h2
        have hst := fun v => hE.step hs hoi hiE hap0 v
        have hexe := hE.exec (hap hiE) hsel
        refine AnyS.all rfl (fun e => by rw [e] at hria; simp at hria) fun j hj => ?_
        by_cases hji : j = i
        · subst hji
          have notP : ∀ oj, ops[j]? = some oj → isP oj.op = true → False := fun oj hoj hp => by rw [hoi] at hoj; cases hoj; rw [hip] at hp; cases hp
          unfold wpOp
          simp only [hoi, hgw hiE, if_true]
          refine .inl ?_
          unfold Oper.wp
          rw [ha.eval, hexe]
          cases hex : exOf cl j with
          | none =>
            simp only [hex] at h
            have h := h (erB E)
            refine (opE_op (ev_func fr) h w hw).upon (fun v H' w' ho' hb => ?_) (fun ch H' w' _ h0 => h0.elim)
            obtain ⟨he, hk'⟩ := hb.of
            have hRof : needS P ops j = true → Own g R w' := fun hn => (Own.framed.2 (he hn _ _ ho')).left
            refine ⟨fun oj hoj' => ⟨fun hp => (notP oj hoj' hp).elim, fun _ => ⟨(Own.framed.2 ho').right0, fun hn _ => hRof hn⟩⟩, denE_any hs fr0 hk f' pa cl _ _ H' hk' E _ _ hcnt (hst v) _ w' (ha.put hd v) ho' ?_ (hout v)⟩
            rintro ⟨k, ok, hk1, hk2, hk3⟩
            refine hRof ?_
            have hki : j ≠ k := fun e => by
              subst e
              have h1 := getD_true_false hunA
              have hlt := (Array.getElem?_eq_some_iff.1 h1).1
              rw [Array.getD_eq_getD_getElem?, Array.getElem?_setIfInBounds_self_of_lt hlt] at hk3
              cases hk3
            rw [getD_set_ne true hki] at hk3
            refine needS_spec hk1 hk2 hki fun oj hj e he' hb' heq => ?_
            obtain ⟨_, o2, ho2, hall⟩ := mem_ready.1 hria
            rw [hj] at ho2; cases ho2
            have h1 := hall e he' hb'
            rw [heq] at h1
            rw [getD_ff h1] at hk3; cases hk3
          | some x =>
            simp only [hex] at h
            obtain ⟨oj, hcl⟩ := hE.cl j x hex hun
            have hoj := hcl.op
            rw [hoi] at hoj; cases hoj
            rw [hcl.makes w]
            simp only [Oper.upon]
            have hal : ∀ {A : Hp}, Own g A w → Own g A (w.alloc x.1) := fun hA => (hA.alloc x.1).tail
            refine ⟨fun oj hoj' => ⟨fun hp => (notP oj hoj' hp).elim, fun _ => ⟨hal (Own.framed.2 hw).right0, fun _ h1 => hal h1⟩⟩, ?_⟩
            refine denE_any hs fr0 hk f' pa cl _ _ _ (h _ hw.fresh) E _ _ hcnt (hst _) _ _ (ha.put hd _) (hw.alloc x.1) ?_ (hout _)
            rintro ⟨k, ok, hk1, hk2, hk3⟩
            exact hal (hR ⟨k, ok, hk1, hk2, unlisted_of hunA hk3⟩)
        · obtain ⟨hjE, hjl⟩ := unla j hj
          cases hjf0 : exOf cl j with
          | some x => exact early f' rfl hcntA j x hj hjf0
          | none =>
          refine absurd ?_ hji
          have hjf : j ∉ cl.map Prod.fst := fun hm => by
            obtain ⟨x, hx⟩ := exOf_some hm
            rw [hjf0] at hx; cases hx
          have hjm : j ∈ Region.ready .any ops (marks cl i listed) := by
            obtain ⟨_, oj, hoj, hall⟩ := mem_ready.1 hj
            rw [mem_ready]
            refine ⟨?_, oj, hoj, fun e he hb => ?_⟩
            · rw [Array.getD_eq_getD_getElem?, marks_get, if_neg (fun h => hjf h.1), ← Array.getD_eq_getD_getElem?]; exact hjl
            · have h1 := hall e he hb
              have h2 := hE.la e.on
              rw [Array.getD_eq_getD_getElem?] at h1 ⊢
              rw [marks_get]
              by_cases hm : e.on ∈ E.map Prod.fst
              · obtain ⟨x, hx, e2⟩ := List.mem_map.1 hm
                have hlx := getD_true_false (hE.mem x hx).2
                rw [e2] at hlx
                have hlt := (Array.getElem?_eq_some_iff.1 hlx).1
                rw [if_pos ⟨e2 ▸ exOf_key (hE.mem x hx).1, fun e3 => hiE (e3 ▸ hm), hlt⟩]; rfl
              · rw [if_neg hm] at h2
                split
                · rfl
                · rw [← h2]; exact h1
          rw [hrd] at hjm
          simpa using hjm
  termination_by fuel l => (fuel, SizeOf.sizeOf l)
def inC : Code → Nat → Bool
  | .region _ ops _, s => inDsts ops.toList s
  | .seq a b, s => inC a s || inC b s
  | .cond _ a b, s => inC a s || inC b s
  | .block _ c, s => inC c s
  | .loop c, s => inC c s
  | .skip, _ => false
  | .ret, _ => false
  | .exit _, _ => false
  | _, _ => true
def noW (c : Code) : List Nat → Bool
  | [] => true
  | s :: r => !inC c s && noW c r
def elemB (s : Nat) : List Nat → Bool
  | [] => false
  | x :: r => Nat.beq s x || elemB s r
def mixL : List Nat → List Value → Fr → Fr
  | l :: L, v :: vs, base => fun s => cond (Nat.beq s l) v (mixL L vs base s)
  | _, _, base => base
def mix (L : List Nat) (vs : List Value) (I : List Nat) (fr gs : Fr) : Fr := mixL L vs fun s => cond (elemB s I) (fr s) (gs s)
def frs (fr : Fr) : List Nat → List Value
  | [] => []
  | s :: r => fr s :: frs fr r
def AllV : Nat → (List Value → Prop) → Prop
  | 0, p => p []
  | n + 1, p => ∀ v, AllV n fun vs => p (v :: vs)
theorem AllV.intro {p : List Value → Prop} (h : ∀ vs, p vs) : ∀ n, AllV n p
  | 0 => h _
  | n + 1 => fun v => AllV.intro (fun vs => h (v :: vs)) n
theorem AllV.elim {p : List Value → Prop} : ∀ {n : Nat}, AllV n p → ∀ vs : List Value, vs.length = n → p vs
  | 0, h, vs, e => by cases vs with | nil => exact h | cons x y => simp at e
  | n + 1, h, vs, e => by
    cases vs with
    | nil => simp at e
    | cons x y => exact AllV.elim (h x) y (by simpa using e)
theorem frs_length (fr : Fr) (L : List Nat) : (frs fr L).length = L.length := by induction L <;> simp [frs, *]
theorem mix_self {L I : List Nat} {fr fr' : Fr} (h : ∀ s, elemB s I = true → fr' s = fr s) : mix L (frs fr' L) I fr fr' = fr' := by
  funext s
  unfold mix
  induction L with
  | nil =>
    simp only [frs, mixL]
    cases he : elemB s I
    · rfl
    · exact (h s he).symm
  | cons l L ih =>
    simp only [frs, mixL]
    cases hb : Nat.beq s l
    · exact ih
    · have := Nat.eq_of_beq_eq_true hb; subst this; rfl
theorem noW_spec {c : Code} {I : List Nat} (h : noW c I = true) : ∀ s, elemB s I = true → inC c s = false := by
  induction I with
  | nil => intro s hs; simp [elemB] at hs
  | cons x r ih =>
    intro s hs
    simp only [noW, Bool.and_eq_true, Bool.not_eq_true'] at h
    simp only [elemB, Bool.or_eq_true] at hs
    rcases hs with hs | hs
    · rw [Nat.eq_of_beq_eq_true hs]; exact h.1
    · exact ih h.2 s hs
def thenD (next : Fr → Hp → Prop) (Q : Exit → Fr → Hp → Prop) : Exit → Fr → Hp → Prop
  | .normal, fr, H => next fr H
  | e, fr, H => Q e fr H
def blockD (id : Nat) (Q : Exit → Fr → Hp → Prop) : Exit → Fr → Hp → Prop
  | .exit id', fr, H => cond (Nat.beq id' id) (Q .normal fr H) (Q (.exit id') fr H)
  | e, fr, H => Q e fr H
def JE (J : List Value → Hp → Prop) (vs : List Value) (H : Hp) : Prop := ∃ H', Ent H H' ∧ J vs H'
def Back (I : List Value → Hp → Prop) (m : List Value → Hp → Nat) (vs' : List Value) (H' : Hp) (vs : List Value) (H : Hp) : Prop := ∃ H'', Ent H' H'' ∧ I vs' H'' ∧ m vs' H'' < m vs H
def Loop (L : List Nat) (vs : List Value) (H : Hp) (body : (List Value → Hp → Prop) → List Value → Hp → Prop) : Prop :=
  ∃ (I : List Value → Hp → Prop) (m : List Value → Hp → Nat), JE I vs H ∧ AllV L.length fun vs => ∀ H', I vs H' → body (fun vs' H'' => Back I m vs' H'' vs H') vs H'
def Join (k : Nat) (rest : List Value → Hp → Prop) (body : (List Value → Hp → Prop) → Prop) : Prop :=
  ∀ J : List Value → Hp → Prop, (AllV k fun vs => ∀ H, rest vs H → J vs H) → body J
def DR (H : Hp) (body : Hp → Prop) : Prop := ∃ R, Ent H R ∧ body R
def regAt0 : Code → Nat → Option (Array Oper)
  | .region id ops _, k => cond (Nat.beq id k) (some ops) none
  | .seq a b, k => match regAt0 a k with | some x => some x | none => regAt0 b k
  | .cond _ a b, k => match regAt0 a k with | some x => some x | none => regAt0 b k
  | .block _ c, k => regAt0 c k
  | .loop c, k => regAt0 c k
  | _, _ => none
def RawR (P : Program) (g : Gh) (id : Nat) (ops : Array Oper) (L : List Nat) (vs : List Value) (H : Hp) (K : Hp → Prop) : Prop :=
  ∀ a w, okDsts a.tmps.size ops.toList = true → (L.map fun s => a.tmps.getD s undef) = vs → Own g H w →
    (Code.region id ops true).wp P (fun e a' w' => e = .normal ∧ a'.defers = a.defers ∧ a'.tmps.size = a.tmps.size ∧ (∀ s, inDsts ops.toList s = false → a'.tmps.getD s undef = a.tmps.getD s undef) ∧ ∃ H', Own g H' w' ∧ K H') a w
def regO (f : Func) (r : Nat) : Array Oper := match f.body with | some c => (match regAt0 c r with | some ops => ops | none => #[]) | none => #[]
theorem frs_map (fr : Fr) (L : List Nat) : frs fr L = L.map fr := by induction L <;> simp [frs, *]
def den (P : Program) (g : Gh) (n : Nat) : Code → Hn → (Exit → Fr → Hp → Prop) → Fr → Hp → Prop
  | .skip, _, Q, fr, H => Q .normal fr H
  | .ret, _, Q, fr, H => Q .ret fr H
  | .exit id, _, Q, fr, H => Q (.exit id) fr H
  | .seq x y, hn, Q, fr, H =>
    match hn.m with
    | 0 => den P g n x hn.a (thenD (den P g n y hn.b Q) Q) fr H
    | _ => cond (noW x hn.I)
        (Join hn.L.length (fun vs H' => ∀ gs, den P g n y hn.b Q (mix hn.L vs hn.I fr gs) H') fun J => den P g n x hn.a (thenD (fun fr' H' => JE J (frs fr' hn.L) H') Q) fr H) False
  | .cond c x y, hn, Q, fr, H => Br (ev fr c) (den P g n x hn.a Q fr H) (den P g n y hn.b Q fr H)
  | .block id c, hn, Q, fr, H => den P g n c hn.a (blockD id Q) fr H
  | .loop c, hn, Q, fr, H =>
    cond (noW c hn.I)
      (Loop hn.L (frs fr hn.L) H fun J vs H' => ∀ gs, den P g n c hn.a (thenD (fun fr' H'' => J (frs fr' hn.L) H'') Q) (mix hn.L vs hn.I fr gs) H') False
  | .region id ops draw, hn, Q, fr, H =>
    cond draw
      (match hn.m with
      | 0 => match hn.L with
       | [] => cond (P.follows .mixedOrders && Region.lexB .any ops) (denOps P g n ops true (ops.toList.length + 1) true none [] ops.toList fr H (fun _ fr' H' => Q .normal fr' H') (fun _ _ => False)) False
       | l => cond (P.follows .mixedOrders && Region.noSelect ops && Nat.ble l.length ops.size)
          (DR H fun R => denD P g n ops R (fun fr' H' => Q .normal fr' H') l (Array.replicate ops.size false) fr H) False
      | 9 => cond (okDsts n ops.toList) (RawR P g id ops hn.L (frs fr hn.L) H fun H' => ∀ gs, Q .normal (garb ops.toList gs fr) H') False
      | _ => cond (P.follows .mixedOrders && Region.noSelect ops)
          (DR H fun R => denE P g n ops R (fun fr' H' => Q .normal fr' H') hn.a [] (Array.replicate ops.size false) fr H) False)
      (denOps P g n ops (match hn.I with | [] => false | _ => true) (ops.toList.length + 1) false none [] ops.toList fr H (fun _ fr' H' => Q .normal fr' H') (fun ch H' => ∀ fr', Q (.panic ch) fr' H'))
  | _, _, _, _, _ => False
theorem wp_loop_rel {c : Code} {Q : Exit → Act → World → Prop} {a : Act} {w : World} (R : Act → World → Nat → Prop) (h₀ : ∃ m, R a w m)
    (round : ∀ a w m, R a w m → c.wp P (Exit.then (fun a' w' => ∃ m', m' < m ∧ R a' w' m') Q) a w) : (Code.loop c).wp P Q a w := by
  intro b k cs
  have key : ∀ n a w, R a w n →
      ∃ e a' w', Q e a' w' ∧ Arrives P (lone (b.at a (.code c :: .inLoop c :: k)) cs w) b k cs e a' w' := by
    intro n
    induction n using Nat.strongRecOn with
    | _ n ih =>
      intro a w hI
      obtain ⟨e, a₁, w₁, hq, harr⟩ := round a w n hI b (.inLoop c :: k) cs
      cases e with
      | normal =>
        obtain ⟨m', hlt, hI₁⟩ := hq
        obtain ⟨e₂, a₂, w₂, hq₂, harr₂⟩ := ih m' hlt a₁ w₁ hI₁
        exact ⟨e₂, a₂, w₂, hq₂, .of_steps (Steps.trans harr (.one step_inLoop)) harr₂⟩
      | exit id => exact ⟨_, a₁, w₁, hq, .pass (x := .inLoop c) rfl (fun _ _ => .inl (by simp)) harr⟩
      | goto l => exact ⟨_, a₁, w₁, hq, .pass (x := .inLoop c) rfl (fun _ _ => .inl (by simp)) harr⟩
      | ret => exact ⟨_, a₁, w₁, hq, .pass (x := .inLoop c) rfl (fun _ _ => .inl (by simp)) harr⟩
      | panic ch => exact ⟨_, a₁, w₁, hq, .pass (x := .inLoop c) rfl (fun _ _ => .inl (by simp)) harr⟩
      | outgrown => exact ⟨_, a₁, w₁, hq, .pass (x := .inLoop c) rfl (fun _ _ => .inl (by simp)) harr⟩
  obtain ⟨m, h₀⟩ := h₀
  obtain ⟨e, a', w', hq, harr⟩ := key m a w h₀
  exact ⟨e, a', w', hq, .of_steps (.one step_loop) harr⟩
def isPan : Exit → Bool
  | .panic _ => true
  | _ => false
theorem den_sound {n : Nat} : ∀ (c : Code) (hn : Hn) (Q : Exit → Fr → Hp → Prop) (fr : Fr) (H : Hp), den P g n c hn Q fr H → ∀ (a : Act) (w : World), Agree ds n a fr → Own g H w → c.wp P (fun e a' w' => ∃ fr' H', Agree ds n a' fr' ∧ Own g H' w' ∧ (isPan e = false → ∀ s, inC c s = false → fr' s = fr s) ∧ Q e fr' H') a w := by
  intro c
  induction c with
  | skip => intro hn Q fr H h a w ha hw; exact wp_skip ⟨fr, H, ha, hw, fun _ _ _ => rfl, h⟩
  | ret => intro hn Q fr H h a w ha hw; exact wp_ret ⟨fr, H, ha, hw, fun _ _ _ => rfl, h⟩
  | exit id => intro hn Q fr H h a w ha hw; exact wp_exit ⟨fr, H, ha, hw, fun _ _ _ => rfl, h⟩
  | seq x y ihx ihy =>
    intro hn Q fr H h a w ha hw
    unfold den at h
    have out2 : ∀ {fr1 fr2 : Fr}, (∀ s, inC x s = false → fr1 s = fr s) → (∀ s, inC y s = false → fr2 s = fr1 s) → ∀ s, inC (.seq x y) s = false → fr2 s = fr s := fun h1 h2 s hs => by
      simp only [inC, Bool.or_eq_false_iff] at hs
      rw [h2 s hs.2, h1 s hs.1]
    have out1 : ∀ {fr1 : Fr}, (∀ s, inC x s = false → fr1 s = fr s) → ∀ s, inC (.seq x y) s = false → fr1 s = fr s := fun h1 s hs => by
      simp only [inC, Bool.or_eq_false_iff] at hs
      exact h1 s hs.1
    split at h
    · refine wp_seq (wp_mono (ihx _ _ fr H h a w ha hw) ?_)
      rintro e a' w' ⟨fr', H', ha', hw', ho, hq⟩
      cases e with
      | normal => exact wp_mono (ihy _ _ fr' H' hq a' w' ha' hw') fun e2 a2 w2 ⟨fr2, H2, g1, g2, g3, g4⟩ => ⟨fr2, H2, g1, g2, fun hp => out2 (ho rfl) (g3 hp), g4⟩
      | exit id => exact ⟨fr', H', ha', hw', fun hp => out1 (ho hp), hq⟩
      | goto l => exact ⟨fr', H', ha', hw', fun hp => out1 (ho hp), hq⟩
      | ret => exact ⟨fr', H', ha', hw', fun hp => out1 (ho hp), hq⟩
      | panic ch => exact ⟨fr', H', ha', hw', fun hp => out1 (ho hp), hq⟩
      | outgrown => exact ⟨fr', H', ha', hw', fun hp => out1 (ho hp), hq⟩
    · cases hno : noW x hn.I <;> simp only [hno, cond_true, cond_false] at h
      have h' := h (fun vs H' => ∀ gs, den P g n y hn.b Q (mix hn.L vs hn.I fr gs) H') (AllV.intro (fun vs H' hh => hh) _)
      refine wp_seq (wp_mono (ihx _ _ fr H h' a w ha hw) ?_)
      rintro e a' w' ⟨fr', H', ha', hw', ho, hq⟩
      cases e with
      | normal =>
        obtain ⟨Hj, hent, hq⟩ := hq
        have hq' : den P g n y hn.b Q fr' Hj := by
          have := hq fr'
          rwa [mix_self fun s hs => ho rfl s (noW_spec hno s hs)] at this
        exact wp_mono (ihy _ _ fr' Hj hq' a' w' ha' (hent _ _ hw')) fun e2 a2 w2 ⟨fr2, H2, g1, g2, g3, g4⟩ => ⟨fr2, H2, g1, g2, fun hp => out2 (ho rfl) (g3 hp), g4⟩
      | exit id => exact ⟨fr', H', ha', hw', fun hp => out1 (ho hp), hq⟩
      | goto l => exact ⟨fr', H', ha', hw', fun hp => out1 (ho hp), hq⟩
      | ret => exact ⟨fr', H', ha', hw', fun hp => out1 (ho hp), hq⟩
      | panic ch => exact ⟨fr', H', ha', hw', fun hp => out1 (ho hp), hq⟩
      | outgrown => exact ⟨fr', H', ha', hw', fun hp => out1 (ho hp), hq⟩
  | cond c x y ihx ihy =>
    intro hn Q fr H h a w ha hw
    obtain ⟨b, hb, ht, hf⟩ := h
    refine wp_cond_split (t := b) (by rw [ha.eval]; exact hb) (fun e => ?_) (fun e => ?_)
    · exact wp_mono (ihx _ _ fr H (ht e) a w ha hw) fun e2 a2 w2 ⟨fr2, H2, g1, g2, g3, g4⟩ => ⟨fr2, H2, g1, g2, fun hp s hs => g3 hp s (by simp only [inC, Bool.or_eq_false_iff] at hs; exact hs.1), g4⟩
    · exact wp_mono (ihy _ _ fr H (hf e) a w ha hw) fun e2 a2 w2 ⟨fr2, H2, g1, g2, g3, g4⟩ => ⟨fr2, H2, g1, g2, fun hp s hs => g3 hp s (by simp only [inC, Bool.or_eq_false_iff] at hs; exact hs.2), g4⟩
  | block id c ih =>
    intro hn Q fr H h a w ha hw
    refine wp_block (wp_mono (ih _ _ fr H h a w ha hw) ?_)
    rintro e a' w' ⟨fr', H', ha', hw', ho, hq⟩
    cases e with
    | exit id' =>
      simp only [blockD] at hq
      cases hb : Nat.beq id' id <;> simp only [hb, cond_true, cond_false] at hq
      · have : id' ≠ id := fun e => by subst e; simp at hb
        simp only [Exit.inBlock, this, if_false]
        exact ⟨fr', H', ha', hw', ho, hq⟩
      · have := Nat.eq_of_beq_eq_true hb
        simp only [Exit.inBlock, this, if_true]
        exact ⟨fr', H', ha', hw', ho, hq⟩
    | normal => exact ⟨fr', H', ha', hw', ho, hq⟩
    | goto l => exact ⟨fr', H', ha', hw', ho, hq⟩
    | ret => exact ⟨fr', H', ha', hw', ho, hq⟩
    | panic ch => exact ⟨fr', H', ha', hw', ho, hq⟩
    | outgrown => exact ⟨fr', H', ha', hw', ho, hq⟩
  | loop c ih =>
    intro hn Q fr H h a w ha hw
    unfold den at h
    cases hno : noW c hn.I <;> simp only [hno, cond_true, cond_false] at h
    obtain ⟨I, m, ⟨H0, hent0, h0⟩, hr⟩ := h
    refine wp_loop_rel (fun a w k => ∃ fr' H', Agree ds n a fr' ∧ Own g H' w ∧ (∀ s, inC c s = false → fr' s = fr s) ∧ I (frs fr' hn.L) H' ∧ m (frs fr' hn.L) H' = k) ⟨_, fr, H0, ha, hent0 _ _ hw, fun _ _ => rfl, h0, rfl⟩ ?_
    rintro a w k ⟨fr1, H1, ha1, hw1, ho1, hI, rfl⟩
    have hb := hr.elim (frs fr1 hn.L) (frs_length _ _) H1 hI fr1
    rw [mix_self fun s hs => ho1 s (noW_spec hno s hs)] at hb
    refine wp_mono (ih _ _ fr1 H1 hb a w ha1 hw1) ?_
    rintro e a' w' ⟨fr', H', ha', hw', ho, hq⟩
    have ho' : isPan e = false → ∀ s, inC c s = false → fr' s = fr s := fun hp s hs => (ho hp s hs).trans (ho1 s hs)
    cases e with
    | normal => obtain ⟨Hj, hent, hq1, hq2⟩ := hq; exact ⟨_, hq2, fr', Hj, ha', hent _ _ hw', ho' rfl, hq1, rfl⟩
    | exit id => exact ⟨fr', H', ha', hw', ho', hq⟩
    | goto l => exact ⟨fr', H', ha', hw', ho', hq⟩
    | ret => exact ⟨fr', H', ha', hw', ho', hq⟩
    | panic ch => exact ⟨fr', H', ha', hw', ho', hq⟩
    | outgrown => exact ⟨fr', H', ha', hw', ho', hq⟩
  | region id ops draw =>
    intro hn Q fr H h a w ha hw
    unfold den at h
    cases draw <;> simp only [cond_true, cond_false] at h
    case false =>
      refine wp_region_list ?_
      have := denOps_seq _ _ _ _ _ fr H _ _ h trivial (KnOK.nil fr) a w ha hw [] (fun e a' w' => ∃ fr' H', Agree ds n a' fr' ∧ Own g H' w' ∧ (isPan e = false → ∀ s, inC (.region id ops false) s = false → fr' s = fr s) ∧ Q e fr' H') ?_ ?_
      · simpa using this
      · intro a' w' kn' fr' H' h1 h2 h3 _ h4
        exact ⟨fr', H', h1, h2, fun _ => h3, h4⟩
      · intro ch a' w' fr' H' h1 h2 h3
        exact ⟨fr', H', h1, h2, fun hp => by simp [isPan] at hp, h3 fr'⟩
    case true =>
      split at h
      · split at h
        · cases hc : (P.follows .mixedOrders && Region.lexB .any ops) <;> simp only [hc, cond_true, cond_false] at h
          simp only [Bool.and_eq_true] at hc
          refine wp_region_quiet (C := Own g H) hc.1 hc.2 hw.drew' ?_
          have := denOps_quiet _ none _ ops.toList fr H _ _ h trivial (KnOK.nil fr) a ha [] (fun a' => ∀ w', Own g H w' → ∃ fr' H', Agree ds n a' fr' ∧ Own g H' w' ∧ (isPan .normal = false → ∀ s, inC (.region id ops true) s = false → fr' s = fr s) ∧ Q .normal fr' H') ?_
          · simpa using this
          · intro a' kn' fr' h1 h3 _ h4
            exact fun w' hw' => ⟨fr', H, h1, hw', fun _ => h3, h4⟩
        · cases hc : (P.follows .mixedOrders && Region.noSelect ops && Nat.ble hn.L.length ops.size) <;> simp only [hc, cond_true, cond_false] at h
          simp only [Bool.and_eq_true] at hc
          obtain ⟨R, hR, h⟩ := h
          refine wp_mono (Q := NoPan fun e a' w' => ∃ fr' H', Agree ds n a' fr' ∧ Own g H' w' ∧ (isPan e = false → ∀ s, inC (.region id ops true) s = false → fr' s = fr s) ∧ Q e fr' H') ?_ ?_
          · refine wp_region_any hc.1.1 (AnyS.any (S := Keeps P g R ops) ?_)
            exact denD_any hc.1.2 fr (fun a w fr' H' h1 h2 h3 h4 => ⟨fr', H', h1, h2, fun _ => h3, h4⟩) _ _ fr H h _ (Nat.le_of_ble_eq_true hc.2) _ _ ha hw.drew' (fun _ => (hR _ _ hw).drew') (OutEq.refl _ _)
          · intro e a w h
            cases e <;> first | exact h | exact h.elim
      · cases hc : okDsts n ops.toList <;> simp only [hc, cond_true, cond_false] at h
        refine wp_mono (h a w (by rw [ha.size]; exact hc) (by rw [frs_map]; exact List.map_congr_left fun s _ => ha.get s) hw) ?_
        rintro e a' w' ⟨rfl, hd, hs, ho, H', hw', hk⟩
        refine ⟨garb ops.toList (fun s => a'.tmps.getD s undef) fr, H', ⟨hd.trans ha.defers, hs.trans ha.size, fun s => ?_⟩, hw', fun _ s hs => ?_, hk _⟩
        · unfold garb
          cases hb : inDsts ops.toList s
          · rw [cond_false, ho s hb, ha.get]
          · rfl
        · unfold garb; simp only [inC] at hs; rw [hs, cond_false]
      · cases hc : (P.follows .mixedOrders && Region.noSelect ops) <;> simp only [hc, cond_true, cond_false] at h
        simp only [Bool.and_eq_true] at hc
        obtain ⟨R, hR, h⟩ := h
        refine wp_mono (Q := NoPan fun e a' w' => ∃ fr' H', Agree ds n a' fr' ∧ Own g H' w' ∧ (isPan e = false → ∀ s, inC (.region id ops true) s = false → fr' s = fr s) ∧ Q e fr' H') ?_ ?_
        · refine wp_region_any hc.1 (AnyS.any (S := Keeps P g R ops) ?_)
          refine denE_any hc.2 fr (fun a w fr' H' h1 h2 h3 h4 => ⟨fr', H', h1, h2, fun _ => h3, h4⟩) _ _ [] _ fr H h [] _ fr (by rw [Array.toList_replicate, cnt_replicate]; exact Nat.le_refl _) ⟨by simp, by simp, by simp, fun _ _ => rfl, by simp, fun j x hx => by simp [exOf] at hx⟩ _ _ ha hw.drew' (fun _ => (hR _ _ hw).drew') (OutEq.refl _ _)
        · intro e a w h
          cases e <;> first | exact h | exact h.elim
  | label l => intro hn Q fr H h; exact h.elim
  | goto l => intro hn Q fr H h; exact h.elim
  | scope c _ => intro hn Q fr H h; exact h.elim
  | refuse s => intro hn Q fr H h; exact h.elim
  | rangeFunc f ps as b _ _ => intro hn Q fr H h; exact h.elim
def PanR (R : Ending → Hp → Prop) : List PanicEntry → Hp → Prop := fun ch H => ∀ _ : Fr, R (.panicked ch) H
def NoKP : List PanicEntry → Hp → Prop := fun _ _ => False
def regAt : Code → Nat → Option (Array Oper)
  | .region id ops _, k => cond (Nat.beq id k) (some ops) none
  | .seq a b, k => match regAt a k with | some x => some x | none => regAt b k
  | .cond _ a b, k => match regAt a k with | some x => some x | none => regAt b k
  | .block _ c, k => regAt c k
  | .loop c, k => regAt c k
  | _, _ => none
def opAt (f : Func) (r i : Nat) : Oper := match f.body with | some c => (match regAt c r with | some ops => (match ops[i]? with | some o => o | none => default) | none => default) | none => default
def initFr : List Value → Nat → Fr
  | [], _ => fun _ => undef
  | v :: r, i => fun s => cond (Nat.beq s i) v (initFr r (i + 1) s)
def resL (P : Program) (fr : Fr) (H : Hp) : List ResultVar → (List Value → Prop) → Prop
  | [], k => k []
  | .tmp t :: r, k => resL P fr H r fun vs => k (fr t :: vs)
  | .cell a t :: r, k => match P.underlying t, sizeD P t with
    | some d, some n => cond (isAggD d) (LdA n H (fr a) fun v => resL P fr H r fun vs => k (v :: vs)) (Ld H (fr a) fun v => resL P fr H r fun vs => k (v :: vs))
    | _, _ => False
def tupV : List Value → Value
  | [v] => v
  | vs => .tuple vs.toArray
def endQ (P : Program) (fn : Func) (R : Ending → Hp → Prop) : Exit → Fr → Hp → Prop
  | .normal, fr, H => resL P fr H fn.results.toList fun vs => R (.returned (tupV vs)) H
  | .ret, fr, H => resL P fr H fn.results.toList fun vs => R (.returned (tupV vs)) H
  | .panic ch, _, H => R (.panicked ch) H
  | _, _, _ => False
def denF (P : Program) (g : Gh) (fn : Func) (hn : Hn) (args : List Value) (H : Hp) (R : Ending → Hp → Prop) : Prop :=
  match fn.body with
  | some c => cond (Nat.ble args.length fn.ntmps) (den P g fn.ntmps c hn (endQ P fn R) (initFr args 0) H) False
  | none => False
theorem initFr_get : ∀ (l : List Value) (i s : Nat), initFr l i s = if s < i then undef else l.getD (s - i) undef
  | [], i, s => by simp [initFr]
  | v :: r, i, s => by
    simp only [initFr, initFr_get r (i + 1) s]
    cases hb : Nat.beq s i
    · have hne : s ≠ i := fun e => by subst e; simp at hb
      simp only [cond_false]
      by_cases h : s < i
      · rw [if_pos (by omega), if_pos h]
      · rw [if_neg (by omega), if_neg h, show s - i = (s - (i + 1)) + 1 by omega]
        simp [List.getD]
    · have := Nat.eq_of_beq_eq_true hb; subst this
      simp [List.getD]
def resF (fr : Fr) : ResultVar → Sem Value
  | .tmp t => pure (fr t)
  | .cell b t => do loadVar t (← asAddr (fr b))
theorem loadVar_run {fr : Fr} {H : Hp} {w : World} (hw : Own g H w) {b : Tmp} {t : TypeId} {v : Value} {p : Addr} (hp : fr b = .pointer (some p)) (h : (Instr.loadAt t (fr b)).run P w = .ok v w) : (resF fr (.cell b t)).run P w = .ok v w := by
  rw [hp] at h
  simp only [resF, hp, asAddr]
  simpa [Instr.loadAt, Instr.sureAddr] using h
theorem resL_run {fr : Fr} {H : Hp} {w : World} (hw : Own g H w) : ∀ (l : List ResultVar) (k : List Value → Prop), resL P fr H l k →
    ∃ vs, (l.mapM (resF fr)).run P w = .ok vs w ∧ k vs
  | [], k, h => ⟨[], by simp, h⟩
  | .tmp t :: r, k, h => by
    obtain ⟨vs, hr, hk⟩ := resL_run hw r _ h
    refine ⟨fr t :: vs, ?_, hk⟩
    simp only [List.mapM_cons, Sem.run_bind, Sem.run_pure, Result.andThen_ok, hr, resF]
  | .cell b t :: r, k, h => by
    unfold resL at h
    split at h <;> try exact h.elim
    rename_i d m hd hm
    obtain ⟨i, hi, him⟩ := sizeD_spec hm
    cases hag : isAggD d <;> simp only [hag, cond_true, cond_false] at h
    · obtain ⟨v, hk', hf⟩ := h.fix
      obtain ⟨v2, hr2, e⟩ := hf.run (P := P) hw hd hag
      subst e
      obtain ⟨bb, off, c, T, fz, u, hp, _⟩ := hf
      obtain ⟨vs, hr, hk⟩ := resL_run hw r _ hk'
      refine ⟨v2 :: vs, ?_, hk⟩
      have := loadVar_run hw hp hr2
      simp only [List.mapM_cons, Sem.run_bind, Result.andThen_ok, hr, Sem.run_pure, this]
    · obtain ⟨v, hk', hf⟩ := h.fix
      obtain ⟨v2, hr2, e⟩ := hf.run (P := P) hw hd hag hi him
      subst e
      obtain ⟨bb, off, c, T, fz, hp, _⟩ := hf
      obtain ⟨vs, hr, hk⟩ := resL_run hw r _ hk'
      refine ⟨v2 :: vs, ?_, hk⟩
      have := loadVar_run hw hp hr2
      simp only [List.mapM_cons, Sem.run_bind, Result.andThen_ok, hr, Sem.run_pure, this]
theorem results_run {fn : Func} {fr : Fr} {H : Hp} {n : Nat} {a : Act} {w : World} (ha : Agree ds n a fr) (hw : Own g H w) {k : List Value → Prop} (h : resL P fr H fn.results.toList k) :
    ∃ vs, (results fn a.tmps).run P w = .ok (tupV vs) w ∧ k vs := by
  obtain ⟨vs, hr, hk⟩ := resL_run (P := P) hw _ _ h
  refine ⟨vs, ?_, hk⟩
  have e : results fn a.tmps = (do let vs ← fn.results.mapM (resF fr); pure (if h : vs.size = 1 then vs[0] else .tuple vs)) := by
    unfold results
    congr 1
    congr 1
    funext x
    cases x <;> simp only [resF, ha.get]
  rw [e, Array.mapM_eq_mapM_toList]
  simp only [Sem.run_bind, Sem.run_map, hr, Result.andThen_ok, Sem.run_pure]
  congr 1
  match vs with
  | [] => rfl
  | [v] => rfl
  | a :: b :: r => simp [tupV]
theorem denF_sound {f : FuncId} {fn : Func} {hn : Hn} {args : List Value} {H : Hp} {R : Ending → Hp → Prop} (hf : P.funcs[f]? = some fn) (h : denF P g fn hn args H R) : SCalls P g f args.toArray H R := by
  intro w hw
  unfold denF at h
  split at h <;> try exact h.elim
  rename_i c hc
  cases hl : Nat.ble args.length fn.ntmps <;> simp only [hl, cond_true, cond_false] at h
  have hle := Nat.le_of_ble_eq_true hl
  refine calls_of_wp hf hc (wp_mono (den_sound c hn _ _ H h _ w ⟨rfl, ?_, ?_⟩ hw) ?_)
  · simp; omega
  · intro s
    rw [initFr_get, Array.getD_eq_getD_getElem?, Array.getElem?_append]
    simp only [List.size_toArray, Nat.not_lt_zero, if_false, Nat.sub_zero]
    by_cases hs : s < args.length
    · simp [hs, List.getD]
    · rw [if_neg hs]
      rw [Array.getElem?_replicate]
      have : args.getD s undef = undef := by simp [List.getD, List.getElem?_eq_none (Nat.le_of_not_lt hs)]
      rw [this]
      split <;> rfl
  · rintro e a' w' ⟨fr', H', ha', hw', _, hq⟩
    cases e with
    | normal => obtain ⟨vs, hr, hk⟩ := results_run ha' hw' hq; exact ⟨ha'.defers, _, hr, H', hw', hk⟩
    | ret => obtain ⟨vs, hr, hk⟩ := results_run ha' hw' hq; exact ⟨ha'.defers, _, hr, H', hw', hk⟩
    | panic ch => exact ⟨ha'.defers, H', hw', hq⟩
    | exit id => exact hq.elim
    | goto l => exact hq.elim
    | outgrown => exact hq.elim
end
end Go.Sx
namespace Go.Sx
open Go
section
variable {P : Program} {g : Gh} {H : Hp}
theorem Nil.ptr {a : Addr} {k : Value → Prop} (h : k (.pointer (some a))) : Nil (.pointer (some a)) k := ⟨_, rfl, h⟩
theorem FAddr.mk {b o off : Nat} {k : Value → Prop} (h : k (.pointer (some ⟨b, o + off, none⟩))) : FAddr off (.pointer (some ⟨b, o, none⟩)) k := ⟨b, o, rfl, h⟩
theorem Ld.mk {b off : Nat} {c : Array Value} {T : TypeId} {fz : Nat × Nat} {v : Value} {k : Value → Prop} (hm : (b, Obj.cells c T fz) ∈ H) (hc : c[off]? = some v) (h : k v) : Ld H (.pointer (some ⟨b, off, none⟩)) k :=
 ⟨b, off, c, T, fz, v, rfl, hm, hc, h⟩
theorem LdA.mk {b off n : Nat} {c : Array Value} {T : TypeId} {fz : Nat × Nat} {vs : Array Value} {k : Value → Prop} (hm : (b, Obj.cells c T fz) ∈ H) (hs : off + n ≤ c.size) (hc : c.extract off (off + n) = vs) (h : k (.agg vs)) : LdA n H (.pointer (some ⟨b, off, none⟩)) k :=
 ⟨b, off, c, T, fz, rfl, hm, hs, by rw [hc]; exact h⟩
theorem St.mk {b off n : Nat} {c : Array Value} {T : TypeId} {x : Value} {c' : Array Value} {H' : Hp} {k : Hp → Prop} (hu : Upd b (.cells c T (0, 0)) (.cells c' T (0, 0)) H H') (hx : x.cells.size = n) (hs : off + n ≤ c.size)
  (h1 : ∀ v ∈ x.cells.toList, v.oneCell' = true) (hc : over c off x.cells.toList = c') (h : k H') : St n H (.pointer (some ⟨b, off, none⟩)) x k :=
 ⟨b, off, c, T, H', rfl, hx, hs, h1, by rw [hc]; exact hu, h⟩
theorem JE.mk {J : List Value → Hp → Prop} {vs : List Value} (h : J vs H) : JE J vs H := ⟨H, .refl _, h⟩
theorem JE.of {J : List Value → Hp → Prop} {vs : List Value} {H' : Hp} (e : Ent H H') (h : J vs H') : JE J vs H := ⟨H', e, h⟩
theorem Back.mk {I : List Value → Hp → Prop} {m : List Value → Hp → Nat} {vs' vs : List Value} {H0 : Hp} (h : I vs' H) (hm : m vs' H < m vs H0) : Back I m vs' H vs H0 := ⟨H, .refl _, h, hm⟩
theorem Back.of {I : List Value → Hp → Prop} {m : List Value → Hp → Nat} {vs' vs : List Value} {H' H0 : Hp} (e : Ent H H') (h : I vs' H') (hm : m vs' H' < m vs H0) : Back I m vs' H vs H0 := ⟨H', e, h, hm⟩
theorem Br.mk {b : Bool} {t f : Prop} (h1 : b = true → t) (h2 : b = false → f) : Br (.bool b) t f := ⟨b, rfl, h1, h2⟩
theorem Br.yes {t f : Prop} (h1 : t) : Br (.bool true) t f := ⟨true, rfl, fun _ => h1, fun h => by simp at h⟩
theorem Br.no {t f : Prop} (h1 : f) : Br (.bool false) t f := ⟨false, rfl, fun h => by simp at h, fun _ => h1⟩
theorem Br.yes' {b : Bool} {t f : Prop} (hb : b = true) (h1 : t) : Br (.bool b) t f := by subst hb; exact Br.yes h1
theorem Br.no' {b : Bool} {t f : Prop} (hb : b = false) (h1 : f) : Br (.bool b) t f := by subst hb; exact Br.no h1
theorem Grp.mk {a : Bool} {want : Bool} {inner els k : Bool → Prop} (t : Bool) (h1 : a = want → inner t) (h2 : a = !want → els t) (h3 : k t) : Grp (.bool a) want inner els k := ⟨a, t, rfl, h1, h2, h3⟩
theorem Grp.and {a : Bool} {inner els k : Bool → Prop} (b : Bool) (h1 : a = true → inner b) (h2 : els false) (h3 : k (a && b)) : Grp (.bool a) true inner els k :=
 ⟨a, a && b, rfl, fun e => by subst e; exact h1 rfl, fun e => by subst e; exact h2, h3⟩
theorem Grp.or {a : Bool} {inner els k : Bool → Prop} (b : Bool) (h1 : a = false → inner b) (h2 : els true) (h3 : k (a || b)) : Grp (.bool a) false inner els k :=
 ⟨a, a || b, rfl, fun e => by subst e; exact h1 rfl, fun e => by subst e; exact h2, h3⟩
theorem Split.go {a : Bool} {want : Bool} {k1 k2 : Prop} (e : a = want) (h1 : k1) : Split (.bool a) want k1 k2 := ⟨a, rfl, fun _ => h1, fun e' => by subst e; cases a <;> simp at e'⟩
theorem Split.past {a : Bool} {want : Bool} {k1 k2 : Prop} (e : a = !want) (h1 : k2) : Split (.bool a) want k1 k2 := ⟨a, rfl, fun e' => by subst e'; cases a <;> simp at e, fun _ => h1⟩
theorem Pick.mk {t : Bool} {a b : Value} {k : Value → Prop} (h : k (cond t a b)) : Pick (.bool t) a b k := ⟨t, rfl, h⟩
theorem Un.not {b : Bool} {k : Value → Prop} (h : k (.bool !b)) : Un .not (.bool b) k := ⟨_, rfl, h⟩
theorem Ext.mk {i : Nat} {vs : Array Value} {v : Value} {k : Value → Prop} (hv : vs[i]? = some v) (h : k v) : Ext i (.tuple vs) k := ⟨vs, v, rfl, hv, h⟩
theorem LenS.mk {a : Option Addr} {n c : Nat} {k : Value → Prop} (h : k (.int .i64 n)) : LenS (.slice a n c) k := ⟨a, n, c, rfl, h⟩
theorem ConvI.of {kd j : IntKind} {n m : Int} {k : Value → Prop} (e : kd.wrap n = m) (h : k (.int kd m)) : ConvI kd (.int j n) k := ⟨j, n, rfl, by rw [e]; exact h⟩
theorem Fld.mk {off : Nat} {cs : Array Value} {v : Value} {k : Value → Prop} (hc : cs[off]? = some v) (h : k v) : Fld off (.agg cs) k := ⟨cs, v, rfl, hc, h⟩
theorem IAddr.mk {size b o n c : Nat} {kd : IntKind} {i : Int} {k : Value → Prop} (h0 : 0 ≤ i) (h1 : i < (n : Int)) (h : k (.pointer (some ⟨b, o + i.toNat * size, none⟩))) : IAddr size (.slice (some ⟨b, o, none⟩) n c) (.int kd i) k :=
 ⟨b, o, n, c, kd, i, rfl, rfl, h0, h1, h⟩
theorem IAddr.nat {size b o n c : Nat} {kd : IntKind} {j : Nat} {k : Value → Prop} (h1 : j < n) (h : k (.pointer (some ⟨b, o + j * size, none⟩))) : IAddr size (.slice (some ⟨b, o, none⟩) n c) (.int kd (j : Int)) k :=
 IAddr.mk (Int.natCast_nonneg j) (by omega) (by simpa using h)
theorem Bin.eql {kd : IntKind} {a b : Int} {k : Value → Prop} (h : k (.bool (a == b))) : Bin .num .eql (.int kd a) (.int kd b) k := ⟨_, by simp [binV, intV], h⟩
theorem Bin.neq {kd : IntKind} {a b : Int} {k : Value → Prop} (h : k (.bool (a != b))) : Bin .num .neq (.int kd a) (.int kd b) k := ⟨_, by simp [binV, intV], h⟩
theorem Bin.lss {kd : IntKind} {a b : Int} {k : Value → Prop} (h : k (.bool (decide (a < b)))) : Bin .num .lss (.int kd a) (.int kd b) k := ⟨_, by simp [binV, intV], h⟩
theorem Bin.leq {kd : IntKind} {a b : Int} {k : Value → Prop} (h : k (.bool (decide (a ≤ b)))) : Bin .num .leq (.int kd a) (.int kd b) k := ⟨_, by simp [binV, intV], h⟩
theorem Bin.gtr {kd : IntKind} {a b : Int} {k : Value → Prop} (h : k (.bool (decide (b < a)))) : Bin .num .gtr (.int kd a) (.int kd b) k := ⟨_, by simp [binV, intV], h⟩
theorem Bin.geq {kd : IntKind} {a b : Int} {k : Value → Prop} (h : k (.bool (decide (b ≤ a)))) : Bin .num .geq (.int kd a) (.int kd b) k := ⟨_, by simp [binV, intV], h⟩
theorem Bin.add {kd : IntKind} {a b : Int} {k : Value → Prop} (h : k (.int kd (kd.wrap (a + b)))) : Bin .num .add (.int kd a) (.int kd b) k := ⟨_, by simp [binV, intV], h⟩
theorem Bin.sub {kd : IntKind} {a b : Int} {k : Value → Prop} (h : k (.int kd (kd.wrap (a - b)))) : Bin .num .sub (.int kd a) (.int kd b) k := ⟨_, by simp [binV, intV], h⟩
theorem Bin.mul {kd : IntKind} {a b : Int} {k : Value → Prop} (h : k (.int kd (kd.wrap (a * b)))) : Bin .num .mul (.int kd a) (.int kd b) k := ⟨_, by simp [binV, intV], h⟩
theorem wrap_i64 {a : Int} (h : -9223372036854775808 ≤ a ∧ a ≤ 9223372036854775807) : IntKind.i64.wrap a = a := IntWalk.i64_in _ h
theorem Bin.add64 {a b : Int} {c : Int} {k : Value → Prop} (e : a + b = c) (hb : -9223372036854775808 ≤ c ∧ c ≤ 9223372036854775807) (h : k (.int .i64 c)) : Bin .num .add (.int .i64 a) (.int .i64 b) k :=
 Bin.add (by rw [e, wrap_i64 hb]; exact h)
theorem Bin.sub64 {a b : Int} {c : Int} {k : Value → Prop} (e : a - b = c) (hb : -9223372036854775808 ≤ c ∧ c ≤ 9223372036854775807) (h : k (.int .i64 c)) : Bin .num .sub (.int .i64 a) (.int .i64 b) k :=
 Bin.sub (by rw [e, wrap_i64 hb]; exact h)
theorem Bin.rem64 {kd : IntKind} {a b : Int} {c : Int} {k : Value → Prop} (hb0 : b ≠ 0) (e : a.tmod b = c) (h : k (.int kd c)) : Bin .num .rem (.int kd a) (.int kd b) k :=
 ⟨.int kd c, by simp [binV, intV, hb0, e], h⟩
theorem Bin.ptrNil {a : Addr} {k : Value → Prop} (h : k (.bool false)) : Bin .ptr .eql (.pointer (some a)) (.pointer none) k := ⟨.bool false, by simp [binV], h⟩
theorem Bin.ptrNilN {a : Addr} {k : Value → Prop} (h : k (.bool true)) : Bin .ptr .neq (.pointer (some a)) (.pointer none) k := ⟨.bool true, by simp [binV], h⟩
theorem Bin.neqB {a b : Bool} {k : Value → Prop} (h : k (.bool (!(a == b)))) : Bin .bool .neq (.bool a) (.bool b) k := ⟨_, by simp [binV], h⟩
theorem Ent.swap3 (A B C : Hp) : Ent (A ++ (B ++ C)) (B ++ (A ++ C)) := .perm (by rw [← List.append_assoc, ← List.append_assoc]; exact List.perm_append_comm.append_right C)
def flat : List Hp → Hp
 | [] => []
 | [a] => a
 | a :: b :: r => a ++ flat (b :: r)
theorem flat_perm : ∀ (l : List Hp), (flat l).Perm l.flatten
 | [] => .refl _
 | [a] => by simp [flat]
 | a :: b :: r => by
  simp only [flat, List.flatten_cons]
  exact List.Perm.append_left _ (by simpa using flat_perm (b :: r))
theorem Ent.segs (S T : List Hp) (h : S.Perm T) : Ent (flat S) (flat T) :=
 .perm ((flat_perm S).trans (h.flatten.trans (flat_perm T).symm))
def rows (l : List (List Value)) : Array Value := l.flatten.toArray
theorem flatten_get {k : Nat} : ∀ (l : List (List Value)) (i j : Nat), (∀ r ∈ l, r.length = k) → j < k → l.flatten[i * k + j]? = (l[i]?).bind (·[j]?)
 | [], i, j, _, _ => by simp
 | r :: l, 0, j, h, hj => by
  have := h r (by simp)
  simp [List.getElem?_append, this, hj]
 | r :: l, i + 1, j, h, hj => by
  have hr := h r (by simp)
  have ih := flatten_get l i j (fun x hx => h x (by simp [hx])) hj
  rw [List.flatten_cons, List.getElem?_append_right (by rw [hr, Nat.succ_mul]; omega), hr, show (i + 1) * k + j - k = i * k + j by rw [Nat.succ_mul]; omega, ih]
  simp
theorem flatten_length {k : Nat} : ∀ (l : List (List Value)), (∀ r ∈ l, r.length = k) → l.flatten.length = l.length * k
 | [], _ => by simp
 | r :: l, h => by
  have hr := h r (by simp)
  rw [List.flatten_cons, List.length_append, hr, flatten_length l (fun x hx => h x (by simp [hx]))]
  simp [Nat.succ_mul]; omega
theorem rows_size {k : Nat} {l : List (List Value)} (h : ∀ r ∈ l, r.length = k) : (rows l).size = l.length * k := by simp [rows, flatten_length l h]
theorem rows_get {k : Nat} {l : List (List Value)} (h : ∀ r ∈ l, r.length = k) {i j : Nat} (hj : j < k) : (rows l)[i * k + j]? = (l[i]?).bind (·[j]?) := by
 simp only [rows, List.getElem?_toArray]; exact flatten_get l i j h hj
theorem rows_extract {k : Nat} {l : List (List Value)} (h : ∀ r ∈ l, r.length = k) {i : Nat} {r : List Value} (hi : l[i]? = some r) : (rows l).extract (i * k) (i * k + k) = r.toArray := by
 have hr := h r (List.mem_of_getElem? hi)
 have hlt := (List.getElem?_eq_some_iff.1 hi).1
 apply Array.ext'
 apply List.ext_getElem?
 intro j
 by_cases hj : j < k
 ·have := rows_get h (i := i) hj
  rw [Array.getElem?_toList, Array.getElem?_extract]
  rw [if_pos (by rw [rows_size h]; have := Nat.mul_le_mul_right k (Nat.succ_le_of_lt hlt); rw [Nat.succ_mul] at this; omega), this, hi]
  simp
 ·rw [List.getElem?_eq_none (by simp; omega), List.getElem?_eq_none (by simp; omega)]
theorem over_eq : ∀ (vs : List Value) (c : List Value) (off : Nat), off + vs.length ≤ c.length → over c.toArray off vs = (c.take off ++ vs ++ c.drop (off + vs.length)).toArray
 | [], c, off, _ => by simp [over]
 | v :: r, c, off, h => by
  simp only [List.length_cons] at h
  have hl : off < c.length := by omega
  have : c.toArray.setIfInBounds off v = (c.set off v).toArray := by simp
  rw [over, this, over_eq r (c.set off v) (off + 1) (by simp only [List.length_set]; omega)]
  congr 1
  have e1 : (c.set off v).take (off + 1) = c.take off ++ [v] := by
   rw [List.set_eq_take_append_cons_drop, if_pos hl, List.take_append]
   simp [List.take_take, hl, Nat.min_eq_left (Nat.le_of_lt hl)]
  have e2 : (c.set off v).drop (off + 1 + r.length) = c.drop (off + (v :: r).length) := by
   rw [List.drop_set_of_lt (by omega)]
   simp only [List.length_cons]
   rw [show off + 1 + r.length = off + (r.length + 1) by omega]
  rw [e1, e2]; simp
theorem rows_set {k : Nat} {l : List (List Value)} (h : ∀ r ∈ l, r.length = k) {i : Nat} (hi : i < l.length) {r : List Value} (hr : r.length = k) : over (rows l) (i * k) r = rows (l.set i r) := by
 unfold rows
 have hlen := flatten_length l h
 have hle : i * k + k ≤ l.length * k := by have := Nat.mul_le_mul_right k (Nat.succ_le_of_lt hi); rwa [Nat.succ_mul] at this
 rw [over_eq r l.flatten (i * k) (by rw [hlen, hr]; exact hle)]
 congr 1
 have e : l = l.take i ++ [l[i]] ++ l.drop (i + 1) := by simp
 have hp : (l.take i).flatten.length = i * k := by
  rw [flatten_length _ (fun x hx => h x (List.mem_of_mem_take hx))]; simp [Nat.min_eq_left (Nat.le_of_lt hi)]
 have hm : l[i].length = k := h _ (List.getElem_mem hi)
 have e3 : l.flatten = (l.take i).flatten ++ (l[i] ++ (l.drop (i + 1)).flatten) := by
  rw [← List.flatten_cons, ← List.flatten_append, ← List.drop_eq_getElem_cons hi, List.take_append_drop]
 have e4 : (l.set i r).flatten = (l.take i).flatten ++ (r ++ (l.drop (i + 1)).flatten) := by
  rw [List.set_eq_take_append_cons_drop, if_pos hi]; simp [List.flatten_append]
 rw [e4, e3, ← hp, List.take_left, ← List.drop_drop, List.drop_left, hr, ← hm, List.drop_left]
 simp
end
end Go.Sx
namespace Go.Sx
open Go
section
variable {P : Program} {g : Gh}
theorem Upd.prepend {b : Nat} {o o' : Obj} {C C' : Hp} (h : Upd b o o' C C') (A : Hp) : Upd b o o' (A ++ C) (A ++ C') := by
 induction A with
 | nil => exact h
 | cons x A ih => exact .tail ih
def SOwn (T : TypeId) (k : Nat) (v : Value) (rs : List (List Value)) (C : Hp) : Prop :=
 (v = .slice none 0 0 ∧ rs = [] ∧ C = []) ∨
 ∃ b junk, v = .slice (some ⟨b, 0, none⟩) rs.length (rs.length + junk.length) ∧ C = [(b, .cells (rows (rs ++ junk)) T (0, 0))] ∧ (∀ r ∈ rs ++ junk, r.length = k)
theorem SOwn.nil (T : TypeId) (k : Nat) : SOwn T k (.slice none 0 0) [] [] := .inl ⟨rfl, rfl, rfl⟩
theorem SOwn.len {T : TypeId} {k : Nat} {v : Value} {rs : List (List Value)} {C : Hp} (h : SOwn T k v rs C) : ∃ a c, v = .slice a rs.length c := by
 rcases h with ⟨rfl, rfl, rfl⟩ | ⟨b, junk, rfl, _⟩
 ·exact ⟨_, _, rfl⟩
 ·exact ⟨_, _, rfl⟩
theorem SOwn.lenS {T : TypeId} {k : Nat} {v : Value} {rs : List (List Value)} {C : Hp} (h : SOwn T k v rs C) {K : Value → Prop} (hk : K (.int .i64 rs.length)) : LenS v K := by
 obtain ⟨a, c, rfl⟩ := h.len; exact LenS.mk hk
theorem zeroRows {k : Nat} (z : List Value) (hz : z.length = k) (m : Nat) : Builtin.zeroCells z.toArray m = rows (List.replicate m z) := by
 apply Array.ext'
 apply List.ext_getElem?
 intro j
 have hall : ∀ r ∈ List.replicate m z, r.length = k := fun r hr => by rw [List.eq_of_mem_replicate hr, hz]
 by_cases hj : j < m * k
 ·have hk : 0 < k := Nat.pos_of_ne_zero fun e => by simp [e] at hj
  have hd : j / k < m := Nat.div_lt_of_lt_mul (by rw [Nat.mul_comm]; exact hj)
  have hm : j % k < k := Nat.mod_lt _ hk
  have he : j / k * k + j % k = j := by rw [Nat.mul_comm]; exact Nat.div_add_mod j k
  have := rows_get hall (i := j / k) hm
  rw [he] at this
  rw [Array.getElem?_toList, Array.getElem?_toList, this]
  simp only [Builtin.zeroCells, List.size_toArray, hz, List.getElem?_replicate, hd, if_true, Option.bind_some]
  rw [Array.getElem?_map, Array.getElem?_range]
  simp [hj, hz, hm]
 ·rw [List.getElem?_eq_none, List.getElem?_eq_none]
  ·simp only [Array.length_toList, rows_size hall, List.length_replicate]; omega
  ·simp [Builtin.zeroCells, hz]; omega
theorem rows_append (a b : List (List Value)) : rows a ++ rows b = rows (a ++ b) := by simp [rows, List.flatten_append]
theorem SOwn.app' {elem k bytes : Nat} {zero : Value} {v : Value} {rs : List (List Value)} {C A B : Hp} (h : SOwn elem k v rs C) {xb : Nat} {r : List Value} {xT : TypeId} {fz : Nat × Nat} {xc : Nat}
  (hx : (xb, Obj.cells r.toArray xT fz) ∈ A ++ (C ++ B)) (hr : r.length = k) (h1 : ∀ u ∈ r, u.oneCell' = true) (hz : ∃ z : List Value, zero.cells = z.toArray ∧ z.length = k)
  (hb : (rs.length + 1) * bytes ≤ 140737488355328) (hmax : rs.length + 1 ≤ 9223372036854775807) {K : Value → Hp → Prop}
  (hk : ∀ v' C', SOwn elem k v' (rs ++ [r]) C' → K v' (A ++ (C' ++ B))) : App P elem k bytes zero (A ++ (C ++ B)) v (.slice (some ⟨xb, 0, none⟩) 1 xc) K := by
 have hall1 : ∀ x ∈ [r], x.length = k := fun x hx => by simp at hx; rw [hx]; exact hr
 obtain ⟨z, hz1, hz2⟩ := hz
 have hnews : Cells (A ++ (C ++ B)) (some ⟨xb, 0, none⟩) (1 * k) (rows [r]) := .inr ⟨rfl, _, _, _, hx, by simp [hr], by simp [rows]; rw [← hr, List.take_length]⟩
 have hnone : ∀ u ∈ (rows [r]).toList, u.oneCell' = true := by simpa [rows] using h1
 rcases h with ⟨rfl, rfl, rfl⟩ | ⟨b, junk, rfl, rfl, hall⟩
 ·refine ⟨none, 0, 0, some ⟨xb, 0, none⟩, 1, xc, #[], rows [r], rfl, rfl, rfl, hnews, by rw [rows_size hall1]; simp, by simp, hnone, fun h => by omega, fun _ => ⟨hb, by omega, fun newcap hn b hbf => ?_⟩⟩
  rw [show (#[] : Array Value) ++ rows [r] ++ Builtin.zeroCells zero.cells (newcap - (0 + 1)) = rows ([] ++ [r] ++ List.replicate (newcap - 1) z) by rw [hz1, zeroRows z hz2]; simp only [Nat.zero_add, Array.empty_append, List.nil_append]; rw [rows_append]]
  refine ⟨_, Ent.swap3 [(b, _)] A B, hk _ [(b, _)] (.inr ⟨b, List.replicate (newcap - 1) z, ?_, rfl, ?_⟩)⟩
  ·simp; omega
  ·intro x hx
   rcases List.mem_append.1 hx with hx | hx
   ·exact hall1 x hx
   ·rw [List.eq_of_mem_replicate hx, hz2]
 ·have hsz := rows_size hall
  have hallr : ∀ x ∈ rs, x.length = k := fun x hx => hall x (by simp [hx])
  have hold : rows rs = (rows (rs ++ junk)).extract 0 (0 + rs.length * k) := by
   rw [← rows_append]
   apply Array.ext'
   have := rows_size hallr
   have h2 : (rows rs).toList.length = rs.length * k := by rw [Array.length_toList]; exact this
   rw [Array.toList_extract, Array.toList_append, List.extract_eq_take_drop, List.drop_zero, Nat.zero_add, Nat.sub_zero, ← h2, List.take_left]
  refine ⟨some ⟨b, 0, none⟩, rs.length, rs.length + junk.length, some ⟨xb, 0, none⟩, 1, xc, rows rs, rows [r], rfl, rfl, .inr ⟨rfl, _, elem, (0, 0), by simp, ?_, hold⟩, hnews, by rw [rows_size hall1]; simp, rows_size hallr, hnone, fun hfit => ?_, fun hgrow => ⟨hb, by omega, fun newcap hn b' hbf => ?_⟩⟩
  ·rw [hsz]; simp only [List.length_append, Nat.zero_add]; exact Nat.mul_le_mul_right _ (by omega)
  ·obtain ⟨j0, junk', rfl⟩ : ∃ j0 junk', junk = j0 :: junk' := by cases junk with | nil => exact absurd hfit (by simp only [List.length_nil]; omega) | cons a b => exact ⟨a, b, rfl⟩
   refine ⟨_, elem, _, rfl, ?_, ((Upd.head _).append B).prepend A, hk _ [(b, _)] (.inr ⟨b, junk', ?_, ?_, ?_⟩)⟩
   ·rw [hsz]; simp [Nat.succ_mul, Nat.add_mul]
   ·simp; omega
   ·have e : (rows [r]).toList = r := by simp [rows]
    rw [e, show (⟨b, 0, none⟩ : Addr).off + rs.length * k = rs.length * k by simp, rows_set hall (by simp) hr]
    simp
   ·intro x hx
    simp only [List.append_assoc, List.cons_append, List.nil_append, List.mem_append, List.mem_cons] at hx
    rcases hx with hx | hx | hx
    ·exact hallr x hx
    ·rw [hx]; exact hr
    ·exact hall x (by simp [hx])
  ·refine ⟨A ++ ([(b', _)] ++ B), ?_, hk _ [(b', _)] (.inr ⟨b', List.replicate (newcap - (rs.length + 1)) z, ?_, rfl, ?_⟩)⟩
   ·rw [hz1, zeroRows z hz2, rows_append, rows_append]
    exact fun g w h => (Ent.segs [[_], A, [_], B] [[_], A, [_], B] ((List.perm_append_comm (l₁ := [_, A]) (l₂ := [_])).append_right [B] |>.trans (.cons _ (.swap _ _ _)) ) g w h).tail
   ·simp; omega
   ·intro x hx
    rcases List.mem_append.1 hx with hx | hx
    ·rcases List.mem_append.1 hx with hx | hx
     ·exact hallr x hx
     ·exact hall1 x hx
    ·rw [List.eq_of_mem_replicate hx, hz2]
end
end Go.Sx
namespace Go.Sx
open Go
section
variable {P : Program} {g : Gh} {H : Hp}
theorem SOwn.pos {T : TypeId} {k : Nat} {v : Value} {rs : List (List Value)} {C : Hp} (h : SOwn T k v rs C) (hp : 0 < rs.length) :
  ∃ b junk, v = .slice (some ⟨b, 0, none⟩) rs.length (rs.length + junk.length) ∧ C = [(b, .cells (rows (rs ++ junk)) T (0, 0))] ∧ (∀ r ∈ rs ++ junk, r.length = k) := by
 rcases h with ⟨_, rfl, _⟩ | h
 ·simp at hp
 ·exact h
theorem SOwn.mk {T : TypeId} {k b : Nat} {rs junk : List (List Value)} (hall : ∀ r ∈ rs ++ junk, r.length = k) : SOwn T k (.slice (some ⟨b, 0, none⟩) rs.length (rs.length + junk.length)) rs [(b, .cells (rows (rs ++ junk)) T (0, 0))] :=
 .inr ⟨b, junk, rfl, rfl, hall⟩
theorem SOwn.mk' {T : TypeId} {k b n c : Nat} {rs junk : List (List Value)} (hall : ∀ r ∈ rs ++ junk, r.length = k) (hn : n = rs.length) (hc : c = rs.length + junk.length) : SOwn T k (.slice (some ⟨b, 0, none⟩) n c) rs [(b, .cells (rows (rs ++ junk)) T (0, 0))] := by
 subst hn; subst hc; exact SOwn.mk hall
theorem LdA.row {b i k : Nat} {l : List (List Value)} {T : TypeId} {fz : Nat × Nat} {r : List Value} {K : Value → Prop} (hm : (b, Obj.cells (rows l) T fz) ∈ H) (hall : ∀ r ∈ l, r.length = k) (hi : l[i]? = some r) (h : K (.agg r.toArray)) :
  LdA k H (.pointer (some ⟨b, 0 + i * k, none⟩)) K := by
 have hlt := (List.getElem?_eq_some_iff.1 hi).1
 refine LdA.mk hm ?_ ?_ h
 ·rw [rows_size hall, Nat.zero_add]; have := Nat.mul_le_mul_right k (Nat.succ_le_of_lt hlt); rwa [Nat.succ_mul] at this
 ·rw [Nat.zero_add]; exact rows_extract hall hi
theorem Ld.row {b i j k : Nat} {l : List (List Value)} {T : TypeId} {fz : Nat × Nat} {r : List Value} {v : Value} {K : Value → Prop} (hm : (b, Obj.cells (rows l) T fz) ∈ H) (hall : ∀ r ∈ l, r.length = k) (hi : l[i]? = some r) (hv : r[j]? = some v) (h : K v) :
  Ld H (.pointer (some ⟨b, 0 + i * k + j, none⟩)) K := by
 have hr := hall r (List.mem_of_getElem? hi)
 have hj : j < k := by rw [← hr]; exact (List.getElem?_eq_some_iff.1 hv).1
 refine Ld.mk hm ?_ h
 rw [Nat.zero_add, rows_get hall hj, hi]; exact hv
theorem Ld.row1 {b i : Nat} {l : List (List Value)} {T : TypeId} {fz : Nat × Nat} {v : Value} {K : Value → Prop} (hm : (b, Obj.cells (rows l) T fz) ∈ H) (hall : ∀ r ∈ l, r.length = 1) (hi : l[i]? = some [v]) (h : K v) :
  Ld H (.pointer (some ⟨b, 0 + i * 1, none⟩)) K := by
 have := Ld.row (j := 0) hm hall hi rfl h
 simpa using this
theorem St.row {b i k : Nat} {l : List (List Value)} {T : TypeId} {r : List Value} {H' : Hp} {K : Hp → Prop} (hu : Upd b (.cells (rows l) T (0, 0)) (.cells (rows (l.set i r)) T (0, 0)) H H') (hall : ∀ r ∈ l, r.length = k) (hi : i < l.length)
  (hr : r.length = k) (h1 : ∀ v ∈ r, v.oneCell' = true) (h : K H') : St k H (.pointer (some ⟨b, 0 + i * k, none⟩)) (.agg r.toArray) K := by
 refine St.mk hu (by simp [Value.cells, hr]) ?_ (by simpa [Value.cells] using h1) ?_ h
 ·rw [rows_size hall, Nat.zero_add]; have := Nat.mul_le_mul_right k (Nat.succ_le_of_lt hi); rwa [Nat.succ_mul] at this
 ·simp only [Value.cells, Nat.zero_add]; exact rows_set hall hi hr
theorem rows_set_cell {k : Nat} {l : List (List Value)} (h : ∀ r ∈ l, r.length = k) {i j : Nat} {r : List Value} (hi : l[i]? = some r) (hj : j < k) (v : Value) : (rows l).setIfInBounds (i * k + j) v = rows (l.set i (r.set j v)) := by
 have hr := h r (List.mem_of_getElem? hi)
 have hlt := (List.getElem?_eq_some_iff.1 hi).1
 have hall' : ∀ x ∈ l.set i (r.set j v), x.length = k := fun x hx => by
  rcases List.mem_or_eq_of_mem_set hx with hx | hx
  ·exact h x hx
  ·rw [hx, List.length_set]; exact hr
 have hk : 0 < k := by omega
 apply Array.ext'
 apply List.ext_getElem?
 intro m
 rw [Array.getElem?_toList, Array.getElem?_toList, Array.getElem?_setIfInBounds]
 have hm : m % k < k := Nat.mod_lt _ hk
 have he : m / k * k + m % k = m := by rw [Nat.mul_comm]; exact Nat.div_add_mod m k
 have g1 := rows_get h (i := m / k) hm
 have g2 := rows_get hall' (i := m / k) hm
 rw [he] at g1 g2
 rw [g1, g2]
 by_cases e : i * k + j = m
 ·have e1 : m / k = i := by rw [← e, Nat.mul_comm, Nat.mul_add_div hk, Nat.div_eq_of_lt hj, Nat.add_zero]
  have e2 : m % k = j := by rw [← e, Nat.mul_comm, Nat.mul_add_mod, Nat.mod_eq_of_lt hj]
  rw [if_pos e, if_pos (by rw [rows_size h]; have := Nat.mul_le_mul_right k (Nat.succ_le_of_lt hlt); rw [Nat.succ_mul] at this; omega), e1, e2]
  simp [hlt, hr, hj]
 ·rw [if_neg e]
  by_cases e1 : m / k = i
  ·have e2 : j ≠ m % k := fun e2 => e (by rw [e2, ← e1]; exact he)
   rw [e1, hi]
   simp [hlt, e2]
  ·rw [List.getElem?_set_ne (fun x => e1 x.symm)]
theorem St.cell {b i j k : Nat} {l : List (List Value)} {T : TypeId} {r : List Value} {v : Value} {H' : Hp} {K : Hp → Prop} (hu : Upd b (.cells (rows l) T (0, 0)) (.cells (rows (l.set i (r.set j v))) T (0, 0)) H H') (hall : ∀ r ∈ l, r.length = k)
  (hi : l[i]? = some r) (hj : j < k) (h1 : v.oneCell' = true) (h : K H') : St 1 H (.pointer (some ⟨b, 0 + i * k + j, none⟩)) v K := by
 have hlt := (List.getElem?_eq_some_iff.1 hi).1
 have hc : v.cells = #[v] := by cases v <;> first | rfl | (simp [Value.oneCell'] at h1)
 refine St.mk hu (by simp [hc]) ?_ (by simp [hc, h1]) ?_ h
 ·rw [rows_size hall, Nat.zero_add]; have := Nat.mul_le_mul_right k (Nat.succ_le_of_lt hlt); rw [Nat.succ_mul] at this; omega
 ·simp only [hc, Nat.zero_add, over]; exact rows_set_cell hall hi hj v
theorem St.one {b off : Nat} {c c' : Array Value} {T : TypeId} {v : Value} {H' : Hp} {K : Hp → Prop} (hu : Upd b (.cells c T (0, 0)) (.cells c' T (0, 0)) H H') (h1 : v.oneCell' = true) (hs : off < c.size) (hc : c.setIfInBounds off v = c') (h : K H') :
  St 1 H (.pointer (some ⟨b, off, none⟩)) v K := by
 have hv : v.cells = #[v] := by cases v <;> first | rfl | (simp [Value.oneCell'] at h1)
 exact St.mk hu (by simp [hv]) (by omega) (by simp [hv, h1]) (by simpa [hv, over] using hc) h
theorem St.whole {b n : Nat} {c : Array Value} {T : TypeId} {r : List Value} {H' : Hp} {K : Hp → Prop} (hu : Upd b (.cells c T (0, 0)) (.cells r.toArray T (0, 0)) H H') (hs : c.size = n) (hr : r.length = n) (h1 : ∀ v ∈ r, v.oneCell' = true) (h : K H') :
  St n H (.pointer (some ⟨b, 0, none⟩)) (.agg r.toArray) K := by
 refine St.mk hu (by simp [Value.cells, hr]) (by omega) (by simpa [Value.cells] using h1) ?_ h
 have := over_eq r c.toList 0 (by simp; omega)
 rw [Array.toArray_toList] at this
 simp only [Value.cells]
 rw [this]
 simp [List.drop_eq_nil_of_le, hr, hs]
theorem LdA.whole {b n : Nat} {r : List Value} {T : TypeId} {fz : Nat × Nat} {K : Value → Prop} (hm : (b, Obj.cells r.toArray T fz) ∈ H) (hr : r.length = n) (h : K (.agg r.toArray)) : LdA n H (.pointer (some ⟨b, 0, none⟩)) K :=
 LdA.mk hm (by simp [hr]) (by simp; rw [← hr, List.take_length]) h
theorem eraseIdx_map {α β : Type} (f : α → β) : ∀ (l : List α) (i : Nat), (l.map f).eraseIdx i = (l.eraseIdx i).map f
 | [], _ => rfl
 | x :: l, 0 => rfl
 | x :: l, i + 1 => by simp [eraseIdx_map f l i]
end
end Go.Sx
namespace Go.Sx
open Go
section
variable {P : Program} {g : Gh} {H : Hp}
theorem foldl_over (off : Nat) : ∀ (r : List Value) (i : Nat) (c : Array Value), (r.zipIdx i).foldl (fun cs (x : Value × Nat) => cs.setIfInBounds (off + x.2) x.1) c = over c (off + i) r
 | [], i, c => rfl
 | v :: r, i, c => by
  rw [List.zipIdx_cons, List.foldl_cons, foldl_over off r (i + 1)]
  rfl
theorem fill_over (off : Nat) (a c : Array Value) : a.zipIdx.foldl (fun cs (x : Value × Nat) => cs.setIfInBounds (off + x.2) x.1) c = over c off a.toList := by
 rw [← Array.foldl_toList]
 have : a.zipIdx.toList = a.toList.zipIdx 0 := by simp
 rw [this, foldl_over off a.toList 0 c]; rfl
def overL : List Value → Nat → List Value → List Value
 | c, _, [] => c
 | c, off, v :: r => overL (c.set off v) (off + 1) r
theorem overL_over : ∀ (r c : List Value) (off : Nat), over c.toArray off r = (overL c off r).toArray
 | [], c, off => rfl
 | v :: r, c, off => by
  have : c.toArray.setIfInBounds off v = (c.set off v).toArray := by simp
  rw [over, overL, this, overL_over r]
def fillL (place : Nat → Option (Nat × Nat)) : List Value → List (Nat × Value) → Option (List Value)
 | c, [] => some c
 | c, (i, v) :: r =>
  match place i with
  | none => none
  | some (off, size) => cond (Nat.beq v.cells.toList.length size && Nat.ble (off + v.cells.toList.length) c.length) (fillL place (overL c off v.cells.toList) r) none
theorem fillL_fill {place : Nat → Option (Nat × Nat)} : ∀ (r : List (Nat × Value)) (c cs : List Value), fillL place c r = some cs → Instr.fill place c.toArray r = some cs.toArray
 | [], c, cs, h => by simp only [fillL, Option.some.injEq] at h; subst h; rfl
 | (i, v) :: r, c, cs, h => by
  simp only [fillL] at h
  simp only [Instr.fill]
  split at h
  ·simp at h
  ·rename_i off size hp
   cases hc : (Nat.beq v.cells.toList.length size && Nat.ble (off + v.cells.toList.length) c.length) <;> simp only [hc, cond_true, cond_false, reduceCtorEq] at h
   simp only [Bool.and_eq_true] at hc
   have h1 := Nat.eq_of_beq_eq_true hc.1
   have h2 := Nat.le_of_ble_eq_true hc.2
   have h3 : v.cells.toList.length = v.cells.size := Array.length_toList
   have hsz : v.cells.size = size := by rw [← h3]; exact h1
   have hle : off + v.cells.size ≤ c.length := by rw [← h3]; exact h2
   simp only [hp]
   have hcond : (decide (v.cells.size ≠ size) || decide (off + v.cells.size > c.toArray.size)) = false := by
    rw [Bool.or_eq_false_iff]; exact ⟨by simp [hsz], by simp only [List.size_toArray, decide_eq_false_iff_not]; omega⟩
   rw [hcond]
   simp only [Bool.false_eq_true, if_false]
   rw [fill_over, overL_over]
   exact fillL_fill r _ cs h
def placesL (P : Program) : List Field → Option (List (Nat × Nat))
 | [] => some []
 | f :: r => match sizeD P f.type, placesL P r with
  | some n, some l => some ((f.offset, n) :: l)
  | _, _ => none
def buildL (P : Program) (t : TypeId) (parts : List (Nat × Value)) : Option (List Value) :=
 match P.underlying t, zeroD P t with
 | some (.struct fs), some z => match placesL P fs.toList with
  | some pl => fillL (fun i => pl[i]?) z.cells.toList parts
  | none => none
 | _, _ => none
theorem placesL_run : ∀ (fs : List Field) (pl : List (Nat × Nat)), placesL P fs = some pl → ∀ w, (fs.mapM fun f => (do pure (f.offset, ← sizeOf f.type) : Sem (Nat × Nat))).run P w = .ok pl w
 | [], pl, h, w => by simp only [placesL, Option.some.injEq] at h; subst h; rfl
 | f :: r, pl, h, w => by
  simp only [placesL] at h
  split at h
  ·rename_i n l hn hl
   simp only [Option.some.injEq] at h; subst h
   obtain ⟨i, hi, hin⟩ := sizeD_spec hn
   have ih := placesL_run r l hl w
   simp only [List.mapM_cons, Sem.run_bind, run_sizeOf hi, Result.andThen_ok, Sem.run_pure, hin, ih]
  ·simp at h
theorem Build.mk {t : TypeId} {parts : List (Nat × Value)} {cs : List Value} {k : Value → Prop} (hb : buildL P t parts = some cs) (h : k (.agg cs.toArray)) : Build P t parts k := by
 refine ⟨_, fun w => ?_, h⟩
 unfold buildL at hb
 split at hb
 ·rename_i fs z hu hz
  split at hb
  ·rename_i pl hpl
   obtain ⟨i, hi, hiz⟩ := zeroD_spec hz
   have hf := fillL_fill _ _ _ hb
   have hp := placesL_run fs.toList pl hpl w
   simp only [Instr.build, Sem.run_bind, run_zero hi hiz, Result.andThen_ok, run_underlying hu]
   have e2 : ((fs.mapM fun f => (do pure (f.offset, ← sizeOf f.type) : Sem (Nat × Nat))).run P w) = .ok pl.toArray w := by
    rw [Array.mapM_eq_mapM_toList]
    simp only [Sem.run_map, hp, Result.andThen_ok]
   rw [e2]
   show Sem.run P _ w = _
   have e3 : Instr.fill (fun x => pl.toArray[x]?) z.cells parts = some cs.toArray := by
    simpa using hf
   simp only [e3]
   rfl
  ·simp at hb
 ·simp at hb
theorem BuildSl.one {t e k : Nat} {z : Value} {r : List Value} {K : Value → Hp → Prop} (h1 : P.underlying t = some (.slice e)) (h2 : sizeD P e = some k) (h3 : zeroD P e = some z) (hk : 0 < k ∧ k ≤ 16777216) (hr : r.length = k)
  (h : ∀ b, K (.slice (some ⟨b, 0, none⟩) 1 1) ((b, .cells r.toArray e (0, 0)) :: H)) : BuildSl P t 1 [(0, .agg r.toArray)] H K := by
 refine ⟨r.toArray, e, k, z, h1, h2, h3, by omega, ?_, fun b _ => h b⟩
 have : ((Array.range (1 * k)).map (z.cells[· % z.cells.size]!)) = (((Array.range (1 * k)).map (z.cells[· % z.cells.size]!)).toList).toArray := by rw [Array.toArray_toList]
 rw [this]
 generalize hc : ((Array.range (1 * k)).map (z.cells[· % z.cells.size]!)).toList = c
 have hlen : c.length = k := by rw [← hc]; simp
 refine fillL_fill _ _ _ ?_
 simp only [fillL, Value.cells]
 have hb : (Nat.beq r.toArray.toList.length k && Nat.ble (0 * k + r.toArray.toList.length) c.length) = true := by simp [hr, hlen]
 rw [hb]
 simp only [cond_true, Option.some.injEq]
 have := over_eq r c 0 (by omega)
 rw [overL_over] at this
 have h5 : overL c 0 r = List.take 0 c ++ r ++ List.drop (0 + r.length) c := by simpa using congrArg Array.toList this
 simp only [Nat.zero_mul]
 rw [h5]
 simp [List.drop_eq_nil_of_le, hr, hlen]
end
end Go.Sx
namespace Go.Sx
open Go
section
variable {P : Program} {g : Gh} {H : Hp}
theorem SliceE.upto {size n c h : Nat} {a : Option Addr} {kd : IntKind} {k : Value → Prop} (hh : h ≤ c) (hk : k (.slice a h c)) : SliceE size (.slice a n c) none (some (.int kd (h : Int))) k := by
 refine ⟨a, n, c, 0, h, rfl, rfl, rfl, by omega, by omega, by omega, ?_⟩
 have : (if c = (0 : Int).toNat then a else a.map (·.add ((0 : Int).toNat * size))) = a := by
  split
  ·rfl
  ·simp only [Int.toNat_zero, Nat.zero_mul]
   cases a with
   | none => rfl
   | some x => simp [Addr.add_zero']
 rw [this]
 simpa using hk
end
end Go.Sx
namespace Go.Sx
open Go
section
variable {P : Program} {g : Gh} {H : Hp}
inductive Hole (C : Hp) : Hp → (Hp → Hp) → Prop
 | here : Hole C C (fun X => X)
 | left {A : Hp} : Hole C (C ++ A) (fun X => X ++ A)
 | cons {x : Nat × Obj} {H : Hp} {c : Hp → Hp} (h : Hole C H c) : Hole C (x :: H) (fun X => x :: c X)
 | app {A H : Hp} {c : Hp → Hp} (h : Hole C H c) : Hole C (A ++ H) (fun X => A ++ c X)
theorem Hole.spec {C H : Hp} {c : Hp → Hp} (h : Hole C H c) : H = c C ∧ ∃ F, ∀ X, (c X).Perm (X ++ F) := by
 induction h with
 | here => exact ⟨rfl, [], fun X => by simp⟩
 | @left A => exact ⟨rfl, A, fun X => .refl _⟩
 | @cons x H c h ih =>
  obtain ⟨h1, F, h2⟩ := ih
  exact ⟨by rw [h1], x :: F, fun X => (List.Perm.cons x (h2 X)).trans List.perm_middle.symm⟩
 | @app A H c h ih =>
  obtain ⟨h1, F, h2⟩ := ih
  refine ⟨by rw [h1], A ++ F, fun X => (List.Perm.append_left A (h2 X)).trans ?_⟩
  rw [← List.append_assoc, ← List.append_assoc]; exact List.perm_append_comm.append_right F
theorem Hole.ent {C H : Hp} {c : Hp → Hp} (h : Hole C H c) {X Y : Hp} (e : Ent X Y) : Ent (c X) (c Y) := by
 obtain ⟨_, F, hp⟩ := h.spec
 exact (Ent.perm (hp X)).trans ((e.frame F).trans (.perm (hp Y).symm))
theorem Ent.cons {x : Nat × Obj} {A B : Hp} (h : Ent A B) : Ent (x :: A) (x :: B) := Ent.prep h [x]
theorem Ent.skip {x : Nat × Obj} {A B : Hp} (h : Ent A B) : Ent (x :: A) B := Ent.tail.trans h
theorem Ent.skips {X A B : Hp} (h : Ent A B) : Ent (X ++ A) B := Ent.right.trans h
theorem Ent.assoc {A B C : Hp} : Ent ((A ++ B) ++ C) (A ++ (B ++ C)) := fun _ _ h => by rw [← List.append_assoc]; exact h
theorem SCalls.frame {f : FuncId} {args : Array Value} {C F : Hp} {R : Ending → Hp → Prop} (h : ∀ g, SCalls P g f args C R) : SCalls P g f args (C ++ F) (fun e H' => ∃ C', H' = C' ++ F ∧ R e C') := by
 intro w hw
 exact ((h (g.add F)) w (Own.framed.1 hw)).mono fun e w' ⟨H', ho, hr⟩ => ⟨_, Own.framed.2 ho, H', rfl, hr⟩
theorem SCalls.hole {f : FuncId} {args : Array Value} {C H : Hp} {c : Hp → Hp} {R : Ending → Hp → Prop} (hh : Hole C H c) (h : ∀ g, SCalls P g f args C R) : SCalls P g f args H (fun e H' => ∃ C', H' = c C' ∧ R e C') := by
 obtain ⟨rfl, F, hp⟩ := hh.spec
 exact ((SCalls.frame (F := F) h).pre (.perm (hp C))).post fun e H' ⟨C', h1, h2⟩ => ⟨c C', by rw [h1]; exact .perm (hp C').symm, C', rfl, h2⟩
def Fc (P : Program) (f : FuncId) (args : Array Value) (C : Hp) (Q : Value → Hp → Prop) : Prop :=
 ∀ g, SCalls P g f args C (fun e H' => ∃ v H'', e = .returned v ∧ Ent H' H'' ∧ Q v H'')
def FnR (Q : Value → Hp → Prop) : Ending → Hp → Prop := fun e H' => ∃ v H'', e = .returned v ∧ Ent H' H'' ∧ Q v H''
theorem FnR.mk {Q : Value → Hp → Prop} {v : Value} {H H'' : Hp} (he : Ent H H'') (h : Q v H'') : FnR Q (.returned v) H := ⟨v, H'', rfl, he, h⟩
theorem FnR.here {Q : Value → Hp → Prop} {v : Value} {H : Hp} (h : Q v H) : FnR Q (.returned v) H := ⟨v, H, rfl, .refl _, h⟩
theorem Fc.mono {f : FuncId} {args : Array Value} {C : Hp} {Q Q' : Value → Hp → Prop} (h : Fc P f args C Q) (hq : ∀ v H, Q v H → Q' v H) : Fc P f args C Q' :=
 fun g => (h g).mono fun e H' ⟨v, H'', h1, h2, h3⟩ => ⟨v, H'', h1, h2, hq _ _ h3⟩
def Rd (P : Program) (f : FuncId) (args : Array Value) (B : Hp) (Q : Value → Prop) : Prop := Fc P f args B (fun v H => H = B ∧ Q v)
theorem CallF.fn {f : FuncId} {args : Array Value} {C H : Hp} {c : Hp → Hp} {Q : Value → Hp → Prop} {K : Value → Hp → Prop} {KP : List PanicEntry → Hp → Prop} (hh : Hole C H c) (hc : Fc P f args C Q)
  (hk : ∀ v C', Q v C' → K v (c C')) : CallF P g f args H K KP :=
 (SCalls.hole hh hc).post fun e H' ⟨C', h1, v, C'', h2, h3, h4⟩ => ⟨c C'', by rw [h1]; exact hh.ent h3, by subst h2; exact hk _ _ h4⟩
theorem CallF.rd {f : FuncId} {args : Array Value} {B H : Hp} {c : Hp → Hp} {Q : Value → Prop} {K : Value → Hp → Prop} {KP : List PanicEntry → Hp → Prop} (hh : Hole B H c) (hc : Rd P f args B Q)
  (hk : ∀ v, Q v → K v H) : CallF P g f args H K KP :=
 CallF.fn hh hc fun v C' ⟨h1, h2⟩ => by subst h1; rw [← hh.spec.1]; exact hk v h2
theorem CallV.of {fv : Value} {args : Array Value} {K : Value → Hp → Prop} {KP : List PanicEntry → Hp → Prop} {f : FuncId} {first captured : Array Value} (hf : fv = .func (.func f) first captured) (hc : callable P f = true)
  (h : CallF P g f (first ++ args ++ captured) H K KP) : CallV P g fv args H K KP := ⟨f, first, captured, hf, hc, h⟩
theorem DR.self {body : Hp → Prop} (h : body H) : DR H body := ⟨H, .refl _, h⟩
theorem DR.of {R : Hp} {body : Hp → Prop} (e : Ent H R) (h : body R) : DR H body := ⟨R, e, h⟩
def At (B : Hp) (p : Value) (r : List Value) : Prop := ∃ b o c T fz, p = .pointer (some ⟨b, o, none⟩) ∧ (b, Obj.cells c T fz) ∈ B ∧ ∀ j v, r[j]? = some v → c[o + j]? = some v
theorem At.block {b : Nat} {l : List Value} {T : TypeId} {fz : Nat × Nat} {B : Hp} (h : (b, Obj.cells l.toArray T fz) ∈ B) : At B (.pointer (some ⟨b, 0, none⟩)) l :=
 ⟨b, 0, _, T, fz, rfl, h, fun j v hj => by simpa using hj⟩
theorem Ld.at {p v : Value} {r : List Value} {B : Hp} {k : Value → Prop} (h : At B p (v :: r)) (hs : ∀ x ∈ B, x ∈ H) (hk : k v) : Ld H p k := by
 obtain ⟨b, o, c, T, fz, h1, h2, h3⟩ := h
 exact ⟨b, o, c, T, fz, v, h1, hs _ h2, by simpa using h3 0 v rfl, hk⟩
theorem FAddr.at {p : Value} {r : List Value} {B : Hp} {j : Nat} {k : Value → Prop} (h : At B p r) (hk : ∀ q, At B q (r.drop j) → k q) : FAddr j p k := by
 obtain ⟨b, o, c, T, fz, h1, h2, h3⟩ := h
 refine ⟨b, o, h1, hk _ ⟨b, o + j, c, T, fz, rfl, h2, fun i v hi => ?_⟩⟩
 rw [List.getElem?_drop] at hi
 rw [Nat.add_assoc]; exact h3 _ _ hi
theorem LdA.at {p : Value} {r : List Value} {B : Hp} {n : Nat} {k : Value → Prop} (h : At B p r) (hn : r.length = n) (hp : 0 < n) (hs : ∀ x ∈ B, x ∈ H) (hk : k (.agg r.toArray)) : LdA n H p k := by
 obtain ⟨b, o, c, T, fz, h1, h2, h3⟩ := h
 have hsz : o + n ≤ c.size := by
  have := h3 (n - 1) (r[n - 1]'(by omega)) (List.getElem?_eq_getElem _)
  have := (Array.getElem?_eq_some_iff.1 this).1
  omega
 refine ⟨b, o, c, T, fz, h1, hs _ h2, hsz, ?_⟩
 have : c.extract o (o + n) = r.toArray := by
  apply Array.ext
  ·simp; omega
  ·intro i hi1 hi2
   simp only [List.size_toArray] at hi2
   have := h3 i r[i] (List.getElem?_eq_getElem _)
   rw [Array.getElem_extract]
   have := (Array.getElem?_eq_some_iff.1 this).2
   simpa using this
 rw [this]; exact hk
def Sl (k : Nat) (B : Hp) (v : Value) (rs : List (List Value)) : Prop :=
 (∀ r ∈ rs, r.length = k) ∧
 ((∃ a cap, v = .slice a 0 cap ∧ rs = []) ∨ ∃ b o cap c T fz, v = .slice (some ⟨b, o, none⟩) rs.length cap ∧ rs.length ≤ cap ∧ (b, Obj.cells c T fz) ∈ B ∧ o + rs.length * k ≤ c.size ∧ ∀ i r, rs[i]? = some r → ∀ j v, r[j]? = some v → c[o + i * k + j]? = some v)
theorem Sl.mono {k : Nat} {B B' : Hp} {v : Value} {rs : List (List Value)} (h : Sl k B v rs) (hs : ∀ x ∈ B, x ∈ B') : Sl k B' v rs := by
 obtain ⟨h0, h⟩ := h
 refine ⟨h0, ?_⟩
 rcases h with h | ⟨b, o, cap, c, T, fz, h1, h2, h3, h4⟩
 ·exact .inl h
 ·exact .inr ⟨b, o, cap, c, T, fz, h1, h2, hs _ h3, h4⟩
theorem Sl.nil (k : Nat) (B : Hp) : Sl k B (.slice none 0 0) [] := ⟨by simp, .inl ⟨_, _, rfl, rfl⟩⟩
theorem Sl.shape {k : Nat} {B : Hp} {v : Value} {rs : List (List Value)} (h : Sl k B v rs) : ∃ a cap, v = .slice a rs.length cap ∧ rs.length ≤ cap := by
 rcases h.2 with ⟨a, cap, rfl, rfl⟩ | ⟨b, o, cap, c, T, fz, h1, h2, _⟩
 ·exact ⟨_, _, rfl, Nat.zero_le _⟩
 ·exact ⟨_, _, h1, h2⟩
theorem Sl.lenS {k : Nat} {B : Hp} {v : Value} {rs : List (List Value)} (h : Sl k B v rs) {K : Value → Prop} (hk : K (.int .i64 rs.length)) : LenS v K := by
 obtain ⟨a, c, rfl, _⟩ := h.shape; exact LenS.mk hk
theorem IAddr.sl {k : Nat} {B : Hp} {v : Value} {rs : List (List Value)} {kd : IntKind} {i : Nat} {r : List Value} {K : Value → Prop} (h : Sl k B v rs) (hi : rs[i]? = some r) (hk : ∀ p, At B p r → K p) : IAddr k v (.int kd (i : Int)) K := by
 have hlt := (List.getElem?_eq_some_iff.1 hi).1
 rcases h.2 with ⟨a, cap, rfl, rfl⟩ | ⟨b, o, cap, c, T, fz, h1, h2, h3, h4, h5⟩
 ·simp at hlt
 ·subst h1
  refine IAddr.nat (by omega) (hk _ ⟨b, _, c, T, fz, rfl, h3, fun j v hj => h5 i r hi j v hj⟩)
theorem Sl.cells {k : Nat} {B : Hp} {v : Value} {rs : List (List Value)} (h : Sl k B v rs) : ∃ a cap, v = .slice a rs.length cap ∧ Cells B a (rs.length * k) (rows rs) := by
 rcases h.2 with ⟨a, cap, rfl, rfl⟩ | ⟨b, o, cap, c, T, fz, h1, h2, h3, h4, h5⟩
 ·refine ⟨a, cap, rfl, ?_⟩
  cases a with
  | none => simp [Cells, rows]
  | some a => exact .inl ⟨by simp, rfl⟩
 ·refine ⟨_, cap, h1, .inr ⟨rfl, c, T, fz, h3, h4, ?_⟩⟩
  apply Array.ext
  ·rw [rows_size h.1]; simp; omega
  ·intro i hi1 hi2
   rw [rows_size h.1] at hi1
   have hk : 0 < k := Nat.pos_of_ne_zero fun e => by simp [e] at hi1
   have hd : i / k < rs.length := Nat.div_lt_of_lt_mul (by rw [Nat.mul_comm]; exact hi1)
   have hm : i % k < k := Nat.mod_lt _ hk
   have he : i / k * k + i % k = i := by rw [Nat.mul_comm]; exact Nat.div_add_mod i k
   have hr := h.1 rs[i / k] (List.getElem_mem hd)
   have g1 := rows_get h.1 (i := i / k) hm
   rw [he, List.getElem?_eq_getElem hd, Option.bind_some, List.getElem?_eq_getElem (by omega)] at g1
   have g2 := h5 (i / k) _ (List.getElem?_eq_getElem hd) (i % k) _ (List.getElem?_eq_getElem (by omega))
   rw [Nat.add_assoc, he] at g2
   have e1 := (Array.getElem?_eq_some_iff.1 g1).2
   have e2 := (Array.getElem?_eq_some_iff.1 g2).2
   rw [Array.getElem_extract]
   exact e1.trans e2.symm
theorem Sl.ofOwn {T : TypeId} {k : Nat} {v : Value} {rs : List (List Value)} {C : Hp} (h : SOwn T k v rs C) (hk : 0 < k) : Sl k C v rs := by
 rcases h with ⟨rfl, rfl, rfl⟩ | ⟨b, junk, rfl, rfl, hall⟩
 ·exact Sl.nil _ _
 ·refine ⟨fun r hr => hall r (by simp [hr]), .inr ⟨b, 0, _, rows (rs ++ junk), T, (0, 0), rfl, by omega, by simp, ?_, fun i r hi j v hj => ?_⟩⟩
  ·rw [rows_size hall, List.length_append, Nat.zero_add]; exact Nat.mul_le_mul_right _ (by omega)
  ·have hlt := (List.getElem?_eq_some_iff.1 hi).1
   have hr := hall r (List.mem_append_left _ (List.mem_of_getElem? hi))
   have hjk : j < k := by rw [← hr]; exact (List.getElem?_eq_some_iff.1 hj).1
   rw [Nat.zero_add, rows_get hall hjk, List.getElem?_append_left hlt, hi]; exact hj
end
end Go.Sx
namespace Go.Sx
open Go
def lim : IntKind → Nat
 | .i8 => 128 | .i16 => 32768 | .i32 => 2147483648 | .i64 => 9223372036854775808
 | .u8 => 256 | .u16 => 65536 | .u32 => 4294967296 | .u64 => 18446744073709551616
theorem wrap_nat {kd : IntKind} {n : Nat} (h : n < lim kd) : kd.wrap (n : Int) = n := by
 cases kd <;> simp only [lim] at h <;> simp only [IntKind.wrap, IntKind.bits, IntKind.signed, Bool.false_and, Bool.true_and, Bool.false_eq_true, if_false, decide_eq_true_eq]
 all_goals first
  | omega
  | (rw [if_neg (by simp; omega)]; omega)
theorem wrap_u64 (n : Int) : IntKind.u64.wrap n = n % 18446744073709551616 := by simp [IntKind.wrap, IntKind.bits, IntKind.signed]
theorem lim_le (kd : IntKind) : lim kd ≤ 2 ^ kd.bits := by cases kd <;> decide
def andn (a b : Nat) : Nat := a ^^^ (a &&& b)
theorem testBit_andn (a b j : Nat) : (andn a b).testBit j = (a.testBit j && !b.testBit j) := by
 unfold andn; rw [Nat.testBit_xor, Nat.testBit_and]; cases a.testBit j <;> cases b.testBit j <;> rfl
theorem andn_le (a b : Nat) : andn a b ≤ a := by
 have : andn a b = a &&& andn a b := by
  apply Nat.eq_of_testBit_eq; intro j
  rw [Nat.testBit_and, testBit_andn]; cases a.testBit j <;> simp
 rw [this]; exact Nat.and_le_left
theorem bits_nat {kd : IntKind} {a b : Nat} (ha : a < lim kd) (hb : b < lim kd) :
  bits .and kd a b = ((a &&& b : Nat) : Int) ∧ bits .or kd a b = ((a ||| b : Nat) : Int) ∧ bits .xor kd a b = ((a ^^^ b : Nat) : Int) ∧ bits .andNot kd a b = ((andn a b : Nat) : Int) := by
 have hl := lim_le kd
 have h1 : (BitVec.ofInt kd.bits (a : Int)).toNat = a := by rw [BitVec.ofInt_natCast, BitVec.toNat_ofNat, Nat.mod_eq_of_lt (by omega)]
 have h2 : (BitVec.ofInt kd.bits (b : Int)).toNat = b := by rw [BitVec.ofInt_natCast, BitVec.toNat_ofNat, Nat.mod_eq_of_lt (by omega)]
 obtain ⟨n, hn⟩ : ∃ n, lim kd = 2 ^ n := by cases kd <;> first | exact ⟨7, rfl⟩ | exact ⟨15, rfl⟩ | exact ⟨31, rfl⟩ | exact ⟨63, rfl⟩ | exact ⟨8, rfl⟩ | exact ⟨16, rfl⟩ | exact ⟨32, rfl⟩ | exact ⟨64, rfl⟩
 rw [hn] at ha hb
 refine ⟨?_, ?_, ?_, ?_⟩
 ·simp only [bits, BitVec.toNat_and, h1, h2]
  exact wrap_nat (by rw [hn]; exact Nat.lt_of_le_of_lt Nat.and_le_left ha)
 ·simp only [bits, BitVec.toNat_or, h1, h2]
  exact wrap_nat (by rw [hn]; exact Nat.or_lt_two_pow ha hb)
 ·simp only [bits, BitVec.toNat_xor, h1, h2]
  exact wrap_nat (by rw [hn]; exact Nat.xor_lt_two_pow ha hb)
 ·simp only [bits]
  have : (BitVec.ofInt kd.bits (a : Int) &&& ~~~BitVec.ofInt kd.bits (b : Int)).toNat = andn a b := by
   apply Nat.eq_of_testBit_eq; intro j
   rw [testBit_andn, ← BitVec.getLsbD, BitVec.getLsbD_and, BitVec.getLsbD_not, BitVec.getLsbD, BitVec.getLsbD, h1, h2]
   by_cases hj : j < kd.bits
   ·simp [hj]
   ·have : a.testBit j = false := Nat.testBit_lt_two_pow (Nat.lt_of_lt_of_le ha (by rw [← hn]; exact Nat.le_trans hl (Nat.pow_le_pow_right (by decide) (by omega))))
    simp [this]
  rw [this]
  exact wrap_nat (by rw [hn]; exact Nat.lt_of_le_of_lt (andn_le a b) ha)
section
variable {kd kd' : IntKind} {a b : Nat} {k : Value → Prop}
theorem Bin.andN (ha : a < lim kd) (hb : b < lim kd) (h : k (.int kd ((a &&& b : Nat) : Int))) : Bin .num .and (.int kd a) (.int kd b) k := ⟨_, by simp [binV, intV, (bits_nat ha hb).1], h⟩
theorem Bin.orN (ha : a < lim kd) (hb : b < lim kd) (h : k (.int kd ((a ||| b : Nat) : Int))) : Bin .num .or (.int kd a) (.int kd b) k := ⟨_, by simp [binV, intV, (bits_nat ha hb).2.1], h⟩
theorem Bin.xorN (ha : a < lim kd) (hb : b < lim kd) (h : k (.int kd ((a ^^^ b : Nat) : Int))) : Bin .num .xor (.int kd a) (.int kd b) k := ⟨_, by simp [binV, intV, (bits_nat ha hb).2.2.1], h⟩
theorem Bin.andnN (ha : a < lim kd) (hb : b < lim kd) (h : k (.int kd ((andn a b : Nat) : Int))) : Bin .num .andNot (.int kd a) (.int kd b) k := ⟨_, by simp [binV, intV, (bits_nat ha hb).2.2.2], h⟩
theorem Bin.shrN (ha : a < lim kd) (h : k (.int kd ((a >>> b : Nat) : Int))) : Bin .num .shr (.int kd a) (.int kd' b) k := by
 refine ⟨_, ?_, h⟩
 have h0 : ¬ ((b : Int) < 0) := by omega
 simp only [binV, h0, if_false, Option.some.injEq, Value.int.injEq, true_and, Int.toNat_natCast]
 rw [Int.fdiv_eq_ediv_of_nonneg _ (Int.le_of_lt (Int.pow_pos (by decide))), Nat.shiftRight_eq_div_pow]
 have hl := lim_le kd
 by_cases hb : b ≤ kd.bits
 ·rw [Nat.min_eq_left hb]; push_cast; rfl
 ·rw [Nat.min_eq_right (by omega)]
  have h1 : a / 2 ^ kd.bits = 0 := Nat.div_eq_of_lt (by omega)
  have h2 : a / 2 ^ b = 0 := Nat.div_eq_of_lt (Nat.lt_of_lt_of_le (by omega) (Nat.pow_le_pow_right (by decide) (by omega : kd.bits ≤ b)))
  have : (a : Int) / (2 ^ kd.bits : Int) = ((a / 2 ^ kd.bits : Nat) : Int) := by push_cast; rfl
  rw [this, h1, h2]
theorem Bin.shlN (hb : b ≤ kd.bits) (hr : a <<< b < lim kd) (h : k (.int kd ((a <<< b : Nat) : Int))) : Bin .num .shl (.int kd a) (.int kd' b) k := by
 refine ⟨_, ?_, h⟩
 have h0 : ¬ ((b : Int) < 0) := by omega
 simp only [binV, h0, if_false, Option.some.injEq, Value.int.injEq, true_and, Int.toNat_natCast, Nat.min_eq_left hb]
 rw [← wrap_nat hr, Nat.shiftLeft_eq]; push_cast; rfl
theorem Bin.shlU (h : k (.int .u64 (((a <<< b) % 18446744073709551616 : Nat) : Int))) : Bin .num .shl (.int .u64 a) (.int kd' b) k := by
 refine ⟨_, ?_, h⟩
 have h0 : ¬ ((b : Int) < 0) := by omega
 simp only [binV, h0, if_false, Option.some.injEq, Value.int.injEq, true_and, Int.toNat_natCast, IntKind.bits, wrap_u64]
 rw [Nat.shiftLeft_eq]
 by_cases hb : b ≤ 64
 ·rw [Nat.min_eq_left hb, Int.natCast_emod, Int.natCast_mul, Int.natCast_pow]; rfl
 ·rw [Nat.min_eq_right (by omega)]
  have h1 : (a * 2 ^ b) % 18446744073709551616 = 0 := by
   have : 2 ^ b = 18446744073709551616 * 2 ^ (b - 64) := by rw [show (18446744073709551616 : Nat) = 2 ^ 64 by rfl, ← Nat.pow_add]; congr 1; omega
   rw [this, Nat.mul_left_comm]; exact Nat.mul_mod_right _ _
  rw [h1]
  exact Int.mul_emod_left _ _
theorem Bin.addN (hr : a + b < lim kd) (h : k (.int kd ((a + b : Nat) : Int))) : Bin .num .add (.int kd a) (.int kd b) k := by
 refine Bin.add ?_
 have : ((a : Int) + (b : Int)) = ((a + b : Nat) : Int) := by push_cast; rfl
 rw [this, wrap_nat hr]; exact h
theorem Bin.subN (ha : a < lim kd) (hb : b ≤ a) (h : k (.int kd ((a - b : Nat) : Int))) : Bin .num .sub (.int kd a) (.int kd b) k := by
 refine Bin.sub ?_
 have : ((a : Int) - (b : Int)) = ((a - b : Nat) : Int) := by omega
 rw [this, wrap_nat (by omega)]; exact h
theorem Bin.mulN (hr : a * b < lim kd) (h : k (.int kd ((a * b : Nat) : Int))) : Bin .num .mul (.int kd a) (.int kd b) k := by
 refine Bin.mul ?_
 have : ((a : Int) * (b : Int)) = ((a * b : Nat) : Int) := by push_cast; rfl
 rw [this, wrap_nat hr]; exact h
theorem Bin.divN (ha : a < lim kd) (hb : b ≠ 0) (h : k (.int kd ((a / b : Nat) : Int))) : Bin .num .quo (.int kd a) (.int kd b) k := by
 refine ⟨_, ?_, h⟩
 have h0 : ¬ ((b : Int) = 0) := by omega
 simp only [binV, intV, if_true, h0, if_false]
 have : (a : Int).tdiv b = ((a / b : Nat) : Int) := by rw [Int.tdiv_eq_ediv_of_nonneg (by omega)]; push_cast; rfl
 rw [this, wrap_nat (Nat.lt_of_le_of_lt (Nat.div_le_self _ _) ha)]
theorem Bin.eqD {x y : Int} (h : k (.bool (decide (x = y)))) : Bin .num .eql (.int kd x) (.int kd y) k := Bin.eql (by rw [show (x == y) = decide (x = y) from by cases hb : decide (x = y) <;> simp_all]; exact h)
theorem Bin.neD {x y : Int} (h : k (.bool (decide (x ≠ y)))) : Bin .num .neq (.int kd x) (.int kd y) k := Bin.neq (by rw [show (x != y) = decide (x ≠ y) from by cases hb : decide (x = y) <;> simp_all]; exact h)
theorem Bin.eqN (h : k (.bool (decide (a = b)))) : Bin .num .eql (.int kd a) (.int kd b) k := Bin.eqD (by simpa [Int.natCast_inj] using h)
theorem Bin.neN (h : k (.bool (decide (a ≠ b)))) : Bin .num .neq (.int kd a) (.int kd b) k := Bin.neD (by simpa [Int.natCast_inj] using h)
theorem Bin.ltN (h : k (.bool (decide (a < b)))) : Bin .num .lss (.int kd a) (.int kd b) k := Bin.lss (by simpa [Int.ofNat_lt] using h)
theorem Bin.leN (h : k (.bool (decide (a ≤ b)))) : Bin .num .leq (.int kd a) (.int kd b) k := Bin.leq (by simpa [Int.ofNat_le] using h)
theorem Bin.gtN (h : k (.bool (decide (b < a)))) : Bin .num .gtr (.int kd a) (.int kd b) k := Bin.gtr (by simpa [Int.ofNat_lt] using h)
theorem Bin.geN (h : k (.bool (decide (b ≤ a)))) : Bin .num .geq (.int kd a) (.int kd b) k := Bin.geq (by simpa [Int.ofNat_le] using h)
theorem ConvI.nat (ha : a < lim kd) (h : k (.int kd (a : Int))) : ConvI kd (.int kd' a) k := ConvI.of (wrap_nat ha) h
theorem ConvI.cut8 (h : k (.int .u8 ((a % 256 : Nat) : Int))) : ConvI .u8 (.int kd' a) k := ConvI.of (by simp [IntKind.wrap, IntKind.bits, IntKind.signed]) h
theorem Un.negU (ha : a < 18446744073709551616) (h : k (.int .u64 (((18446744073709551616 - a) % 18446744073709551616 : Nat) : Int))) : Un .neg (.int .u64 a) k := by
 refine ⟨_, ?_, h⟩
 simp only [unV, wrap_u64, Option.some.injEq, Value.int.injEq, true_and]; omega
theorem Un.xorU (ha : a < 18446744073709551616) (h : k (.int .u64 ((18446744073709551615 - a : Nat) : Int))) : Un .xor (.int .u64 a) k := by
 refine ⟨_, ?_, h⟩
 have e : (if IntKind.u64.signed = true then (-1 : Int) else IntKind.u64.max) = ((18446744073709551615 : Nat) : Int) := by decide
 simp only [unV, e, (bits_nat (kd := .u64) (a := 18446744073709551615) (b := a) (by decide) ha).2.2.1, Option.some.injEq, Value.int.injEq, true_and]
 congr 1
 have : 18446744073709551615 ^^^ a = 18446744073709551615 - a := by
  have h64 : a < 2 ^ 64 := ha
  rw [show (18446744073709551615 : Nat) = 2 ^ 64 - 1 by rfl]
  apply Nat.eq_of_testBit_eq; intro j
  rw [Nat.testBit_xor, show 2 ^ 64 - 1 - a = 2 ^ 64 - (a + 1) by omega, Nat.testBit_two_pow_sub_succ h64, Nat.testBit_two_pow_sub_one]
  by_cases hj : j < 64
  ·simp [hj]
  ·simp [hj]; exact Nat.testBit_lt_two_pow (Nat.lt_of_lt_of_le h64 (Nat.pow_le_pow_right (by decide) (by omega)))
 exact this
end
theorem Br.dec {p : Prop} [Decidable p] {t f : Prop} (h1 : p → t) (h2 : ¬ p → f) : Br (.bool (decide p)) t f := ⟨_, rfl, fun h => h1 (by simpa using h), fun h => h2 (by simpa using h)⟩
theorem Br.decT {p : Prop} [Decidable p] {t f : Prop} (hp : p) (h1 : t) : Br (.bool (decide p)) t f := Br.dec (fun _ => h1) fun h => absurd hp h
theorem Br.decF {p : Prop} [Decidable p] {t f : Prop} (hp : ¬ p) (h1 : f) : Br (.bool (decide p)) t f := Br.dec (fun h => absurd h hp) fun _ => h1
end Go.Sx
