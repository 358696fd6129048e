/-
  A small separation logic over the model's heap, and the model's operations as laws of it. Nothing here names a program.
-/
import Derived.WalkKit
import Derived.Still
import Derived.KernelRfl
set_option linter.unusedSimpArgs false
namespace Go.Sx
open Go

/-- a piece of heap: blocks by number -/
abbrev Hp := List (Nat × Obj)

/-- the world holds these blocks, each once; what the run doesn't touch is as in g -/
structure Own (g : World) (H : Hp) (w : World) : Prop where
  os : w.os = g.os
  out : w.output = g.output
  tape : w.tape = g.tape
  nd : (H.map Prod.fst).Nodup
  has : ∀ x, x ∈ H → w.heap[x.1]? = some x.2

theorem Own.perm {g : World} {H H' : Hp} {w : World} (h : Own g H w) (p : H.Perm H') : Own g H' w :=
  ⟨h.os, h.out, h.tape, (p.map _).nodup_iff.1 h.nd, fun x hx => h.has x (p.mem_iff.2 hx)⟩
theorem Own.right {g : World} {A B : Hp} {w : World} (h : Own g (A ++ B) w) : Own g B w :=
  ⟨h.os, h.out, h.tape, by have := h.nd; rw [List.map_append] at this; exact (List.nodup_append.1 this).2.1, fun x hx => h.has x (by simp [hx])⟩
theorem Own.left {g : World} {A B : Hp} {w : World} (h : Own g (A ++ B) w) : Own g A w :=
  ⟨h.os, h.out, h.tape, by have := h.nd; rw [List.map_append] at this; exact (List.nodup_append.1 this).1, fun x hx => h.has x (by simp [hx])⟩
theorem Own.tail {g : World} {x : Nat × Obj} {B : Hp} {w : World} (h : Own g (x :: B) w) : Own g B w := Own.right (A := [x]) h

/-- H is enough for H' -/
def Ent (H H' : Hp) : Prop := ∀ g w, Own g H w → Own g H' w
theorem Ent.refl (H : Hp) : Ent H H := fun _ _ h => h
theorem Ent.trans {A B C : Hp} (h : Ent A B) (h' : Ent B C) : Ent A C := fun g w x => h' g w (h g w x)
theorem Ent.perm {A B : Hp} (p : A.Perm B) : Ent A B := fun _ _ h => h.perm p
theorem Ent.right {A B : Hp} : Ent (A ++ B) B := fun _ _ h => h.right
theorem Ent.left {A B : Hp} : Ent (A ++ B) A := fun _ _ h => h.left
theorem Ent.tail {x : Nat × Obj} {B : Hp} : Ent (x :: B) B := fun _ _ h => h.tail

/-- one block turned -/
inductive Upd (b : Nat) (o o' : Obj) : Hp → Hp → Prop
  | head (R : Hp) : Upd b o o' ((b, o) :: R) ((b, o') :: R)
  | tail {x : Nat × Obj} {R R' : Hp} (h : Upd b o o' R R') : Upd b o o' (x :: R) (x :: R')

theorem Upd.mem {b : Nat} {o o' : Obj} {H H' : Hp} (h : Upd b o o' H H') : (b, o) ∈ H := by
  induction h with
  | head R => simp
  | tail _ ih => simp [ih]
theorem Upd.keys {b : Nat} {o o' : Obj} {H H' : Hp} (h : Upd b o o' H H') : H'.map Prod.fst = H.map Prod.fst := by
  induction h with
  | head R => simp
  | tail _ ih => simp [ih]
theorem Upd.mem_cases {b : Nat} {o o' : Obj} {H H' : Hp} (h : Upd b o o' H H') (nd : (H.map Prod.fst).Nodup) : ∀ x ∈ H', x = (b, o') ∨ (x ∈ H ∧ x.1 ≠ b) := by
  induction h with
  | head R =>
    intro x hx
    rcases List.mem_cons.1 hx with rfl | hx
    · exact .inl rfl
    · refine .inr ⟨by simp [hx], fun e => ?_⟩
      simp only [List.map_cons, List.nodup_cons] at nd
      exact nd.1 (e ▸ List.mem_map_of_mem hx)
  | @tail y R R' h ih =>
    intro x hx
    simp only [List.map_cons, List.nodup_cons] at nd
    rcases List.mem_cons.1 hx with rfl | hx
    · refine .inr ⟨by simp, fun e => ?_⟩
      exact nd.1 (e ▸ List.mem_map_of_mem (f := Prod.fst) h.mem)
    · rcases ih nd.2 x hx with h1 | h1
      · exact .inl h1
      · exact .inr ⟨by simp [h1.1], h1.2⟩
theorem Own.upd {g : World} {H H' : Hp} {w w' : World} {b : Nat} {o o' : Obj} (h : Own g H w) (u : Upd b o o' H H')
    (hos : w'.os = w.os) (hout : w'.output = w.output) (htape : w'.tape = w.tape)
    (hb : w'.heap[b]? = some o') (hr : ∀ c, c ≠ b → w'.heap[c]? = w.heap[c]?) : Own g H' w' :=
  ⟨hos.trans h.os, hout.trans h.out, htape.trans h.tape, by rw [u.keys]; exact h.nd, fun x hx => by
    rcases u.mem_cases h.nd x hx with rfl | ⟨h1, h2⟩
    · exact hb
    · rw [hr _ h2]; exact h.has x h1⟩
theorem Own.same {g : World} {H : Hp} {w w' : World} (h : Own g H w) (hos : w'.os = w.os) (hout : w'.output = w.output) (htape : w'.tape = w.tape)
    (hr : ∀ (c : Nat) (o : Obj), w.heap[c]? = some o → w'.heap[c]? = some o) : Own g H w' :=
  ⟨hos.trans h.os, hout.trans h.out, htape.trans h.tape, h.nd, fun x hx => hr _ _ (h.has x hx)⟩
theorem Own.drew {g : World} {H : Hp} {w : World} (h : Own g H w) : Own g H w.drew := h.same rfl rfl rfl fun _ _ h => h
theorem Own.drew' {g : World} {H : Hp} {w : World} (h : Own g H w) : Own g H { w with drawn := w.drawn + 1 } := h.drew
theorem Own.lt {g : World} {H : Hp} {w : World} (h : Own g H w) {x : Nat × Obj} (hx : x ∈ H) : x.1 < w.heap.size := by
  have := h.has x hx
  exact (Array.getElem?_eq_some_iff.1 this).1
theorem Own.fresh {g : World} {H : Hp} {w : World} (h : Own g H w) : w.heap.size ∉ H.map Prod.fst := by
  intro hm
  obtain ⟨x, hx, e⟩ := List.mem_map.1 hm
  have := h.lt hx
  omega
theorem Own.alloc {g : World} {H : Hp} {w : World} (h : Own g H w) (o : Obj) : Own g ((w.heap.size, o) :: H) (w.alloc o) := by
  refine ⟨h.os, h.out, h.tape, ?_, ?_⟩
  · simp only [List.map_cons, List.nodup_cons]; exact ⟨h.fresh, h.nd⟩
  · intro x hx
    rcases List.mem_cons.1 hx with rfl | hx
    · show (w.heap.push o)[w.heap.size]? = some o
      rw [Array.getElem?_push, if_pos rfl]
    · have := h.has x hx
      have hl := h.lt hx
      show (w.heap.push o)[x.1]? = some x.2
      rw [Array.getElem?_push, if_neg (by omega)]
      exact this

theorem Own.cell {g : World} {H : Hp} {w : World} (h : Own g H w) {b : Nat} {c : Array Value} {T : TypeId} {fz : Nat × Nat} (hm : (b, Obj.cells c T fz) ∈ H) (off : Nat) :
    w.cell? ⟨b, off, none⟩ = c[off]? := by
  have := h.has _ hm
  simp only [World.cell?]
  simp only at this
  rw [this]
  rfl
theorem Own.frozen {g : World} {H : Hp} {w : World} (h : Own g H w) {b : Nat} {c : Array Value} {T : TypeId} (hm : (b, Obj.cells c T (0, 0)) ∈ H) (off : Nat) (sp : Option Nat) :
    w.frozen? ⟨b, off, sp⟩ = false := by
  have := h.has _ hm
  simp only at this
  simp [World.frozen?, this]
theorem Own.shape {g : World} {H : Hp} {w : World} (h : Own g H w) {b : Nat} {c : Array Value} {T : TypeId} {fz : Nat × Nat} (hm : (b, Obj.cells c T fz) ∈ H) :
    w.shape? b = some (T, c.size) := by
  have := h.has _ hm
  simp only at this
  simp [World.shape?, this]

/-- cells laid over an array from off on -/
def over (c : Array Value) (off : Nat) : List Value → Array Value
  | [] => c
  | v :: r => over (c.setIfInBounds off v) (off + 1) r
theorem over_size (c : Array Value) (off : Nat) (l : List Value) : (over c off l).size = c.size := by
  induction l generalizing c off with
  | nil => rfl
  | cons v r ih => simp [over, ih]

theorem Own.setCell {g : World} {H : Hp} {w : World} (h : Own g H w) {b : Nat} {c : Array Value} {T : TypeId} {fz : Nat × Nat} {H' : Hp} (off : Nat) (v : Value)
    (u : Upd b (.cells c T fz) (.cells (c.setIfInBounds off v) T fz) H H') : Own g H' (w.setCell ⟨b, off, none⟩ v) := by
  refine h.upd u rfl rfl rfl ?_ ?_
  · have := h.has _ u.mem
    simp only at this
    simp [World.setCell, Array.getElem?_modify, this]
  · intro d hd
    simp only [World.setCell]
    rw [Array.getElem?_modify, if_neg (fun e => hd (Eq.symm e))]

/-- any update of one block can be put in the place of another -/
theorem Upd.re {b : Nat} {o o' : Obj} {H H' : Hp} (u : Upd b o o' H H') (o₁ : Obj) : ∃ H₁, Upd b o o₁ H H₁ ∧ Upd b o₁ o' H₁ H' := by
  induction u with
  | head R => exact ⟨_, .head R, .head R⟩
  | tail _ ih => obtain ⟨H₁, u1, u2⟩ := ih; exact ⟨_, .tail u1, .tail u2⟩

theorem run_storeCells_own {P : Program} {g : World} {b : Nat} {T : TypeId} (off : Nat) : ∀ (l : List Value) (i : Nat) (c : Array Value) (H H' : Hp) (w : World), Own g H w →
    Upd b (.cells c T (0, 0)) (.cells (over c (off + i) l) T (0, 0)) H H' → (∀ v ∈ l, v.oneCell' = true) → off + i + l.length ≤ c.size →
    ∃ w', (storeCells ⟨b, off, none⟩ l i).run P w = .ok () w' ∧ Own g H' w'
  | [], i, c, H, H', w, h, u, _, _ => by
    refine ⟨w, rfl, ?_⟩
    exact h.upd u rfl rfl rfl (h.has _ u.mem) fun _ _ => rfl
  | v :: r, i, c, H, H', w, h, u, h1, hs => by
    obtain ⟨H₁, u1, u2⟩ := u.re (.cells (c.setIfInBounds (off + i) v) T (0, 0))
    have hw1 := h.setCell (off + i) v u1
    simp only [List.length_cons] at hs
    obtain ⟨w', hr, ho⟩ := run_storeCells_own (P := P) off r (i + 1) (c.setIfInBounds (off + i) v) H₁ H' _ hw1 (by simpa [over, Nat.add_assoc] using u2) (fun x hx => h1 x (by simp [hx])) (by simp; omega)
    refine ⟨w', ?_, ho⟩
    have hc : w.cell? ⟨b, off + i, none⟩ = some c[off + i] := by
      rw [h.cell u.mem, Array.getElem?_eq_getElem]
    have hf := h.frozen u.mem (off + i) none
    have ha : Addr.add ⟨b, off, none⟩ i = ⟨b, off + i, none⟩ := Addr.add_lit _ _ _
    simp only [storeCells, Sem.run_bind, ha, run_store P w _ v .plain (h1 v (by simp)), hc, hf, Bool.false_eq_true, if_false, Result.andThen_ok, hr]

theorem run_loadCells_own {P : Program} {g : World} {H : Hp} {w : World} (h : Own g H w) {b : Nat} {c : Array Value} {T : TypeId} {fz : Nat × Nat} (hm : (b, Obj.cells c T fz) ∈ H)
    (off n : Nat) (hs : off + n ≤ c.size) : (loadCells ⟨b, off, none⟩ n).run P w = .ok (c.extract off (off + n)) w := by
  have hl : ((c.extract off (off + n)).toList).length = n := by simp; omega
  have := run_loadCells_list (P := P) w ⟨b, off, none⟩ (c.extract off (off + n)).toList (fun j v hj => by
    rw [Addr.add_lit, h.cell hm]
    have hjn : j < n := by
      have := (List.getElem?_eq_some_iff.1 hj).1
      omega
    rw [Array.getElem?_toList, Array.getElem?_extract] at hj
    rw [if_pos (by omega)] at hj
    exact hj)
  rw [hl] at this
  exact this

end Go.Sx
