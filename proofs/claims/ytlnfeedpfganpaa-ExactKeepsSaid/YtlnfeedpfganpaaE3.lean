import Derived.Test.YtlnfeedpfganpaaE2
import Derived.ChangeKeysEq
/-
  Rules for proving a listing, and words for memory that a piece of heap holds (rows of equal length; slices that own their array).
-/
set_option linter.unusedSimpArgs false
set_option linter.unusedVariables false
namespace Go.Sx
open Go
section
variable {P : Program} {g : Gh} {H : Hp}

theorem Nil.ptr {a : Addr} {k : Value → Prop} (h : k (.pointer (some a))) : Nil (.pointer (some a)) k := ⟨_, rfl, h⟩
theorem FAddr.mk {b o off : Nat} {k : Value → Prop} (h : k (.pointer (some ⟨b, o + off, none⟩))) : FAddr off (.pointer (some ⟨b, o, none⟩)) k := ⟨b, o, rfl, h⟩
theorem Ld.mk {b off : Nat} {c : Array Value} {T : TypeId} {fz : Nat × Nat} {v : Value} {k : Value → Prop} (hm : (b, Obj.cells c T fz) ∈ H) (hc : c[off]? = some v) (h : k v) : Ld H (.pointer (some ⟨b, off, none⟩)) k :=
  ⟨b, off, c, T, fz, v, rfl, hm, hc, h⟩
theorem LdA.mk {b off n : Nat} {c : Array Value} {T : TypeId} {fz : Nat × Nat} {vs : Array Value} {k : Value → Prop} (hm : (b, Obj.cells c T fz) ∈ H) (hs : off + n ≤ c.size) (hc : c.extract off (off + n) = vs) (h : k (.agg vs)) : LdA n H (.pointer (some ⟨b, off, none⟩)) k :=
  ⟨b, off, c, T, fz, rfl, hm, hs, by rw [hc]; exact h⟩
theorem St.mk {b off n : Nat} {c : Array Value} {T : TypeId} {x : Value} {c' : Array Value} {H' : Hp} {k : Hp → Prop} (hu : Upd b (.cells c T (0, 0)) (.cells c' T (0, 0)) H H') (hx : x.cells.size = n) (hs : off + n ≤ c.size)
    (h1 : ∀ v ∈ x.cells.toList, v.oneCell' = true) (hc : over c off x.cells.toList = c') (h : k H') : St n H (.pointer (some ⟨b, off, none⟩)) x k :=
  ⟨b, off, c, T, H', rfl, hx, hs, h1, by rw [hc]; exact hu, h⟩
theorem JE.mk {J : List Value → Hp → Prop} {vs : List Value} (h : J vs H) : JE J vs H := ⟨H, .refl _, h⟩
theorem JE.of {J : List Value → Hp → Prop} {vs : List Value} {H' : Hp} (e : Ent H H') (h : J vs H') : JE J vs H := ⟨H', e, h⟩
theorem Back.mk {I : List Value → Hp → Prop} {m : List Value → Hp → Nat} {vs' vs : List Value} {H0 : Hp} (h : I vs' H) (hm : m vs' H < m vs H0) : Back I m vs' H vs H0 := ⟨H, .refl _, h, hm⟩
theorem Back.of {I : List Value → Hp → Prop} {m : List Value → Hp → Nat} {vs' vs : List Value} {H' H0 : Hp} (e : Ent H H') (h : I vs' H') (hm : m vs' H' < m vs H0) : Back I m vs' H vs H0 := ⟨H', e, h, hm⟩
theorem Br.mk {b : Bool} {t f : Prop} (h1 : b = true → t) (h2 : b = false → f) : Br (.bool b) t f := ⟨b, rfl, h1, h2⟩
theorem Br.yes {t f : Prop} (h1 : t) : Br (.bool true) t f := ⟨true, rfl, fun _ => h1, fun h => by simp at h⟩
theorem Br.no {t f : Prop} (h1 : f) : Br (.bool false) t f := ⟨false, rfl, fun h => by simp at h, fun _ => h1⟩
theorem Br.yes' {b : Bool} {t f : Prop} (hb : b = true) (h1 : t) : Br (.bool b) t f := by subst hb; exact Br.yes h1
theorem Br.no' {b : Bool} {t f : Prop} (hb : b = false) (h1 : f) : Br (.bool b) t f := by subst hb; exact Br.no h1
theorem Grp.mk {a : Bool} {want : Bool} {inner els k : Bool → Prop} (t : Bool) (h1 : a = want → inner t) (h2 : a = !want → els t) (h3 : k t) : Grp (.bool a) want inner els k := ⟨a, t, rfl, h1, h2, h3⟩
/-- 'a && b' -/
theorem Grp.and {a : Bool} {inner els k : Bool → Prop} (b : Bool) (h1 : a = true → inner b) (h2 : els false) (h3 : k (a && b)) : Grp (.bool a) true inner els k :=
  ⟨a, a && b, rfl, fun e => by subst e; exact h1 rfl, fun e => by subst e; exact h2, h3⟩
/-- 'a || b' -/
theorem Grp.or {a : Bool} {inner els k : Bool → Prop} (b : Bool) (h1 : a = false → inner b) (h2 : els true) (h3 : k (a || b)) : Grp (.bool a) false inner els k :=
  ⟨a, a || b, rfl, fun e => by subst e; exact h1 rfl, fun e => by subst e; exact h2, h3⟩
theorem Split.mk {a : Bool} {want : Bool} {k1 k2 : Prop} (h1 : a = want → k1) (h2 : a = !want → k2) : Split (.bool a) want k1 k2 := ⟨a, rfl, h1, h2⟩
theorem Split.go {a : Bool} {want : Bool} {k1 k2 : Prop} (e : a = want) (h1 : k1) : Split (.bool a) want k1 k2 := ⟨a, rfl, fun _ => h1, fun e' => by subst e; cases a <;> simp at e'⟩
theorem Split.past {a : Bool} {want : Bool} {k1 k2 : Prop} (e : a = !want) (h1 : k2) : Split (.bool a) want k1 k2 := ⟨a, rfl, fun e' => by subst e'; cases a <;> simp at e, fun _ => h1⟩
theorem Pick.mk {t : Bool} {a b : Value} {k : Value → Prop} (h : k (cond t a b)) : Pick (.bool t) a b k := ⟨t, rfl, h⟩
theorem Un.not {b : Bool} {k : Value → Prop} (h : k (.bool !b)) : Un .not (.bool b) k := ⟨_, rfl, h⟩
theorem Ext.mk {i : Nat} {vs : Array Value} {v : Value} {k : Value → Prop} (hv : vs[i]? = some v) (h : k v) : Ext i (.tuple vs) k := ⟨vs, v, rfl, hv, h⟩
theorem LenS.mk {a : Option Addr} {n c : Nat} {k : Value → Prop} (h : k (.int .i64 n)) : LenS (.slice a n c) k := ⟨a, n, c, rfl, h⟩
theorem ConvI.mk {kd j : IntKind} {n : Int} {k : Value → Prop} (h : k (.int kd (kd.wrap n))) : ConvI kd (.int j n) k := ⟨j, n, rfl, h⟩
theorem ConvI.of {kd j : IntKind} {n m : Int} {k : Value → Prop} (e : kd.wrap n = m) (h : k (.int kd m)) : ConvI kd (.int j n) k := ⟨j, n, rfl, by rw [e]; exact h⟩
theorem Fld.mk {off : Nat} {cs : Array Value} {v : Value} {k : Value → Prop} (hc : cs[off]? = some v) (h : k v) : Fld off (.agg cs) k := ⟨cs, v, rfl, hc, h⟩
theorem FldA.mk {off n : Nat} {cs vs : Array Value} {k : Value → Prop} (hc : cs.extract off (off + n) = vs) (h : k (.agg vs)) : FldA off n (.agg cs) k := ⟨cs, rfl, by rw [hc]; exact h⟩
theorem IAddr.mk {size b o n c : Nat} {kd : IntKind} {i : Int} {k : Value → Prop} (h0 : 0 ≤ i) (h1 : i < (n : Int)) (h : k (.pointer (some ⟨b, o + i.toNat * size, none⟩))) : IAddr size (.slice (some ⟨b, o, none⟩) n c) (.int kd i) k :=
  ⟨b, o, n, c, kd, i, rfl, rfl, h0, h1, h⟩
theorem IAddr.nat {size b o n c : Nat} {kd : IntKind} {j : Nat} {k : Value → Prop} (h1 : j < n) (h : k (.pointer (some ⟨b, o + j * size, none⟩))) : IAddr size (.slice (some ⟨b, o, none⟩) n c) (.int kd (j : Int)) k :=
  IAddr.mk (Int.natCast_nonneg j) (by omega) (by simpa using h)
theorem IAddr.of {size b o n c : Nat} {kd : IntKind} {i : Int} {k : Value → Prop} (j : Nat) (e : i = (j : Int)) (h1 : j < n) (h : k (.pointer (some ⟨b, o + j * size, none⟩))) : IAddr size (.slice (some ⟨b, o, none⟩) n c) (.int kd i) k := by
  subst e; exact IAddr.nat h1 h
/-! numbers -/
theorem Bin.num {op : BinOp} {kd : IntKind} {a b : Int} {v : Value} {k : Value → Prop} (e : binV .num op (.int kd a) (.int kd b) = some v) (h : k v) : Bin .num op (.int kd a) (.int kd b) k := ⟨v, e, h⟩
theorem Bin.eql {kd : IntKind} {a b : Int} {k : Value → Prop} (h : k (.bool (a == b))) : Bin .num .eql (.int kd a) (.int kd b) k := ⟨_, by simp [binV, intV], h⟩
theorem Bin.neq {kd : IntKind} {a b : Int} {k : Value → Prop} (h : k (.bool (a != b))) : Bin .num .neq (.int kd a) (.int kd b) k := ⟨_, by simp [binV, intV], h⟩
theorem Bin.lss {kd : IntKind} {a b : Int} {k : Value → Prop} (h : k (.bool (decide (a < b)))) : Bin .num .lss (.int kd a) (.int kd b) k := ⟨_, by simp [binV, intV], h⟩
theorem Bin.leq {kd : IntKind} {a b : Int} {k : Value → Prop} (h : k (.bool (decide (a ≤ b)))) : Bin .num .leq (.int kd a) (.int kd b) k := ⟨_, by simp [binV, intV], h⟩
theorem Bin.gtr {kd : IntKind} {a b : Int} {k : Value → Prop} (h : k (.bool (decide (b < a)))) : Bin .num .gtr (.int kd a) (.int kd b) k := ⟨_, by simp [binV, intV], h⟩
theorem Bin.geq {kd : IntKind} {a b : Int} {k : Value → Prop} (h : k (.bool (decide (b ≤ a)))) : Bin .num .geq (.int kd a) (.int kd b) k := ⟨_, by simp [binV, intV], h⟩
theorem Bin.add {kd : IntKind} {a b : Int} {k : Value → Prop} (h : k (.int kd (kd.wrap (a + b)))) : Bin .num .add (.int kd a) (.int kd b) k := ⟨_, by simp [binV, intV], h⟩
theorem Bin.sub {kd : IntKind} {a b : Int} {k : Value → Prop} (h : k (.int kd (kd.wrap (a - b)))) : Bin .num .sub (.int kd a) (.int kd b) k := ⟨_, by simp [binV, intV], h⟩
theorem Bin.mul {kd : IntKind} {a b : Int} {k : Value → Prop} (h : k (.int kd (kd.wrap (a * b)))) : Bin .num .mul (.int kd a) (.int kd b) k := ⟨_, by simp [binV, intV], h⟩
theorem wrap_i64 {a : Int} (h : -9223372036854775808 ≤ a ∧ a ≤ 9223372036854775807) : IntKind.i64.wrap a = a := IntWalk.i64_in _ h
theorem Bin.add64 {a b : Int} {c : Int} {k : Value → Prop} (e : a + b = c) (hb : -9223372036854775808 ≤ c ∧ c ≤ 9223372036854775807) (h : k (.int .i64 c)) : Bin .num .add (.int .i64 a) (.int .i64 b) k :=
  Bin.add (by rw [e, wrap_i64 hb]; exact h)
theorem Bin.sub64 {a b : Int} {c : Int} {k : Value → Prop} (e : a - b = c) (hb : -9223372036854775808 ≤ c ∧ c ≤ 9223372036854775807) (h : k (.int .i64 c)) : Bin .num .sub (.int .i64 a) (.int .i64 b) k :=
  Bin.sub (by rw [e, wrap_i64 hb]; exact h)
theorem Bin.mul64 {a b : Int} {c : Int} {k : Value → Prop} (e : a * b = c) (hb : -9223372036854775808 ≤ c ∧ c ≤ 9223372036854775807) (h : k (.int .i64 c)) : Bin .num .mul (.int .i64 a) (.int .i64 b) k :=
  Bin.mul (by rw [e, wrap_i64 hb]; exact h)
theorem Bin.quo64 {a b : Int} {c : Int} {k : Value → Prop} (hb0 : b ≠ 0) (e : a.tdiv b = c) (hb : -9223372036854775808 ≤ c ∧ c ≤ 9223372036854775807) (h : k (.int .i64 c)) : Bin .num .quo (.int .i64 a) (.int .i64 b) k :=
  ⟨.int .i64 c, by simp [binV, intV, hb0, e, wrap_i64 hb], h⟩
theorem Bin.rem64 {kd : IntKind} {a b : Int} {c : Int} {k : Value → Prop} (hb0 : b ≠ 0) (e : a.tmod b = c) (h : k (.int kd c)) : Bin .num .rem (.int kd a) (.int kd b) k :=
  ⟨.int kd c, by simp [binV, intV, hb0, e], h⟩
theorem Bin.ptrNil {a : Addr} {k : Value → Prop} (h : k (.bool false)) : Bin .ptr .eql (.pointer (some a)) (.pointer none) k := ⟨.bool false, by simp [binV], h⟩
theorem Bin.nilNil {k : Value → Prop} (h : k (.bool true)) : Bin .ptr .eql (.pointer none) (.pointer none) k := ⟨.bool true, by simp [binV], h⟩
theorem Bin.ptrNilN {a : Addr} {k : Value → Prop} (h : k (.bool true)) : Bin .ptr .neq (.pointer (some a)) (.pointer none) k := ⟨.bool true, by simp [binV], h⟩
theorem Bin.mapNil {a : Option Nat} {k : Value → Prop} (h : k (.bool a.isNone)) : Bin .map .eql (.map a) (.map none) k := ⟨.bool a.isNone, by simp [binV], h⟩
theorem Bin.eqlB {a b : Bool} {k : Value → Prop} (h : k (.bool (a == b))) : Bin .bool .eql (.bool a) (.bool b) k := ⟨_, by simp [binV], h⟩
theorem Bin.neqB {a b : Bool} {k : Value → Prop} (h : k (.bool (!(a == b)))) : Bin .bool .neq (.bool a) (.bool b) k := ⟨_, by simp [binV], h⟩

/-! calls -/
theorem CallF.by {f : FuncId} {args : Array Value} {H1 : Hp} {R1 : Ending → Hp → Prop} {K : Value → Hp → Prop} {KP : List PanicEntry → Hp → Prop} (he : Ent H H1) (h : SCalls P g f args H1 R1) (hk : ∀ e H', R1 e H' → Kend K KP e H') :
    CallF P g f args H K KP := (h.pre he).mono hk
theorem CallF.at {f : FuncId} {args : Array Value} {H1 : Hp} {R1 : Ending → Hp → Prop} {K : Value → Hp → Prop} {KP : List PanicEntry → Hp → Prop} (he : Ent H H1) (h : SCalls P g f args H1 R1) (hk : ∀ e H', R1 e H' → ∃ H'', Ent H' H'' ∧ Kend K KP e H'') :
    CallF P g f args H K KP := (h.pre he).post hk
theorem Ent.swap3 (A B C : Hp) : Ent (A ++ (B ++ C)) (B ++ (A ++ C)) := .perm (by rw [← List.append_assoc, ← List.append_assoc]; exact List.perm_append_comm.append_right C)
/-- a call that only reads: its answer is v, and the piece is there behind it -/
def CalmQ (P : Program) (g : Gh) (f : FuncId) (args : Array Value) (H : Hp) (v : Value) : Prop := SCalls P g f args H (fun e H' => e = .returned v ∧ Ent H' H)
theorem CallQ.by {f : FuncId} {args : Array Value} {v : Value} {k : Value → Prop} (h : CalmQ P g f args H v) (hk : k v) : CallQ P g f args H k :=
  ⟨v, h.post fun e H' ⟨h1, h2⟩ => ⟨H, h2, h1, rfl⟩, hk⟩
theorem CallF.pure {f : FuncId} {args : Array Value} {v : Value} {K : Value → Hp → Prop} {KP : List PanicEntry → Hp → Prop} (h : CalmQ P g f args H v) (hk : K v H) : CallF P g f args H K KP :=
  h.post fun e H' ⟨h1, h2⟩ => ⟨H, h2, by subst h1; exact hk⟩
theorem Ent.append_left {A B C : Hp} (h : ∀ g w, Own g (A ++ C) w → Own g (B ++ C) w) : Ent (A ++ C) (B ++ C) := h
/-- the pieces of a heap in another order -/
def flat : List Hp → Hp
  | [] => []
  | [a] => a
  | a :: b :: r => a ++ flat (b :: r)
theorem flat_perm : ∀ (l : List Hp), (flat l).Perm l.flatten
  | [] => .refl _
  | [a] => by simp [flat]
  | a :: b :: r => by
    simp only [flat, List.flatten_cons]
    exact List.Perm.append_left _ (by simpa using flat_perm (b :: r))
theorem Ent.segs (S T : List Hp) (h : S.Perm T) : Ent (flat S) (flat T) :=
  .perm ((flat_perm S).trans (h.flatten.trans (flat_perm T).symm))
theorem Ent.drop (a : Hp) (b : Hp) (r : List Hp) : Ent (flat (a :: b :: r)) (flat (b :: r)) := Ent.right

/-! rows of k cells -/
/-- a list of rows as one array -/
def rows (l : List (List Value)) : Array Value := l.flatten.toArray
theorem flatten_get {k : Nat} : ∀ (l : List (List Value)) (i j : Nat), (∀ r ∈ l, r.length = k) → j < k → l.flatten[i * k + j]? = (l[i]?).bind (·[j]?)
  | [], i, j, _, _ => by simp
  | r :: l, 0, j, h, hj => by
    have := h r (by simp)
    simp [List.getElem?_append, this, hj]
  | r :: l, i + 1, j, h, hj => by
    have hr := h r (by simp)
    have ih := flatten_get l i j (fun x hx => h x (by simp [hx])) hj
    rw [List.flatten_cons, List.getElem?_append_right (by rw [hr, Nat.succ_mul]; omega), hr, show (i + 1) * k + j - k = i * k + j by rw [Nat.succ_mul]; omega, ih]
    simp
theorem flatten_length {k : Nat} : ∀ (l : List (List Value)), (∀ r ∈ l, r.length = k) → l.flatten.length = l.length * k
  | [], _ => by simp
  | r :: l, h => by
    have hr := h r (by simp)
    rw [List.flatten_cons, List.length_append, hr, flatten_length l (fun x hx => h x (by simp [hx]))]
    simp [Nat.succ_mul]; omega
theorem rows_size {k : Nat} {l : List (List Value)} (h : ∀ r ∈ l, r.length = k) : (rows l).size = l.length * k := by simp [rows, flatten_length l h]
theorem rows_get {k : Nat} {l : List (List Value)} (h : ∀ r ∈ l, r.length = k) {i j : Nat} (hj : j < k) : (rows l)[i * k + j]? = (l[i]?).bind (·[j]?) := by
  simp only [rows, List.getElem?_toArray]; exact flatten_get l i j h hj
theorem rows_extract {k : Nat} {l : List (List Value)} (h : ∀ r ∈ l, r.length = k) {i : Nat} {r : List Value} (hi : l[i]? = some r) : (rows l).extract (i * k) (i * k + k) = r.toArray := by
  have hr := h r (List.mem_of_getElem? hi)
  have hlt := (List.getElem?_eq_some_iff.1 hi).1
  apply Array.ext'
  apply List.ext_getElem?
  intro j
  by_cases hj : j < k
  · have := rows_get h (i := i) hj
    rw [Array.getElem?_toList, Array.getElem?_extract]
    rw [if_pos (by rw [rows_size h]; have := Nat.mul_le_mul_right k (Nat.succ_le_of_lt hlt); rw [Nat.succ_mul] at this; omega), this, hi]
    simp
  · rw [List.getElem?_eq_none (by simp; omega), List.getElem?_eq_none (by simp; omega)]
theorem over_eq : ∀ (vs : List Value) (c : List Value) (off : Nat), off + vs.length ≤ c.length → over c.toArray off vs = (c.take off ++ vs ++ c.drop (off + vs.length)).toArray
  | [], c, off, _ => by simp [over]
  | v :: r, c, off, h => by
    simp only [List.length_cons] at h
    have hl : off < c.length := by omega
    have : c.toArray.setIfInBounds off v = (c.set off v).toArray := by simp
    rw [over, this, over_eq r (c.set off v) (off + 1) (by simp only [List.length_set]; omega)]
    congr 1
    have e1 : (c.set off v).take (off + 1) = c.take off ++ [v] := by
      rw [List.set_eq_take_append_cons_drop, if_pos hl, List.take_append]
      simp [List.take_take, hl, Nat.min_eq_left (Nat.le_of_lt hl)]
    have e2 : (c.set off v).drop (off + 1 + r.length) = c.drop (off + (v :: r).length) := by
      rw [List.drop_set_of_lt (by omega)]
      simp only [List.length_cons]
      rw [show off + 1 + r.length = off + (r.length + 1) by omega]
    rw [e1, e2]; simp
theorem rows_set {k : Nat} {l : List (List Value)} (h : ∀ r ∈ l, r.length = k) {i : Nat} (hi : i < l.length) {r : List Value} (hr : r.length = k) : over (rows l) (i * k) r = rows (l.set i r) := by
  unfold rows
  have hlen := flatten_length l h
  have hle : i * k + k ≤ l.length * k := by have := Nat.mul_le_mul_right k (Nat.succ_le_of_lt hi); rwa [Nat.succ_mul] at this
  rw [over_eq r l.flatten (i * k) (by rw [hlen, hr]; exact hle)]
  congr 1
  have e : l = l.take i ++ [l[i]] ++ l.drop (i + 1) := by simp
  have hp : (l.take i).flatten.length = i * k := by
    rw [flatten_length _ (fun x hx => h x (List.mem_of_mem_take hx))]; simp [Nat.min_eq_left (Nat.le_of_lt hi)]
  have hm : l[i].length = k := h _ (List.getElem_mem hi)
  have e3 : l.flatten = (l.take i).flatten ++ (l[i] ++ (l.drop (i + 1)).flatten) := by
    rw [← List.flatten_cons, ← List.flatten_append, ← List.drop_eq_getElem_cons hi, List.take_append_drop]
  have e4 : (l.set i r).flatten = (l.take i).flatten ++ (r ++ (l.drop (i + 1)).flatten) := by
    rw [List.set_eq_take_append_cons_drop, if_pos hi]; simp [List.flatten_append]
  rw [e4, e3, ← hp, List.take_left, ← List.drop_drop, List.drop_left, hr, ← hm, List.drop_left]
  simp
end
end Go.Sx
/-
  Slices that own their array, maps with whole-number keys that own their entries: as pieces of heap, with the laws of append, look-up, store and delete.
-/
set_option linter.unusedSimpArgs false
set_option linter.unusedVariables false
namespace Go.Sx
open Go
section
variable {P : Program} {g : Gh}

theorem Upd.prepend {b : Nat} {o o' : Obj} {C C' : Hp} (h : Upd b o o' C C') (A : Hp) : Upd b o o' (A ++ C) (A ++ C') := by
  induction A with
  | nil => exact h
  | cons x A ih => exact .tail ih
/-- the slice v is of these rows, k cells each, in an array of its own that C holds -/
def SOwn (T : TypeId) (k : Nat) (v : Value) (rs : List (List Value)) (C : Hp) : Prop :=
  (v = .slice none 0 0 ∧ rs = [] ∧ C = []) ∨
  ∃ b junk, v = .slice (some ⟨b, 0, none⟩) rs.length (rs.length + junk.length) ∧ C = [(b, .cells (rows (rs ++ junk)) T (0, 0))] ∧ (∀ r ∈ rs ++ junk, r.length = k)
theorem SOwn.nil (T : TypeId) (k : Nat) : SOwn T k (.slice none 0 0) [] [] := .inl ⟨rfl, rfl, rfl⟩
theorem SOwn.len {T : TypeId} {k : Nat} {v : Value} {rs : List (List Value)} {C : Hp} (h : SOwn T k v rs C) : ∃ a c, v = .slice a rs.length c := by
  rcases h with ⟨rfl, rfl, rfl⟩ | ⟨b, junk, rfl, _⟩
  · exact ⟨_, _, rfl⟩
  · exact ⟨_, _, rfl⟩
theorem SOwn.lenS {T : TypeId} {k : Nat} {v : Value} {rs : List (List Value)} {C : Hp} (h : SOwn T k v rs C) {K : Value → Prop} (hk : K (.int .i64 rs.length)) : LenS v K := by
  obtain ⟨a, c, rfl⟩ := h.len; exact LenS.mk hk

theorem zeroRows {k : Nat} (z : List Value) (hz : z.length = k) (m : Nat) : Builtin.zeroCells z.toArray m = rows (List.replicate m z) := by
  apply Array.ext'
  apply List.ext_getElem?
  intro j
  have hall : ∀ r ∈ List.replicate m z, r.length = k := fun r hr => by rw [List.eq_of_mem_replicate hr, hz]
  by_cases hj : j < m * k
  · have hk : 0 < k := Nat.pos_of_ne_zero fun e => by simp [e] at hj
    have hd : j / k < m := Nat.div_lt_of_lt_mul (by rw [Nat.mul_comm]; exact hj)
    have hm : j % k < k := Nat.mod_lt _ hk
    have he : j / k * k + j % k = j := by rw [Nat.mul_comm]; exact Nat.div_add_mod j k
    have := rows_get hall (i := j / k) hm
    rw [he] at this
    rw [Array.getElem?_toList, Array.getElem?_toList, this]
    simp only [Builtin.zeroCells, List.size_toArray, hz, List.getElem?_replicate, hd, if_true, Option.bind_some]
    rw [Array.getElem?_map, Array.getElem?_range]
    simp [hj, hz, hm]
  · rw [List.getElem?_eq_none, List.getElem?_eq_none]
    · simp only [Array.length_toList, rows_size hall, List.length_replicate]; omega
    · simp [Builtin.zeroCells, hz]; omega
theorem rows_append (a b : List (List Value)) : rows a ++ rows b = rows (a ++ b) := by simp [rows, List.flatten_append]

/-- 's = append(s, x)': one row more -/
theorem SOwn.app' {elem k bytes : Nat} {zero : Value} {v : Value} {rs : List (List Value)} {C A B : Hp} (h : SOwn elem k v rs C) {xb : Nat} {r : List Value} {xT : TypeId} {fz : Nat × Nat} {xc : Nat}
    (hx : (xb, Obj.cells r.toArray xT fz) ∈ A ++ (C ++ B)) (hr : r.length = k) (h1 : ∀ u ∈ r, u.oneCell' = true) (hz : ∃ z : List Value, zero.cells = z.toArray ∧ z.length = k)
    (hb : (rs.length + 1) * bytes ≤ 140737488355328) (hmax : rs.length + 1 ≤ 9223372036854775807) {K : Value → Hp → Prop}
    (hk : ∀ v' C', SOwn elem k v' (rs ++ [r]) C' → K v' (A ++ (C' ++ B))) : App P elem k bytes zero (A ++ (C ++ B)) v (.slice (some ⟨xb, 0, none⟩) 1 xc) K := by
  have hall1 : ∀ x ∈ [r], x.length = k := fun x hx => by simp at hx; rw [hx]; exact hr
  obtain ⟨z, hz1, hz2⟩ := hz
  have hnews : Cells (A ++ (C ++ B)) (some ⟨xb, 0, none⟩) (1 * k) (rows [r]) := .inr ⟨rfl, _, _, _, hx, by simp [hr], by simp [rows]; rw [← hr, List.take_length]⟩
  have hnone : ∀ u ∈ (rows [r]).toList, u.oneCell' = true := by simpa [rows] using h1
  rcases h with ⟨rfl, rfl, rfl⟩ | ⟨b, junk, rfl, rfl, hall⟩
  · refine ⟨none, 0, 0, some ⟨xb, 0, none⟩, 1, xc, #[], rows [r], rfl, rfl, rfl, hnews, by rw [rows_size hall1]; simp, by simp, hnone, fun h => by omega, fun _ => ⟨hb, by omega, fun newcap hn b hbf => ?_⟩⟩
    rw [show (#[] : Array Value) ++ rows [r] ++ Builtin.zeroCells zero.cells (newcap - (0 + 1)) = rows ([] ++ [r] ++ List.replicate (newcap - 1) z) by rw [hz1, zeroRows z hz2]; simp only [Nat.zero_add, Array.empty_append, List.nil_append]; rw [rows_append]]
    refine ⟨_, Ent.swap3 [(b, _)] A B, hk _ [(b, _)] (.inr ⟨b, List.replicate (newcap - 1) z, ?_, rfl, ?_⟩)⟩
    · simp; omega
    · intro x hx
      rcases List.mem_append.1 hx with hx | hx
      · exact hall1 x hx
      · rw [List.eq_of_mem_replicate hx, hz2]
  · have hsz := rows_size hall
    have hallr : ∀ x ∈ rs, x.length = k := fun x hx => hall x (by simp [hx])
    have hold : rows rs = (rows (rs ++ junk)).extract 0 (0 + rs.length * k) := by
      rw [← rows_append]
      apply Array.ext'
      have := rows_size hallr
      have h2 : (rows rs).toList.length = rs.length * k := by rw [Array.length_toList]; exact this
      rw [Array.toList_extract, Array.toList_append, List.extract_eq_take_drop, List.drop_zero, Nat.zero_add, Nat.sub_zero, ← h2, List.take_left]
    refine ⟨some ⟨b, 0, none⟩, rs.length, rs.length + junk.length, some ⟨xb, 0, none⟩, 1, xc, rows rs, rows [r], rfl, rfl, .inr ⟨rfl, _, elem, (0, 0), by simp, ?_, hold⟩, hnews, by rw [rows_size hall1]; simp, rows_size hallr, hnone, fun hfit => ?_, fun hgrow => ⟨hb, by omega, fun newcap hn b' hbf => ?_⟩⟩
    · rw [hsz]; simp only [List.length_append, Nat.zero_add]; exact Nat.mul_le_mul_right _ (by omega)
    · obtain ⟨j0, junk', rfl⟩ : ∃ j0 junk', junk = j0 :: junk' := by cases junk with | nil => exact absurd hfit (by simp only [List.length_nil]; omega) | cons a b => exact ⟨a, b, rfl⟩
      refine ⟨_, elem, _, rfl, ?_, ((Upd.head _).append B).prepend A, hk _ [(b, _)] (.inr ⟨b, junk', ?_, ?_, ?_⟩)⟩
      · rw [hsz]; simp [Nat.succ_mul, Nat.add_mul]
      · simp; omega
      · have e : (rows [r]).toList = r := by simp [rows]
        rw [e, show (⟨b, 0, none⟩ : Addr).off + rs.length * k = rs.length * k by simp, rows_set hall (by simp) hr]
        simp
      · intro x hx
        simp only [List.append_assoc, List.cons_append, List.nil_append, List.mem_append, List.mem_cons] at hx
        rcases hx with hx | hx | hx
        · exact hallr x hx
        · rw [hx]; exact hr
        · exact hall x (by simp [hx])
    · refine ⟨A ++ ([(b', _)] ++ B), ?_, hk _ [(b', _)] (.inr ⟨b', List.replicate (newcap - (rs.length + 1)) z, ?_, rfl, ?_⟩)⟩
      · rw [hz1, zeroRows z hz2, rows_append, rows_append]
        exact fun g w h => (Ent.segs [[_], A, [_], B] [[_], A, [_], B] ((List.perm_append_comm (l₁ := [_, A]) (l₂ := [_])).append_right [B] |>.trans (.cons _ (.swap _ _ _)) ) g w h).tail
      · simp; omega
      · intro x hx
        rcases List.mem_append.1 hx with hx | hx
        · rcases List.mem_append.1 hx with hx | hx
          · exact hallr x hx
          · exact hall1 x hx
        · rw [List.eq_of_mem_replicate hx, hz2]
theorem SOwn.app {elem k bytes : Nat} {zero : Value} {v : Value} {rs : List (List Value)} {C H : Hp} (h : SOwn elem k v rs C) {xb : Nat} {r : List Value} {xT : TypeId} {fz : Nat × Nat} {xc : Nat}
    (hx : (xb, Obj.cells r.toArray xT fz) ∈ C ++ H) (hr : r.length = k) (h1 : ∀ u ∈ r, u.oneCell' = true) (hz : ∃ z : List Value, zero.cells = z.toArray ∧ z.length = k)
    (hb : (rs.length + 1) * bytes ≤ 140737488355328) (hmax : rs.length + 1 ≤ 9223372036854775807) {K : Value → Hp → Prop}
    (hk : ∀ v' C', SOwn elem k v' (rs ++ [r]) C' → K v' (C' ++ H)) : App P elem k bytes zero (C ++ H) v (.slice (some ⟨xb, 0, none⟩) 1 xc) K :=
  SOwn.app' (A := []) h hx hr h1 hz hb hmax hk
end
end Go.Sx
/-
  Reading and writing rows; maps with whole-number keys.
-/
set_option linter.unusedSimpArgs false
set_option linter.unusedVariables false
namespace Go.Sx
open Go
section
variable {P : Program} {g : Gh} {H : Hp}

theorem SOwn.pos {T : TypeId} {k : Nat} {v : Value} {rs : List (List Value)} {C : Hp} (h : SOwn T k v rs C) (hp : 0 < rs.length) :
    ∃ b junk, v = .slice (some ⟨b, 0, none⟩) rs.length (rs.length + junk.length) ∧ C = [(b, .cells (rows (rs ++ junk)) T (0, 0))] ∧ (∀ r ∈ rs ++ junk, r.length = k) := by
  rcases h with ⟨_, rfl, _⟩ | h
  · simp at hp
  · exact h
theorem SOwn.mk {T : TypeId} {k b : Nat} {rs junk : List (List Value)} (hall : ∀ r ∈ rs ++ junk, r.length = k) : SOwn T k (.slice (some ⟨b, 0, none⟩) rs.length (rs.length + junk.length)) rs [(b, .cells (rows (rs ++ junk)) T (0, 0))] :=
  .inr ⟨b, junk, rfl, rfl, hall⟩
theorem SOwn.mk' {T : TypeId} {k b n c : Nat} {rs junk : List (List Value)} (hall : ∀ r ∈ rs ++ junk, r.length = k) (hn : n = rs.length) (hc : c = rs.length + junk.length) : SOwn T k (.slice (some ⟨b, 0, none⟩) n c) rs [(b, .cells (rows (rs ++ junk)) T (0, 0))] := by
  subst hn; subst hc; exact SOwn.mk hall
theorem LdA.row {b i k : Nat} {l : List (List Value)} {T : TypeId} {fz : Nat × Nat} {r : List Value} {K : Value → Prop} (hm : (b, Obj.cells (rows l) T fz) ∈ H) (hall : ∀ r ∈ l, r.length = k) (hi : l[i]? = some r) (h : K (.agg r.toArray)) :
    LdA k H (.pointer (some ⟨b, 0 + i * k, none⟩)) K := by
  have hlt := (List.getElem?_eq_some_iff.1 hi).1
  refine LdA.mk hm ?_ ?_ h
  · rw [rows_size hall, Nat.zero_add]; have := Nat.mul_le_mul_right k (Nat.succ_le_of_lt hlt); rwa [Nat.succ_mul] at this
  · rw [Nat.zero_add]; exact rows_extract hall hi
theorem Ld.row {b i j k : Nat} {l : List (List Value)} {T : TypeId} {fz : Nat × Nat} {r : List Value} {v : Value} {K : Value → Prop} (hm : (b, Obj.cells (rows l) T fz) ∈ H) (hall : ∀ r ∈ l, r.length = k) (hi : l[i]? = some r) (hv : r[j]? = some v) (h : K v) :
    Ld H (.pointer (some ⟨b, 0 + i * k + j, none⟩)) K := by
  have hr := hall r (List.mem_of_getElem? hi)
  have hj : j < k := by rw [← hr]; exact (List.getElem?_eq_some_iff.1 hv).1
  refine Ld.mk hm ?_ h
  rw [Nat.zero_add, rows_get hall hj, hi]; exact hv
/-- rows of one cell -/
theorem Ld.row1 {b i : Nat} {l : List (List Value)} {T : TypeId} {fz : Nat × Nat} {v : Value} {K : Value → Prop} (hm : (b, Obj.cells (rows l) T fz) ∈ H) (hall : ∀ r ∈ l, r.length = 1) (hi : l[i]? = some [v]) (h : K v) :
    Ld H (.pointer (some ⟨b, 0 + i * 1, none⟩)) K := by
  have := Ld.row (j := 0) hm hall hi rfl h
  simpa using this
theorem St.row {b i k : Nat} {l : List (List Value)} {T : TypeId} {r : List Value} {H' : Hp} {K : Hp → Prop} (hu : Upd b (.cells (rows l) T (0, 0)) (.cells (rows (l.set i r)) T (0, 0)) H H') (hall : ∀ r ∈ l, r.length = k) (hi : i < l.length)
    (hr : r.length = k) (h1 : ∀ v ∈ r, v.oneCell' = true) (h : K H') : St k H (.pointer (some ⟨b, 0 + i * k, none⟩)) (.agg r.toArray) K := by
  refine St.mk hu (by simp [Value.cells, hr]) ?_ (by simpa [Value.cells] using h1) ?_ h
  · rw [rows_size hall, Nat.zero_add]; have := Nat.mul_le_mul_right k (Nat.succ_le_of_lt hi); rwa [Nat.succ_mul] at this
  · simp only [Value.cells, Nat.zero_add]; exact rows_set hall hi hr
theorem rows_set_cell {k : Nat} {l : List (List Value)} (h : ∀ r ∈ l, r.length = k) {i j : Nat} {r : List Value} (hi : l[i]? = some r) (hj : j < k) (v : Value) : (rows l).setIfInBounds (i * k + j) v = rows (l.set i (r.set j v)) := by
  have hr := h r (List.mem_of_getElem? hi)
  have hlt := (List.getElem?_eq_some_iff.1 hi).1
  have hall' : ∀ x ∈ l.set i (r.set j v), x.length = k := fun x hx => by
    rcases List.mem_or_eq_of_mem_set hx with hx | hx
    · exact h x hx
    · rw [hx, List.length_set]; exact hr
  have hk : 0 < k := by omega
  apply Array.ext'
  apply List.ext_getElem?
  intro m
  rw [Array.getElem?_toList, Array.getElem?_toList, Array.getElem?_setIfInBounds]
  have hm : m % k < k := Nat.mod_lt _ hk
  have he : m / k * k + m % k = m := by rw [Nat.mul_comm]; exact Nat.div_add_mod m k
  have g1 := rows_get h (i := m / k) hm
  have g2 := rows_get hall' (i := m / k) hm
  rw [he] at g1 g2
  rw [g1, g2]
  by_cases e : i * k + j = m
  · have e1 : m / k = i := by rw [← e, Nat.mul_comm, Nat.mul_add_div hk, Nat.div_eq_of_lt hj, Nat.add_zero]
    have e2 : m % k = j := by rw [← e, Nat.mul_comm, Nat.mul_add_mod, Nat.mod_eq_of_lt hj]
    rw [if_pos e, if_pos (by rw [rows_size h]; have := Nat.mul_le_mul_right k (Nat.succ_le_of_lt hlt); rw [Nat.succ_mul] at this; omega), e1, e2]
    simp [hlt, hr, hj]
  · rw [if_neg e]
    by_cases e1 : m / k = i
    · have e2 : j ≠ m % k := fun e2 => e (by rw [e2, ← e1]; exact he)
      rw [e1, hi]
      simp [hlt, e2]
    · rw [List.getElem?_set_ne (fun x => e1 x.symm)]
theorem St.cell {b i j k : Nat} {l : List (List Value)} {T : TypeId} {r : List Value} {v : Value} {H' : Hp} {K : Hp → Prop} (hu : Upd b (.cells (rows l) T (0, 0)) (.cells (rows (l.set i (r.set j v))) T (0, 0)) H H') (hall : ∀ r ∈ l, r.length = k)
    (hi : l[i]? = some r) (hj : j < k) (h1 : v.oneCell' = true) (h : K H') : St 1 H (.pointer (some ⟨b, 0 + i * k + j, none⟩)) v K := by
  have hlt := (List.getElem?_eq_some_iff.1 hi).1
  have hc : v.cells = #[v] := by cases v <;> first | rfl | (simp [Value.oneCell'] at h1)
  refine St.mk hu (by simp [hc]) ?_ (by simp [hc, h1]) ?_ h
  · rw [rows_size hall, Nat.zero_add]; have := Nat.mul_le_mul_right k (Nat.succ_le_of_lt hlt); rw [Nat.succ_mul] at this; omega
  · simp only [hc, Nat.zero_add, over]; exact rows_set_cell hall hi hj v
/-- one cell of a block written out -/
theorem St.one {b off : Nat} {c c' : Array Value} {T : TypeId} {v : Value} {H' : Hp} {K : Hp → Prop} (hu : Upd b (.cells c T (0, 0)) (.cells c' T (0, 0)) H H') (h1 : v.oneCell' = true) (hs : off < c.size) (hc : c.setIfInBounds off v = c') (h : K H') :
    St 1 H (.pointer (some ⟨b, off, none⟩)) v K := by
  have hv : v.cells = #[v] := by cases v <;> first | rfl | (simp [Value.oneCell'] at h1)
  exact St.mk hu (by simp [hv]) (by omega) (by simp [hv, h1]) (by simpa [hv, over] using hc) h
/-- a whole block, laid anew -/
theorem St.whole {b n : Nat} {c : Array Value} {T : TypeId} {r : List Value} {H' : Hp} {K : Hp → Prop} (hu : Upd b (.cells c T (0, 0)) (.cells r.toArray T (0, 0)) H H') (hs : c.size = n) (hr : r.length = n) (h1 : ∀ v ∈ r, v.oneCell' = true) (h : K H') :
    St n H (.pointer (some ⟨b, 0, none⟩)) (.agg r.toArray) K := by
  refine St.mk hu (by simp [Value.cells, hr]) (by omega) (by simpa [Value.cells] using h1) ?_ h
  have := over_eq r c.toList 0 (by simp; omega)
  rw [Array.toArray_toList] at this
  simp only [Value.cells]
  rw [this]
  simp [List.drop_eq_nil_of_le, hr, hs]
theorem LdA.whole {b n : Nat} {r : List Value} {T : TypeId} {fz : Nat × Nat} {K : Value → Prop} (hm : (b, Obj.cells r.toArray T fz) ∈ H) (hr : r.length = n) (h : K (.agg r.toArray)) : LdA n H (.pointer (some ⟨b, 0, none⟩)) K :=
  LdA.mk hm (by simp [hr]) (by simp; rw [← hr, List.take_length]) h

theorem eraseIdx_map {α β : Type} (f : α → β) : ∀ (l : List α) (i : Nat), (l.map f).eraseIdx i = (l.eraseIdx i).map f
  | [], _ => rfl
  | x :: l, 0 => rfl
  | x :: l, i + 1 => by simp [eraseIdx_map f l i]
/-! maps -/
def mapEnts {β : Type} (kd : IntKind) (enc : β → Value) (m : List (Int × β × Nat)) : Array MapEntry := (m.map fun x => ({ key := .int kd x.1, val := enc x.2.1, born := x.2.2 } : MapEntry)).toArray
def mapFn {β : Type} (m : List (Int × β × Nat)) (x : Int) : Option β := (m.find? (fun y => x == y.1)).map (·.2.1)
/-- the map v is this function of whole numbers; C holds its entries (none: the nil map) -/
def MOwn {β : Type} (kd : IntKind) (enc : β → Value) (v : Value) (f : Int → Option β) (C : Hp) : Prop :=
  (v = .map none ∧ C = [] ∧ f = fun _ => none) ∨
  ∃ b m ck, v = .map (some b) ∧ C = [(b, .map (mapEnts kd enc m) ck)] ∧ (m.map Prod.fst).Nodup ∧ f = mapFn m
theorem findNow_ents {β : Type} (kd : IntKind) (enc : β → Value) (x : Int) : ∀ (m : List (Int × β × Nat)) (i : Nat),
    ∃ r, Instr.findNow (.int kd) (.int kd x) (mapEnts kd enc m).toList i = some r ∧
      (match r with
        | none => mapFn m x = none ∧ x ∉ m.map Prod.fst
        | some (j, v) => i ≤ j ∧ ∃ p n, m[j - i]? = some (x, p, n) ∧ v = enc p ∧ mapFn m x = some p)
  | [], i => ⟨none, by simp [mapEnts, Instr.findNow], by simp [mapFn]⟩
  | (y, p, n) :: m, i => by
    simp only [mapEnts, List.map_cons, Instr.findNow, Instr.sameNow, if_true]
    by_cases e : x = y
    · subst e
      refine ⟨some (i, enc p), by simp [Instr.findNow, Instr.sameNow], Nat.le_refl _, p, n, by simp, rfl, by simp [mapFn]⟩
    · obtain ⟨r, hr, hp⟩ := findNow_ents kd enc x m (i + 1)
      have hb : (x == y) = false := by simpa using e
      refine ⟨r, ?_, ?_⟩
      · simp only [mapEnts] at hr
        simp [Instr.findNow, Instr.sameNow, hb, hr]
      · cases r with
        | none =>
          simp only [mapFn, List.find?_cons, hb] at hp ⊢
          exact ⟨hp.1, by simpa [e] using hp.2⟩
        | some jv =>
          obtain ⟨j, v⟩ := jv
          simp only [mapFn, List.find?_cons, hb] at hp ⊢
          obtain ⟨hij, p', n', h1, h2, h3⟩ := hp
          refine ⟨by omega, p', n', ?_, h2, h3⟩
          rw [show j - i = (j - (i + 1)) + 1 by omega]; simpa using h1
theorem MOwn.look {β : Type} {kd : IntKind} {enc : β → Value} {v zero : Value} {f : Int → Option β} {C : Hp} {ok : Bool} {x : Int} {K : Value → Prop} (h : MOwn kd enc v f C) (hC : ∀ y ∈ C, y ∈ H)
    (hk : K (match f x with | some p => cond ok (.tuple #[enc p, .bool true]) (enc p) | none => cond ok (.tuple #[zero, .bool false]) zero)) : Look (.int kd) zero ok H v (.int kd x) K := by
  rcases h with ⟨rfl, rfl, rfl⟩ | ⟨b, m, ck, rfl, rfl, _, rfl⟩
  · exact ⟨#[], none, .inl ⟨rfl, rfl⟩, rfl, hk⟩
  · obtain ⟨r, hr, hp⟩ := findNow_ents kd enc x m 0
    refine ⟨_, r, .inr ⟨b, ck, rfl, hC _ (by simp)⟩, hr, ?_⟩
    cases r with
    | none => simp only [hp.1] at hk; exact hk
    | some jv =>
      obtain ⟨j, u⟩ := jv
      obtain ⟨_, p, n, _, rfl, h3⟩ := hp
      simp only [h3] at hk; exact hk
def upM {β : Type} (f : Int → Option β) (x : Int) (p : Option β) : Int → Option β := fun y => if y = x then p else f y
theorem MOwn.made {β : Type} {kd : IntKind} {enc : β → Value} (b : Nat) : MOwn kd enc (.map (some b)) (fun _ => none) [(b, .map #[] 0)] :=
  .inr ⟨b, [], 0, rfl, rfl, by simp, by funext x; simp [mapFn]⟩
theorem mapFn_push {β : Type} (m : List (Int × β × Nat)) (x : Int) (p : β) (n : Nat) (hx : x ∉ m.map Prod.fst) : mapFn (m ++ [(x, p, n)]) = upM (mapFn m) x (some p) := by
  funext y
  simp only [mapFn, upM, List.find?_append]
  by_cases e : y = x
  · subst e
    have : m.find? (fun z => y == z.1) = none := by
      rw [List.find?_eq_none]; intro z hz; simp only [beq_iff_eq]; intro e; exact hx (e ▸ List.mem_map_of_mem hz)
    simp [this]
  · have e' : (y == x) = false := by simpa using e
    rw [if_neg e]
    cases h : m.find? (fun z => y == z.1) <;> simp [e']
theorem mapFn_set {β : Type} : ∀ (m : List (Int × β × Nat)) (j : Nat) (x : Int) (p q : β) (n : Nat), (m.map Prod.fst).Nodup → m[j]? = some (x, q, n) → mapFn (m.set j (x, p, n)) = upM (mapFn m) x (some p)
  | [], j, _, _, _, _, _, h => by simp at h
  | y :: m, 0, x, p, q, n, nd, h => by
    simp at h; subst h
    funext z
    simp only [List.set_cons_zero, mapFn, upM, List.find?_cons]
    by_cases e : z = x
    · subst e; simp
    · have e' : (z == x) = false := by simpa using e
      rw [if_neg e]; simp [e']
  | y :: m, j + 1, x, p, q, n, nd, h => by
    simp at h
    simp only [List.map_cons, List.nodup_cons] at nd
    have ih := mapFn_set m j x p q n nd.2 h
    have hne : x ≠ y.1 := fun e => nd.1 (e ▸ List.mem_map_of_mem (f := Prod.fst) (List.mem_of_getElem? h))
    funext z
    have ihz := congrFun ih z
    simp only [List.set_cons_succ, mapFn, upM, List.find?_cons] at ihz ⊢
    by_cases e : z = y.1
    · have : z ≠ x := fun e2 => hne (e2 ▸ e)
      simp [e, Ne.symm hne]
    · have e' : (z == y.1) = false := by simpa using e
      simp only [e']; exact ihz
theorem mapFn_erase {β : Type} : ∀ (m : List (Int × β × Nat)) (j : Nat) (x : Int) (q : β) (n : Nat), (m.map Prod.fst).Nodup → m[j]? = some (x, q, n) → mapFn (m.eraseIdx j) = upM (mapFn m) x none
  | [], j, _, _, _, _, h => by simp at h
  | y :: m, 0, x, q, n, nd, h => by
    simp at h; subst h
    simp only [List.map_cons, List.nodup_cons] at nd
    funext z
    simp only [List.eraseIdx_cons_zero, mapFn, upM, List.find?_cons]
    by_cases e : z = x
    · subst e
      have : m.find? (fun w => z == w.1) = none := by
        rw [List.find?_eq_none]; intro w hw; simp only [beq_iff_eq]; intro e; exact nd.1 (e ▸ List.mem_map_of_mem hw)
      simp [this]
    · have e' : (z == x) = false := by simpa using e
      rw [if_neg e]; simp [e']
  | y :: m, j + 1, x, q, n, nd, h => by
    simp at h
    simp only [List.map_cons, List.nodup_cons] at nd
    have ih := mapFn_erase m j x q n nd.2 h
    have hne : x ≠ y.1 := fun e => nd.1 (e ▸ List.mem_map_of_mem (f := Prod.fst) (List.mem_of_getElem? h))
    funext z
    have ihz := congrFun ih z
    simp only [List.eraseIdx_cons_succ, mapFn, upM, List.find?_cons] at ihz ⊢
    by_cases e : z = y.1
    · simp [e, Ne.symm hne]
    · have e' : (z == y.1) = false := by simpa using e
      simp only [e']; exact ihz
theorem MOwn.upd {β : Type} {kd : IntKind} {enc : β → Value} {b : Nat} {f : Int → Option β} {C : Hp} {x : Int} {p : β} {A B : Hp} {K : Hp → Prop} (h : MOwn kd enc (.map (some b)) f C)
    (hk : ∀ C', MOwn kd enc (.map (some b)) (upM f x (some p)) C' → K (A ++ (C' ++ B))) : MapUpd (.int kd) (A ++ (C ++ B)) (.map (some b)) (.int kd x) (enc p) K := by
  rcases h with ⟨h, _, _⟩ | ⟨b', m, ck, hb, rfl, nd, rfl⟩
  · simp at h
  · simp only [Value.map.injEq, Option.some.injEq] at hb; subst hb
    obtain ⟨r, hr, hp⟩ := findNow_ents kd enc x m 0
    refine ⟨b, mapEnts kd enc m, ck, r, rfl, hr, ?_⟩
    cases r with
    | none =>
      refine ⟨_, ((Upd.head _).append B).prepend A, hk [(b, _)] (.inr ⟨b, m ++ [(x, p, ck)], ck + 1, rfl, ?_, ?_, ?_⟩)⟩
      · simp [mapEnts]
      · rw [List.map_append, List.nodup_append]; exact ⟨nd, by simp, fun a ha c hc => by simp at hc; subst hc; intro e; subst e; exact hp.2 ha⟩
      · exact (mapFn_push m x p ck hp.2).symm
    | some jv =>
      obtain ⟨j, u⟩ := jv
      obtain ⟨_, q, n, h1, rfl, h3⟩ := hp
      rw [Nat.sub_zero] at h1
      have hlt := (List.getElem?_eq_some_iff.1 h1).1
      refine ⟨fun e he => ?_, by simpa [mapEnts] using hlt, _, ((Upd.head _).append B).prepend A, hk [(b, _)] (.inr ⟨b, m.set j (x, p, n), ck, rfl, ?_, ?_, ?_⟩)⟩
      · have : e = { key := .int kd x, val := enc q, born := n } := by
          simp only [mapEnts, List.getElem?_toArray, List.getElem?_map, h1] at he; simpa using he.symm
        subst this
        simp [Instr.sameBits]
      · congr 3
        apply Array.ext'
        apply List.ext_getElem?
        intro i
        simp only [mapEnts, Array.getElem?_toList, Array.getElem?_modify, List.getElem?_toArray, List.getElem?_map, List.getElem?_set]
        by_cases e : j = i
        · subst e
          have hj : m[j] = (x, q, n) := by have := List.getElem?_eq_getElem hlt; rw [h1] at this; simpa using this.symm
          simp [hlt, hj]
        · simp [e]
      · rw [List.map_set]
        have hx : (m.map Prod.fst)[j]? = some x := by rw [List.getElem?_map, h1]; rfl
        rw [show (m.map Prod.fst).set j x = m.map Prod.fst by
          apply List.ext_getElem?; intro i; rw [List.getElem?_set]; by_cases e : j = i
          · subst e; rw [hx]; simp [hlt]
          · simp [e]]
        exact nd
      · exact (mapFn_set m j x p q n nd h1).symm
theorem MOwn.del {β : Type} {kd : IntKind} {enc : β → Value} {v : Value} {f : Int → Option β} {C : Hp} {x : Int} {A B : Hp} {K : Hp → Prop} (h : MOwn kd enc v f C)
    (hk : ∀ C', MOwn kd enc v (upM f x none) C' → K (A ++ (C' ++ B))) : MapDel (.int kd) (A ++ (C ++ B)) v (.int kd x) K := by
  rcases h with ⟨rfl, rfl, rfl⟩ | ⟨b, m, ck, rfl, rfl, nd, rfl⟩
  · refine .inl ⟨rfl, hk [] (.inl ⟨rfl, rfl, ?_⟩)⟩
    funext y; simp [upM]
  · obtain ⟨r, hr, hp⟩ := findNow_ents kd enc x m 0
    refine .inr ⟨b, mapEnts kd enc m, ck, r, rfl, hr, ?_⟩
    cases r with
    | none =>
      refine ⟨by simp, hk [(b, _)] (.inr ⟨b, m, ck, rfl, rfl, nd, ?_⟩)⟩
      funext y; simp only [upM]; split
      · rename_i e; subst e; exact hp.1.symm
      · rfl
    | some jv =>
      obtain ⟨j, u⟩ := jv
      obtain ⟨_, q, n, h1, rfl, h3⟩ := hp
      rw [Nat.sub_zero] at h1
      have hlt := (List.getElem?_eq_some_iff.1 h1).1
      refine ⟨_, ((Upd.head _).append B).prepend A, hk [(b, _)] (.inr ⟨b, m.eraseIdx j, ck, rfl, ?_, ?_, ?_⟩)⟩
      · congr 3
        apply Array.ext'
        simp [mapEnts, Array.eraseIdxIfInBounds, hlt, eraseIdx_map]
      · rw [← eraseIdx_map]; exact nd.sublist (List.eraseIdx_sublist _ _)
      · exact (mapFn_erase m j x q n nd h1).symm
end
end Go.Sx
/-
  Laying out structs and slices of parts.
-/
set_option linter.unusedSimpArgs false
set_option linter.unusedVariables false
namespace Go.Sx
open Go
section
variable {P : Program} {g : Gh} {H : Hp}

theorem foldl_over (off : Nat) : ∀ (r : List Value) (i : Nat) (c : Array Value), (r.zipIdx i).foldl (fun cs (x : Value × Nat) => cs.setIfInBounds (off + x.2) x.1) c = over c (off + i) r
  | [], i, c => rfl
  | v :: r, i, c => by
    rw [List.zipIdx_cons, List.foldl_cons, foldl_over off r (i + 1)]
    rfl
theorem fill_over (off : Nat) (a c : Array Value) : a.zipIdx.foldl (fun cs (x : Value × Nat) => cs.setIfInBounds (off + x.2) x.1) c = over c off a.toList := by
  rw [← Array.foldl_toList]
  have : a.zipIdx.toList = a.toList.zipIdx 0 := by simp
  rw [this, foldl_over off a.toList 0 c]; rfl

def overL : List Value → Nat → List Value → List Value
  | c, _, [] => c
  | c, off, v :: r => overL (c.set off v) (off + 1) r
theorem overL_over : ∀ (r c : List Value) (off : Nat), over c.toArray off r = (overL c off r).toArray
  | [], c, off => rfl
  | v :: r, c, off => by
    have : c.toArray.setIfInBounds off v = (c.set off v).toArray := by simp
    rw [over, overL, this, overL_over r]
def fillL (place : Nat → Option (Nat × Nat)) : List Value → List (Nat × Value) → Option (List Value)
  | c, [] => some c
  | c, (i, v) :: r =>
    match place i with
    | none => none
    | some (off, size) => cond (Nat.beq v.cells.toList.length size && Nat.ble (off + v.cells.toList.length) c.length) (fillL place (overL c off v.cells.toList) r) none
theorem overL_length : ∀ (r c : List Value) (off : Nat), (overL c off r).length = c.length
  | [], c, off => rfl
  | v :: r, c, off => by rw [overL, overL_length r]; simp
theorem fillL_fill {place : Nat → Option (Nat × Nat)} : ∀ (r : List (Nat × Value)) (c cs : List Value), fillL place c r = some cs → Instr.fill place c.toArray r = some cs.toArray
  | [], c, cs, h => by simp only [fillL, Option.some.injEq] at h; subst h; rfl
  | (i, v) :: r, c, cs, h => by
    simp only [fillL] at h
    simp only [Instr.fill]
    split at h
    · simp at h
    · rename_i off size hp
      cases hc : (Nat.beq v.cells.toList.length size && Nat.ble (off + v.cells.toList.length) c.length) <;> simp only [hc, cond_true, cond_false, reduceCtorEq] at h
      simp only [Bool.and_eq_true] at hc
      have h1 := Nat.eq_of_beq_eq_true hc.1
      have h2 := Nat.le_of_ble_eq_true hc.2
      have h3 : v.cells.toList.length = v.cells.size := Array.length_toList
      have hsz : v.cells.size = size := by rw [← h3]; exact h1
      have hle : off + v.cells.size ≤ c.length := by rw [← h3]; exact h2
      simp only [hp]
      have hcond : (decide (v.cells.size ≠ size) || decide (off + v.cells.size > c.toArray.size)) = false := by
        rw [Bool.or_eq_false_iff]; exact ⟨by simp [hsz], by simp only [List.size_toArray, decide_eq_false_iff_not]; omega⟩
      rw [hcond]
      simp only [Bool.false_eq_true, if_false]
      rw [fill_over, overL_over]
      exact fillL_fill r _ cs h
def placesL (P : Program) : List Field → Option (List (Nat × Nat))
  | [] => some []
  | f :: r => match sizeD P f.type, placesL P r with
    | some n, some l => some ((f.offset, n) :: l)
    | _, _ => none
def buildL (P : Program) (t : TypeId) (parts : List (Nat × Value)) : Option (List Value) :=
  match P.underlying t, zeroD P t with
  | some (.struct fs), some z => match placesL P fs.toList with
    | some pl => fillL (fun i => pl[i]?) z.cells.toList parts
    | none => none
  | _, _ => none
theorem placesL_run : ∀ (fs : List Field) (pl : List (Nat × Nat)), placesL P fs = some pl → ∀ w, (fs.mapM fun f => (do pure (f.offset, ← sizeOf f.type) : Sem (Nat × Nat))).run P w = .ok pl w
  | [], pl, h, w => by simp only [placesL, Option.some.injEq] at h; subst h; rfl
  | f :: r, pl, h, w => by
    simp only [placesL] at h
    split at h
    · rename_i n l hn hl
      simp only [Option.some.injEq] at h; subst h
      obtain ⟨i, hi, hin⟩ := sizeD_spec hn
      have ih := placesL_run r l hl w
      simp only [List.mapM_cons, Sem.run_bind, run_sizeOf hi, Result.andThen_ok, Sem.run_pure, hin, ih]
    · simp at h
theorem Build.mk {t : TypeId} {parts : List (Nat × Value)} {cs : List Value} {k : Value → Prop} (hb : buildL P t parts = some cs) (h : k (.agg cs.toArray)) : Build P t parts k := by
  refine ⟨_, fun w => ?_, h⟩
  unfold buildL at hb
  split at hb
  · rename_i fs z hu hz
    split at hb
    · rename_i pl hpl
      obtain ⟨i, hi, hiz⟩ := zeroD_spec hz
      have hf := fillL_fill _ _ _ hb
      have hp := placesL_run fs.toList pl hpl w
      simp only [Instr.build, Sem.run_bind, run_zero hi hiz, Result.andThen_ok, run_underlying hu]
      have e2 : ((fs.mapM fun f => (do pure (f.offset, ← sizeOf f.type) : Sem (Nat × Nat))).run P w) = .ok pl.toArray w := by
        rw [Array.mapM_eq_mapM_toList]
        simp only [Sem.run_map, hp, Result.andThen_ok]
      rw [e2]
      show Sem.run P _ w = _
      have e3 : Instr.fill (fun x => pl.toArray[x]?) z.cells parts = some cs.toArray := by
        simpa using hf
      simp only [e3]
      rfl
    · simp at hb
  · simp at hb
theorem BuildSl.one {t e k : Nat} {z : Value} {r : List Value} {K : Value → Hp → Prop} (h1 : P.underlying t = some (.slice e)) (h2 : sizeD P e = some k) (h3 : zeroD P e = some z) (hk : 0 < k ∧ k ≤ 16777216) (hr : r.length = k)
    (h : ∀ b, K (.slice (some ⟨b, 0, none⟩) 1 1) ((b, .cells r.toArray e (0, 0)) :: H)) : BuildSl P t 1 [(0, .agg r.toArray)] H K := by
  refine ⟨r.toArray, e, k, z, h1, h2, h3, by omega, ?_, fun b _ => h b⟩
  have : ((Array.range (1 * k)).map (z.cells[· % z.cells.size]!)) = (((Array.range (1 * k)).map (z.cells[· % z.cells.size]!)).toList).toArray := by rw [Array.toArray_toList]
  rw [this]
  generalize hc : ((Array.range (1 * k)).map (z.cells[· % z.cells.size]!)).toList = c
  have hlen : c.length = k := by rw [← hc]; simp
  refine fillL_fill _ _ _ ?_
  simp only [fillL, Value.cells]
  have hb : (Nat.beq r.toArray.toList.length k && Nat.ble (0 * k + r.toArray.toList.length) c.length) = true := by simp [hr, hlen]
  rw [hb]
  simp only [cond_true, Option.some.injEq]
  have := over_eq r c 0 (by omega)
  rw [overL_over] at this
  have h5 : overL c 0 r = List.take 0 c ++ r ++ List.drop (0 + r.length) c := by simpa using congrArg Array.toList this
  simp only [Nat.zero_mul]
  rw [h5]
  simp [List.drop_eq_nil_of_le, hr, hlen]
end
end Go.Sx
namespace Go.Sx
open Go
section
variable {P : Program} {g : Gh} {H : Hp}
theorem MOwn.look_some {β : Type} {kd : IntKind} {enc : β → Value} {v zero : Value} {f : Int → Option β} {C : Hp} {ok : Bool} {x : Int} {K : Value → Prop} {p : β} (h : MOwn kd enc v f C) (hC : ∀ y ∈ C, y ∈ H) (hf : f x = some p)
    (hk : K (cond ok (.tuple #[enc p, .bool true]) (enc p))) : Look (.int kd) zero ok H v (.int kd x) K := h.look hC (by rw [hf]; exact hk)
theorem MOwn.look_none {β : Type} {kd : IntKind} {enc : β → Value} {v zero : Value} {f : Int → Option β} {C : Hp} {ok : Bool} {x : Int} {K : Value → Prop} (h : MOwn kd enc v f C) (hC : ∀ y ∈ C, y ∈ H) (hf : f x = none)
    (hk : K (cond ok (.tuple #[zero, .bool false]) zero)) : Look (.int kd) zero ok H v (.int kd x) K := h.look hC (by rw [hf]; exact hk)
theorem SliceE.upto {size n c h : Nat} {a : Option Addr} {kd : IntKind} {k : Value → Prop} (hh : h ≤ c) (hk : k (.slice a h c)) : SliceE size (.slice a n c) none (some (.int kd (h : Int))) k := by
  refine ⟨a, n, c, 0, h, rfl, rfl, rfl, by omega, by omega, by omega, ?_⟩
  have : (if c = (0 : Int).toNat then a else a.map (·.add ((0 : Int).toNat * size))) = a := by
    split
    · rfl
    · simp only [Int.toNat_zero, Nat.zero_mul]
      cases a with
      | none => rfl
      | some x => simp [Addr.add_zero']
  rw [this]
  simpa using hk
end
end Go.Sx
/-
  Calls in the midst of a heap (holes), contracts, slices that are read.
-/
set_option linter.unusedSimpArgs false
set_option linter.unusedVariables false
namespace Go.Sx
open Go
section
variable {P : Program} {g : Gh} {H : Hp}

/-- C stands in H; c tells what H is when another piece stands there -/
inductive Hole (C : Hp) : Hp → (Hp → Hp) → Prop
  | here : Hole C C (fun X => X)
  | left {A : Hp} : Hole C (C ++ A) (fun X => X ++ A)
  | cons {x : Nat × Obj} {H : Hp} {c : Hp → Hp} (h : Hole C H c) : Hole C (x :: H) (fun X => x :: c X)
  | app {A H : Hp} {c : Hp → Hp} (h : Hole C H c) : Hole C (A ++ H) (fun X => A ++ c X)
theorem Hole.spec {C H : Hp} {c : Hp → Hp} (h : Hole C H c) : H = c C ∧ ∃ F, ∀ X, (c X).Perm (X ++ F) := by
  induction h with
  | here => exact ⟨rfl, [], fun X => by simp⟩
  | @left A => exact ⟨rfl, A, fun X => .refl _⟩
  | @cons x H c h ih =>
    obtain ⟨h1, F, h2⟩ := ih
    exact ⟨by rw [h1], x :: F, fun X => (List.Perm.cons x (h2 X)).trans List.perm_middle.symm⟩
  | @app A H c h ih =>
    obtain ⟨h1, F, h2⟩ := ih
    refine ⟨by rw [h1], A ++ F, fun X => (List.Perm.append_left A (h2 X)).trans ?_⟩
    rw [← List.append_assoc, ← List.append_assoc]; exact List.perm_append_comm.append_right F
theorem Hole.ent {C H : Hp} {c : Hp → Hp} (h : Hole C H c) {X Y : Hp} (e : Ent X Y) : Ent (c X) (c Y) := by
  obtain ⟨_, F, hp⟩ := h.spec
  exact (Ent.perm (hp X)).trans ((e.frame F).trans (.perm (hp Y).symm))
theorem Ent.cons {x : Nat × Obj} {A B : Hp} (h : Ent A B) : Ent (x :: A) (x :: B) := Ent.prep h [x]
theorem Ent.skip {x : Nat × Obj} {A B : Hp} (h : Ent A B) : Ent (x :: A) B := Ent.tail.trans h
theorem Ent.skips {X A B : Hp} (h : Ent A B) : Ent (X ++ A) B := Ent.right.trans h
theorem Ent.assoc {A B C : Hp} : Ent ((A ++ B) ++ C) (A ++ (B ++ C)) := fun _ _ h => by rw [← List.append_assoc]; exact h

theorem SCalls.frame {f : FuncId} {args : Array Value} {C F : Hp} {R : Ending → Hp → Prop} (h : ∀ g, SCalls P g f args C R) : SCalls P g f args (C ++ F) (fun e H' => ∃ C', H' = C' ++ F ∧ R e C') := by
  intro w hw
  exact ((h (g.add F)) w (Own.framed.1 hw)).mono fun e w' ⟨H', ho, hr⟩ => ⟨_, Own.framed.2 ho, H', rfl, hr⟩
theorem SCalls.hole {f : FuncId} {args : Array Value} {C H : Hp} {c : Hp → Hp} {R : Ending → Hp → Prop} (hh : Hole C H c) (h : ∀ g, SCalls P g f args C R) : SCalls P g f args H (fun e H' => ∃ C', H' = c C' ∧ R e C') := by
  obtain ⟨rfl, F, hp⟩ := hh.spec
  exact ((SCalls.frame (F := F) h).pre (.perm (hp C))).post fun e H' ⟨C', h1, h2⟩ => ⟨c C', by rw [h1]; exact .perm (hp C').symm, C', rfl, h2⟩

/-- a function's contract: called so on this piece it returns v and leaves a piece, of which Q -/
def Fc (P : Program) (f : FuncId) (args : Array Value) (C : Hp) (Q : Value → Hp → Prop) : Prop :=
  ∀ g, SCalls P g f args C (fun e H' => ∃ v H'', e = .returned v ∧ Ent H' H'' ∧ Q v H'')
/-- what a listing is proved for -/
def FnR (Q : Value → Hp → Prop) : Ending → Hp → Prop := fun e H' => ∃ v H'', e = .returned v ∧ Ent H' H'' ∧ Q v H''
theorem FnR.mk {Q : Value → Hp → Prop} {v : Value} {H H'' : Hp} (he : Ent H H'') (h : Q v H'') : FnR Q (.returned v) H := ⟨v, H'', rfl, he, h⟩
theorem FnR.here {Q : Value → Hp → Prop} {v : Value} {H : Hp} (h : Q v H) : FnR Q (.returned v) H := ⟨v, H, rfl, .refl _, h⟩
theorem Fc.mono {f : FuncId} {args : Array Value} {C : Hp} {Q Q' : Value → Hp → Prop} (h : Fc P f args C Q) (hq : ∀ v H, Q v H → Q' v H) : Fc P f args C Q' :=
  fun g => (h g).mono fun e H' ⟨v, H'', h1, h2, h3⟩ => ⟨v, H'', h1, h2, hq _ _ h3⟩
theorem Fc.pre {f : FuncId} {args : Array Value} {C C' : Hp} {Q : Value → Hp → Prop} (h : Fc P f args C' Q) (he : Ent C C') : Fc P f args C Q := fun g => (h g).pre he
/-- one that makes memory and changes none: Q of the value and the greater piece -/
def Pu (P : Program) (f : FuncId) (args : Array Value) (B : Hp) (Q : Value → Hp → Prop) : Prop := Fc P f args B (fun v H => ∃ N, H = N ++ B ∧ Q v (N ++ B))
/-- one that changes nothing and whose value needs no new memory -/
def Rd (P : Program) (f : FuncId) (args : Array Value) (B : Hp) (Q : Value → Prop) : Prop := Fc P f args B (fun v H => H = B ∧ Q v)
theorem CallF.fn {f : FuncId} {args : Array Value} {C H : Hp} {c : Hp → Hp} {Q : Value → Hp → Prop} {K : Value → Hp → Prop} {KP : List PanicEntry → Hp → Prop} (hh : Hole C H c) (hc : Fc P f args C Q)
    (hk : ∀ v C', Q v C' → K v (c C')) : CallF P g f args H K KP :=
  (SCalls.hole hh hc).post fun e H' ⟨C', h1, v, C'', h2, h3, h4⟩ => ⟨c C'', by rw [h1]; exact hh.ent h3, by subst h2; exact hk _ _ h4⟩
theorem CallF.pu {f : FuncId} {args : Array Value} {B H : Hp} {c : Hp → Hp} {Q : Value → Hp → Prop} {K : Value → Hp → Prop} {KP : List PanicEntry → Hp → Prop} (hh : Hole B H c) (hc : Pu P f args B Q)
    (hk : ∀ v N, Q v (N ++ B) → K v (c (N ++ B))) : CallF P g f args H K KP :=
  CallF.fn hh hc fun v C' ⟨N, h1, h2⟩ => by subst h1; exact hk v N h2
theorem CallF.rd {f : FuncId} {args : Array Value} {B H : Hp} {c : Hp → Hp} {Q : Value → Prop} {K : Value → Hp → Prop} {KP : List PanicEntry → Hp → Prop} (hh : Hole B H c) (hc : Rd P f args B Q)
    (hk : ∀ v, Q v → K v H) : CallF P g f args H K KP :=
  CallF.fn hh hc fun v C' ⟨h1, h2⟩ => by subst h1; rw [← hh.spec.1]; exact hk v h2
theorem CallV.of {fv : Value} {args : Array Value} {K : Value → Hp → Prop} {KP : List PanicEntry → Hp → Prop} {f : FuncId} {first captured : Array Value} (hf : fv = .func (.func f) first captured) (hc : callable P f = true)
    (h : CallF P g f (first ++ args ++ captured) H K KP) : CallV P g fv args H K KP := ⟨f, first, captured, hf, hc, h⟩
theorem CallQ.rd {f : FuncId} {args : Array Value} {B H : Hp} {c : Hp → Hp} {v : Value} {k : Value → Prop} (hh : Hole B H c) (hc : Rd P f args B (· = v)) (hk : k v) : CallQ P g f args H k := by
  refine ⟨v, (SCalls.hole hh hc).post fun e H' ⟨C', h1, u, C'', h2, h3, h4, h5⟩ => ⟨H, ?_, ?_, rfl⟩, hk⟩
  · subst h4; subst h1; have := hh.ent h3; rw [← hh.spec.1] at this; exact this
  · subst h5; exact h2

theorem DR.self {body : Hp → Prop} (h : body H) : DR H body := ⟨H, .refl _, h⟩
theorem DR.of {R : Hp} {body : Hp → Prop} (e : Ent H R) (h : body R) : DR H body := ⟨R, e, h⟩

/-! memory that is read -/
/-- at p stand these cells -/
def At (B : Hp) (p : Value) (r : List Value) : Prop := ∃ b o c T fz, p = .pointer (some ⟨b, o, none⟩) ∧ (b, Obj.cells c T fz) ∈ B ∧ ∀ j v, r[j]? = some v → c[o + j]? = some v
theorem At.mono {B B' : Hp} {p : Value} {r : List Value} (h : At B p r) (hs : ∀ x ∈ B, x ∈ B') : At B' p r := by
  obtain ⟨b, o, c, T, fz, h1, h2, h3⟩ := h; exact ⟨b, o, c, T, fz, h1, hs _ h2, h3⟩
theorem At.block {b : Nat} {l : List Value} {T : TypeId} {fz : Nat × Nat} {B : Hp} (h : (b, Obj.cells l.toArray T fz) ∈ B) : At B (.pointer (some ⟨b, 0, none⟩)) l :=
  ⟨b, 0, _, T, fz, rfl, h, fun j v hj => by simpa using hj⟩
theorem Ld.at {p v : Value} {r : List Value} {B : Hp} {k : Value → Prop} (h : At B p (v :: r)) (hs : ∀ x ∈ B, x ∈ H) (hk : k v) : Ld H p k := by
  obtain ⟨b, o, c, T, fz, h1, h2, h3⟩ := h
  exact ⟨b, o, c, T, fz, v, h1, hs _ h2, by simpa using h3 0 v rfl, hk⟩
theorem FAddr.at {p : Value} {r : List Value} {B : Hp} {j : Nat} {k : Value → Prop} (h : At B p r) (hk : ∀ q, At B q (r.drop j) → k q) : FAddr j p k := by
  obtain ⟨b, o, c, T, fz, h1, h2, h3⟩ := h
  refine ⟨b, o, h1, hk _ ⟨b, o + j, c, T, fz, rfl, h2, fun i v hi => ?_⟩⟩
  rw [List.getElem?_drop] at hi
  rw [Nat.add_assoc]; exact h3 _ _ hi
theorem LdA.at {p : Value} {r : List Value} {B : Hp} {n : Nat} {k : Value → Prop} (h : At B p r) (hn : r.length = n) (hp : 0 < n) (hs : ∀ x ∈ B, x ∈ H) (hk : k (.agg r.toArray)) : LdA n H p k := by
  obtain ⟨b, o, c, T, fz, h1, h2, h3⟩ := h
  have hsz : o + n ≤ c.size := by
    have := h3 (n - 1) (r[n - 1]'(by omega)) (List.getElem?_eq_getElem _)
    have := (Array.getElem?_eq_some_iff.1 this).1
    omega
  refine ⟨b, o, c, T, fz, h1, hs _ h2, hsz, ?_⟩
  have : c.extract o (o + n) = r.toArray := by
    apply Array.ext
    · simp; omega
    · intro i hi1 hi2
      simp only [List.size_toArray] at hi2
      have := h3 i r[i] (List.getElem?_eq_getElem _)
      rw [Array.getElem_extract]
      have := (Array.getElem?_eq_some_iff.1 this).2
      simpa using this
  rw [this]; exact hk

/-- the slice v reads as these rows of k cells -/
def Sl (k : Nat) (B : Hp) (v : Value) (rs : List (List Value)) : Prop :=
  (∀ r ∈ rs, r.length = k) ∧
  ((∃ a cap, v = .slice a 0 cap ∧ rs = []) ∨ ∃ b o cap c T fz, v = .slice (some ⟨b, o, none⟩) rs.length cap ∧ rs.length ≤ cap ∧ (b, Obj.cells c T fz) ∈ B ∧ o + rs.length * k ≤ c.size ∧ ∀ i r, rs[i]? = some r → ∀ j v, r[j]? = some v → c[o + i * k + j]? = some v)
theorem Sl.mono {k : Nat} {B B' : Hp} {v : Value} {rs : List (List Value)} (h : Sl k B v rs) (hs : ∀ x ∈ B, x ∈ B') : Sl k B' v rs := by
  obtain ⟨h0, h⟩ := h
  refine ⟨h0, ?_⟩
  rcases h with h | ⟨b, o, cap, c, T, fz, h1, h2, h3, h4⟩
  · exact .inl h
  · exact .inr ⟨b, o, cap, c, T, fz, h1, h2, hs _ h3, h4⟩
theorem Sl.nil (k : Nat) (B : Hp) : Sl k B (.slice none 0 0) [] := ⟨by simp, .inl ⟨_, _, rfl, rfl⟩⟩
theorem Sl.shape {k : Nat} {B : Hp} {v : Value} {rs : List (List Value)} (h : Sl k B v rs) : ∃ a cap, v = .slice a rs.length cap ∧ rs.length ≤ cap := by
  rcases h.2 with ⟨a, cap, rfl, rfl⟩ | ⟨b, o, cap, c, T, fz, h1, h2, _⟩
  · exact ⟨_, _, rfl, Nat.zero_le _⟩
  · exact ⟨_, _, h1, h2⟩
theorem Sl.lenS {k : Nat} {B : Hp} {v : Value} {rs : List (List Value)} (h : Sl k B v rs) {K : Value → Prop} (hk : K (.int .i64 rs.length)) : LenS v K := by
  obtain ⟨a, c, rfl, _⟩ := h.shape; exact LenS.mk hk
theorem IAddr.sl {k : Nat} {B : Hp} {v : Value} {rs : List (List Value)} {kd : IntKind} {i : Nat} {r : List Value} {K : Value → Prop} (h : Sl k B v rs) (hi : rs[i]? = some r) (hk : ∀ p, At B p r → K p) : IAddr k v (.int kd (i : Int)) K := by
  have hlt := (List.getElem?_eq_some_iff.1 hi).1
  rcases h.2 with ⟨a, cap, rfl, rfl⟩ | ⟨b, o, cap, c, T, fz, h1, h2, h3, h4, h5⟩
  · simp at hlt
  · subst h1
    refine IAddr.nat (by omega) (hk _ ⟨b, _, c, T, fz, rfl, h3, fun j v hj => h5 i r hi j v hj⟩)
/-- the cells of a slice -/
theorem Sl.cells {k : Nat} {B : Hp} {v : Value} {rs : List (List Value)} (h : Sl k B v rs) : ∃ a cap, v = .slice a rs.length cap ∧ Cells B a (rs.length * k) (rows rs) := by
  rcases h.2 with ⟨a, cap, rfl, rfl⟩ | ⟨b, o, cap, c, T, fz, h1, h2, h3, h4, h5⟩
  · refine ⟨a, cap, rfl, ?_⟩
    cases a with
    | none => simp [Cells, rows]
    | some a => exact .inl ⟨by simp, rfl⟩
  · refine ⟨_, cap, h1, .inr ⟨rfl, c, T, fz, h3, h4, ?_⟩⟩
    apply Array.ext
    · rw [rows_size h.1]; simp; omega
    · intro i hi1 hi2
      rw [rows_size h.1] at hi1
      have hk : 0 < k := Nat.pos_of_ne_zero fun e => by simp [e] at hi1
      have hd : i / k < rs.length := Nat.div_lt_of_lt_mul (by rw [Nat.mul_comm]; exact hi1)
      have hm : i % k < k := Nat.mod_lt _ hk
      have he : i / k * k + i % k = i := by rw [Nat.mul_comm]; exact Nat.div_add_mod i k
      have hr := h.1 rs[i / k] (List.getElem_mem hd)
      have g1 := rows_get h.1 (i := i / k) hm
      rw [he, List.getElem?_eq_getElem hd, Option.bind_some, List.getElem?_eq_getElem (by omega)] at g1
      have g2 := h5 (i / k) _ (List.getElem?_eq_getElem hd) (i % k) _ (List.getElem?_eq_getElem (by omega))
      rw [Nat.add_assoc, he] at g2
      have e1 := (Array.getElem?_eq_some_iff.1 g1).2
      have e2 := (Array.getElem?_eq_some_iff.1 g2).2
      rw [Array.getElem_extract]
      exact e1.trans e2.symm
theorem Sl.ofOwn {T : TypeId} {k : Nat} {v : Value} {rs : List (List Value)} {C : Hp} (h : SOwn T k v rs C) (hk : 0 < k) : Sl k C v rs := by
  rcases h with ⟨rfl, rfl, rfl⟩ | ⟨b, junk, rfl, rfl, hall⟩
  · exact Sl.nil _ _
  · refine ⟨fun r hr => hall r (by simp [hr]), .inr ⟨b, 0, _, rows (rs ++ junk), T, (0, 0), rfl, by omega, by simp, ?_, fun i r hi j v hj => ?_⟩⟩
    · rw [rows_size hall, List.length_append, Nat.zero_add]; exact Nat.mul_le_mul_right _ (by omega)
    · have hlt := (List.getElem?_eq_some_iff.1 hi).1
      have hr := hall r (List.mem_append_left _ (List.mem_of_getElem? hi))
      have hjk : j < k := by rw [← hr]; exact (List.getElem?_eq_some_iff.1 hj).1
      rw [Nat.zero_add, rows_get hall hjk, List.getElem?_append_left hlt, hi]; exact hj
end
end Go.Sx
/-
  Whole numbers that are not negative, as Nat.
-/
set_option linter.unusedSimpArgs false
set_option linter.unusedVariables false
namespace Go.Sx
open Go
def lim : IntKind → Nat
  | .i8 => 128 | .i16 => 32768 | .i32 => 2147483648 | .i64 => 9223372036854775808
  | .u8 => 256 | .u16 => 65536 | .u32 => 4294967296 | .u64 => 18446744073709551616
theorem wrap_nat {kd : IntKind} {n : Nat} (h : n < lim kd) : kd.wrap (n : Int) = n := by
  cases kd <;> simp only [lim] at h <;> simp only [IntKind.wrap, IntKind.bits, IntKind.signed, Bool.false_and, Bool.true_and, Bool.false_eq_true, if_false, decide_eq_true_eq]
  all_goals first
    | omega
    | (rw [if_neg (by simp; omega)]; omega)
theorem wrap_u64 (n : Int) : IntKind.u64.wrap n = n % 18446744073709551616 := by simp [IntKind.wrap, IntKind.bits, IntKind.signed]
theorem lim_le (kd : IntKind) : lim kd ≤ 2 ^ kd.bits := by cases kd <;> decide
/-- a without the bits of b -/
def andn (a b : Nat) : Nat := a ^^^ (a &&& b)
theorem testBit_andn (a b j : Nat) : (andn a b).testBit j = (a.testBit j && !b.testBit j) := by
  unfold andn; rw [Nat.testBit_xor, Nat.testBit_and]; cases a.testBit j <;> cases b.testBit j <;> rfl
theorem andn_le (a b : Nat) : andn a b ≤ a := by
  have : andn a b = a &&& andn a b := by
    apply Nat.eq_of_testBit_eq; intro j
    rw [Nat.testBit_and, testBit_andn]; cases a.testBit j <;> simp
  rw [this]; exact Nat.and_le_left
theorem bits_nat {kd : IntKind} {a b : Nat} (ha : a < lim kd) (hb : b < lim kd) :
    bits .and kd a b = ((a &&& b : Nat) : Int) ∧ bits .or kd a b = ((a ||| b : Nat) : Int) ∧ bits .xor kd a b = ((a ^^^ b : Nat) : Int) ∧ bits .andNot kd a b = ((andn a b : Nat) : Int) := by
  have hl := lim_le kd
  have h1 : (BitVec.ofInt kd.bits (a : Int)).toNat = a := by rw [BitVec.ofInt_natCast, BitVec.toNat_ofNat, Nat.mod_eq_of_lt (by omega)]
  have h2 : (BitVec.ofInt kd.bits (b : Int)).toNat = b := by rw [BitVec.ofInt_natCast, BitVec.toNat_ofNat, Nat.mod_eq_of_lt (by omega)]
  obtain ⟨n, hn⟩ : ∃ n, lim kd = 2 ^ n := by cases kd <;> first | exact ⟨7, rfl⟩ | exact ⟨15, rfl⟩ | exact ⟨31, rfl⟩ | exact ⟨63, rfl⟩ | exact ⟨8, rfl⟩ | exact ⟨16, rfl⟩ | exact ⟨32, rfl⟩ | exact ⟨64, rfl⟩
  rw [hn] at ha hb
  refine ⟨?_, ?_, ?_, ?_⟩
  · simp only [bits, BitVec.toNat_and, h1, h2]
    exact wrap_nat (by rw [hn]; exact Nat.lt_of_le_of_lt Nat.and_le_left ha)
  · simp only [bits, BitVec.toNat_or, h1, h2]
    exact wrap_nat (by rw [hn]; exact Nat.or_lt_two_pow ha hb)
  · simp only [bits, BitVec.toNat_xor, h1, h2]
    exact wrap_nat (by rw [hn]; exact Nat.xor_lt_two_pow ha hb)
  · simp only [bits]
    have : (BitVec.ofInt kd.bits (a : Int) &&& ~~~BitVec.ofInt kd.bits (b : Int)).toNat = andn a b := by
      apply Nat.eq_of_testBit_eq; intro j
      rw [testBit_andn, ← BitVec.getLsbD, BitVec.getLsbD_and, BitVec.getLsbD_not, BitVec.getLsbD, BitVec.getLsbD, h1, h2]
      by_cases hj : j < kd.bits
      · simp [hj]
      · have : a.testBit j = false := Nat.testBit_lt_two_pow (Nat.lt_of_lt_of_le ha (by rw [← hn]; exact Nat.le_trans hl (Nat.pow_le_pow_right (by decide) (by omega))))
        simp [this]
    rw [this]
    exact wrap_nat (by rw [hn]; exact Nat.lt_of_le_of_lt (andn_le a b) ha)
section
variable {kd kd' : IntKind} {a b : Nat} {k : Value → Prop}
theorem Bin.andN (ha : a < lim kd) (hb : b < lim kd) (h : k (.int kd ((a &&& b : Nat) : Int))) : Bin .num .and (.int kd a) (.int kd b) k := ⟨_, by simp [binV, intV, (bits_nat ha hb).1], h⟩
theorem Bin.orN (ha : a < lim kd) (hb : b < lim kd) (h : k (.int kd ((a ||| b : Nat) : Int))) : Bin .num .or (.int kd a) (.int kd b) k := ⟨_, by simp [binV, intV, (bits_nat ha hb).2.1], h⟩
theorem Bin.xorN (ha : a < lim kd) (hb : b < lim kd) (h : k (.int kd ((a ^^^ b : Nat) : Int))) : Bin .num .xor (.int kd a) (.int kd b) k := ⟨_, by simp [binV, intV, (bits_nat ha hb).2.2.1], h⟩
theorem Bin.andnN (ha : a < lim kd) (hb : b < lim kd) (h : k (.int kd ((andn a b : Nat) : Int))) : Bin .num .andNot (.int kd a) (.int kd b) k := ⟨_, by simp [binV, intV, (bits_nat ha hb).2.2.2], h⟩
theorem Bin.shrN (ha : a < lim kd) (h : k (.int kd ((a >>> b : Nat) : Int))) : Bin .num .shr (.int kd a) (.int kd' b) k := by
  refine ⟨_, ?_, h⟩
  have h0 : ¬ ((b : Int) < 0) := by omega
  simp only [binV, h0, if_false, Option.some.injEq, Value.int.injEq, true_and, Int.toNat_natCast]
  rw [Int.fdiv_eq_ediv_of_nonneg _ (Int.le_of_lt (Int.pow_pos (by decide))), Nat.shiftRight_eq_div_pow]
  have hl := lim_le kd
  by_cases hb : b ≤ kd.bits
  · rw [Nat.min_eq_left hb]; push_cast; rfl
  · rw [Nat.min_eq_right (by omega)]
    have h1 : a / 2 ^ kd.bits = 0 := Nat.div_eq_of_lt (by omega)
    have h2 : a / 2 ^ b = 0 := Nat.div_eq_of_lt (Nat.lt_of_lt_of_le (by omega) (Nat.pow_le_pow_right (by decide) (by omega : kd.bits ≤ b)))
    have : (a : Int) / (2 ^ kd.bits : Int) = ((a / 2 ^ kd.bits : Nat) : Int) := by push_cast; rfl
    rw [this, h1, h2]
theorem Bin.shlN (hb : b ≤ kd.bits) (hr : a <<< b < lim kd) (h : k (.int kd ((a <<< b : Nat) : Int))) : Bin .num .shl (.int kd a) (.int kd' b) k := by
  refine ⟨_, ?_, h⟩
  have h0 : ¬ ((b : Int) < 0) := by omega
  simp only [binV, h0, if_false, Option.some.injEq, Value.int.injEq, true_and, Int.toNat_natCast, Nat.min_eq_left hb]
  rw [← wrap_nat hr, Nat.shiftLeft_eq]; push_cast; rfl
/-- of a uint64 the bits that stay -/
theorem Bin.shlU (h : k (.int .u64 (((a <<< b) % 18446744073709551616 : Nat) : Int))) : Bin .num .shl (.int .u64 a) (.int kd' b) k := by
  refine ⟨_, ?_, h⟩
  have h0 : ¬ ((b : Int) < 0) := by omega
  simp only [binV, h0, if_false, Option.some.injEq, Value.int.injEq, true_and, Int.toNat_natCast, IntKind.bits, wrap_u64]
  rw [Nat.shiftLeft_eq]
  by_cases hb : b ≤ 64
  · rw [Nat.min_eq_left hb, Int.natCast_emod, Int.natCast_mul, Int.natCast_pow]; rfl
  · rw [Nat.min_eq_right (by omega)]
    have h1 : (a * 2 ^ b) % 18446744073709551616 = 0 := by
      have : 2 ^ b = 18446744073709551616 * 2 ^ (b - 64) := by rw [show (18446744073709551616 : Nat) = 2 ^ 64 by rfl, ← Nat.pow_add]; congr 1; omega
      rw [this, Nat.mul_left_comm]; exact Nat.mul_mod_right _ _
    rw [h1]
    exact Int.mul_emod_left _ _
theorem Bin.addN (hr : a + b < lim kd) (h : k (.int kd ((a + b : Nat) : Int))) : Bin .num .add (.int kd a) (.int kd b) k := by
  refine Bin.add ?_
  have : ((a : Int) + (b : Int)) = ((a + b : Nat) : Int) := by push_cast; rfl
  rw [this, wrap_nat hr]; exact h
theorem Bin.subN (ha : a < lim kd) (hb : b ≤ a) (h : k (.int kd ((a - b : Nat) : Int))) : Bin .num .sub (.int kd a) (.int kd b) k := by
  refine Bin.sub ?_
  have : ((a : Int) - (b : Int)) = ((a - b : Nat) : Int) := by omega
  rw [this, wrap_nat (by omega)]; exact h
theorem Bin.mulN (hr : a * b < lim kd) (h : k (.int kd ((a * b : Nat) : Int))) : Bin .num .mul (.int kd a) (.int kd b) k := by
  refine Bin.mul ?_
  have : ((a : Int) * (b : Int)) = ((a * b : Nat) : Int) := by push_cast; rfl
  rw [this, wrap_nat hr]; exact h
theorem Bin.divN (ha : a < lim kd) (hb : b ≠ 0) (h : k (.int kd ((a / b : Nat) : Int))) : Bin .num .quo (.int kd a) (.int kd b) k := by
  refine ⟨_, ?_, h⟩
  have h0 : ¬ ((b : Int) = 0) := by omega
  simp only [binV, intV, if_true, h0, if_false]
  have : (a : Int).tdiv b = ((a / b : Nat) : Int) := by rw [Int.tdiv_eq_ediv_of_nonneg (by omega)]; push_cast; rfl
  rw [this, wrap_nat (Nat.lt_of_le_of_lt (Nat.div_le_self _ _) ha)]
theorem Bin.modN (hb : b ≠ 0) (h : k (.int kd ((a % b : Nat) : Int))) : Bin .num .rem (.int kd a) (.int kd b) k := by
  refine ⟨_, ?_, h⟩
  have h0 : ¬ ((b : Int) = 0) := by omega
  simp only [binV, intV, if_true, h0, if_false]
  have : (a : Int).tmod b = ((a % b : Nat) : Int) := by rw [Int.tmod_eq_emod_of_nonneg (by omega)]; push_cast; rfl
  rw [this]
theorem Bin.eqD {x y : Int} (h : k (.bool (decide (x = y)))) : Bin .num .eql (.int kd x) (.int kd y) k := Bin.eql (by rw [show (x == y) = decide (x = y) from by cases hb : decide (x = y) <;> simp_all]; exact h)
theorem Bin.neD {x y : Int} (h : k (.bool (decide (x ≠ y)))) : Bin .num .neq (.int kd x) (.int kd y) k := Bin.neq (by rw [show (x != y) = decide (x ≠ y) from by cases hb : decide (x = y) <;> simp_all]; exact h)
theorem Bin.eqN (h : k (.bool (decide (a = b)))) : Bin .num .eql (.int kd a) (.int kd b) k := Bin.eqD (by simpa [Int.natCast_inj] using h)
theorem Bin.neN (h : k (.bool (decide (a ≠ b)))) : Bin .num .neq (.int kd a) (.int kd b) k := Bin.neD (by simpa [Int.natCast_inj] using h)
theorem Bin.ltN (h : k (.bool (decide (a < b)))) : Bin .num .lss (.int kd a) (.int kd b) k := Bin.lss (by simpa [Int.ofNat_lt] using h)
theorem Bin.leN (h : k (.bool (decide (a ≤ b)))) : Bin .num .leq (.int kd a) (.int kd b) k := Bin.leq (by simpa [Int.ofNat_le] using h)
theorem Bin.gtN (h : k (.bool (decide (b < a)))) : Bin .num .gtr (.int kd a) (.int kd b) k := Bin.gtr (by simpa [Int.ofNat_lt] using h)
theorem Bin.geN (h : k (.bool (decide (b ≤ a)))) : Bin .num .geq (.int kd a) (.int kd b) k := Bin.geq (by simpa [Int.ofNat_le] using h)
theorem ConvI.nat (ha : a < lim kd) (h : k (.int kd (a : Int))) : ConvI kd (.int kd' a) k := ConvI.of (wrap_nat ha) h
theorem ConvI.cut8 (h : k (.int .u8 ((a % 256 : Nat) : Int))) : ConvI .u8 (.int kd' a) k := ConvI.of (by simp [IntKind.wrap, IntKind.bits, IntKind.signed]) h
theorem Un.negU (ha : a < 18446744073709551616) (h : k (.int .u64 (((18446744073709551616 - a) % 18446744073709551616 : Nat) : Int))) : Un .neg (.int .u64 a) k := by
  refine ⟨_, ?_, h⟩
  simp only [unV, wrap_u64, Option.some.injEq, Value.int.injEq, true_and]; omega
theorem Un.xorU (ha : a < 18446744073709551616) (h : k (.int .u64 ((18446744073709551615 - a : Nat) : Int))) : Un .xor (.int .u64 a) k := by
  refine ⟨_, ?_, h⟩
  have e : (if IntKind.u64.signed = true then (-1 : Int) else IntKind.u64.max) = ((18446744073709551615 : Nat) : Int) := by decide
  simp only [unV, e, (bits_nat (kd := .u64) (a := 18446744073709551615) (b := a) (by decide) ha).2.2.1, Option.some.injEq, Value.int.injEq, true_and]
  congr 1
  have : 18446744073709551615 ^^^ a = 18446744073709551615 - a := by
    have h64 : a < 2 ^ 64 := ha
    rw [show (18446744073709551615 : Nat) = 2 ^ 64 - 1 by rfl]
    apply Nat.eq_of_testBit_eq; intro j
    rw [Nat.testBit_xor, show 2 ^ 64 - 1 - a = 2 ^ 64 - (a + 1) by omega, Nat.testBit_two_pow_sub_succ h64, Nat.testBit_two_pow_sub_one]
    by_cases hj : j < 64
    · simp [hj]
    · simp [hj]; exact Nat.testBit_lt_two_pow (Nat.lt_of_lt_of_le h64 (Nat.pow_le_pow_right (by decide) (by omega)))
  exact this
end
theorem Br.dec {p : Prop} [Decidable p] {t f : Prop} (h1 : p → t) (h2 : ¬ p → f) : Br (.bool (decide p)) t f := ⟨_, rfl, fun h => h1 (by simpa using h), fun h => h2 (by simpa using h)⟩
theorem Br.decT {p : Prop} [Decidable p] {t f : Prop} (hp : p) (h1 : t) : Br (.bool (decide p)) t f := Br.dec (fun _ => h1) fun h => absurd hp h
theorem Br.decF {p : Prop} [Decidable p] {t f : Prop} (hp : ¬ p) (h1 : f) : Br (.bool (decide p)) t f := Br.dec (fun h => absurd h hp) fun _ => h1
end Go.Sx
/-
  Tables of all values as words; cofactors; bits.
-/
set_option linter.unusedSimpArgs false
set_option linter.unusedVariables false
namespace Tab
open Go.Sx
def wN (n : Nat) : Nat := max 1 (2 ^ n / 64)
def fullN (n : Nat) : Nat := if 6 ≤ n then 18446744073709551615 else 2 ^ 2 ^ n - 1
structure Frm (n : Nat) (ws : List Nat) : Prop where
  n16 : n ≤ 16
  len : ws.length = wN n
  full : ∀ w ∈ ws, w ≤ fullN n
instance (n : Nat) (ws : List Nat) : Decidable (Frm n ws) := decidable_of_iff (n ≤ 16 ∧ ws.length = wN n ∧ ∀ w ∈ ws, w ≤ fullN n) ⟨fun ⟨a, b, c⟩ => ⟨a, b, c⟩, fun ⟨a, b, c⟩ => ⟨a, b, c⟩⟩
def bit (ws : List Nat) (x : Nat) : Bool := (ws.getD (x / 64) 0).testBit (x % 64)
def setb (x v : Nat) (b : Bool) : Nat := if b then x ||| 2 ^ v else andn x (2 ^ v)

theorem wN_pos (n : Nat) : 0 < wN n := Nat.le_max_left _ _
theorem wN_ge {n : Nat} (h : 6 ≤ n) : wN n = 2 ^ (n - 6) := by
  unfold wN
  have : 2 ^ n / 64 = 2 ^ (n - 6) := by
    rw [show (64 : Nat) = 2 ^ 6 by rfl, Nat.pow_div h (by decide)]
  rw [this]; exact Nat.max_eq_right (Nat.two_pow_pos _)
theorem wN_lt {n : Nat} (h : n < 7) : wN n = 1 := by
  have : n = 0 ∨ n = 1 ∨ n = 2 ∨ n = 3 ∨ n = 4 ∨ n = 5 ∨ n = 6 := by omega
  rcases this with rfl | rfl | rfl | rfl | rfl | rfl | rfl <;> rfl
theorem wN_le {n : Nat} (h : n ≤ 16) : wN n ≤ 1024 := by
  by_cases h6 : 6 ≤ n
  · rw [wN_ge h6]; exact Nat.pow_le_pow_right (by decide) (by omega : n - 6 ≤ 10)
  · rw [wN_lt (by omega)]; decide
theorem fullN_lt (n : Nat) : fullN n < 18446744073709551616 := by
  unfold fullN
  split
  · decide
  · have h1 : 2 ^ n ≤ 32 := Nat.pow_le_pow_right (n := 2) (by decide) (by omega : n ≤ 5)
    have h2 : 2 ^ 2 ^ n ≤ 2 ^ 32 := Nat.pow_le_pow_right (by decide) h1
    omega
theorem Frm.lt {n : Nat} {ws : List Nat} (h : Frm n ws) {w : Nat} (hw : w ∈ ws) : w < 18446744073709551616 := Nat.lt_of_le_of_lt (h.full w hw) (fullN_lt n)
theorem and_full {n w : Nat} (h : w ≤ fullN n) : w &&& fullN n = w := by
  unfold fullN at *
  split at h
  · rename_i h6
    rw [if_pos h6, show (18446744073709551615 : Nat) = 2 ^ 64 - 1 by rfl, Nat.and_two_pow_sub_one_eq_mod, Nat.mod_eq_of_lt (by omega)]
  · rename_i h6
    rw [if_neg h6, Nat.and_two_pow_sub_one_eq_mod, Nat.mod_eq_of_lt]
    have := Nat.two_pow_pos (2 ^ n); omega
/-- which bits of a word are the table's -/
theorem testBit_full (n j : Nat) : (fullN n).testBit j = decide (j < if 6 ≤ n then 64 else 2 ^ n) := by
  unfold fullN
  split
  · rw [show (18446744073709551615 : Nat) = 2 ^ 64 - 1 by rfl, Nat.testBit_two_pow_sub_one]
  · rw [Nat.testBit_two_pow_sub_one]
theorem lt_words {n x : Nat} (h : x < 2 ^ n) : x / 64 < wN n := by
  by_cases h6 : 6 ≤ n
  · rw [wN_ge h6]
    refine Nat.div_lt_of_lt_mul ?_
    rw [show (64 : Nat) = 2 ^ 6 by rfl, ← Nat.pow_add]
    rwa [show 6 + (n - 6) = n by omega]
  · have h1 : 2 ^ n ≤ 32 := Nat.pow_le_pow_right (n := 2) (by decide) (by omega : n ≤ 5)
    rw [wN_lt (by omega)]; omega
theorem Frm.ext {n : Nat} {a b : List Nat} (ha : Frm n a) (hb : Frm n b) (h : ∀ x, x < 2 ^ n → bit a x = bit b x) : a = b := by
  apply List.ext_getElem (by rw [ha.len, hb.len])
  intro i h1 h2
  apply Nat.eq_of_testBit_eq
  intro j
  have hfa := and_full (ha.full _ (List.getElem_mem h1))
  have hfb := and_full (hb.full _ (List.getElem_mem h2))
  by_cases hj : j < (if 6 ≤ n then 64 else 2 ^ n)
  · have hj64 : j < 64 := by
      split at hj
      · exact hj
      · have h1 : 2 ^ n ≤ 32 := Nat.pow_le_pow_right (n := 2) (by decide) (by omega : n ≤ 5)
        omega
    have hx : 64 * i + j < 2 ^ n := by
      by_cases h6 : 6 ≤ n
      · have hi : i < 2 ^ (n - 6) := by rw [← wN_ge h6, ← ha.len]; exact h1
        have : 2 ^ n = 64 * 2 ^ (n - 6) := by rw [show (64 : Nat) = 2 ^ 6 by rfl, ← Nat.pow_add]; congr 1; omega
        omega
      · have hi : i < 1 := by rw [← wN_lt (show n < 7 by omega), ← ha.len]; exact h1
        rw [if_neg h6] at hj; omega
    have := h _ hx
    unfold bit at this
    rw [show (64 * i + j) / 64 = i by omega, show (64 * i + j) % 64 = j by omega] at this
    simpa [h1, h2] using this
  · have hd : (fullN n).testBit j = false := by rw [testBit_full]; simpa using hj
    rw [← hfa, ← hfb, Nat.testBit_and, Nat.testBit_and, hd]; simp

/-- the bits k below J of which the variable v is 1 -/
def colP (v : Nat) : Nat → Nat
  | 0 => 0
  | j + 1 => colP v j ||| (((j >>> v) &&& 1) <<< j)
def mask (v : Nat) : Nat := colP v 64
theorem and_one_eq (m : Nat) : m &&& 1 = if m.testBit 0 then 1 else 0 := by
  rw [Nat.and_one_is_mod, Nat.testBit_zero]
  rcases Nat.mod_two_eq_zero_or_one m with h | h <;> simp [h]
theorem testBit_colP (v : Nat) : ∀ J k, (colP v J).testBit k = (decide (k < J) && k.testBit v)
  | 0, k => by simp [colP]
  | J + 1, k => by
    rw [colP, Nat.testBit_or, testBit_colP v J k, and_one_eq, Nat.testBit_shiftRight, Nat.add_zero]
    by_cases e : k = J
    · subst e
      cases hb : k.testBit v <;> simp [Nat.testBit_shiftLeft]
    · have : ((if (J.testBit v) = true then 1 else 0) <<< J).testBit k = false := by
        rw [Nat.testBit_shiftLeft]
        split
        · by_cases hk : J ≤ k
          · have h1 : Nat.testBit 1 (k - J) = false := Nat.testBit_lt_two_pow (Nat.one_lt_two_pow (by omega))
            simp [hk, h1]
          · simp [hk]
        · simp
      rw [this]
      have : (decide (k < J + 1)) = decide (k < J) := by simp; omega
      rw [this]; simp
theorem colP_lt (v : Nat) : ∀ J, colP v J < 2 ^ J
  | 0 => by simp [colP]
  | J + 1 => by
    have h1 := colP_lt v J
    have h2 : ((J >>> v) &&& 1) <<< J < 2 ^ (J + 1) := by
      rw [and_one_eq, Nat.shiftLeft_eq]
      split
      · rw [Nat.one_mul]; exact Nat.pow_lt_pow_right (by decide) (by omega)
      · rw [Nat.zero_mul]; exact Nat.two_pow_pos _
    exact Nat.or_lt_two_pow (Nat.lt_of_lt_of_le h1 (Nat.pow_le_pow_right (by decide) (by omega))) h2
theorem testBit_mask (v k : Nat) : (mask v).testBit k = (decide (k < 64) && k.testBit v) := testBit_colP v 64 k
theorem mask_lt (v : Nat) : mask v < 18446744073709551616 := colP_lt v 64

/-- word i of a cofactor, before what is no part of the table is struck -/
def halfW (ws : List Nat) (v : Nat) (b : Bool) (i : Nat) : Nat :=
  if 6 ≤ v then ws.getD (setb i (v - 6) b) 0
  else if b then (ws.getD i 0 &&& mask v) ||| (ws.getD i 0 &&& mask v) >>> 2 ^ v
  else andn (ws.getD i 0) (mask v) ||| (andn (ws.getD i 0) (mask v) <<< 2 ^ v) % 18446744073709551616
def cof (n : Nat) (ws : List Nat) (v : Nat) (b : Bool) : List Nat := (List.range (wN n)).map fun i => halfW ws v b i &&& fullN n
theorem frm_cof {n v : Nat} {ws : List Nat} {b : Bool} (h : n ≤ 16) : Frm n (cof n ws v b) := by
  refine ⟨h, by simp [cof], fun w hw => ?_⟩
  obtain ⟨i, _, rfl⟩ := List.mem_map.1 hw
  exact Nat.and_le_right
theorem testBit_setb (x v : Nat) (b : Bool) (k : Nat) : (setb x v b).testBit k = if k = v then b else x.testBit k := by
  unfold setb
  cases b <;> simp only [if_true, Bool.false_eq_true, if_false]
  · rw [testBit_andn, Nat.testBit_two_pow]
    by_cases e : k = v
    · simp [e]
    · simp [e, Ne.symm e]
  · rw [Nat.testBit_or, Nat.testBit_two_pow]
    by_cases e : k = v
    · simp [e]
    · simp [e, Ne.symm e]
theorem setb_lt {x v n : Nat} {b : Bool} (hx : x < 2 ^ n) (hv : v < n) : setb x v b < 2 ^ n := by
  unfold setb
  split
  · exact Nat.or_lt_two_pow hx (Nat.pow_lt_pow_right (by decide) hv)
  · exact Nat.lt_of_le_of_lt (andn_le _ _) hx
theorem small6 : ∀ v : Fin 6, ∀ j : Fin 64, (j.1.testBit v.1 = true → setb j v true = j ∧ setb j v false = j - 2 ^ v.1 ∧ 2 ^ v.1 ≤ j.1 ∧ (j.1 + 2 ^ v.1).testBit v.1 = false ∧ (j.1 - 2 ^ v.1).testBit v.1 = false) ∧
    (j.1.testBit v.1 = false → setb j v true = j.1 + 2 ^ v.1 ∧ j.1 + 2 ^ v.1 < 64 ∧ setb j v false = j ∧ (j.1 + 2 ^ v.1).testBit v.1 = true ∧ (2 ^ v.1 ≤ j.1 → (j.1 - 2 ^ v.1).testBit v.1 = true)) := by decide +kernel
theorem setb_parts {x v : Nat} {b : Bool} : (6 ≤ v → setb x v b / 64 = setb (x / 64) (v - 6) b ∧ setb x v b % 64 = x % 64) ∧ (v < 6 → setb x v b / 64 = x / 64 ∧ setb x v b % 64 = setb (x % 64) v b) := by
  have h64 : ∀ y : Nat, y / 64 = y >>> 6 := fun y => by rw [Nat.shiftRight_eq_div_pow]
  have m64 : ∀ y : Nat, y % 64 = y % 2 ^ 6 := fun y => rfl
  refine ⟨fun h => ⟨?_, ?_⟩, fun h => ⟨?_, ?_⟩⟩ <;> apply Nat.eq_of_testBit_eq <;> intro k
  · rw [h64, h64, Nat.testBit_shiftRight, testBit_setb, testBit_setb, Nat.testBit_shiftRight]
    by_cases e : k = v - 6
    · rw [if_pos e, if_pos (by omega)]
    · rw [if_neg e, if_neg (by omega)]
  · rw [m64 (setb x v b), m64 x, Nat.testBit_mod_two_pow, Nat.testBit_mod_two_pow, testBit_setb]
    by_cases hk : k < 6
    · rw [if_neg (by omega)]
    · simp [hk]
  · rw [h64, h64, Nat.testBit_shiftRight, testBit_setb, Nat.testBit_shiftRight, if_neg (by omega)]
  · rw [m64 (setb x v b), m64 x, Nat.testBit_mod_two_pow, testBit_setb, testBit_setb, Nat.testBit_mod_two_pow]
    by_cases e : k = v
    · subst e; simp [h]
    · simp [e]
theorem bit_cof {n v x : Nat} {ws : List Nat} {b : Bool} (hf : Frm n ws) (hv : v < n) (hx : x < 2 ^ n) : bit (cof n ws v b) x = bit ws (setb x v b) := by
  have hi := lt_words hx
  unfold bit
  have hget : (cof n ws v b).getD (x / 64) 0 = halfW ws v b (x / 64) &&& fullN n := by
    simp [cof, hi]
  rw [hget, Nat.testBit_and, testBit_full]
  have hfb : decide (x % 64 < if 6 ≤ n then 64 else 2 ^ n) = true := by
    rw [decide_eq_true_eq]
    split
    · exact Nat.mod_lt _ (by decide)
    · have h1 : 2 ^ n ≤ 32 := Nat.pow_le_pow_right (n := 2) (by decide) (by omega : n ≤ 5)
      omega
  rw [hfb, Bool.and_true]
  unfold halfW
  by_cases h6 : 6 ≤ v
  · rw [if_pos h6, (setb_parts.1 h6).1, (setb_parts.1 h6).2]
  · rw [if_neg h6]
    obtain ⟨e1, e2⟩ := (setb_parts (x := x) (v := v) (b := b)).2 (by omega)
    rw [e1, e2]
    generalize hw : ws.getD (x / 64) 0 = w
    have hwl : w < 2 ^ 64 := by
      rw [← hw]
      rw [List.getD_eq_getElem?_getD, List.getElem?_eq_getElem (by rw [hf.len]; exact hi)]
      exact hf.lt (List.getElem_mem _)
    have hj : x % 64 < 64 := Nat.mod_lt _ (by decide)
    generalize x % 64 = j at hj
    obtain ⟨s1, s2⟩ := small6 ⟨v, by omega⟩ ⟨j, hj⟩
    simp only at s1 s2
    cases b
    · simp only [Bool.false_eq_true, if_false]
      rw [show (18446744073709551616 : Nat) = 2 ^ 64 by rfl, Nat.testBit_or, Nat.testBit_mod_two_pow, Nat.testBit_shiftLeft, testBit_andn, testBit_andn, testBit_mask, testBit_mask]
      cases hb : j.testBit v
      · obtain ⟨t1, t2, t3, t4, t5⟩ := s2 hb
        rw [t3]
        by_cases hle : 2 ^ v ≤ j
        · have := t5 hle
          have h64 : j - 2 ^ v < 64 := Nat.lt_of_le_of_lt (Nat.sub_le _ _) hj
          simp [hj, this, h64]
        · simp [hj, hle]
      · obtain ⟨t1, t2, t3, t4, t5⟩ := s1 hb
        rw [t2]
        simp [hj, t3, t5]
    · simp only [if_true]
      rw [Nat.testBit_or, Nat.testBit_and, Nat.testBit_shiftRight, Nat.testBit_and, testBit_mask, testBit_mask]
      cases hb : j.testBit v
      · obtain ⟨t1, t2, t3, t4, t5⟩ := s2 hb
        rw [t1, Nat.add_comm (2 ^ v) j]
        simp [hj, t2, t4]
      · obtain ⟨t1, t2, t3, t4, t5⟩ := s1 hb
        rw [t1, Nat.add_comm (2 ^ v) j]
        simp [hj, t4]
def dep (n : Nat) (ws : List Nat) (v : Nat) : Bool := decide (cof n ws v false ≠ cof n ws v true)
theorem setb_self (x v : Nat) : setb x v (x.testBit v) = x := by
  apply Nat.eq_of_testBit_eq; intro k
  rw [testBit_setb]
  by_cases e : k = v
  · rw [if_pos e, e]
  · rw [if_neg e]
theorem cof_of_not_dep {n v : Nat} {ws : List Nat} {b : Bool} (hf : Frm n ws) (hv : v < n) (h : dep n ws v = false) : cof n ws v b = ws := by
  have he : cof n ws v false = cof n ws v true := by simpa [dep] using h
  have hall : ∀ c d, cof n ws v c = cof n ws v d := by intro c d; cases c <;> cases d <;> first | rfl | exact he | exact he.symm
  refine (frm_cof hf.n16).ext hf fun x hx => ?_
  rw [hall b (x.testBit v), bit_cof hf hv hx, setb_self]
theorem dep_iff {n v : Nat} {ws : List Nat} (hf : Frm n ws) (hv : v < n) : dep n ws v = true ↔ ∃ x, x < 2 ^ n ∧ bit ws (setb x v false) ≠ bit ws (setb x v true) := by
  constructor
  · intro h
    refine Classical.byContradiction fun hno => ?_
    have : cof n ws v false = cof n ws v true := (frm_cof hf.n16).ext (frm_cof hf.n16) fun x hx => by
      rw [bit_cof hf hv hx, bit_cof hf hv hx]
      exact Classical.byContradiction fun hne => hno ⟨x, hx, hne⟩
    simp [dep, this] at h
  · rintro ⟨x, hx, hne⟩
    simp only [dep, ne_eq, decide_eq_true_eq]
    intro he
    apply hne
    rw [← bit_cof hf hv hx, ← bit_cof hf hv hx, he]
end Tab
/-
  Grown heaps; slices of whole numbers; tables.
-/
set_option linter.unusedSimpArgs false
set_option linter.unusedVariables false
namespace Go.Sx
open Go
/-- H is B with more memory -/
inductive Grow : Hp → Hp → Prop
  | refl (B : Hp) : Grow B B
  | cons {x : Nat × Obj} {B H : Hp} (h : Grow B H) : Grow B (x :: H)
  | app {N B H : Hp} (h : Grow B H) : Grow B (N ++ H)
theorem Grow.spec {B H : Hp} (h : Grow B H) : ∃ N, H = N ++ B := by
  induction h with
  | refl => exact ⟨[], rfl⟩
  | @cons x B H h ih => obtain ⟨N, rfl⟩ := ih; exact ⟨x :: N, rfl⟩
  | @app M B H h ih => obtain ⟨N, rfl⟩ := ih; exact ⟨M ++ N, by rw [List.append_assoc]⟩
theorem Grow.sub {B H : Hp} (h : Grow B H) : ∀ x ∈ B, x ∈ H := by
  obtain ⟨N, rfl⟩ := h.spec; exact fun x hx => List.mem_append_right _ hx
theorem Grow.ent {B H : Hp} (h : Grow B H) : Ent H B := by
  obtain ⟨N, rfl⟩ := h.spec; exact Ent.right
theorem Grow.trans {A B C : Hp} (h : Grow A B) (h' : Grow B C) : Grow A C := by
  obtain ⟨N, rfl⟩ := h'.spec; exact .app h
section
variable {P : Program} {g : Gh} {H : Hp}
/-- one that makes memory and changes none -/
def Px (P : Program) (f : FuncId) (args : Array Value) (B : Hp) (Q : Value → Hp → Prop) : Prop := Fc P f args B (fun v H => Grow B H ∧ Q v H)
theorem CallF.px {f : FuncId} {args : Array Value} {B H : Hp} {c : Hp → Hp} {Q : Value → Hp → Prop} {K : Value → Hp → Prop} {KP : List PanicEntry → Hp → Prop} (hh : Hole B H c) (hc : Px P f args B Q)
    (hk : ∀ v N, Q v (N ++ B) → K v (c (N ++ B))) : CallF P g f args H K KP :=
  CallF.fn hh hc fun v C' ⟨h1, h2⟩ => by obtain ⟨N, rfl⟩ := h1.spec; exact hk v N h2
theorem CallF.pre {f : FuncId} {args : Array Value} {H' : Hp} {K : Value → Hp → Prop} {KP : List PanicEntry → Hp → Prop} (he : Ent H H') (h : CallF P g f args H' K KP) : CallF P g f args H K KP := SCalls.pre h he
theorem Ent.swap {x y : Nat × Obj} {A : Hp} : Ent (x :: y :: A) (y :: x :: A) := .perm (.swap _ _ _)
theorem PxR.mk {Q : Value → Hp → Prop} {v : Value} {B H : Hp} (he : Grow B H) (h : Q v H) : FnR (fun v H => Grow B H ∧ Q v H) (.returned v) H := ⟨v, H, rfl, .refl _, he, h⟩
theorem RdR.mk {Q : Value → Prop} {v : Value} {B H : Hp} (he : Ent H B) (h : Q v) : FnR (fun v H => H = B ∧ Q v) (.returned v) H := ⟨v, B, rfl, he, rfl, h⟩

def icells (kd : IntKind) (l : List Int) : Array Value := (l.map fun n => Value.int kd n).toArray
theorem icells_set (kd : IntKind) (l : List Int) (i : Nat) (n : Int) : (icells kd l).setIfInBounds i (.int kd n) = icells kd (l.set i n) := by
  simp [icells, List.map_set]
@[simp] theorem icells_size (kd : IntKind) (l : List Int) : (icells kd l).size = l.length := by simp [icells]
theorem made_ints (kd : IntKind) (n : Nat) : madeCells (Value.cells (.int kd 0)) (n * 1) = icells kd (List.replicate n 0) := by
  apply Array.ext
  · simp [madeCells, icells]
  · intro i h1 h2
    simp [madeCells, icells, Value.cells, Nat.mod_one]
/-- the slice v reads as these numbers -/
def Ints (kd : IntKind) (B : Hp) (v : Value) (l : List Int) : Prop := Sl 1 B v (l.map fun n => [Value.int kd n])
theorem Ints.mono {kd : IntKind} {B B' : Hp} {v : Value} {l : List Int} (h : Ints kd B v l) (hs : ∀ x ∈ B, x ∈ B') : Ints kd B' v l := Sl.mono h hs
theorem Ints.nil {kd : IntKind} {B : Hp} : Ints kd B (.slice none 0 0) [] := Sl.nil _ _
theorem Ints.lenS {kd : IntKind} {B : Hp} {v : Value} {l : List Int} (h : Ints kd B v l) {K : Value → Prop} (hk : K (.int .i64 l.length)) : LenS v K := Sl.lenS h (by simpa using hk)
theorem Ints.block {kd : IntKind} {B : Hp} {b cap : Nat} {l : List Int} {T : TypeId} {fz : Nat × Nat} (hm : (b, Obj.cells (icells kd l) T fz) ∈ B) (hc : l.length ≤ cap) : Ints kd B (.slice (some ⟨b, 0, none⟩) l.length cap) l := by
  refine ⟨by simp, .inr ⟨b, 0, cap, _, T, fz, by simp, by simpa using hc, hm, by simp [icells], fun i r hi j v hj => ?_⟩⟩
  rw [List.getElem?_map] at hi
  cases hl : l[i]? with
  | none => rw [hl] at hi; simp at hi
  | some n =>
    rw [hl] at hi
    simp only [Option.map_some, Option.some.injEq] at hi
    subst hi
    cases j with
    | zero =>
      simp only [List.getElem?_cons_zero, Option.some.injEq] at hj
      subst hj
      simp [icells, hl]
    | succ j => simp at hj
/-- 's[i]' read -/
theorem Ints.at {kd kd' : IntKind} {B : Hp} {v : Value} {l : List Int} (h : Ints kd B v l) {i : Nat} {n : Int} (hi : l[i]? = some n) {K : Value → Prop} (hk : ∀ p, At B p [.int kd n] → K p) : IAddr 1 v (.int kd' (i : Int)) K :=
  IAddr.sl h (by rw [List.getElem?_map, hi]; rfl) hk
theorem Ints.ld {kd kd' : IntKind} {B : Hp} {v : Value} {l : List Int} (h : Ints kd B v l) {i : Nat} {n : Int} (hi : l[i]? = some n) (hs : ∀ x ∈ B, x ∈ H) {K : Value → Prop} (hk : K (.int kd n)) : IAddr 1 v (.int kd' (i : Int)) (fun p => Ld H p K) :=
  h.at hi fun p hp => Ld.at hp hs hk
theorem MkSlice.ints {T : TypeId} {kd kl : IntKind} {bytes n : Nat} {K : Value → Hp → Prop} (hmax : n ≤ 9223372036854775807) (hb : n * bytes ≤ 281474976710656)
    (h : ∀ b, K (.slice (some ⟨b, 0, none⟩) n n) ((b, .cells (icells kd (List.replicate n 0)) T (0, 0)) :: H)) : MkSlice T 1 bytes (.int kd 0) H (.int kl n) (.int kl n) K :=
  ⟨kl, kl, n, n, rfl, rfl, Nat.le_refl _, by omega, hb, fun b _ => by rw [made_ints]; exact h b⟩
theorem MkSliceC.ints {T : TypeId} {kd kl : IntKind} {bytes n : Nat} {K : Mk → Prop} (hmax : n ≤ 9223372036854775807) (hb : n * bytes ≤ 281474976710656)
    (h : K (.cells (icells kd (List.replicate n 0)) T (0, 0), fun b => .slice (some ⟨b, 0, none⟩) n n)) : MkSliceC T 1 bytes (.int kd 0) (.int kl n) (.int kl n) K :=
  ⟨kl, kl, n, n, rfl, rfl, Nat.le_refl _, by omega, hb, by rw [made_ints]; exact h⟩
theorem St.ints {b i : Nat} {kd : IntKind} {l : List Int} {x : Int} {T : TypeId} {H' : Hp} {K : Hp → Prop} (hu : Upd b (.cells (icells kd l) T (0, 0)) (.cells (icells kd (l.set i x)) T (0, 0)) H H') (hi : i < l.length) (h : K H') :
    St 1 H (.pointer (some ⟨b, 0 + i * 1, none⟩)) (.int kd x) K :=
  St.one (c := icells kd l) (c' := icells kd (l.set i x)) hu rfl (by simpa using hi) (by rw [Nat.zero_add, Nat.mul_one]; exact icells_set kd l i x) h
end

/-- the number that stands at a place of the slots that a loop carries -/
def nAt : List Value → Nat → Nat
  | .int _ q :: _, 0 => q.toNat
  | _ :: r, i + 1 => nAt r i
  | _, _ => 0
structure Tb where
  n : Int
  ws : List Nat
  deriving DecidableEq
def iw (ws : List Nat) : List Int := ws.map (Nat.cast : Nat → Int)
@[simp] theorem iw_length (ws : List Nat) : (iw ws).length = ws.length := by simp [iw]
theorem iw_get {ws : List Nat} {i w : Nat} (h : ws[i]? = some w) : (iw ws)[i]? = some (w : Int) := by simp [iw, h]
def Words (B : Hp) (s : Value) (ws : List Nat) : Prop := Ints .u64 B s (iw ws) ∧ ∀ w ∈ ws, w < 18446744073709551616
theorem Words.mono {B B' : Hp} {v : Value} {ws : List Nat} (h : Words B v ws) (hs : ∀ x ∈ B, x ∈ B') : Words B' v ws := ⟨h.1.mono hs, h.2⟩
theorem Words.block {B : Hp} {b cap : Nat} {ws : List Nat} {T : TypeId} {fz : Nat × Nat} (hm : (b, Obj.cells (icells .u64 (iw ws)) T fz) ∈ B) (hc : ws.length ≤ cap) (hw : ∀ w ∈ ws, w < 18446744073709551616) : Words B (.slice (some ⟨b, 0, none⟩) ws.length cap) ws := by
  have := Ints.block (cap := cap) hm (by simpa using hc)
  rw [iw_length] at this
  exact ⟨this, hw⟩
/-- the value v is the table t -/
def Tbl (B : Hp) (v : Value) (t : Tb) : Prop := ∃ s, v = .agg #[.int .i64 t.n, s] ∧ Words B s t.ws
theorem Tbl.mono {B B' : Hp} {v : Value} {t : Tb} (h : Tbl B v t) (hs : ∀ x ∈ B, x ∈ B') : Tbl B' v t := let ⟨s, h1, h2⟩ := h; ⟨s, h1, h2.mono hs⟩
def TRow (B : Hp) (r : List Value) (t : Tb) : Prop := ∃ s, r = [.int .i64 t.n, s] ∧ Words B s t.ws
theorem TRow.tbl {B : Hp} {r : List Value} {t : Tb} (h : TRow B r t) : Tbl B (.agg r.toArray) t := by obtain ⟨s, rfl, h⟩ := h; exact ⟨s, rfl, h⟩
theorem TRow.mono {B B' : Hp} {r : List Value} {t : Tb} (h : TRow B r t) (hs : ∀ x ∈ B, x ∈ B') : TRow B' r t := let ⟨s, h1, h2⟩ := h; ⟨s, h1, h2.mono hs⟩
theorem TRow.len {B : Hp} {r : List Value} {t : Tb} (h : TRow B r t) : r.length = 2 := by obtain ⟨s, rfl, h⟩ := h; rfl
/-- rows, one a thing -/
def Each {α : Type} (p : List Value → α → Prop) (rs : List (List Value)) (l : List α) : Prop := rs.length = l.length ∧ ∀ (i : Nat) (r : List Value) (x : α), rs[i]? = some r → l[i]? = some x → p r x
theorem Each.nil {α : Type} {p : List Value → α → Prop} : Each p [] [] := ⟨rfl, by simp⟩
theorem Each.get {α : Type} {p : List Value → α → Prop} {rs : List (List Value)} {l : List α} (h : Each p rs l) {i : Nat} {x : α} (hx : l[i]? = some x) : ∃ r, rs[i]? = some r ∧ p r x := by
  have hlt := (List.getElem?_eq_some_iff.1 hx).1
  have : i < rs.length := by rw [h.1]; exact hlt
  exact ⟨rs[i], List.getElem?_eq_getElem this, h.2 i _ _ (List.getElem?_eq_getElem this) hx⟩
theorem Each.mono {α : Type} {p q : List Value → α → Prop} {rs : List (List Value)} {l : List α} (h : Each p rs l) (hpq : ∀ r x, p r x → q r x) : Each q rs l := ⟨h.1, fun i r x h1 h2 => hpq _ _ (h.2 i r x h1 h2)⟩
theorem Each.snoc {α : Type} {p : List Value → α → Prop} {rs : List (List Value)} {l : List α} (h : Each p rs l) {r : List Value} {x : α} (hx : p r x) : Each p (rs ++ [r]) (l ++ [x]) := by
  refine ⟨by simp [h.1], fun i r' x' h1 h2 => ?_⟩
  by_cases e : i < l.length
  · rw [List.getElem?_append_left e] at h2
    rw [List.getElem?_append_left (by rw [h.1]; exact e)] at h1
    exact h.2 i _ _ h1 h2
  · rw [List.getElem?_append_right (by omega)] at h2
    rw [List.getElem?_append_right (by rw [h.1]; omega), h.1] at h1
    cases hi : i - l.length with
    | zero => rw [hi] at h1 h2; simp at h1 h2; subst h1; subst h2; exact hx
    | succ k => rw [hi] at h2; simp at h2
/-- the slice v is of these tables -/
def Tbls (B : Hp) (v : Value) (ts : List Tb) : Prop := ∃ rs, Sl 2 B v rs ∧ Each (TRow B) rs ts
theorem Tbls.mono {B B' : Hp} {v : Value} {ts : List Tb} (h : Tbls B v ts) (hs : ∀ x ∈ B, x ∈ B') : Tbls B' v ts := let ⟨rs, h1, h2⟩ := h; ⟨rs, h1.mono hs, h2.mono fun _ _ h => h.mono hs⟩
theorem Tbls.lenS {B : Hp} {v : Value} {ts : List Tb} (h : Tbls B v ts) {K : Value → Prop} (hk : K (.int .i64 ts.length)) : LenS v K := by
  obtain ⟨rs, h1, h2⟩ := h; refine h1.lenS ?_; have := h2.1; rw [this]; exact hk
/-- 'ts[i]' read whole -/
theorem Tbls.ld {B H : Hp} {v : Value} {ts : List Tb} {kd : IntKind} (h : Tbls B v ts) {i : Nat} {t : Tb} (hi : ts[i]? = some t) (hs : ∀ x ∈ B, x ∈ H) {K : Value → Prop} (hk : ∀ s, Words B s t.ws → K (.agg #[.int .i64 t.n, s])) : IAddr 2 v (.int kd (i : Int)) (fun p => LdA 2 H p K) := by
  obtain ⟨rs, h1, h2⟩ := h
  obtain ⟨r, hr, s, rfl, hw⟩ := h2.get hi
  exact IAddr.sl h1 hr fun p hp => LdA.at hp rfl (by decide) hs (hk s hw)
/-- its N -/
theorem Tbls.ldN {B H : Hp} {v : Value} {ts : List Tb} {kd : IntKind} (h : Tbls B v ts) {i : Nat} {t : Tb} (hi : ts[i]? = some t) (hs : ∀ x ∈ B, x ∈ H) {K : Value → Prop} (hk : K (.int .i64 t.n)) : IAddr 2 v (.int kd (i : Int)) (fun p => FAddr 0 p (fun q => Ld H q K)) := by
  obtain ⟨rs, h1, h2⟩ := h
  obtain ⟨r, hr, s, rfl, hw⟩ := h2.get hi
  exact IAddr.sl h1 hr fun p hp => FAddr.at hp fun q hq => Ld.at hq hs hk
/-- a slice of one table, laid out -/
theorem Tbls.one {B : Hp} {b cap : Nat} {t : Tb} {s : Value} {T : TypeId} {fz : Nat × Nat} (hm : (b, Obj.cells #[.int .i64 t.n, s] T fz) ∈ B) (hw : Words B s t.ws) : Tbls B (.slice (some ⟨b, 0, none⟩) 1 (cap + 1)) [t] := by
  refine ⟨[[.int .i64 t.n, s]], ⟨by simp, .inr ⟨b, 0, cap + 1, _, T, fz, rfl, by simp, hm, by simp, fun i r hi j v hj => ?_⟩⟩, rfl, fun i r x h1 h2 => ?_⟩
  · cases i with
    | zero => simp at hi; subst hi; simpa using hj
    | succ i => simp at hi
  · cases i with
    | zero => simp at h1 h2; subst h1; subst h2; exact ⟨s, rfl, hw⟩
    | succ i => simp at h1
def TF (t : Tb) : Prop := 0 ≤ t.n ∧ Tab.Frm t.n.toNat t.ws
instance (t : Tb) : Decidable (TF t) := by unfold TF; infer_instance
end Go.Sx
/-
  Maps: their entries as a list of pairs; looking up, storing, ranging.
-/
set_option linter.unusedSimpArgs false
set_option linter.unusedVariables false
set_option linter.unusedSectionVars false
namespace Go.Sx
open Go
section
variable {κ β : Type} [DecidableEq κ]
/-- the entries es (clock ck) are these pairs -/
structure Ents (ke : κ → Value) (vr : Value → β → Prop) (es : Array MapEntry) (ck : Nat) (m : List (κ × β)) : Prop where
  len : es.size = m.length
  key : ∀ (i : Nat) (e : MapEntry) (x : κ × β), es[i]? = some e → m[i]? = some x → e.key = ke x.1 ∧ vr e.val x.2
  nd : (m.map Prod.fst).Nodup
  born : (es.toList.map MapEntry.born).Nodup
  lt : ∀ e ∈ es.toList, e.born < ck
variable {ke : κ → Value} {vr : Value → β → Prop} {es : Array MapEntry} {ck : Nat} {m : List (κ × β)}
theorem Ents.empty : Ents ke vr #[] 0 [] := ⟨rfl, by simp, by simp, by simp, by simp⟩
theorem Ents.mono {vr' : Value → β → Prop} (h : Ents ke vr es ck m) (hv : ∀ v x, vr v x → vr' v x) : Ents ke vr' es ck m := ⟨h.len, fun i e x h1 h2 => ⟨(h.key i e x h1 h2).1, hv _ _ (h.key i e x h1 h2).2⟩, h.nd, h.born, h.lt⟩
/-- k's value set to x -/
def mset (m : List (κ × β)) (k : κ) (x : β) : List (κ × β) := if k ∈ m.map Prod.fst then m.map (fun y => if y.1 = k then (k, x) else y) else m ++ [(k, x)]
def mget (m : List (κ × β)) (k : κ) : Option β := (m.find? (fun y => y.1 = k)).map Prod.snd
theorem mget_mem {m : List (κ × β)} {k : κ} {x : β} (nd : (m.map Prod.fst).Nodup) : mget m k = some x ↔ (k, x) ∈ m := by
  induction m with
  | nil => simp [mget]
  | cons y r ih =>
    rw [List.map_cons, List.nodup_cons] at nd
    obtain ⟨a, b⟩ := y
    simp only [mget, List.find?_cons] at ih ⊢
    by_cases e : a = k
    · subst e
      simp only [decide_true, Option.map_some, Option.some.injEq, List.mem_cons, Prod.mk.injEq, true_and]
      constructor
      · intro h; exact .inl h.symm
      · rintro (h | h)
        · exact h.symm
        · exact absurd (List.mem_map.2 ⟨_, h, rfl⟩) nd.1
    · simp only [e, decide_false, List.mem_cons, Prod.mk.injEq, Ne.symm e, false_and, false_or]
      exact ih nd.2
theorem mget_none {m : List (κ × β)} {k : κ} : mget m k = none ↔ k ∉ m.map Prod.fst := by
  simp only [mget, Option.map_eq_none_iff, List.find?_eq_none, decide_eq_true_eq, List.mem_map, not_exists, not_and]

/-- looking for a key, by a law of equality -/
theorem Ents.findNow {kd : TypeDesc} (hk : ∀ a b, Instr.sameNow kd (ke a) (ke b) = some (decide (a = b))) (h : Ents ke vr es ck m) (k : κ) :
    (∃ (i : Nat) (x : β) (e : MapEntry), es[i]? = some e ∧ m[i]? = some (k, x) ∧ vr e.val x ∧ Instr.findNow kd (ke k) es.toList 0 = some (some (i, e.val))) ∨ (k ∉ m.map Prod.fst ∧ Instr.findNow kd (ke k) es.toList 0 = some none) := by
  have key : ∀ (l : List MapEntry) (q : List (κ × β)) (j : Nat), l.length = q.length → (∀ (i : Nat) (e : MapEntry) (x : κ × β), l[i]? = some e → q[i]? = some x → e.key = ke x.1 ∧ vr e.val x.2) →
      (∃ (i : Nat) (x : β) (e : MapEntry), l[i]? = some e ∧ q[i]? = some (k, x) ∧ vr e.val x ∧ Instr.findNow kd (ke k) l j = some (some (j + i, e.val))) ∨ (k ∉ q.map Prod.fst ∧ Instr.findNow kd (ke k) l j = some none) := by
    intro l
    induction l with
    | nil => intro q j hl _; cases q with | nil => exact .inr ⟨by simp, rfl⟩ | cons a b => simp at hl
    | cons e r ih =>
      intro q j hl hkey
      cases q with
      | nil => simp at hl
      | cons y q =>
        obtain ⟨h1, h2⟩ := hkey 0 e y rfl rfl
        simp only [Instr.findNow, h1, hk]
        by_cases e0 : k = y.1
        · subst e0
          exact .inl ⟨0, y.2, e, rfl, rfl, h2, by simp⟩
        · rw [decide_eq_false e0]
          rcases ih q (j + 1) (by simpa using hl) (fun i e x h1 h2 => hkey (i + 1) e x (by simpa using h1) (by simpa using h2)) with ⟨i, x, e', g1, g2, g3, g4⟩ | ⟨g1, g2⟩
          · exact .inl ⟨i + 1, x, e', by simpa using g1, by simpa using g2, g3, by simp only [g4]; rw [show j + 1 + i = j + (i + 1) by omega]⟩
          · exact .inr ⟨by rw [List.map_cons, List.mem_cons]; rintro (h | h); exact e0 h; exact g1 h, by simpa using g2⟩
  have := key es.toList m 0 (by simpa using h.len) (fun i e x h1 h2 => h.key i e x (by simpa using h1) h2)
  rcases this with ⟨i, x, e, g1, g2, g3, g4⟩ | h2
  · exact .inl ⟨i, x, e, by simpa using g1, g2, g3, by simpa using g4⟩
  · exact .inr h2
theorem Ents.findS {P : Program} {kt : TypeId} (hk : ∀ a b, EqV P kt (ke a) (ke b) (decide (a = b))) (h : Ents ke vr es ck m) (k : κ) :
    (∃ (i : Nat) (x : β) (e : MapEntry), es[i]? = some e ∧ m[i]? = some (k, x) ∧ vr e.val x ∧ FindS P kt (ke k) es.toList 0 (some (i, e.val))) ∨ (k ∉ m.map Prod.fst ∧ FindS P kt (ke k) es.toList 0 none) := by
  have key : ∀ (l : List MapEntry) (q : List (κ × β)) (j : Nat), l.length = q.length → (∀ (i : Nat) (e : MapEntry) (x : κ × β), l[i]? = some e → q[i]? = some x → e.key = ke x.1 ∧ vr e.val x.2) →
      (∃ (i : Nat) (x : β) (e : MapEntry), l[i]? = some e ∧ q[i]? = some (k, x) ∧ vr e.val x ∧ FindS P kt (ke k) l j (some (j + i, e.val))) ∨ (k ∉ q.map Prod.fst ∧ FindS P kt (ke k) l j none) := by
    intro l
    induction l with
    | nil => intro q j hl _; cases q with | nil => exact .inr ⟨by simp, rfl⟩ | cons a b => simp at hl
    | cons e r ih =>
      intro q j hl hkey
      cases q with
      | nil => simp at hl
      | cons y q =>
        obtain ⟨h1, h2⟩ := hkey 0 e y rfl rfl
        have hb := hk k y.1
        rw [← h1] at hb
        by_cases e0 : k = y.1
        · refine .inl ⟨0, y.2, e, rfl, by rw [e0]; rfl, h2, ?_⟩
          exact ⟨_, hb, fun _ => by simp, fun h => by simp [e0] at h⟩
        · rcases ih q (j + 1) (by simpa using hl) (fun i e x h1 h2 => hkey (i + 1) e x (by simpa using h1) (by simpa using h2)) with ⟨i, x, e', g1, g2, g3, g4⟩ | ⟨g1, g2⟩
          · refine .inl ⟨i + 1, x, e', by simpa using g1, by simpa using g2, g3, _, hb, fun h => by simp [e0] at h, fun _ => ?_⟩
            rw [show j + (i + 1) = j + 1 + i by omega]; exact g4
          · exact .inr ⟨by rw [List.map_cons, List.mem_cons]; rintro (h | h); exact e0 h; exact g1 h, _, hb, fun h => by simp [e0] at h, fun _ => g2⟩
  have := key es.toList m 0 (by simpa using h.len) (fun i e x h1 h2 => h.key i e x (by simpa using h1) h2)
  rcases this with ⟨i, x, e, g1, g2, g3, g4⟩ | h2
  · exact .inl ⟨i, x, e, by simpa using g1, g2, g3, by simpa using g4⟩
  · exact .inr h2
theorem Ents.put (h : Ents ke vr es ck m) {i : Nat} {k : κ} {y x : β} {val : Value} (hi : m[i]? = some (k, y)) (hv : vr val x) : Ents ke vr (es.modify i fun e => { e with key := ke k, val }) ck (mset m k x) := by
  have hmem : k ∈ m.map Prod.fst := List.mem_map.2 ⟨_, List.mem_of_getElem? hi, rfl⟩
  have hlt := (List.getElem?_eq_some_iff.1 hi).1
  have huniq : ∀ j z, m[j]? = some z → z.1 = k → j = i := fun j z hj hz => by
    have hj' := (List.getElem?_eq_some_iff.1 hj).1
    have e1 : (m.map Prod.fst)[j]? = some k := by rw [List.getElem?_map, hj]; simp [hz]
    have e2 : (m.map Prod.fst)[i]? = some k := by rw [List.getElem?_map, hi]; rfl
    exact (List.getElem?_inj (by simpa using hj') h.nd).1 (e1.trans e2.symm)
  have hb : ((es.modify i fun e => { e with key := ke k, val }).toList.map MapEntry.born) = es.toList.map MapEntry.born := by
    apply List.ext_getElem?; intro j
    simp only [List.getElem?_map, Array.getElem?_toList, Array.getElem?_modify]
    split
    · cases es[j]? <;> rfl
    · rfl
  refine ⟨by simp [mset, hmem, h.len], fun j e z he hz => ?_, ?_, by rw [hb]; exact h.born, fun e he => ?_⟩
  · simp only [mset, hmem, if_true, List.getElem?_map] at hz
    rw [Array.getElem?_modify] at he
    cases hm : m[j]? with
    | none => rw [hm] at hz; simp at hz
    | some z0 =>
      rw [hm] at hz
      simp only [Option.map_some, Option.some.injEq] at hz
      cases hes : es[j]? with
      | none => rw [hes] at he; split at he <;> simp at he
      | some e0 =>
        rw [hes] at he
        by_cases ek : z0.1 = k
        · have := huniq j z0 hm ek
          subst this
          rw [if_pos ek] at hz; subst hz
          simp only [if_true, Option.map_some, Option.some.injEq] at he
          subst he; exact ⟨rfl, hv⟩
        · rw [if_neg ek] at hz; subst hz
          rw [if_neg (fun e => by subst e; rw [hi] at hm; cases hm; exact ek rfl)] at he
          simp only [Option.some.injEq] at he
          subst he; exact h.key j _ _ hes hm
  · have : (mset m k x).map Prod.fst = m.map Prod.fst := by
      simp only [mset, hmem, if_true, List.map_map]
      apply List.map_congr_left
      intro z _
      simp only [Function.comp]
      split
      · rename_i hz; exact hz.symm
      · rfl
    rw [this]; exact h.nd
  · have : e.born ∈ (es.modify i fun e => { e with key := ke k, val }).toList.map MapEntry.born := List.mem_map_of_mem he
    rw [hb] at this
    obtain ⟨e0, h1, h2⟩ := List.mem_map.1 this
    rw [← h2]; exact h.lt e0 h1
theorem Ents.more (h : Ents ke vr es ck m) {k : κ} {x : β} {val : Value} (hk : k ∉ m.map Prod.fst) (hv : vr val x) : Ents ke vr (es.push { key := ke k, val, born := ck }) (ck + 1) (mset m k x) := by
  have hs : mset m k x = m ++ [(k, x)] := by unfold mset; rw [if_neg hk]
  rw [hs]
  refine ⟨by simp [h.len], fun j e z he hz => ?_, ?_, ?_, fun e he => ?_⟩
  · by_cases hj : j < m.length
    · rw [List.getElem?_append_left hj] at hz
      rw [Array.getElem?_push, if_neg (by rw [h.len]; omega)] at he
      exact h.key j _ _ he hz
    · have hj2 := (List.getElem?_eq_some_iff.1 hz).1
      simp only [List.length_append, List.length_cons, List.length_nil] at hj2
      have : j = m.length := by omega
      subst this
      rw [List.getElem?_append_right (Nat.le_refl _)] at hz
      simp at hz; subst hz
      rw [Array.getElem?_push, if_pos h.len.symm] at he
      simp at he; subst he
      exact ⟨rfl, hv⟩
  · rw [List.map_append, List.nodup_append]
    refine ⟨h.nd, by simp, fun a ha b hb => ?_⟩
    simp at hb; subst hb; rintro rfl; exact hk ha
  · rw [Array.toList_push, List.map_append, List.nodup_append]
    refine ⟨h.born, by simp, fun a ha b hb => ?_⟩
    simp at hb; subst hb
    obtain ⟨e, he, rfl⟩ := List.mem_map.1 ha
    have := h.lt e he; omega
  · rw [Array.toList_push, List.mem_append] at he
    rcases he with he | he
    · have := h.lt e he; omega
    · simp at he; subst he; simp

variable {H : Hp} {b : Nat}
theorem Ents.hit {kd : TypeDesc} {zero : Value} {ok : Bool} {k : κ} {x : β} {K : Value → Prop} (hk : ∀ a b, Instr.sameNow kd (ke a) (ke b) = some (decide (a = b))) (h : Ents ke vr es ck m) (hm : (b, Obj.map es ck) ∈ H) (hx : mget m k = some x)
    (h1 : ∀ v, vr v x → K (cond ok (.tuple #[v, .bool true]) v)) : Look kd zero ok H (.map (some b)) (ke k) K := by
  rcases h.findNow hk k with ⟨i, y, e, g1, g2, g3, g4⟩ | ⟨g1, g2⟩
  · have : mget m k = some y := (mget_mem h.nd).2 (List.mem_of_getElem? g2)
    rw [hx] at this; cases this
    exact ⟨es, _, .inr ⟨b, ck, rfl, hm⟩, g4, h1 _ g3⟩
  · rw [mget_none.2 g1] at hx; cases hx
theorem Ents.miss {kd : TypeDesc} {zero : Value} {ok : Bool} {k : κ} {K : Value → Prop} (hk : ∀ a b, Instr.sameNow kd (ke a) (ke b) = some (decide (a = b))) (h : Ents ke vr es ck m) (hm : (b, Obj.map es ck) ∈ H) (hx : mget m k = none)
    (h1 : K (cond ok (.tuple #[zero, .bool false]) zero)) : Look kd zero ok H (.map (some b)) (ke k) K := by
  rcases h.findNow hk k with ⟨i, y, e, g1, g2, g3, g4⟩ | ⟨g1, g2⟩
  · exact absurd (List.mem_map.2 ⟨_, List.mem_of_getElem? g2, rfl⟩) (mget_none.1 hx)
  · exact ⟨es, _, .inr ⟨b, ck, rfl, hm⟩, g2, h1⟩
theorem Ents.upd {kd : TypeDesc} {k : κ} {x : β} {val : Value} {K : Hp → Prop} (hk : ∀ a b, Instr.sameNow kd (ke a) (ke b) = some (decide (a = b))) (hb : ∀ a, Instr.sameBits 10000 (ke a) (ke a) = true) (h : Ents ke vr es ck m) (hv : vr val x)
    (h1 : ∀ es' ck', Ents ke vr es' ck' (mset m k x) → ∃ H', Upd b (.map es ck) (.map es' ck') H H' ∧ K H') : MapUpd kd H (.map (some b)) (ke k) val K := by
  rcases h.findNow hk k with ⟨i, y, e, g1, g2, g3, g4⟩ | ⟨g1, g2⟩
  · refine ⟨b, es, ck, _, rfl, g4, fun e' he' => ?_, by rw [h.len]; exact (List.getElem?_eq_some_iff.1 g2).1, h1 _ _ (h.put g2 hv)⟩
    rw [(h.key i e' _ he' g2).1]; exact hb k
  · exact ⟨b, es, ck, _, rfl, g2, h1 _ _ (h.more g1 hv)⟩
theorem Ents.hitS {P : Program} {kt : TypeId} {zero : Value} {ok : Bool} {k : κ} {x : β} {K : Value → Prop} (hk : ∀ a b, EqV P kt (ke a) (ke b) (decide (a = b))) (hc : ∀ a, ChkV P kt (ke a)) (h : Ents ke vr es ck m) (hm : (b, Obj.map es ck) ∈ H) (hx : mget m k = some x)
    (h1 : ∀ v, vr v x → K (cond ok (.tuple #[v, .bool true]) v)) : LookS P kt zero ok H (.map (some b)) (ke k) K := by
  rcases h.findS hk k with ⟨i, y, e, g1, g2, g3, g4⟩ | ⟨g1, g2⟩
  · have : mget m k = some y := (mget_mem h.nd).2 (List.mem_of_getElem? g2)
    rw [hx] at this; cases this
    exact ⟨es, _, .inr ⟨b, ck, rfl, hm⟩, hc k, g4, h1 _ g3⟩
  · rw [mget_none.2 g1] at hx; cases hx
theorem Ents.missS {P : Program} {kt : TypeId} {zero : Value} {ok : Bool} {k : κ} {K : Value → Prop} (hk : ∀ a b, EqV P kt (ke a) (ke b) (decide (a = b))) (hc : ∀ a, ChkV P kt (ke a)) (h : Ents ke vr es ck m) (hm : (b, Obj.map es ck) ∈ H) (hx : mget m k = none)
    (h1 : K (cond ok (.tuple #[zero, .bool false]) zero)) : LookS P kt zero ok H (.map (some b)) (ke k) K := by
  rcases h.findS hk k with ⟨i, y, e, g1, g2, g3, g4⟩ | ⟨g1, g2⟩
  · exact absurd (List.mem_map.2 ⟨_, List.mem_of_getElem? g2, rfl⟩) (mget_none.1 hx)
  · exact ⟨es, _, .inr ⟨b, ck, rfl, hm⟩, hc k, g2, h1⟩
theorem Ents.updS {P : Program} {kt : TypeId} {k : κ} {x : β} {val : Value} {K : Hp → Prop} (hk : ∀ a b, EqV P kt (ke a) (ke b) (decide (a = b))) (hc : ∀ a, ChkV P kt (ke a)) (hb : ∀ a, Instr.sameBits 10000 (ke a) (ke a) = true) (h : Ents ke vr es ck m) (hv : vr val x)
    (h1 : ∀ es' ck', Ents ke vr es' ck' (mset m k x) → ∃ H', Upd b (.map es ck) (.map es' ck') H H' ∧ K H') : MapUpdS P kt H (.map (some b)) (ke k) val K := by
  rcases h.findS hk k with ⟨i, y, e, g1, g2, g3, g4⟩ | ⟨g1, g2⟩
  · refine ⟨b, es, ck, _, rfl, hc k, g4, fun e' he' => ?_, by rw [h.len]; exact (List.getElem?_eq_some_iff.1 g2).1, h1 _ _ (h.put g2 hv)⟩
    rw [(h.key i e' _ he' g2).1]; exact hb k
  · exact ⟨b, es, ck, _, rfl, hc k, g2, h1 _ _ (h.more g1 hv)⟩
theorem Ents.len_ok (h : Ents ke vr es ck m) (hm : (b, Obj.map es ck) ∈ H) {K : Value → Prop} (hk : K (.int .i64 m.length)) : LenM H (.map (some b)) K := ⟨_, rfl, .inr ⟨b, es, ck, rfl, hm, by rw [h.len]; exact hk⟩⟩

/-! ranging -/
def unseen (es : Array MapEntry) (m : List (κ × β)) (seen : Array Nat) : List (κ × β) := ((es.toList.zip m).filter fun p => !seen.contains p.1.born).map Prod.snd
omit [DecidableEq κ] in
theorem unseen_all (h : Ents ke vr es ck m) : unseen es m #[] = m := by
  unfold unseen
  rw [List.filter_eq_self.2 (by simp), ← List.unzip_snd, List.unzip_zip]
  simpa using h.len
omit [DecidableEq κ] in
theorem unseen_step (h : Ents ke vr es ck m) {seen : Array Nat} {i : Nat} {e : MapEntry} {x : κ × β} (he : es[i]? = some e) (hx : m[i]? = some x) (hs : e.born ∉ seen) : (unseen es m seen).Perm (x :: unseen es m (seen.push e.born)) := by
  unfold unseen
  have hz : (es.toList.zip m)[i]? = some (e, x) := by rw [List.getElem?_zip_eq_some]; exact ⟨by simpa using he, hx⟩
  obtain ⟨A, C, hAC, hlen⟩ : ∃ A C, es.toList.zip m = A ++ (e, x) :: C ∧ A.length = i := by
    obtain ⟨hlt, hg⟩ := List.getElem?_eq_some_iff.1 hz
    exact ⟨(es.toList.zip m).take i, (es.toList.zip m).drop (i + 1), by rw [← hg, List.getElem_cons_drop, List.take_append_drop], by simp only [List.length_take]; omega⟩
  have hfst : (es.toList.zip m).map (fun p => p.1.born) = es.toList.map MapEntry.born := by
    have : (es.toList.zip m).map Prod.fst = es.toList := by rw [← List.unzip_fst, List.unzip_zip]; simpa using h.len
    rw [show (fun p : MapEntry × (κ × β) => p.1.born) = MapEntry.born ∘ Prod.fst from rfl, ← List.map_map, this]
  have hnd := h.born
  rw [← hfst, hAC, List.map_append, List.map_cons] at hnd
  have hnd' := List.perm_middle.nodup_iff.1 hnd
  rw [List.nodup_cons, ← List.map_append] at hnd'
  have hne : ∀ p ∈ A ++ C, p.1.born ≠ e.born := fun p hp e0 => hnd'.1 (List.mem_map.2 ⟨p, hp, e0⟩)
  have hcong : ∀ L : List (MapEntry × (κ × β)), (∀ p ∈ L, p.1.born ≠ e.born) → (L.filter fun p => !(seen.push e.born).contains p.1.born) = L.filter fun p => !seen.contains p.1.born := fun L hL => by
    apply List.filter_congr
    intro p hp
    have := hL p hp
    simp [Array.mem_push, this]
  rw [hAC, List.filter_append, List.filter_append, List.filter_cons, List.filter_cons]
  rw [if_pos (by simpa using hs), if_neg (by simp), hcong A fun p hp => hne p (List.mem_append_left _ hp), hcong C fun p hp => hne p (List.mem_append_right _ hp)]
  rw [List.map_append, List.map_append, List.map_cons]
  exact List.perm_middle
omit [DecidableEq κ] in
theorem Ents.next {bi bm : Nat} {seen : Array Nat} {K : Value → Hp → Prop} (h : Ents ke vr es ck m) (hm : (bm, Obj.map es ck) ∈ H) (hi : (bi, Obj.mapIter (some bm) ck seen ck) ∈ H)
    (h1 : ∀ e x seen', e ∈ es.toList → e.key = ke x.1 → vr e.val x.2 → (unseen es m seen).Perm (x :: unseen es m seen') → seen'.back? = some e.born → es.find? (·.born == e.born) = some e →
      ∃ H', Upd bi (.mapIter (some bm) ck seen ck) (.mapIter (some bm) ck seen' ck) H H' ∧ K (.tuple #[.bool true, e.key, e.val]) H')
    (h2 : unseen es m seen = [] → K (.tuple #[.bool false]) H) : Nxt H (.pointer (some ⟨bi, 0, none⟩)) K := by
  refine ⟨bi, some bm, ck, seen, ck, rfl, hi, es, ck, hm, fun e he => ⟨h.lt e he, h.lt e he⟩, fun e he hs => ?_, fun hall => h2 ?_⟩
  · obtain ⟨i, hi', rfl⟩ := List.mem_iff_getElem.1 he
    have hi2 : i < m.length := by rw [← h.len]; simpa using hi'
    have g1 : es[i]? = some es.toList[i] := by rw [← Array.getElem?_toList]; exact List.getElem?_eq_getElem hi'
    have g2 : m[i]? = some m[i] := List.getElem?_eq_getElem hi2
    obtain ⟨k1, k2⟩ := h.key i _ _ g1 g2
    refine h1 _ m[i] _ he k1 k2 (unseen_step h g1 g2 hs) (by simp) ?_
    rw [← Array.find?_toList]
    have hnd := h.born
    rw [List.find?_eq_some_iff_append]
    refine ⟨by simp, es.toList.take i, es.toList.drop (i + 1), by rw [List.getElem_cons_drop, List.take_append_drop], fun a ha => ?_⟩
    simp only [Bool.not_eq_true', beq_eq_false_iff_ne, ne_eq]
    intro e0
    obtain ⟨j, hj, rfl⟩ := List.mem_iff_getElem.1 ha
    simp only [List.length_take] at hj
    rw [List.getElem_take] at e0
    have := (List.getElem_inj (by simpa using h.born) (xs := es.toList.map MapEntry.born) (i := j) (j := i) (h₀ := by rw [List.length_map]; omega) (h₁ := by rw [List.length_map]; exact hi')).1 (by simpa using e0)
    omega
  · unfold unseen
    rw [List.filter_eq_nil_iff.2, List.map_nil]
    intro p hp
    have := hall p.1 (List.of_mem_zip hp).1
    simpa using this
end
end Go.Sx
/-
  Sets of tables: each function once; what comes of them by giving values to variables; how many depend on a variable.
-/
set_option linter.unusedSimpArgs false
set_option linter.unusedVariables false
namespace Tab
/-- a table's bytes -/
def bytesW (w : Nat) : List UInt8 := (List.range 8).map fun i => UInt8.ofNat (w >>> (8 * i))
def keyB (ws : List Nat) : List UInt8 := ws.flatMap bytesW
theorem bytesW_length (w : Nat) : (bytesW w).length = 8 := by simp [bytesW]
theorem keyB_length : ∀ l : List Nat, (keyB l).length = 8 * l.length
  | [] => rfl
  | x :: l => by rw [keyB, List.flatMap_cons, List.length_append, bytesW_length]; have := keyB_length l; unfold keyB at this; rw [this, List.length_cons]; omega
theorem bytesW_inj {a b : Nat} (ha : a < 18446744073709551616) (hb : b < 18446744073709551616) (h : bytesW a = bytesW b) : a = b := by
  apply Nat.eq_of_testBit_eq
  intro j
  by_cases hj : j < 64
  · have hi : j / 8 < 8 := by omega
    have h1 := congrArg (fun l => l[j / 8]?) h
    simp only [bytesW, List.getElem?_map, List.getElem?_range hi, Option.map_some, Option.some.injEq] at h1
    have h2 := congrArg UInt8.toNat h1
    simp only [UInt8.toNat_ofNat'] at h2
    have h3 := congrArg (fun x => x.testBit (j % 8)) h2
    simp only [Nat.testBit_mod_two_pow, Nat.testBit_shiftRight] at h3
    rw [show 8 * (j / 8) + j % 8 = j by omega] at h3
    have : decide (j % 8 < 8) = true := by simp; omega
    simpa [this] using h3
  · rw [Nat.testBit_lt_two_pow (Nat.lt_of_lt_of_le ha (Nat.pow_le_pow_right (n := 2) (by decide) (by omega : 64 ≤ j))), Nat.testBit_lt_two_pow (Nat.lt_of_lt_of_le hb (Nat.pow_le_pow_right (n := 2) (by decide) (by omega : 64 ≤ j)))]
theorem keyB_inj : ∀ {a b : List Nat}, (∀ w ∈ a, w < 18446744073709551616) → (∀ w ∈ b, w < 18446744073709551616) → keyB a = keyB b → a = b
  | [], [], _, _, _ => rfl
  | [], y :: b, _, _, h => by have := congrArg List.length h; simp [keyB, bytesW_length] at this; omega
  | x :: a, [], _, _, h => by have := congrArg List.length h; simp [keyB, bytesW_length] at this
  | x :: a, y :: b, ha, hb, h => by
    simp only [keyB, List.flatMap_cons] at h
    obtain ⟨h1, h2⟩ := List.append_inj h (by rw [bytesW_length, bytesW_length])
    rw [bytesW_inj (ha x (by simp)) (hb y (by simp)) h1, keyB_inj (fun w hw => ha w (by simp [hw])) (fun w hw => hb w (by simp [hw])) h2]
theorem Frm.key_inj {n : Nat} {a b : List Nat} (ha : Frm n a) (hb : Frm n b) (h : keyB a = keyB b) : a = b := keyB_inj (fun w hw => ha.lt hw) (fun w hw => hb.lt hw) h

abbrev Fs := List (List Nat)
def add (l : Fs) (t : List Nat) : Fs := if t ∈ l then l else l ++ [t]
def unlike (L : Fs) : Fs := L.foldl add []
def given (n : Nat) (l : Fs) (v : Nat) : Fs := l.foldl (fun acc t => add (add acc (cof n t v false)) (cof n t v true)) []
def nodes (n : Nat) (l : Fs) (v : Nat) : Fs := l.filter fun t => dep n t v
/-- behind the variables below k, those in A -/
def st (n : Nat) (L : Fs) (A : Nat) : Nat → Fs
  | 0 => unlike L
  | k + 1 => if A.testBit k then given n (st n L A k) k else st n L A k
def lvl (n : Nat) (L : Fs) (A v : Nat) : Nat := (nodes n (st n L A n) v).length
theorem mem_add {l : Fs} {t x : List Nat} : x ∈ add l t ↔ x ∈ l ∨ x = t := by
  unfold add
  split
  · constructor
    · exact .inl
    · rintro (h | rfl) <;> assumption
  · simp
theorem add_nodup {l : Fs} {t : List Nat} (h : l.Nodup) : (add l t).Nodup := by
  unfold add
  split
  · exact h
  · rename_i hn
    rw [List.nodup_append]
    exact ⟨h, by simp, fun a ha b hb => by simp at hb; subst hb; rintro rfl; exact hn ha⟩
theorem foldl_add_mem {α : Type} (f : α → Fs → Fs) (g : α → List Nat → Prop) (hf : ∀ a l x, x ∈ f a l ↔ x ∈ l ∨ g a x) : ∀ (L : List α) (acc : Fs) (x : List Nat), x ∈ L.foldl (fun acc a => f a acc) acc ↔ x ∈ acc ∨ ∃ a ∈ L, g a x
  | [], acc, x => by simp
  | a :: L, acc, x => by
    rw [List.foldl_cons, foldl_add_mem f g hf L, hf]
    simp only [List.mem_cons, exists_eq_or_imp, or_assoc]
theorem foldl_add_nodup {α : Type} (f : α → Fs → Fs) (hf : ∀ a l, l.Nodup → (f a l).Nodup) : ∀ (L : List α) (acc : Fs), acc.Nodup → (L.foldl (fun acc a => f a acc) acc).Nodup
  | [], acc, h => h
  | a :: L, acc, h => foldl_add_nodup f hf L _ (hf a acc h)
theorem mem_unlike {L : Fs} {x : List Nat} : x ∈ unlike L ↔ x ∈ L := by
  unfold unlike
  have := foldl_add_mem (fun a l => add l a) (fun a x => x = a) (fun a l x => mem_add) L [] x
  rw [this]; simp
theorem unlike_nodup (L : Fs) : (unlike L).Nodup := foldl_add_nodup (fun a l => add l a) (fun a l h => add_nodup h) L [] (by simp)
theorem mem_given {n v : Nat} {l : Fs} {x : List Nat} : x ∈ given n l v ↔ ∃ t ∈ l, ∃ b, x = cof n t v b := by
  unfold given
  have := foldl_add_mem (fun t acc => add (add acc (cof n t v false)) (cof n t v true)) (fun t x => ∃ b, x = cof n t v b) (fun t l x => by
    rw [mem_add, mem_add]
    constructor
    · rintro ((h | h) | h)
      · exact .inl h
      · exact .inr ⟨false, h⟩
      · exact .inr ⟨true, h⟩
    · rintro (h | ⟨b, h⟩)
      · exact .inl (.inl h)
      · cases b
        · exact .inl (.inr h)
        · exact .inr h) l [] x
  rw [this]; simp
theorem given_nodup (n : Nat) (l : Fs) (v : Nat) : (given n l v).Nodup := foldl_add_nodup (fun t acc => add (add acc (cof n t v false)) (cof n t v true)) (fun a l h => add_nodup (add_nodup h)) l [] (by simp)
theorem st_nodup (n : Nat) (L : Fs) (A : Nat) : ∀ k, (st n L A k).Nodup
  | 0 => unlike_nodup L
  | k + 1 => by
    rw [st]; split
    · exact given_nodup _ _ _
    · exact st_nodup n L A k
theorem perm_of_same {a b : Fs} (ha : a.Nodup) (hb : b.Nodup) (h : ∀ x, x ∈ a ↔ x ∈ b) : a.Perm b := (List.perm_ext_iff_of_nodup ha hb).2 h
theorem nodes_perm {n v : Nat} {a b : Fs} (h : a.Perm b) : (nodes n a v).length = (nodes n b v).length := (h.filter _).length_eq
theorem st_frm {n : Nat} {L : Fs} {A : Nat} (hL : ∀ t ∈ L, Frm n t) (hn : n ≤ 16) : ∀ k, ∀ t ∈ st n L A k, Frm n t
  | 0, t, h => hL t (mem_unlike.1 h)
  | k + 1, t, h => by
    rw [st] at h
    split at h
    · obtain ⟨u, _, b, rfl⟩ := mem_given.1 h; exact frm_cof hn
    · exact st_frm hL hn k t h
theorem add_length (l : Fs) (t : List Nat) : (add l t).length ≤ l.length + 1 := by unfold add; split <;> simp
theorem foldl_add_length {α : Type} (f : α → Fs → Fs) (c : Nat) (hf : ∀ a l, (f a l).length ≤ l.length + c) : ∀ (L : List α) (acc : Fs), (L.foldl (fun acc a => f a acc) acc).length ≤ acc.length + c * L.length
  | [], acc => by simp
  | a :: L, acc => by
    have h1 := foldl_add_length f c hf L (f a acc)
    have h2 := hf a acc
    rw [List.foldl_cons, List.length_cons, Nat.mul_succ]; omega
theorem st_length (n : Nat) (L : Fs) (A : Nat) : ∀ k, (st n L A k).length ≤ 2 ^ k * L.length
  | 0 => by have := foldl_add_length (fun a l => add l a) 1 (fun a l => add_length l a) L []; simpa [st, unlike] using this
  | k + 1 => by
    have ih := st_length n L A k
    rw [st, Nat.pow_succ]
    split
    · have h := foldl_add_length (fun t acc => add (add acc (cof n t k false)) (cof n t k true)) 2 (fun a l => by have h1 := add_length (add l (cof n a k false)) (cof n a k true); have h2 := add_length l (cof n a k false); omega) (st n L A k) []
      have h' : (given n (st n L A k) k).length ≤ 2 * (st n L A k).length := by simpa [given] using h
      have : 2 * (st n L A k).length ≤ 2 * (2 ^ k * L.length) := Nat.mul_le_mul_left _ ih
      rw [Nat.mul_comm (2 ^ k) 2, Nat.mul_assoc]; omega
    · have : 2 ^ k * L.length ≤ 2 ^ k * 2 * L.length := Nat.mul_le_mul_right _ (by omega)
      omega
/-- the variables on which a function depends -/
def suppP (n : Nat) (ws : List Nat) : Nat → Nat
  | 0 => 0
  | v + 1 => if dep n ws v then suppP n ws v ||| 2 ^ v else suppP n ws v
def supp (n : Nat) (ws : List Nat) : Nat := suppP n ws n
theorem testBit_suppP (n : Nat) (ws : List Nat) (u : Nat) : ∀ k, (suppP n ws k).testBit u = (decide (u < k) && dep n ws u)
  | 0 => by simp [suppP]
  | v + 1 => by
    rw [suppP]
    by_cases e : u = v
    · subst e
      split
      · rename_i h; rw [Nat.testBit_or, Nat.testBit_two_pow_self]; simp [h]
      · rename_i h; rw [testBit_suppP n ws u u]; simp [h]
    · have h1 : decide (u < v + 1) = decide (u < v) := by simp; omega
      rw [h1]
      split
      · rw [Nat.testBit_or, Nat.testBit_two_pow, testBit_suppP n ws u v]; simp [Ne.symm e]
      · exact testBit_suppP n ws u v
theorem suppP_lt (n : Nat) (ws : List Nat) : ∀ k, suppP n ws k < 2 ^ k
  | 0 => by simp [suppP]
  | v + 1 => by
    have h1 := suppP_lt n ws v
    have h2 : 2 ^ v < 2 ^ (v + 1) := Nat.pow_lt_pow_right (by decide) (by omega)
    rw [suppP]; split
    · exact Nat.or_lt_two_pow (by omega) h2
    · omega
theorem bit_one (A u : Nat) : (A >>> u &&& 1 = 1) ↔ A.testBit u = true := by
  rw [and_one_eq, Nat.testBit_shiftRight, Nat.add_zero]; cases A.testBit u <;> simp
theorem bit_mod (A u : Nat) : ((A >>> u) % 2 = 1) ↔ A.testBit u = true := by
  rw [← bit_one, Nat.and_one_is_mod]
/-- word i of a list of bits, of which the first J are taken -/
def wordP (bs : List Bool) (i : Nat) : Nat → Nat
  | 0 => 0
  | j + 1 => if bs.getD (64 * i + j) false then wordP bs i j ||| 2 ^ j else wordP bs i j
theorem testBit_wordP (bs : List Bool) (i k : Nat) : ∀ J, (wordP bs i J).testBit k = (decide (k < J) && bs.getD (64 * i + k) false)
  | 0 => by simp [wordP]
  | j + 1 => by
    rw [wordP]
    by_cases e : k = j
    · subst e
      split
      · rename_i h; rw [Nat.testBit_or, Nat.testBit_two_pow_self, h]; simp
      · rename_i h; rw [testBit_wordP bs i k k]; simp at h ⊢; exact h
    · have h1 : decide (k < j + 1) = decide (k < j) := by simp; omega
      rw [h1]
      split
      · rw [Nat.testBit_or, Nat.testBit_two_pow, testBit_wordP bs i k j]; simp [Ne.symm e]
      · exact testBit_wordP bs i k j
theorem wordP_lt (bs : List Bool) (i : Nat) : ∀ J, wordP bs i J < 2 ^ J
  | 0 => by simp [wordP]
  | j + 1 => by
    have h1 := wordP_lt bs i j
    have h2 : 2 ^ j < 2 ^ (j + 1) := Nat.pow_lt_pow_right (by decide) (by omega)
    rw [wordP]; split
    · exact Nat.or_lt_two_pow (by omega) h2
    · omega
theorem wordP_add {bs : List Bool} {i j : Nat} (h : bs.getD (64 * i + j) false = true) : wordP bs i j + 2 ^ j = wordP bs i (j + 1) := by
  rw [wordP, if_pos h]
  have := Nat.two_pow_add_eq_or_of_lt (wordP_lt bs i j) 1
  rw [Nat.mul_one] at this
  rw [Nat.or_comm, ← this, Nat.add_comm]
def fillW (n : Nat) (bs : List Bool) : List Nat := (List.range (wN n)).map fun i => wordP bs i 64
theorem mask_fill (v : Nat) : wordP ((List.range 64).map fun x => x.testBit v) 0 64 = mask v := by
  apply Nat.eq_of_testBit_eq; intro k
  rw [testBit_wordP, testBit_mask]
  by_cases hk : k < 64
  · simp [hk]
  · simp [hk]
theorem halfW_full {n v i : Nat} {ws : List Nat} {b : Bool} (hf : Frm n ws) (hv : v < n) (hi : i < wN n) : halfW ws v b i &&& fullN n = halfW ws v b i := by
  have hwi : ∀ k, ws.getD k 0 < 2 ^ 64 := fun k => by
    rw [List.getD_eq_getElem?_getD]
    rcases Nat.lt_or_ge k ws.length with h | h
    · rw [List.getElem?_eq_getElem h]; exact hf.lt (List.getElem_mem h)
    · rw [List.getElem?_eq_none h]; decide
  have hlt : halfW ws v b i < 2 ^ 64 := by
    unfold halfW
    split
    · exact hwi _
    · split
      · exact Nat.or_lt_two_pow (Nat.lt_of_le_of_lt Nat.and_le_left (hwi i)) (Nat.lt_of_le_of_lt (Nat.shiftRight_le _ _) (Nat.lt_of_le_of_lt Nat.and_le_left (hwi i)))
      · exact Nat.or_lt_two_pow (Nat.lt_of_le_of_lt (Go.Sx.andn_le _ _) (hwi i)) (Nat.mod_lt _ (by decide))
  by_cases h6 : 6 ≤ n
  · exact and_full (by unfold fullN; rw [if_pos h6]; have : (2:Nat) ^ 64 = 18446744073709551616 := rfl; omega)
  · have hv6 : ¬ 6 ≤ v := by omega
    apply Nat.eq_of_testBit_eq; intro j
    rw [Nat.testBit_and, testBit_full, if_neg h6]
    by_cases hj : j < 2 ^ n
    · simp [hj]
    · have hz : (halfW ws v b i).testBit j = false := by
        have hw0 : ws.getD i 0 ≤ fullN n := by
          rw [List.getD_eq_getElem?_getD, List.getElem?_eq_getElem (by rw [hf.len]; exact hi)]; exact hf.full _ (List.getElem_mem _)
        have hbit : ∀ k, 2 ^ n ≤ k → (ws.getD i 0).testBit k = false := fun k hk => by
          have := congrArg (fun x => x.testBit k) (and_full hw0)
          simp only [Nat.testBit_and, testBit_full, if_neg h6] at this
          rw [← this]; simp; omega
        unfold halfW
        rw [if_neg hv6]
        cases b
        · simp only [Bool.false_eq_true, if_false]
          rw [show (18446744073709551616 : Nat) = 2 ^ 64 by rfl, Nat.testBit_or, Nat.testBit_mod_two_pow, Nat.testBit_shiftLeft, Go.Sx.testBit_andn, Go.Sx.testBit_andn, hbit j (by omega), testBit_mask, testBit_mask]
          by_cases hle : 2 ^ v ≤ j
          · by_cases h64 : j < 64
            · obtain ⟨s1, s2⟩ := small6 ⟨v, by omega⟩ ⟨j, h64⟩
              simp only at s1 s2
              cases hb : j.testBit v
              · have := (s2 hb).2.2.2.2 hle
                have h3 : j - 2 ^ v < 64 := Nat.lt_of_le_of_lt (Nat.sub_le _ _) h64
                simp [this, h3]
              · have h5 := s1 hb
                have : ¬ (j - 2 ^ v < 2 ^ n) := fun hlt => by
                  have h6' := setb_lt (b := true) hlt hv
                  have h7 := (small6 ⟨v, by omega⟩ ⟨j - 2 ^ v, Nat.lt_of_le_of_lt (Nat.sub_le _ _) h64⟩).2 h5.2.2.2.2
                  simp only at h7
                  rw [h7.1] at h6'; omega
                rw [hbit (j - 2 ^ v) (by omega)]; simp
            · simp [h64]
          · simp [hle]
        · simp only [if_true]
          rw [Nat.testBit_or, Nat.testBit_and, Nat.testBit_shiftRight, Nat.testBit_and, hbit j (Nat.le_of_not_lt hj), hbit (2 ^ v + j) (Nat.le_trans (Nat.le_of_not_lt hj) (Nat.le_add_left _ _))]; simp
      rw [hz]; rfl
theorem setb_div (i k : Nat) : i - i / 2 ^ k % 2 * 2 ^ k = setb i k false ∧ (i - i / 2 ^ k % 2 * 2 ^ k) + 2 ^ k = setb i k true := by
  have hp := Nat.two_pow_pos k
  have hdm := Nat.div_add_mod i (2 ^ k)
  have hm := Nat.mod_lt i hp
  generalize hq : i / 2 ^ k = q at *
  generalize hr : i % 2 ^ k = r at *
  have hle : q % 2 * 2 ^ k ≤ 2 ^ k * q := by rw [Nat.mul_comm]; exact Nat.mul_le_mul_left _ (Nat.mod_le _ _)
  have e1 : i - q % 2 * 2 ^ k = 2 ^ k * (2 * (q / 2)) + r := by
    have : 2 ^ k * q = 2 ^ k * (2 * (q / 2)) + q % 2 * 2 ^ k := by
      rw [Nat.mul_comm (q % 2), ← Nat.mul_add]; congr 1; omega
    omega
  have tb : ∀ j, i.testBit j = if j < k then r.testBit j else q.testBit (j - k) := fun j => by rw [← hdm]; exact Nat.testBit_two_pow_mul_add q hm j
  have e2 : (2 ^ k * (2 * (q / 2)) + r) + 2 ^ k = 2 ^ k * (2 * (q / 2) + 1) + r := by rw [Nat.mul_succ]; omega
  rw [e1]
  refine ⟨?_, ?_⟩
  · apply Nat.eq_of_testBit_eq; intro j
    rw [Nat.testBit_two_pow_mul_add _ hm, testBit_setb, tb]
    by_cases hj : j < k
    · rw [if_pos hj, if_neg (by omega), if_pos hj]
    · rw [if_neg hj, if_neg hj]
      by_cases e : j = k
      · subst e; simp
      · rw [if_neg e]
        obtain ⟨d, hd⟩ : ∃ d, j - k = d + 1 := ⟨j - k - 1, by omega⟩
        rw [hd, Nat.testBit_succ, Nat.testBit_succ]; congr 1; omega
  · rw [e2]
    apply Nat.eq_of_testBit_eq; intro j
    rw [Nat.testBit_two_pow_mul_add _ hm, testBit_setb, tb]
    by_cases hj : j < k
    · rw [if_pos hj, if_neg (by omega), if_pos hj]
    · rw [if_neg hj, if_neg hj]
      by_cases e : j = k
      · subst e; simp
      · rw [if_neg e]
        obtain ⟨d, hd⟩ : ∃ d, j - k = d + 1 := ⟨j - k - 1, by omega⟩
        rw [hd, Nat.testBit_succ, Nat.testBit_succ]; congr 1; omega
end Tab
/-
  Slices of tables that are built; bytes; sets of tables as maps.
-/
set_option linter.unusedSimpArgs false
set_option linter.unusedVariables false
namespace Go.Sx
open Go
section
variable {P : Program} {H : Hp}
theorem BuildSl.int {t e : Nat} {kd : IntKind} {x : Int} {K : Value → Hp → Prop} (h1 : P.underlying t = some (.slice e)) (h2 : sizeD P e = some 1) (h3 : zeroD P e = some (.int kd 0))
    (h : ∀ b, K (.slice (some ⟨b, 0, none⟩) 1 1) ((b, .cells (icells kd [x]) e (0, 0)) :: H)) : BuildSl P t 1 [(0, .int kd x)] H K := by
  refine ⟨icells kd [x], e, 1, _, h1, h2, h3, by decide, ?_, fun b _ => h b⟩
  have e1 : Array.range 1 = #[0] := rfl
  simp [Instr.fill, Value.cells, icells, e1]
theorem BuildSl.none {t e k : Nat} {z : Value} {K : Value → Hp → Prop} (h1 : P.underlying t = some (.slice e)) (h2 : sizeD P e = some k) (h3 : zeroD P e = some z)
    (h : ∀ b, K (.slice (some ⟨b, 0, none⟩) 0 0) ((b, .cells #[] e (0, 0)) :: H)) : BuildSl P t 0 [] H K := by
  refine ⟨_, e, k, z, h1, h2, h3, by simp, rfl, fun b _ => ?_⟩
  have : ((Array.range (0 * k)).map fun i => z.cells[i % z.cells.size]!) = #[] := by simp
  rw [this]; exact h b
/-- a slice of tables that owns its array -/
def TOwn (T : TypeId) (v : Value) (ts : List Tb) (C B : Hp) : Prop := ∃ rs, SOwn T 2 v rs C ∧ Each (TRow B) rs ts
theorem TOwn.nil {T : TypeId} {B : Hp} : TOwn T (.slice none 0 0) [] [] B := ⟨[], SOwn.nil _ _, Each.nil⟩
theorem TOwn.mono {T : TypeId} {v : Value} {ts : List Tb} {C B B' : Hp} (h : TOwn T v ts C B) (hs : ∀ x ∈ B, x ∈ B') : TOwn T v ts C B' := let ⟨rs, h1, h2⟩ := h; ⟨rs, h1, h2.mono fun _ _ h => h.mono hs⟩
theorem TOwn.tbls {T : TypeId} {v : Value} {ts : List Tb} {C B B' : Hp} (h : TOwn T v ts C B) (hc : ∀ x ∈ C, x ∈ B') (hb : ∀ x ∈ B, x ∈ B') : Tbls B' v ts := by
  obtain ⟨rs, h1, h2⟩ := h; exact ⟨rs, (Sl.ofOwn h1 (by decide)).mono hc, h2.mono fun _ _ h => h.mono hb⟩
theorem TOwn.app {T : TypeId} {v : Value} {ts : List Tb} {C B0 A B : Hp} (h : TOwn T v ts C B0) {xb xc : Nat} {t : Tb} {s : Value} {xT : TypeId} {fz : Nat × Nat} (hx : (xb, Obj.cells #[.int .i64 t.n, s] xT fz) ∈ A ++ (C ++ B)) (hw : Words B0 s t.ws)
    (hl : ts.length < 4398046511103) {K : Value → Hp → Prop} (hk : ∀ v' C', TOwn T v' (ts ++ [t]) C' B0 → K v' (A ++ (C' ++ B))) : App P T 2 32 (.agg #[.int .i64 0, .slice none 0 0]) (A ++ (C ++ B)) v (.slice (some ⟨xb, 0, none⟩) 1 xc) K := by
  obtain ⟨rs, h1, h2⟩ := h
  have hs : s.oneCell' = true := by obtain ⟨a, c, rfl, _⟩ := hw.1.shape; rfl
  have hrl := h2.1
  refine h1.app' (r := [.int .i64 t.n, s]) hx rfl (fun u hu => by simp only [List.mem_cons, List.not_mem_nil, or_false] at hu; rcases hu with rfl | rfl; rfl; exact hs) ⟨[.int .i64 0, .slice none 0 0], rfl, rfl⟩ (by omega) (by omega) fun v' C' ho => hk v' C' ⟨_, ho, h2.snoc ⟨s, rfl, hw⟩⟩
/-- bytes -/
def brow (l : List UInt8) : List (List Value) := l.map fun b => [Value.int .u8 b.toNat]
theorem rows_brow (l : List UInt8) : rows (brow l) = (l.map fun b => Value.int .u8 b.toNat).toArray := by
  unfold rows brow
  congr 1
  induction l with
  | nil => rfl
  | cons b r ih => simp [ih]
theorem BytesS.own {T : TypeId} {v : Value} {l : List UInt8} {C : Hp} (h : SOwn T 1 v (brow l) C) (hs : ∀ x ∈ C, x ∈ H) {K : Value → Prop} (hk : K (.string ⟨l.toArray⟩)) : BytesS H v K := by
  obtain ⟨a, cap, h1, h2⟩ := ((Sl.ofOwn h (by decide)).mono hs).cells
  refine ⟨a, _, cap, l, h1, ?_, by simp [brow], hk⟩
  rw [rows_brow, Nat.mul_one] at h2; exact h2
/-- a string by its bytes -/
def strV (l : List UInt8) : Value := .string ⟨l.toArray⟩
theorem strV_beq (a b : List UInt8) : ((⟨a.toArray⟩ : ByteArray) == ⟨b.toArray⟩) = decide (a = b) := by
  rw [beq_toListBytes, ByteArray.toList_eq, ByteArray.toList_eq]
  simp only [List.toList_toArray]
  rw [Bool.eq_iff_iff]; simp
theorem strV_law (a b : List UInt8) : Instr.sameNow .string (strV a) (strV b) = some (decide (a = b)) := by
  show some _ = some _
  rw [strV_beq]
theorem strV_bits (a : List UInt8) : Instr.sameBits 10000 (strV a) (strV a) = true := by
  show ((⟨a.toArray⟩ : ByteArray) == ⟨a.toArray⟩) = true
  rw [strV_beq]; simp
theorem Bin.strNe {a b : List UInt8} {k : Value → Prop} (h : k (.bool (decide (a ≠ b)))) : Bin .str .neq (strV a) (strV b) k := by
  refine ⟨_, rfl, ?_⟩
  have : (!((⟨a.toArray⟩ : ByteArray).toList == (⟨b.toArray⟩ : ByteArray).toList)) = decide (a ≠ b) := by
    rw [← beq_toListBytes, strV_beq]; simp
  rw [this]; exact h
/-- entries: tables of n variables by their bytes -/
def TEnts (n : Nat) (B : Hp) (es : Array MapEntry) (ck : Nat) (m : List (List UInt8 × List Nat)) : Prop :=
  Ents strV (fun v ws => Tbl B v ⟨n, ws⟩) es ck m ∧ ∀ x ∈ m, x.1 = Tab.keyB x.2 ∧ Tab.Frm n x.2
theorem TEnts.mono {n : Nat} {B B' : Hp} {es : Array MapEntry} {ck : Nat} {m : List (List UInt8 × List Nat)} (h : TEnts n B es ck m) (hs : ∀ x ∈ B, x ∈ B') : TEnts n B' es ck m := ⟨h.1.mono fun _ _ h => h.mono hs, h.2⟩
theorem TEnts.empty (n : Nat) (B : Hp) : TEnts n B #[] 0 [] := ⟨Ents.empty, by simp⟩
/-- the functions of a set -/
def tset (m : List (List UInt8 × List Nat)) (ws : List Nat) : List (List UInt8 × List Nat) := mset m (Tab.keyB ws) ws
theorem TEnts.nodup {n : Nat} {B : Hp} {es : Array MapEntry} {ck : Nat} {m : List (List UInt8 × List Nat)} (h : TEnts n B es ck m) : (m.map Prod.snd).Nodup := by
  have h1 := h.1.nd
  have e : m.map Prod.fst = (m.map Prod.snd).map Tab.keyB := by
    rw [List.map_map]; apply List.map_congr_left; intro x hx; exact (h.2 x hx).1
  rw [e] at h1
  exact List.Pairwise.of_map Tab.keyB (fun a b hne e => hne (by rw [e])) h1
theorem tset_same {n : Nat} {m : List (List UInt8 × List Nat)} {ws : List Nat} (hm : ∀ x ∈ m, x.1 = Tab.keyB x.2 ∧ Tab.Frm n x.2) (hf : Tab.Frm n ws) : ∀ x, x ∈ (tset m ws).map Prod.snd ↔ x ∈ m.map Prod.snd ∨ x = ws := by
  intro x
  unfold tset mset
  split
  · rename_i hk
    obtain ⟨y, hy, hky⟩ := List.mem_map.1 hk
    have hyw : y.2 = ws := (hm y hy).2.key_inj hf (by rw [← (hm y hy).1, hky])
    have : (m.map fun y => if y.1 = Tab.keyB ws then (Tab.keyB ws, ws) else y) = m := by
      conv => rhs; rw [← List.map_id m]
      apply List.map_congr_left
      intro z hz
      split
      · rename_i hzk
        have : z.2 = ws := (hm z hz).2.key_inj hf (by rw [← (hm z hz).1, hzk])
        simp only [id]; rw [← hzk, ← this]
      · rfl
    rw [this]
    constructor
    · exact .inl
    · rintro (h | rfl)
      · exact h
      · exact List.mem_map.2 ⟨y, hy, hyw⟩
  · simp
theorem tset_ok {n : Nat} {m : List (List UInt8 × List Nat)} {ws : List Nat} (hm : ∀ x ∈ m, x.1 = Tab.keyB x.2 ∧ Tab.Frm n x.2) (hf : Tab.Frm n ws) : ∀ x ∈ tset m ws, x.1 = Tab.keyB x.2 ∧ Tab.Frm n x.2 := by
  intro x hx
  unfold tset mset at hx
  split at hx
  · obtain ⟨y, hy, rfl⟩ := List.mem_map.1 hx
    split
    · exact ⟨rfl, hf⟩
    · exact hm y hy
  · rcases List.mem_append.1 hx with hx | hx
    · exact hm x hx
    · simp at hx; subst hx; exact ⟨rfl, hf⟩
theorem TEnts.upd {n : Nat} {B : Hp} {es : Array MapEntry} {ck b : Nat} {m : List (List UInt8 × List Nat)} {ws : List Nat} {val : Value} {K : Hp → Prop} (h : TEnts n B es ck m) (hv : Tbl B val ⟨n, ws⟩) (hf : Tab.Frm n ws)
    (h1 : ∀ es' ck', TEnts n B es' ck' (tset m ws) → ∃ H', Upd b (.map es ck) (.map es' ck') H H' ∧ K H') : MapUpd .string H (.map (some b)) (strV (Tab.keyB ws)) val K :=
  Ents.upd strV_law strV_bits h.1 hv fun es' ck' he => h1 es' ck' ⟨he, tset_ok h.2 hf⟩
end
end Go.Sx
/-
  The least cost of an order of variables, by sets; what a set of unused variables costs; the way to a set.
-/
set_option linter.unusedSimpArgs false
set_option linter.unusedVariables false
namespace Tab
open Go.Sx
def minOf : List Nat → Nat
  | [] => 0
  | x :: r => r.foldl min x
theorem foldl_min_le : ∀ (r : List Nat) (x : Nat), r.foldl min x ≤ x ∧ ∀ y ∈ r, r.foldl min x ≤ y
  | [], x => ⟨Nat.le_refl _, by simp⟩
  | z :: r, x => by
    obtain ⟨h1, h2⟩ := foldl_min_le r (min x z)
    refine ⟨by rw [List.foldl_cons]; omega, fun y hy => ?_⟩
    rw [List.foldl_cons]
    rcases List.mem_cons.1 hy with rfl | hy
    · omega
    · exact h2 y hy
theorem foldl_min_mem : ∀ (r : List Nat) (x : Nat), r.foldl min x = x ∨ r.foldl min x ∈ r
  | [], x => .inl rfl
  | z :: r, x => by
    rw [List.foldl_cons]
    rcases foldl_min_mem r (min x z) with h | h
    · rw [h]
      rcases Nat.le_total x z with h' | h'
      · left; omega
      · right; rw [Nat.min_eq_right h']; simp
    · right; exact List.mem_cons_of_mem _ h
theorem minOf_le {l : List Nat} {y : Nat} (h : y ∈ l) : minOf l ≤ y := by
  cases l with
  | nil => simp at h
  | cons x r =>
    obtain ⟨h1, h2⟩ := foldl_min_le r x
    rcases List.mem_cons.1 h with rfl | h
    · exact h1
    · exact h2 y h
theorem minOf_mem {l : List Nat} (h : l ≠ []) : minOf l ∈ l := by
  cases l with
  | nil => exact absurd rfl h
  | cons x r =>
    rcases foldl_min_mem r x with h | h
    · show r.foldl min x ∈ _; rw [h]; simp
    · exact List.mem_cons_of_mem _ h
theorem minOf_eq {l : List Nat} {m : Nat} (h1 : m ∈ l) (h2 : ∀ y ∈ l, m ≤ y) : minOf l = m :=
  Nat.le_antisymm (minOf_le h1) (h2 _ (minOf_mem (by intro e; rw [e] at h1; simp at h1)))
theorem minOf_snoc (l : List Nat) (x : Nat) : minOf (l ++ [x]) = if l = [] then x else min (minOf l) x := by
  cases l with
  | nil => rfl
  | cons y r => simp [minOf, List.foldl_append]
/-- variables that are not in a set; those that are -/
def miss (n a : Nat) : List Nat := (List.range n).filter fun v => !a.testBit v
def has (n a : Nat) : List Nat := (List.range n).filter fun v => a.testBit v
theorem mem_miss {n a v : Nat} : v ∈ miss n a ↔ v < n ∧ a.testBit v = false := by simp [miss]
theorem mem_has {n a v : Nat} : v ∈ has n a ↔ v < n ∧ a.testBit v = true := by simp [has]
theorem filter_drop {α : Type} (p q : α → Bool) (x : α) : ∀ (l : List α), l.Nodup → x ∈ l → p x = true → q x = false → (∀ y ∈ l, y ≠ x → q y = p y) → (l.filter q).length + 1 = (l.filter p).length
  | [], _, h, _, _, _ => by simp at h
  | y :: l, nd, h, hp, hq, hall => by
    rw [List.nodup_cons] at nd
    by_cases e : y = x
    · subst e
      have hsame : l.filter q = l.filter p := by
        apply List.filter_congr
        intro z hz
        exact hall z (by simp [hz]) (fun e => nd.1 (e ▸ hz))
      rw [List.filter_cons, List.filter_cons, hp, hq, hsame]; simp
    · have hxl : x ∈ l := by rcases List.mem_cons.1 h with h | h; exact absurd h.symm e; exact h
      have ih := filter_drop p q x l nd.2 hxl hp hq fun z hz hne => hall z (by simp [hz]) hne
      have hy := hall y (by simp) e
      rw [List.filter_cons, List.filter_cons, hy]
      cases p y
      · simpa using ih
      · simp only [if_true, List.length_cons]; omega
theorem setb_true_ne {a u v : Nat} (h : v ≠ u) : (setb a u true).testBit v = a.testBit v := by rw [testBit_setb, if_neg h]
theorem miss_set {n a v : Nat} (h : v ∈ miss n a) : (miss n (setb a v true)).length + 1 = (miss n a).length := by
  obtain ⟨h1, h2⟩ := mem_miss.1 h
  refine filter_drop _ _ v (List.range n) List.nodup_range (List.mem_range.2 h1) (by simp [h2]) (by simp [testBit_setb]) fun y hy hne => ?_
  rw [setb_true_ne hne]
theorem has_set {n a v : Nat} (h : v ∈ has n a) : (has n (setb a v false)).length + 1 = (has n a).length := by
  obtain ⟨h1, h2⟩ := mem_has.1 h
  refine filter_drop _ _ v (List.range n) List.nodup_range (List.mem_range.2 h1) (by simp [h2]) (by simp [testBit_setb]) fun y hy hne => ?_
  rw [testBit_setb, if_neg hne]
theorem setb_add {a v : Nat} (h : a.testBit v = false) : setb a v true = a + 2 ^ v := by
  have h1 := (setb_div a v).2
  have h2 := (setb_div a v).1
  have h3 : setb a v false = a := by have := setb_self a v; rwa [h] at this
  rw [h3] at h2
  rw [← h1, h2]
theorem setb_sub {a v : Nat} (h : a.testBit v = true) : setb a v false = a - 2 ^ v := by
  have h1 := (setb_div a v).2
  have h2 := (setb_div a v).1
  have h3 : setb a v true = a := by have := setb_self a v; rwa [h] at this
  rw [h3, h2] at h1
  omega
/-- the least cost of the levels below a set -/
def bel (n : Nat) (c : Nat → Nat → Nat) : Nat → Nat → Nat
  | 0, _ => 0
  | f + 1, a => minOf ((miss n a).map fun v => c a v + bel n c f (setb a v true))
/-- the least cost of the levels of a set -/
def par (n : Nat) (c : Nat → Nat → Nat) : Nat → Nat → Nat
  | 0, _ => 0
  | f + 1, s => minOf ((has n s).map fun v => c (setb s v false) v + par n c f (setb s v false))
theorem bel_more {n : Nat} {c : Nat → Nat → Nat} : ∀ (f : Nat) (a : Nat), (miss n a).length ≤ f → bel n c (f + 1) a = bel n c f a
  | 0, a, h => by
    have : miss n a = [] := List.length_eq_zero_iff.1 (by omega)
    simp [bel, this, minOf]
  | f + 1, a, h => by
    rw [bel, bel]
    congr 1
    apply List.map_congr_left
    intro v hv
    rw [bel_more f _ (by have := miss_set hv; omega)]
theorem par_more {n : Nat} {c : Nat → Nat → Nat} : ∀ (f : Nat) (a : Nat), (has n a).length ≤ f → par n c (f + 1) a = par n c f a
  | 0, a, h => by
    have : has n a = [] := List.length_eq_zero_iff.1 (by omega)
    simp [par, this, minOf]
  | f + 1, a, h => by
    rw [par, par]
    congr 1
    apply List.map_congr_left
    intro v hv
    rw [par_more f _ (by have := has_set hv; omega)]
theorem miss_le (n a : Nat) : (miss n a).length ≤ n := by have := List.length_filter_le (fun v => !a.testBit v) (List.range n); simpa [miss] using this
theorem has_le (n a : Nat) : (has n a).length ≤ n := by have := List.length_filter_le (fun v => a.testBit v) (List.range n); simpa [has] using this
def B (n : Nat) (c : Nat → Nat → Nat) (a : Nat) : Nat := bel n c n a
def W (n : Nat) (c : Nat → Nat → Nat) (s : Nat) : Nat := par n c n s
theorem B_step (n : Nat) (c : Nat → Nat → Nat) (a : Nat) : B n c a = minOf ((miss n a).map fun v => c a v + B n c (setb a v true)) := by
  unfold B
  rw [← bel_more n a (miss_le n a)]
  rfl
theorem W_step (n : Nat) (c : Nat → Nat → Nat) (s : Nat) : W n c s = minOf ((has n s).map fun v => c (setb s v false) v + W n c (setb s v false)) := by
  unfold W
  rw [← par_more n s (has_le n s)]
  rfl
theorem B_le {n : Nat} {c : Nat → Nat → Nat} {a v : Nat} (hv : v ∈ miss n a) : B n c a ≤ c a v + B n c (setb a v true) := by
  rw [B_step n c a]; exact minOf_le (List.mem_map.2 ⟨v, hv, rfl⟩)
theorem B_ex {n : Nat} {c : Nat → Nat → Nat} {a : Nat} (h : miss n a ≠ []) : ∃ v ∈ miss n a, B n c a = c a v + B n c (setb a v true) := by
  have := minOf_mem (l := (miss n a).map fun v => c a v + B n c (setb a v true)) (by simpa using h)
  rw [← B_step] at this
  obtain ⟨v, hv, e⟩ := List.mem_map.1 this
  exact ⟨v, hv, e.symm⟩
theorem B_nil {n : Nat} {c : Nat → Nat → Nat} {a : Nat} (h : miss n a = []) : B n c a = 0 := by rw [B_step, h]; rfl
theorem W_le {n : Nat} {c : Nat → Nat → Nat} {s v : Nat} (hv : v ∈ has n s) : W n c s ≤ c (setb s v false) v + W n c (setb s v false) := by
  rw [W_step n c s]; exact minOf_le (List.mem_map.2 ⟨v, hv, rfl⟩)
theorem W_ex {n : Nat} {c : Nat → Nat → Nat} {s : Nat} (h : has n s ≠ []) : ∃ v ∈ has n s, W n c s = c (setb s v false) v + W n c (setb s v false) := by
  have := minOf_mem (l := (has n s).map fun v => c (setb s v false) v + W n c (setb s v false)) (by simpa using h)
  rw [← W_step] at this
  obtain ⟨v, hv, e⟩ := List.mem_map.1 this
  exact ⟨v, hv, e.symm⟩
theorem W_nil {n : Nat} {c : Nat → Nat → Nat} {s : Nat} (h : has n s = []) : W n c s = 0 := by rw [W_step, h]; rfl

/-! variables that are not used -/
/-- U: the used ones; the others cost nothing, wherever they stand -/
structure Used (n : Nat) (c : Nat → Nat → Nat) (U : Nat) : Prop where
  zero : ∀ a v, v < n → a.testBit v = false → U.testBit v = false → c a v = 0
  mask : ∀ a v, v < n → a.testBit v = false → c a v = c (a &&& U) v
theorem and_setb {a U v : Nat} {b : Bool} : (setb a v b) &&& U = if U.testBit v then setb (a &&& U) v b else a &&& U := by
  apply Nat.eq_of_testBit_eq; intro k
  by_cases hU : U.testBit v = true
  · rw [if_pos hU, Nat.testBit_and, testBit_setb, testBit_setb, Nat.testBit_and]
    by_cases e : k = v
    · subst e; simp [hU]
    · simp [e]
  · rw [if_neg hU, Nat.testBit_and, testBit_setb, Nat.testBit_and]
    by_cases e : k = v
    · subst e; simp [hU]
    · simp [e]
/-- used variables that are missing -/
def missU (n U a : Nat) : List Nat := (miss n a).filter fun v => U.testBit v
theorem mem_missU {n U a v : Nat} : v ∈ missU n U a ↔ v < n ∧ a.testBit v = false ∧ U.testBit v = true := by simp [missU, mem_miss, and_assoc]
theorem missU_and (n U a : Nat) : missU n U (a &&& U) = missU n U a := by
  unfold missU miss
  rw [List.filter_filter, List.filter_filter]
  apply List.filter_congr
  intro v _
  rw [Nat.testBit_and]
  cases a.testBit v <;> cases U.testBit v <;> rfl
theorem B_used {n U : Nat} {c : Nat → Nat → Nat} (hU : Used n c U) : ∀ (d a : Nat), (miss n a).length = d → B n c a = minOf ((missU n U a).map fun v => c (a &&& U) v + B n c (setb a v true)) ∧ ∀ a', (miss n a').length ≤ d → a' &&& U = a &&& U → B n c a' = B n c a := by
  intro d
  induction d using Nat.strongRecOn with
  | _ d ih =>
    -- what is asked only of the used part
    have key : ∀ a, (miss n a).length = d → B n c a = minOf ((missU n U a).map fun v => c (a &&& U) v + B n c (setb a v true)) := by
      intro a hd
      by_cases hm : miss n a = []
      · have h1 : missU n U a = [] := by unfold missU; rw [hm]; rfl
        rw [h1, B_nil hm]; rfl
      · have hle : ∀ v ∈ missU n U a, B n c a ≤ c (a &&& U) v + B n c (setb a v true) := fun v hv => by
          obtain ⟨h1, h2, h3⟩ := mem_missU.1 hv
          rw [← hU.mask a v h1 h2]; exact B_le (mem_miss.2 ⟨h1, h2⟩)
        obtain ⟨v, hv, he⟩ := B_ex (c := c) hm
        obtain ⟨h1, h2⟩ := mem_miss.1 hv
        by_cases hu : U.testBit v = true
        · symm
          refine minOf_eq (List.mem_map.2 ⟨v, mem_missU.2 ⟨h1, h2, hu⟩, by rw [← hU.mask a v h1 h2]; exact he.symm⟩) fun y hy => ?_
          obtain ⟨w, hw, rfl⟩ := List.mem_map.1 hy
          exact hle w hw
        · have hu' : U.testBit v = false := by simpa using hu
          rw [hU.zero a v h1 h2 hu', Nat.zero_add] at he
          have hlt : (miss n (setb a v true)).length < d := by have := miss_set hv; omega
          have hand : setb a v true &&& U = a &&& U := by rw [and_setb, if_neg hu]
          obtain ⟨k1, k2⟩ := ih _ hlt (setb a v true) rfl
          have hmU : missU n U (setb a v true) = missU n U a := by rw [← missU_and, hand, missU_and]
          by_cases hnil : missU n U a = []
          · rw [hmU, hnil] at k1
            rw [he, k1, hnil]; rfl
          · symm
            rw [hmU, hand] at k1
            have hmem := minOf_mem (l := (missU n U a).map fun w => c (a &&& U) w + B n c (setb (setb a v true) w true)) (by simpa using hnil)
            rw [← k1] at hmem
            obtain ⟨w, hw, hwe⟩ := List.mem_map.1 hmem
            obtain ⟨w1, w2, w3⟩ := mem_missU.1 hw
            have hwv : w ≠ v := fun e => by rw [e] at w3; rw [hu'] at w3; cases w3
            have hcomm : setb (setb a v true) w true = setb (setb a w true) v true := by
              apply Nat.eq_of_testBit_eq; intro k
              rw [testBit_setb, testBit_setb, testBit_setb, testBit_setb]
              by_cases e1 : k = w <;> by_cases e2 : k = v <;> simp [e1, e2]
            have hmw : w ∈ miss n a := mem_miss.2 ⟨w1, w2⟩
            have hsub : B n c (setb (setb a v true) w true) = B n c (setb a w true) := by
              have hlt2 : (miss n (setb a w true)).length < d := by have := miss_set hmw; omega
              refine (ih _ hlt2 (setb a w true) rfl).2 _ ?_ ?_
              · have hvm : v ∈ miss n (setb a w true) := mem_miss.2 ⟨h1, by rw [testBit_setb, if_neg (Ne.symm hwv)]; exact h2⟩
                have := miss_set hvm
                rw [hcomm]; omega
              · rw [hcomm, and_setb, if_neg hu]
            have hval : c (a &&& U) w + B n c (setb a w true) = B n c a := by rw [he, ← hwe, hsub]
            refine minOf_eq (List.mem_map.2 ⟨w, hw, hval⟩) fun y hy => ?_
            obtain ⟨z, hz, rfl⟩ := List.mem_map.1 hy
            exact hle z hz
    intro a hd
    refine ⟨key a hd, fun a' hd' hand => ?_⟩
    have hmU : missU n U a' = missU n U a := by rw [← missU_and, hand, missU_and]
    have h' : B n c a' = minOf ((missU n U a').map fun v => c (a' &&& U) v + B n c (setb a' v true)) := by
      rcases Nat.lt_or_ge (miss n a').length d with h | h
      · exact (ih _ h a' rfl).1
      · exact key a' (by omega)
    rw [h', key a hd, hmU, hand]
    congr 1
    apply List.map_congr_left
    intro v hv
    congr 1
    obtain ⟨v1, v2, v3⟩ := mem_missU.1 hv
    have hma : v ∈ miss n a := mem_miss.2 ⟨v1, v2⟩
    have hma' : v ∈ miss n a' := by
      rw [← hmU] at hv
      exact mem_miss.2 ⟨v1, (mem_missU.1 hv).2.1⟩
    have hlt : (miss n (setb a v true)).length < d := by have := miss_set hma; omega
    refine (ih _ hlt (setb a v true) rfl).2 _ ?_ ?_
    · have := miss_set hma'; have := miss_set hma; omega
    · rw [and_setb, and_setb, hand]
theorem B_and {n U : Nat} {c : Nat → Nat → Nat} (hU : Used n c U) (a : Nat) : B n c (a &&& U) = B n c a := by
  have e : (a &&& U) &&& U = a &&& U := by rw [Nat.and_assoc, Nat.and_self]
  rcases Nat.le_total (miss n (a &&& U)).length (miss n a).length with h | h
  · exact (B_used hU _ a rfl).2 _ h e
  · exact ((B_used hU _ (a &&& U) rfl).2 a h e.symm).symm
theorem B_rec {n U : Nat} {c : Nat → Nat → Nat} (hU : Used n c U) (a : Nat) : B n c a = minOf ((missU n U a).map fun v => c (a &&& U) v + B n c (setb (a &&& U) v true)) := by
  rw [(B_used hU _ a rfl).1]
  congr 1
  apply List.map_congr_left
  intro v hv
  obtain ⟨v1, v2, v3⟩ := mem_missU.1 hv
  congr 1
  rw [← B_and hU (setb a v true), and_setb, if_pos v3]
/-- the same of the way to a set -/
theorem W_used {n U : Nat} {c : Nat → Nat → Nat} (hU : Used n c U) : ∀ (d s : Nat), (has n s).length = d → W n c s = W n c (s &&& U) := by
  intro d
  induction d using Nat.strongRecOn with
  | _ d ih =>
    intro s hd
    by_cases hm : has n s = []
    · have h1 : has n (s &&& U) = [] := by
        unfold has at hm ⊢
        rw [List.filter_eq_nil_iff] at hm ⊢
        intro v hv
        have := hm v hv
        rw [Nat.testBit_and]; simp only [Bool.not_eq_true] at this; simp [this]
      rw [W_nil hm, W_nil h1]
    · have hdrop : ∀ v, v ∈ has n s → (has n (setb s v false)).length < d := fun v hv => by have := has_set hv; omega
      have hfree : ∀ v, v ∈ has n s → c (setb s v false) v + W n c (setb s v false) = if U.testBit v then c (setb (s &&& U) v false) v + W n c (setb (s &&& U) v false) else W n c (s &&& U) := fun v hv => by
        obtain ⟨h1, h2⟩ := mem_has.1 hv
        have hb : (setb s v false).testBit v = false := by rw [testBit_setb, if_pos rfl]
        rw [ih _ (hdrop v hv) _ rfl]
        have := and_setb (a := s) (U := U) (v := v) (b := false)
        split
        · rename_i hu
          rw [if_pos hu] at this
          rw [hU.mask _ v h1 hb, this]
        · rename_i hu
          rw [if_neg hu] at this
          rw [hU.zero _ v h1 hb (by simpa using hu), this, Nat.zero_add]
      apply Nat.le_antisymm
      · by_cases hmU : has n (s &&& U) = []
        · rw [W_nil hmU]
          obtain ⟨v, hv⟩ := List.exists_mem_of_ne_nil _ hm
          obtain ⟨h1, h2⟩ := mem_has.1 hv
          have hu : ¬ U.testBit v = true := fun hu => by
            have : v ∈ has n (s &&& U) := mem_has.2 ⟨h1, by rw [Nat.testBit_and, h2, hu]; rfl⟩
            rw [hmU] at this; simp at this
          have h3 := hfree v hv
          rw [if_neg hu, W_nil hmU] at h3
          rw [← h3]; exact W_le hv
        · obtain ⟨v, hv, he⟩ := W_ex (c := c) hmU
          obtain ⟨h1, h2⟩ := mem_has.1 hv
          rw [Nat.testBit_and, Bool.and_eq_true] at h2
          have hvs : v ∈ has n s := mem_has.2 ⟨h1, h2.1⟩
          have h3 := hfree v hvs
          rw [if_pos h2.2] at h3
          rw [he, ← h3]; exact W_le hvs
      · obtain ⟨v, hv, he⟩ := W_ex (c := c) hm
        rw [he, hfree v hv]
        obtain ⟨h1, h2⟩ := mem_has.1 hv
        split
        · rename_i hu
          exact W_le (mem_has.2 ⟨h1, by rw [Nat.testBit_and, h2, hu]; rfl⟩)
        · exact Nat.le_refl _
theorem W_and {n U : Nat} {c : Nat → Nat → Nat} (hU : Used n c U) (s : Nat) : W n c (s &&& U) = W n c s := (W_used hU _ s rfl).symm

/-- the first order of all that cost least -/
def ord (n : Nat) (c : Nat → Nat → Nat) : Nat → Nat → List Nat
  | 0, _ => []
  | f + 1, a => match (miss n a).find? fun v => c a v + B n c (setb a v true) == B n c a with
    | some v => v :: ord n c f (setb a v true)
    | none => []
theorem ord_step {n : Nat} {c : Nat → Nat → Nat} {f a : Nat} (h : miss n a ≠ []) : ∃ v, v ∈ miss n a ∧ c a v + B n c (setb a v true) = B n c a ∧ (∀ u ∈ miss n a, u < v → c a u + B n c (setb a u true) ≠ B n c a) ∧ ord n c (f + 1) a = v :: ord n c f (setb a v true) := by
  obtain ⟨w, hw, he⟩ := B_ex (c := c) h
  cases hf : (miss n a).find? fun v => c a v + B n c (setb a v true) == B n c a with
  | none =>
    rw [List.find?_eq_none] at hf
    exact absurd (by simpa using he.symm) (hf w hw)
  | some v =>
    have h1 := List.find?_some hf
    refine ⟨v, List.mem_of_find?_eq_some hf, by simpa using h1, fun u hu huv => ?_, by rw [ord, hf]⟩
    rw [List.find?_eq_some_iff_append] at hf
    obtain ⟨_, as, bs, hab, hno⟩ := hf
    have hs : (miss n a).Pairwise (· < ·) := List.Pairwise.filter _ List.pairwise_lt_range
    rw [hab] at hs hu
    rcases List.mem_append.1 hu with hu | hu
    · have := hno u hu; simpa using this
    · rw [List.pairwise_append] at hs
      have h2 := hs.2.1
      rw [List.pairwise_cons] at h2
      rcases List.mem_cons.1 hu with rfl | hu
      · omega
      · have := h2.1 u hu; omega
end Tab
/-
  The variables on which no function depends have no nodes, wherever they stand.
-/
set_option linter.unusedSimpArgs false
set_option linter.unusedVariables false
namespace Tab
open Go.Sx
theorem setb_comm {x u v : Nat} {b c : Bool} (h : u ≠ v) : setb (setb x u b) v c = setb (setb x v c) u b := by
  apply Nat.eq_of_testBit_eq; intro k
  rw [testBit_setb, testBit_setb, testBit_setb, testBit_setb]
  by_cases e1 : k = u <;> by_cases e2 : k = v
  · exact absurd (e1.symm.trans e2) h
  · simp [e1, h]
  · simp [e2, Ne.symm h]
  · simp [e1, e2]
theorem dep_cof {n u v : Nat} {ws : List Nat} {b : Bool} (hf : Frm n ws) (hu : u < n) (hv : v < n) (h : dep n ws v = false) : dep n (cof n ws u b) v = false := by
  by_cases e : u = v
  · subst e
    cases hd : dep n (cof n ws u b) u
    · rfl
    · obtain ⟨x, hx, hne⟩ := (dep_iff (frm_cof hf.n16) hu).1 hd
      rw [bit_cof hf hu (setb_lt hx hu), bit_cof hf hu (setb_lt hx hu)] at hne
      refine absurd ?_ hne
      congr 1
      apply Nat.eq_of_testBit_eq; intro k
      rw [testBit_setb, testBit_setb, testBit_setb, testBit_setb]
      by_cases e : k = u <;> simp [e]
  · cases hd : dep n (cof n ws u b) v
    · rfl
    · obtain ⟨x, hx, hne⟩ := (dep_iff (frm_cof hf.n16) hv).1 hd
      rw [bit_cof hf hu (setb_lt hx hv), bit_cof hf hu (setb_lt hx hv), setb_comm (Ne.symm e), setb_comm (Ne.symm e)] at hne
      have := (dep_iff hf hv).2 ⟨setb x u b, setb_lt hx hu, hne⟩
      rw [h] at this; cases this
theorem st_dep {n : Nat} {L : Fs} {A : Nat} (hL : ∀ t ∈ L, Frm n t) (hn : n ≤ 16) {v : Nat} (hv : v < n) (h : ∀ t ∈ L, dep n t v = false) : ∀ k, k ≤ n → ∀ t ∈ st n L A k, dep n t v = false
  | 0, _, t, ht => h t (mem_unlike.1 ht)
  | k + 1, hk, t, ht => by
    rw [st] at ht
    split at ht
    · obtain ⟨u, hu, b, rfl⟩ := mem_given.1 ht
      exact dep_cof (st_frm hL hn k u hu) (by omega) hv (st_dep hL hn hv h k (by omega) u hu)
    · exact st_dep hL hn hv h k (by omega) t ht
/-- the variables on which one of the functions depends -/
def usedP (n : Nat) (L : Fs) : Nat := L.foldl (fun u t => u ||| supp n t) 0
theorem testBit_foldl (n v : Nat) : ∀ (L : Fs) (u : Nat), (L.foldl (fun u t => u ||| supp n t) u).testBit v = (u.testBit v || L.any fun t => (supp n t).testBit v)
  | [], u => by simp
  | t :: L, u => by rw [List.foldl_cons, testBit_foldl n v L, Nat.testBit_or, List.any_cons, Bool.or_assoc]
theorem testBit_used {n v : Nat} {L : Fs} : (usedP n L).testBit v = L.any fun t => (supp n t).testBit v := by
  unfold usedP; rw [testBit_foldl]; simp
theorem used_false {n v : Nat} {L : Fs} (hv : v < n) (h : (usedP n L).testBit v = false) : ∀ t ∈ L, dep n t v = false := by
  rw [testBit_used, List.any_eq_false] at h
  intro t ht
  have := h t ht
  rw [supp, testBit_suppP] at this
  simpa [hv] using this
theorem foldl_lt (n : Nat) : ∀ (L : Fs) (u : Nat), u < 2 ^ n → L.foldl (fun u t => u ||| supp n t) u < 2 ^ n
  | [], u, h => h
  | t :: L, u, h => foldl_lt n L _ (Nat.or_lt_two_pow h (suppP_lt n t n))
theorem usedP_lt (n : Nat) (L : Fs) : usedP n L < 2 ^ n := foldl_lt n L 0 (Nat.two_pow_pos n)
theorem st_used {n : Nat} {L : Fs} {A : Nat} (hL : ∀ t ∈ L, Frm n t) (hn : n ≤ 16) : ∀ k, k ≤ n → ∀ x, x ∈ st n L A k ↔ x ∈ st n L (A &&& usedP n L) k
  | 0, _, x => Iff.rfl
  | k + 1, hk, x => by
    have ih := st_used (A := A) hL hn k (by omega)
    rw [st, st, Nat.testBit_and]
    cases hA : A.testBit k
    · simpa using ih x
    · cases hU : (usedP n L).testBit k
      · simp only [if_true, Bool.and_false, Bool.false_eq_true, if_false]
        rw [mem_given, ← ih x]
        have hd := st_dep (A := A) hL hn (v := k) (by omega) (used_false (by omega) hU) k (by omega)
        have hf := st_frm (A := A) hL hn k
        constructor
        · rintro ⟨t, ht, b, rfl⟩
          rw [cof_of_not_dep (hf t ht) (by omega) (hd t ht)]; exact ht
        · intro hx
          exact ⟨x, hx, false, (cof_of_not_dep (hf x hx) (by omega) (hd x hx)).symm⟩
      · simp only [Bool.and_true, if_true]
        rw [mem_given, mem_given]
        constructor
        · rintro ⟨t, ht, h⟩; exact ⟨t, (ih t).1 ht, h⟩
        · rintro ⟨t, ht, h⟩; exact ⟨t, (ih t).2 ht, h⟩
theorem used_ok {n : Nat} {L : Fs} (hL : ∀ t ∈ L, Frm n t) (hn : n ≤ 16) : Used n (lvl n L) (usedP n L) := by
  refine ⟨fun a v hv _ hU => ?_, fun a v hv _ => ?_⟩
  · unfold lvl nodes
    rw [List.length_eq_zero_iff, List.filter_eq_nil_iff]
    intro t ht
    rw [st_dep hL hn hv (used_false hv hU) n (Nat.le_refl _) t ht]; simp
  · exact nodes_perm (perm_of_same (st_nodup n L a n) (st_nodup n L _ n) (st_used hL hn n (Nat.le_refl _)))
end Tab
/-
  Keys that are arrays of whole numbers.
-/
set_option linter.unusedSimpArgs false
set_option linter.unusedVariables false
namespace Go.Sx
open Go
section
variable {P : Program}
theorem cellsOf_one {e : TypeId} {i : TypeInfo} (hi : P.info? e = some i) (hs : i.size = 1) : P.cellsOf e = 1 := by simp [Program.cellsOf, hi, hs]
theorem part_int {e : TypeId} {q : IntKind} (hu : P.underlying e = some (.int q)) {l : List Int} {j : Nat} {x : Int} (h : l[j]? = some x) (w : World) : (part e (icells q l) j).run P w = .ok (.int q x) w := by
  simp [part, isAgg, run_underlying hu, icells, h]
theorem eqItems_ints {e : TypeId} {q : IntKind} (hu : P.underlying e = some (.int q)) (hc : P.cellsOf e = 1) (d : Nat) (l l' : List Int) (w : World) : ∀ is : List Nat, (∀ i ∈ is, i < l.length ∧ i < l'.length) →
    (Op.eqItems (d + 1) e (P.cellsOf e) (icells q l) (icells q l') is).run P w = .ok (is.all fun i => l[i]? == l'[i]?) w
  | [], _ => by simp [Op.eqItems]
  | i :: is, h => by
    obtain ⟨h1, h2⟩ := h i (by simp)
    have g1 : l[i]? = some l[i] := List.getElem?_eq_getElem h1
    have g2 : l'[i]? = some l'[i] := List.getElem?_eq_getElem h2
    have p1 := part_int (P := P) hu g1 w
    have p2 := part_int (P := P) hu g2 w
    have p3 : (Op.equalIn (d + 1) e (.int q l[i]) (.int q l'[i])).run P w = .ok (l[i] == l'[i]) w := by
      simp only [Op.equalIn, Sem.run_bind, run_underlying hu, Result.andThen_ok, if_true, Sem.run_pure]
    have ih := eqItems_ints hu hc d l l' w is fun j hj => h j (by simp [hj])
    simp only [Op.eqItems, hc, Nat.mul_one, Sem.run_bind, p1, p2, p3, Result.andThen_ok] at ih ⊢
    rw [List.all_cons, g1, g2]
    cases hb : (l[i] == l'[i])
    · simp [hb]
    · simp [hb, ih]
theorem EqV.array {t e : TypeId} {q : IntKind} {n : Nat} (ht : P.underlying t = some (.array n e)) (hu : P.underlying e = some (.int q)) (hz : sizeD P e = some 1) (l l' : List Int) (h1 : l.length = n) (h2 : l'.length = n) :
    EqV P t (.agg (icells q l)) (.agg (icells q l')) (decide (l = l')) := by
  obtain ⟨i, hi, hs⟩ := sizeD_spec hz
  have hc := cellsOf_one hi hs
  intro w
  show (Op.equalIn (9998 + 1 + 1) t _ _).run P w = _
  rw [run_equalIn_array w (9998 + 1) _ _ ht hi, eqItems_ints hu hc 9998 l l' w _ (fun j hj => by have := List.mem_range.1 hj; omega)]
  congr 1
  rw [Bool.eq_iff_iff]
  simp only [List.all_eq_true, List.mem_range, decide_eq_true_eq, beq_iff_eq]
  constructor
  · intro h
    apply List.ext_getElem?
    intro j
    by_cases hj : j < n
    · exact h j hj
    · rw [List.getElem?_eq_none (by omega), List.getElem?_eq_none (by omega)]
  · rintro rfl j _; rfl
theorem ChkV.array {t e : TypeId} {q : IntKind} {n : Nat} (ht : P.underlying t = some (.array n e)) (hu : P.underlying e = some (.int q)) (hz : sizeD P e = some 1) (l : List Int) (h1 : l.length = n) : ChkV P t (.agg (icells q l)) := by
  obtain ⟨i, hi, hs⟩ := sizeD_spec hz
  intro b w
  have gen : ∀ d, (Instr.checkKey b (d + 1 + 1) t (.agg (icells q l))).run P w = .ok () w := by
    intro d
    have p2 : ∀ x : Int, (Instr.checkKey b (d + 1) e (.int q x)).run P w = .ok () w := fun x => by
      simp only [Instr.checkKey, Sem.run_bind, run_underlying hu, Result.andThen_ok, Sem.run_pure]
    unfold Instr.checkKey
    simp only [Sem.run_bind, run_underlying ht, Result.andThen_ok]
    simp only [Std.Legacy.Range.forIn_eq_forIn_range', Std.Legacy.Range.size, Nat.sub_zero, Nat.add_one_sub_one, Nat.div_one]
    have key : ∀ is : List Nat, (∀ j ∈ is, j < l.length) → (forIn is PUnit.unit fun j (_ : PUnit) => (do
          Instr.checkKey b (d + 1) e (← part e (icells q l) (j * (← sizeOf e)))
          pure (ForInStep.yield PUnit.unit) : Sem (ForInStep PUnit))).run P w = .ok PUnit.unit w := by
      intro is
      induction is with
      | nil => intro _; simp
      | cons j is ih =>
        intro h
        have p1 := part_int (P := P) hu (List.getElem?_eq_getElem (h j (by simp))) w
        simp only [List.forIn_cons, Sem.run_bind, run_sizeOf hi, Result.andThen_ok, hs, Nat.mul_one, p1, p2, Sem.run_pure]
        exact ih fun k hk => h k (by simp [hk])
    have := key (List.range' 0 n) (fun j hj => by have := List.mem_range'_1.1 hj; omega)
    rw [this]; rfl
  exact gen 9998
/-- an array of two numbers, laid out -/
theorem Build.two {t e : TypeId} {q : IntKind} {x y : Int} {K : Value → Prop} (ht : P.underlying t = some (.array 2 e)) (hz : sizeD P e = some 1) (h0 : zeroD P t = some (.agg (icells q [0, 0]))) (h : K (.agg (icells q [x, y]))) :
    Build P t [(0, .int q x), (1, .int q y)] K := by
  refine ⟨_, fun w => ?_, h⟩
  obtain ⟨i, hi, hs⟩ := sizeD_spec hz
  obtain ⟨i0, hi0, hz0⟩ := zeroD_spec h0
  simp only [Instr.build, Sem.run_bind, run_zero hi0 hz0, Result.andThen_ok, run_underlying ht, run_sizeOf hi, hs]
  simp [Instr.fill, Value.cells, icells]
end
end Go.Sx
/-
  'a | ^b' of whole numbers, bit by bit.
-/
set_option linter.unusedSimpArgs false
set_option linter.unusedVariables false
namespace Go.Sx
open Go
theorem ofInt_wrap (n : Int) : BitVec.ofInt 64 (IntKind.i64.wrap n) = BitVec.ofInt 64 n := by
  apply BitVec.eq_of_toNat_eq
  simp only [BitVec.toNat_ofInt, IntKind.wrap, IntKind.bits, IntKind.signed, Bool.true_and, decide_eq_true_eq]
  congr 1
  split <;> omega
theorem wrap_toInt (x : BitVec 64) : IntKind.i64.wrap (x.toNat : Int) = x.toInt := by
  rw [BitVec.toInt_eq_toNat_cond]
  have := x.isLt
  have e : (2 : Int) ^ (64 - 1) = 9223372036854775808 := rfl
  simp only [IntKind.wrap, IntKind.bits, IntKind.signed, Bool.true_and, decide_eq_true_eq, e]
  split <;> split <;> omega
theorem ofInt_bits (op : BinOp) (x y : Int) : BitVec.ofInt 64 (bits op .i64 x y) = (match op with
    | .and => BitVec.ofInt 64 x &&& BitVec.ofInt 64 y
    | .or => BitVec.ofInt 64 x ||| BitVec.ofInt 64 y
    | .xor => BitVec.ofInt 64 x ^^^ BitVec.ofInt 64 y
    | _ => BitVec.ofInt 64 x &&& ~~~BitVec.ofInt 64 y) := by
  unfold bits
  simp only [ofInt_wrap]
  rw [BitVec.ofInt_natCast]
  simp only [IntKind.bits]
  rw [BitVec.ofNat_toNat, BitVec.setWidth_eq]
  cases op <;> rfl
theorem bits_toInt (op : BinOp) (x y : Int) : bits op .i64 x y = (BitVec.ofInt 64 (bits op .i64 x y)).toInt := by
  unfold bits
  simp only [ofInt_wrap]
  rw [BitVec.ofInt_natCast]
  simp only [IntKind.bits]
  rw [BitVec.ofNat_toNat, BitVec.setWidth_eq]
  exact wrap_toInt _
theorem ornot_val {a U v : Nat} (ha : a < 4611686018427387904) (hU : U < 4611686018427387904) (hv : v < 62) :
    bits .and .i64 ((bits .or .i64 a (bits .xor .i64 (-1) U)).fdiv (2 ^ (min (v : Int).toNat IntKind.i64.bits))) 1 = if a.testBit v = true ∨ U.testBit v = false then 1 else 0 := by
  have hX := ofInt_bits .or (a : Int) (bits .xor .i64 (-1) U)
  simp only at hX
  have hN := ofInt_bits .xor (-1) (U : Int)
  simp only at hN
  rw [hN] at hX
  generalize hx : bits .or .i64 a (bits .xor .i64 (-1) U) = x at hX
  have hxi : x = (BitVec.ofInt 64 x).toInt := by rw [← hx]; exact bits_toInt _ _ _
  have hm : min (v : Int).toNat IntKind.i64.bits = v := by simp [IntKind.bits]; omega
  rw [hm]
  have hs : x.fdiv (2 ^ v) = ((BitVec.ofInt 64 x).sshiftRight v).toInt := by
    rw [BitVec.toInt_sshiftRight, ← hxi, Int.shiftRight_eq_div_pow, Int.fdiv_eq_ediv_of_nonneg _ (Int.le_of_lt (Int.pow_pos (by decide)))]
    push_cast; rfl
  rw [hs, bits_toInt, ofInt_bits]
  simp only [BitVec.ofInt_toInt]
  rw [hX]
  have h1 : BitVec.ofInt 64 (1 : Int) = 1#64 := rfl
  have h2 : BitVec.ofInt 64 (-1 : Int) = BitVec.allOnes 64 := by decide
  rw [h1, h2]
  have hbit : ((BitVec.ofInt 64 (a : Int) ||| BitVec.allOnes 64 ^^^ BitVec.ofInt 64 (U : Int)).sshiftRight v).getLsbD 0 = (a.testBit v || !U.testBit v) := by
    rw [BitVec.getLsbD_sshiftRight]
    have e1 : v + 0 < 64 := by omega
    simp only [Nat.add_zero, show ¬ (64 ≤ 0) from by decide, decide_false, Bool.not_false, Bool.true_and, show v < 64 by omega, if_true]
    rw [BitVec.getLsbD_or, BitVec.getLsbD_xor, BitVec.getLsbD_allOnes, BitVec.ofInt_natCast, BitVec.ofInt_natCast, BitVec.getLsbD_ofNat, BitVec.getLsbD_ofNat]
    simp [show v < 64 by omega]
  have hfin : ∀ y : BitVec 64, (y &&& 1#64).toInt = if y.getLsbD 0 then 1 else 0 := by
    intro y
    have : y &&& 1#64 = if y.getLsbD 0 then 1#64 else 0#64 := by
      apply BitVec.eq_of_getLsbD_eq
      intro i hi
      rw [BitVec.getLsbD_and]
      by_cases h0 : i = 0
      · subst h0; cases hb : y.getLsbD 0 <;> simp [hb]
      · have : (1#64).getLsbD i = false := by simp [BitVec.getLsbD_one, h0]
        rw [this]
        cases y.getLsbD 0 <;> simp [this]
    rw [this]
    cases y.getLsbD 0 <;> decide
  rw [hfin, hbit]
  cases a.testBit v <;> cases U.testBit v <;> simp
theorem ornot {a U v : Nat} (ha : a < 4611686018427387904) (hU : U < 4611686018427387904) (hv : v < 62) {k : Value → Prop} (h : k (.bool (decide (a.testBit v = true ∨ U.testBit v = false)))) :
    Un .xor (.int .i64 (U : Int)) fun v33 => Bin .num .or (.int .i64 (a : Int)) v33 fun v34 => Bin .num .shr v34 (.int .i64 (v : Int)) fun v35 => Bin .num .and v35 (.int .i64 1) fun v36 => Bin .num .eql v36 (.int .i64 1) k := by
  refine ⟨_, rfl, _, rfl, ?_⟩
  have h0 : ¬ ((v : Int) < 0) := by omega
  refine ⟨_, by simp only [binV, h0, if_false]; rfl, _, rfl, ?_⟩
  refine Bin.eqD ?_
  have hs : (if IntKind.i64.signed = true then (-1 : Int) else IntKind.i64.max) = -1 := rfl
  rw [hs, ornot_val ha hU hv]
  by_cases hc : a.testBit v = true ∨ U.testBit v = false
  · rw [if_pos hc]; rw [decide_eq_true hc] at h; exact h
  · rw [if_neg hc]; rw [decide_eq_false hc] at h; exact h
end Go.Sx
/-
  'append(s, x...)' where s owns its array; small built slices.
-/
set_option linter.unusedSimpArgs false
set_option linter.unusedVariables false
namespace Go.Sx
open Go
section
variable {P : Program} {g : Gh} {H : Hp}
theorem SOwn.apps {elem k bytes : Nat} {zero : Value} {v : Value} {rs : List (List Value)} {C A B : Hp} (h : SOwn elem k v rs C) {xa : Option Addr} {xc : Nat} {r2 : List (List Value)}
    (hx : Cells (A ++ (C ++ B)) xa (r2.length * k) (rows r2)) (hr : ∀ r ∈ r2, r.length = k) (h1 : ∀ r ∈ r2, ∀ u ∈ r, u.oneCell' = true) (hz : ∃ z : List Value, zero.cells = z.toArray ∧ z.length = k)
    (hb : (rs.length + r2.length) * bytes ≤ 140737488355328) (hmax : rs.length + r2.length ≤ 9223372036854775807) {K : Value → Hp → Prop}
    (hk : ∀ v' C', SOwn elem k v' (rs ++ r2) C' → K v' (A ++ (C' ++ B))) : App P elem k bytes zero (A ++ (C ++ B)) v (.slice xa r2.length xc) K := by
  obtain ⟨z, hz1, hz2⟩ := hz
  have hnone : ∀ u ∈ (rows r2).toList, u.oneCell' = true := by
    intro u hu
    simp only [rows, List.mem_flatten] at hu
    obtain ⟨r, h2, h3⟩ := hu
    exact h1 r h2 u h3
  rcases h with ⟨rfl, rfl, rfl⟩ | ⟨b, junk, rfl, rfl, hall⟩
  · refine ⟨none, 0, 0, xa, r2.length, xc, #[], rows r2, rfl, rfl, rfl, hx, rows_size hr, by simp, hnone, fun h => ?_, fun _ => ⟨by simpa using hb, by simpa using hmax, fun newcap hn b hbf => ?_⟩⟩
    · have : r2 = [] := List.eq_nil_of_length_eq_zero (by omega)
      subst this
      exact hk _ [] (.inl ⟨rfl, rfl, rfl⟩)
    · rw [show (#[] : Array Value) ++ rows r2 ++ Builtin.zeroCells zero.cells (newcap - (0 + r2.length)) = rows ([] ++ r2 ++ List.replicate (newcap - r2.length) z) by rw [hz1, zeroRows z hz2]; simp only [Nat.zero_add, Array.empty_append, List.nil_append]; rw [rows_append]]
      refine ⟨_, Ent.swap3 [(b, _)] A B, hk _ [(b, _)] (.inr ⟨b, List.replicate (newcap - r2.length) z, ?_, rfl, ?_⟩)⟩
      · simp; omega
      · intro x hx
        rcases List.mem_append.1 hx with hx | hx
        · exact hr x hx
        · rw [List.eq_of_mem_replicate hx, hz2]
  · have hsz := rows_size hall
    have hallr : ∀ x ∈ rs, x.length = k := fun x hx => hall x (by simp [hx])
    have hold : rows rs = (rows (rs ++ junk)).extract 0 (0 + rs.length * k) := by
      rw [← rows_append]
      apply Array.ext'
      have := rows_size hallr
      have h2 : (rows rs).toList.length = rs.length * k := by rw [Array.length_toList]; exact this
      rw [Array.toList_extract, Array.toList_append, List.extract_eq_take_drop, List.drop_zero, Nat.zero_add, Nat.sub_zero, ← h2, List.take_left]
    refine ⟨some ⟨b, 0, none⟩, rs.length, rs.length + junk.length, xa, r2.length, xc, rows rs, rows r2, rfl, rfl, .inr ⟨rfl, _, elem, (0, 0), by simp, ?_, hold⟩, hx, rows_size hr, rows_size hallr, hnone, fun hfit => ?_, fun hgrow => ⟨hb, by omega, fun newcap hn b' hbf => ?_⟩⟩
    · rw [hsz]; simp only [List.length_append, Nat.zero_add]; exact Nat.mul_le_mul_right _ (by omega)
    · obtain ⟨j1, j2, rfl, hj⟩ : ∃ j1 j2, junk = j1 ++ j2 ∧ j1.length = r2.length := ⟨junk.take r2.length, junk.drop r2.length, (List.take_append_drop _ _).symm, by rw [List.length_take]; omega⟩
      have hallj : ∀ x ∈ j1, x.length = k := fun x hx => hall x (by simp [hx])
      refine ⟨_, elem, _, rfl, ?_, ((Upd.head _).append B).prepend A, hk _ [(b, _)] (.inr ⟨b, j2, ?_, ?_, ?_⟩)⟩
      · rw [hsz, List.length_append, List.length_append, hj, Nat.add_mul, Nat.add_mul]
        show 0 + rs.length * k + r2.length * k ≤ _
        omega
      · simp; omega
      · have e : (⟨b, 0, none⟩ : Addr).off + rs.length * k = rs.length * k := by simp
        have l1 := flatten_length rs hallr
        have l2 := flatten_length j1 hallj
        have l3 := flatten_length r2 hr
        have e2 : over (rows (rs ++ (j1 ++ j2))) (rs.length * k) (rows r2).toList = rows (rs ++ r2 ++ j2) := by
          unfold rows
          rw [List.flatten_append, List.flatten_append, List.toList_toArray, over_eq _ _ _ (by rw [List.length_append, List.length_append, l1, l2, l3, hj]; omega)]
          congr 1
          rw [List.flatten_append, List.flatten_append, ← l1, List.take_left, l3, ← hj, ← l2, List.drop_append, ← List.append_assoc]
          simp [List.drop_append]
        rw [e, e2]
      · intro x hx
        simp only [List.append_assoc, List.mem_append] at hx
        rcases hx with hx | hx | hx
        · exact hallr x hx
        · exact hr x hx
        · exact hall x (by simp [hx])
    · refine ⟨A ++ ([(b', _)] ++ B), ?_, hk _ [(b', _)] (.inr ⟨b', List.replicate (newcap - (rs.length + r2.length)) z, ?_, rfl, ?_⟩)⟩
      · rw [hz1, zeroRows z hz2, rows_append, rows_append]
        exact fun g w h => (Ent.segs [[_], A, [_], B] [[_], A, [_], B] ((List.perm_append_comm (l₁ := [_, A]) (l₂ := [_])).append_right [B] |>.trans (.cons _ (.swap _ _ _)) ) g w h).tail
      · simp; omega
      · intro x hx
        rcases List.mem_append.1 hx with hx | hx
        · rcases List.mem_append.1 hx with hx | hx
          · exact hallr x hx
          · exact hr x hx
        · rw [List.eq_of_mem_replicate hx, hz2]
/-- whole numbers in a slice of one's own -/
def IOwn (T : TypeId) (kd : IntKind) (v : Value) (l : List Int) (C : Hp) : Prop := SOwn T 1 v (l.map fun n => [Value.int kd n]) C
theorem IOwn.nil {T : TypeId} {kd : IntKind} : IOwn T kd (.slice none 0 0) [] [] := SOwn.nil _ _
theorem IOwn.lenS {T : TypeId} {kd : IntKind} {v : Value} {l : List Int} {C : Hp} (h : IOwn T kd v l C) {K : Value → Prop} (hk : K (.int .i64 l.length)) : LenS v K := SOwn.lenS h (by simpa using hk)
theorem IOwn.ints {T : TypeId} {kd : IntKind} {v : Value} {l : List Int} {C : Hp} (h : IOwn T kd v l C) : Ints kd C v l := Sl.ofOwn h (by decide)
theorem IOwn.app {T : TypeId} {kd : IntKind} {v : Value} {l : List Int} {C A B : Hp} {bytes : Nat} (h : IOwn T kd v l C) {xb xc : Nat} {x : Int} {xT : TypeId} {fz : Nat × Nat} (hx : (xb, Obj.cells (icells kd [x]) xT fz) ∈ A ++ (C ++ B))
    (hb : (l.length + 1) * bytes ≤ 140737488355328) (hm : l.length + 1 ≤ 9223372036854775807) {K : Value → Hp → Prop} (hk : ∀ v' C', IOwn T kd v' (l ++ [x]) C' → K v' (A ++ (C' ++ B))) : App P T 1 bytes (.int kd 0) (A ++ (C ++ B)) v (.slice (some ⟨xb, 0, none⟩) 1 xc) K :=
  SOwn.app' (r := [.int kd x]) h hx rfl (by simp [Value.oneCell']) ⟨[.int kd 0], rfl, rfl⟩ (by simpa using hb) (by simpa using hm) fun v' C' ho => hk v' C' (by unfold IOwn; simpa using ho)
/-- 'append(s, x...)' of whole numbers -/
theorem IOwn.apps {T : TypeId} {kd : IntKind} {v x : Value} {l l2 : List Int} {C A B : Hp} {bytes : Nat} (h : IOwn T kd v l C) (hx : Ints kd (A ++ (C ++ B)) x l2)
    (hb : (l.length + l2.length) * bytes ≤ 140737488355328) (hm : l.length + l2.length ≤ 9223372036854775807) {K : Value → Hp → Prop} (hk : ∀ v' C', IOwn T kd v' (l ++ l2) C' → K v' (A ++ (C' ++ B))) : App P T 1 bytes (.int kd 0) (A ++ (C ++ B)) v x K := by
  obtain ⟨a, cap, rfl, hc⟩ := Sl.cells hx
  exact SOwn.apps h hc (by simp) (by simp [Value.oneCell']) ⟨[.int kd 0], rfl, rfl⟩ (by simpa using hb) (by simpa using hm) fun v' C' ho => hk v' C' (by unfold IOwn; rw [List.map_append]; exact ho)
theorem BuildSl.ints3 {t e : Nat} {kd : IntKind} {x y z : Int} {K : Value → Hp → Prop} (h1 : P.underlying t = some (.slice e)) (h2 : sizeD P e = some 1) (h3 : zeroD P e = some (.int kd 0))
    (h : ∀ b, K (.slice (some ⟨b, 0, Option.none⟩) 3 3) ((b, .cells (icells kd [x, y, z]) e (0, 0)) :: H)) : BuildSl P t 3 [(0, .int kd x), (1, .int kd y), (2, .int kd z)] H K := by
  refine ⟨icells kd [x, y, z], e, 1, _, h1, h2, h3, by decide, ?_, fun b _ => h b⟩
  have e1 : Array.range (3 * 1) = #[0, 1, 2] := rfl
  simp [Instr.fill, Value.cells, icells, e1]
end
end Go.Sx
