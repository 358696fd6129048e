/-
  Rules for proving a listing, and words for memory that a piece of heap holds (rows of equal length; slices that own their array).
-/
import Derived.Test.YtbockhcoeefobaaSxI
set_option linter.unusedSimpArgs false
set_option linter.unusedVariables false
namespace Go.Sx
open Go
section
variable {P : Program} {g : World} {H : Hp}

theorem Nil.ptr {a : Addr} {k : Value → Prop} (h : k (.pointer (some a))) : Nil (.pointer (some a)) k := ⟨_, rfl, h⟩
theorem FAddr.mk {b o off : Nat} {k : Value → Prop} (h : k (.pointer (some ⟨b, o + off, none⟩))) : FAddr off (.pointer (some ⟨b, o, none⟩)) k := ⟨b, o, rfl, h⟩
theorem Ld.mk {b off : Nat} {c : Array Value} {T : TypeId} {fz : Nat × Nat} {v : Value} {k : Value → Prop} (hm : (b, Obj.cells c T fz) ∈ H) (hc : c[off]? = some v) (h : k v) : Ld H (.pointer (some ⟨b, off, none⟩)) k :=
  ⟨b, off, c, T, fz, v, rfl, hm, hc, h⟩
theorem LdA.mk {b off n : Nat} {c : Array Value} {T : TypeId} {fz : Nat × Nat} {vs : Array Value} {k : Value → Prop} (hm : (b, Obj.cells c T fz) ∈ H) (hs : off + n ≤ c.size) (hc : c.extract off (off + n) = vs) (h : k (.agg vs)) : LdA n H (.pointer (some ⟨b, off, none⟩)) k :=
  ⟨b, off, c, T, fz, rfl, hm, hs, by rw [hc]; exact h⟩
theorem St.mk {b off n : Nat} {c : Array Value} {T : TypeId} {x : Value} {c' : Array Value} {H' : Hp} {k : Hp → Prop} (hu : Upd b (.cells c T (0, 0)) (.cells c' T (0, 0)) H H') (hx : x.cells.size = n) (hs : off + n ≤ c.size)
    (h1 : ∀ v ∈ x.cells.toList, v.oneCell' = true) (hc : over c off x.cells.toList = c') (h : k H') : St n H (.pointer (some ⟨b, off, none⟩)) x k :=
  ⟨b, off, c, T, H', rfl, hx, hs, h1, by rw [hc]; exact hu, h⟩
theorem JE.mk {J : List Value → Hp → Prop} {vs : List Value} (h : J vs H) : JE J vs H := ⟨H, .refl _, h⟩
theorem JE.of {J : List Value → Hp → Prop} {vs : List Value} {H' : Hp} (e : Ent H H') (h : J vs H') : JE J vs H := ⟨H', e, h⟩
theorem Back.mk {I : List Value → Hp → Prop} {m : List Value → Hp → Nat} {vs' vs : List Value} {H0 : Hp} (h : I vs' H) (hm : m vs' H < m vs H0) : Back I m vs' H vs H0 := ⟨H, .refl _, h, hm⟩
theorem Back.of {I : List Value → Hp → Prop} {m : List Value → Hp → Nat} {vs' vs : List Value} {H' H0 : Hp} (e : Ent H H') (h : I vs' H') (hm : m vs' H' < m vs H0) : Back I m vs' H vs H0 := ⟨H', e, h, hm⟩
theorem Br.mk {b : Bool} {t f : Prop} (h1 : b = true → t) (h2 : b = false → f) : Br (.bool b) t f := ⟨b, rfl, h1, h2⟩
theorem Br.yes {t f : Prop} (h1 : t) : Br (.bool true) t f := ⟨true, rfl, fun _ => h1, fun h => by simp at h⟩
theorem Br.no {t f : Prop} (h1 : f) : Br (.bool false) t f := ⟨false, rfl, fun h => by simp at h, fun _ => h1⟩
theorem Br.yes' {b : Bool} {t f : Prop} (hb : b = true) (h1 : t) : Br (.bool b) t f := by subst hb; exact Br.yes h1
theorem Br.no' {b : Bool} {t f : Prop} (hb : b = false) (h1 : f) : Br (.bool b) t f := by subst hb; exact Br.no h1
theorem Grp.mk {a : Bool} {want : Bool} {inner els k : Bool → Prop} (t : Bool) (h1 : a = want → inner t) (h2 : a = !want → els t) (h3 : k t) : Grp (.bool a) want inner els k := ⟨a, t, rfl, h1, h2, h3⟩
/-- 'a && b' -/
theorem Grp.and {a : Bool} {inner els k : Bool → Prop} (b : Bool) (h1 : a = true → inner b) (h2 : els false) (h3 : k (a && b)) : Grp (.bool a) true inner els k :=
  ⟨a, a && b, rfl, fun e => by subst e; exact h1 rfl, fun e => by subst e; exact h2, h3⟩
/-- 'a || b' -/
theorem Grp.or {a : Bool} {inner els k : Bool → Prop} (b : Bool) (h1 : a = false → inner b) (h2 : els true) (h3 : k (a || b)) : Grp (.bool a) false inner els k :=
  ⟨a, a || b, rfl, fun e => by subst e; exact h1 rfl, fun e => by subst e; exact h2, h3⟩
theorem Split.mk {a : Bool} {want : Bool} {k1 k2 : Prop} (h1 : a = want → k1) (h2 : a = !want → k2) : Split (.bool a) want k1 k2 := ⟨a, rfl, h1, h2⟩
theorem Split.go {a : Bool} {want : Bool} {k1 k2 : Prop} (e : a = want) (h1 : k1) : Split (.bool a) want k1 k2 := ⟨a, rfl, fun _ => h1, fun e' => by subst e; cases a <;> simp at e'⟩
theorem Split.past {a : Bool} {want : Bool} {k1 k2 : Prop} (e : a = !want) (h1 : k2) : Split (.bool a) want k1 k2 := ⟨a, rfl, fun e' => by subst e'; cases a <;> simp at e, fun _ => h1⟩
theorem Pick.mk {t : Bool} {a b : Value} {k : Value → Prop} (h : k (cond t a b)) : Pick (.bool t) a b k := ⟨t, rfl, h⟩
theorem Un.not {b : Bool} {k : Value → Prop} (h : k (.bool !b)) : Un .not (.bool b) k := ⟨_, rfl, h⟩
theorem Ext.mk {i : Nat} {vs : Array Value} {v : Value} {k : Value → Prop} (hv : vs[i]? = some v) (h : k v) : Ext i (.tuple vs) k := ⟨vs, v, rfl, hv, h⟩
theorem LenS.mk {a : Option Addr} {n c : Nat} {k : Value → Prop} (h : k (.int .i64 n)) : LenS (.slice a n c) k := ⟨a, n, c, rfl, h⟩
theorem ConvI.mk {kd j : IntKind} {n : Int} {k : Value → Prop} (h : k (.int kd (kd.wrap n))) : ConvI kd (.int j n) k := ⟨j, n, rfl, h⟩
theorem ConvI.of {kd j : IntKind} {n m : Int} {k : Value → Prop} (e : kd.wrap n = m) (h : k (.int kd m)) : ConvI kd (.int j n) k := ⟨j, n, rfl, by rw [e]; exact h⟩
theorem Fld.mk {off : Nat} {cs : Array Value} {v : Value} {k : Value → Prop} (hc : cs[off]? = some v) (h : k v) : Fld off (.agg cs) k := ⟨cs, v, rfl, hc, h⟩
theorem FldA.mk {off n : Nat} {cs vs : Array Value} {k : Value → Prop} (hc : cs.extract off (off + n) = vs) (h : k (.agg vs)) : FldA off n (.agg cs) k := ⟨cs, rfl, by rw [hc]; exact h⟩
theorem IAddr.mk {size b o n c : Nat} {kd : IntKind} {i : Int} {k : Value → Prop} (h0 : 0 ≤ i) (h1 : i < (n : Int)) (h : k (.pointer (some ⟨b, o + i.toNat * size, none⟩))) : IAddr size (.slice (some ⟨b, o, none⟩) n c) (.int kd i) k :=
  ⟨b, o, n, c, kd, i, rfl, rfl, h0, h1, h⟩
theorem IAddr.nat {size b o n c : Nat} {kd : IntKind} {j : Nat} {k : Value → Prop} (h1 : j < n) (h : k (.pointer (some ⟨b, o + j * size, none⟩))) : IAddr size (.slice (some ⟨b, o, none⟩) n c) (.int kd (j : Int)) k :=
  IAddr.mk (Int.natCast_nonneg j) (by omega) (by simpa using h)
theorem IAddr.of {size b o n c : Nat} {kd : IntKind} {i : Int} {k : Value → Prop} (j : Nat) (e : i = (j : Int)) (h1 : j < n) (h : k (.pointer (some ⟨b, o + j * size, none⟩))) : IAddr size (.slice (some ⟨b, o, none⟩) n c) (.int kd i) k := by
  subst e; exact IAddr.nat h1 h
/-! numbers -/
theorem Bin.num {op : BinOp} {kd : IntKind} {a b : Int} {v : Value} {k : Value → Prop} (e : binV .num op (.int kd a) (.int kd b) = some v) (h : k v) : Bin .num op (.int kd a) (.int kd b) k := ⟨v, e, h⟩
theorem Bin.eql {kd : IntKind} {a b : Int} {k : Value → Prop} (h : k (.bool (a == b))) : Bin .num .eql (.int kd a) (.int kd b) k := ⟨_, by simp [binV, intV], h⟩
theorem Bin.neq {kd : IntKind} {a b : Int} {k : Value → Prop} (h : k (.bool (a != b))) : Bin .num .neq (.int kd a) (.int kd b) k := ⟨_, by simp [binV, intV], h⟩
theorem Bin.lss {kd : IntKind} {a b : Int} {k : Value → Prop} (h : k (.bool (decide (a < b)))) : Bin .num .lss (.int kd a) (.int kd b) k := ⟨_, by simp [binV, intV], h⟩
theorem Bin.leq {kd : IntKind} {a b : Int} {k : Value → Prop} (h : k (.bool (decide (a ≤ b)))) : Bin .num .leq (.int kd a) (.int kd b) k := ⟨_, by simp [binV, intV], h⟩
theorem Bin.gtr {kd : IntKind} {a b : Int} {k : Value → Prop} (h : k (.bool (decide (b < a)))) : Bin .num .gtr (.int kd a) (.int kd b) k := ⟨_, by simp [binV, intV], h⟩
theorem Bin.geq {kd : IntKind} {a b : Int} {k : Value → Prop} (h : k (.bool (decide (b ≤ a)))) : Bin .num .geq (.int kd a) (.int kd b) k := ⟨_, by simp [binV, intV], h⟩
theorem Bin.add {kd : IntKind} {a b : Int} {k : Value → Prop} (h : k (.int kd (kd.wrap (a + b)))) : Bin .num .add (.int kd a) (.int kd b) k := ⟨_, by simp [binV, intV], h⟩
theorem Bin.sub {kd : IntKind} {a b : Int} {k : Value → Prop} (h : k (.int kd (kd.wrap (a - b)))) : Bin .num .sub (.int kd a) (.int kd b) k := ⟨_, by simp [binV, intV], h⟩
theorem Bin.mul {kd : IntKind} {a b : Int} {k : Value → Prop} (h : k (.int kd (kd.wrap (a * b)))) : Bin .num .mul (.int kd a) (.int kd b) k := ⟨_, by simp [binV, intV], h⟩
theorem wrap_i64 {a : Int} (h : -9223372036854775808 ≤ a ∧ a ≤ 9223372036854775807) : IntKind.i64.wrap a = a := IntWalk.i64_in _ h
theorem Bin.add64 {a b : Int} {c : Int} {k : Value → Prop} (e : a + b = c) (hb : -9223372036854775808 ≤ c ∧ c ≤ 9223372036854775807) (h : k (.int .i64 c)) : Bin .num .add (.int .i64 a) (.int .i64 b) k :=
  Bin.add (by rw [e, wrap_i64 hb]; exact h)
theorem Bin.sub64 {a b : Int} {c : Int} {k : Value → Prop} (e : a - b = c) (hb : -9223372036854775808 ≤ c ∧ c ≤ 9223372036854775807) (h : k (.int .i64 c)) : Bin .num .sub (.int .i64 a) (.int .i64 b) k :=
  Bin.sub (by rw [e, wrap_i64 hb]; exact h)
theorem Bin.mul64 {a b : Int} {c : Int} {k : Value → Prop} (e : a * b = c) (hb : -9223372036854775808 ≤ c ∧ c ≤ 9223372036854775807) (h : k (.int .i64 c)) : Bin .num .mul (.int .i64 a) (.int .i64 b) k :=
  Bin.mul (by rw [e, wrap_i64 hb]; exact h)
theorem Bin.quo64 {a b : Int} {c : Int} {k : Value → Prop} (hb0 : b ≠ 0) (e : a.tdiv b = c) (hb : -9223372036854775808 ≤ c ∧ c ≤ 9223372036854775807) (h : k (.int .i64 c)) : Bin .num .quo (.int .i64 a) (.int .i64 b) k :=
  ⟨.int .i64 c, by simp [binV, intV, hb0, e, wrap_i64 hb], h⟩
theorem Bin.rem64 {kd : IntKind} {a b : Int} {c : Int} {k : Value → Prop} (hb0 : b ≠ 0) (e : a.tmod b = c) (h : k (.int kd c)) : Bin .num .rem (.int kd a) (.int kd b) k :=
  ⟨.int kd c, by simp [binV, intV, hb0, e], h⟩
theorem Bin.ptrNil {a : Addr} {k : Value → Prop} (h : k (.bool false)) : Bin .ptr .eql (.pointer (some a)) (.pointer none) k := ⟨.bool false, by simp [binV], h⟩
theorem Bin.nilNil {k : Value → Prop} (h : k (.bool true)) : Bin .ptr .eql (.pointer none) (.pointer none) k := ⟨.bool true, by simp [binV], h⟩
theorem Bin.ptrNilN {a : Addr} {k : Value → Prop} (h : k (.bool true)) : Bin .ptr .neq (.pointer (some a)) (.pointer none) k := ⟨.bool true, by simp [binV], h⟩
theorem Bin.mapNil {a : Option Nat} {k : Value → Prop} (h : k (.bool a.isNone)) : Bin .map .eql (.map a) (.map none) k := ⟨.bool a.isNone, by simp [binV], h⟩
theorem Bin.eqlB {a b : Bool} {k : Value → Prop} (h : k (.bool (a == b))) : Bin .bool .eql (.bool a) (.bool b) k := ⟨_, by simp [binV], h⟩
theorem Bin.neqB {a b : Bool} {k : Value → Prop} (h : k (.bool (!(a == b)))) : Bin .bool .neq (.bool a) (.bool b) k := ⟨_, by simp [binV], h⟩

/-! calls -/
theorem CallF.by {f : FuncId} {args : Array Value} {H1 : Hp} {R1 : Ending → Hp → Prop} {K : Value → Hp → Prop} {KP : List PanicEntry → Hp → Prop} (he : Ent H H1) (h : SCalls P g f args H1 R1) (hk : ∀ e H', R1 e H' → Kend K KP e H') :
    CallF P g f args H K KP := (h.pre he).mono hk
theorem CallF.at {f : FuncId} {args : Array Value} {H1 : Hp} {R1 : Ending → Hp → Prop} {K : Value → Hp → Prop} {KP : List PanicEntry → Hp → Prop} (he : Ent H H1) (h : SCalls P g f args H1 R1) (hk : ∀ e H', R1 e H' → ∃ H'', Ent H' H'' ∧ Kend K KP e H'') :
    CallF P g f args H K KP := (h.pre he).post hk
theorem Ent.swap3 (A B C : Hp) : Ent (A ++ (B ++ C)) (B ++ (A ++ C)) := .perm (by rw [← List.append_assoc, ← List.append_assoc]; exact List.perm_append_comm.append_right C)
/-- a call that only reads: its answer is v, and the piece is there behind it -/
def CalmQ (P : Program) (g : World) (f : FuncId) (args : Array Value) (H : Hp) (v : Value) : Prop := SCalls P g f args H (fun e H' => e = .returned v ∧ Ent H' H)
theorem CallQ.by {f : FuncId} {args : Array Value} {v : Value} {k : Value → Prop} (h : CalmQ P g f args H v) (hk : k v) : CallQ P g f args H k :=
  ⟨v, h.post fun e H' ⟨h1, h2⟩ => ⟨H, h2, h1, rfl⟩, hk⟩
theorem CallF.pure {f : FuncId} {args : Array Value} {v : Value} {K : Value → Hp → Prop} {KP : List PanicEntry → Hp → Prop} (h : CalmQ P g f args H v) (hk : K v H) : CallF P g f args H K KP :=
  h.post fun e H' ⟨h1, h2⟩ => ⟨H, h2, by subst h1; exact hk⟩
theorem Ent.append_left {A B C : Hp} (h : ∀ g w, Own g (A ++ C) w → Own g (B ++ C) w) : Ent (A ++ C) (B ++ C) := h
/-- the pieces of a heap in another order -/
def flat : List Hp → Hp
  | [] => []
  | [a] => a
  | a :: b :: r => a ++ flat (b :: r)
theorem flat_perm : ∀ (l : List Hp), (flat l).Perm l.flatten
  | [] => .refl _
  | [a] => by simp [flat]
  | a :: b :: r => by
    simp only [flat, List.flatten_cons]
    exact List.Perm.append_left _ (by simpa using flat_perm (b :: r))
theorem Ent.segs (S T : List Hp) (h : S.Perm T) : Ent (flat S) (flat T) :=
  .perm ((flat_perm S).trans (h.flatten.trans (flat_perm T).symm))
theorem Ent.drop (a : Hp) (b : Hp) (r : List Hp) : Ent (flat (a :: b :: r)) (flat (b :: r)) := Ent.right

/-! rows of k cells -/
/-- a list of rows as one array -/
def rows (l : List (List Value)) : Array Value := l.flatten.toArray
theorem flatten_get {k : Nat} : ∀ (l : List (List Value)) (i j : Nat), (∀ r ∈ l, r.length = k) → j < k → l.flatten[i * k + j]? = (l[i]?).bind (·[j]?)
  | [], i, j, _, _ => by simp
  | r :: l, 0, j, h, hj => by
    have := h r (by simp)
    simp [List.getElem?_append, this, hj]
  | r :: l, i + 1, j, h, hj => by
    have hr := h r (by simp)
    have ih := flatten_get l i j (fun x hx => h x (by simp [hx])) hj
    rw [List.flatten_cons, List.getElem?_append_right (by rw [hr, Nat.succ_mul]; omega), hr, show (i + 1) * k + j - k = i * k + j by rw [Nat.succ_mul]; omega, ih]
    simp
theorem flatten_length {k : Nat} : ∀ (l : List (List Value)), (∀ r ∈ l, r.length = k) → l.flatten.length = l.length * k
  | [], _ => by simp
  | r :: l, h => by
    have hr := h r (by simp)
    rw [List.flatten_cons, List.length_append, hr, flatten_length l (fun x hx => h x (by simp [hx]))]
    simp [Nat.succ_mul]; omega
theorem rows_size {k : Nat} {l : List (List Value)} (h : ∀ r ∈ l, r.length = k) : (rows l).size = l.length * k := by simp [rows, flatten_length l h]
theorem rows_get {k : Nat} {l : List (List Value)} (h : ∀ r ∈ l, r.length = k) {i j : Nat} (hj : j < k) : (rows l)[i * k + j]? = (l[i]?).bind (·[j]?) := by
  simp only [rows, List.getElem?_toArray]; exact flatten_get l i j h hj
theorem rows_extract {k : Nat} {l : List (List Value)} (h : ∀ r ∈ l, r.length = k) {i : Nat} {r : List Value} (hi : l[i]? = some r) : (rows l).extract (i * k) (i * k + k) = r.toArray := by
  have hr := h r (List.mem_of_getElem? hi)
  have hlt := (List.getElem?_eq_some_iff.1 hi).1
  apply Array.ext'
  apply List.ext_getElem?
  intro j
  by_cases hj : j < k
  · have := rows_get h (i := i) hj
    rw [Array.getElem?_toList, Array.getElem?_extract]
    rw [if_pos (by rw [rows_size h]; have := Nat.mul_le_mul_right k (Nat.succ_le_of_lt hlt); rw [Nat.succ_mul] at this; omega), this, hi]
    simp
  · rw [List.getElem?_eq_none (by simp; omega), List.getElem?_eq_none (by simp; omega)]
theorem over_eq : ∀ (vs : List Value) (c : List Value) (off : Nat), off + vs.length ≤ c.length → over c.toArray off vs = (c.take off ++ vs ++ c.drop (off + vs.length)).toArray
  | [], c, off, _ => by simp [over]
  | v :: r, c, off, h => by
    simp only [List.length_cons] at h
    have hl : off < c.length := by omega
    have : c.toArray.setIfInBounds off v = (c.set off v).toArray := by simp
    rw [over, this, over_eq r (c.set off v) (off + 1) (by simp only [List.length_set]; omega)]
    congr 1
    have e1 : (c.set off v).take (off + 1) = c.take off ++ [v] := by
      rw [List.set_eq_take_append_cons_drop, if_pos hl, List.take_append]
      simp [List.take_take, hl, Nat.min_eq_left (Nat.le_of_lt hl)]
    have e2 : (c.set off v).drop (off + 1 + r.length) = c.drop (off + (v :: r).length) := by
      rw [List.drop_set_of_lt (by omega)]
      simp only [List.length_cons]
      rw [show off + 1 + r.length = off + (r.length + 1) by omega]
    rw [e1, e2]; simp
theorem rows_set {k : Nat} {l : List (List Value)} (h : ∀ r ∈ l, r.length = k) {i : Nat} (hi : i < l.length) {r : List Value} (hr : r.length = k) : over (rows l) (i * k) r = rows (l.set i r) := by
  unfold rows
  have hlen := flatten_length l h
  have hle : i * k + k ≤ l.length * k := by have := Nat.mul_le_mul_right k (Nat.succ_le_of_lt hi); rwa [Nat.succ_mul] at this
  rw [over_eq r l.flatten (i * k) (by rw [hlen, hr]; exact hle)]
  congr 1
  have e : l = l.take i ++ [l[i]] ++ l.drop (i + 1) := by simp
  have hp : (l.take i).flatten.length = i * k := by
    rw [flatten_length _ (fun x hx => h x (List.mem_of_mem_take hx))]; simp [Nat.min_eq_left (Nat.le_of_lt hi)]
  have hm : l[i].length = k := h _ (List.getElem_mem hi)
  have e3 : l.flatten = (l.take i).flatten ++ (l[i] ++ (l.drop (i + 1)).flatten) := by
    rw [← List.flatten_cons, ← List.flatten_append, ← List.drop_eq_getElem_cons hi, List.take_append_drop]
  have e4 : (l.set i r).flatten = (l.take i).flatten ++ (r ++ (l.drop (i + 1)).flatten) := by
    rw [List.set_eq_take_append_cons_drop, if_pos hi]; simp [List.flatten_append]
  rw [e4, e3, ← hp, List.take_left, ← List.drop_drop, List.drop_left, hr, ← hm, List.drop_left]
  simp
end
end Go.Sx
