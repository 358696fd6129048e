import Derived.Test.YtilnmikgcbcmcaaGreatG1
import Derived.ProofKit
import Derived.OpenShut
import Derived.Below
import Derived.ChangeKeysEq
import Derived.Laws.StructEq
import Derived.Defers
import Derived.Test.YtilnmikgcbcmcaaGreatProg
set_option linter.unusedVariables false
set_option linter.unusedSimpArgs false
set_option linter.unusedSectionVars false
namespace Tab
open Go.Sx
def wN (n : Nat) : Nat := max 1 (2 ^ n / 64)
def fullN (n : Nat) : Nat := if 6 ≤ n then 18446744073709551615 else 2 ^ 2 ^ n - 1
structure Frm (n : Nat) (ws : List Nat) : Prop where
 n16 : n ≤ 16
 len : ws.length = wN n
 full : ∀ w ∈ ws, w ≤ fullN n
instance (n : Nat) (ws : List Nat) : Decidable (Frm n ws) := decidable_of_iff (n ≤ 16 ∧ ws.length = wN n ∧ ∀ w ∈ ws, w ≤ fullN n) ⟨fun ⟨a, b, c⟩ => ⟨a, b, c⟩, fun ⟨a, b, c⟩ => ⟨a, b, c⟩⟩
def bit (ws : List Nat) (x : Nat) : Bool := (ws.getD (x / 64) 0).testBit (x % 64)
def setb (x v : Nat) (b : Bool) : Nat := if b then x ||| 2 ^ v else andn x (2 ^ v)
theorem wN_pos (n : Nat) : 0 < wN n := Nat.le_max_left _ _
theorem wN_ge {n : Nat} (h : 6 ≤ n) : wN n = 2 ^ (n - 6) := by
 unfold wN
 have : 2 ^ n / 64 = 2 ^ (n - 6) := by
  rw [show (64 : Nat) = 2 ^ 6 by rfl, Nat.pow_div h (by decide)]
 rw [this]; exact Nat.max_eq_right (Nat.two_pow_pos _)
theorem wN_lt {n : Nat} (h : n < 7) : wN n = 1 := by
 have : n = 0 ∨ n = 1 ∨ n = 2 ∨ n = 3 ∨ n = 4 ∨ n = 5 ∨ n = 6 := by omega
 rcases this with rfl | rfl | rfl | rfl | rfl | rfl | rfl <;> rfl
theorem wN_le {n : Nat} (h : n ≤ 16) : wN n ≤ 1024 := by
 by_cases h6 : 6 ≤ n
 ·rw [wN_ge h6]; exact Nat.pow_le_pow_right (by decide) (by omega : n - 6 ≤ 10)
 ·rw [wN_lt (by omega)]; decide
theorem fullN_lt (n : Nat) : fullN n < 18446744073709551616 := by
 unfold fullN
 split
 ·decide
 ·have h1 : 2 ^ n ≤ 32 := Nat.pow_le_pow_right (n := 2) (by decide) (by omega : n ≤ 5)
  have h2 : 2 ^ 2 ^ n ≤ 2 ^ 32 := Nat.pow_le_pow_right (by decide) h1
  omega
theorem Frm.lt {n : Nat} {ws : List Nat} (h : Frm n ws) {w : Nat} (hw : w ∈ ws) : w < 18446744073709551616 := Nat.lt_of_le_of_lt (h.full w hw) (fullN_lt n)
theorem and_full {n w : Nat} (h : w ≤ fullN n) : w &&& fullN n = w := by
 unfold fullN at *
 split at h
 ·rename_i h6
  rw [if_pos h6, show (18446744073709551615 : Nat) = 2 ^ 64 - 1 by rfl, Nat.and_two_pow_sub_one_eq_mod, Nat.mod_eq_of_lt (by omega)]
 ·rename_i h6
  rw [if_neg h6, Nat.and_two_pow_sub_one_eq_mod, Nat.mod_eq_of_lt]
  have := Nat.two_pow_pos (2 ^ n); omega
theorem testBit_full (n j : Nat) : (fullN n).testBit j = decide (j < if 6 ≤ n then 64 else 2 ^ n) := by
 unfold fullN
 split
 ·rw [show (18446744073709551615 : Nat) = 2 ^ 64 - 1 by rfl, Nat.testBit_two_pow_sub_one]
 ·rw [Nat.testBit_two_pow_sub_one]
theorem lt_words {n x : Nat} (h : x < 2 ^ n) : x / 64 < wN n := by
 by_cases h6 : 6 ≤ n
 ·rw [wN_ge h6]
  refine Nat.div_lt_of_lt_mul ?_
  rw [show (64 : Nat) = 2 ^ 6 by rfl, ← Nat.pow_add]
  rwa [show 6 + (n - 6) = n by omega]
 ·have h1 : 2 ^ n ≤ 32 := Nat.pow_le_pow_right (n := 2) (by decide) (by omega : n ≤ 5)
  rw [wN_lt (by omega)]; omega
theorem Frm.ext {n : Nat} {a b : List Nat} (ha : Frm n a) (hb : Frm n b) (h : ∀ x, x < 2 ^ n → bit a x = bit b x) : a = b := by
 apply List.ext_getElem (by rw [ha.len, hb.len])
 intro i h1 h2
 apply Nat.eq_of_testBit_eq
 intro j
 have hfa := and_full (ha.full _ (List.getElem_mem h1))
 have hfb := and_full (hb.full _ (List.getElem_mem h2))
 by_cases hj : j < (if 6 ≤ n then 64 else 2 ^ n)
 ·have hj64 : j < 64 := by
   split at hj
   ·exact hj
   ·have h1 : 2 ^ n ≤ 32 := Nat.pow_le_pow_right (n := 2) (by decide) (by omega : n ≤ 5)
    omega
  have hx : 64 * i + j < 2 ^ n := by
   by_cases h6 : 6 ≤ n
   ·have hi : i < 2 ^ (n - 6) := by rw [← wN_ge h6, ← ha.len]; exact h1
    have : 2 ^ n = 64 * 2 ^ (n - 6) := by rw [show (64 : Nat) = 2 ^ 6 by rfl, ← Nat.pow_add]; congr 1; omega
    omega
   ·have hi : i < 1 := by rw [← wN_lt (show n < 7 by omega), ← ha.len]; exact h1
    rw [if_neg h6] at hj; omega
  have := h _ hx
  unfold bit at this
  rw [show (64 * i + j) / 64 = i by omega, show (64 * i + j) % 64 = j by omega] at this
  simpa [h1, h2] using this
 ·have hd : (fullN n).testBit j = false := by rw [testBit_full]; simpa using hj
  rw [← hfa, ← hfb, Nat.testBit_and, Nat.testBit_and, hd]; simp
def colP (v : Nat) : Nat → Nat
 | 0 => 0
 | j + 1 => colP v j ||| (((j >>> v) &&& 1) <<< j)
def mask (v : Nat) : Nat := colP v 64
theorem and_one_eq (m : Nat) : m &&& 1 = if m.testBit 0 then 1 else 0 := by
 rw [Nat.and_one_is_mod, Nat.testBit_zero]
 rcases Nat.mod_two_eq_zero_or_one m with h | h <;> simp [h]
theorem testBit_colP (v : Nat) : ∀ J k, (colP v J).testBit k = (decide (k < J) && k.testBit v)
 | 0, k => by simp [colP]
 | J + 1, k => by
  rw [colP, Nat.testBit_or, testBit_colP v J k, and_one_eq, Nat.testBit_shiftRight, Nat.add_zero]
  by_cases e : k = J
  ·subst e
   cases hb : k.testBit v <;> simp [Nat.testBit_shiftLeft]
  ·have : ((if (J.testBit v) = true then 1 else 0) <<< J).testBit k = false := by
    rw [Nat.testBit_shiftLeft]
    split
    ·by_cases hk : J ≤ k
     ·have h1 : Nat.testBit 1 (k - J) = false := Nat.testBit_lt_two_pow (Nat.one_lt_two_pow (by omega))
      simp [hk, h1]
     ·simp [hk]
    ·simp
   rw [this]
   have : (decide (k < J + 1)) = decide (k < J) := by simp; omega
   rw [this]; simp
theorem colP_lt (v : Nat) : ∀ J, colP v J < 2 ^ J
 | 0 => by simp [colP]
 | J + 1 => by
  have h1 := colP_lt v J
  have h2 : ((J >>> v) &&& 1) <<< J < 2 ^ (J + 1) := by
   rw [and_one_eq, Nat.shiftLeft_eq]
   split
   ·rw [Nat.one_mul]; exact Nat.pow_lt_pow_right (by decide) (by omega)
   ·rw [Nat.zero_mul]; exact Nat.two_pow_pos _
  exact Nat.or_lt_two_pow (Nat.lt_of_lt_of_le h1 (Nat.pow_le_pow_right (by decide) (by omega))) h2
theorem testBit_mask (v k : Nat) : (mask v).testBit k = (decide (k < 64) && k.testBit v) := testBit_colP v 64 k
theorem mask_lt (v : Nat) : mask v < 18446744073709551616 := colP_lt v 64
def halfW (ws : List Nat) (v : Nat) (b : Bool) (i : Nat) : Nat :=
 if 6 ≤ v then ws.getD (setb i (v - 6) b) 0
 else if b then (ws.getD i 0 &&& mask v) ||| (ws.getD i 0 &&& mask v) >>> 2 ^ v
 else andn (ws.getD i 0) (mask v) ||| (andn (ws.getD i 0) (mask v) <<< 2 ^ v) % 18446744073709551616
def cof (n : Nat) (ws : List Nat) (v : Nat) (b : Bool) : List Nat := (List.range (wN n)).map fun i => halfW ws v b i &&& fullN n
theorem frm_cof {n v : Nat} {ws : List Nat} {b : Bool} (h : n ≤ 16) : Frm n (cof n ws v b) := by
 refine ⟨h, by simp [cof], fun w hw => ?_⟩
 obtain ⟨i, _, rfl⟩ := List.mem_map.1 hw
 exact Nat.and_le_right
theorem testBit_setb (x v : Nat) (b : Bool) (k : Nat) : (setb x v b).testBit k = if k = v then b else x.testBit k := by
 unfold setb
 cases b <;> simp only [if_true, Bool.false_eq_true, if_false]
 ·rw [testBit_andn, Nat.testBit_two_pow]
  by_cases e : k = v
  ·simp [e]
  ·simp [e, Ne.symm e]
 ·rw [Nat.testBit_or, Nat.testBit_two_pow]
  by_cases e : k = v
  ·simp [e]
  ·simp [e, Ne.symm e]
theorem setb_lt {x v n : Nat} {b : Bool} (hx : x < 2 ^ n) (hv : v < n) : setb x v b < 2 ^ n := by
 unfold setb
 split
 ·exact Nat.or_lt_two_pow hx (Nat.pow_lt_pow_right (by decide) hv)
 ·exact Nat.lt_of_le_of_lt (andn_le _ _) hx
theorem small6 : ∀ v : Fin 6, ∀ j : Fin 64, (j.1.testBit v.1 = true → setb j v true = j ∧ setb j v false = j - 2 ^ v.1 ∧ 2 ^ v.1 ≤ j.1 ∧ (j.1 + 2 ^ v.1).testBit v.1 = false ∧ (j.1 - 2 ^ v.1).testBit v.1 = false) ∧
  (j.1.testBit v.1 = false → setb j v true = j.1 + 2 ^ v.1 ∧ j.1 + 2 ^ v.1 < 64 ∧ setb j v false = j ∧ (j.1 + 2 ^ v.1).testBit v.1 = true ∧ (2 ^ v.1 ≤ j.1 → (j.1 - 2 ^ v.1).testBit v.1 = true)) := by decide +kernel
theorem setb_parts {x v : Nat} {b : Bool} : (6 ≤ v → setb x v b / 64 = setb (x / 64) (v - 6) b ∧ setb x v b % 64 = x % 64) ∧ (v < 6 → setb x v b / 64 = x / 64 ∧ setb x v b % 64 = setb (x % 64) v b) := by
 have h64 : ∀ y : Nat, y / 64 = y >>> 6 := fun y => by rw [Nat.shiftRight_eq_div_pow]
 have m64 : ∀ y : Nat, y % 64 = y % 2 ^ 6 := fun y => rfl
 refine ⟨fun h => ⟨?_, ?_⟩, fun h => ⟨?_, ?_⟩⟩ <;> apply Nat.eq_of_testBit_eq <;> intro k
 ·rw [h64, h64, Nat.testBit_shiftRight, testBit_setb, testBit_setb, Nat.testBit_shiftRight]
  by_cases e : k = v - 6
  ·rw [if_pos e, if_pos (by omega)]
  ·rw [if_neg e, if_neg (by omega)]
 ·rw [m64 (setb x v b), m64 x, Nat.testBit_mod_two_pow, Nat.testBit_mod_two_pow, testBit_setb]
  by_cases hk : k < 6
  ·rw [if_neg (by omega)]
  ·simp [hk]
 ·rw [h64, h64, Nat.testBit_shiftRight, testBit_setb, Nat.testBit_shiftRight, if_neg (by omega)]
 ·rw [m64 (setb x v b), m64 x, Nat.testBit_mod_two_pow, testBit_setb, testBit_setb, Nat.testBit_mod_two_pow]
  by_cases e : k = v
  ·subst e; simp [h]
  ·simp [e]
theorem bit_cof {n v x : Nat} {ws : List Nat} {b : Bool} (hf : Frm n ws) (hv : v < n) (hx : x < 2 ^ n) : bit (cof n ws v b) x = bit ws (setb x v b) := by
 have hi := lt_words hx
 unfold bit
 have hget : (cof n ws v b).getD (x / 64) 0 = halfW ws v b (x / 64) &&& fullN n := by
  simp [cof, hi]
 rw [hget, Nat.testBit_and, testBit_full]
 have hfb : decide (x % 64 < if 6 ≤ n then 64 else 2 ^ n) = true := by
  rw [decide_eq_true_eq]
  split
  ·exact Nat.mod_lt _ (by decide)
  ·have h1 : 2 ^ n ≤ 32 := Nat.pow_le_pow_right (n := 2) (by decide) (by omega : n ≤ 5)
   omega
 rw [hfb, Bool.and_true]
 unfold halfW
 by_cases h6 : 6 ≤ v
 ·rw [if_pos h6, (setb_parts.1 h6).1, (setb_parts.1 h6).2]
 ·rw [if_neg h6]
  obtain ⟨e1, e2⟩ := (setb_parts (x := x) (v := v) (b := b)).2 (by omega)
  rw [e1, e2]
  generalize hw : ws.getD (x / 64) 0 = w
  have hwl : w < 2 ^ 64 := by
   rw [← hw]
   rw [List.getD_eq_getElem?_getD, List.getElem?_eq_getElem (by rw [hf.len]; exact hi)]
   exact hf.lt (List.getElem_mem _)
  have hj : x % 64 < 64 := Nat.mod_lt _ (by decide)
  generalize x % 64 = j at hj
  obtain ⟨s1, s2⟩ := small6 ⟨v, by omega⟩ ⟨j, hj⟩
  simp only at s1 s2
  cases b
  ·simp only [Bool.false_eq_true, if_false]
   rw [show (18446744073709551616 : Nat) = 2 ^ 64 by rfl, Nat.testBit_or, Nat.testBit_mod_two_pow, Nat.testBit_shiftLeft, testBit_andn, testBit_andn, testBit_mask, testBit_mask]
   cases hb : j.testBit v
   ·obtain ⟨t1, t2, t3, t4, t5⟩ := s2 hb
    rw [t3]
    by_cases hle : 2 ^ v ≤ j
    ·have := t5 hle
     have h64 : j - 2 ^ v < 64 := Nat.lt_of_le_of_lt (Nat.sub_le _ _) hj
     simp [hj, this, h64]
    ·simp [hj, hle]
   ·obtain ⟨t1, t2, t3, t4, t5⟩ := s1 hb
    rw [t2]
    simp [hj, t3, t5]
  ·simp only [if_true]
   rw [Nat.testBit_or, Nat.testBit_and, Nat.testBit_shiftRight, Nat.testBit_and, testBit_mask, testBit_mask]
   cases hb : j.testBit v
   ·obtain ⟨t1, t2, t3, t4, t5⟩ := s2 hb
    rw [t1, Nat.add_comm (2 ^ v) j]
    simp [hj, t2, t4]
   ·obtain ⟨t1, t2, t3, t4, t5⟩ := s1 hb
    rw [t1, Nat.add_comm (2 ^ v) j]
    simp [hj, t4]
def dep (n : Nat) (ws : List Nat) (v : Nat) : Bool := decide (cof n ws v false ≠ cof n ws v true)
theorem setb_self (x v : Nat) : setb x v (x.testBit v) = x := by
 apply Nat.eq_of_testBit_eq; intro k
 rw [testBit_setb]
 by_cases e : k = v
 ·rw [if_pos e, e]
 ·rw [if_neg e]
theorem dep_iff {n v : Nat} {ws : List Nat} (hf : Frm n ws) (hv : v < n) : dep n ws v = true ↔ ∃ x, x < 2 ^ n ∧ bit ws (setb x v false) ≠ bit ws (setb x v true) := by
 constructor
 ·intro h
  refine Classical.byContradiction fun hno => ?_
  have : cof n ws v false = cof n ws v true := (frm_cof hf.n16).ext (frm_cof hf.n16) fun x hx => by
   rw [bit_cof hf hv hx, bit_cof hf hv hx]
   exact Classical.byContradiction fun hne => hno ⟨x, hx, hne⟩
  simp [dep, this] at h
 ·rintro ⟨x, hx, hne⟩
  simp only [dep, ne_eq, decide_eq_true_eq]
  intro he
  apply hne
  rw [← bit_cof hf hv hx, ← bit_cof hf hv hx, he]
end Tab
namespace Go.Sx
open Go
inductive Grow : Hp → Hp → Prop
 | refl (B : Hp) : Grow B B
 | cons {x : Nat × Obj} {B H : Hp} (h : Grow B H) : Grow B (x :: H)
 | app {N B H : Hp} (h : Grow B H) : Grow B (N ++ H)
theorem Grow.spec {B H : Hp} (h : Grow B H) : ∃ N, H = N ++ B := by
 induction h with
 | refl => exact ⟨[], rfl⟩
 | @cons x B H h ih => obtain ⟨N, rfl⟩ := ih; exact ⟨x :: N, rfl⟩
 | @app M B H h ih => obtain ⟨N, rfl⟩ := ih; exact ⟨M ++ N, by rw [List.append_assoc]⟩
theorem Grow.sub {B H : Hp} (h : Grow B H) : ∀ x ∈ B, x ∈ H := by
 obtain ⟨N, rfl⟩ := h.spec; exact fun x hx => List.mem_append_right _ hx
theorem Grow.ent {B H : Hp} (h : Grow B H) : Ent H B := by
 obtain ⟨N, rfl⟩ := h.spec; exact Ent.right
theorem Grow.trans {A B C : Hp} (h : Grow A B) (h' : Grow B C) : Grow A C := by
 obtain ⟨N, rfl⟩ := h'.spec; exact .app h
section
variable {P : Program} {g : Gh} {H : Hp}
def Px (P : Program) (f : FuncId) (args : Array Value) (B : Hp) (Q : Value → Hp → Prop) : Prop := Fc P f args B (fun v H => Grow B H ∧ Q v H)
theorem CallF.px {f : FuncId} {args : Array Value} {B H : Hp} {c : Hp → Hp} {Q : Value → Hp → Prop} {K : Value → Hp → Prop} {KP : List PanicEntry → Hp → Prop} (hh : Hole B H c) (hc : Px P f args B Q)
  (hk : ∀ v N, Q v (N ++ B) → K v (c (N ++ B))) : CallF P g f args H K KP :=
 CallF.fn hh hc fun v C' ⟨h1, h2⟩ => by obtain ⟨N, rfl⟩ := h1.spec; exact hk v N h2
theorem CallF.pre {f : FuncId} {args : Array Value} {H' : Hp} {K : Value → Hp → Prop} {KP : List PanicEntry → Hp → Prop} (he : Ent H H') (h : CallF P g f args H' K KP) : CallF P g f args H K KP := SCalls.pre h he
theorem PxR.mk {Q : Value → Hp → Prop} {v : Value} {B H : Hp} (he : Grow B H) (h : Q v H) : FnR (fun v H => Grow B H ∧ Q v H) (.returned v) H := ⟨v, H, rfl, .refl _, he, h⟩
theorem RdR.mk {Q : Value → Prop} {v : Value} {B H : Hp} (he : Ent H B) (h : Q v) : FnR (fun v H => H = B ∧ Q v) (.returned v) H := ⟨v, B, rfl, he, rfl, h⟩
def icells (kd : IntKind) (l : List Int) : Array Value := (l.map fun n => Value.int kd n).toArray
theorem icells_set (kd : IntKind) (l : List Int) (i : Nat) (n : Int) : (icells kd l).setIfInBounds i (.int kd n) = icells kd (l.set i n) := by
 simp [icells, List.map_set]
@[simp] theorem icells_size (kd : IntKind) (l : List Int) : (icells kd l).size = l.length := by simp [icells]
theorem made_ints (kd : IntKind) (n : Nat) : madeCells (Value.cells (.int kd 0)) (n * 1) = icells kd (List.replicate n 0) := by
 apply Array.ext
 ·simp [madeCells, icells]
 ·intro i h1 h2
  simp [madeCells, icells, Value.cells, Nat.mod_one]
def Ints (kd : IntKind) (B : Hp) (v : Value) (l : List Int) : Prop := Sl 1 B v (l.map fun n => [Value.int kd n])
theorem Ints.mono {kd : IntKind} {B B' : Hp} {v : Value} {l : List Int} (h : Ints kd B v l) (hs : ∀ x ∈ B, x ∈ B') : Ints kd B' v l := Sl.mono h hs
theorem Ints.lenS {kd : IntKind} {B : Hp} {v : Value} {l : List Int} (h : Ints kd B v l) {K : Value → Prop} (hk : K (.int .i64 l.length)) : LenS v K := Sl.lenS h (by simpa using hk)
theorem Ints.block {kd : IntKind} {B : Hp} {b cap : Nat} {l : List Int} {T : TypeId} {fz : Nat × Nat} (hm : (b, Obj.cells (icells kd l) T fz) ∈ B) (hc : l.length ≤ cap) : Ints kd B (.slice (some ⟨b, 0, none⟩) l.length cap) l := by
 refine ⟨by simp, .inr ⟨b, 0, cap, _, T, fz, by simp, by simpa using hc, hm, by simp [icells], fun i r hi j v hj => ?_⟩⟩
 rw [List.getElem?_map] at hi
 cases hl : l[i]? with
 | none => rw [hl] at hi; simp at hi
 | some n =>
  rw [hl] at hi
  simp only [Option.map_some, Option.some.injEq] at hi
  subst hi
  cases j with
  | zero =>
   simp only [List.getElem?_cons_zero, Option.some.injEq] at hj
   subst hj
   simp [icells, hl]
  | succ j => simp at hj
theorem Ints.at {kd kd' : IntKind} {B : Hp} {v : Value} {l : List Int} (h : Ints kd B v l) {i : Nat} {n : Int} (hi : l[i]? = some n) {K : Value → Prop} (hk : ∀ p, At B p [.int kd n] → K p) : IAddr 1 v (.int kd' (i : Int)) K :=
 IAddr.sl h (by rw [List.getElem?_map, hi]; rfl) hk
theorem Ints.ld {kd kd' : IntKind} {B : Hp} {v : Value} {l : List Int} (h : Ints kd B v l) {i : Nat} {n : Int} (hi : l[i]? = some n) (hs : ∀ x ∈ B, x ∈ H) {K : Value → Prop} (hk : K (.int kd n)) : IAddr 1 v (.int kd' (i : Int)) (fun p => Ld H p K) :=
 h.at hi fun p hp => Ld.at hp hs hk
theorem MkSlice.ints {T : TypeId} {kd kl : IntKind} {bytes n : Nat} {K : Value → Hp → Prop} (hmax : n ≤ 9223372036854775807) (hb : n * bytes ≤ 281474976710656)
  (h : ∀ b, K (.slice (some ⟨b, 0, none⟩) n n) ((b, .cells (icells kd (List.replicate n 0)) T (0, 0)) :: H)) : MkSlice T 1 bytes (.int kd 0) H (.int kl n) (.int kl n) K :=
 ⟨kl, kl, n, n, rfl, rfl, Nat.le_refl _, by omega, hb, fun b _ => by rw [made_ints]; exact h b⟩
theorem St.ints {b i : Nat} {kd : IntKind} {l : List Int} {x : Int} {T : TypeId} {H' : Hp} {K : Hp → Prop} (hu : Upd b (.cells (icells kd l) T (0, 0)) (.cells (icells kd (l.set i x)) T (0, 0)) H H') (hi : i < l.length) (h : K H') :
  St 1 H (.pointer (some ⟨b, 0 + i * 1, none⟩)) (.int kd x) K :=
 St.one (c := icells kd l) (c' := icells kd (l.set i x)) hu rfl (by simpa using hi) (by rw [Nat.zero_add, Nat.mul_one]; exact icells_set kd l i x) h
end
def nAt : List Value → Nat → Nat
 | .int _ q :: _, 0 => q.toNat
 | _ :: r, i + 1 => nAt r i
 | _, _ => 0
structure Tb where
 n : Int
 ws : List Nat
 deriving DecidableEq
def iw (ws : List Nat) : List Int := ws.map (Nat.cast : Nat → Int)
@[simp] theorem iw_length (ws : List Nat) : (iw ws).length = ws.length := by simp [iw]
theorem iw_get {ws : List Nat} {i w : Nat} (h : ws[i]? = some w) : (iw ws)[i]? = some (w : Int) := by simp [iw, h]
def Words (B : Hp) (s : Value) (ws : List Nat) : Prop := Ints .u64 B s (iw ws) ∧ ∀ w ∈ ws, w < 18446744073709551616
theorem Words.mono {B B' : Hp} {v : Value} {ws : List Nat} (h : Words B v ws) (hs : ∀ x ∈ B, x ∈ B') : Words B' v ws := ⟨h.1.mono hs, h.2⟩
theorem Words.block {B : Hp} {b cap : Nat} {ws : List Nat} {T : TypeId} {fz : Nat × Nat} (hm : (b, Obj.cells (icells .u64 (iw ws)) T fz) ∈ B) (hc : ws.length ≤ cap) (hw : ∀ w ∈ ws, w < 18446744073709551616) : Words B (.slice (some ⟨b, 0, none⟩) ws.length cap) ws := by
 have := Ints.block (cap := cap) hm (by simpa using hc)
 rw [iw_length] at this
 exact ⟨this, hw⟩
def Tbl (B : Hp) (v : Value) (t : Tb) : Prop := ∃ s, v = .agg #[.int .i64 t.n, s] ∧ Words B s t.ws
theorem Tbl.mono {B B' : Hp} {v : Value} {t : Tb} (h : Tbl B v t) (hs : ∀ x ∈ B, x ∈ B') : Tbl B' v t := let ⟨s, h1, h2⟩ := h; ⟨s, h1, h2.mono hs⟩
def TRow (B : Hp) (r : List Value) (t : Tb) : Prop := ∃ s, r = [.int .i64 t.n, s] ∧ Words B s t.ws
theorem TRow.mono {B B' : Hp} {r : List Value} {t : Tb} (h : TRow B r t) (hs : ∀ x ∈ B, x ∈ B') : TRow B' r t := let ⟨s, h1, h2⟩ := h; ⟨s, h1, h2.mono hs⟩
def Each {α : Type} (p : List Value → α → Prop) (rs : List (List Value)) (l : List α) : Prop := rs.length = l.length ∧ ∀ (i : Nat) (r : List Value) (x : α), rs[i]? = some r → l[i]? = some x → p r x
theorem Each.nil {α : Type} {p : List Value → α → Prop} : Each p [] [] := ⟨rfl, by simp⟩
theorem Each.get {α : Type} {p : List Value → α → Prop} {rs : List (List Value)} {l : List α} (h : Each p rs l) {i : Nat} {x : α} (hx : l[i]? = some x) : ∃ r, rs[i]? = some r ∧ p r x := by
 have hlt := (List.getElem?_eq_some_iff.1 hx).1
 have : i < rs.length := by rw [h.1]; exact hlt
 exact ⟨rs[i], List.getElem?_eq_getElem this, h.2 i _ _ (List.getElem?_eq_getElem this) hx⟩
theorem Each.mono {α : Type} {p q : List Value → α → Prop} {rs : List (List Value)} {l : List α} (h : Each p rs l) (hpq : ∀ r x, p r x → q r x) : Each q rs l := ⟨h.1, fun i r x h1 h2 => hpq _ _ (h.2 i r x h1 h2)⟩
def Tbls (B : Hp) (v : Value) (ts : List Tb) : Prop := ∃ rs, Sl 2 B v rs ∧ Each (TRow B) rs ts
theorem Tbls.mono {B B' : Hp} {v : Value} {ts : List Tb} (h : Tbls B v ts) (hs : ∀ x ∈ B, x ∈ B') : Tbls B' v ts := let ⟨rs, h1, h2⟩ := h; ⟨rs, h1.mono hs, h2.mono fun _ _ h => h.mono hs⟩
theorem Tbls.lenS {B : Hp} {v : Value} {ts : List Tb} (h : Tbls B v ts) {K : Value → Prop} (hk : K (.int .i64 ts.length)) : LenS v K := by
 obtain ⟨rs, h1, h2⟩ := h; refine h1.lenS ?_; have := h2.1; rw [this]; exact hk
theorem Tbls.ld {B H : Hp} {v : Value} {ts : List Tb} {kd : IntKind} (h : Tbls B v ts) {i : Nat} {t : Tb} (hi : ts[i]? = some t) (hs : ∀ x ∈ B, x ∈ H) {K : Value → Prop} (hk : ∀ s, Words B s t.ws → K (.agg #[.int .i64 t.n, s])) : IAddr 2 v (.int kd (i : Int)) (fun p => LdA 2 H p K) := by
 obtain ⟨rs, h1, h2⟩ := h
 obtain ⟨r, hr, s, rfl, hw⟩ := h2.get hi
 exact IAddr.sl h1 hr fun p hp => LdA.at hp rfl (by decide) hs (hk s hw)
theorem Tbls.ldN {B H : Hp} {v : Value} {ts : List Tb} {kd : IntKind} (h : Tbls B v ts) {i : Nat} {t : Tb} (hi : ts[i]? = some t) (hs : ∀ x ∈ B, x ∈ H) {K : Value → Prop} (hk : K (.int .i64 t.n)) : IAddr 2 v (.int kd (i : Int)) (fun p => FAddr 0 p (fun q => Ld H q K)) := by
 obtain ⟨rs, h1, h2⟩ := h
 obtain ⟨r, hr, s, rfl, hw⟩ := h2.get hi
 exact IAddr.sl h1 hr fun p hp => FAddr.at hp fun q hq => Ld.at hq hs hk
theorem Tbls.one {B : Hp} {b cap : Nat} {t : Tb} {s : Value} {T : TypeId} {fz : Nat × Nat} (hm : (b, Obj.cells #[.int .i64 t.n, s] T fz) ∈ B) (hw : Words B s t.ws) : Tbls B (.slice (some ⟨b, 0, none⟩) 1 (cap + 1)) [t] := by
 refine ⟨[[.int .i64 t.n, s]], ⟨by simp, .inr ⟨b, 0, cap + 1, _, T, fz, rfl, by simp, hm, by simp, fun i r hi j v hj => ?_⟩⟩, rfl, fun i r x h1 h2 => ?_⟩
 ·cases i with
  | zero => simp at hi; subst hi; simpa using hj
  | succ i => simp at hi
 ·cases i with
  | zero => simp at h1 h2; subst h1; subst h2; exact ⟨s, rfl, hw⟩
  | succ i => simp at h1
def TF (t : Tb) : Prop := 0 ≤ t.n ∧ Tab.Frm t.n.toNat t.ws
instance (t : Tb) : Decidable (TF t) := by unfold TF; infer_instance
end Go.Sx
namespace Go.Sx
open Go Go.RowKit
section
variable {P : Program}
def whole (W : World) : Hp := (List.range W.heap.size).map fun i => (i, W.heap.getD i default)
theorem own_whole (W : World) : Own ⟨W, []⟩ (whole W) W := by
 refine ⟨rfl, rfl, rfl, ?_, ?_⟩
 ·have : (whole W).map Prod.fst = List.range W.heap.size := by
   unfold whole
   rw [List.map_map]
   have : (Prod.fst ∘ fun i => (i, W.heap.getD i default)) = id := by funext i; rfl
   rw [this, List.map_id]
  rw [List.append_nil, this]; exact List.nodup_range
 ·intro x hx
  rw [List.append_nil] at hx
  obtain ⟨i, hi, rfl⟩ := List.mem_map.1 hx
  have := List.mem_range.1 hi
  simp [Array.getD_eq_getD_getElem?, this]
theorem mem_whole {W : World} {b : Nat} {o : Obj} (h : W.heap[b]? = some o) : (b, o) ∈ whole W := by
 have hlt := (Array.getElem?_eq_some_iff.1 h).1
 exact List.mem_map.2 ⟨b, List.mem_range.2 hlt, by simp [Array.getD_eq_getD_getElem?, h]⟩
theorem Own.below {W W' : World} (h : Own ⟨W, []⟩ (whole W) W') : Below W.heap.size W W' := by
 have hb : ∀ k, k < W.heap.size → W'.heap[k]? = W.heap[k]? := fun k hk => by
  have := h.has (k, W.heap.getD k default) (List.mem_map.2 ⟨k, List.mem_range.2 hk, rfl⟩)
  simp only at this
  rw [this]; simp [Array.getD_eq_getD_getElem?, hk]
 refine ⟨h.os, h.tape, h.out, ?_, hb⟩
 rcases Nat.eq_zero_or_pos W.heap.size with h0 | h0
 ·omega
 ·have := hb (W.heap.size - 1) (by omega)
  rw [show W.heap[W.heap.size - 1]? = some (W.heap[W.heap.size - 1]'(by omega)) from Array.getElem?_eq_getElem (by omega)] at this
  have := (Array.getElem?_eq_some_iff.1 this).1
  omega
theorem law_below {f : FuncId} {args : Array Value} {W : World} (h : SCalls P ⟨W, []⟩ f args (whole W) (fun e H' => e = .returned (.bool true) ∧ Ent H' (whole W))) :
  Calls P f args W fun e W' => e = .returned (.bool true) ∧ Below W.heap.size W W' :=
 (h W (own_whole W)).mono fun e W' ⟨H', ho, he, hent⟩ => ⟨he, (hent _ _ ho).below⟩
theorem law_px {f : FuncId} {args : Array Value} {W : World} (h : Px P f args (whole W) (fun v _ => v = .bool true)) :
  Calls P f args W fun e W' => e = .returned (.bool true) ∧ Below W.heap.size W W' :=
 law_below ((h ⟨W, []⟩).post fun e H' ⟨v, C, he, hent, hg, hv⟩ => ⟨H', .refl _, by rw [he, hv], hent.trans hg.ent⟩)
section
variable {H : Type} {enc : TypeId × Value → H}
open Go.ChangeShapes Go.WideShapes Go.ChangeAt Go.RowKit
theorem trodAll_stays (hl : laidOutB P = true) {W W' : World} {sp : Nat → Bool} (hb : Below W.heap.size W W') : ∀ (ts : List TypeId) (vs : List Value) (ds : List (DataW H)) (ps : List MemPlace),
  (∀ t ∈ ts, P.readableRec t = true ∧ t < P.types.size) → DataW.TrodAll enc P W 0 (fun _ => true) true ts vs ds ps → (∀ x ∈ ps, x.block < W.heap.size) → (∀ x ∈ ps, sp x.block = true) → DataW.TrodAll enc P W' 0 sp true ts vs ds ps
 | [], vs, ds, ps, _, h, _, _ => by
  obtain ⟨rfl, rfl, rfl⟩ := trodAll_nil h; exact trodAll_mk0
 | t :: ts, vs, ds, ps, hr, h, hlt, hsp => by
  obtain ⟨v, vs', d, ds', p, q, rfl, rfl, rfl, h0, h1⟩ := trodAll_cons h
  have ht := hr t (by simp)
  exact trodAll_cons_mk (WideElems.Trod_stays hl ht.1 ht.2 h0 (fun x hx => hb.same (hlt x (by simp [hx]))) (fun x hx => hsp x (by simp [hx])))
   (trodAll_stays hl hb ts vs' ds' q (fun t' h' => hr t' (by simp [h'])) h1 (fun x hx => hlt x (by simp [hx])) (fun x hx => hsp x (by simp [hx])))
theorem law_post {f : Func} {s : ChangeSpec} {W W' : World} {args : Array Value} {ds gs : List (DataW H)} {before : List MemPlace} {tb : TypeId} (hvars : s.vars = [])
  (hW : DataW.Whole enc P f.params.toList s.vars false W args.toList ds gs before) (hs : s.fn H (ds ++ gs) = { results := [.lit (.bool true)], args := ds }) (hb : Below W.heap.size W W')
  (hl : laidOutB P = true) (hr : ∀ t ∈ f.params.toList, P.readableRec t = true ∧ t < P.types.size) (hrt : f.resultTypes = #[tb]) (hbool : P.underlying tb = some .bool) :
  s.post enc P f false true false false W args (.bool true) W' := by
 have hW' := hW
 have hlt := hW.lt
 obtain ⟨p, q, hA, hV, rfl, hfz, hnd⟩ := hW
 rw [hvars] at hV
 obtain ⟨rfl, rfl⟩ := trodVars_none hV
 refine ⟨ds, _, _, [], p, [], hW', ?_, ?_, ?_, World.keptBut_mono (fun p hp => ⟨hp, ?_⟩) (hb.frame (· ∈ p ++ [])), fun h => by cases h⟩
 ·rw [hs, hrt]; exact trodAll_cons_mk (shut_bool hbool _) trodAll_mk0
 ·rw [hs]
  exact trodAll_stays hl hb _ _ _ _ hr hA (fun x hx => hlt x (by simp [hx])) (fun x hx => by simpa using hlt x (by simp [hx]))
 ·rw [hvars, hs]; rfl
 ·right; simpa using hp
end
end
end Go.Sx
namespace Go.Sx
open Go
section
variable {P : Program} {g : Gh} {H : Hp}
theorem SOwn.cell1 {T : TypeId} {v x : Value} {rs : List (List Value)} {C : Hp} (hs : SOwn T 1 v rs C) {i : Nat} (hi : i < rs.length) (hr : rs[i]? = some [x]) (hC : ∀ y ∈ C, y ∈ H) {K : Value → Prop} (hk : K x) :
  IAddr 1 v (.int .i64 (i : Int)) fun p => Ld H p K := by
 obtain ⟨b', junk, rfl, rfl, hall⟩ := hs.pos (by omega)
 refine IAddr.nat hi ?_
 exact Ld.row1 (l := rs ++ junk) (hC _ (List.Mem.head _)) hall (by rw [List.getElem?_append_left hi]; exact hr) hk
theorem SOwn.put1 {T : TypeId} {v x y : Value} {rs : List (List Value)} {C A B : Hp} (hs : SOwn T 1 v rs C) {i : Nat} (hi : i < rs.length) (hr : rs[i]? = some [y]) (h1 : x.oneCell' = true) {K : Hp → Prop}
  (hk : ∀ C', SOwn T 1 v (rs.set i [x]) C' → K (A ++ (C' ++ B))) : IAddr 1 v (.int .i64 (i : Int)) fun p => St 1 (A ++ (C ++ B)) p x K := by
 obtain ⟨b', junk, rfl, rfl, hall⟩ := hs.pos (by omega)
 refine IAddr.nat hi ?_
 refine St.cell (l := rs ++ junk) (i := i) (k := 1) (j := 0) (r := [y]) (((Upd.head _).append B).prepend A) hall (by rw [List.getElem?_append_left hi]; exact hr) (by omega) h1 ?_
 have e : (rs ++ junk).set i ([y].set 0 x) = rs.set i [x] ++ junk := by rw [List.set_append_left _ _ hi]; rfl
 rw [e]
 refine hk [(b', _)] (SOwn.mk' (junk := junk) (fun r hr' => ?_) (by simp) (by simp))
 rcases List.mem_append.1 hr' with hr' | hr'
 ·rcases List.mem_or_eq_of_mem_set hr' with hr' | rfl
  ·exact hall r (by simp [hr'])
  ·rfl
 ·exact hall r (by simp [hr'])
end
end Go.Sx
namespace Go.Sx
open Go
section
variable {κ β : Type} [DecidableEq κ]
structure Ents (ke : κ → Value) (vr : Value → β → Prop) (es : Array MapEntry) (ck : Nat) (m : List (κ × β)) : Prop where
 len : es.size = m.length
 key : ∀ (i : Nat) (e : MapEntry) (x : κ × β), es[i]? = some e → m[i]? = some x → e.key = ke x.1 ∧ vr e.val x.2
 nd : (m.map Prod.fst).Nodup
 born : (es.toList.map MapEntry.born).Nodup
 lt : ∀ e ∈ es.toList, e.born < ck
variable {ke : κ → Value} {vr : Value → β → Prop} {es : Array MapEntry} {ck : Nat} {m : List (κ × β)}
theorem Ents.empty : Ents ke vr #[] 0 [] := ⟨rfl, by simp, by simp, by simp, by simp⟩
theorem Ents.mono {vr' : Value → β → Prop} (h : Ents ke vr es ck m) (hv : ∀ v x, vr v x → vr' v x) : Ents ke vr' es ck m := ⟨h.len, fun i e x h1 h2 => ⟨(h.key i e x h1 h2).1, hv _ _ (h.key i e x h1 h2).2⟩, h.nd, h.born, h.lt⟩
def mset (m : List (κ × β)) (k : κ) (x : β) : List (κ × β) := if k ∈ m.map Prod.fst then m.map (fun y => if y.1 = k then (k, x) else y) else m ++ [(k, x)]
def mget (m : List (κ × β)) (k : κ) : Option β := (m.find? (fun y => y.1 = k)).map Prod.snd
theorem mget_mem {m : List (κ × β)} {k : κ} {x : β} (nd : (m.map Prod.fst).Nodup) : mget m k = some x ↔ (k, x) ∈ m := by
 induction m with
 | nil => simp [mget]
 | cons y r ih =>
  rw [List.map_cons, List.nodup_cons] at nd
  obtain ⟨a, b⟩ := y
  simp only [mget, List.find?_cons] at ih ⊢
  by_cases e : a = k
  ·subst e
   simp only [decide_true, Option.map_some, Option.some.injEq, List.mem_cons, Prod.mk.injEq, true_and]
   constructor
   ·intro h; exact .inl h.symm
   ·rintro (h | h)
    ·exact h.symm
    ·exact absurd (List.mem_map.2 ⟨_, h, rfl⟩) nd.1
  ·simp only [e, decide_false, List.mem_cons, Prod.mk.injEq, Ne.symm e, false_and, false_or]
   exact ih nd.2
theorem mget_none {m : List (κ × β)} {k : κ} : mget m k = none ↔ k ∉ m.map Prod.fst := by
 simp only [mget, Option.map_eq_none_iff, List.find?_eq_none, decide_eq_true_eq, List.mem_map, not_exists, not_and]
theorem Ents.findNow {kd : TypeDesc} (hk : ∀ a b, Instr.sameNow kd (ke a) (ke b) = some (decide (a = b))) (h : Ents ke vr es ck m) (k : κ) :
  (∃ (i : Nat) (x : β) (e : MapEntry), es[i]? = some e ∧ m[i]? = some (k, x) ∧ vr e.val x ∧ Instr.findNow kd (ke k) es.toList 0 = some (some (i, e.val))) ∨ (k ∉ m.map Prod.fst ∧ Instr.findNow kd (ke k) es.toList 0 = some none) := by
 have key : ∀ (l : List MapEntry) (q : List (κ × β)) (j : Nat), l.length = q.length → (∀ (i : Nat) (e : MapEntry) (x : κ × β), l[i]? = some e → q[i]? = some x → e.key = ke x.1 ∧ vr e.val x.2) →
   (∃ (i : Nat) (x : β) (e : MapEntry), l[i]? = some e ∧ q[i]? = some (k, x) ∧ vr e.val x ∧ Instr.findNow kd (ke k) l j = some (some (j + i, e.val))) ∨ (k ∉ q.map Prod.fst ∧ Instr.findNow kd (ke k) l j = some none) := by
  intro l
  induction l with
  | nil => intro q j hl _; cases q with | nil => exact .inr ⟨by simp, rfl⟩ | cons a b => simp at hl
  | cons e r ih =>
   intro q j hl hkey
   cases q with
   | nil => simp at hl
   | cons y q =>
    obtain ⟨h1, h2⟩ := hkey 0 e y rfl rfl
    simp only [Instr.findNow, h1, hk]
    by_cases e0 : k = y.1
    ·subst e0
     exact .inl ⟨0, y.2, e, rfl, rfl, h2, by simp⟩
    ·rw [decide_eq_false e0]
     rcases ih q (j + 1) (by simpa using hl) (fun i e x h1 h2 => hkey (i + 1) e x (by simpa using h1) (by simpa using h2)) with ⟨i, x, e', g1, g2, g3, g4⟩ | ⟨g1, g2⟩
     ·exact .inl ⟨i + 1, x, e', by simpa using g1, by simpa using g2, g3, by simp only [g4]; rw [show j + 1 + i = j + (i + 1) by omega]⟩
     ·exact .inr ⟨by rw [List.map_cons, List.mem_cons]; rintro (h | h); exact e0 h; exact g1 h, by simpa using g2⟩
 have := key es.toList m 0 (by simpa using h.len) (fun i e x h1 h2 => h.key i e x (by simpa using h1) h2)
 rcases this with ⟨i, x, e, g1, g2, g3, g4⟩ | h2
 ·exact .inl ⟨i, x, e, by simpa using g1, g2, g3, by simpa using g4⟩
 ·exact .inr h2
theorem Ents.findS {P : Program} {kt : TypeId} (hk : ∀ a b, EqV P kt (ke a) (ke b) (decide (a = b))) (h : Ents ke vr es ck m) (k : κ) :
  (∃ (i : Nat) (x : β) (e : MapEntry), es[i]? = some e ∧ m[i]? = some (k, x) ∧ vr e.val x ∧ FindS P kt (ke k) es.toList 0 (some (i, e.val))) ∨ (k ∉ m.map Prod.fst ∧ FindS P kt (ke k) es.toList 0 none) := by
 have key : ∀ (l : List MapEntry) (q : List (κ × β)) (j : Nat), l.length = q.length → (∀ (i : Nat) (e : MapEntry) (x : κ × β), l[i]? = some e → q[i]? = some x → e.key = ke x.1 ∧ vr e.val x.2) →
   (∃ (i : Nat) (x : β) (e : MapEntry), l[i]? = some e ∧ q[i]? = some (k, x) ∧ vr e.val x ∧ FindS P kt (ke k) l j (some (j + i, e.val))) ∨ (k ∉ q.map Prod.fst ∧ FindS P kt (ke k) l j none) := by
  intro l
  induction l with
  | nil => intro q j hl _; cases q with | nil => exact .inr ⟨by simp, rfl⟩ | cons a b => simp at hl
  | cons e r ih =>
   intro q j hl hkey
   cases q with
   | nil => simp at hl
   | cons y q =>
    obtain ⟨h1, h2⟩ := hkey 0 e y rfl rfl
    have hb := hk k y.1
    rw [← h1] at hb
    by_cases e0 : k = y.1
    ·refine .inl ⟨0, y.2, e, rfl, by rw [e0]; rfl, h2, ?_⟩
     exact ⟨_, hb, fun _ => by simp, fun h => by simp [e0] at h⟩
    ·rcases ih q (j + 1) (by simpa using hl) (fun i e x h1 h2 => hkey (i + 1) e x (by simpa using h1) (by simpa using h2)) with ⟨i, x, e', g1, g2, g3, g4⟩ | ⟨g1, g2⟩
     ·refine .inl ⟨i + 1, x, e', by simpa using g1, by simpa using g2, g3, _, hb, fun h => by simp [e0] at h, fun _ => ?_⟩
      rw [show j + (i + 1) = j + 1 + i by omega]; exact g4
     ·exact .inr ⟨by rw [List.map_cons, List.mem_cons]; rintro (h | h); exact e0 h; exact g1 h, _, hb, fun h => by simp [e0] at h, fun _ => g2⟩
 have := key es.toList m 0 (by simpa using h.len) (fun i e x h1 h2 => h.key i e x (by simpa using h1) h2)
 rcases this with ⟨i, x, e, g1, g2, g3, g4⟩ | h2
 ·exact .inl ⟨i, x, e, by simpa using g1, g2, g3, by simpa using g4⟩
 ·exact .inr h2
theorem Ents.put (h : Ents ke vr es ck m) {i : Nat} {k : κ} {y x : β} {val : Value} (hi : m[i]? = some (k, y)) (hv : vr val x) : Ents ke vr (es.modify i fun e => { e with key := ke k, val }) ck (mset m k x) := by
 have hmem : k ∈ m.map Prod.fst := List.mem_map.2 ⟨_, List.mem_of_getElem? hi, rfl⟩
 have hlt := (List.getElem?_eq_some_iff.1 hi).1
 have huniq : ∀ j z, m[j]? = some z → z.1 = k → j = i := fun j z hj hz => by
  have hj' := (List.getElem?_eq_some_iff.1 hj).1
  have e1 : (m.map Prod.fst)[j]? = some k := by rw [List.getElem?_map, hj]; simp [hz]
  have e2 : (m.map Prod.fst)[i]? = some k := by rw [List.getElem?_map, hi]; rfl
  exact (List.getElem?_inj (by simpa using hj') h.nd).1 (e1.trans e2.symm)
 have hb : ((es.modify i fun e => { e with key := ke k, val }).toList.map MapEntry.born) = es.toList.map MapEntry.born := by
  apply List.ext_getElem?; intro j
  simp only [List.getElem?_map, Array.getElem?_toList, Array.getElem?_modify]
  split
  ·cases es[j]? <;> rfl
  ·rfl
 refine ⟨by simp [mset, hmem, h.len], fun j e z he hz => ?_, ?_, by rw [hb]; exact h.born, fun e he => ?_⟩
 ·simp only [mset, hmem, if_true, List.getElem?_map] at hz
  rw [Array.getElem?_modify] at he
  cases hm : m[j]? with
  | none => rw [hm] at hz; simp at hz
  | some z0 =>
   rw [hm] at hz
   simp only [Option.map_some, Option.some.injEq] at hz
   cases hes : es[j]? with
   | none => rw [hes] at he; split at he <;> simp at he
   | some e0 =>
    rw [hes] at he
    by_cases ek : z0.1 = k
    ·have := huniq j z0 hm ek
     subst this
     rw [if_pos ek] at hz; subst hz
     simp only [if_true, Option.map_some, Option.some.injEq] at he
     subst he; exact ⟨rfl, hv⟩
    ·rw [if_neg ek] at hz; subst hz
     rw [if_neg (fun e => by subst e; rw [hi] at hm; cases hm; exact ek rfl)] at he
     simp only [Option.some.injEq] at he
     subst he; exact h.key j _ _ hes hm
 ·have : (mset m k x).map Prod.fst = m.map Prod.fst := by
   simp only [mset, hmem, if_true, List.map_map]
   apply List.map_congr_left
   intro z _
   simp only [Function.comp]
   split
   ·rename_i hz; exact hz.symm
   ·rfl
  rw [this]; exact h.nd
 ·have : e.born ∈ (es.modify i fun e => { e with key := ke k, val }).toList.map MapEntry.born := List.mem_map_of_mem he
  rw [hb] at this
  obtain ⟨e0, h1, h2⟩ := List.mem_map.1 this
  rw [← h2]; exact h.lt e0 h1
theorem Ents.more (h : Ents ke vr es ck m) {k : κ} {x : β} {val : Value} (hk : k ∉ m.map Prod.fst) (hv : vr val x) : Ents ke vr (es.push { key := ke k, val, born := ck }) (ck + 1) (mset m k x) := by
 have hs : mset m k x = m ++ [(k, x)] := by unfold mset; rw [if_neg hk]
 rw [hs]
 refine ⟨by simp [h.len], fun j e z he hz => ?_, ?_, ?_, fun e he => ?_⟩
 ·by_cases hj : j < m.length
  ·rw [List.getElem?_append_left hj] at hz
   rw [Array.getElem?_push, if_neg (by rw [h.len]; omega)] at he
   exact h.key j _ _ he hz
  ·have hj2 := (List.getElem?_eq_some_iff.1 hz).1
   simp only [List.length_append, List.length_cons, List.length_nil] at hj2
   have : j = m.length := by omega
   subst this
   rw [List.getElem?_append_right (Nat.le_refl _)] at hz
   simp at hz; subst hz
   rw [Array.getElem?_push, if_pos h.len.symm] at he
   simp at he; subst he
   exact ⟨rfl, hv⟩
 ·rw [List.map_append, List.nodup_append]
  refine ⟨h.nd, by simp, fun a ha b hb => ?_⟩
  simp at hb; subst hb; rintro rfl; exact hk ha
 ·rw [Array.toList_push, List.map_append, List.nodup_append]
  refine ⟨h.born, by simp, fun a ha b hb => ?_⟩
  simp at hb; subst hb
  obtain ⟨e, he, rfl⟩ := List.mem_map.1 ha
  have := h.lt e he; omega
 ·rw [Array.toList_push, List.mem_append] at he
  rcases he with he | he
  ·have := h.lt e he; omega
  ·simp at he; subst he; simp
variable {H : Hp} {b : Nat}
theorem Ents.hit {kd : TypeDesc} {zero : Value} {ok : Bool} {k : κ} {x : β} {K : Value → Prop} (hk : ∀ a b, Instr.sameNow kd (ke a) (ke b) = some (decide (a = b))) (h : Ents ke vr es ck m) (hm : (b, Obj.map es ck) ∈ H) (hx : mget m k = some x)
  (h1 : ∀ v, vr v x → K (cond ok (.tuple #[v, .bool true]) v)) : Look kd zero ok H (.map (some b)) (ke k) K := by
 rcases h.findNow hk k with ⟨i, y, e, g1, g2, g3, g4⟩ | ⟨g1, g2⟩
 ·have : mget m k = some y := (mget_mem h.nd).2 (List.mem_of_getElem? g2)
  rw [hx] at this; cases this
  exact ⟨es, _, .inr ⟨b, ck, rfl, hm⟩, g4, h1 _ g3⟩
 ·rw [mget_none.2 g1] at hx; cases hx
theorem Ents.miss {kd : TypeDesc} {zero : Value} {ok : Bool} {k : κ} {K : Value → Prop} (hk : ∀ a b, Instr.sameNow kd (ke a) (ke b) = some (decide (a = b))) (h : Ents ke vr es ck m) (hm : (b, Obj.map es ck) ∈ H) (hx : mget m k = none)
  (h1 : K (cond ok (.tuple #[zero, .bool false]) zero)) : Look kd zero ok H (.map (some b)) (ke k) K := by
 rcases h.findNow hk k with ⟨i, y, e, g1, g2, g3, g4⟩ | ⟨g1, g2⟩
 ·exact absurd (List.mem_map.2 ⟨_, List.mem_of_getElem? g2, rfl⟩) (mget_none.1 hx)
 ·exact ⟨es, _, .inr ⟨b, ck, rfl, hm⟩, g2, h1⟩
theorem Ents.upd {kd : TypeDesc} {k : κ} {x : β} {val : Value} {K : Hp → Prop} (hk : ∀ a b, Instr.sameNow kd (ke a) (ke b) = some (decide (a = b))) (hb : ∀ a, Instr.sameBits 10000 (ke a) (ke a) = true) (h : Ents ke vr es ck m) (hv : vr val x)
  (h1 : ∀ es' ck', Ents ke vr es' ck' (mset m k x) → ∃ H', Upd b (.map es ck) (.map es' ck') H H' ∧ K H') : MapUpd kd H (.map (some b)) (ke k) val K := by
 rcases h.findNow hk k with ⟨i, y, e, g1, g2, g3, g4⟩ | ⟨g1, g2⟩
 ·refine ⟨b, es, ck, _, rfl, g4, fun e' he' => ?_, by rw [h.len]; exact (List.getElem?_eq_some_iff.1 g2).1, h1 _ _ (h.put g2 hv)⟩
  rw [(h.key i e' _ he' g2).1]; exact hb k
 ·exact ⟨b, es, ck, _, rfl, g2, h1 _ _ (h.more g1 hv)⟩
theorem Ents.hitS {P : Program} {kt : TypeId} {zero : Value} {ok : Bool} {k : κ} {x : β} {K : Value → Prop} (hk : ∀ a b, EqV P kt (ke a) (ke b) (decide (a = b))) (hc : ∀ a, ChkV P kt (ke a)) (h : Ents ke vr es ck m) (hm : (b, Obj.map es ck) ∈ H) (hx : mget m k = some x)
  (h1 : ∀ v, vr v x → K (cond ok (.tuple #[v, .bool true]) v)) : LookS P kt zero ok H (.map (some b)) (ke k) K := by
 rcases h.findS hk k with ⟨i, y, e, g1, g2, g3, g4⟩ | ⟨g1, g2⟩
 ·have : mget m k = some y := (mget_mem h.nd).2 (List.mem_of_getElem? g2)
  rw [hx] at this; cases this
  exact ⟨es, _, .inr ⟨b, ck, rfl, hm⟩, hc k, g4, h1 _ g3⟩
 ·rw [mget_none.2 g1] at hx; cases hx
theorem Ents.missS {P : Program} {kt : TypeId} {zero : Value} {ok : Bool} {k : κ} {K : Value → Prop} (hk : ∀ a b, EqV P kt (ke a) (ke b) (decide (a = b))) (hc : ∀ a, ChkV P kt (ke a)) (h : Ents ke vr es ck m) (hm : (b, Obj.map es ck) ∈ H) (hx : mget m k = none)
  (h1 : K (cond ok (.tuple #[zero, .bool false]) zero)) : LookS P kt zero ok H (.map (some b)) (ke k) K := by
 rcases h.findS hk k with ⟨i, y, e, g1, g2, g3, g4⟩ | ⟨g1, g2⟩
 ·exact absurd (List.mem_map.2 ⟨_, List.mem_of_getElem? g2, rfl⟩) (mget_none.1 hx)
 ·exact ⟨es, _, .inr ⟨b, ck, rfl, hm⟩, hc k, g2, h1⟩
theorem Ents.updS {P : Program} {kt : TypeId} {k : κ} {x : β} {val : Value} {K : Hp → Prop} (hk : ∀ a b, EqV P kt (ke a) (ke b) (decide (a = b))) (hc : ∀ a, ChkV P kt (ke a)) (hb : ∀ a, Instr.sameBits 10000 (ke a) (ke a) = true) (h : Ents ke vr es ck m) (hv : vr val x)
  (h1 : ∀ es' ck', Ents ke vr es' ck' (mset m k x) → ∃ H', Upd b (.map es ck) (.map es' ck') H H' ∧ K H') : MapUpdS P kt H (.map (some b)) (ke k) val K := by
 rcases h.findS hk k with ⟨i, y, e, g1, g2, g3, g4⟩ | ⟨g1, g2⟩
 ·refine ⟨b, es, ck, _, rfl, hc k, g4, fun e' he' => ?_, by rw [h.len]; exact (List.getElem?_eq_some_iff.1 g2).1, h1 _ _ (h.put g2 hv)⟩
  rw [(h.key i e' _ he' g2).1]; exact hb k
 ·exact ⟨b, es, ck, _, rfl, hc k, g2, h1 _ _ (h.more g1 hv)⟩
theorem Ents.len_ok (h : Ents ke vr es ck m) (hm : (b, Obj.map es ck) ∈ H) {K : Value → Prop} (hk : K (.int .i64 m.length)) : LenM H (.map (some b)) K := ⟨_, rfl, .inr ⟨b, es, ck, rfl, hm, by rw [h.len]; exact hk⟩⟩
def unseen (es : Array MapEntry) (m : List (κ × β)) (seen : Array Nat) : List (κ × β) := ((es.toList.zip m).filter fun p => !seen.contains p.1.born).map Prod.snd
omit [DecidableEq κ] in
theorem unseen_all (h : Ents ke vr es ck m) : unseen es m #[] = m := by
 unfold unseen
 rw [List.filter_eq_self.2 (by simp), ← List.unzip_snd, List.unzip_zip]
 simpa using h.len
omit [DecidableEq κ] in
theorem unseen_step (h : Ents ke vr es ck m) {seen : Array Nat} {i : Nat} {e : MapEntry} {x : κ × β} (he : es[i]? = some e) (hx : m[i]? = some x) (hs : e.born ∉ seen) : (unseen es m seen).Perm (x :: unseen es m (seen.push e.born)) := by
 unfold unseen
 have hz : (es.toList.zip m)[i]? = some (e, x) := by rw [List.getElem?_zip_eq_some]; exact ⟨by simpa using he, hx⟩
 obtain ⟨A, C, hAC, hlen⟩ : ∃ A C, es.toList.zip m = A ++ (e, x) :: C ∧ A.length = i := by
  obtain ⟨hlt, hg⟩ := List.getElem?_eq_some_iff.1 hz
  exact ⟨(es.toList.zip m).take i, (es.toList.zip m).drop (i + 1), by rw [← hg, List.getElem_cons_drop, List.take_append_drop], by simp only [List.length_take]; omega⟩
 have hfst : (es.toList.zip m).map (fun p => p.1.born) = es.toList.map MapEntry.born := by
  have : (es.toList.zip m).map Prod.fst = es.toList := by rw [← List.unzip_fst, List.unzip_zip]; simpa using h.len
  rw [show (fun p : MapEntry × (κ × β) => p.1.born) = MapEntry.born ∘ Prod.fst from rfl, ← List.map_map, this]
 have hnd := h.born
 rw [← hfst, hAC, List.map_append, List.map_cons] at hnd
 have hnd' := List.perm_middle.nodup_iff.1 hnd
 rw [List.nodup_cons, ← List.map_append] at hnd'
 have hne : ∀ p ∈ A ++ C, p.1.born ≠ e.born := fun p hp e0 => hnd'.1 (List.mem_map.2 ⟨p, hp, e0⟩)
 have hcong : ∀ L : List (MapEntry × (κ × β)), (∀ p ∈ L, p.1.born ≠ e.born) → (L.filter fun p => !(seen.push e.born).contains p.1.born) = L.filter fun p => !seen.contains p.1.born := fun L hL => by
  apply List.filter_congr
  intro p hp
  have := hL p hp
  simp [Array.mem_push, this]
 rw [hAC, List.filter_append, List.filter_append, List.filter_cons, List.filter_cons]
 rw [if_pos (by simpa using hs), if_neg (by simp), hcong A fun p hp => hne p (List.mem_append_left _ hp), hcong C fun p hp => hne p (List.mem_append_right _ hp)]
 rw [List.map_append, List.map_append, List.map_cons]
 exact List.perm_middle
omit [DecidableEq κ] in
theorem Ents.next {bi bm : Nat} {seen : Array Nat} {K : Value → Hp → Prop} (h : Ents ke vr es ck m) (hm : (bm, Obj.map es ck) ∈ H) (hi : (bi, Obj.mapIter (some bm) ck seen ck) ∈ H)
  (h1 : ∀ e x seen', e ∈ es.toList → e.key = ke x.1 → vr e.val x.2 → (unseen es m seen).Perm (x :: unseen es m seen') → seen'.back? = some e.born → es.find? (·.born == e.born) = some e →
   ∃ H', Upd bi (.mapIter (some bm) ck seen ck) (.mapIter (some bm) ck seen' ck) H H' ∧ K (.tuple #[.bool true, e.key, e.val]) H')
  (h2 : unseen es m seen = [] → K (.tuple #[.bool false]) H) : Nxt H (.pointer (some ⟨bi, 0, none⟩)) K := by
 refine ⟨bi, some bm, ck, seen, ck, rfl, hi, es, ck, hm, fun e he => ⟨h.lt e he, h.lt e he⟩, fun e he hs => ?_, fun hall => h2 ?_⟩
 ·obtain ⟨i, hi', rfl⟩ := List.mem_iff_getElem.1 he
  have hi2 : i < m.length := by rw [← h.len]; simpa using hi'
  have g1 : es[i]? = some es.toList[i] := by rw [← Array.getElem?_toList]; exact List.getElem?_eq_getElem hi'
  have g2 : m[i]? = some m[i] := List.getElem?_eq_getElem hi2
  obtain ⟨k1, k2⟩ := h.key i _ _ g1 g2
  refine h1 _ m[i] _ he k1 k2 (unseen_step h g1 g2 hs) (by simp) ?_
  rw [← Array.find?_toList]
  have hnd := h.born
  rw [List.find?_eq_some_iff_append]
  refine ⟨by simp, es.toList.take i, es.toList.drop (i + 1), by rw [List.getElem_cons_drop, List.take_append_drop], fun a ha => ?_⟩
  simp only [Bool.not_eq_true', beq_eq_false_iff_ne, ne_eq]
  intro e0
  obtain ⟨j, hj, rfl⟩ := List.mem_iff_getElem.1 ha
  simp only [List.length_take] at hj
  rw [List.getElem_take] at e0
  have := (List.getElem_inj (by simpa using h.born) (xs := es.toList.map MapEntry.born) (i := j) (j := i) (h₀ := by rw [List.length_map]; omega) (h₁ := by rw [List.length_map]; exact hi')).1 (by simpa using e0)
  omega
 ·unfold unseen
  rw [List.filter_eq_nil_iff.2, List.map_nil]
  intro p hp
  have := hall p.1 (List.of_mem_zip hp).1
  simpa using this
end
end Go.Sx
namespace Tab
def bytesW (w : Nat) : List UInt8 := (List.range 8).map fun i => UInt8.ofNat (w >>> (8 * i))
def keyB (ws : List Nat) : List UInt8 := ws.flatMap bytesW
theorem bytesW_length (w : Nat) : (bytesW w).length = 8 := by simp [bytesW]
theorem keyB_length : ∀ l : List Nat, (keyB l).length = 8 * l.length
 | [] => rfl
 | x :: l => by rw [keyB, List.flatMap_cons, List.length_append, bytesW_length]; have := keyB_length l; unfold keyB at this; rw [this, List.length_cons]; omega
theorem bytesW_inj {a b : Nat} (ha : a < 18446744073709551616) (hb : b < 18446744073709551616) (h : bytesW a = bytesW b) : a = b := by
 apply Nat.eq_of_testBit_eq
 intro j
 by_cases hj : j < 64
 ·have hi : j / 8 < 8 := by omega
  have h1 := congrArg (fun l => l[j / 8]?) h
  simp only [bytesW, List.getElem?_map, List.getElem?_range hi, Option.map_some, Option.some.injEq] at h1
  have h2 := congrArg UInt8.toNat h1
  simp only [UInt8.toNat_ofNat'] at h2
  have h3 := congrArg (fun x => x.testBit (j % 8)) h2
  simp only [Nat.testBit_mod_two_pow, Nat.testBit_shiftRight] at h3
  rw [show 8 * (j / 8) + j % 8 = j by omega] at h3
  have : decide (j % 8 < 8) = true := by simp; omega
  simpa [this] using h3
 ·rw [Nat.testBit_lt_two_pow (Nat.lt_of_lt_of_le ha (Nat.pow_le_pow_right (n := 2) (by decide) (by omega : 64 ≤ j))), Nat.testBit_lt_two_pow (Nat.lt_of_lt_of_le hb (Nat.pow_le_pow_right (n := 2) (by decide) (by omega : 64 ≤ j)))]
theorem keyB_inj : ∀ {a b : List Nat}, (∀ w ∈ a, w < 18446744073709551616) → (∀ w ∈ b, w < 18446744073709551616) → keyB a = keyB b → a = b
 | [], [], _, _, _ => rfl
 | [], y :: b, _, _, h => by have := congrArg List.length h; simp [keyB, bytesW_length] at this; omega
 | x :: a, [], _, _, h => by have := congrArg List.length h; simp [keyB, bytesW_length] at this
 | x :: a, y :: b, ha, hb, h => by
  simp only [keyB, List.flatMap_cons] at h
  obtain ⟨h1, h2⟩ := List.append_inj h (by rw [bytesW_length, bytesW_length])
  rw [bytesW_inj (ha x (by simp)) (hb y (by simp)) h1, keyB_inj (fun w hw => ha w (by simp [hw])) (fun w hw => hb w (by simp [hw])) h2]
theorem Frm.key_inj {n : Nat} {a b : List Nat} (ha : Frm n a) (hb : Frm n b) (h : keyB a = keyB b) : a = b := keyB_inj (fun w hw => ha.lt hw) (fun w hw => hb.lt hw) h
abbrev Fs := List (List Nat)
def add (l : Fs) (t : List Nat) : Fs := if t ∈ l then l else l ++ [t]
def unlike (L : Fs) : Fs := L.foldl add []
def given (n : Nat) (l : Fs) (v : Nat) : Fs := l.foldl (fun acc t => add (add acc (cof n t v false)) (cof n t v true)) []
def nodes (n : Nat) (l : Fs) (v : Nat) : Fs := l.filter fun t => dep n t v
def st (n : Nat) (L : Fs) (A : Nat) : Nat → Fs
 | 0 => unlike L
 | k + 1 => if A.testBit k then given n (st n L A k) k else st n L A k
def lvl (n : Nat) (L : Fs) (A v : Nat) : Nat := (nodes n (st n L A n) v).length
theorem mem_add {l : Fs} {t x : List Nat} : x ∈ add l t ↔ x ∈ l ∨ x = t := by
 unfold add
 split
 ·constructor
  ·exact .inl
  ·rintro (h | rfl) <;> assumption
 ·simp
theorem add_nodup {l : Fs} {t : List Nat} (h : l.Nodup) : (add l t).Nodup := by
 unfold add
 split
 ·exact h
 ·rename_i hn
  rw [List.nodup_append]
  exact ⟨h, by simp, fun a ha b hb => by simp at hb; subst hb; rintro rfl; exact hn ha⟩
theorem foldl_add_mem {α : Type} (f : α → Fs → Fs) (g : α → List Nat → Prop) (hf : ∀ a l x, x ∈ f a l ↔ x ∈ l ∨ g a x) : ∀ (L : List α) (acc : Fs) (x : List Nat), x ∈ L.foldl (fun acc a => f a acc) acc ↔ x ∈ acc ∨ ∃ a ∈ L, g a x
 | [], acc, x => by simp
 | a :: L, acc, x => by
  rw [List.foldl_cons, foldl_add_mem f g hf L, hf]
  simp only [List.mem_cons, exists_eq_or_imp, or_assoc]
theorem foldl_add_nodup {α : Type} (f : α → Fs → Fs) (hf : ∀ a l, l.Nodup → (f a l).Nodup) : ∀ (L : List α) (acc : Fs), acc.Nodup → (L.foldl (fun acc a => f a acc) acc).Nodup
 | [], acc, h => h
 | a :: L, acc, h => foldl_add_nodup f hf L _ (hf a acc h)
theorem mem_unlike {L : Fs} {x : List Nat} : x ∈ unlike L ↔ x ∈ L := by
 unfold unlike
 have := foldl_add_mem (fun a l => add l a) (fun a x => x = a) (fun a l x => mem_add) L [] x
 rw [this]; simp
theorem unlike_nodup (L : Fs) : (unlike L).Nodup := foldl_add_nodup (fun a l => add l a) (fun a l h => add_nodup h) L [] (by simp)
theorem mem_given {n v : Nat} {l : Fs} {x : List Nat} : x ∈ given n l v ↔ ∃ t ∈ l, ∃ b, x = cof n t v b := by
 unfold given
 have := foldl_add_mem (fun t acc => add (add acc (cof n t v false)) (cof n t v true)) (fun t x => ∃ b, x = cof n t v b) (fun t l x => by
  rw [mem_add, mem_add]
  constructor
  ·rintro ((h | h) | h)
   ·exact .inl h
   ·exact .inr ⟨false, h⟩
   ·exact .inr ⟨true, h⟩
  ·rintro (h | ⟨b, h⟩)
   ·exact .inl (.inl h)
   ·cases b
    ·exact .inl (.inr h)
    ·exact .inr h) l [] x
 rw [this]; simp
theorem given_nodup (n : Nat) (l : Fs) (v : Nat) : (given n l v).Nodup := foldl_add_nodup (fun t acc => add (add acc (cof n t v false)) (cof n t v true)) (fun a l h => add_nodup (add_nodup h)) l [] (by simp)
theorem perm_of_same {a b : Fs} (ha : a.Nodup) (hb : b.Nodup) (h : ∀ x, x ∈ a ↔ x ∈ b) : a.Perm b := (List.perm_ext_iff_of_nodup ha hb).2 h
theorem nodes_perm {n v : Nat} {a b : Fs} (h : a.Perm b) : (nodes n a v).length = (nodes n b v).length := (h.filter _).length_eq
theorem add_length (l : Fs) (t : List Nat) : (add l t).length ≤ l.length + 1 := by unfold add; split <;> simp
theorem foldl_add_length {α : Type} (f : α → Fs → Fs) (c : Nat) (hf : ∀ a l, (f a l).length ≤ l.length + c) : ∀ (L : List α) (acc : Fs), (L.foldl (fun acc a => f a acc) acc).length ≤ acc.length + c * L.length
 | [], acc => by simp
 | a :: L, acc => by
  have h1 := foldl_add_length f c hf L (f a acc)
  have h2 := hf a acc
  rw [List.foldl_cons, List.length_cons, Nat.mul_succ]; omega
end Tab
namespace Go.Sx
open Go
section
variable {P : Program} {H : Hp}
theorem BuildSl.int {t e : Nat} {kd : IntKind} {x : Int} {K : Value → Hp → Prop} (h1 : P.underlying t = some (.slice e)) (h2 : sizeD P e = some 1) (h3 : zeroD P e = some (.int kd 0))
  (h : ∀ b, K (.slice (some ⟨b, 0, none⟩) 1 1) ((b, .cells (icells kd [x]) e (0, 0)) :: H)) : BuildSl P t 1 [(0, .int kd x)] H K := by
 refine ⟨icells kd [x], e, 1, _, h1, h2, h3, by decide, ?_, fun b _ => h b⟩
 have e1 : Array.range 1 = #[0] := rfl
 simp [Instr.fill, Value.cells, icells, e1]
theorem BuildSl.none {t e k : Nat} {z : Value} {K : Value → Hp → Prop} (h1 : P.underlying t = some (.slice e)) (h2 : sizeD P e = some k) (h3 : zeroD P e = some z)
  (h : ∀ b, K (.slice (some ⟨b, 0, none⟩) 0 0) ((b, .cells #[] e (0, 0)) :: H)) : BuildSl P t 0 [] H K := by
 refine ⟨_, e, k, z, h1, h2, h3, by simp, rfl, fun b _ => ?_⟩
 have : ((Array.range (0 * k)).map fun i => z.cells[i % z.cells.size]!) = #[] := by simp
 rw [this]; exact h b
def brow (l : List UInt8) : List (List Value) := l.map fun b => [Value.int .u8 b.toNat]
theorem rows_brow (l : List UInt8) : rows (brow l) = (l.map fun b => Value.int .u8 b.toNat).toArray := by
 unfold rows brow
 congr 1
 induction l with
 | nil => rfl
 | cons b r ih => simp [ih]
theorem BytesS.own {T : TypeId} {v : Value} {l : List UInt8} {C : Hp} (h : SOwn T 1 v (brow l) C) (hs : ∀ x ∈ C, x ∈ H) {K : Value → Prop} (hk : K (.string ⟨l.toArray⟩)) : BytesS H v K := by
 obtain ⟨a, cap, h1, h2⟩ := ((Sl.ofOwn h (by decide)).mono hs).cells
 refine ⟨a, _, cap, l, h1, ?_, by simp [brow], hk⟩
 rw [rows_brow, Nat.mul_one] at h2; exact h2
def strV (l : List UInt8) : Value := .string ⟨l.toArray⟩
theorem strV_beq (a b : List UInt8) : ((⟨a.toArray⟩ : ByteArray) == ⟨b.toArray⟩) = decide (a = b) := by
 rw [beq_toListBytes, ByteArray.toList_eq, ByteArray.toList_eq]
 simp only [List.toList_toArray]
 rw [Bool.eq_iff_iff]; simp
theorem strV_law (a b : List UInt8) : Instr.sameNow .string (strV a) (strV b) = some (decide (a = b)) := by
 show some _ = some _
 rw [strV_beq]
theorem strV_bits (a : List UInt8) : Instr.sameBits 10000 (strV a) (strV a) = true := by
 show ((⟨a.toArray⟩ : ByteArray) == ⟨a.toArray⟩) = true
 rw [strV_beq]; simp
theorem Bin.strNe {a b : List UInt8} {k : Value → Prop} (h : k (.bool (decide (a ≠ b)))) : Bin .str .neq (strV a) (strV b) k := by
 refine ⟨_, rfl, ?_⟩
 have : (!((⟨a.toArray⟩ : ByteArray).toList == (⟨b.toArray⟩ : ByteArray).toList)) = decide (a ≠ b) := by
  rw [← beq_toListBytes, strV_beq]; simp
 rw [this]; exact h
def TEnts (n : Nat) (B : Hp) (es : Array MapEntry) (ck : Nat) (m : List (List UInt8 × List Nat)) : Prop :=
 Ents strV (fun v ws => Tbl B v ⟨n, ws⟩) es ck m ∧ ∀ x ∈ m, x.1 = Tab.keyB x.2 ∧ Tab.Frm n x.2
theorem TEnts.mono {n : Nat} {B B' : Hp} {es : Array MapEntry} {ck : Nat} {m : List (List UInt8 × List Nat)} (h : TEnts n B es ck m) (hs : ∀ x ∈ B, x ∈ B') : TEnts n B' es ck m := ⟨h.1.mono fun _ _ h => h.mono hs, h.2⟩
theorem TEnts.empty (n : Nat) (B : Hp) : TEnts n B #[] 0 [] := ⟨Ents.empty, by simp⟩
def tset (m : List (List UInt8 × List Nat)) (ws : List Nat) : List (List UInt8 × List Nat) := mset m (Tab.keyB ws) ws
theorem TEnts.nodup {n : Nat} {B : Hp} {es : Array MapEntry} {ck : Nat} {m : List (List UInt8 × List Nat)} (h : TEnts n B es ck m) : (m.map Prod.snd).Nodup := by
 have h1 := h.1.nd
 have e : m.map Prod.fst = (m.map Prod.snd).map Tab.keyB := by
  rw [List.map_map]; apply List.map_congr_left; intro x hx; exact (h.2 x hx).1
 rw [e] at h1
 exact List.Pairwise.of_map Tab.keyB (fun a b hne e => hne (by rw [e])) h1
theorem tset_same {n : Nat} {m : List (List UInt8 × List Nat)} {ws : List Nat} (hm : ∀ x ∈ m, x.1 = Tab.keyB x.2 ∧ Tab.Frm n x.2) (hf : Tab.Frm n ws) : ∀ x, x ∈ (tset m ws).map Prod.snd ↔ x ∈ m.map Prod.snd ∨ x = ws := by
 intro x
 unfold tset mset
 split
 ·rename_i hk
  obtain ⟨y, hy, hky⟩ := List.mem_map.1 hk
  have hyw : y.2 = ws := (hm y hy).2.key_inj hf (by rw [← (hm y hy).1, hky])
  have : (m.map fun y => if y.1 = Tab.keyB ws then (Tab.keyB ws, ws) else y) = m := by
   conv => rhs; rw [← List.map_id m]
   apply List.map_congr_left
   intro z hz
   split
   ·rename_i hzk
    have : z.2 = ws := (hm z hz).2.key_inj hf (by rw [← (hm z hz).1, hzk])
    simp only [id]; rw [← hzk, ← this]
   ·rfl
  rw [this]
  constructor
  ·exact .inl
  ·rintro (h | rfl)
   ·exact h
   ·exact List.mem_map.2 ⟨y, hy, hyw⟩
 ·simp
theorem tset_ok {n : Nat} {m : List (List UInt8 × List Nat)} {ws : List Nat} (hm : ∀ x ∈ m, x.1 = Tab.keyB x.2 ∧ Tab.Frm n x.2) (hf : Tab.Frm n ws) : ∀ x ∈ tset m ws, x.1 = Tab.keyB x.2 ∧ Tab.Frm n x.2 := by
 intro x hx
 unfold tset mset at hx
 split at hx
 ·obtain ⟨y, hy, rfl⟩ := List.mem_map.1 hx
  split
  ·exact ⟨rfl, hf⟩
  ·exact hm y hy
 ·rcases List.mem_append.1 hx with hx | hx
  ·exact hm x hx
  ·simp at hx; subst hx; exact ⟨rfl, hf⟩
theorem TEnts.upd {n : Nat} {B : Hp} {es : Array MapEntry} {ck b : Nat} {m : List (List UInt8 × List Nat)} {ws : List Nat} {val : Value} {K : Hp → Prop} (h : TEnts n B es ck m) (hv : Tbl B val ⟨n, ws⟩) (hf : Tab.Frm n ws)
  (h1 : ∀ es' ck', TEnts n B es' ck' (tset m ws) → ∃ H', Upd b (.map es ck) (.map es' ck') H H' ∧ K H') : MapUpd .string H (.map (some b)) (strV (Tab.keyB ws)) val K :=
 Ents.upd strV_law strV_bits h.1 hv fun es' ck' he => h1 es' ck' ⟨he, tset_ok h.2 hf⟩
end
end Go.Sx
namespace Go.Sx
open Go
section
variable {P : Program} {g : Gh} {H : Hp}
theorem SOwn.apps {elem k bytes : Nat} {zero : Value} {v : Value} {rs : List (List Value)} {C A B : Hp} (h : SOwn elem k v rs C) {xa : Option Addr} {xc : Nat} {r2 : List (List Value)}
  (hx : Cells (A ++ (C ++ B)) xa (r2.length * k) (rows r2)) (hr : ∀ r ∈ r2, r.length = k) (h1 : ∀ r ∈ r2, ∀ u ∈ r, u.oneCell' = true) (hz : ∃ z : List Value, zero.cells = z.toArray ∧ z.length = k)
  (hb : (rs.length + r2.length) * bytes ≤ 140737488355328) (hmax : rs.length + r2.length ≤ 9223372036854775807) {K : Value → Hp → Prop}
  (hk : ∀ v' C', SOwn elem k v' (rs ++ r2) C' → K v' (A ++ (C' ++ B))) : App P elem k bytes zero (A ++ (C ++ B)) v (.slice xa r2.length xc) K := by
 obtain ⟨z, hz1, hz2⟩ := hz
 have hnone : ∀ u ∈ (rows r2).toList, u.oneCell' = true := by
  intro u hu
  simp only [rows, List.mem_flatten] at hu
  obtain ⟨r, h2, h3⟩ := hu
  exact h1 r h2 u h3
 rcases h with ⟨rfl, rfl, rfl⟩ | ⟨b, junk, rfl, rfl, hall⟩
 ·refine ⟨none, 0, 0, xa, r2.length, xc, #[], rows r2, rfl, rfl, rfl, hx, rows_size hr, by simp, hnone, fun h => ?_, fun _ => ⟨by simpa using hb, by simpa using hmax, fun newcap hn b hbf => ?_⟩⟩
  ·have : r2 = [] := List.eq_nil_of_length_eq_zero (by omega)
   subst this
   exact hk _ [] (.inl ⟨rfl, rfl, rfl⟩)
  ·rw [show (#[] : Array Value) ++ rows r2 ++ Builtin.zeroCells zero.cells (newcap - (0 + r2.length)) = rows ([] ++ r2 ++ List.replicate (newcap - r2.length) z) by rw [hz1, zeroRows z hz2]; simp only [Nat.zero_add, Array.empty_append, List.nil_append]; rw [rows_append]]
   refine ⟨_, Ent.swap3 [(b, _)] A B, hk _ [(b, _)] (.inr ⟨b, List.replicate (newcap - r2.length) z, ?_, rfl, ?_⟩)⟩
   ·simp; omega
   ·intro x hx
    rcases List.mem_append.1 hx with hx | hx
    ·exact hr x hx
    ·rw [List.eq_of_mem_replicate hx, hz2]
 ·have hsz := rows_size hall
  have hallr : ∀ x ∈ rs, x.length = k := fun x hx => hall x (by simp [hx])
  have hold : rows rs = (rows (rs ++ junk)).extract 0 (0 + rs.length * k) := by
   rw [← rows_append]
   apply Array.ext'
   have := rows_size hallr
   have h2 : (rows rs).toList.length = rs.length * k := by rw [Array.length_toList]; exact this
   rw [Array.toList_extract, Array.toList_append, List.extract_eq_take_drop, List.drop_zero, Nat.zero_add, Nat.sub_zero, ← h2, List.take_left]
  refine ⟨some ⟨b, 0, none⟩, rs.length, rs.length + junk.length, xa, r2.length, xc, rows rs, rows r2, rfl, rfl, .inr ⟨rfl, _, elem, (0, 0), by simp, ?_, hold⟩, hx, rows_size hr, rows_size hallr, hnone, fun hfit => ?_, fun hgrow => ⟨hb, by omega, fun newcap hn b' hbf => ?_⟩⟩
  ·rw [hsz]; simp only [List.length_append, Nat.zero_add]; exact Nat.mul_le_mul_right _ (by omega)
  ·obtain ⟨j1, j2, rfl, hj⟩ : ∃ j1 j2, junk = j1 ++ j2 ∧ j1.length = r2.length := ⟨junk.take r2.length, junk.drop r2.length, (List.take_append_drop _ _).symm, by rw [List.length_take]; omega⟩
   have hallj : ∀ x ∈ j1, x.length = k := fun x hx => hall x (by simp [hx])
   refine ⟨_, elem, _, rfl, ?_, ((Upd.head _).append B).prepend A, hk _ [(b, _)] (.inr ⟨b, j2, ?_, ?_, ?_⟩)⟩
   ·rw [hsz, List.length_append, List.length_append, hj, Nat.add_mul, Nat.add_mul]
    show 0 + rs.length * k + r2.length * k ≤ _
    omega
   ·simp; omega
   ·have e : (⟨b, 0, none⟩ : Addr).off + rs.length * k = rs.length * k := by simp
    have l1 := flatten_length rs hallr
    have l2 := flatten_length j1 hallj
    have l3 := flatten_length r2 hr
    have e2 : over (rows (rs ++ (j1 ++ j2))) (rs.length * k) (rows r2).toList = rows (rs ++ r2 ++ j2) := by
     unfold rows
     rw [List.flatten_append, List.flatten_append, List.toList_toArray, over_eq _ _ _ (by rw [List.length_append, List.length_append, l1, l2, l3, hj]; omega)]
     congr 1
     rw [List.flatten_append, List.flatten_append, ← l1, List.take_left, l3, ← hj, ← l2, List.drop_append, ← List.append_assoc]
     simp [List.drop_append]
    rw [e, e2]
   ·intro x hx
    simp only [List.append_assoc, List.mem_append] at hx
    rcases hx with hx | hx | hx
    ·exact hallr x hx
    ·exact hr x hx
    ·exact hall x (by simp [hx])
  ·refine ⟨A ++ ([(b', _)] ++ B), ?_, hk _ [(b', _)] (.inr ⟨b', List.replicate (newcap - (rs.length + r2.length)) z, ?_, rfl, ?_⟩)⟩
   ·rw [hz1, zeroRows z hz2, rows_append, rows_append]
    exact fun g w h => (Ent.segs [[_], A, [_], B] [[_], A, [_], B] ((List.perm_append_comm (l₁ := [_, A]) (l₂ := [_])).append_right [B] |>.trans (.cons _ (.swap _ _ _)) ) g w h).tail
   ·simp; omega
   ·intro x hx
    rcases List.mem_append.1 hx with hx | hx
    ·rcases List.mem_append.1 hx with hx | hx
     ·exact hallr x hx
     ·exact hr x hx
    ·rw [List.eq_of_mem_replicate hx, hz2]
def IOwn (T : TypeId) (kd : IntKind) (v : Value) (l : List Int) (C : Hp) : Prop := SOwn T 1 v (l.map fun n => [Value.int kd n]) C
theorem IOwn.nil {T : TypeId} {kd : IntKind} : IOwn T kd (.slice none 0 0) [] [] := SOwn.nil _ _
theorem IOwn.lenS {T : TypeId} {kd : IntKind} {v : Value} {l : List Int} {C : Hp} (h : IOwn T kd v l C) {K : Value → Prop} (hk : K (.int .i64 l.length)) : LenS v K := SOwn.lenS h (by simpa using hk)
theorem IOwn.ints {T : TypeId} {kd : IntKind} {v : Value} {l : List Int} {C : Hp} (h : IOwn T kd v l C) : Ints kd C v l := Sl.ofOwn h (by decide)
theorem IOwn.app {T : TypeId} {kd : IntKind} {v : Value} {l : List Int} {C A B : Hp} {bytes : Nat} (h : IOwn T kd v l C) {xb xc : Nat} {x : Int} {xT : TypeId} {fz : Nat × Nat} (hx : (xb, Obj.cells (icells kd [x]) xT fz) ∈ A ++ (C ++ B))
  (hb : (l.length + 1) * bytes ≤ 140737488355328) (hm : l.length + 1 ≤ 9223372036854775807) {K : Value → Hp → Prop} (hk : ∀ v' C', IOwn T kd v' (l ++ [x]) C' → K v' (A ++ (C' ++ B))) : App P T 1 bytes (.int kd 0) (A ++ (C ++ B)) v (.slice (some ⟨xb, 0, none⟩) 1 xc) K :=
 SOwn.app' (r := [.int kd x]) h hx rfl (by simp [Value.oneCell']) ⟨[.int kd 0], rfl, rfl⟩ (by simpa using hb) (by simpa using hm) fun v' C' ho => hk v' C' (by unfold IOwn; simpa using ho)
theorem IOwn.apps {T : TypeId} {kd : IntKind} {v x : Value} {l l2 : List Int} {C A B : Hp} {bytes : Nat} (h : IOwn T kd v l C) (hx : Ints kd (A ++ (C ++ B)) x l2)
  (hb : (l.length + l2.length) * bytes ≤ 140737488355328) (hm : l.length + l2.length ≤ 9223372036854775807) {K : Value → Hp → Prop} (hk : ∀ v' C', IOwn T kd v' (l ++ l2) C' → K v' (A ++ (C' ++ B))) : App P T 1 bytes (.int kd 0) (A ++ (C ++ B)) v x K := by
 obtain ⟨a, cap, rfl, hc⟩ := Sl.cells hx
 exact SOwn.apps h hc (by simp) (by simp [Value.oneCell']) ⟨[.int kd 0], rfl, rfl⟩ (by simpa using hb) (by simpa using hm) fun v' C' ho => hk v' C' (by unfold IOwn; rw [List.map_append]; exact ho)
theorem BuildSl.ints3 {t e : Nat} {kd : IntKind} {x y z : Int} {K : Value → Hp → Prop} (h1 : P.underlying t = some (.slice e)) (h2 : sizeD P e = some 1) (h3 : zeroD P e = some (.int kd 0))
  (h : ∀ b, K (.slice (some ⟨b, 0, Option.none⟩) 3 3) ((b, .cells (icells kd [x, y, z]) e (0, 0)) :: H)) : BuildSl P t 3 [(0, .int kd x), (1, .int kd y), (2, .int kd z)] H K := by
 refine ⟨icells kd [x, y, z], e, 1, _, h1, h2, h3, by decide, ?_, fun b _ => h b⟩
 have e1 : Array.range (3 * 1) = #[0, 1, 2] := rfl
 simp [Instr.fill, Value.cells, icells, e1]
end
end Go.Sx
namespace Go.Sx
open Go
section
variable {P : Program}
theorem cellsOf_one {e : TypeId} {i : TypeInfo} (hi : P.info? e = some i) (hs : i.size = 1) : P.cellsOf e = 1 := by simp [Program.cellsOf, hi, hs]
theorem part_int {e : TypeId} {q : IntKind} (hu : P.underlying e = some (.int q)) {l : List Int} {j : Nat} {x : Int} (h : l[j]? = some x) (w : World) : (part e (icells q l) j).run P w = .ok (.int q x) w := by
 simp [part, isAgg, run_underlying hu, icells, h]
theorem eqItems_ints {e : TypeId} {q : IntKind} (hu : P.underlying e = some (.int q)) (hc : P.cellsOf e = 1) (d : Nat) (l l' : List Int) (w : World) : ∀ is : List Nat, (∀ i ∈ is, i < l.length ∧ i < l'.length) →
  (Op.eqItems (d + 1) e (P.cellsOf e) (icells q l) (icells q l') is).run P w = .ok (is.all fun i => l[i]? == l'[i]?) w
 | [], _ => by simp [Op.eqItems]
 | i :: is, h => by
  obtain ⟨h1, h2⟩ := h i (by simp)
  have g1 : l[i]? = some l[i] := List.getElem?_eq_getElem h1
  have g2 : l'[i]? = some l'[i] := List.getElem?_eq_getElem h2
  have p1 := part_int (P := P) hu g1 w
  have p2 := part_int (P := P) hu g2 w
  have p3 : (Op.equalIn (d + 1) e (.int q l[i]) (.int q l'[i])).run P w = .ok (l[i] == l'[i]) w := by
   simp only [Op.equalIn, Sem.run_bind, run_underlying hu, Result.andThen_ok, if_true, Sem.run_pure]
  have ih := eqItems_ints hu hc d l l' w is fun j hj => h j (by simp [hj])
  simp only [Op.eqItems, hc, Nat.mul_one, Sem.run_bind, p1, p2, p3, Result.andThen_ok] at ih ⊢
  rw [List.all_cons, g1, g2]
  cases hb : (l[i] == l'[i])
  ·simp [hb]
  ·simp [hb, ih]
theorem EqV.array {t e : TypeId} {q : IntKind} {n : Nat} (ht : P.underlying t = some (.array n e)) (hu : P.underlying e = some (.int q)) (hz : sizeD P e = some 1) (l l' : List Int) (h1 : l.length = n) (h2 : l'.length = n) :
  EqV P t (.agg (icells q l)) (.agg (icells q l')) (decide (l = l')) := by
 obtain ⟨i, hi, hs⟩ := sizeD_spec hz
 have hc := cellsOf_one hi hs
 intro w
 show (Op.equalIn (9998 + 1 + 1) t _ _).run P w = _
 rw [run_equalIn_array w (9998 + 1) _ _ ht hi, eqItems_ints hu hc 9998 l l' w _ (fun j hj => by have := List.mem_range.1 hj; omega)]
 congr 1
 rw [Bool.eq_iff_iff]
 simp only [List.all_eq_true, List.mem_range, decide_eq_true_eq, beq_iff_eq]
 constructor
 ·intro h
  apply List.ext_getElem?
  intro j
  by_cases hj : j < n
  ·exact h j hj
  ·rw [List.getElem?_eq_none (by omega), List.getElem?_eq_none (by omega)]
 ·rintro rfl j _; rfl
theorem ChkV.array {t e : TypeId} {q : IntKind} {n : Nat} (ht : P.underlying t = some (.array n e)) (hu : P.underlying e = some (.int q)) (hz : sizeD P e = some 1) (l : List Int) (h1 : l.length = n) : ChkV P t (.agg (icells q l)) := by
 obtain ⟨i, hi, hs⟩ := sizeD_spec hz
 intro b w
 have gen : ∀ d, (Instr.checkKey b (d + 1 + 1) t (.agg (icells q l))).run P w = .ok () w := by
  intro d
  have p2 : ∀ x : Int, (Instr.checkKey b (d + 1) e (.int q x)).run P w = .ok () w := fun x => by
   simp only [Instr.checkKey, Sem.run_bind, run_underlying hu, Result.andThen_ok, Sem.run_pure]
  unfold Instr.checkKey
  simp only [Sem.run_bind, run_underlying ht, Result.andThen_ok]
  simp only [Std.Legacy.Range.forIn_eq_forIn_range', Std.Legacy.Range.size, Nat.sub_zero, Nat.add_one_sub_one, Nat.div_one]
  have key : ∀ is : List Nat, (∀ j ∈ is, j < l.length) → (forIn is PUnit.unit fun j (_ : PUnit) => (do
     Instr.checkKey b (d + 1) e (← part e (icells q l) (j * (← sizeOf e)))
     pure (ForInStep.yield PUnit.unit) : Sem (ForInStep PUnit))).run P w = .ok PUnit.unit w := by
   intro is
   induction is with
   | nil => intro _; simp
   | cons j is ih =>
    intro h
    have p1 := part_int (P := P) hu (List.getElem?_eq_getElem (h j (by simp))) w
    simp only [List.forIn_cons, Sem.run_bind, run_sizeOf hi, Result.andThen_ok, hs, Nat.mul_one, p1, p2, Sem.run_pure]
    exact ih fun k hk => h k (by simp [hk])
  have := key (List.range' 0 n) (fun j hj => by have := List.mem_range'_1.1 hj; omega)
  rw [this]; rfl
 exact gen 9998
end
end Go.Sx
namespace Go.Sx
open Go
section
variable {P : Program} {g : Gh} {H : Hp}
def Plain2 (P : Program) (t : TypeId) (x y : Value) : Prop :=
 (∃ q a b, P.underlying t = some (.int q) ∧ x = .int q a ∧ y = .int q b) ∨ (∃ a b, P.underlying t = some .bool ∧ x = .bool a ∧ y = .bool b)
theorem Plain2.eq {t : TypeId} {x y : Value} (h : Plain2 P t x y) (d : Nat) (w : World) : ∃ b, (Op.equalIn (d + 1) t x y).run P w = .ok b w ∧ (b = true ↔ x = y) := by
 rcases h with ⟨q, a, b, hu, rfl, rfl⟩ | ⟨a, b, hu, rfl, rfl⟩
 ·exact ⟨a == b, by simp [Op.equalIn, run_underlying hu], by simp⟩
 ·exact ⟨a == b, by simp [Op.equalIn, run_underlying hu], by simp⟩
theorem part_plain {t : TypeId} {xs : Array Value} {o : Nat} {x : Value} (hu : (∃ q, P.underlying t = some (.int q)) ∨ P.underlying t = some .bool) (h : xs[o]? = some x) (w : World) : (part t xs o).run P w = .ok x w := by
 rcases hu with ⟨q, hu⟩ | hu <;> simp [part, isAgg, run_underlying hu, h]
theorem eqFields_flat (d : Nat) (xs ys : Array Value) (w : World) : ∀ fs : List Field, (∀ f ∈ fs, f.name ≠ "_" ∧ ∃ x y, xs[f.offset]? = some x ∧ ys[f.offset]? = some y ∧ Plain2 P f.type x y) →
  ∃ b, (Op.eqFields (d + 1) xs ys fs).run P w = .ok b w ∧ (b = true ↔ ∀ f ∈ fs, xs[f.offset]? = ys[f.offset]?)
 | [], _ => ⟨true, by simp [Op.eqFields], by simp⟩
 | f :: fs, h => by
  obtain ⟨hn, x, y, hx, hy, hp⟩ := h f (by simp)
  obtain ⟨b', ih, hb'⟩ := eqFields_flat d xs ys w fs fun g hg => h g (by simp [hg])
  have hu : (∃ q, P.underlying f.type = some (.int q)) ∨ P.underlying f.type = some .bool := by
   rcases hp with ⟨q, _, _, hu, _⟩ | ⟨_, _, hu, _⟩
   ·exact .inl ⟨q, hu⟩
   ·exact .inr hu
  obtain ⟨b, hr, hb⟩ := hp.eq d w
  have p1 := part_plain hu hx w
  have p2 := part_plain hu hy w
  cases b with
  | false =>
   refine ⟨false, by simp [Op.eqFields, hn, p1, p2, hr], ?_⟩
   simp only [Bool.false_eq_true, List.mem_cons, forall_eq_or_imp, false_iff, hx, hy, Option.some.injEq]
   exact fun hh => absurd (hb.2 hh.1) (by decide)
  | true =>
   refine ⟨b', by simp [Op.eqFields, hn, p1, p2, hr, ih], ?_⟩
   rw [hb']
   simp only [List.mem_cons, forall_eq_or_imp, hx, hy, Option.some.injEq, hb.1 rfl, true_and]
theorem EqV.flat {t : TypeId} {fs : Array Field} (ht : P.underlying t = some (.struct fs)) (hp : P.stoodInHeld t = false) {xs ys : Array Value} {p : Prop} [Decidable p]
  (h : ∀ f ∈ fs.toList, f.name ≠ "_" ∧ ∃ x y, xs[f.offset]? = some x ∧ ys[f.offset]? = some y ∧ Plain2 P f.type x y) (he : (∀ f ∈ fs.toList, xs[f.offset]? = ys[f.offset]?) ↔ p) : EqV P t (.agg xs) (.agg ys) (decide p) := by
 have e : P.fieldsOf t = fs := by simp [Program.fieldsOf, ht]
 intro w
 show (Op.equalIn (9998 + 1 + 1) t _ _).run P w = _
 rw [run_equalIn_struct w (9998 + 1) t xs ys (by rw [e]; exact ht) hp, e]
 obtain ⟨b, hr, hb⟩ := eqFields_flat (P := P) 9998 xs ys w fs.toList h
 rw [hr]
 congr 1
 rw [Bool.eq_iff_iff, hb, he, decide_eq_true_eq]
theorem ChkV.flat {t : TypeId} {fs : Array Field} (ht : P.underlying t = some (.struct fs)) {xs : Array Value}
  (h : ∀ f ∈ fs.toList, f.name ≠ "_" ∧ ∃ x, xs[f.offset]? = some x ∧ Plain2 P f.type x x) : ChkV P t (.agg xs) := by
 intro b w
 have gen : ∀ d, (Instr.checkKey b (d + 1 + 1) t (.agg xs)).run P w = .ok () w := by
  intro d
  unfold Instr.checkKey
  simp only [Sem.run_bind, run_underlying ht, Result.andThen_ok]
  rw [← Array.forIn_toList]
  clear ht
  generalize fs.toList = l at h
  induction l with
  | nil => simp
  | cons f l ih =>
   obtain ⟨hn, x, hx, hp⟩ := h f (by simp)
   have hu : (∃ q, P.underlying f.type = some (.int q)) ∨ P.underlying f.type = some .bool := by
    rcases hp with ⟨q, _, _, hu, _⟩ | ⟨_, _, hu, _⟩
    ·exact .inl ⟨q, hu⟩
    ·exact .inr hu
   have p1 := part_plain hu hx w
   have p2 : (Instr.checkKey b (d + 1) f.type x).run P w = .ok () w := by
    rcases hp with ⟨q, a, _, hu, rfl, _⟩ | ⟨a, _, hu, rfl, _⟩
    ·simp only [Instr.checkKey, Sem.run_bind, run_underlying hu, Result.andThen_ok, Sem.run_pure]
    ·simp only [Instr.checkKey, Sem.run_bind, run_underlying hu, Result.andThen_ok, Sem.run_pure]
   have := ih fun g hg => h g (by simp [hg])
   simp only [List.forIn_cons, Sem.run_bind]
   simp [hn, p1, p2]
   simpa using this
 exact gen 9998
theorem sameBits_flat (n : Nat) {xs : Array Value} (h : ∀ x ∈ xs.toList, (∃ q a, x = .int q a) ∨ ∃ a, x = .bool a) : Instr.sameBits (n + 1 + 1) (.agg xs) (.agg xs) = true := by
 simp only [Instr.sameBits, beq_self_eq_true, Bool.true_and, List.all_eq_true]
 intro x hx
 obtain ⟨a, b⟩ := x
 have h1 := List.of_mem_zip hx
 have e : a = b := by
  obtain ⟨i, hi, he⟩ := List.mem_iff_getElem.1 hx
  simp at he
  exact he.1.symm.trans he.2
 subst e
 rcases h a h1.1 with ⟨q, z, rfl⟩ | ⟨z, rfl⟩ <;> simp [Instr.sameBits]
end
section
variable {κ : Type} [DecidableEq κ] {β : Type} {ke : κ → Value} {vr : Value → β → Prop} {es : Array MapEntry} {ck b : Nat} {m : List (κ × β)} {P : Program} {H : Hp}
def mdel (m : List (κ × β)) (k : κ) : List (κ × β) := m.filter fun y => ¬ y.1 = k
theorem mget_mdel {k k' : κ} : mget (mdel m k) k' = if k' = k then none else mget m k' := by
 unfold mget mdel
 rw [List.find?_filter]
 by_cases e : k' = k
 ·rw [if_pos e]
  rw [List.find?_eq_none.2]
  ·rfl
  ·intro x _; simp; intro h1 h2; exact h1 (h2.trans e)
 ·rw [if_neg e]
  congr 1
  congr 1
  funext y
  by_cases e2 : y.1 = k'
  ·have : ¬ y.1 = k := fun e3 => e (e2.symm.trans e3)
   simp [e2, this, e]
  ·simp [e2]
theorem mget_mset {k k' : κ} {x : β} : mget (mset m k x) k' = if k' = k then some x else mget m k' := by
 unfold mget mset
 by_cases hk : k ∈ m.map Prod.fst
 ·rw [if_pos hk]
  by_cases e : k' = k
  ·subst e
   rw [if_pos rfl]
   induction m with
   | nil => simp at hk
   | cons y m ih =>
    rw [List.map_cons, List.find?_cons]
    by_cases ey : y.1 = k'
    ·simp [ey]
    ·rw [if_neg ey]
     simp only [ey, decide_false]
     rw [ih]
     rw [List.map_cons] at hk
     rcases List.mem_cons.1 hk with h | h
     ·exact absurd h.symm ey
     ·simpa using h
  ·rw [if_neg e]
   have : ∀ l : List (κ × β), (List.find? (fun y => decide (y.1 = k')) (l.map fun y => if y.1 = k then (k, x) else y)).map Prod.snd = (List.find? (fun y => decide (y.1 = k')) l).map Prod.snd := by
    intro l
    induction l with
    | nil => rfl
    | cons y l ih =>
     rw [List.map_cons, List.find?_cons, List.find?_cons]
     by_cases ey : y.1 = k
     ·have h1 : decide (k = k') = false := by simpa using fun h => e h.symm
      have h2 : decide (y.1 = k') = false := by rw [ey]; exact h1
      simp only [if_pos ey, h1, h2]
      exact ih
     ·simp only [if_neg ey]
      cases decide (y.1 = k') with
      | true => rfl
      | false => exact ih
   exact this m
 ·rw [if_neg hk]
  rw [List.find?_append]
  by_cases e : k' = k
  ·subst e
   have : List.find? (fun y => decide (y.1 = k')) m = none := by
    rw [List.find?_eq_none]; intro y hy; simp; intro h; exact hk (List.mem_map.2 ⟨y, hy, h⟩)
   simp [this]
  ·have : ¬ k = k' := fun h => e h.symm
   rw [if_neg e]
   cases List.find? (fun y => decide (y.1 = k')) m <;> simp [this]
theorem mdel_erase (nd : (m.map Prod.fst).Nodup) {i : Nat} {k : κ} {y : β} (hi : m[i]? = some (k, y)) : mdel m k = m.eraseIdx i := by
 unfold mdel
 induction m generalizing i with
 | nil => simp at hi
 | cons z m ih =>
  rw [List.map_cons, List.nodup_cons] at nd
  cases i with
  | zero =>
   simp at hi; subst hi
   rw [List.eraseIdx_cons_zero, List.filter_cons_of_neg (by simp)]
   rw [List.filter_eq_self]
   intro w hw
   simp only [decide_not, Bool.not_eq_true', decide_eq_false_iff_not]
   intro e
   exact nd.1 (List.mem_map.2 ⟨w, hw, e⟩)
  | succ i =>
   simp at hi
   have hz : ¬ z.1 = k := fun e => nd.1 (List.mem_map.2 ⟨_, List.mem_of_getElem? hi, e.symm⟩)
   rw [List.eraseIdx_cons_succ, List.filter_cons_of_pos (by simpa using hz), ih nd.2 hi]
omit [DecidableEq κ] in
theorem Ents.less (h : Ents ke vr es ck m) (i : Nat) : Ents ke vr (es.eraseIdxIfInBounds i) ck (m.eraseIdx i) := by
 have hl : (es.eraseIdxIfInBounds i).toList = es.toList.eraseIdx i := by
  unfold Array.eraseIdxIfInBounds
  split
  ·simp
  ·rename_i hh; rw [List.eraseIdx_of_length_le (by simpa using hh)]
 refine ⟨?_, fun j e x he hx => ?_, ?_, ?_, fun e he => ?_⟩
 ·have := congrArg List.length hl
  rw [Array.length_toList, List.length_eraseIdx] at this
  rw [this, List.length_eraseIdx, Array.length_toList, h.len]
 ·rw [← Array.getElem?_toList, hl, List.getElem?_eraseIdx] at he
  rw [List.getElem?_eraseIdx] at hx
  split at he
  ·rename_i hh; rw [if_pos hh] at hx; exact h.key j e x (by simpa using he) hx
  ·rename_i hh; rw [if_neg hh] at hx; exact h.key (j + 1) e x (by simpa using he) hx
 ·rw [← eraseIdx_map]; exact h.nd.sublist (List.eraseIdx_sublist _ _)
 ·rw [hl, ← eraseIdx_map]; exact h.born.sublist (List.eraseIdx_sublist _ _)
 ·rw [hl] at he; exact h.lt e (List.mem_of_mem_eraseIdx he)
theorem Ents.delS {P : Program} {kt : TypeId} {k : κ} {K : Hp → Prop} (hk : ∀ a b, EqV P kt (ke a) (ke b) (decide (a = b))) (hc : ∀ a, ChkV P kt (ke a)) (h : Ents ke vr es ck m) (hm : (b, Obj.map es ck) ∈ H)
  (h1 : ∀ es', Ents ke vr es' ck (mdel m k) → ∃ H', Upd b (.map es ck) (.map es' ck) H H' ∧ K H') : MapDelS P kt H (.map (some b)) (ke k) K := by
 refine ⟨hc k, .inr ?_⟩
 rcases h.findS hk k with ⟨i, y, e, g1, g2, g3, g4⟩ | ⟨g1, g2⟩
 ·refine ⟨b, es, ck, _, rfl, g4, ?_⟩
  have := h.less i
  rw [← mdel_erase h.nd g2] at this
  exact h1 _ this
 ·refine ⟨b, es, ck, _, rfl, g2, hm, ?_⟩
  have e : mdel m k = m := by
   unfold mdel
   rw [List.filter_eq_self]
   intro w hw
   simp only [decide_not, Bool.not_eq_true', decide_eq_false_iff_not]
   intro e
   exact g1 (List.mem_map.2 ⟨w, hw, e⟩)
  obtain ⟨H', hu, hK⟩ := h1 es (by rw [e]; exact h)
  have : ∀ {H H' : Hp} , Upd b (.map es ck) (.map es ck) H H' → H' = H := by
   intro H H' hu
   generalize ho : Obj.map es ck = o at hu
   induction hu with
   | head R => rfl
   | tail _ ih => rw [ih]
  rw [this hu] at hK; exact hK
end
section
variable {P : Program} {H : Hp}
theorem SOwn.ldRow {T : TypeId} {k : Nat} {v : Value} {rs : List (List Value)} {C : Hp} (hs : SOwn T k v rs C) {i : Nat} {kd : IntKind} {r : List Value} (hr : rs[i]? = some r) (hC : ∀ y ∈ C, y ∈ H) {K : Value → Prop} (hk : K (.agg r.toArray)) :
  IAddr k v (.int kd (i : Int)) fun p => LdA k H p K := by
 have hi := (List.getElem?_eq_some_iff.1 hr).1
 obtain ⟨b', junk, rfl, rfl, hall⟩ := hs.pos (by omega)
 exact IAddr.nat hi (LdA.row (hC _ (List.Mem.head _)) hall (by rw [List.getElem?_append_left hi]; exact hr) hk)
theorem SOwn.ldCell {T : TypeId} {k : Nat} {v x : Value} {rs : List (List Value)} {C : Hp} (hs : SOwn T k v rs C) {i j : Nat} {kd : IntKind} {r : List Value} (hr : rs[i]? = some r) (hj : r[j]? = some x) (hC : ∀ y ∈ C, y ∈ H) {K : Value → Prop} (hk : K x) :
  IAddr k v (.int kd (i : Int)) fun p => FAddr j p fun q => Ld H q K := by
 have hi := (List.getElem?_eq_some_iff.1 hr).1
 obtain ⟨b', junk, rfl, rfl, hall⟩ := hs.pos (by omega)
 exact IAddr.nat hi (FAddr.mk (Ld.row (hC _ (List.Mem.head _)) hall (by rw [List.getElem?_append_left hi]; exact hr) hj hk))
theorem SOwn.ld1 {T : TypeId} {v x : Value} {rs : List (List Value)} {C : Hp} (hs : SOwn T 1 v rs C) {i : Nat} {kd : IntKind} (hr : rs[i]? = some [x]) (hC : ∀ y ∈ C, y ∈ H) {K : Value → Prop} (hk : K x) :
  IAddr 1 v (.int kd (i : Int)) fun p => Ld H p K := by
 have hi := (List.getElem?_eq_some_iff.1 hr).1
 obtain ⟨b', junk, rfl, rfl, hall⟩ := hs.pos (by omega)
 exact IAddr.nat hi (Ld.row1 (l := rs ++ junk) (hC _ (List.Mem.head _)) hall (by rw [List.getElem?_append_left hi]; exact hr) hk)
theorem SOwn.ldPart {T : TypeId} {k n : Nat} {v : Value} {rs : List (List Value)} {C : Hp} (hs : SOwn T k v rs C) {i : Nat} {kd : IntKind} {r : List Value} (hr : rs[i]? = some r) (hn : 0 < n ∧ n ≤ k) (hC : ∀ y ∈ C, y ∈ H) {K : Value → Prop} (hk : K (.agg (r.take n).toArray)) :
  IAddr k v (.int kd (i : Int)) fun p => FAddr 0 p fun q => LdA n H q K := by
 have hi := (List.getElem?_eq_some_iff.1 hr).1
 obtain ⟨b', junk, rfl, rfl, hall⟩ := hs.pos (by omega)
 have hrl : r.length = k := hall r (List.mem_append_left _ (List.mem_of_getElem? hr))
 refine IAddr.nat hi (FAddr.mk ?_)
 have hat : At H (.pointer (some ⟨b', 0 + i * k + 0, none⟩)) (r.take n) := ⟨b', _, _, _, _, rfl, hC _ (List.Mem.head _), fun j x hj => by
  have hjn : j < n := by have := (List.getElem?_eq_some_iff.1 hj).1; simp at this; omega
  rw [List.getElem?_take, if_pos hjn] at hj
  rw [Nat.add_zero, Nat.zero_add, rows_get hall (by omega), List.getElem?_append_left hi, hr]; exact hj⟩
 exact LdA.at hat (by simp; omega) hn.1 (fun _ h => h) hk
theorem rows_over {k : Nat} {l : List (List Value)} (h : ∀ r ∈ l, r.length = k) {i : Nat} {r xs : List Value} (hi : l[i]? = some r) (hx : xs.length ≤ k) : over (rows l) (i * k) xs = rows (l.set i (xs ++ r.drop xs.length)) := by
 have hlt := (List.getElem?_eq_some_iff.1 hi).1
 have hr := h r (List.mem_of_getElem? hi)
 have key : ∀ (xs : List Value) (j : Nat) (l : List (List Value)) (r : List Value), (∀ r ∈ l, r.length = k) → l[i]? = some r → j + xs.length ≤ k → over (rows l) (i * k + j) xs = rows (l.set i (r.take j ++ xs ++ r.drop (j + xs.length))) := by
  intro xs
  induction xs with
  | nil =>
   intro j l r h hi _
   have hlt := (List.getElem?_eq_some_iff.1 hi).1
   simp only [over, List.append_nil, List.length_nil, Nat.add_zero, List.take_append_drop]
   congr 1
   apply List.ext_getElem?
   intro m
   rw [List.getElem?_set]
   by_cases e : i = m
   ·subst e; rw [if_pos rfl, hi, if_pos hlt]
   ·rw [if_neg e]
  | cons x xs ih =>
   intro j l r h hi hj
   have hr := h r (List.mem_of_getElem? hi)
   have hlt := (List.getElem?_eq_some_iff.1 hi).1
   simp only [List.length_cons] at hj
   rw [over, rows_set_cell h hi (by omega), Nat.add_assoc]
   rw [ih (j + 1) (l.set i (r.set j x)) (r.set j x) (fun y hy => by
    rcases List.mem_or_eq_of_mem_set hy with hy | rfl
    ·exact h y hy
    ·simpa using hr) (by simp [hlt]) (by omega)]
   rw [List.set_set]
   congr 2
   have e1 : (r.set j x).take (j + 1) = r.take j ++ [x] := by
    rw [List.set_eq_take_append_cons_drop, if_pos (by omega), List.take_append]
    simp [List.take_take, show min (j + 1) j = j by omega, show j + 1 - min j r.length = 1 by omega]
   have e2 : (r.set j x).drop (j + 1 + xs.length) = r.drop (j + (x :: xs).length) := by
    rw [List.drop_set, if_pos (by omega)]
    congr 1
    simp; omega
   rw [e1, e2]
   simp
 have := key xs 0 l r h hi (by omega)
 simpa using this
theorem SOwn.putPart {T : TypeId} {k n : Nat} {v : Value} {rs : List (List Value)} {C A B : Hp} (hs : SOwn T k v rs C) {i : Nat} {kd : IntKind} {r xs : List Value} (hr : rs[i]? = some r) (hx : xs.length = n ∧ n ≤ k) (h1 : ∀ x ∈ xs, x.oneCell' = true) {K : Hp → Prop}
  (hk : ∀ C', SOwn T k v (rs.set i (xs ++ r.drop n)) C' → K (A ++ (C' ++ B))) : IAddr k v (.int kd (i : Int)) fun p => FAddr 0 p fun q => St n (A ++ (C ++ B)) q (.agg xs.toArray) K := by
 have hi := (List.getElem?_eq_some_iff.1 hr).1
 obtain ⟨b', junk, rfl, rfl, hall⟩ := hs.pos (by omega)
 refine IAddr.nat hi (FAddr.mk ?_)
 have hg : (rs ++ junk)[i]? = some r := by rw [List.getElem?_append_left hi]; exact hr
 have e : (rs ++ junk).set i (xs ++ r.drop xs.length) = rs.set i (xs ++ r.drop n) ++ junk := by rw [List.set_append_left _ _ hi, hx.1]
 refine St.mk (c' := rows (rs.set i (xs ++ r.drop n) ++ junk)) (H' := A ++ ([(b', .cells (rows (rs.set i (xs ++ r.drop n) ++ junk)) T (0, 0))] ++ B)) (((Upd.head _).append B).prepend A) (by simpa [Value.cells] using hx.1) ?_ (by simpa [Value.cells] using h1) ?_ ?_
 ·rw [rows_size hall, Nat.zero_add, Nat.add_zero, List.length_append]
  have := Nat.mul_le_mul_right k (Nat.succ_le_of_lt hi)
  rw [Nat.succ_mul] at this
  have h2 : rs.length * k ≤ (rs.length + junk.length) * k := Nat.mul_le_mul_right k (by omega)
  omega
 ·simp only [Value.cells, Nat.zero_add, Nat.add_zero]
  rw [rows_over hall hg (by omega), e]
 ·have hrl : r.length = k := hall r (List.mem_append_left _ (List.mem_of_getElem? hr))
  refine hk _ (SOwn.mk' (junk := junk) (fun y hy => ?_) (by simp) (by simp))
  rcases List.mem_append.1 hy with hy | hy
  ·rcases List.mem_or_eq_of_mem_set hy with hy | rfl
   ·exact hall y (List.mem_append_left _ hy)
   ·simp; omega
  ·exact hall y (List.mem_append_right _ hy)
theorem SOwn.putRow {T : TypeId} {k : Nat} {v : Value} {rs : List (List Value)} {C A B : Hp} (hs : SOwn T k v rs C) {i : Nat} {kd : IntKind} {xs : List Value} (hi : i < rs.length) (hx : xs.length = k) (h1 : ∀ x ∈ xs, x.oneCell' = true) {K : Hp → Prop}
  (hk : ∀ C', SOwn T k v (rs.set i xs) C' → K (A ++ (C' ++ B))) : IAddr k v (.int kd (i : Int)) fun p => St k (A ++ (C ++ B)) p (.agg xs.toArray) K := by
 obtain ⟨b', junk, rfl, rfl, hall⟩ := hs.pos (by omega)
 refine IAddr.nat hi (St.row (l := rs ++ junk) (((Upd.head _).append B).prepend A) hall (by simp; omega) hx h1 ?_)
 have e : (rs ++ junk).set i xs = rs.set i xs ++ junk := by rw [List.set_append_left _ _ hi]
 rw [e]
 refine hk [(b', _)] (SOwn.mk' (junk := junk) (fun y hy => ?_) (by simp) (by simp))
 rcases List.mem_append.1 hy with hy | hy
 ·rcases List.mem_or_eq_of_mem_set hy with hy | rfl
  ·exact hall y (List.mem_append_left _ hy)
  ·exact hx
 ·exact hall y (List.mem_append_right _ hy)
theorem IOwn.ld {T : TypeId} {kd kd' : IntKind} {v : Value} {l : List Int} {C : Hp} (hs : IOwn T kd v l C) {i : Nat} {x : Int} (hx : l[i]? = some x) (hC : ∀ y ∈ C, y ∈ H) {K : Value → Prop} (hk : K (.int kd x)) : IAddr 1 v (.int kd' (i : Int)) fun p => Ld H p K :=
 SOwn.ld1 hs (x := .int kd x) (by simp [hx]) hC hk
theorem IOwn.put {T : TypeId} {kd kd' : IntKind} {v : Value} {l : List Int} {C A B : Hp} (hs : IOwn T kd v l C) {i : Nat} {x : Int} (hi : i < l.length) {K : Hp → Prop}
  (hk : ∀ C', IOwn T kd v (l.set i x) C' → K (A ++ (C' ++ B))) : IAddr 1 v (.int kd' (i : Int)) fun p => St 1 (A ++ (C ++ B)) p (.int kd x) K := by
 have hi' : i < (l.map fun n => [Value.int kd n]).length := by simpa using hi
 obtain ⟨b', junk, rfl, rfl, hall⟩ := SOwn.pos hs (by omega)
 refine IAddr.nat hi' ?_
 refine St.cell (l := l.map (fun n => [Value.int kd n]) ++ junk) (i := i) (k := 1) (j := 0) (r := [.int kd l[i]]) (((Upd.head _).append B).prepend A) hall (by rw [List.getElem?_append_left hi']; simp [hi]) (by omega) rfl ?_
 have e : (l.map (fun n => [Value.int kd n]) ++ junk).set i ([Value.int kd l[i]].set 0 (.int kd x)) = (l.set i x).map (fun n => [Value.int kd n]) ++ junk := by
  rw [List.set_append_left _ _ hi', List.map_set]; rfl
 rw [e]
 refine hk [(b', _)] (SOwn.mk' (junk := junk) (fun r hr' => ?_) (by simp) (by simp))
 rcases List.mem_append.1 hr' with hr' | hr'
 ·obtain ⟨y, _, rfl⟩ := List.mem_map.1 hr'; rfl
 ·exact hall r (List.mem_append_right _ hr')
theorem Ent.nil {H : Hp} : Ent H [] := fun _ _ h => h.right0
theorem SOwn.cut {T : TypeId} {k i : Nat} {v : Value} {rs : List (List Value)} {C : Hp} (hs : SOwn T k v rs C) (hi : i ≤ rs.length) {kd : IntKind} {K : Value → Prop} (hk : ∀ v', SOwn T k v' (rs.take i) C → K v') :
  SliceE k v none (some (.int kd (i : Int))) K := by
 by_cases hp : 0 < rs.length
 ·obtain ⟨b', junk, rfl, rfl, hall⟩ := hs.pos hp
  refine SliceE.upto (by omega) (hk _ ?_)
  have e : rs ++ junk = rs.take i ++ (rs.drop i ++ junk) := by rw [← List.append_assoc, List.take_append_drop]
  rw [e] at hall ⊢
  exact SOwn.mk' hall (by simp; omega) (by simp; omega)
 ·obtain rfl : rs = [] := List.eq_nil_of_length_eq_zero (by omega)
  obtain rfl : i = 0 := by simpa using hi
  obtain ⟨a, c, rfl⟩ := hs.len
  exact SliceE.upto (Nat.zero_le _) (hk _ (by simpa using hs))
theorem IOwn.cut {T : TypeId} {kd kd' : IntKind} {i : Nat} {v : Value} {l : List Int} {C : Hp} (hs : IOwn T kd v l C) (hi : i ≤ l.length) {K : Value → Prop} (hk : ∀ v', IOwn T kd v' (l.take i) C → K v') :
  SliceE 1 v none (some (.int kd' (i : Int))) K :=
 SOwn.cut hs (by simpa using hi) fun v' h => hk v' (by unfold IOwn; rw [List.map_take]; exact h)
end
end Go.Sx
namespace Go.Sx
open Go
section
variable {P : Program} {H C : Hp} {c : Hp → Hp}
theorem Hole.split (h : Hole C H c) : ∃ A B, ∀ X, c X = A ++ (X ++ B) := by
 induction h with
 | here => exact ⟨[], [], fun X => by simp⟩
 | @left A => exact ⟨[], A, fun X => rfl⟩
 | @cons x H c h ih =>
  obtain ⟨A, B, e⟩ := ih
  exact ⟨x :: A, B, fun X => by show x :: c X = _; rw [e]; rfl⟩
 | @app A' H c h ih =>
  obtain ⟨A, B, e⟩ := ih
  exact ⟨A' ++ A, B, fun X => by show A' ++ c X = _; rw [e, List.append_assoc]⟩
theorem Hole.sub (h : Hole C H c) : ∀ x ∈ C, x ∈ H := fun x hx => by
 obtain ⟨A, B, e⟩ := h.split
 rw [h.spec.1, e]
 exact List.mem_append_right _ (List.mem_append_left _ hx)
theorem SOwn.appH {elem k bytes : Nat} {zero : Value} {v : Value} {rs : List (List Value)} (h : SOwn elem k v rs C) (hh : Hole C H c) {xb : Nat} {r : List Value} {xT : TypeId} {fz : Nat × Nat} {xc : Nat}
  (hx : (xb, Obj.cells r.toArray xT fz) ∈ H) (hr : r.length = k) (h1 : ∀ u ∈ r, u.oneCell' = true) (hz : ∃ z : List Value, zero.cells = z.toArray ∧ z.length = k)
  (hb : (rs.length + 1) * bytes ≤ 140737488355328) (hmax : rs.length + 1 ≤ 9223372036854775807) {K : Value → Hp → Prop}
  (hk : ∀ v' C', SOwn elem k v' (rs ++ [r]) C' → K v' (c C')) : App P elem k bytes zero H v (.slice (some ⟨xb, 0, none⟩) 1 xc) K := by
 obtain ⟨A, B, e⟩ := hh.split
 have e2 := hh.spec.1
 rw [e] at e2
 subst e2
 exact h.app' hx hr h1 hz hb hmax fun v' C' ho => by have := hk v' C' ho; rwa [e] at this
theorem IOwn.appH {T : TypeId} {kd : IntKind} {v : Value} {l : List Int} {bytes : Nat} (h : IOwn T kd v l C) (hh : Hole C H c) {xb xc : Nat} {x : Int} {xT : TypeId} {fz : Nat × Nat} (hx : (xb, Obj.cells (icells kd [x]) xT fz) ∈ H)
  (hb : (l.length + 1) * bytes ≤ 140737488355328) (hm : l.length + 1 ≤ 9223372036854775807) {K : Value → Hp → Prop} (hk : ∀ v' C', IOwn T kd v' (l ++ [x]) C' → K v' (c C')) : App P T 1 bytes (.int kd 0) H v (.slice (some ⟨xb, 0, none⟩) 1 xc) K := by
 obtain ⟨A, B, e⟩ := hh.split
 have e2 := hh.spec.1
 rw [e] at e2
 subst e2
 exact h.app hx hb hm fun v' C' ho => by have := hk v' C' ho; rwa [e] at this
theorem IOwn.appsH {T : TypeId} {kd : IntKind} {v x : Value} {l l2 : List Int} {bytes : Nat} (h : IOwn T kd v l C) (hh : Hole C H c) (hx : Ints kd H x l2)
  (hb : (l.length + l2.length) * bytes ≤ 140737488355328) (hm : l.length + l2.length ≤ 9223372036854775807) {K : Value → Hp → Prop} (hk : ∀ v' C', IOwn T kd v' (l ++ l2) C' → K v' (c C')) : App P T 1 bytes (.int kd 0) H v x K := by
 obtain ⟨A, B, e⟩ := hh.split
 have e2 := hh.spec.1
 rw [e] at e2
 subst e2
 exact h.apps hx hb hm fun v' C' ho => by have := hk v' C' ho; rwa [e] at this
theorem IOwn.putH {T : TypeId} {kd kd' : IntKind} {v : Value} {l : List Int} (hs : IOwn T kd v l C) (hh : Hole C H c) {i : Nat} {x : Int} (hi : i < l.length) {K : Hp → Prop}
  (hk : ∀ C', IOwn T kd v (l.set i x) C' → K (c C')) : IAddr 1 v (.int kd' (i : Int)) fun p => St 1 H p (.int kd x) K := by
 obtain ⟨A, B, e⟩ := hh.split
 have e2 := hh.spec.1
 rw [e] at e2
 subst e2
 exact hs.put hi fun C' ho => by have := hk C' ho; rwa [e] at this
theorem IOwn.one {T : TypeId} {kd : IntKind} {v : Value} {l : List Int} (h : IOwn T kd v l C) : v.oneCell' = true := by obtain ⟨a, c, e⟩ := SOwn.len h; rw [e]; rfl
theorem iw_set (l : List Nat) (i x : Nat) : (iw l).set i (x : Int) = iw (l.set i x) := by unfold iw; rw [List.map_set]
theorem iw_append (a b : List Nat) : iw (a ++ b) = iw a ++ iw b := by unfold iw; rw [List.map_append]
theorem iw_getD {l : List Nat} {i : Nat} (h : i < l.length) : (iw l)[i]? = some ((l.getD i 0 : Nat) : Int) := by
 rw [iw_get (List.getElem?_eq_getElem h)]; simp [List.getD, List.getElem?_eq_getElem h]
end
end Go.Sx
namespace Go.Sx
open Go
theorem least_of {p : Nat → Prop} (h : ∃ k, p k) : ∃ k, p k ∧ ∀ j, p j → k ≤ j := by
 obtain ⟨k, hk⟩ := h
 induction k using Nat.strongRecOn with
 | _ k ih =>
  by_cases e : ∃ j, j < k ∧ p j
  ·obtain ⟨j, hj, hp⟩ := e; exact ih j hj hp
  ·exact ⟨k, hk, fun j hp => Nat.le_of_not_lt fun hlt => e ⟨j, hlt, hp⟩⟩
open Classical in
noncomputable def leastK (J : Nat → List Value → Hp → Prop) (vs : List Value) (H : Hp) : Nat := if h : ∃ k, J k vs H then Classical.choose (least_of h) else 0
theorem leastK_le {J : Nat → List Value → Hp → Prop} {vs : List Value} {H : Hp} {k : Nat} (h : J k vs H) : leastK J vs H ≤ k := by
 unfold leastK
 rw [dif_pos ⟨k, h⟩]
 exact (Classical.choose_spec (least_of ⟨k, h⟩)).2 k h
theorem leastK_spec {J : Nat → List Value → Hp → Prop} {vs : List Value} {H : Hp} (h : ∃ k, J k vs H) : J (leastK J vs H) vs H := by
 unfold leastK
 rw [dif_pos h]
 exact (Classical.choose_spec (least_of h)).1
def SomeJ (J : Nat → List Value → Hp → Prop) : List Value → Hp → Prop := fun vs H => ∃ k, J k vs H
theorem SomeJ.open {J : Nat → List Value → Hp → Prop} {vs : List Value} {H : Hp} (h : SomeJ J vs H) : ∃ k, J k vs H ∧ k = leastK J vs H := ⟨_, leastK_spec h, rfl⟩
theorem SomeJ.mk {J : Nat → List Value → Hp → Prop} {vs : List Value} {H : Hp} (k : Nat) (h : J k vs H) : JE (SomeJ J) vs H := JE.mk ⟨k, h⟩
theorem SomeJ.back {J : Nat → List Value → Hp → Prop} {vs vs' : List Value} {H H' H0 : Hp} {k : Nat} (e : Ent H H') (hk : k = leastK J vs H0) (k' : Nat) (h : J k' vs' H') (hlt : k' < k) : Back (SomeJ J) (leastK J) vs' H vs H0 :=
 Back.of e ⟨k', h⟩ (Nat.lt_of_le_of_lt (leastK_le h) (by omega))
theorem loopJ {vs : List Value} {H : Hp} {Q : (List Value → Hp → Prop) → (List Value → Hp → Nat) → Prop} (J : Nat → List Value → Hp → Prop) (k : Nat) (h : J k vs H) (hq : Q (SomeJ J) (leastK J)) :
  ∃ (I : List Value → Hp → Prop) (m : List Value → Hp → Nat), JE I vs H ∧ Q I m := ⟨_, _, SomeJ.mk k h, hq⟩
section
variable {P : Program} {H : Hp}
theorem BuildSl.ints2 {t e : Nat} {kd : IntKind} {x y : Int} {K : Value → Hp → Prop} (h1 : P.underlying t = some (.slice e)) (h2 : sizeD P e = some 1) (h3 : zeroD P e = some (.int kd 0))
  (h : ∀ b, K (.slice (some ⟨b, 0, Option.none⟩) 2 2) ((b, .cells (icells kd [x, y]) e (0, 0)) :: H)) : BuildSl P t 2 [(0, .int kd x), (1, .int kd y)] H K := by
 refine ⟨icells kd [x, y], e, 1, _, h1, h2, h3, by decide, ?_, fun b _ => h b⟩
 have e1 : Array.range (2 * 1) = #[0, 1] := rfl
 simp [Instr.fill, Value.cells, icells, e1]
theorem rows_ints (kd : IntKind) (l : List Int) : rows (l.map fun n => [Value.int kd n]) = icells kd l := by
 unfold rows icells
 congr 1
 induction l with
 | nil => rfl
 | cons x l ih => rw [List.map_cons, List.flatten_cons, ih]; rfl
theorem IOwn.made {T : TypeId} {kd : IntKind} {b : Nat} (l : List Int) : IOwn T kd (.slice (some ⟨b, 0, none⟩) l.length l.length) l [(b, .cells (icells kd l) T (0, 0))] := by
 have := SOwn.mk' (T := T) (k := 1) (b := b) (n := l.length) (c := l.length) (rs := l.map fun n => [Value.int kd n]) (junk := []) (fun r hr => by
  rw [List.append_nil] at hr
  obtain ⟨x, _, rfl⟩ := List.mem_map.1 hr; rfl) (by simp) (by simp)
 rw [List.append_nil, rows_ints] at this
 exact this
end
end Go.Sx
namespace Go.Sx
open Go
section
variable {P : Program} {g : Gh}
structure Dfr where
 f : FuncId
 l : List Value
def SCallsD (P : Program) (g : Gh) (f : FuncId) (args : Array Value) (H : Hp) (R : Ending → Hp → Prop) : Prop :=
 ∀ w, Own g H w → ∀ u, CallsD P f args u w fun e u' w' => u' = u ∧ ∃ H', Own g H' w' ∧ R e H'
def DefF (P : Program) (g : Gh) (f : FuncId) (args : Array Value) (H : Hp) (K : Hp → Prop) : Prop := SCallsD P g f args H fun e H' => (∃ v, e = .returned v) ∧ K H'
def unwD (P : Program) (g : Gh) (K : Hp → Prop) : List Dfr → Hp → Prop
 | [], H => K H
 | x :: r, H => DefF P g x.f x.l.toArray H (unwD P g K r)
def DfrV (P : Program) (o : Oper) (ρ : Operand → Value) (k : Dfr → Prop) : Prop :=
 match o.op with
 | .defer c => match c.callee with
  | .value x => match ρ x with
   | .func (.func f) first cap => cond (callable P f) (k ⟨f, first.toList ++ (c.args.toList.map ρ ++ cap.toList)⟩) False
   | _ => False
  | _ => False
 | _ => False
def isDfr : Code → Option (Array Oper × Oper)
 | .region _ ops false => match ops.toList.getLast? with
  | some o => match o.op with
   | .defer _ => some (ops, o)
   | _ => none
  | none => none
 | _ => none
def endT (P : Program) (g : Gh) (fn : Func) (R : Ending → Hp → Prop) (dl : List Dfr) : Exit → Fr → Hp → Prop
 | .normal, fr, H => unwD P g (fun H' => resL P fr H' fn.results.toList fun vs => R (.returned (tupV vs)) H') dl H
 | .ret, fr, H => unwD P g (fun H' => resL P fr H' fn.results.toList fun vs => R (.returned (tupV vs)) H') dl H
 | _, _, _ => False
def denT (P : Program) (g : Gh) (n : Nat) (E : List Dfr → Exit → Fr → Hp → Prop) : Code → Hn → List Dfr → Fr → Hp → Prop
 | .seq x y, hn, dl, fr, H =>
  match isDfr x with
  | some (ops, o) => cond (o.dst.isNone && o.guard.isNone)
    (denOps P g n ops false (ops.toList.length + 1) false none [] ops.toList.dropLast fr H (fun _ fr' H' => DfrV P o (ev fr') fun d => denT P g n E y hn.b (d :: dl) fr' H') (fun _ _ => False)) False
  | none => match hn.m with
   | 0 => den P g n x hn.a (thenD (denT P g n E y hn.b dl) (E dl)) fr H
   | _ => cond (noW x hn.I)
    (Join hn.L.length (fun vs H' => ∀ gs, denT P g n E y hn.b dl (mix hn.L vs hn.I fr gs) H') fun J => den P g n x hn.a (thenD (fun fr' H' => JE J (frs fr' hn.L) H') (E dl)) fr H) False
 | c, hn, dl, fr, H => den P g n c hn (E dl) fr H
def denFT (P : Program) (g : Gh) (fn : Func) (hn : Hn) (args : List Value) (H : Hp) (R : Ending → Hp → Prop) : Prop :=
 match fn.body with
 | some c => cond (Nat.ble args.length fn.ntmps) (denT P g fn.ntmps (endT P g fn R) c hn [] (initFr args 0) H) False
 | none => False
def NoP : List PanicEntry → Hp → Prop := fun _ _ => ∀ _ : Fr, False
def DOK (P : Program) (x : Dfr) (d : Deferred) : Prop := ∃ cap args, d = { target := .fn (.func x.f) cap, args := args } ∧ args ++ cap = x.l.toArray ∧ callable P x.f = true
inductive DOKs (P : Program) : List Dfr → List Deferred → Prop
 | nil : DOKs P [] []
 | cons {x d l ds} (h : DOK P x d) (hr : DOKs P l ds) : DOKs P (x :: l) (d :: ds)
theorem unw_leaves {fn : Func} {tmps : Array Value} {K : Hp → Prop} {R : Ending → World → Prop} (hK : ∀ H w, Own g H w → K H → ∃ v, (results fn tmps).run P w = .ok v w ∧ R (.returned v) w) :
  ∀ {dl : List Dfr} {ds : List Deferred}, DOKs P dl ds → ∀ H w, Own g H w → unwD P g K dl H → Leaves P fn tmps R ds .returning w
 | _, _, .nil, H, w, hw, h => hK H w hw h
 | _, _, .cons ⟨cap, args, hd, ha, hc⟩ hr, H, w, hw, h => by
  subst hd
  refine leaves_cons (by simp) ?_ ((h w hw .returning).mono ?_)
  ·show (callFunc _ (args ++ cap)).run P w = _
   rw [ha]
   exact callable_run hc _ w
  ·rintro e u' w' ⟨rfl, H', ho, ⟨v, rfl⟩, hk⟩
   exact unw_leaves hK hr H' w' ho hk
theorem endT_sound {fn : Func} {R : Ending → Hp → Prop} {n : Nat} {dl : List Dfr} {ds : List Deferred} (hd : DOKs P dl ds) {e : Exit} {fr : Fr} {H : Hp} {a : Act} {w : World} (ha : Agree ds n a fr) (hw : Own g H w) (h : endT P g fn R dl e fr H) :
  bodyPostD P fn (fun e w' => ∃ H', Own g H' w' ∧ R e H') e a w := by
 have key : ∀ {H}, Own g H w → unwD P g (fun H' => resL P fr H' fn.results.toList fun vs => R (.returned (tupV vs)) H') dl H → Leaves P fn a.tmps (fun e w' => ∃ H', Own g H' w' ∧ R e H') a.defers .returning w := fun hw h => by
  rw [ha.defers]
  refine unw_leaves (fun H w hw h => ?_) hd _ _ hw h
  obtain ⟨vs, hr, hk⟩ := results_run ha hw h
  exact ⟨_, hr, H, hw, hk⟩
 cases e with
 | normal => exact key hw h
 | ret => exact key hw h
 | panic ch => exact h.elim
 | exit id => exact h.elim
 | goto l => exact h.elim
 | outgrown => exact h.elim
theorem isDfr_spec {c : Code} {ops : Array Oper} {o : Oper} (h : isDfr c = some (ops, o)) : ∃ id d, c = .region id ops false ∧ ops.toList = ops.toList.dropLast ++ [o] ∧ o.op = .defer d := by
 unfold isDfr at h
 split at h
 ·rename_i id ops'
  split at h
  ·rename_i o' ho
   split at h
   ·rename_i d hd
    simp only [Option.some.injEq, Prod.mk.injEq] at h
    obtain ⟨rfl, rfl⟩ := h
    refine ⟨id, d, rfl, ?_, hd⟩
    obtain ⟨hne, e⟩ := List.getLast?_eq_some_iff.1 ho
    rw [e]; simp
   ·cases h
  ·cases h
 ·cases h
theorem DfrV_run {o : Oper} {fr : Fr} {k : Dfr → Prop} (h : DfrV P o (ev fr) k) : ∃ x d, k x ∧ DOK P x d ∧ ∀ w, (execOp (ev fr) o).run P w = .ok (.defer d) w := by
 unfold DfrV at h
 split at h <;> try exact h.elim
 rename_i c hop
 split at h <;> try exact h.elim
 rename_i x hc
 split at h <;> try exact h.elim
 rename_i f first cap hx
 cases hcl : callable P f <;> simp only [hcl, cond_true, cond_false] at h
 refine ⟨_, { target := .fn (.func f) cap, args := first ++ c.args.map (ev fr) }, h, ⟨cap, _, rfl, ?_, hcl⟩, fun w => ?_⟩
 ·apply Array.ext'
  simp
 ·simp only [execOp, hop, resolve, hc, hx, Deferred.ofValue, Sem.run_bind, Sem.run_pure, Result.andThen_ok]
theorem denT_sound {n : Nat} {fn : Func} {R : Ending → Hp → Prop} : ∀ (c : Code) (hn : Hn) (dl : List Dfr) (fr : Fr) (H : Hp), denT P g n (endT P g fn R) c hn dl fr H → ∀ (ds : List Deferred), DOKs P dl ds → ∀ (a : Act) (w : World), Agree ds n a fr → Own g H w →
  c.wp P (bodyPostD P fn fun e w' => ∃ H', Own g H' w' ∧ R e H') a w := by
 have plain : ∀ (c : Code) (hn : Hn) (dl : List Dfr) (fr : Fr) (H : Hp), den P g n c hn (endT P g fn R dl) fr H → ∀ (ds : List Deferred), DOKs P dl ds → ∀ (a : Act) (w : World), Agree ds n a fr → Own g H w →
   c.wp P (bodyPostD P fn fun e w' => ∃ H', Own g H' w' ∧ R e H') a w := fun c hn dl fr H h ds hd a w ha hw =>
  wp_mono (den_sound c hn _ fr H h a w ha hw) fun e a' w' ⟨fr', H', ha', hw', _, hq⟩ => endT_sound hd ha' hw' hq
 intro c
 induction c with
 | seq x y _ ih =>
  intro hn dl fr H h ds hd a w ha hw
  unfold denT at h
  split at h
  ·rename_i ops o hx
   obtain ⟨id, d, rfl, hl, hop⟩ := isDfr_spec hx
   cases hc : (o.dst.isNone && o.guard.isNone) <;> simp only [hc, cond_true, cond_false] at h
   simp only [Bool.and_eq_true, Option.isNone_iff_eq_none] at hc
   refine wp_seq (wp_region_list ?_)
   rw [hl]
   refine denOps_seq _ _ _ _ _ fr H _ _ h trivial (KnOK.nil fr) a w ha hw [o] _ ?_ ?_
   ·intro a' w' kn' fr' H' ha' hw' _ _ hk
    refine wpList_plain hc.2 fun K hK => ?_
    obtain ⟨x, dd, hx, hok, hrun⟩ := DfrV_run hk
    show o.upon P a' K _ ((execOp a'.eval o).run P w')
    rw [ha'.eval, hrun]
    refine hK _ _ ?_
    refine ih _ _ fr' H' hx (dd :: ds) (.cons hok hd) _ _ ?_ hw'
    rw [hc.1]
    exact ⟨congrArg _ ha'.defers, ha'.size, ha'.get⟩
   ·intro ch a' w' fr' H' _ _ hk; exact hk.elim
  ·split at h
   ·refine wp_seq (wp_mono (den_sound x _ _ fr H h a w ha hw) ?_)
    rintro e a' w' ⟨fr', H', ha', hw', ho, hq⟩
    cases e with
    | normal => exact ih _ _ fr' H' hq ds hd a' w' ha' hw'
    | ret => exact endT_sound (e := .ret) hd ha' hw' hq
    | exit id => exact hq.elim
    | goto l => exact hq.elim
    | panic ch => exact hq.elim
    | outgrown => exact hq.elim
   ·cases hno : noW x hn.I <;> simp only [hno, cond_true, cond_false] at h
    have h' := h (fun vs H' => ∀ gs, denT P g n (endT P g fn R) y hn.b dl (mix hn.L vs hn.I fr gs) H') (AllV.intro (fun vs H' hh => hh) _)
    refine wp_seq (wp_mono (den_sound x _ _ fr H h' a w ha hw) ?_)
    rintro e a' w' ⟨fr', H', ha', hw', ho, hq⟩
    cases e with
    | normal =>
     obtain ⟨Hj, hent, hq⟩ := hq
     have hq' := hq fr'
     rw [mix_self fun s hs => ho rfl s (noW_spec hno s hs)] at hq'
     exact ih _ _ fr' Hj hq' ds hd a' w' ha' (hent _ _ hw')
    | ret => exact endT_sound (e := .ret) hd ha' hw' hq
    | exit id => exact hq.elim
    | goto l => exact hq.elim
    | panic ch => exact hq.elim
    | outgrown => exact hq.elim
 | _ => intro hn dl fr H h; exact plain _ hn dl fr H h
theorem initOK {args : List Value} {m : Nat} (hle : args.length ≤ m) : Agree [] m { tmps := args.toArray ++ Array.replicate (m - args.toArray.size) undef, defers := [] } (initFr args 0) := by
 refine ⟨rfl, by simp; omega, fun s => ?_⟩
 rw [initFr_get, Array.getD_eq_getD_getElem?, Array.getElem?_append]
 simp only [List.size_toArray, Nat.not_lt_zero, if_false, Nat.sub_zero]
 by_cases hs : s < args.length
 ·simp [hs, List.getD]
 ·rw [if_neg hs, Array.getElem?_replicate]
  have : args.getD s undef = undef := by simp [List.getD, List.getElem?_eq_none (Nat.le_of_not_lt hs)]
  rw [this]
  split <;> rfl
theorem denFT_sound {f : FuncId} {fn : Func} {hn : Hn} {args : List Value} {H : Hp} {R : Ending → Hp → Prop} (hf : P.funcs[f]? = some fn) (h : denFT P g fn hn args H R) : SCalls P g f args.toArray H R := by
 intro w hw
 unfold denFT at h
 split at h <;> try exact h.elim
 rename_i c hc
 cases hl : Nat.ble args.length fn.ntmps <;> simp only [hl, cond_true, cond_false] at h
 exact calls_of_wp_defers hf hc (denT_sound c hn [] _ H h [] .nil _ w (initOK (Nat.le_of_ble_eq_true hl)) hw)
theorem denF_soundD {f : FuncId} {fn : Func} {hn : Hn} {args : List Value} {H : Hp} {R : Ending → Hp → Prop} (hf : P.funcs[f]? = some fn) (h : denF P g fn hn args H R) : SCallsD P g f args.toArray H R := by
 intro w hw u
 unfold denF at h
 split at h <;> try exact h.elim
 rename_i c hc
 cases hl : Nat.ble args.length fn.ntmps <;> simp only [hl, cond_true, cond_false] at h
 refine callsD_of_wp hf hc (wp_mono (den_sound c hn _ _ H h _ w (initOK (Nat.le_of_ble_eq_true hl)) hw) ?_)
 rintro e a' w' ⟨fr', H', ha', hw', _, hq⟩
 cases e with
 | normal => obtain ⟨vs, hr, hk⟩ := results_run ha' hw' hq; exact ⟨ha'.defers, _, hr, H', hw', hk⟩
 | ret => obtain ⟨vs, hr, hk⟩ := results_run ha' hw' hq; exact ⟨ha'.defers, _, hr, H', hw', hk⟩
 | panic ch => exact ⟨ha'.defers, H', hw', hq⟩
 | exit id => exact hq.elim
 | goto l => exact hq.elim
 | outgrown => exact hq.elim
abbrev Jt := List Value → Hp → Prop
abbrev Mt := List Value → Hp → Nat
abbrev Rt := Ending → Hp → Prop
abbrev Hn.n (a b : Hn) : Hn := .h 0 [] [] a b
theorem soundF {f : FuncId} {fn : Func} {hn : Hn} {args : List Value} {H : Hp} {R : Rt} {L : Prop} (hf : P.funcs[f]? = some fn) (h : L) (e : denF P g fn hn args H R = L) : SCalls P g f args.toArray H R := denF_sound hf (e.mpr h)
theorem soundT {f : FuncId} {fn : Func} {hn : Hn} {args : List Value} {H : Hp} {R : Rt} {L : Prop} (hf : P.funcs[f]? = some fn) (h : L) (e : denFT P g fn hn args H R = L) : SCalls P g f args.toArray H R := denFT_sound hf (e.mpr h)
theorem soundD {f : FuncId} {fn : Func} {hn : Hn} {args : List Value} {H : Hp} {R : Rt} {L : Prop} (hf : P.funcs[f]? = some fn) (h : L) (e : denF P g fn hn args H R = L) : SCallsD P g f args.toArray H R := denF_soundD hf (e.mpr h)
end
end Go.Sx
set_option maxRecDepth 100000
namespace Go.Proofs
open Go Go.Sx
variable {g : Gh} {a0 a1 a2 a3 a4 a5 a6 a7 a8 a9 a10 a11 a12 a13 a14 a15 : Value} {H : Hp} {R : Rt}
abbrev pt (b : Nat) : Value := .pointer (some ⟨b, 0, none⟩)
abbrev CF := CallF Tryz.prog
def L10 (g : Gh) (a0 a1 : Value) (H : Hp) (R : Rt) : Prop :=
CF g 43 #[a0] H (fun v1 H2 =>
Ext 0 v1 fun v3 =>
Ext 1 v1 fun v4 =>
Bin .num .neq v4 (Value.int .i64 0) fun v5 =>
Grp v5 false (fun t6 =>
Bin .num .lss a0 (Value.int .i64 1) fun v7 =>
(H2 = H2 ∧ v7 = Value.bool t6)) (fun t6 => (Value.bool true) = Value.bool t6) fun t6 => ∀ gs8 : Fr,
Grp (Value.bool t6) false (fun t9 =>
Bin .num .lss a1 (Value.int .i64 2) fun v10 =>
(H2 = H2 ∧ v10 = Value.bool t9)) (fun t9 => (Value.bool true) = Value.bool t9) fun t9 => ∀ gs11 : Fr,
Grp (Value.bool t9) false (fun t12 =>
Bin .num .gtr a1 (Value.int .i64 1048576) fun v13 =>
(H2 = H2 ∧ v13 = Value.bool t12)) (fun t12 => (Value.bool true) = Value.bool t12) fun t12 => ∀ gs14 : Fr,
Br (Value.bool t12) (
R (.returned (.tuple #[(.pointer none), (Value.int .i64 1)])) H2) (
CF g 44 #[a0] H2 (fun v15 H16 =>
Ext 0 v15 fun v17 =>
Ext 1 v15 fun v18 =>
Bin .num .neq v18 (Value.int .i64 0) fun v19 =>
Br v19 (
R (.returned (.tuple #[(.pointer none), v18])) H16) (
CF g 45 #[a1, v17] H16 (fun v20 H21 =>
Ext 0 v20 fun v22 =>
Ext 1 v20 fun v23 =>
New H21 (.cells #[(.pointer none), (.pointer none), (.slice none 0 0), (.slice none 0 0)] 92 (0, 0)) fun b24 H25 =>
St 4 H25 (pt b24) v22 fun H26 =>
Bin .num .neq v23 (Value.int .i64 0) fun v27 =>
Br v27 (
R (.returned (.tuple #[(.pointer none), v23])) H26) (
DR H26 fun R28 =>
LdA 4 R28 (pt b24) fun v29 =>
CF g 46 #[v3] H26 (fun v30 H31 =>
Ent H31 R28 ∧
Build Tryz.prog 96 [(0, v29), (1, a0), (2, v3), (3, v30)] fun v32 =>
New H31 (.cells (Value.cells v32) 96 (0, 0)) fun b33 H34 =>
Ent H34 R28 ∧
R (.returned (.tuple #[(pt b33), (Value.int .i64 0)])) H34) NoKP)) (PanR R))) (PanR R))) (PanR R)
theorem L10_sound (h : L10 g a0 a1 H R) : SCalls Tryz.prog g 10 #[a0, a1] H R :=
 soundF (hn := (.n .e (.n .e (.n (.n (.h 0 [] [1] .e .e) .e) (.n .e (.n .e (.n .e (.n .e (.n (.h 0 (List.range 9) [] .e .e) .e))))))))) Tryz.func10 h (by kernel_rfl)
def L11 (g : Gh) (a0 a1 a2 a3 : Value) (H : Hp) (R : Rt) : Prop :=
Bin .ptr .eql a0 (.pointer none) fun v1 =>
Br v1 (
R (.returned (.tuple #[(Value.int .u32 0), (Value.int .i64 10)])) H) (
CF g 47 #[a0, a1, a2, a3] H (fun v2 H3 =>
Bin .num .neq v2 (Value.int .i64 0) fun v4 =>
Br v4 (
R (.returned (.tuple #[(Value.int .u32 0), v2])) H3) (
CF g 48 #[a0, a1, a2, a3] H3 (fun v5 H6 =>
Ext 0 v5 fun v7 =>
Ext 1 v5 fun v8 =>
∀ J9 : Jt, (∀ w12 : Value, ∀ H11 : Hp, (∀ gs10 : Fr,
CF g 51 #[a0, w12] H11 (fun v13 H14 =>
Bin .num .neq v13 (Value.int .i64 0) fun v15 =>
Br v15 (
R (.returned (.tuple #[(Value.int .u32 0), v13])) H14) (
R (.returned (.tuple #[w12, (Value.int .i64 0)])) H14)) (PanR R)) → J9 [w12] H11) →
Un .not v8 fun v16 =>
Br v16 (
Nil a0 fun v17 =>
FAddr 0 v17 fun v18 =>
CF g 49 #[v18, (Value.int .i64 1)] H6 (fun v19 H20 =>
Un .not v19 fun v21 =>
Br v21 (
R (.returned (.tuple #[(Value.int .u32 0), (Value.int .i64 9)])) H20) (
Nil a0 fun v22 =>
FAddr 0 v22 fun v23 =>
Build Tryz.prog 103 [(0, a1), (1, a2), (2, a3)] fun v24 =>
CF g 50 #[v23, v24] H20 (fun v25 H26 =>
JE J9 [v25] H26) (PanR R))) (PanR R)) (
JE J9 [v7] H6)) (PanR R))) (PanR R))
theorem L11_sound (h : L11 g a0 a1 a2 a3 H R) : SCalls Tryz.prog g 11 #[a0, a1, a2, a3] H R :=
 soundF (hn := (.n .e (.n .e (.n .e (.n .e (.h 1 [11] [0] .e .e)))))) Tryz.func11 h (by kernel_rfl)
def L12 (g : Gh) (a0 a1 : Value) (H : Hp) (R : Rt) : Prop :=
Bin .ptr .eql a0 (.pointer none) fun v1 =>
Br v1 (
R (.returned (Value.int .i64 10)) H) (
∀ J2 : Jt, (∀ H4 : Hp, (∀ gs3 : Fr,
Nil a0 fun v5 =>
FAddr 7 v5 fun v6 =>
St 1 H4 v6 (.slice none 0 0) fun H7 =>
R (.returned (Value.int .i64 0)) H7) → J2 [] H4) →
Bin .num .gtr a1 (Value.int .u32 1) fun v8 =>
Br v8 (
CF g 52 #[a0, a1] H (fun v9 H10 =>
Bin .num .eql v9 (Value.int .i64 0) fun v11 =>
Br v11 (
R (.returned (Value.int .i64 3)) H10) (
Nil a0 fun v12 =>
FAddr 0 v12 fun v13 =>
FAddr 3 v13 fun v14 =>
Ld H10 v14 fun v15 =>
IAddr 1 v15 a1 fun v16 =>
Ld H10 v16 fun v17 =>
Bin .num .sub v17 (Value.int .i32 1) fun v18 =>
IAddr 1 v15 a1 fun v19 =>
St 1 H10 v19 v18 fun H20 =>
Nil a0 fun v21 =>
FAddr 0 v21 fun v22 =>
FAddr 3 v22 fun v23 =>
Ld H20 v23 fun v24 =>
IAddr 1 v24 a1 fun v25 =>
Ld H20 v25 fun v26 =>
Bin .num .eql v26 (Value.int .i32 0) fun v27 =>
Br v27 (
Nil a0 fun v28 =>
FAddr 0 v28 fun v29 =>
CF g 53 #[v29, a1] H20 (fun v30 H31 =>
JE J2 [] H31) (PanR R)) (
JE J2 [] H20))) (PanR R)) (
JE J2 [] H))
theorem L12_sound (h : L12 g a0 a1 H R) : SCalls Tryz.prog g 12 #[a0, a1] H R :=
 soundF (hn := (.n .e (.n .e (.h 1 [] [0] .e .e)))) Tryz.func12 h (by kernel_rfl)
theorem L12_soundD (h : L12 g a0 a1 H R) : SCallsD Tryz.prog g 12 #[a0, a1] H R :=
 soundD (hn := (.n .e (.n .e (.h 1 [] [0] .e .e)))) Tryz.func12 h (by kernel_rfl)
def L13 (g : Gh) (a0 : Value) (H : Hp) (R : Rt) : Prop :=
Bin .ptr .eql a0 (.pointer none) fun v1 =>
Br v1 (
R (.returned (.slice none 0 0)) H) (
Nil a0 fun v2 =>
FAddr 5 v2 fun v3 =>
Ld H v3 fun v4 =>
CF g 46 #[v4] H (fun v5 H6 =>
R (.returned v5) H6) (PanR R))
theorem L13_sound (h : L13 g a0 H R) : SCalls Tryz.prog g 13 #[a0] H R :=
 soundF (hn := .e) Tryz.func13 h (by kernel_rfl)
def L14 (g : Gh) (a0 : Value) (H : Hp) (R : Rt) : Prop :=
Bin .ptr .eql a0 (.pointer none) fun v1 =>
Br v1 (
R (.returned (Value.int .i64 0)) H) (
Nil a0 fun v2 =>
FAddr 0 v2 fun v3 =>
FAddr 0 v3 fun v4 =>
Ld H v4 fun v5 =>
CF g 54 #[v5] H (fun v6 H7 =>
Bin .num .sub v6 (Value.int .i64 2) fun v8 =>
R (.returned v8) H7) (PanR R))
theorem L14_sound (h : L14 g a0 H R) : SCalls Tryz.prog g 14 #[a0] H R :=
 soundF (hn := .e) Tryz.func14 h (by kernel_rfl)
def L15 (g : Gh) (a0 : Value) (H : Hp) (R : Rt) : Prop :=
Bin .ptr .eql a0 (.pointer none) fun v1 =>
Br v1 (
R (.returned (Value.int .i64 0)) H) (
Nil a0 fun v2 =>
FAddr 7 v2 fun v3 =>
Ld H v3 fun v4 =>
LenS v4 fun v5 =>
R (.returned v5) H)
theorem L15_sound (h : L15 g a0 H R) : SCalls Tryz.prog g 15 #[a0] H R :=
 soundF (hn := .e) Tryz.func15 h (by kernel_rfl)
def L28 (g : Gh) (a0 a1 : Value) (H : Hp) (R : Rt) : Prop :=
Bin .ptr .eql a0 (.pointer none) fun v1 =>
Br v1 (
R (.returned (Value.int .i64 10)) H) (
Bin .num .lss a1 (Value.int .i64 0) fun v2 =>
Grp v2 false (fun t3 =>
Nil a0 fun v4 =>
FAddr 4 v4 fun v5 =>
Ld H v5 fun v6 =>
Bin .num .sub v6 (Value.int .i64 2) fun v7 =>
Bin .num .gtr a1 v7 fun v8 =>
(H = H ∧ v8 = Value.bool t3)) (fun t3 => (Value.bool true) = Value.bool t3) fun t3 => ∀ gs9 : Fr,
Br (Value.bool t3) (
R (.returned (Value.int .i64 1)) H) (
CF g 76 #[a0, a1] H (fun v10 H11 =>
Un .not v10 fun v12 =>
Br v12 (
R (.returned (Value.int .i64 9)) H11) (
Nil a0 fun v13 =>
FAddr 7 v13 fun v14 =>
Ld H11 v14 fun v15 =>
BuildSl Tryz.prog 22 1 [(0, a1)] H11 fun v16 H17 =>
App Tryz.prog 3 1 8 (Value.int .i64 0) H17 v15 v16 fun v20 H21 =>
Nil a0 fun v22 =>
FAddr 7 v22 fun v23 =>
St 1 H21 v23 v20 fun H24 =>
R (.returned (Value.int .i64 0)) H24)) (PanR R)))
theorem L28_sound (h : L28 g a0 a1 H R) : SCalls Tryz.prog g 28 #[a0, a1] H R :=
 soundF (hn := (.n .e (.n (.n (.n .e (.n .e (.n (.h 0 [] [1] .e .e) .e))) .e) .e))) Tryz.func28 h (by kernel_rfl)
def L29 (g : Gh) (a0 : Value) (H : Hp) (R : Rt) : Prop :=
Bin .ptr .eql a0 (.pointer none) fun v1 =>
Grp v1 false (fun t2 =>
Nil a0 fun v3 =>
FAddr 7 v3 fun v4 =>
Ld H v4 fun v5 =>
LenS v5 fun v6 =>
Bin .num .eql v6 (Value.int .i64 0) fun v7 =>
(H = H ∧ v7 = Value.bool t2)) (fun t2 => (Value.bool true) = Value.bool t2) fun t2 => ∀ gs8 : Fr,
Br (Value.bool t2) (
R (.returned (.tuple #[(Value.int .i64 0), (Value.int .i64 10)])) H) (
Nil a0 fun v9 =>
FAddr 7 v9 fun v10 =>
Ld H v10 fun v11 =>
LenS v11 fun v12 =>
Bin .num .sub v12 (Value.int .i64 1) fun v13 =>
Nil a0 fun v14 =>
FAddr 7 v14 fun v15 =>
Ld H v15 fun v16 =>
IAddr 1 v16 v13 fun v17 =>
Ld H v17 fun v18 =>
CF g 76 #[a0, v18] H (fun v19 H20 =>
Nil a0 fun v21 =>
FAddr 7 v21 fun v22 =>
Ld H20 v22 fun v23 =>
SliceE 1 v23 none (some v13) fun v24 =>
Nil a0 fun v25 =>
FAddr 7 v25 fun v26 =>
St 1 H20 v26 v24 fun H27 =>
R (.returned (.tuple #[v18, (Value.int .i64 0)])) H27) (PanR R))
theorem L29_sound (h : L29 g a0 H R) : SCalls Tryz.prog g 29 #[a0] H R :=
 soundF (hn := (.n .e (.n (.n (.h 0 [] [1] .e .e) .e) .e))) Tryz.func29 h (by kernel_rfl)
def L33 (g : Gh) (a0 a1 a2 : Value) (H : Hp) (R : Rt) : Prop :=
Bin .ptr .eql a0 (.pointer none) fun v1 =>
Br v1 (
R (.returned (.tuple #[(Value.int .i64 0), (Value.int .i64 10)])) H) (
∀ J2 : Jt, (∀ w5 : Value, ∀ H4 : Hp, (∀ gs3 : Fr,
Br w5 (
R (.returned (.tuple #[(Value.int .i64 0), (Value.int .i64 1)])) H4) (
CF g 42 #[a0, a1] H4 (fun v6 H7 =>
Ext 0 v6 fun v8 =>
Ext 1 v6 fun v9 =>
Bin .num .neq v9 (Value.int .i64 0) fun v10 =>
Br v10 (
R (.returned (.tuple #[(Value.int .i64 0), v9])) H7) (
CF g 83 #[v8, a2] H7 (fun v11 H12 =>
CF g 82 #[a0, v11] H12 (fun v13 H14 =>
Ext 0 v13 fun v15 =>
Ext 1 v13 fun v16 =>
R (.returned (.tuple #[v15, v16])) H14) (PanR R)) (PanR R))) (PanR R))) → J2 [w5] H4) →
Bin .num .lss a2 (Value.int .i64 0) fun v17 =>
Split v17 false (
CF g 56 #[a0] H (fun v18 H19 =>
Bin .num .geq a2 v18 fun v20 =>
Pick (Value.bool false) (Value.bool true) v20 fun v21 =>
JE J2 [v21] H19) (PanR R)) (
Pick (Value.bool true) (Value.bool true) undef fun v22 =>
JE J2 [v22] H))
theorem L33_sound (h : L33 g a0 a1 a2 H R) : SCalls Tryz.prog g 33 #[a0, a1, a2] H R :=
 soundF (hn := (.n .e (.n (.n (.n .e (.n .e (.h 1 [13] [0, 1, 2] .e .e))) .e) .e))) Tryz.func33 h (by kernel_rfl)
def L34 (g : Gh) (a0 a1 : Value) (H : Hp) (R : Rt) : Prop :=
Bin .ptr .eql a0 (.pointer none) fun v1 =>
Br v1 (
R (.returned (.tuple #[(Value.int .i64 0), (Value.int .i64 10)])) H) (
∀ J2 : Jt, (∀ w5 : Value, ∀ H4 : Hp, (∀ gs3 : Fr,
Br w5 (
R (.returned (.tuple #[(Value.int .i64 0), (Value.int .i64 4)])) H4) (
CF g 13 #[a0] H4 (fun v6 H7 =>
CF g 85 #[v6, a1] H7 (fun v8 H9 =>
Ext 0 v8 fun v10 =>
Ext 1 v8 fun v11 =>
Bin .num .neq v11 (Value.int .i64 0) fun v12 =>
Br v12 (
R (.returned (.tuple #[(Value.int .i64 0), v11])) H9) (
CF g 82 #[a0, v10] H9 (fun v13 H14 =>
Ext 0 v13 fun v15 =>
Ext 1 v13 fun v16 =>
R (.returned (.tuple #[v15, v16])) H14) (PanR R))) (PanR R)) (PanR R))) → J2 [w5] H4) →
CF g 84 #[a1] H (fun v17 H18 =>
Bin .num .neq v17 (Value.int .i64 0) fun v19 =>
Split v19 false (
LenS a1 fun v20 =>
CF g 56 #[a0] H18 (fun v21 H22 =>
Bin .num .neq v20 v21 fun v23 =>
Pick (Value.bool false) (Value.bool true) v23 fun v24 =>
JE J2 [v24] H22) (PanR R)) (
Pick (Value.bool true) (Value.bool true) undef fun v25 =>
JE J2 [v25] H18)) (PanR R))
theorem L34_sound (h : L34 g a0 a1 H R) : SCalls Tryz.prog g 34 #[a0, a1] H R :=
 soundF (hn := (.n .e (.n .e (.n (.h 1 [19] [0, 1] .e .e) .e)))) Tryz.func34 h (by kernel_rfl)
def L39 (g : Gh) (a0 a1 : Value) (H : Hp) (R : Rt) : Prop :=
CF g 42 #[a0, a1] H (fun v1 H2 =>
Ext 0 v1 fun v3 =>
Ext 1 v1 fun v4 =>
Bin .num .neq v4 (Value.int .i64 0) fun v5 =>
Br v5 (
R (.returned (.tuple #[(.slice none 0 0), v4])) H2) (
CF g 89 #[a0] H2 (fun v6 H7 =>
CF g 56 #[a0] H7 (fun v8 H9 =>
MkSlice 3 1 8 (Value.int .i64 0) H9 v8 v8 fun v10 H11 =>
CF g 14 #[a0] H11 (fun v12 H13 =>
IAddr 1 v10 v3 fun v14 =>
St 1 H13 v14 v12 fun H15 =>
CF g 56 #[a0] H15 (fun v16 H17 =>
Bin .num .sub v16 (Value.int .i64 1) fun v18 =>
BuildSl Tryz.prog 22 2 [(0, v18), (1, (Value.int .i64 0))] H17 fun v19 H20 =>
LenS v19 fun v21 =>
∃ (I22 : Jt) (m23 : Mt), JE I22 [(Value.int .i64 0)] H20 ∧ ∀ w26 : Value, ∀ H25 : Hp, I22 [w26] H25 → ∀ gs24 : Fr,
Bin .num .lss w26 v21 fun v27 =>
Br v27 (
IAddr 1 v19 w26 fun v28 =>
Ld H25 v28 fun v29 =>
CF g 83 #[v3, v29] H25 (fun v30 H31 =>
LenS v30 fun v32 =>
∃ (I33 : Jt) (m34 : Mt), JE I33 [v3, (Value.int .i64 0)] H31 ∧ ∀ w37 w38 : Value, ∀ H36 : Hp, I33 [w37, w38] H36 → ∀ gs35 : Fr,
Bin .num .lss w38 v32 fun v39 =>
Br v39 (
IAddr 1 v30 w38 fun v40 =>
Ld H36 v40 fun v41 =>
CF g 91 #[v6, v41] H36 (fun v42 H43 =>
Bin .num .neq v42 (Value.int .i64 0) fun v44 =>
Br v44 (
DefF Tryz.prog g 90 #[v6] H43 fun H45 =>
R (.returned (.tuple #[(.slice none 0 0), v42])) H45) (
Bin .num .add v41 v41 fun v46 =>
Bin .num .add v46 (Value.int .i64 1) fun v47 =>
Bin .num .sub v47 w37 fun v48 =>
Bin .num .sub v48 w37 fun v49 =>
Bin .num .add w37 v49 fun v50 =>
CF g 14 #[a0] H43 (fun v51 H52 =>
IAddr 1 v10 v50 fun v53 =>
St 1 H52 v53 v51 fun H54 =>
Bin .num .add w38 (Value.int .i64 1) fun v55 =>
Back I33 m34 [v50, v55] H54 [w37, w38] H36) NoP)) NoP) (
CF g 92 #[v6] H36 (fun v56 H57 =>
Bin .num .add w26 (Value.int .i64 1) fun v58 =>
Back I22 m23 [v58] H57 [w26] H25) NoP)) NoP) (
DefF Tryz.prog g 90 #[v6] H25 fun H59 =>
R (.returned (.tuple #[v10, (Value.int .i64 0)])) H59)) NoP) NoP) NoP) NoP)) NoP
theorem L39_sound (h : L39 g a0 a1 H R) : SCalls Tryz.prog g 39 #[a0, a1] H R :=
 soundT (hn := (.n .e (.n .e (.n .e (.n .e (.n .e (.n .e (.n .e (.n (.n .e (.n (.h 0 [41] [0, 6, 8, 9, 39, 40] (.n .e (.n .e (.n (.n (.n .e (.n .e (.n (.n .e (.n (.h 0 [12, 50] [0, 6, 8, 9, 39, 40, 41, 48, 49] .e .e) .e)) .e))) .e) .e))) .e) .e)) .e))))))))) Tryz.func39 h (by kernel_rfl)
def L42 (g : Gh) (a0 a1 : Value) (H : Hp) (R : Rt) : Prop :=
Bin .ptr .eql a0 (.pointer none) fun v1 =>
Br v1 (
R (.returned (.tuple #[(Value.int .i64 0), (Value.int .i64 10)])) H) (
CF g 94 #[a0, a1] H (fun v2 H3 =>
Un .not v2 fun v4 =>
Br v4 (
R (.returned (.tuple #[(Value.int .i64 0), (Value.int .i64 2)])) H3) (
Nil a0 fun v5 =>
FAddr 6 v5 fun v6 =>
Ld H3 v6 fun v7 =>
IAddr 1 v7 a1 fun v8 =>
Ld H3 v8 fun v9 =>
R (.returned (.tuple #[v9, (Value.int .i64 0)])) H3)) (PanR R))
theorem L42_sound (h : L42 g a0 a1 H R) : SCalls Tryz.prog g 42 #[a0, a1] H R :=
 soundF (hn := .e) Tryz.func42 h (by kernel_rfl)
def L43 (g : Gh) (a0 : Value) (H : Hp) (R : Rt) : Prop :=
Bin .num .lss a0 (Value.int .i64 0) fun v1 =>
Grp v1 false (fun t2 =>
Bin .num .gtr a0 (Value.int .i64 64) fun v3 =>
(H = H ∧ v3 = Value.bool t2)) (fun t2 => (Value.bool true) = Value.bool t2) fun t2 => ∀ gs4 : Fr,
Br (Value.bool t2) (
R (.returned (.tuple #[(.slice none 0 0), (Value.int .i64 1)])) H) (
CF g 95 #[a0] H (fun v5 H6 =>
R (.returned (.tuple #[v5, (Value.int .i64 0)])) H6) (PanR R))
theorem L43_sound (h : L43 g a0 H R) : SCalls Tryz.prog g 43 #[a0] H R :=
 soundF (hn := (.n .e (.n (.n (.h 0 [] [1] .e .e) .e) .e))) Tryz.func43 h (by kernel_rfl)
def L44 (g : Gh) (a0 : Value) (H : Hp) (R : Rt) : Prop :=
Bin .num .lss a0 (Value.int .i64 1) fun v1 =>
Grp v1 false (fun t2 =>
Bin .num .gtr a0 (Value.int .i64 64) fun v3 =>
(H = H ∧ v3 = Value.bool t2)) (fun t2 => (Value.bool true) = Value.bool t2) fun t2 => ∀ gs4 : Fr,
Br (Value.bool t2) (
R (.returned (.tuple #[(.pointer none), (Value.int .i64 1)])) H) (
MkSlice 147 1 8 (.map none) H a0 a0 fun v5 H6 =>
Build Tryz.prog 146 [(0, v5)] fun v7 =>
New H6 (.cells (Value.cells v7) 146 (0, 0)) fun b8 H9 =>
∃ (I10 : Jt) (m11 : Mt), JE I10 [(Value.int .i64 0)] H9 ∧ ∀ w14 : Value, ∀ H13 : Hp, I10 [w14] H13 → ∀ gs12 : Fr,
Bin .num .lss w14 a0 fun v15 =>
Br v15 (
Nil (pt b8) fun v16 =>
FAddr 0 v16 fun v17 =>
Ld H13 v17 fun v18 =>
MkMap H13 fun v19 H20 =>
IAddr 1 v18 w14 fun v21 =>
St 1 H20 v21 v19 fun H22 =>
Bin .num .add w14 (Value.int .i64 1) fun v23 =>
Back I10 m11 [v23] H22 [w14] H13) (
R (.returned (.tuple #[(pt b8), (Value.int .i64 0)])) H13))
theorem L44_sound (h : L44 g a0 H R) : SCalls Tryz.prog g 44 #[a0] H R :=
 soundF (hn := (.n .e (.n (.n (.h 0 [] [1] .e .e) .e) (.n .e (.n (.n .e (.n (.h 0 [17] [4, 16] .e .e) .e)) .e))))) Tryz.func44 h (by kernel_rfl)
def L45 (g : Gh) (a0 a1 : Value) (H : Hp) (R : Rt) : Prop :=
New H (.cells #[(.pointer none), (.pointer none), (.slice none 0 0), (.slice none 0 0)] 92 (0, 0)) fun b1 H2 =>
CF g 96 #[a0] H2 (fun v3 H4 =>
Ext 0 v3 fun v5 =>
Ext 1 v3 fun v6 =>
Build Tryz.prog 92 [(0, v5), (1, a1)] fun v7 =>
St 4 H4 (pt b1) v7 fun H8 =>
LdA 4 H8 (pt b1) fun v9 =>
R (.returned (.tuple #[v9, v6])) H8) (PanR R)
theorem L45_sound (h : L45 g a0 a1 H R) : SCalls Tryz.prog g 45 #[a0, a1] H R :=
 soundF (hn := .e) Tryz.func45 h (by kernel_rfl)
def L46 (g : Gh) (a0 : Value) (H : Hp) (R : Rt) : Prop :=
Bin .slice .eql a0 (.slice none 0 0) fun v1 =>
Br v1 (
R (.returned (.slice none 0 0)) H) (
BuildSl Tryz.prog 22 0 [] H fun v2 H3 =>
App Tryz.prog 3 1 8 (Value.int .i64 0) H3 v2 a0 fun v6 H7 =>
R (.returned v6) H7)
theorem L46_sound (h : L46 g a0 H R) : SCalls Tryz.prog g 46 #[a0] H R :=
 soundF (hn := .e) Tryz.func46 h (by kernel_rfl)
def L47 (g : Gh) (a0 a1 a2 a3 : Value) (H : Hp) (R : Rt) : Prop :=
CF g 94 #[a0, a1] H (fun v1 H2 =>
Un .not v1 fun v3 =>
Br v3 (
R (.returned (Value.int .i64 2)) H2) (
∀ J4 : Jt, (∀ w7 : Value, ∀ H6 : Hp, (∀ gs5 : Fr,
Br w7 (
R (.returned (Value.int .i64 3)) H6) (
∀ J8 : Jt, (∀ w11 : Value, ∀ H10 : Hp, (∀ gs9 : Fr,
Br w11 (
R (.returned (Value.int .i64 4)) H10) (
R (.returned (Value.int .i64 0)) H10)) → J8 [w11] H10) →
DR H6 fun R12 =>
Bin .num .neq a2 a3 fun v13 =>
Br v13 (
Nil a0 fun v14 =>
FAddr 6 v14 fun v15 =>
Ld R12 v15 fun v16 =>
IAddr 1 v16 a1 fun v17 =>
Ld R12 v17 fun v18 =>
∀ F19 : Hp,
CF (g.add F19) 98 #[a0, a2] H6 (fun v20 H21 =>
Ent H21 R12 ∧
∀ F22 : Hp,
CF (g.add F22) 98 #[a0, a3] H21 (fun v23 H24 =>
Ent H24 R12 ∧
MinI v20 v23 fun v25 =>
Bin .num .geq v18 v25 fun v26 =>
Pick (Value.bool true) v26 (Value.bool false) fun v27 =>
JE J8 [v27] H24) NoKP) NoKP) (
JE J8 [(Value.bool false)] H6))) → J4 [w7] H6) →
Nil a0 fun v28 =>
FAddr 0 v28 fun v29 =>
CF g 97 #[v29, a2] H2 (fun v30 H31 =>
Un .not v30 fun v32 =>
Split v32 false (
Nil a0 fun v33 =>
FAddr 0 v33 fun v34 =>
CF g 97 #[v34, a3] H31 (fun v35 H36 =>
Un .not v35 fun v37 =>
Pick (Value.bool false) (Value.bool true) v37 fun v38 =>
JE J4 [v38] H36) (PanR R)) (
Pick (Value.bool true) (Value.bool true) undef fun v39 =>
JE J4 [v39] H31)) (PanR R))) (PanR R)
theorem L47_sound (h : L47 g a0 a1 a2 a3 H R) : SCalls Tryz.prog g 47 #[a0, a1, a2, a3] H R :=
 soundF (hn := (.n .e (.n (.n (.n .e (.n .e (.h 1 [14] [0, 1, 2, 3] .e (.n .e (.h 1 [29] [] (.h 1 [] [] (.h 0 [0] [] (.h 0 [1] [] (.h 0 [2] [] (.h 2 [3] [] (.h 0 [4] [] (.h 0 [5] [] (.h 0 [6] [] (.h 0 [7] [] (.h 0 [8] [] (.h 0 [9] [] (.h 0 [10] [] (.h 0 [11] [] (.h 0 [12] [] (.h 0 [14] [] (.h 0 [15] [] (.h 0 [13] [] (.h 0 [16] [] (.h 0 [17] [] (.h 0 [18] [] (.h 0 [19] [] (.h 0 [20] [] .e .e) .e) .e) .e) .e) .e) .e) .e) .e) .e) .e) .e) .e) .e) .e) .e) .e) (.h 0 [4] [] (.h 0 [5] [] (.h 0 [6] [] (.h 0 [7] [] (.h 0 [8] [] (.h 0 [9] [] (.h 0 [10] [] (.h 0 [11] [] (.h 0 [12] [] (.h 0 [13] [] (.h 0 [14] [] (.h 0 [15] [] (.h 0 [16] [] (.h 0 [17] [] (.h 0 [18] [] (.h 3 [19] [] (.h 3 [20] [] .e .e) .e) .e) .e) .e) .e) .e) .e) .e) .e) .e) .e) .e) .e) .e) .e) .e)) .e) .e) .e) .e) .e))))) .e) .e))) Tryz.func47 h (by kernel_rfl)
def L48 (g : Gh) (a0 a1 a2 a3 : Value) (H : Hp) (R : Rt) : Prop :=
Bin .num .eql a2 a3 fun v1 =>
Br v1 (
R (.returned (.tuple #[a2, (Value.bool true)])) H) (
Nil a0 fun v2 =>
FAddr 0 v2 fun v3 =>
FAddr 1 v3 fun v4 =>
Ld H v4 fun v5 =>
Build Tryz.prog 103 [(0, a1), (1, a2), (2, a3)] fun v6 =>
CF g 99 #[v5, v6] H (fun v7 H8 =>
Ext 0 v7 fun v9 =>
Ext 1 v7 fun v10 =>
R (.returned (.tuple #[v9, v10])) H8) (PanR R))
theorem L48_sound (h : L48 g a0 a1 a2 a3 H R) : SCalls Tryz.prog g 48 #[a0, a1, a2, a3] H R :=
 soundF (hn := .e) Tryz.func48 h (by kernel_rfl)
def L49 (g : Gh) (a0 a1 : Value) (H : Hp) (R : Rt) : Prop :=
DR H fun R1 =>
Nil a0 fun v2 =>
FAddr 0 v2 fun v3 =>
Ld R1 v3 fun v4 =>
Nil a0 fun v5 =>
FAddr 0 v5 fun v6 =>
Ld R1 v6 fun v7 =>
CF g 54 #[v4] H (fun v8 H9 =>
Ent H9 R1 ∧
Bin .num .add v8 a1 fun v10 =>
CF g 100 #[v7] H9 (fun v11 H12 =>
Ent H12 R1 ∧
Bin .num .leq v10 v11 fun v13 =>
R (.returned v13) H12) NoKP) NoKP
theorem L49_sound (h : L49 g a0 a1 H R) : SCalls Tryz.prog g 49 #[a0, a1] H R :=
 soundF (hn := (.n .e (.n (.h 0 [0, 1, 2, 3, 5, 7, 8, 9, 10, 4, 6, 11, 12, 13] [] .e .e) .e))) Tryz.func49 h (by kernel_rfl)
def L50 (g : Gh) (a0 a1 : Value) (H : Hp) (R : Rt) : Prop :=
New H (.cells (Value.cells a1) 103 (0, 0)) fun b1 H2 =>
DR H2 fun R3 =>
Nil a0 fun v4 =>
FAddr 0 v4 fun v5 =>
Ld R3 v5 fun v6 =>
LdA 3 R3 (pt b1) fun v7 =>
CF g 101 #[v6, v7] H2 (fun v8 H9 =>
Ent H9 R3 ∧
Ext 0 v8 fun v10 =>
Ext 1 v8 fun v11 =>
∃ (I12 : Jt) (m13 : Mt), JE I12 [] H9 ∧ ∀ H15 : Hp, I12 [] H15 → ∀ gs14 : Fr,
ConvI .i64 v10 fun v16 =>
Nil a0 fun v17 =>
FAddr 2 v17 fun v18 =>
Ld H15 v18 fun v19 =>
LenS v19 fun v20 =>
Bin .num .geq v16 v20 fun v21 =>
Br v21 (
Nil a0 fun v22 =>
FAddr 2 v22 fun v23 =>
Ld H15 v23 fun v24 =>
BuildSl Tryz.prog 90 1 [(0, (Value.int .i32 0))] H15 fun v25 H26 =>
App Tryz.prog 21 1 4 (Value.int .i32 0) H26 v24 v25 fun v29 H30 =>
Nil a0 fun v31 =>
FAddr 2 v31 fun v32 =>
St 1 H30 v32 v29 fun H33 =>
Nil a0 fun v34 =>
FAddr 3 v34 fun v35 =>
Ld H33 v35 fun v36 =>
BuildSl Tryz.prog 90 1 [(0, (Value.int .i32 0))] H33 fun v37 H38 =>
App Tryz.prog 21 1 4 (Value.int .i32 0) H38 v36 v37 fun v41 H42 =>
Nil a0 fun v43 =>
FAddr 3 v43 fun v44 =>
St 1 H42 v44 v41 fun H45 =>
Back I12 m13 [] H45 [] H15) (
DR H15 fun R46 =>
Nil a0 fun v47 =>
FAddr 2 v47 fun v48 =>
Ld R46 v48 fun v49 =>
Nil a0 fun v50 =>
FAddr 3 v50 fun v51 =>
Ld R46 v51 fun v52 =>
IAddr 1 v49 v10 fun v53 =>
St 1 H15 v53 (Value.int .i32 0) fun H54 =>
IAddr 1 v52 v10 fun v55 =>
St 1 H54 v55 (Value.int .i32 0) fun H56 =>
FAddr 1 (pt b1) fun v57 =>
Ld H56 v57 fun v58 =>
CF g 102 #[a0, v58] H56 (fun v59 H60 =>
FAddr 2 (pt b1) fun v61 =>
Ld H60 v61 fun v62 =>
CF g 102 #[a0, v62] H60 (fun v63 H64 =>
DR H64 fun R65 =>
Nil a0 fun v66 =>
FAddr 1 v66 fun v67 =>
Ld R65 v67 fun v68 =>
LdA 3 R65 (pt b1) fun v69 =>
CF g 103 #[v68, v69, v10] H64 (fun v70 H71 =>
R (.returned v10) H71) NoKP) (PanR R)) (PanR R))) NoKP
theorem L50_sound (h : L50 g a0 a1 H R) : SCalls Tryz.prog g 50 #[a0, a1] H R :=
 soundF (hn := (.n .e (.n (.h 0 (List.range 11) [] .e .e) (.n (.n (.h 0 [] [0, 3, 5] .e .e) .e) (.n (.h 0 (List.range 14) [] .e .e) (.n .e (.n .e (.n (.h 0 (List.range 7) [] .e .e) .e)))))))) Tryz.func50 h (by kernel_rfl)
def L51 (g : Gh) (a0 a1 : Value) (H : Hp) (R : Rt) : Prop :=
Bin .ptr .eql a0 (.pointer none) fun v1 =>
Br v1 (
R (.returned (Value.int .i64 10)) H) (
Nil a0 fun v2 =>
FAddr 0 v2 fun v3 =>
CF g 97 #[v3, a1] H (fun v4 H5 =>
Un .not v4 fun v6 =>
Br v6 (
R (.returned (Value.int .i64 3)) H5) (
∀ J7 : Jt, (∀ H9 : Hp, (∀ gs8 : Fr,
Nil a0 fun v10 =>
FAddr 7 v10 fun v11 =>
St 1 H9 v11 (.slice none 0 0) fun H12 =>
R (.returned (Value.int .i64 0)) H12) → J7 [] H9) →
Bin .num .gtr a1 (Value.int .u32 1) fun v13 =>
Br v13 (
Nil a0 fun v14 =>
FAddr 0 v14 fun v15 =>
FAddr 3 v15 fun v16 =>
Ld H5 v16 fun v17 =>
IAddr 1 v17 a1 fun v18 =>
Ld H5 v18 fun v19 =>
Bin .num .eql v19 (Value.int .i32 65535) fun v20 =>
Br v20 (
R (.returned (Value.int .i64 8)) H5) (
Nil a0 fun v21 =>
FAddr 0 v21 fun v22 =>
FAddr 3 v22 fun v23 =>
Ld H5 v23 fun v24 =>
IAddr 1 v24 a1 fun v25 =>
Ld H5 v25 fun v26 =>
Bin .num .add v26 (Value.int .i32 1) fun v27 =>
IAddr 1 v24 a1 fun v28 =>
St 1 H5 v28 v27 fun H29 =>
Nil a0 fun v30 =>
FAddr 0 v30 fun v31 =>
FAddr 3 v31 fun v32 =>
Ld H29 v32 fun v33 =>
IAddr 1 v33 a1 fun v34 =>
Ld H29 v34 fun v35 =>
Bin .num .eql v35 (Value.int .i32 1) fun v36 =>
Br v36 (
Nil a0 fun v37 =>
FAddr 0 v37 fun v38 =>
FAddr 2 v38 fun v39 =>
Ld H29 v39 fun v40 =>
IAddr 1 v40 a1 fun v41 =>
Ld H29 v41 fun v42 =>
Bin .num .add v42 (Value.int .i32 1) fun v43 =>
IAddr 1 v40 a1 fun v44 =>
St 1 H29 v44 v43 fun H45 =>
JE J7 [] H45) (
JE J7 [] H29))) (
JE J7 [] H5))) (PanR R))
theorem L51_sound (h : L51 g a0 a1 H R) : SCalls Tryz.prog g 51 #[a0, a1] H R :=
 soundF (hn := (.n .e (.n .e (.h 1 [] [0] .e .e)))) Tryz.func51 h (by kernel_rfl)
def L52 (g : Gh) (a0 a1 : Value) (H : Hp) (R : Rt) : Prop :=
Bin .ptr .eql a0 (.pointer none) fun v1 =>
Grp v1 false (fun t2 =>
ConvI .i64 a1 fun v3 =>
Nil a0 fun v4 =>
FAddr 0 v4 fun v5 =>
FAddr 3 v5 fun v6 =>
Ld H v6 fun v7 =>
LenS v7 fun v8 =>
Bin .num .geq v3 v8 fun v9 =>
(H = H ∧ v9 = Value.bool t2)) (fun t2 => (Value.bool true) = Value.bool t2) fun t2 => ∀ gs10 : Fr,
Br (Value.bool t2) (
R (.returned (Value.int .i64 0)) H) (
Nil a0 fun v11 =>
FAddr 0 v11 fun v12 =>
FAddr 3 v12 fun v13 =>
Ld H v13 fun v14 =>
IAddr 1 v14 a1 fun v15 =>
Ld H v15 fun v16 =>
ConvI .i64 v16 fun v17 =>
R (.returned v17) H)
theorem L52_sound (h : L52 g a0 a1 H R) : SCalls Tryz.prog g 52 #[a0, a1] H R :=
 soundF (hn := (.n .e (.n (.n (.h 0 [] [1] .e .e) .e) .e))) Tryz.func52 h (by kernel_rfl)
def L53 (g : Gh) (a0 a1 : Value) (H : Hp) (R : Rt) : Prop :=
BuildSl Tryz.prog 48 1 [(0, a1)] H fun v1 H2 =>
∃ (I3 : Jt) (m4 : Mt), JE I3 [v1] H2 ∧ ∀ w7 : Value, ∀ H6 : Hp, I3 [w7] H6 → ∀ gs5 : Fr,
LenS w7 fun v8 =>
Bin .num .gtr v8 (Value.int .i64 0) fun v9 =>
Br v9 (
LenS w7 fun v10 =>
Bin .num .sub v10 (Value.int .i64 1) fun v11 =>
IAddr 1 w7 v11 fun v12 =>
Ld H6 v12 fun v13 =>
SliceE 1 w7 none (some v11) fun v14 =>
Bin .num .leq v13 (Value.int .u32 1) fun v15 =>
Br v15 (
Back I3 m4 [v14] H6 [w7] H6) (
Nil a0 fun v16 =>
FAddr 2 v16 fun v17 =>
Ld H6 v17 fun v18 =>
IAddr 1 v18 v13 fun v19 =>
Ld H6 v19 fun v20 =>
Bin .num .sub v20 (Value.int .i32 1) fun v21 =>
IAddr 1 v18 v13 fun v22 =>
St 1 H6 v22 v21 fun H23 =>
Nil a0 fun v24 =>
FAddr 2 v24 fun v25 =>
Ld H23 v25 fun v26 =>
IAddr 1 v26 v13 fun v27 =>
Ld H23 v27 fun v28 =>
Bin .num .gtr v28 (Value.int .i32 0) fun v29 =>
Br v29 (
Back I3 m4 [v14] H23 [w7] H6) (
CF g 104 #[a0, v13] H23 (fun v30 H31 =>
New H31 (.cells #[(Value.int .i64 0), (Value.int .u32 0), (Value.int .u32 0)] 103 (0, 0)) fun b32 H33 =>
St 3 H33 (pt b32) v30 fun H34 =>
DR H34 fun R35 =>
Nil a0 fun v36 =>
FAddr 1 v36 fun v37 =>
Ld R35 v37 fun v38 =>
LdA 3 R35 (pt b32) fun v39 =>
CF g 105 #[v38, v39] H34 (fun v40 H41 =>
Nil a0 fun v42 =>
FAddr 0 v42 fun v43 =>
Ld H41 v43 fun v44 =>
CF g 106 #[v44, v13] H41 (fun v45 H46 =>
FAddr 1 (pt b32) fun v47 =>
Ld H46 v47 fun v48 =>
FAddr 2 (pt b32) fun v49 =>
Ld H46 v49 fun v50 =>
BuildSl Tryz.prog 48 2 [(0, v48), (1, v50)] H46 fun v51 H52 =>
App Tryz.prog 31 1 4 (Value.int .u32 0) H52 v14 v51 fun v55 H56 =>
Back I3 m4 [v55] H56 [w7] H6) (PanR R)) NoKP) (PanR R)))) (
R (.returned (.tuple #[])) H6)
theorem L53_sound (h : L53 g a0 a1 H R) : SCalls Tryz.prog g 53 #[a0, a1] H R :=
 soundF (hn := (.n .e (.n (.h 0 [4] [0] (.n .e (.n (.n .e (.n .e (.n .e (.n .e (.n .e (.n .e (.n (.h 0 (List.range 6) [] .e .e) .e))))))) .e)) .e) .e))) Tryz.func53 h (by kernel_rfl)
def L54 (g : Gh) (a0 : Value) (H : Hp) (R : Rt) : Prop :=
Bin .ptr .eql a0 (.pointer none) fun v1 =>
Br v1 (
R (.returned (Value.int .i64 0)) H) (
Nil a0 fun v2 =>
FAddr 3 v2 fun v3 =>
Ld H v3 fun v4 =>
R (.returned v4) H)
theorem L54_sound (h : L54 g a0 H R) : SCalls Tryz.prog g 54 #[a0] H R :=
 soundF (hn := .e) Tryz.func54 h (by kernel_rfl)
def L56 (g : Gh) (a0 : Value) (H : Hp) (R : Rt) : Prop :=
Bin .ptr .eql a0 (.pointer none) fun v1 =>
Br v1 (
R (.returned (Value.int .i64 0)) H) (
Nil a0 fun v2 =>
FAddr 4 v2 fun v3 =>
Ld H v3 fun v4 =>
R (.returned v4) H)
theorem L56_sound (h : L56 g a0 H R) : SCalls Tryz.prog g 56 #[a0] H R :=
 soundF (hn := .e) Tryz.func56 h (by kernel_rfl)
def L60 (g : Gh) (a0 a1 : Value) (H : Hp) (R : Rt) : Prop :=
New H (.cells #[(Value.int .i64 0), (Value.int .u32 0), (Value.int .u32 0)] 103 (0, 0)) fun b1 H2 =>
Bin .ptr .eql a0 (.pointer none) fun v3 =>
Br v3 (
Build Tryz.prog 103 [] fun v4 =>
St 3 H2 (pt b1) v4 fun H5 =>
LdA 3 H5 (pt b1) fun v6 =>
R (.returned (.tuple #[v6, (Value.int .i64 10)])) H5) (
Nil a0 fun v7 =>
FAddr 0 v7 fun v8 =>
CF g 97 #[v8, a1] H2 (fun v9 H10 =>
Un .not v9 fun v11 =>
Br v11 (
Build Tryz.prog 103 [] fun v12 =>
St 3 H10 (pt b1) v12 fun H13 =>
LdA 3 H13 (pt b1) fun v14 =>
R (.returned (.tuple #[v14, (Value.int .i64 3)])) H13) (
Nil a0 fun v15 =>
FAddr 0 v15 fun v16 =>
CF g 104 #[v16, a1] H10 (fun v17 H18 =>
St 3 H18 (pt b1) v17 fun H19 =>
LdA 3 H19 (pt b1) fun v20 =>
R (.returned (.tuple #[v20, (Value.int .i64 0)])) H19) (PanR R))) (PanR R))
theorem L60_sound (h : L60 g a0 a1 H R) : SCalls Tryz.prog g 60 #[a0, a1] H R :=
 soundF (hn := .e) Tryz.func60 h (by kernel_rfl)
end Go.Proofs
set_option maxRecDepth 100000
namespace Go.Proofs
open Go Go.Sx
variable {g : Gh} {a0 a1 a2 a3 a4 a5 a6 a7 a8 a9 a10 a11 a12 a13 a14 a15 : Value} {H : Hp} {R : Rt}
def L76 (g : Gh) (a0 a1 : Value) (H : Hp) (R : Rt) : Prop :=
Nil a0 fun v1 =>
FAddr 5 v1 fun v2 =>
Ld H v2 fun v3 =>
IAddr 1 v3 a1 fun v4 =>
Ld H v4 fun v5 =>
Nil a0 fun v6 =>
FAddr 5 v6 fun v7 =>
Ld H v7 fun v8 =>
Bin .num .add a1 (Value.int .i64 1) fun v9 =>
IAddr 1 v8 v9 fun v10 =>
Ld H v10 fun v11 =>
CF g 126 #[a0, v5, v11] H (fun v12 H13 =>
DR H13 fun R14 =>
Nil a0 fun v15 =>
FAddr 0 v15 fun v16 =>
CF g 127 #[a0, v5, v12] H13 (fun v17 H18 =>
CF g 49 #[v16, v17] H18 (fun v19 H20 =>
Un .not v19 fun v21 =>
Br v21 (
R (.returned (Value.bool false)) H20) (
LenS v12 fun v22 =>
∃ (I23 : Jt) (m24 : Mt), JE I23 [(Value.int .i64 0)] H20 ∧ ∀ w27 : Value, ∀ H26 : Hp, I23 [w27] H26 → ∀ gs25 : Fr,
Bin .num .lss w27 v22 fun v28 =>
Br v28 (
IAddr 8 v12 w27 fun v29 =>
LdA 8 H26 v29 fun v30 =>
New H26 (.cells #[(Value.int .u32 0), (Value.int .i64 0), (Value.int .u32 0), (Value.int .u32 0), (Value.int .u32 0), (Value.int .u32 0), (Value.int .u32 0), (Value.int .u32 0)] 186 (0, 0)) fun b31 H32 =>
St 8 H32 (pt b31) v30 fun H33 =>
DR H33 fun R34 =>
Nil a0 fun v35 =>
FAddr 0 v35 fun v36 =>
FAddr 1 v36 fun v37 =>
Ld R34 v37 fun v38 =>
FAddr 1 (pt b31) fun v39 =>
LdA 3 R34 v39 fun v40 =>
CF g 105 #[v38, v40] H33 (fun v41 H42 =>
Bin .num .add w27 (Value.int .i64 1) fun v43 =>
Back I23 m24 [v43] H42 [w27] H26) NoKP) (
LenS v12 fun v44 =>
∃ (I45 : Jt) (m46 : Mt), JE I45 [(Value.int .i64 0)] H26 ∧ ∀ w49 : Value, ∀ H48 : Hp, I45 [w49] H48 → ∀ gs47 : Fr,
Bin .num .lss w49 v44 fun v50 =>
Br v50 (
IAddr 8 v12 w49 fun v51 =>
LdA 8 H48 v51 fun v52 =>
New H48 (.cells #[(Value.int .u32 0), (Value.int .i64 0), (Value.int .u32 0), (Value.int .u32 0), (Value.int .u32 0), (Value.int .u32 0), (Value.int .u32 0), (Value.int .u32 0)] 186 (0, 0)) fun b53 H54 =>
St 8 H54 (pt b53) v52 fun H55 =>
DR H55 fun R56 =>
Nil a0 fun v57 =>
FAddr 0 v57 fun v58 =>
FAddr 4 (pt b53) fun v59 =>
Ld R56 v59 fun v60 =>
FAddr 6 (pt b53) fun v61 =>
Ld R56 v61 fun v62 =>
CF g 128 #[v58, v5, v60, v62] H55 (fun v63 H64 =>
Nil a0 fun v65 =>
FAddr 0 v65 fun v66 =>
CF g 102 #[v66, v63] H64 (fun v67 H68 =>
DR H68 fun R69 =>
Nil a0 fun v70 =>
FAddr 0 v70 fun v71 =>
FAddr 5 (pt b53) fun v72 =>
Ld R69 v72 fun v73 =>
FAddr 7 (pt b53) fun v74 =>
Ld R69 v74 fun v75 =>
CF g 128 #[v71, v5, v73, v75] H68 (fun v76 H77 =>
Nil a0 fun v78 =>
FAddr 0 v78 fun v79 =>
CF g 102 #[v79, v76] H77 (fun v80 H81 =>
Build Tryz.prog 103 [(0, v11), (1, v63), (2, v76)] fun v82 =>
New H81 (.cells #[(Value.int .i64 0), (Value.int .u32 0), (Value.int .u32 0)] 103 (0, 0)) fun b83 H84 =>
St 3 H84 (pt b83) v82 fun H85 =>
DR H85 fun R86 =>
Nil a0 fun v87 =>
FAddr 0 v87 fun v88 =>
FAddr 0 v88 fun v89 =>
Ld R86 v89 fun v90 =>
FAddr 0 (pt b53) fun v91 =>
Ld R86 v91 fun v92 =>
LdA 3 R86 (pt b83) fun v93 =>
CF g 129 #[v90, v92, v93] H85 (fun v94 H95 =>
DR H95 fun R96 =>
Nil a0 fun v97 =>
FAddr 0 v97 fun v98 =>
FAddr 1 v98 fun v99 =>
Ld R96 v99 fun v100 =>
LdA 3 R96 (pt b83) fun v101 =>
FAddr 0 (pt b53) fun v102 =>
Ld R96 v102 fun v103 =>
CF g 103 #[v100, v101, v103] H95 (fun v104 H105 =>
Bin .num .add w49 (Value.int .i64 1) fun v106 =>
Back I45 m46 [v106] H105 [w49] H48) NoKP) NoKP) (PanR R)) NoKP) (PanR R)) NoKP) (
LenS v12 fun v107 =>
∃ (I108 : Jt) (m109 : Mt), JE I108 [(Value.int .i64 0)] H48 ∧ ∀ w112 : Value, ∀ H111 : Hp, I108 [w112] H111 → ∀ gs110 : Fr,
Bin .num .lss w112 v107 fun v113 =>
Br v113 (
IAddr 8 v12 w112 fun v114 =>
LdA 8 H111 v114 fun v115 =>
New H111 (.cells #[(Value.int .u32 0), (Value.int .i64 0), (Value.int .u32 0), (Value.int .u32 0), (Value.int .u32 0), (Value.int .u32 0), (Value.int .u32 0), (Value.int .u32 0)] 186 (0, 0)) fun b116 H117 =>
St 8 H117 (pt b116) v115 fun H118 =>
DR H118 fun R119 =>
Nil a0 fun v120 =>
FAddr 0 v120 fun v121 =>
FAddr 1 (pt b116) fun v122 =>
FAddr 1 v122 fun v123 =>
Ld R119 v123 fun v124 =>
CF g 53 #[v121, v124] H118 (fun v125 H126 =>
DR H126 fun R127 =>
Nil a0 fun v128 =>
FAddr 0 v128 fun v129 =>
FAddr 1 (pt b116) fun v130 =>
FAddr 2 v130 fun v131 =>
Ld R127 v131 fun v132 =>
CF g 53 #[v129, v132] H126 (fun v133 H134 =>
Bin .num .add w112 (Value.int .i64 1) fun v135 =>
Back I108 m109 [v135] H134 [w112] H111) NoKP) NoKP) (
DR H111 fun R136 =>
Nil a0 fun v137 =>
FAddr 5 v137 fun v138 =>
Ld R136 v138 fun v139 =>
Nil a0 fun v140 =>
FAddr 5 v140 fun v141 =>
Ld R136 v141 fun v142 =>
Bin .num .add a1 (Value.int .i64 1) fun v143 =>
IAddr 1 v139 a1 fun v144 =>
St 1 H111 v144 v11 fun H145 =>
IAddr 1 v142 v143 fun v146 =>
St 1 H145 v146 v5 fun H147 =>
DR H147 fun R148 =>
Nil a0 fun v149 =>
FAddr 6 v149 fun v150 =>
Ld R148 v150 fun v151 =>
Nil a0 fun v152 =>
FAddr 6 v152 fun v153 =>
Ld R148 v153 fun v154 =>
Bin .num .add a1 (Value.int .i64 1) fun v155 =>
IAddr 1 v151 v5 fun v156 =>
St 1 H147 v156 v155 fun H157 =>
IAddr 1 v154 v11 fun v158 =>
St 1 H157 v158 a1 fun H159 =>
R (.returned (Value.bool true)) H159))))) NoKP) NoKP) (PanR R)
theorem L76_sound (h : L76 g a0 a1 H R) : SCalls Tryz.prog g 76 #[a0, a1] H R :=
 soundF (hn := (.n .e (.n .e (.n .e (.n (.n (.h 0 (List.range 9) [] .e .e) .e) (.n (.n .e (.n (.h 0 [47] [0, 1, 5, 6, 7, 45, 46] (.n .e (.n .e (.n (.n (.n .e (.h 0 (List.range 8) [] .e .e)) .e) .e))) .e) .e)) (.n (.n .e (.n (.h 0 [62] [0, 1, 5, 6, 7, 60, 61] (.n .e (.n .e (.n (.n (.n .e (.n (.h 0 (List.range 10) [] .e .e) (.n .e (.n (.h 0 (List.range 10) [] .e .e) (.n .e (.n .e (.n (.h 0 (List.range 9) [] .e .e) (.h 0 (List.range 9) [] .e .e)))))))) .e) .e))) .e) .e)) (.n (.n .e (.n (.h 0 [119] [0, 1, 5, 6, 117, 118] (.n .e (.n .e (.n (.n (.n .e (.n (.h 0 (List.range 7) [] .e .e) (.h 0 (List.range 7) [] .e .e))) .e) .e))) .e) .e)) (.n (.h 0 (List.range 17) [] .e .e) (.n (.h 0 (List.range 17) [] .e .e) .e)))))))))) Tryz.func76 h (by kernel_rfl)
def L82 (g : Gh) (a0 a1 : Value) (H : Hp) (R : Rt) : Prop :=
New H (.cells #[(Value.int .i64 0)] 3 (0, 0)) fun b1 H2 =>
CF g 89 #[a0] H2 (fun v3 H4 =>
New H4 (.cells #[(.pointer none)] 141 (0, 0)) fun b5 H6 =>
St 1 H6 (pt b5) v3 fun H7 =>
LenS a1 fun v8 =>
∃ (I9 : Jt) (m10 : Mt), JE I9 [(Value.int .i64 0)] H7 ∧ ∀ w13 : Value, ∀ H12 : Hp, I9 [w13] H12 → ∀ gs11 : Fr,
Bin .num .lss w13 v8 fun v14 =>
Br v14 (
IAddr 1 a1 w13 fun v15 =>
Ld H12 v15 fun v16 =>
Ld H12 (pt b5) fun v17 =>
CF g 91 #[v17, v16] H12 (fun v18 H19 =>
Bin .num .neq v18 (Value.int .i64 0) fun v20 =>
Br v20 (
St 1 H19 (pt b1) (Value.int .i64 0) fun H21 =>
DefF Tryz.prog g 134 #[(pt b5), (pt b1)] H21 fun H22 =>
Ld H22 (pt b1) fun v23 =>
R (.returned (.tuple #[v23, v18])) H22) (
Bin .num .add w13 (Value.int .i64 1) fun v24 =>
Back I9 m10 [v24] H19 [w13] H12)) NoP) (
Ld H12 (pt b5) fun v25 =>
Nil v25 fun v26 =>
FAddr 3 v26 fun v27 =>
St 1 H12 v27 (Value.bool true) fun H28 =>
St 1 H28 (pt b1) (Value.int .i64 0) fun H29 =>
DefF Tryz.prog g 134 #[(pt b5), (pt b1)] H29 fun H30 =>
Ld H30 (pt b1) fun v31 =>
R (.returned (.tuple #[v31, (Value.int .i64 0)])) H30)) NoP
theorem L82_sound (h : L82 g a0 a1 H R) : SCalls Tryz.prog g 82 #[a0, a1] H R :=
 soundT (hn := (.n .e (.n .e (.n .e (.n (.n .e (.n (.h 0 [14] [4, 6, 12, 13] .e .e) .e)) .e))))) Tryz.func82 h (by kernel_rfl)
def L83 (g : Gh) (a0 a1 : Value) (H : Hp) (R : Rt) : Prop :=
∃ (I1 : Jt) (m2 : Mt), JE I1 [a0, (.slice none 0 0)] H ∧ ∀ w5 w6 : Value, ∀ H4 : Hp, I1 [w5, w6] H4 → ∀ gs3 : Fr,
Bin .num .lss w5 a1 fun v7 =>
Br v7 (
BuildSl Tryz.prog 22 1 [(0, w5)] H4 fun v8 H9 =>
App Tryz.prog 3 1 8 (Value.int .i64 0) H9 w6 v8 fun v12 H13 =>
Bin .num .add w5 (Value.int .i64 1) fun v14 =>
Back I1 m2 [v14, v12] H13 [w5, w6] H4) (
∃ (I15 : Jt) (m16 : Mt), JE I15 [w5, w6] H4 ∧ ∀ w19 w20 : Value, ∀ H18 : Hp, I15 [w19, w20] H18 → ∀ gs17 : Fr,
Bin .num .gtr w19 a1 fun v21 =>
Br v21 (
Bin .num .sub w19 (Value.int .i64 1) fun v22 =>
BuildSl Tryz.prog 22 1 [(0, v22)] H18 fun v23 H24 =>
App Tryz.prog 3 1 8 (Value.int .i64 0) H24 w20 v23 fun v27 H28 =>
Bin .num .sub w19 (Value.int .i64 1) fun v29 =>
Back I15 m16 [v29, v27] H28 [w19, w20] H18) (
R (.returned w20) H18))
theorem L83_sound (h : L83 g a0 a1 H R) : SCalls Tryz.prog g 83 #[a0, a1] H R :=
 soundF (hn := (.n .e (.n .e (.n (.n (.h 0 [0, 5] [1] .e .e) .e) (.n (.n (.h 0 [0, 5] [1] .e .e) .e) .e))))) Tryz.func83 h (by kernel_rfl)
def L84 (g : Gh) (a0 : Value) (H : Hp) (R : Rt) : Prop :=
LenS a0 fun v1 =>
MkSlice 4 1 1 (Value.bool false) H v1 v1 fun v2 H3 =>
LenS a0 fun v4 =>
∃ (I5 : Jt) (m6 : Mt), JE I5 [(Value.int .i64 0)] H3 ∧ ∀ w9 : Value, ∀ H8 : Hp, I5 [w9] H8 → ∀ gs7 : Fr,
Bin .num .lss w9 v4 fun v10 =>
Br v10 (
IAddr 1 a0 w9 fun v11 =>
Ld H8 v11 fun v12 =>
Bin .num .lss v12 (Value.int .i64 0) fun v13 =>
Grp v13 false (fun t14 =>
LenS a0 fun v15 =>
Bin .num .geq v12 v15 fun v16 =>
(H8 = H8 ∧ v16 = Value.bool t14)) (fun t14 => (Value.bool true) = Value.bool t14) fun t14 => ∀ gs17 : Fr,
Grp (Value.bool t14) false (fun t18 =>
IAddr 1 v2 v12 fun v19 =>
Ld H8 v19 fun v20 =>
(H8 = H8 ∧ v20 = Value.bool t18)) (fun t18 => (Value.bool true) = Value.bool t18) fun t18 => ∀ gs21 : Fr,
Br (Value.bool t18) (
R (.returned (Value.int .i64 4)) H8) (
IAddr 1 v2 v12 fun v22 =>
St 1 H8 v22 (Value.bool true) fun H23 =>
Bin .num .add w9 (Value.int .i64 1) fun v24 =>
Back I5 m6 [v24] H23 [w9] H8)) (
LenS a0 fun v25 =>
Bin .num .gtr v25 (Value.int .i64 64) fun v26 =>
Br v26 (
R (.returned (Value.int .i64 13)) H8) (
R (.returned (Value.int .i64 0)) H8))
theorem L84_sound (h : L84 g a0 H R) : SCalls Tryz.prog g 84 #[a0] H R :=
 soundF (hn := (.n .e (.n .e (.n (.n .e (.n (.h 0 [11] [0, 3, 9, 10] (.n .e (.n .e (.n (.n (.n .e (.n (.n (.h 0 [] [1] .e .e) .e) .e)) .e) .e))) .e) .e)) .e)))) Tryz.func84 h (by kernel_rfl)
def L85 (g : Gh) (a0 a1 : Value) (H : Hp) (R : Rt) : Prop :=
CF g 135 #[a0, a1] H (fun v1 H2 =>
Bin .num .neq v1 (Value.int .i64 0) fun v3 =>
Br v3 (
R (.returned (.tuple #[(.slice none 0 0), v1])) H2) (
CF g 46 #[a0] H2 (fun v4 H5 =>
LenS a1 fun v6 =>
∃ (I7 : Jt) (m8 : Mt), JE I7 [(.slice none 0 0), (Value.int .i64 0)] H5 ∧ ∀ w11 w12 : Value, ∀ H10 : Hp, I7 [w11, w12] H10 → ∀ gs9 : Fr,
Bin .num .lss w12 v6 fun v13 =>
Br v13 (
IAddr 1 a1 w12 fun v14 =>
Ld H10 v14 fun v15 =>
CF g 136 #[v4, v15] H10 (fun v16 H17 =>
∃ (I18 : Jt) (m19 : Mt), JE I18 [w11, v16] H17 ∧ ∀ w22 w23 : Value, ∀ H21 : Hp, I18 [w22, w23] H21 → ∀ gs20 : Fr,
Bin .num .gtr w23 w12 fun v24 =>
Br v24 (
DR H21 fun R25 =>
Bin .num .sub w23 (Value.int .i64 1) fun v26 =>
IAddr 1 v4 w23 fun v27 =>
Ld R25 v27 fun v28 =>
Bin .num .sub w23 (Value.int .i64 1) fun v29 =>
IAddr 1 v4 v29 fun v30 =>
Ld R25 v30 fun v31 =>
IAddr 1 v4 v26 fun v32 =>
St 1 H21 v32 v28 fun H33 =>
IAddr 1 v4 w23 fun v34 =>
St 1 H33 v34 v31 fun H35 =>
Bin .num .sub w23 (Value.int .i64 1) fun v36 =>
BuildSl Tryz.prog 22 1 [(0, v36)] H35 fun v37 H38 =>
App Tryz.prog 3 1 8 (Value.int .i64 0) H38 w22 v37 fun v41 H42 =>
Bin .num .sub w23 (Value.int .i64 1) fun v43 =>
Back I18 m19 [v41, v43] H42 [w22, w23] H21) (
Bin .num .add w12 (Value.int .i64 1) fun v44 =>
Back I7 m8 [w22, v44] H21 [w11, w12] H10)) (PanR R)) (
R (.returned (.tuple #[w11, (Value.int .i64 0)])) H10)) (PanR R))) (PanR R)
theorem L85_sound (h : L85 g a0 a1 H R) : SCalls Tryz.prog g 85 #[a0, a1] H R :=
 soundF (hn := (.n .e (.n .e (.n .e (.n .e (.n (.n .e (.n (.h 0 [8, 22] [7, 20, 21] (.n .e (.n .e (.n (.n (.n .e (.n .e (.n (.h 0 [8, 11] [7, 9, 20, 21, 22] (.n .e (.n (.n (.n (.h 0 (List.range 18) [] .e .e) .e) .e) .e)) .e) .e))) .e) .e))) .e) .e)) .e)))))) Tryz.func85 h (by kernel_rfl)
def L89 (g : Gh) (a0 : Value) (H : Hp) (R : Rt) : Prop :=
CF g 15 #[a0] H (fun v1 H2 =>
Build Tryz.prog 194 [(0, a0), (1, v1)] fun v3 =>
New H2 (.cells (Value.cells v3) 194 (0, 0)) fun b4 H5 =>
R (.returned (pt b4)) H5) (PanR R)
theorem L89_sound (h : L89 g a0 H R) : SCalls Tryz.prog g 89 #[a0] H R :=
 soundF (hn := .e) Tryz.func89 h (by kernel_rfl)
def L90 (g : Gh) (a0 : Value) (H : Hp) (R : Rt) : Prop :=
Nil a0 fun v1 =>
FAddr 3 v1 fun v2 =>
Ld H v2 fun v3 =>
Un .not v3 fun v4 =>
Br v4 (
CF g 92 #[a0] H (fun v5 H6 =>
R (.returned (.tuple #[])) H6) (PanR R)) (
R (.returned (.tuple #[])) H)
theorem L90_sound (h : L90 g a0 H R) : SCalls Tryz.prog g 90 #[a0] H R :=
 soundF (hn := .e) Tryz.func90 h (by kernel_rfl)
theorem L90_soundD (h : L90 g a0 H R) : SCallsD Tryz.prog g 90 #[a0] H R :=
 soundD (hn := .e) Tryz.func90 h (by kernel_rfl)
def L91 (g : Gh) (a0 a1 : Value) (H : Hp) (R : Rt) : Prop :=
Nil a0 fun v1 =>
FAddr 0 v1 fun v2 =>
Ld H v2 fun v3 =>
CF g 28 #[v3, a1] H (fun v4 H5 =>
∀ J6 : Jt, (∀ H8 : Hp, (∀ gs7 : Fr,
R (.returned v4) H8) → J6 [] H8) →
Bin .num .eql v4 (Value.int .i64 0) fun v9 =>
Br v9 (
Nil a0 fun v10 =>
FAddr 2 v10 fun v11 =>
Ld H5 v11 fun v12 =>
Bin .num .add v12 (Value.int .i64 1) fun v13 =>
Nil a0 fun v14 =>
FAddr 2 v14 fun v15 =>
St 1 H5 v15 v13 fun H16 =>
JE J6 [] H16) (
JE J6 [] H5)) (PanR R)
theorem L91_sound (h : L91 g a0 a1 H R) : SCalls Tryz.prog g 91 #[a0, a1] H R :=
 soundF (hn := (.n .e (.n .e (.h 1 [] [5] .e .e)))) Tryz.func91 h (by kernel_rfl)
def L92 (g : Gh) (a0 : Value) (H : Hp) (R : Rt) : Prop :=
DR H fun R1 =>
Nil a0 fun v2 =>
FAddr 0 v2 fun v3 =>
Ld R1 v3 fun v4 =>
Nil a0 fun v5 =>
FAddr 1 v5 fun v6 =>
Ld R1 v6 fun v7 =>
CF g 109 #[v4, v7] H (fun v8 H9 =>
Ent H9 R1 ∧
Ext 0 v8 fun v10 =>
Ext 1 v8 fun v11 =>
Nil a0 fun v12 =>
FAddr 2 v12 fun v13 =>
Ld H9 v13 fun v14 =>
Bin .num .add v14 v10 fun v15 =>
Nil a0 fun v16 =>
FAddr 2 v16 fun v17 =>
St 1 H9 v17 v15 fun H18 =>
R (.returned (.tuple #[])) H18) NoKP
theorem L92_sound (h : L92 g a0 H R) : SCalls Tryz.prog g 92 #[a0] H R :=
 soundF (hn := (.n (.h 0 (List.range 14) [] .e .e) .e)) Tryz.func92 h (by kernel_rfl)
def L94 (g : Gh) (a0 a1 : Value) (H : Hp) (R : Rt) : Prop :=
Bin .num .geq a1 (Value.int .i64 0) fun v1 =>
Grp v1 true (fun t2 =>
Nil a0 fun v3 =>
FAddr 4 v3 fun v4 =>
Ld H v4 fun v5 =>
Bin .num .lss a1 v5 fun v6 =>
(H = H ∧ v6 = Value.bool t2)) (fun t2 => (Value.bool false) = Value.bool t2) fun t2 => ∀ gs7 : Fr,
R (.returned (Value.bool t2)) H
theorem L94_sound (h : L94 g a0 a1 H R) : SCalls Tryz.prog g 94 #[a0, a1] H R :=
 soundF (hn := (.n .e (.n (.h 0 [] [1] .e .e) .e))) Tryz.func94 h (by kernel_rfl)
def L95 (g : Gh) (a0 : Value) (H : Hp) (R : Rt) : Prop :=
MkSlice 3 1 8 (Value.int .i64 0) H a0 a0 fun v1 H2 =>
∃ (I3 : Jt) (m4 : Mt), JE I3 [(Value.int .i64 0)] H2 ∧ ∀ w7 : Value, ∀ H6 : Hp, I3 [w7] H6 → ∀ gs5 : Fr,
Bin .num .lss w7 a0 fun v8 =>
Br v8 (
IAddr 1 v1 w7 fun v9 =>
St 1 H6 v9 w7 fun H10 =>
Bin .num .add w7 (Value.int .i64 1) fun v11 =>
Back I3 m4 [v11] H10 [w7] H6) (
R (.returned v1) H6)
theorem L95_sound (h : L95 g a0 H R) : SCalls Tryz.prog g 95 #[a0] H R :=
 soundF (hn := (.n .e (.n .e (.n (.n .e (.n (.h 0 [8] [3, 7] .e .e) .e)) .e)))) Tryz.func95 h (by kernel_rfl)
def L96 (g : Gh) (a0 : Value) (H : Hp) (R : Rt) : Prop :=
Bin .num .lss a0 (Value.int .i64 2) fun v1 =>
Grp v1 false (fun t2 =>
Bin .num .gtr a0 (Value.int .i64 1048576) fun v3 =>
(H = H ∧ v3 = Value.bool t2)) (fun t2 => (Value.bool true) = Value.bool t2) fun t2 => ∀ gs4 : Fr,
Br (Value.bool t2) (
R (.returned (.tuple #[(.pointer none), (Value.int .i64 1)])) H) (
Build Tryz.prog 159 [(0, a0), (3, (Value.int .i64 2))] fun v5 =>
New H (.cells (Value.cells v5) 159 (0, 0)) fun b6 H7 =>
∃ (I8 : Jt) (m9 : Mt), JE I8 [(Value.int .u32 0)] H7 ∧ ∀ w12 : Value, ∀ H11 : Hp, I8 [w12] H11 → ∀ gs10 : Fr,
Bin .num .lss w12 (Value.int .u32 2) fun v13 =>
Br v13 (
Nil (pt b6) fun v14 =>
FAddr 1 v14 fun v15 =>
Ld H11 v15 fun v16 =>
Build Tryz.prog 103 [(0, (Value.int .i64 (-1))), (1, w12), (2, w12)] fun v17 =>
Build Tryz.prog 197 [(0, v17), (1, (Value.bool true)), (2, (Value.int .u8 255))] fun v18 =>
BuildSl Tryz.prog 157 1 [(0, v18)] H11 fun v19 H20 =>
App Tryz.prog 197 5 24 (.agg #[(Value.int .i64 0), (Value.int .u32 0), (Value.int .u32 0), (Value.bool false), (Value.int .u8 0)]) H20 v16 v19 fun v23 H24 =>
Nil (pt b6) fun v25 =>
FAddr 1 v25 fun v26 =>
St 1 H24 v26 v23 fun H27 =>
Bin .num .add w12 (Value.int .u32 1) fun v28 =>
Back I8 m9 [v28] H27 [w12] H11) (
R (.returned (.tuple #[(pt b6), (Value.int .i64 0)])) H11))
theorem L96_sound (h : L96 g a0 H R) : SCalls Tryz.prog g 96 #[a0] H R :=
 soundF (hn := (.n .e (.n (.n (.h 0 [] [1] .e .e) .e) (.n .e (.n (.n .e (.n (.h 0 [15] [4] .e .e) .e)) .e))))) Tryz.func96 h (by kernel_rfl)
def L97 (g : Gh) (a0 a1 : Value) (H : Hp) (R : Rt) : Prop :=
Nil a0 fun v1 =>
FAddr 0 v1 fun v2 =>
Ld H v2 fun v3 =>
CF g 137 #[v3, a1] H (fun v4 H5 =>
Ext 0 v4 fun v6 =>
Ext 1 v4 fun v7 =>
New H5 (.cells #[(Value.int .i64 0), (Value.int .u32 0), (Value.int .u32 0)] 103 (0, 0)) fun b8 H9 =>
St 3 H9 (pt b8) v6 fun H10 =>
Bin .num .eql v7 (Value.int .i64 0) fun v11 =>
R (.returned v11) H10) (PanR R)
theorem L97_sound (h : L97 g a0 a1 H R) : SCalls Tryz.prog g 97 #[a0, a1] H R :=
 soundF (hn := .e) Tryz.func97 h (by kernel_rfl)
def L98 (g : Gh) (a0 a1 : Value) (H : Hp) (R : Rt) : Prop :=
Nil a0 fun v1 =>
FAddr 0 v1 fun v2 =>
CF g 104 #[v2, a1] H (fun v3 H4 =>
New H4 (.cells #[(Value.int .i64 0), (Value.int .u32 0), (Value.int .u32 0)] 103 (0, 0)) fun b5 H6 =>
St 3 H6 (pt b5) v3 fun H7 =>
FAddr 0 (pt b5) fun v8 =>
Ld H7 v8 fun v9 =>
Bin .num .geq v9 (Value.int .i64 0) fun v10 =>
Br v10 (
Nil a0 fun v11 =>
FAddr 6 v11 fun v12 =>
Ld H7 v12 fun v13 =>
FAddr 0 (pt b5) fun v14 =>
Ld H7 v14 fun v15 =>
IAddr 1 v13 v15 fun v16 =>
Ld H7 v16 fun v17 =>
R (.returned v17) H7) (
Nil a0 fun v18 =>
FAddr 4 v18 fun v19 =>
Ld H7 v19 fun v20 =>
R (.returned v20) H7)) (PanR R)
theorem L98_sound (h : L98 g a0 a1 H R) : SCalls Tryz.prog g 98 #[a0, a1] H R :=
 soundF (hn := .e) Tryz.func98 h (by kernel_rfl)
def L99 (g : Gh) (a0 a1 : Value) (H : Hp) (R : Rt) : Prop :=
New H (.cells (Value.cells a1) 103 (0, 0)) fun b1 H2 =>
FAddr 0 (pt b1) fun v3 =>
Ld H2 v3 fun v4 =>
CF g 138 #[a0, v4] H2 (fun v5 H6 =>
Bin .num .neq v5 (Value.int .i64 0) fun v7 =>
Br v7 (
R (.returned (.tuple #[(Value.int .u32 0), (Value.bool false)])) H6) (
Nil a0 fun v8 =>
FAddr 0 v8 fun v9 =>
Ld H6 v9 fun v10 =>
FAddr 0 (pt b1) fun v11 =>
Ld H6 v11 fun v12 =>
IAddr 1 v10 v12 fun v13 =>
Ld H6 v13 fun v14 =>
LdA 3 H6 (pt b1) fun v15 =>
LookS Tryz.prog 103 (Value.int .u32 0) true H6 v14 v15 fun v16 =>
Ext 0 v16 fun v17 =>
Ext 1 v16 fun v18 =>
R (.returned (.tuple #[v17, v18])) H6)) (PanR R)
theorem L99_sound (h : L99 g a0 a1 H R) : SCalls Tryz.prog g 99 #[a0, a1] H R :=
 soundF (hn := .e) Tryz.func99 h (by kernel_rfl)
def L100 (g : Gh) (a0 : Value) (H : Hp) (R : Rt) : Prop :=
Bin .ptr .eql a0 (.pointer none) fun v1 =>
Br v1 (
R (.returned (Value.int .i64 0)) H) (
Nil a0 fun v2 =>
FAddr 0 v2 fun v3 =>
Ld H v3 fun v4 =>
R (.returned v4) H)
theorem L100_sound (h : L100 g a0 H R) : SCalls Tryz.prog g 100 #[a0] H R :=
 soundF (hn := .e) Tryz.func100 h (by kernel_rfl)
def L101 (g : Gh) (a0 a1 : Value) (H : Hp) (R : Rt) : Prop :=
New H (.cells (Value.cells a1) 103 (0, 0)) fun b1 H2 =>
Bin .ptr .eql a0 (.pointer none) fun v3 =>
Br v3 (
R (.returned (.tuple #[(Value.int .u32 0), (Value.int .i64 10)])) H2) (
LdA 3 H2 (pt b1) fun v4 =>
CF g 139 #[a0, v4] H2 (fun v5 H6 =>
Bin .num .neq v5 (Value.int .i64 0) fun v7 =>
Br v7 (
R (.returned (.tuple #[(Value.int .u32 0), v5])) H6) (
Nil a0 fun v8 =>
FAddr 2 v8 fun v9 =>
Ld H6 v9 fun v10 =>
LenS v10 fun v11 =>
Bin .num .gtr v11 (Value.int .i64 0) fun v12 =>
Br v12 (
Nil a0 fun v13 =>
FAddr 2 v13 fun v14 =>
Ld H6 v14 fun v15 =>
Bin .num .sub v11 (Value.int .i64 1) fun v16 =>
IAddr 1 v15 v16 fun v17 =>
Ld H6 v17 fun v18 =>
Nil a0 fun v19 =>
FAddr 2 v19 fun v20 =>
Ld H6 v20 fun v21 =>
Bin .num .sub v11 (Value.int .i64 1) fun v22 =>
SliceE 1 v21 none (some v22) fun v23 =>
Nil a0 fun v24 =>
FAddr 2 v24 fun v25 =>
St 1 H6 v25 v23 fun H26 =>
DR H26 fun R27 =>
Nil a0 fun v28 =>
FAddr 1 v28 fun v29 =>
Ld R27 v29 fun v30 =>
LdA 3 R27 (pt b1) fun v31 =>
Build Tryz.prog 197 [(0, v31), (1, (Value.bool true))] fun v32 =>
IAddr 5 v30 v18 fun v33 =>
St 5 H26 v33 v32 fun H34 =>
Nil a0 fun v35 =>
FAddr 3 v35 fun v36 =>
Ld H34 v36 fun v37 =>
Bin .num .add v37 (Value.int .i64 1) fun v38 =>
Nil a0 fun v39 =>
FAddr 3 v39 fun v40 =>
St 1 H34 v40 v38 fun H41 =>
R (.returned (.tuple #[v18, (Value.int .i64 0)])) H41) (
Nil a0 fun v42 =>
FAddr 1 v42 fun v43 =>
Ld H6 v43 fun v44 =>
LenS v44 fun v45 =>
Nil a0 fun v46 =>
FAddr 0 v46 fun v47 =>
Ld H6 v47 fun v48 =>
Bin .num .geq v45 v48 fun v49 =>
Br v49 (
R (.returned (.tuple #[(Value.int .u32 0), (Value.int .i64 9)])) H6) (
DR H6 fun R50 =>
Nil a0 fun v51 =>
FAddr 1 v51 fun v52 =>
Ld R50 v52 fun v53 =>
LdA 3 R50 (pt b1) fun v54 =>
Build Tryz.prog 197 [(0, v54), (1, (Value.bool true))] fun v55 =>
BuildSl Tryz.prog 157 1 [(0, v55)] H6 fun v56 H57 =>
Ent H57 R50 ∧
App Tryz.prog 197 5 24 (.agg #[(Value.int .i64 0), (Value.int .u32 0), (Value.int .u32 0), (Value.bool false), (Value.int .u8 0)]) H57 v53 v56 fun v60 H61 =>
Ent H61 R50 ∧
Nil a0 fun v62 =>
FAddr 1 v62 fun v63 =>
St 1 H61 v63 v60 fun H64 =>
Nil a0 fun v65 =>
FAddr 3 v65 fun v66 =>
Ld H64 v66 fun v67 =>
Bin .num .add v67 (Value.int .i64 1) fun v68 =>
Nil a0 fun v69 =>
FAddr 3 v69 fun v70 =>
St 1 H64 v70 v68 fun H71 =>
Nil a0 fun v72 =>
FAddr 1 v72 fun v73 =>
Ld H71 v73 fun v74 =>
LenS v74 fun v75 =>
Bin .num .sub v75 (Value.int .i64 1) fun v76 =>
ConvI .u32 v76 fun v77 =>
R (.returned (.tuple #[v77, (Value.int .i64 0)])) H71)))) (PanR R))
theorem L101_sound (h : L101 g a0 a1 H R) : SCalls Tryz.prog g 101 #[a0, a1] H R :=
 soundF (hn := (.n .e (.n .e (.n .e (.n (.n .e (.n .e (.n (.n .e (.n .e (.n (.h 0 (List.range 9) [] .e .e) .e))) .e))) (.n .e (.n (.h 0 (List.range 12) [] .e .e) .e))))))) Tryz.func101 h (by kernel_rfl)
def L102 (g : Gh) (a0 a1 : Value) (H : Hp) (R : Rt) : Prop :=
Bin .num .gtr a1 (Value.int .u32 1) fun v1 =>
Br v1 (
Nil a0 fun v2 =>
FAddr 2 v2 fun v3 =>
Ld H v3 fun v4 =>
IAddr 1 v4 a1 fun v5 =>
Ld H v5 fun v6 =>
Bin .num .add v6 (Value.int .i32 1) fun v7 =>
IAddr 1 v4 a1 fun v8 =>
St 1 H v8 v7 fun H9 =>
R (.returned (.tuple #[])) H9) (
R (.returned (.tuple #[])) H)
theorem L102_sound (h : L102 g a0 a1 H R) : SCalls Tryz.prog g 102 #[a0, a1] H R :=
 soundF (hn := .e) Tryz.func102 h (by kernel_rfl)
def L103 (g : Gh) (a0 a1 a2 : Value) (H : Hp) (R : Rt) : Prop :=
New H (.cells (Value.cells a1) 103 (0, 0)) fun b1 H2 =>
FAddr 0 (pt b1) fun v3 =>
Ld H2 v3 fun v4 =>
CF g 138 #[a0, v4] H2 (fun v5 H6 =>
Bin .num .neq v5 (Value.int .i64 0) fun v7 =>
Br v7 (
R (.returned v5) H6) (
Nil a0 fun v8 =>
FAddr 0 v8 fun v9 =>
Ld H6 v9 fun v10 =>
FAddr 0 (pt b1) fun v11 =>
Ld H6 v11 fun v12 =>
IAddr 1 v10 v12 fun v13 =>
Ld H6 v13 fun v14 =>
LdA 3 H6 (pt b1) fun v15 =>
LookS Tryz.prog 103 (Value.int .u32 0) true H6 v14 v15 fun v16 =>
Ext 0 v16 fun v17 =>
Ext 1 v16 fun v18 =>
Br v18 (
R (.returned (Value.int .i64 11)) H6) (
DR H6 fun R19 =>
Nil a0 fun v20 =>
FAddr 0 v20 fun v21 =>
Ld R19 v21 fun v22 =>
FAddr 0 (pt b1) fun v23 =>
Ld R19 v23 fun v24 =>
IAddr 1 v22 v24 fun v25 =>
Ld R19 v25 fun v26 =>
LdA 3 R19 (pt b1) fun v27 =>
MapUpdS Tryz.prog 103 H6 v26 v27 a2 fun H28 =>
R (.returned (Value.int .i64 0)) H28))) (PanR R)
theorem L103_sound (h : L103 g a0 a1 a2 H R) : SCalls Tryz.prog g 103 #[a0, a1, a2] H R :=
 soundF (hn := (.n .e (.n .e (.n .e (.n (.h 0 (List.range 11) [] .e .e) .e))))) Tryz.func103 h (by kernel_rfl)
def L104 (g : Gh) (a0 a1 : Value) (H : Hp) (R : Rt) : Prop :=
New H (.cells #[(Value.int .i64 0), (Value.int .u32 0), (Value.int .u32 0)] 103 (0, 0)) fun b1 H2 =>
Nil a0 fun v3 =>
FAddr 0 v3 fun v4 =>
Ld H2 v4 fun v5 =>
CF g 137 #[v5, a1] H2 (fun v6 H7 =>
Ext 0 v6 fun v8 =>
Ext 1 v6 fun v9 =>
New H7 (.cells #[(Value.int .i64 0), (Value.int .u32 0), (Value.int .u32 0)] 103 (0, 0)) fun b10 H11 =>
St 3 H11 (pt b10) v8 fun H12 =>
LdA 3 H12 (pt b10) fun v13 =>
St 3 H12 (pt b1) v13 fun H14 =>
LdA 3 H14 (pt b1) fun v15 =>
R (.returned v15) H14) (PanR R)
theorem L104_sound (h : L104 g a0 a1 H R) : SCalls Tryz.prog g 104 #[a0, a1] H R :=
 soundF (hn := .e) Tryz.func104 h (by kernel_rfl)
def L105 (g : Gh) (a0 a1 : Value) (H : Hp) (R : Rt) : Prop :=
New H (.cells (Value.cells a1) 103 (0, 0)) fun b1 H2 =>
FAddr 0 (pt b1) fun v3 =>
Ld H2 v3 fun v4 =>
CF g 138 #[a0, v4] H2 (fun v5 H6 =>
Bin .num .neq v5 (Value.int .i64 0) fun v7 =>
Br v7 (
R (.returned v5) H6) (
Nil a0 fun v8 =>
FAddr 0 v8 fun v9 =>
Ld H6 v9 fun v10 =>
FAddr 0 (pt b1) fun v11 =>
Ld H6 v11 fun v12 =>
IAddr 1 v10 v12 fun v13 =>
Ld H6 v13 fun v14 =>
LdA 3 H6 (pt b1) fun v15 =>
LookS Tryz.prog 103 (Value.int .u32 0) true H6 v14 v15 fun v16 =>
Ext 0 v16 fun v17 =>
Ext 1 v16 fun v18 =>
Un .not v18 fun v19 =>
Br v19 (
R (.returned (Value.int .i64 10)) H6) (
DR H6 fun R20 =>
Nil a0 fun v21 =>
FAddr 0 v21 fun v22 =>
Ld R20 v22 fun v23 =>
FAddr 0 (pt b1) fun v24 =>
Ld R20 v24 fun v25 =>
IAddr 1 v23 v25 fun v26 =>
Ld R20 v26 fun v27 =>
LdA 3 R20 (pt b1) fun v28 =>
MapDelS Tryz.prog 103 H6 v27 v28 fun H31 =>
Ent H31 R20 ∧
R (.returned (Value.int .i64 0)) H31))) (PanR R)
theorem L105_sound (h : L105 g a0 a1 H R) : SCalls Tryz.prog g 105 #[a0, a1] H R :=
 soundF (hn := (.n .e (.n .e (.n .e (.n (.h 0 (List.range 10) [] .e .e) .e))))) Tryz.func105 h (by kernel_rfl)
def L106 (g : Gh) (a0 a1 : Value) (H : Hp) (R : Rt) : Prop :=
Bin .ptr .eql a0 (.pointer none) fun v1 =>
Br v1 (
R (.returned (Value.int .i64 10)) H) (
CF g 140 #[a0, a1] H (fun v2 H3 =>
Bin .num .neq v2 (Value.int .i64 0) fun v4 =>
Br v4 (
R (.returned v2) H3) (
Nil a0 fun v5 =>
FAddr 1 v5 fun v6 =>
Ld H3 v6 fun v7 =>
Build Tryz.prog 197 [] fun v8 =>
IAddr 5 v7 a1 fun v9 =>
St 5 H3 v9 v8 fun H10 =>
Nil a0 fun v11 =>
FAddr 2 v11 fun v12 =>
Ld H10 v12 fun v13 =>
BuildSl Tryz.prog 48 1 [(0, a1)] H10 fun v14 H15 =>
App Tryz.prog 31 1 4 (Value.int .u32 0) H15 v13 v14 fun v18 H19 =>
Nil a0 fun v20 =>
FAddr 2 v20 fun v21 =>
St 1 H19 v21 v18 fun H22 =>
Nil a0 fun v23 =>
FAddr 3 v23 fun v24 =>
Ld H22 v24 fun v25 =>
Bin .num .sub v25 (Value.int .i64 1) fun v26 =>
Nil a0 fun v27 =>
FAddr 3 v27 fun v28 =>
St 1 H22 v28 v26 fun H29 =>
R (.returned (Value.int .i64 0)) H29)) (PanR R))
theorem L106_sound (h : L106 g a0 a1 H R) : SCalls Tryz.prog g 106 #[a0, a1] H R :=
 soundF (hn := .e) Tryz.func106 h (by kernel_rfl)
def L109 (g : Gh) (a0 a1 : Value) (H : Hp) (R : Rt) : Prop :=
Bin .ptr .eql a0 (.pointer none) fun v1 =>
Br v1 (
R (.returned (.tuple #[(Value.int .i64 0), (Value.int .i64 10)])) H) (
∀ J2 : Jt, (∀ w5 : Value, ∀ H4 : Hp, (∀ gs3 : Fr,
Br w5 (
R (.returned (.tuple #[(Value.int .i64 0), (Value.int .i64 1)])) H4) (
∃ (I6 : Jt) (m7 : Mt), JE I6 [(Value.int .i64 0)] H4 ∧ ∀ w10 : Value, ∀ H9 : Hp, I6 [w10] H9 → ∀ gs8 : Fr,
CF g 15 #[a0] H9 (fun v11 H12 =>
Bin .num .gtr v11 a1 fun v13 =>
Br v13 (
CF g 29 #[a0] H12 (fun v14 H15 =>
Bin .num .add w10 (Value.int .i64 1) fun v16 =>
Back I6 m7 [v16] H15 [w10] H9) (PanR R)) (
R (.returned (.tuple #[w10, (Value.int .i64 0)])) H12)) (PanR R))) → J2 [w5] H4) →
Bin .num .lss a1 (Value.int .i64 0) fun v17 =>
Split v17 false (
CF g 15 #[a0] H (fun v18 H19 =>
Bin .num .gtr a1 v18 fun v20 =>
Pick (Value.bool false) (Value.bool true) v20 fun v21 =>
JE J2 [v21] H19) (PanR R)) (
Pick (Value.bool true) (Value.bool true) undef fun v22 =>
JE J2 [v22] H))
theorem L109_sound (h : L109 g a0 a1 H R) : SCalls Tryz.prog g 109 #[a0, a1] H R :=
 soundF (hn := (.n .e (.n .e (.n (.h 1 [16] [0, 1] .e .e) (.n .e (.n (.n (.h 0 [6] [0, 1] .e .e) .e) .e)))))) Tryz.func109 h (by kernel_rfl)
def L126 (g : Gh) (a0 a1 a2 : Value) (H : Hp) (R : Rt) : Prop :=
Nil a0 fun v1 =>
FAddr 0 v1 fun v2 =>
FAddr 1 v2 fun v3 =>
Ld H v3 fun v4 =>
CF g 158 #[v4, a1] H (fun v5 H6 =>
Ext 0 v5 fun v7 =>
Ext 1 v5 fun v8 =>
LenS v7 fun v9 =>
∃ (I10 : Jt) (m11 : Mt), JE I10 [(.slice none 0 0), (Value.int .i64 0)] H6 ∧ ∀ w14 w15 : Value, ∀ H13 : Hp, I10 [w14, w15] H13 → ∀ gs12 : Fr,
Bin .num .lss w15 v9 fun v16 =>
Br v16 (
∀ J17 : Jt, (∀ w20 : Value, ∀ H19 : Hp, (∀ gs18 : Fr,
Bin .num .add w15 (Value.int .i64 1) fun v21 =>
Back I10 m11 [w20, v21] H19 [w14, w15] H13) → J17 [w20] H19) →
IAddr 1 v7 w15 fun v22 =>
Ld H13 v22 fun v23 =>
Nil a0 fun v24 =>
FAddr 0 v24 fun v25 =>
CF g 104 #[v25, v23] H13 (fun v26 H27 =>
New H27 (.cells #[(Value.int .i64 0), (Value.int .u32 0), (Value.int .u32 0)] 103 (0, 0)) fun b28 H29 =>
St 3 H29 (pt b28) v26 fun H30 =>
∀ J31 : Jt, (∀ w34 : Value, ∀ H33 : Hp, (∀ gs32 : Fr,
Br w34 (
JE J17 [w14] H33) (
LdA 3 H33 (pt b28) fun v35 =>
Build Tryz.prog 186 [(0, v23), (1, v35)] fun v36 =>
New H33 (.cells #[(Value.int .u32 0), (Value.int .i64 0), (Value.int .u32 0), (Value.int .u32 0), (Value.int .u32 0), (Value.int .u32 0), (Value.int .u32 0), (Value.int .u32 0)] 186 (0, 0)) fun b37 H38 =>
St 8 H38 (pt b37) v36 fun H39 =>
FAddr 1 (pt b28) fun v40 =>
Ld H39 v40 fun v41 =>
CF g 159 #[a0, v41, a2] H39 (fun v42 H43 =>
Ext 0 v42 fun v44 =>
Ext 1 v42 fun v45 =>
FAddr 4 (pt b37) fun v46 =>
St 1 H43 v46 v44 fun H47 =>
FAddr 5 (pt b37) fun v48 =>
St 1 H47 v48 v45 fun H49 =>
FAddr 2 (pt b28) fun v50 =>
Ld H49 v50 fun v51 =>
CF g 159 #[a0, v51, a2] H49 (fun v52 H53 =>
Ext 0 v52 fun v54 =>
Ext 1 v52 fun v55 =>
FAddr 6 (pt b37) fun v56 =>
St 1 H53 v56 v54 fun H57 =>
FAddr 7 (pt b37) fun v58 =>
St 1 H57 v58 v55 fun H59 =>
LdA 8 H59 (pt b37) fun v60 =>
BuildSl Tryz.prog 182 1 [(0, v60)] H59 fun v61 H62 =>
App Tryz.prog 186 8 40 (.agg #[(Value.int .u32 0), (Value.int .i64 0), (Value.int .u32 0), (Value.int .u32 0), (Value.int .u32 0), (Value.int .u32 0), (Value.int .u32 0), (Value.int .u32 0)]) H62 w14 v61 fun v65 H66 =>
JE J17 [v65] H66) (PanR R)) (PanR R))) → J31 [w34] H33) →
DR H30 fun R67 =>
Nil a0 fun v68 =>
FAddr 0 v68 fun v69 =>
FAddr 1 (pt b28) fun v70 =>
Ld R67 v70 fun v71 =>
∀ F72 : Hp,
CF (g.add F72) 104 #[v69, v71] H30 (fun v73 H74 =>
Ent H74 R67 ∧
Fld 0 v73 fun v75 =>
Bin .num .neq v75 a2 fun v76 =>
Br v76 (
Nil a0 fun v77 =>
FAddr 0 v77 fun v78 =>
FAddr 2 (pt b28) fun v79 =>
Ld R67 v79 fun v80 =>
∀ F81 : Hp,
CF (g.add F81) 104 #[v78, v80] H74 (fun v82 H83 =>
Ent H83 R67 ∧
Fld 0 v82 fun v84 =>
Bin .num .neq v84 a2 fun v85 =>
Pick (Value.bool true) v85 (Value.bool false) fun v86 =>
JE J31 [v86] H83) NoKP) (
JE J31 [(Value.bool false)] H74)) NoKP) (PanR R)) (
R (.returned w14) H13)) (PanR R)
theorem L126_sound (h : L126 g a0 a1 a2 H R) : SCalls Tryz.prog g 126 #[a0, a1, a2] H R :=
 soundF (hn := (.n .e (.n .e (.n .e (.n (.n .e (.n (.h 0 [7, 26] [0, 2, 24, 25] (.n .e (.n .e (.h 1 [7] [0, 2, 24, 25, 26] (.n (.n .e (.n .e (.n (.h 1 [54] [0, 2, 7, 11, 12, 24, 25, 26] (.h 1 [] [] (.h 0 [0] [] (.h 0 [1] [] (.h 0 [2] [] (.h 0 [3] [] (.h 0 [4] [] (.h 0 [7] [] (.h 0 [5] [] (.h 0 [6] [] (.h 0 [8] [] (.h 2 [9] [] (.h 0 [10] [] (.h 0 [11] [] (.h 0 [12] [] (.h 0 [13] [] (.h 0 [14] [] (.h 0 [17] [] (.h 0 [15] [] (.h 0 [16] [] (.h 0 [18] [] (.h 0 [19] [] .e .e) .e) .e) .e) .e) .e) .e) .e) .e) .e) (.h 0 [10] [] (.h 0 [11] [] (.h 0 [12] [] (.h 0 [13] [] (.h 0 [14] [] (.h 0 [15] [] (.h 0 [16] [] (.h 0 [17] [] (.h 0 [18] [] (.h 3 [19] [] .e .e) .e) .e) .e) .e) .e) .e) .e) .e) .e)) .e) .e) .e) .e) .e) .e) .e) .e) .e) .e) .e) .e))) .e) .e))) .e) .e)) .e))))) Tryz.func126 h (by kernel_rfl)
def L127 (g : Gh) (a0 a1 a2 : Value) (H : Hp) (R : Rt) : Prop :=
MkMap H fun v1 H2 =>
LenS a2 fun v3 =>
∃ (I4 : Jt) (m5 : Mt), JE I4 [(Value.int .i64 0)] H2 ∧ ∀ w8 : Value, ∀ H7 : Hp, I4 [w8] H7 → ∀ gs6 : Fr,
Bin .num .lss w8 v3 fun v9 =>
Br v9 (
IAddr 8 a2 w8 fun v10 =>
LdA 8 H7 v10 fun v11 =>
New H7 (.cells #[(Value.int .u32 0), (Value.int .i64 0), (Value.int .u32 0), (Value.int .u32 0), (Value.int .u32 0), (Value.int .u32 0), (Value.int .u32 0), (Value.int .u32 0)] 186 (0, 0)) fun b12 H13 =>
St 8 H13 (pt b12) v11 fun H14 =>
FAddr 4 (pt b12) fun v15 =>
Ld H14 v15 fun v16 =>
FAddr 6 (pt b12) fun v17 =>
Ld H14 v17 fun v18 =>
Build Tryz.prog 103 [(0, a1), (1, v16), (2, v18)] fun v19 =>
FAddr 5 (pt b12) fun v20 =>
Ld H14 v20 fun v21 =>
FAddr 7 (pt b12) fun v22 =>
Ld H14 v22 fun v23 =>
Build Tryz.prog 103 [(0, a1), (1, v21), (2, v23)] fun v24 =>
BuildSl Tryz.prog 220 2 [(0, v19), (1, v24)] H14 fun v25 H26 =>
LenS v25 fun v27 =>
∃ (I28 : Jt) (m29 : Mt), JE I28 [(Value.int .i64 0)] H26 ∧ ∀ w32 : Value, ∀ H31 : Hp, I28 [w32] H31 → ∀ gs30 : Fr,
Bin .num .lss w32 v27 fun v33 =>
Br v33 (
∀ J34 : Jt, (∀ H36 : Hp, (∀ gs35 : Fr,
Bin .num .add w32 (Value.int .i64 1) fun v37 =>
Back I28 m29 [v37] H36 [w32] H31) → J34 [] H36) →
IAddr 3 v25 w32 fun v38 =>
LdA 3 H31 v38 fun v39 =>
New H31 (.cells #[(Value.int .i64 0), (Value.int .u32 0), (Value.int .u32 0)] 103 (0, 0)) fun b40 H41 =>
St 3 H41 (pt b40) v39 fun H42 =>
DR H42 fun R43 =>
Nil a0 fun v44 =>
FAddr 0 v44 fun v45 =>
FAddr 1 v45 fun v46 =>
Ld R43 v46 fun v47 =>
LdA 3 R43 (pt b40) fun v48 =>
CF g 99 #[v47, v48] H42 (fun v49 H50 =>
Ent H50 R43 ∧
Ext 0 v49 fun v51 =>
Ext 1 v49 fun v52 =>
Un .not v52 fun v53 =>
Grp v53 true (fun t54 =>
FAddr 1 (pt b40) fun v55 =>
Ld H50 v55 fun v56 =>
FAddr 2 (pt b40) fun v57 =>
Ld H50 v57 fun v58 =>
Bin .num .neq v56 v58 fun v59 =>
(H50 = H50 ∧ v59 = Value.bool t54)) (fun t54 => (Value.bool false) = Value.bool t54) fun t54 => ∀ gs60 : Fr,
Br (Value.bool t54) (
RawR Tryz.prog g 10 (regO Tryz.f127 10) [7, 11] [v1, (pt b40)] H50 fun H62 => ∀ gs61 : Fr,
JE J34 [] H62) (
JE J34 [] H50)) NoKP) (
Bin .num .add w8 (Value.int .i64 1) fun v63 =>
Back I4 m5 [v63] H31 [w8] H7)) (
LenM H7 v1 fun v64 =>
R (.returned v64) H7)
theorem L127_sound (h : L127 g a0 a1 a2 H R) : SCalls Tryz.prog g 127 #[a0, a1, a2] H R :=
 soundF (hn := (.n .e (.n .e (.n (.n .e (.n (.h 0 [17] [0, 1, 7, 15, 16] (.n .e (.n .e (.n (.n (.n .e (.n .e (.n (.h 0 [35] [0, 1, 7, 15, 16, 17, 33, 34] (.n .e (.n .e (.h 1 [] [0, 1, 7, 15, 16, 17, 33, 34, 35] (.n (.n .e (.n (.h 0 (List.range 12) [] .e .e) (.n (.h 0 [] [1] .e .e) (.n (.h 9 [7, 11] [] .e .e) .e)))) .e) .e))) .e) .e))) .e) .e))) .e) .e)) .e)))) Tryz.func127 h (by kernel_rfl)
def L128 (g : Gh) (a0 a1 a2 a3 : Value) (H : Hp) (R : Rt) : Prop :=
Bin .num .eql a2 a3 fun v1 =>
Br v1 (
R (.returned a2) H) (
Build Tryz.prog 103 [(0, a1), (1, a2), (2, a3)] fun v2 =>
New H (.cells #[(Value.int .i64 0), (Value.int .u32 0), (Value.int .u32 0)] 103 (0, 0)) fun b3 H4 =>
St 3 H4 (pt b3) v2 fun H5 =>
DR H5 fun R6 =>
Nil a0 fun v7 =>
FAddr 1 v7 fun v8 =>
Ld R6 v8 fun v9 =>
LdA 3 R6 (pt b3) fun v10 =>
CF g 99 #[v9, v10] H5 (fun v11 H12 =>
Ent H12 R6 ∧
Ext 0 v11 fun v13 =>
Ext 1 v11 fun v14 =>
Br v14 (
R (.returned v13) H12) (
LdA 3 H12 (pt b3) fun v15 =>
CF g 50 #[a0, v15] H12 (fun v16 H17 =>
R (.returned v16) H17) (PanR R))) NoKP)
theorem L128_sound (h : L128 g a0 a1 a2 a3 H R) : SCalls Tryz.prog g 128 #[a0, a1, a2, a3] H R :=
 soundF (hn := (.n .e (.n .e (.n .e (.n (.n (.h 0 (List.range 11) [] .e .e) .e) .e))))) Tryz.func128 h (by kernel_rfl)
def L129 (g : Gh) (a0 a1 a2 : Value) (H : Hp) (R : Rt) : Prop :=
New H (.cells (Value.cells a2) 103 (0, 0)) fun b1 H2 =>
Bin .ptr .eql a0 (.pointer none) fun v3 =>
Br v3 (
R (.returned (Value.int .i64 10)) H2) (
LdA 3 H2 (pt b1) fun v4 =>
CF g 139 #[a0, v4] H2 (fun v5 H6 =>
Bin .num .neq v5 (Value.int .i64 0) fun v7 =>
Br v7 (
R (.returned v5) H6) (
CF g 140 #[a0, a1] H6 (fun v8 H9 =>
Bin .num .neq v8 (Value.int .i64 0) fun v10 =>
Br v10 (
R (.returned v8) H9) (
DR H9 fun R11 =>
Nil a0 fun v12 =>
FAddr 1 v12 fun v13 =>
Ld R11 v13 fun v14 =>
LdA 3 R11 (pt b1) fun v15 =>
IAddr 5 v14 a1 fun v16 =>
FAddr 0 v16 fun v17 =>
St 3 H9 v17 v15 fun H18 =>
R (.returned (Value.int .i64 0)) H18)) (PanR R))) (PanR R))
theorem L129_sound (h : L129 g a0 a1 a2 H R) : SCalls Tryz.prog g 129 #[a0, a1, a2] H R :=
 soundF (hn := (.n .e (.n .e (.n .e (.n .e (.n (.h 0 (List.range 9) [] .e .e) .e)))))) Tryz.func129 h (by kernel_rfl)
def L134 (g : Gh) (a0 a1 : Value) (H : Hp) (R : Rt) : Prop :=
Ld H a0 fun v1 =>
CF g 90 #[v1] H (fun v2 H3 =>
Ld H3 a0 fun v4 =>
Nil v4 fun v5 =>
FAddr 2 v5 fun v6 =>
Ld H3 v6 fun v7 =>
St 1 H3 a1 v7 fun H8 =>
R (.returned (.tuple #[])) H8) (PanR R)
theorem L134_soundD (h : L134 g a0 a1 H R) : SCallsD Tryz.prog g 134 #[a0, a1] H R :=
 soundD (hn := .e) Tryz.func134 h (by kernel_rfl)
def L135 (g : Gh) (a0 a1 : Value) (H : Hp) (R : Rt) : Prop :=
CF g 84 #[a0] H (fun v1 H2 =>
CF g 84 #[a1] H2 (fun v3 H4 =>
Bin .num .eql v1 (Value.int .i64 4) fun v5 =>
Grp v5 false (fun t6 =>
Bin .num .eql v3 (Value.int .i64 4) fun v7 =>
(H4 = H4 ∧ v7 = Value.bool t6)) (fun t6 => (Value.bool true) = Value.bool t6) fun t6 => ∀ gs8 : Fr,
Grp (Value.bool t6) false (fun t9 =>
LenS a0 fun v10 =>
LenS a1 fun v11 =>
Bin .num .neq v10 v11 fun v12 =>
(H4 = H4 ∧ v12 = Value.bool t9)) (fun t9 => (Value.bool true) = Value.bool t9) fun t9 => ∀ gs13 : Fr,
Br (Value.bool t9) (
R (.returned (Value.int .i64 4)) H4) (
MaxI v1 v3 fun v14 =>
R (.returned v14) H4)) (PanR R)) (PanR R)
theorem L135_sound (h : L135 g a0 a1 H R) : SCalls Tryz.prog g 135 #[a0, a1] H R :=
 soundF (hn := (.n .e (.n .e (.n (.n (.h 0 [] [1] .e .e) .e) .e)))) Tryz.func135 h (by kernel_rfl)
def L136 (g : Gh) (a0 a1 : Value) (H : Hp) (R : Rt) : Prop :=
LenS a0 fun v1 =>
∃ (I2 : Jt) (m3 : Mt), JE I2 [(Value.int .i64 0)] H ∧ ∀ w6 : Value, ∀ H5 : Hp, I2 [w6] H5 → ∀ gs4 : Fr,
Bin .num .lss w6 v1 fun v7 =>
Br v7 (
IAddr 1 a0 w6 fun v8 =>
Ld H5 v8 fun v9 =>
Bin .num .eql a1 v9 fun v10 =>
Br v10 (
R (.returned w6) H5) (
Bin .num .add w6 (Value.int .i64 1) fun v11 =>
Back I2 m3 [v11] H5 [w6] H5)) (
R (.returned (Value.int .i64 (-1))) H5)
theorem L136_sound (h : L136 g a0 a1 H R) : SCalls Tryz.prog g 136 #[a0, a1] H R :=
 soundF (hn := (.n .e (.n (.n .e (.n (.h 0 [8] [0, 1, 7] .e .e) .e)) .e))) Tryz.func136 h (by kernel_rfl)
def L137 (g : Gh) (a0 a1 : Value) (H : Hp) (R : Rt) : Prop :=
New H (.cells #[(Value.int .i64 0), (Value.int .u32 0), (Value.int .u32 0)] 103 (0, 0)) fun b1 H2 =>
Bin .ptr .eql a0 (.pointer none) fun v3 =>
Br v3 (
Build Tryz.prog 103 [] fun v4 =>
St 3 H2 (pt b1) v4 fun H5 =>
LdA 3 H5 (pt b1) fun v6 =>
R (.returned (.tuple #[v6, (Value.int .i64 10)])) H5) (
CF g 166 #[a0, a1] H2 (fun v7 H8 =>
Un .not v7 fun v9 =>
Br v9 (
Build Tryz.prog 103 [] fun v10 =>
St 3 H8 (pt b1) v10 fun H11 =>
LdA 3 H11 (pt b1) fun v12 =>
R (.returned (.tuple #[v12, (Value.int .i64 3)])) H11) (
Nil a0 fun v13 =>
FAddr 1 v13 fun v14 =>
Ld H8 v14 fun v15 =>
IAddr 5 v15 a1 fun v16 =>
FAddr 0 v16 fun v17 =>
LdA 3 H8 v17 fun v18 =>
St 3 H8 (pt b1) v18 fun H19 =>
LdA 3 H19 (pt b1) fun v20 =>
R (.returned (.tuple #[v20, (Value.int .i64 0)])) H19)) (PanR R))
theorem L137_sound (h : L137 g a0 a1 H R) : SCalls Tryz.prog g 137 #[a0, a1] H R :=
 soundF (hn := .e) Tryz.func137 h (by kernel_rfl)
def L138 (g : Gh) (a0 a1 : Value) (H : Hp) (R : Rt) : Prop :=
Bin .ptr .eql a0 (.pointer none) fun v1 =>
Br v1 (
R (.returned (Value.int .i64 10)) H) (
Bin .num .lss a1 (Value.int .i64 0) fun v2 =>
Grp v2 false (fun t3 =>
Nil a0 fun v4 =>
FAddr 0 v4 fun v5 =>
Ld H v5 fun v6 =>
LenS v6 fun v7 =>
Bin .num .geq a1 v7 fun v8 =>
(H = H ∧ v8 = Value.bool t3)) (fun t3 => (Value.bool true) = Value.bool t3) fun t3 => ∀ gs9 : Fr,
Br (Value.bool t3) (
R (.returned (Value.int .i64 2)) H) (
R (.returned (Value.int .i64 0)) H))
theorem L138_sound (h : L138 g a0 a1 H R) : SCalls Tryz.prog g 138 #[a0, a1] H R :=
 soundF (hn := (.n .e (.n (.n (.n .e (.n .e (.n (.h 0 [] [1] .e .e) .e))) .e) .e))) Tryz.func138 h (by kernel_rfl)
def L139 (g : Gh) (a0 a1 : Value) (H : Hp) (R : Rt) : Prop :=
New H (.cells (Value.cells a1) 103 (0, 0)) fun b1 H2 =>
FAddr 0 (pt b1) fun v3 =>
Ld H2 v3 fun v4 =>
Bin .num .lss v4 (Value.int .i64 0) fun v5 =>
Grp v5 false (fun t6 =>
FAddr 0 (pt b1) fun v7 =>
Ld H2 v7 fun v8 =>
Bin .num .geq v8 (Value.int .i64 64) fun v9 =>
(H2 = H2 ∧ v9 = Value.bool t6)) (fun t6 => (Value.bool true) = Value.bool t6) fun t6 => ∀ gs10 : Fr,
Br (Value.bool t6) (
R (.returned (Value.int .i64 2)) H2) (
∀ J11 : Jt, (∀ w14 : Value, ∀ H13 : Hp, (∀ gs12 : Fr,
Br w14 (
R (.returned (Value.int .i64 3)) H13) (
R (.returned (Value.int .i64 0)) H13)) → J11 [w14] H13) →
FAddr 1 (pt b1) fun v15 =>
Ld H2 v15 fun v16 =>
CF g 166 #[a0, v16] H2 (fun v17 H18 =>
Un .not v17 fun v19 =>
Split v19 false (
FAddr 2 (pt b1) fun v20 =>
Ld H18 v20 fun v21 =>
CF g 166 #[a0, v21] H18 (fun v22 H23 =>
Un .not v22 fun v24 =>
Pick (Value.bool false) (Value.bool true) v24 fun v25 =>
JE J11 [v25] H23) (PanR R)) (
Pick (Value.bool true) (Value.bool true) undef fun v26 =>
JE J11 [v26] H18)) (PanR R))
theorem L139_sound (h : L139 g a0 a1 H R) : SCalls Tryz.prog g 139 #[a0, a1] H R :=
 soundF (hn := (.n .e (.n (.n (.n (.h 0 [] [1] .e .e) (.n .e (.h 1 [14] [] .e .e))) .e) .e))) Tryz.func139 h (by kernel_rfl)
def L140 (g : Gh) (a0 a1 : Value) (H : Hp) (R : Rt) : Prop :=
∀ J1 : Jt, (∀ w4 : Value, ∀ H3 : Hp, (∀ gs2 : Fr,
Br w4 (
R (.returned (Value.int .i64 3)) H3) (
R (.returned (Value.int .i64 0)) H3)) → J1 [w4] H3) →
Bin .num .leq a1 (Value.int .u32 1) fun v5 =>
Split v5 false (
CF g 166 #[a0, a1] H (fun v6 H7 =>
Un .not v6 fun v8 =>
Pick (Value.bool false) (Value.bool true) v8 fun v9 =>
JE J1 [v9] H7) (PanR R)) (
Pick (Value.bool true) (Value.bool true) undef fun v10 =>
JE J1 [v10] H)
theorem L140_sound (h : L140 g a0 a1 H R) : SCalls Tryz.prog g 140 #[a0, a1] H R :=
 soundF (hn := (.n .e (.n (.h 1 [12] [] .e .e) .e))) Tryz.func140 h (by kernel_rfl)
def L158 (g : Gh) (a0 a1 : Value) (H : Hp) (R : Rt) : Prop :=
CF g 138 #[a0, a1] H (fun v1 H2 =>
Bin .num .neq v1 (Value.int .i64 0) fun v3 =>
Br v3 (
R (.returned (.tuple #[(.slice none 0 0), v1])) H2) (
Nil a0 fun v4 =>
FAddr 0 v4 fun v5 =>
Ld H2 v5 fun v6 =>
IAddr 1 v6 a1 fun v7 =>
Ld H2 v7 fun v8 =>
CF g 187 #[v8] H2 (fun v9 H10 =>
CF g 186 #[v9] H10 (fun v11 H12 =>
R (.returned (.tuple #[v11, (Value.int .i64 0)])) H12) (PanR R)) (PanR R))) (PanR R)
theorem L158_sound (h : L158 g a0 a1 H R) : SCalls Tryz.prog g 158 #[a0, a1] H R :=
 soundF (hn := .e) Tryz.func158 h (by kernel_rfl)
def L159 (g : Gh) (a0 a1 a2 : Value) (H : Hp) (R : Rt) : Prop :=
Nil a0 fun v1 =>
FAddr 0 v1 fun v2 =>
CF g 104 #[v2, a1] H (fun v3 H4 =>
New H4 (.cells #[(Value.int .i64 0), (Value.int .u32 0), (Value.int .u32 0)] 103 (0, 0)) fun b5 H6 =>
St 3 H6 (pt b5) v3 fun H7 =>
FAddr 0 (pt b5) fun v8 =>
Ld H7 v8 fun v9 =>
Bin .num .eql v9 a2 fun v10 =>
Br v10 (
FAddr 1 (pt b5) fun v11 =>
Ld H7 v11 fun v12 =>
FAddr 2 (pt b5) fun v13 =>
Ld H7 v13 fun v14 =>
R (.returned (.tuple #[v12, v14])) H7) (
R (.returned (.tuple #[a1, a1])) H7)) (PanR R)
theorem L159_sound (h : L159 g a0 a1 a2 H R) : SCalls Tryz.prog g 159 #[a0, a1, a2] H R :=
 soundF (hn := .e) Tryz.func159 h (by kernel_rfl)
def L166 (g : Gh) (a0 a1 : Value) (H : Hp) (R : Rt) : Prop :=
ConvI .i64 a1 fun v1 =>
Nil a0 fun v2 =>
FAddr 1 v2 fun v3 =>
Ld H v3 fun v4 =>
LenS v4 fun v5 =>
Bin .num .lss v1 v5 fun v6 =>
Grp v6 true (fun t7 =>
Nil a0 fun v8 =>
FAddr 1 v8 fun v9 =>
Ld H v9 fun v10 =>
IAddr 5 v10 a1 fun v11 =>
FAddr 3 v11 fun v12 =>
Ld H v12 fun v13 =>
(H = H ∧ v13 = Value.bool t7)) (fun t7 => (Value.bool false) = Value.bool t7) fun t7 => ∀ gs14 : Fr,
R (.returned (Value.bool t7)) H
theorem L166_sound (h : L166 g a0 a1 H R) : SCalls Tryz.prog g 166 #[a0, a1] H R :=
 soundF (hn := (.n .e (.n (.h 0 [] [1] .e .e) .e))) Tryz.func166 h (by kernel_rfl)
def L186 (g : Gh) (a0 : Value) (H : Hp) (R : Rt) : Prop :=
CF g 206 #[a0] H (fun v1 H2 =>
CF g 207 #[v1] H2 (fun v3 H4 =>
R (.returned v1) H4) (PanR R)) (PanR R)
theorem L186_sound (h : L186 g a0 H R) : SCalls Tryz.prog g 186 #[a0] H R :=
 soundF (hn := .e) Tryz.func186 h (by kernel_rfl)
def L187 (g : Gh) (a0 : Value) (H : Hp) (R : Rt) : Prop :=
New H (.cells (Value.cells a0) 147 (0, 0)) fun b1 H2 =>
R (.returned (.func (.func 208) #[] #[(pt b1)])) H2
theorem L187_sound (h : L187 g a0 H R) : SCalls Tryz.prog g 187 #[a0] H R :=
 soundF (hn := .e) Tryz.func187 h (by kernel_rfl)
def L206 (g : Gh) (a0 : Value) (H : Hp) (R : Rt) : Prop :=
CF g 219 #[(.slice none 0 0), a0] H (fun v1 H2 =>
R (.returned v1) H2) (PanR R)
theorem L206_sound (h : L206 g a0 H R) : SCalls Tryz.prog g 206 #[a0] H R :=
 soundF (hn := .e) Tryz.func206 h (by kernel_rfl)
def L207 (g : Gh) (a0 : Value) (H : Hp) (R : Rt) : Prop :=
LenS a0 fun v1 =>
ConvI .u64 v1 fun v2 =>
CF g 221 #[v2] H (fun v3 H4 =>
CF g 220 #[a0, (Value.int .i64 0), v1, v3] H4 (fun v5 H6 =>
R (.returned (.tuple #[])) H6) (PanR R)) (PanR R)
theorem L207_sound (h : L207 g a0 H R) : SCalls Tryz.prog g 207 #[a0] H R :=
 soundF (hn := .e) Tryz.func207 h (by kernel_rfl)
def L220 (g : Gh) (a0 a1 a2 a3 : Value) (H : Hp) (R : Rt) : Prop :=
∃ (I1 : Jt) (m2 : Mt), JE I1 [a1, a2, a3, (Value.bool true), (Value.bool true)] H ∧ ∀ w5 w6 w7 w8 w9 : Value, ∀ H4 : Hp, I1 [w5, w6, w7, w8, w9] H4 → ∀ gs3 : Fr,
Bin .num .sub w6 w5 fun v10 =>
Bin .num .leq v10 (Value.int .i64 12) fun v11 =>
Br v11 (
CF g 224 #[a0, w5, w6] H4 (fun v12 H13 =>
R (.returned (.tuple #[])) H13) (PanR R)) (
Bin .num .eql w7 (Value.int .i64 0) fun v14 =>
Br v14 (
CF g 225 #[a0, w5, w6] H4 (fun v15 H16 =>
R (.returned (.tuple #[])) H16) (PanR R)) (
∀ J17 : Jt, (∀ w20 : Value, ∀ H19 : Hp, (∀ gs18 : Fr,
CF g 227 #[a0, w5, w6] H19 (fun v21 H22 =>
Ext 0 v21 fun v23 =>
Ext 1 v21 fun v24 =>
∀ J25 : Jt, (∀ w28 w29 : Value, ∀ H27 : Hp, (∀ gs26 : Fr,
∀ J30 : Jt, (∀ H32 : Hp, (∀ gs31 : Fr,
∀ J33 : Jt, (∀ w36 : Value, ∀ H35 : Hp, (∀ gs34 : Fr,
Br w36 (
CF g 231 #[a0, w5, w6, w28] H35 (fun v37 H38 =>
Back I1 m2 [v37, w6, w20, w8, w9] H38 [w5, w6, w7, w8, w9] H4) (PanR R)) (
CF g 232 #[a0, w5, w6, w28] H35 (fun v39 H40 =>
Ext 0 v39 fun v41 =>
Ext 1 v39 fun v42 =>
Bin .num .sub v41 w5 fun v43 =>
Bin .num .sub w6 v41 fun v44 =>
Bin .num .quo v10 (Value.int .i64 8) fun v45 =>
Bin .num .lss v43 v44 fun v46 =>
Br v46 (
Bin .num .geq v43 v45 fun v47 =>
CF g 220 #[a0, w5, v41, w20] H40 (fun v48 H49 =>
Bin .num .add v41 (Value.int .i64 1) fun v50 =>
Back I1 m2 [v50, w6, w20, v47, v42] H49 [w5, w6, w7, w8, w9] H4) (PanR R)) (
Bin .num .geq v44 v45 fun v51 =>
Bin .num .add v41 (Value.int .i64 1) fun v52 =>
CF g 220 #[a0, v52, w6, w20] H40 (fun v53 H54 =>
Back I1 m2 [w5, v41, w20, v51, v42] H54 [w5, w6, w7, w8, w9] H4) (PanR R))) (PanR R))) → J33 [w36] H35) →
DR H32 fun R55 =>
Bin .num .gtr w5 (Value.int .i64 0) fun v56 =>
Br v56 (
Bin .num .sub w5 (Value.int .i64 1) fun v57 =>
IAddr 1 a0 v57 fun v58 =>
Ld R55 v58 fun v59 =>
IAddr 1 a0 w28 fun v60 =>
Ld R55 v60 fun v61 =>
∀ F62 : Hp,
CF (g.add F62) 230 #[v59, v61] H32 (fun v63 H64 =>
Un .not v63 fun v65 =>
Pick (Value.bool true) v65 (Value.bool false) fun v66 =>
JE J33 [v66] H64) NoKP) (
JE J33 [(Value.bool false)] H32)) → J30 [] H32) →
Grp w8 true (fun t67 =>
(H27 = H27 ∧ w9 = Value.bool t67)) (fun t67 => (Value.bool false) = Value.bool t67) fun t67 => ∀ gs68 : Fr,
Grp (Value.bool t67) true (fun t69 =>
Bin .num .eql w29 (Value.int .i64 1) fun v70 =>
(H27 = H27 ∧ v70 = Value.bool t69)) (fun t69 => (Value.bool false) = Value.bool t69) fun t69 => ∀ gs71 : Fr,
Br (Value.bool t69) (
CF g 229 #[a0, w5, w6] H27 (fun v72 H73 =>
Br v72 (
R (.returned (.tuple #[])) H73) (
JE J30 [] H73)) (PanR R)) (
JE J30 [] H27)) → J25 [w28, w29] H27) →
Bin .num .eql v24 (Value.int .i64 2) fun v74 =>
Br v74 (
CF g 228 #[a0, w5, w6] H22 (fun v75 H76 =>
Bin .num .sub w6 (Value.int .i64 1) fun v77 =>
Bin .num .sub v23 w5 fun v78 =>
Bin .num .sub v77 v78 fun v79 =>
JE J25 [v79, (Value.int .i64 1)] H76) (PanR R)) (
JE J25 [v23, v24] H22)) (PanR R)) → J17 [w20] H19) →
Un .not w8 fun v80 =>
Br v80 (
CF g 226 #[a0, w5, w6] H4 (fun v81 H82 =>
Bin .num .sub w7 (Value.int .i64 1) fun v83 =>
JE J17 [v83] H82) (PanR R)) (
JE J17 [w7] H4)))
theorem L220_sound (h : L220 g a0 a1 a2 a3 H R) : SCalls Tryz.prog g 220 #[a0, a1, a2, a3] H R :=
 soundF (hn := (.n .e (.n .e (.n (.h 0 [1, 2, 3, 8, 9] [0] (.n (.n .e (.n .e (.n .e (.h 1 [3] [0, 1, 2, 8, 9, 10] .e (.n .e (.h 1 [11, 12] [0, 1, 2, 3, 8, 9, 10] .e (.h 1 [] [0, 1, 2, 3, 8, 9, 10, 11] (.n (.h 0 [] [1] .e .e) .e) (.n (.h 1 [87] [0, 1, 2, 3, 8, 9, 10, 11] (.h 1 [] [] (.h 0 [0] [] (.h 0 [1] [] (.h 2 [2] [] (.h 0 [3] [] (.h 0 [4] [] (.h 0 [5] [] (.h 0 [6] [] (.h 0 [7] [] (.h 0 [8] [] (.h 0 [9] [] (.h 0 [10] [] (.h 0 [11] [] (.h 0 [12] [] (.h 0 [13] [] (.h 0 [14] [] .e .e) .e) .e) .e) .e) .e) .e) .e) .e) .e) .e) .e) (.h 0 [3] [] (.h 0 [4] [] (.h 0 [5] [] (.h 0 [6] [] (.h 0 [7] [] (.h 0 [8] [] (.h 0 [9] [] (.h 0 [10] [] (.h 0 [11] [] (.h 0 [12] [] (.h 0 [13] [] (.h 3 [14] [] .e .e) .e) .e) .e) .e) .e) .e) .e) .e) .e) .e) .e)) .e) .e) .e) .e) .e)))))))) .e) .e) .e)))) Tryz.func220 h (by kernel_rfl)
def L221 (g : Gh) (a0 : Value) (H : Hp) (R : Rt) : Prop :=
Br (Value.bool false) (
ConvI .u32 a0 fun v1 =>
CF g 233 #[v1] H (fun v2 H3 =>
R (.returned v2) H3) (PanR R)) (
CF g 234 #[a0] H (fun v4 H5 =>
R (.returned v4) H5) (PanR R))
theorem L221_sound (h : L221 g a0 H R) : SCalls Tryz.prog g 221 #[a0] H R :=
 soundF (hn := .e) Tryz.func221 h (by kernel_rfl)
def L224 (g : Gh) (a0 a1 a2 : Value) (H : Hp) (R : Rt) : Prop :=
Bin .num .add a1 (Value.int .i64 1) fun v1 =>
∃ (I2 : Jt) (m3 : Mt), JE I2 [v1] H ∧ ∀ w6 : Value, ∀ H5 : Hp, I2 [w6] H5 → ∀ gs4 : Fr,
Bin .num .lss w6 a2 fun v7 =>
Br v7 (
∃ (I8 : Jt) (m9 : Mt), JE I8 [w6] H5 ∧ ∀ w12 : Value, ∀ H11 : Hp, I8 [w12] H11 → ∀ gs10 : Fr,
∀ J13 : Jt, (∀ w16 : Value, ∀ H15 : Hp, (∀ gs14 : Fr,
Br w16 (
DR H15 fun R17 =>
Bin .num .sub w12 (Value.int .i64 1) fun v18 =>
Bin .num .sub w12 (Value.int .i64 1) fun v19 =>
IAddr 1 a0 v19 fun v20 =>
Ld R17 v20 fun v21 =>
IAddr 1 a0 w12 fun v22 =>
Ld R17 v22 fun v23 =>
IAddr 1 a0 w12 fun v24 =>
St 1 H15 v24 v21 fun H25 =>
IAddr 1 a0 v18 fun v26 =>
St 1 H25 v26 v23 fun H27 =>
Bin .num .sub w12 (Value.int .i64 1) fun v28 =>
Back I8 m9 [v28] H27 [w12] H11) (
Bin .num .add w6 (Value.int .i64 1) fun v29 =>
Back I2 m3 [v29] H15 [w6] H5)) → J13 [w16] H15) →
DR H11 fun R30 =>
Bin .num .gtr w12 a1 fun v31 =>
Br v31 (
IAddr 1 a0 w12 fun v32 =>
Ld R30 v32 fun v33 =>
Bin .num .sub w12 (Value.int .i64 1) fun v34 =>
IAddr 1 a0 v34 fun v35 =>
Ld R30 v35 fun v36 =>
∀ F37 : Hp,
CF (g.add F37) 230 #[v33, v36] H11 (fun v38 H39 =>
Pick (Value.bool true) v38 (Value.bool false) fun v40 =>
JE J13 [v40] H39) NoKP) (
JE J13 [(Value.bool false)] H11)) (
R (.returned (.tuple #[])) H5)
theorem L224_sound (h : L224 g a0 a1 a2 H R) : SCalls Tryz.prog g 224 #[a0, a1, a2] H R :=
 soundF (hn := (.n .e (.n (.h 0 [6] [0, 1, 2] (.n .e (.n (.n (.n .e (.n (.h 0 [7] [0, 1, 2, 6] (.n (.h 1 [30] [0, 1, 2, 6, 7] (.h 1 [] [] (.h 0 [0] [] (.h 0 [1] [] (.h 0 [2] [] (.h 2 [3] [] (.h 0 [4] [] (.h 0 [5] [] (.h 0 [6] [] (.h 0 [7] [] (.h 0 [8] [] (.h 0 [9] [] (.h 0 [10] [] (.h 0 [11] [] (.h 0 [12] [] (.h 0 [13] [] (.h 0 [14] [] .e .e) .e) .e) .e) .e) .e) .e) .e) .e) .e) .e) (.h 0 [4] [] (.h 0 [5] [] (.h 0 [6] [] (.h 0 [7] [] (.h 0 [8] [] (.h 0 [9] [] (.h 0 [10] [] (.h 0 [11] [] (.h 0 [12] [] (.h 0 [13] [] (.h 3 [14] [] .e .e) .e) .e) .e) .e) .e) .e) .e) .e) .e) .e)) .e) .e) .e) .e) .e) (.n (.n (.h 0 (List.range 18) [] .e .e) .e) .e)) .e) .e)) .e) .e)) .e) .e))) Tryz.func224 h (by kernel_rfl)
def L225 (g : Gh) (a0 a1 a2 : Value) (H : Hp) (R : Rt) : Prop :=
Bin .num .sub a2 a1 fun v1 =>
Bin .num .sub v1 (Value.int .i64 1) fun v2 =>
Bin .num .quo v2 (Value.int .i64 2) fun v3 =>
∃ (I4 : Jt) (m5 : Mt), JE I4 [v3] H ∧ ∀ w8 : Value, ∀ H7 : Hp, I4 [w8] H7 → ∀ gs6 : Fr,
Bin .num .geq w8 (Value.int .i64 0) fun v9 =>
Br v9 (
CF g 235 #[a0, w8, v1, a1] H7 (fun v10 H11 =>
Bin .num .sub w8 (Value.int .i64 1) fun v12 =>
Back I4 m5 [v12] H11 [w8] H7) (PanR R)) (
Bin .num .sub v1 (Value.int .i64 1) fun v13 =>
∃ (I14 : Jt) (m15 : Mt), JE I14 [v13] H7 ∧ ∀ w18 : Value, ∀ H17 : Hp, I14 [w18] H17 → ∀ gs16 : Fr,
Bin .num .geq w18 (Value.int .i64 0) fun v19 =>
Br v19 (
DR H17 fun R20 =>
Bin .num .add a1 w18 fun v21 =>
Bin .num .add a1 w18 fun v22 =>
IAddr 1 a0 v22 fun v23 =>
Ld R20 v23 fun v24 =>
IAddr 1 a0 a1 fun v25 =>
Ld R20 v25 fun v26 =>
IAddr 1 a0 a1 fun v27 =>
St 1 H17 v27 v24 fun H28 =>
IAddr 1 a0 v21 fun v29 =>
St 1 H28 v29 v26 fun H30 =>
CF g 235 #[a0, (Value.int .i64 0), w18, a1] H30 (fun v31 H32 =>
Bin .num .sub w18 (Value.int .i64 1) fun v33 =>
Back I14 m15 [v33] H32 [w18] H17) (PanR R)) (
R (.returned (.tuple #[])) H17))
theorem L225_sound (h : L225 g a0 a1 a2 H R) : SCalls Tryz.prog g 225 #[a0, a1, a2] H R :=
 soundF (hn := (.n .e (.n .e (.n .e (.n (.n .e (.n (.h 0 [9] [0, 6, 7, 8] .e .e) .e)) (.n .e (.n (.h 0 [10] [0, 6, 7] (.n .e (.n (.n (.n (.h 0 (List.range 20) [] .e .e) .e) .e) .e)) .e) .e))))))) Tryz.func225 h (by kernel_rfl)
def L226 (g : Gh) (a0 a1 a2 : Value) (H : Hp) (R : Rt) : Prop :=
Bin .num .sub a2 a1 fun v1 =>
Bin .num .geq v1 (Value.int .i64 8) fun v2 =>
Br v2 (
ConvI .u64 v1 fun v3 =>
New H (.cells #[(Value.int .u64 0)] 295 (0, 0)) fun b4 H5 =>
St 1 H5 (pt b4) v3 fun H6 =>
CF g 236 #[v1] H6 (fun v7 H8 =>
Bin .num .quo v1 (Value.int .i64 4) fun v9 =>
Bin .num .mul v9 (Value.int .i64 2) fun v10 =>
Bin .num .add a1 v10 fun v11 =>
Bin .num .sub v11 (Value.int .i64 1) fun v12 =>
∃ (I13 : Jt) (m14 : Mt), JE I13 [v12] H8 ∧ ∀ w17 : Value, ∀ H16 : Hp, I13 [w17] H16 → ∀ gs15 : Fr,
Bin .num .quo v1 (Value.int .i64 4) fun v18 =>
Bin .num .mul v18 (Value.int .i64 2) fun v19 =>
Bin .num .add a1 v19 fun v20 =>
Bin .num .add v20 (Value.int .i64 1) fun v21 =>
Bin .num .leq w17 v21 fun v22 =>
Br v22 (
CF g 237 #[(pt b4)] H16 (fun v23 H24 =>
Bin .num .sub v7 (Value.int .u64 1) fun v25 =>
Bin .num .and v23 v25 fun v26 =>
ConvI .i64 v26 fun v27 =>
∀ J28 : Jt, (∀ w31 : Value, ∀ H30 : Hp, (∀ gs29 : Fr,
DR H30 fun R32 =>
Bin .num .add a1 w31 fun v33 =>
Bin .num .add a1 w31 fun v34 =>
IAddr 1 a0 v34 fun v35 =>
Ld R32 v35 fun v36 =>
IAddr 1 a0 w17 fun v37 =>
Ld R32 v37 fun v38 =>
IAddr 1 a0 w17 fun v39 =>
St 1 H30 v39 v36 fun H40 =>
IAddr 1 a0 v33 fun v41 =>
St 1 H40 v41 v38 fun H42 =>
Bin .num .add w17 (Value.int .i64 1) fun v43 =>
Back I13 m14 [v43] H42 [w17] H16) → J28 [w31] H30) →
Bin .num .geq v27 v1 fun v44 =>
Br v44 (
Bin .num .sub v27 v1 fun v45 =>
JE J28 [v45] H24) (
JE J28 [v27] H24)) (PanR R)) (
R (.returned (.tuple #[])) H16)) (PanR R)) (
R (.returned (.tuple #[])) H)
theorem L226_sound (h : L226 g a0 a1 a2 H R) : SCalls Tryz.prog g 226 #[a0, a1, a2] H R :=
 soundF (hn := (.n .e (.n .e (.n (.n .e (.n .e (.n .e (.n (.h 0 [9] [0, 1, 6, 7, 8] (.n .e (.n (.n (.n .e (.h 1 [10] [0, 1, 6, 7, 8, 9] .e (.h 0 (List.range 20) [] .e .e))) .e) .e)) .e) .e)))) .e)))) Tryz.func226 h (by kernel_rfl)
def L227 (g : Gh) (a0 a1 a2 : Value) (H : Hp) (R : Rt) : Prop :=
Bin .num .sub a2 a1 fun v1 =>
New H (.cells #[(Value.int .i64 0)] 3 (0, 0)) fun b2 H3 =>
Bin .num .quo v1 (Value.int .i64 4) fun v4 =>
Bin .num .mul v4 (Value.int .i64 1) fun v5 =>
Bin .num .add a1 v5 fun v6 =>
Bin .num .quo v1 (Value.int .i64 4) fun v7 =>
Bin .num .mul v7 (Value.int .i64 2) fun v8 =>
Bin .num .add a1 v8 fun v9 =>
Bin .num .quo v1 (Value.int .i64 4) fun v10 =>
Bin .num .mul v10 (Value.int .i64 3) fun v11 =>
Bin .num .add a1 v11 fun v12 =>
∀ J13 : Jt, (∀ w16 : Value, ∀ H15 : Hp, (∀ gs14 : Fr,
Ld H15 (pt b2) fun v17 =>
Bin .num .eql v17 (Value.int .i64 0) fun v18 =>
Br v18 (
R (.returned (.tuple #[w16, (Value.int .i64 1)])) H15) (
Bin .num .eql v17 (Value.int .i64 12) fun v19 =>
Br v19 (
R (.returned (.tuple #[w16, (Value.int .i64 2)])) H15) (
R (.returned (.tuple #[w16, (Value.int .i64 0)])) H15))) → J13 [w16] H15) →
Bin .num .geq v1 (Value.int .i64 8) fun v20 =>
Br v20 (
∀ J21 : Jt, (∀ w24 w25 w26 : Value, ∀ H23 : Hp, (∀ gs22 : Fr,
CF g 239 #[a0, w24, w25, w26, (pt b2)] H23 (fun v27 H28 =>
JE J13 [v27] H28) (PanR R)) → J21 [w24, w25, w26] H23) →
Bin .num .geq v1 (Value.int .i64 50) fun v29 =>
Br v29 (
CF g 238 #[a0, v6, (pt b2)] H3 (fun v30 H31 =>
CF g 238 #[a0, v9, (pt b2)] H31 (fun v32 H33 =>
CF g 238 #[a0, v12, (pt b2)] H33 (fun v34 H35 =>
JE J21 [v30, v32, v34] H35) (PanR R)) (PanR R)) (PanR R)) (
JE J21 [v6, v9, v12] H3)) (
JE J13 [v9] H3)
theorem L227_sound (h : L227 g a0 a1 a2 H R) : SCalls Tryz.prog g 227 #[a0, a1, a2] H R :=
 soundF (hn := (.n .e (.n .e (.n .e (.n .e (.n .e (.n .e (.h 1 [11] [9] (.n .e (.n (.h 1 [10, 11, 12] [0, 9] .e .e) .e)) .e)))))))) Tryz.func227 h (by kernel_rfl)
def L228 (g : Gh) (a0 a1 a2 : Value) (H : Hp) (R : Rt) : Prop :=
Bin .num .sub a2 (Value.int .i64 1) fun v1 =>
∃ (I2 : Jt) (m3 : Mt), JE I2 [a1, v1] H ∧ ∀ w6 w7 : Value, ∀ H5 : Hp, I2 [w6, w7] H5 → ∀ gs4 : Fr,
Bin .num .lss w6 w7 fun v8 =>
Br v8 (
DR H5 fun R9 =>
IAddr 1 a0 w7 fun v10 =>
Ld R9 v10 fun v11 =>
IAddr 1 a0 w6 fun v12 =>
Ld R9 v12 fun v13 =>
IAddr 1 a0 w6 fun v14 =>
St 1 H5 v14 v11 fun H15 =>
IAddr 1 a0 w7 fun v16 =>
St 1 H15 v16 v13 fun H17 =>
Bin .num .add w6 (Value.int .i64 1) fun v18 =>
Bin .num .sub w7 (Value.int .i64 1) fun v19 =>
Back I2 m3 [v18, v19] H17 [w6, w7] H5) (
R (.returned (.tuple #[])) H5)
theorem L228_sound (h : L228 g a0 a1 a2 H R) : SCalls Tryz.prog g 228 #[a0, a1, a2] H R :=
 soundF (hn := (.n .e (.n .e (.n (.h 0 [6, 7] [0] (.n .e (.n (.n (.h 0 (List.range 16) [] .e .e) .e) .e)) .e) .e)))) Tryz.func228 h (by kernel_rfl)
def L229 (g : Gh) (a0 a1 a2 : Value) (H : Hp) (R : Rt) : Prop :=
Bin .num .add a1 (Value.int .i64 1) fun v1 =>
∃ (I2 : Jt) (m3 : Mt), JE I2 [v1, (Value.int .i64 0)] H ∧ ∀ w6 w7 : Value, ∀ H5 : Hp, I2 [w6, w7] H5 → ∀ gs4 : Fr,
Bin .num .lss w7 (Value.int .i64 5) fun v8 =>
Br v8 (
∀ J9 : Jt, (∀ w12 : Value, ∀ H11 : Hp, (∀ gs10 : Fr,
Bin .num .add w7 (Value.int .i64 1) fun v13 =>
Back I2 m3 [w12, v13] H11 [w6, w7] H5) → J9 [w12] H11) →
∃ (I14 : Jt) (m15 : Mt), JE I14 [w6] H5 ∧ ∀ w18 : Value, ∀ H17 : Hp, I14 [w18] H17 → ∀ gs16 : Fr,
∀ J19 : Jt, (∀ w22 : Value, ∀ H21 : Hp, (∀ gs20 : Fr,
Br w22 (
Bin .num .add w18 (Value.int .i64 1) fun v23 =>
Back I14 m15 [v23] H21 [w18] H17) (
Bin .num .eql w18 a2 fun v24 =>
Br v24 (
R (.returned (Value.bool true)) H21) (
Bin .num .sub a2 a1 fun v25 =>
Bin .num .lss v25 (Value.int .i64 50) fun v26 =>
Br v26 (
R (.returned (Value.bool false)) H21) (
DR H21 fun R27 =>
Bin .num .sub w18 (Value.int .i64 1) fun v28 =>
Bin .num .sub w18 (Value.int .i64 1) fun v29 =>
IAddr 1 a0 v29 fun v30 =>
Ld R27 v30 fun v31 =>
IAddr 1 a0 w18 fun v32 =>
Ld R27 v32 fun v33 =>
IAddr 1 a0 w18 fun v34 =>
St 1 H21 v34 v31 fun H35 =>
IAddr 1 a0 v28 fun v36 =>
St 1 H35 v36 v33 fun H37 =>
∀ J38 : Jt, (∀ H40 : Hp, (∀ gs39 : Fr,
Bin .num .sub a2 w18 fun v41 =>
Bin .num .geq v41 (Value.int .i64 2) fun v42 =>
Br v42 (
Bin .num .add w18 (Value.int .i64 1) fun v43 =>
∃ (I44 : Jt) (m45 : Mt), JE I44 [v43] H40 ∧ ∀ w48 : Value, ∀ H47 : Hp, I44 [w48] H47 → ∀ gs46 : Fr,
Bin .num .lss w48 a2 fun v49 =>
Br v49 (
DR H47 fun R50 =>
IAddr 1 a0 w48 fun v51 =>
Ld R50 v51 fun v52 =>
Bin .num .sub w48 (Value.int .i64 1) fun v53 =>
IAddr 1 a0 v53 fun v54 =>
Ld R50 v54 fun v55 =>
CF g 230 #[v52, v55] H47 (fun v56 H57 =>
Un .not v56 fun v58 =>
Br v58 (
JE J9 [w18] H57) (
DR H57 fun R59 =>
Bin .num .sub w48 (Value.int .i64 1) fun v60 =>
Bin .num .sub w48 (Value.int .i64 1) fun v61 =>
IAddr 1 a0 v61 fun v62 =>
Ld R59 v62 fun v63 =>
IAddr 1 a0 w48 fun v64 =>
Ld R59 v64 fun v65 =>
IAddr 1 a0 w48 fun v66 =>
St 1 H57 v66 v63 fun H67 =>
IAddr 1 a0 v60 fun v68 =>
St 1 H67 v68 v65 fun H69 =>
Bin .num .add w48 (Value.int .i64 1) fun v70 =>
Back I44 m45 [v70] H69 [w48] H47)) NoKP) (
JE J9 [w18] H47)) (
JE J9 [w18] H40)) → J38 [] H40) →
Bin .num .sub w18 a1 fun v71 =>
Bin .num .geq v71 (Value.int .i64 2) fun v72 =>
Br v72 (
Bin .num .sub w18 (Value.int .i64 1) fun v73 =>
∃ (I74 : Jt) (m75 : Mt), JE I74 [v73] H37 ∧ ∀ w78 : Value, ∀ H77 : Hp, I74 [w78] H77 → ∀ gs76 : Fr,
Bin .num .geq w78 (Value.int .i64 1) fun v79 =>
Br v79 (
DR H77 fun R80 =>
IAddr 1 a0 w78 fun v81 =>
Ld R80 v81 fun v82 =>
Bin .num .sub w78 (Value.int .i64 1) fun v83 =>
IAddr 1 a0 v83 fun v84 =>
Ld R80 v84 fun v85 =>
CF g 230 #[v82, v85] H77 (fun v86 H87 =>
Un .not v86 fun v88 =>
Br v88 (
JE J38 [] H87) (
DR H87 fun R89 =>
Bin .num .sub w78 (Value.int .i64 1) fun v90 =>
Bin .num .sub w78 (Value.int .i64 1) fun v91 =>
IAddr 1 a0 v91 fun v92 =>
Ld R89 v92 fun v93 =>
IAddr 1 a0 w78 fun v94 =>
Ld R89 v94 fun v95 =>
IAddr 1 a0 w78 fun v96 =>
St 1 H87 v96 v93 fun H97 =>
IAddr 1 a0 v90 fun v98 =>
St 1 H97 v98 v95 fun H99 =>
Bin .num .sub w78 (Value.int .i64 1) fun v100 =>
Back I74 m75 [v100] H99 [w78] H77)) NoKP) (
JE J38 [] H77)) (
JE J38 [] H37))))) → J19 [w22] H21) →
DR H17 fun R101 =>
Bin .num .lss w18 a2 fun v102 =>
Br v102 (
IAddr 1 a0 w18 fun v103 =>
Ld R101 v103 fun v104 =>
Bin .num .sub w18 (Value.int .i64 1) fun v105 =>
IAddr 1 a0 v105 fun v106 =>
Ld R101 v106 fun v107 =>
∀ F108 : Hp,
CF (g.add F108) 230 #[v104, v107] H17 (fun v109 H110 =>
Un .not v109 fun v111 =>
Pick (Value.bool true) v111 (Value.bool false) fun v112 =>
JE J19 [v112] H110) NoKP) (
JE J19 [(Value.bool false)] H17)) (
R (.returned (Value.bool false)) H5)
theorem L229_sound (h : L229 g a0 a1 a2 H R) : SCalls Tryz.prog g 229 #[a0, a1, a2] H R :=
 soundF (hn := (.n .e (.n .e (.n (.n .e (.n (.h 0 [7, 8] [0, 1, 2] (.n .e (.h 1 [7] [0, 1, 2, 8] (.n (.n (.n (.h 0 [7] [0, 1, 2, 8] (.n (.h 1 [32] [0, 1, 2, 7, 8] (.h 1 [] [] (.h 0 [0] [] (.h 0 [1] [] (.h 0 [2] [] (.h 2 [3] [] (.h 0 [4] [] (.h 0 [5] [] (.h 0 [6] [] (.h 0 [7] [] (.h 0 [8] [] (.h 0 [9] [] (.h 0 [10] [] (.h 0 [11] [] (.h 0 [12] [] (.h 0 [13] [] (.h 0 [14] [] (.h 0 [15] [] .e .e) .e) .e) .e) .e) .e) .e) .e) .e) .e) .e) .e) (.h 0 [4] [] (.h 0 [5] [] (.h 0 [6] [] (.h 0 [7] [] (.h 0 [8] [] (.h 0 [9] [] (.h 0 [10] [] (.h 0 [11] [] (.h 0 [12] [] (.h 0 [13] [] (.h 0 [14] [] (.h 3 [15] [] .e .e) .e) .e) .e) .e) .e) .e) .e) .e) .e) .e) .e)) .e) .e) .e) .e) .e) .e) .e) .e) (.n .e (.n .e (.n (.h 0 (List.range 18) [] .e .e) (.h 1 [] [0, 1, 2, 7, 8] (.n .e (.n (.n .e (.n (.h 0 [9] [0, 1, 2, 7, 8] (.n .e (.n (.n (.n (.n (.h 0 (List.range 11) [] .e .e) .e) (.h 0 (List.range 18) [] .e .e)) .e) .e)) .e) .e)) .e)) (.n .e (.n (.n .e (.n (.h 0 [10] [0, 1, 2, 7, 8] (.n .e (.n (.n (.n (.n (.h 0 (List.range 11) [] .e .e) .e) (.h 0 (List.range 18) [] .e .e)) .e) .e)) .e) .e)) .e))))))) .e) .e)) .e) .e)) .e)))) Tryz.func229 h (by kernel_rfl)
def L230 (g : Gh) (a0 a1 : Value) (H : Hp) (R : Rt) : Prop :=
∀ J1 : Jt, (∀ w4 : Value, ∀ H3 : Hp, (∀ gs2 : Fr,
R (.returned w4) H3) → J1 [w4] H3) →
CF g 240 #[a0] H (fun v5 H6 =>
Split v5 true (
CF g 240 #[a1] H6 (fun v7 H8 =>
Un .not v7 fun v9 =>
Pick (Value.bool true) v9 (Value.bool false) fun v10 =>
Split v10 false (
Bin .num .lss a0 a1 fun v11 =>
Pick (Value.bool false) (Value.bool true) v11 fun v12 =>
JE J1 [v12] H8) (
Pick (Value.bool true) (Value.bool true) undef fun v13 =>
JE J1 [v13] H8)) (PanR R)) (
Pick (Value.bool false) undef (Value.bool false) fun v14 =>
Bin .num .lss a0 a1 fun v15 =>
Pick v14 (Value.bool true) v15 fun v16 =>
JE J1 [v16] H6)) (PanR R)
theorem L230_sound (h : L230 g a0 a1 H R) : SCalls Tryz.prog g 230 #[a0, a1] H R :=
 soundF (hn := (.n .e (.h 1 [4] [] .e .e))) Tryz.func230 h (by kernel_rfl)
def L231 (g : Gh) (a0 a1 a2 a3 : Value) (H : Hp) (R : Rt) : Prop :=
DR H fun R1 =>
IAddr 1 a0 a3 fun v2 =>
Ld R1 v2 fun v3 =>
IAddr 1 a0 a1 fun v4 =>
Ld R1 v4 fun v5 =>
IAddr 1 a0 a1 fun v6 =>
St 1 H v6 v3 fun H7 =>
IAddr 1 a0 a3 fun v8 =>
St 1 H7 v8 v5 fun H9 =>
Bin .num .add a1 (Value.int .i64 1) fun v10 =>
Bin .num .sub a2 (Value.int .i64 1) fun v11 =>
∃ (I12 : Jt) (m13 : Mt), JE I12 [v10, v11] H9 ∧ ∀ w16 w17 : Value, ∀ H15 : Hp, I12 [w16, w17] H15 → ∀ gs14 : Fr,
∃ (I18 : Jt) (m19 : Mt), JE I18 [w16] H15 ∧ ∀ w22 : Value, ∀ H21 : Hp, I18 [w22] H21 → ∀ gs20 : Fr,
∀ J23 : Jt, (∀ w26 : Value, ∀ H25 : Hp, (∀ gs24 : Fr,
Br w26 (
Bin .num .add w22 (Value.int .i64 1) fun v27 =>
Back I18 m19 [v27] H25 [w22] H21) (
∃ (I28 : Jt) (m29 : Mt), JE I28 [w17] H25 ∧ ∀ w32 : Value, ∀ H31 : Hp, I28 [w32] H31 → ∀ gs30 : Fr,
∀ J33 : Jt, (∀ w36 : Value, ∀ H35 : Hp, (∀ gs34 : Fr,
Br w36 (
Bin .num .sub w32 (Value.int .i64 1) fun v37 =>
Back I28 m29 [v37] H35 [w32] H31) (
Bin .num .gtr w22 w32 fun v38 =>
Br v38 (
R (.returned w22) H35) (
DR H35 fun R39 =>
IAddr 1 a0 w32 fun v40 =>
Ld R39 v40 fun v41 =>
IAddr 1 a0 w22 fun v42 =>
Ld R39 v42 fun v43 =>
IAddr 1 a0 w22 fun v44 =>
St 1 H35 v44 v41 fun H45 =>
IAddr 1 a0 w32 fun v46 =>
St 1 H45 v46 v43 fun H47 =>
Bin .num .add w22 (Value.int .i64 1) fun v48 =>
Bin .num .sub w32 (Value.int .i64 1) fun v49 =>
Back I12 m13 [v48, v49] H47 [w16, w17] H15))) → J33 [w36] H35) →
DR H31 fun R50 =>
Bin .num .leq w22 w32 fun v51 =>
Br v51 (
IAddr 1 a0 a1 fun v52 =>
Ld R50 v52 fun v53 =>
IAddr 1 a0 w32 fun v54 =>
Ld R50 v54 fun v55 =>
∀ F56 : Hp,
CF (g.add F56) 230 #[v53, v55] H31 (fun v57 H58 =>
Pick (Value.bool true) v57 (Value.bool false) fun v59 =>
JE J33 [v59] H58) NoKP) (
JE J33 [(Value.bool false)] H31))) → J23 [w26] H25) →
DR H21 fun R60 =>
Bin .num .leq w22 w17 fun v61 =>
Br v61 (
IAddr 1 a0 a1 fun v62 =>
Ld R60 v62 fun v63 =>
IAddr 1 a0 w22 fun v64 =>
Ld R60 v64 fun v65 =>
∀ F66 : Hp,
CF (g.add F66) 230 #[v63, v65] H21 (fun v67 H68 =>
Un .not v67 fun v69 =>
Pick (Value.bool true) v69 (Value.bool false) fun v70 =>
JE J23 [v70] H68) NoKP) (
JE J23 [(Value.bool false)] H21)
theorem L231_sound (h : L231 g a0 a1 a2 a3 H R) : SCalls Tryz.prog g 231 #[a0, a1, a2, a3] H R :=
 soundF (hn := (.n .e (.n (.h 0 (List.range 16) [] .e .e) (.n .e (.n (.n (.h 0 [9, 10] [0, 1] (.n (.n (.n (.h 0 [9] [0, 1, 10] (.n (.h 1 [43] [0, 1, 9, 10] (.h 1 [] [] (.h 0 [0] [] (.h 0 [1] [] (.h 0 [2] [] (.h 2 [3] [] (.h 0 [4] [] (.h 0 [5] [] (.h 0 [6] [] (.h 0 [7] [] (.h 0 [8] [] (.h 0 [9] [] (.h 0 [10] [] (.h 0 [11] [] (.h 0 [12] [] (.h 0 [13] [] (.h 0 [14] [] .e .e) .e) .e) .e) .e) .e) .e) .e) .e) .e) .e) (.h 0 [4] [] (.h 0 [5] [] (.h 0 [6] [] (.h 0 [7] [] (.h 0 [8] [] (.h 0 [9] [] (.h 0 [10] [] (.h 0 [11] [] (.h 0 [12] [] (.h 0 [13] [] (.h 3 [14] [] .e .e) .e) .e) .e) .e) .e) .e) .e) .e) .e) .e)) .e) .e) .e) .e) .e) .e) .e) .e) (.n (.n (.h 0 [10] [0, 1, 9] (.n (.h 1 [59] [0, 1, 9, 10] (.h 1 [] [] (.h 0 [0] [] (.h 0 [1] [] (.h 0 [2] [] (.h 2 [3] [] (.h 0 [4] [] (.h 0 [5] [] (.h 0 [6] [] (.h 0 [7] [] (.h 0 [8] [] (.h 0 [9] [] (.h 0 [10] [] (.h 0 [11] [] (.h 0 [12] [] (.h 0 [13] [] .e .e) .e) .e) .e) .e) .e) .e) .e) .e) .e) (.h 0 [4] [] (.h 0 [5] [] (.h 0 [6] [] (.h 0 [7] [] (.h 0 [8] [] (.h 0 [9] [] (.h 0 [10] [] (.h 0 [11] [] (.h 0 [12] [] (.h 3 [13] [] .e .e) .e) .e) .e) .e) .e) .e) .e) .e) .e)) .e) .e) .e) .e) .e) .e) .e) .e) (.n .e (.n (.h 0 (List.range 16) [] .e .e) .e)))) .e) .e) .e) .e))))) Tryz.func231 h (by kernel_rfl)
def L232 (g : Gh) (a0 a1 a2 a3 : Value) (H : Hp) (R : Rt) : Prop :=
DR H fun R1 =>
IAddr 1 a0 a3 fun v2 =>
Ld R1 v2 fun v3 =>
IAddr 1 a0 a1 fun v4 =>
Ld R1 v4 fun v5 =>
IAddr 1 a0 a1 fun v6 =>
St 1 H v6 v3 fun H7 =>
IAddr 1 a0 a3 fun v8 =>
St 1 H7 v8 v5 fun H9 =>
Bin .num .add a1 (Value.int .i64 1) fun v10 =>
Bin .num .sub a2 (Value.int .i64 1) fun v11 =>
∃ (I12 : Jt) (m13 : Mt), JE I12 [v10] H9 ∧ ∀ w16 : Value, ∀ H15 : Hp, I12 [w16] H15 → ∀ gs14 : Fr,
∀ J17 : Jt, (∀ w20 : Value, ∀ H19 : Hp, (∀ gs18 : Fr,
Br w20 (
Bin .num .add w16 (Value.int .i64 1) fun v21 =>
Back I12 m13 [v21] H19 [w16] H15) (
∃ (I22 : Jt) (m23 : Mt), JE I22 [v11] H19 ∧ ∀ w26 : Value, ∀ H25 : Hp, I22 [w26] H25 → ∀ gs24 : Fr,
∀ J27 : Jt, (∀ w30 : Value, ∀ H29 : Hp, (∀ gs28 : Fr,
Br w30 (
Bin .num .sub w26 (Value.int .i64 1) fun v31 =>
Back I22 m23 [v31] H29 [w26] H25) (
Bin .num .gtr w16 w26 fun v32 =>
Br v32 (
DR H29 fun R33 =>
IAddr 1 a0 a1 fun v34 =>
Ld R33 v34 fun v35 =>
IAddr 1 a0 w26 fun v36 =>
Ld R33 v36 fun v37 =>
IAddr 1 a0 w26 fun v38 =>
St 1 H29 v38 v35 fun H39 =>
IAddr 1 a0 a1 fun v40 =>
St 1 H39 v40 v37 fun H41 =>
R (.returned (.tuple #[w26, (Value.bool true)])) H41) (
DR H29 fun R42 =>
IAddr 1 a0 w26 fun v43 =>
Ld R42 v43 fun v44 =>
IAddr 1 a0 w16 fun v45 =>
Ld R42 v45 fun v46 =>
IAddr 1 a0 w16 fun v47 =>
St 1 H29 v47 v44 fun H48 =>
IAddr 1 a0 w26 fun v49 =>
St 1 H48 v49 v46 fun H50 =>
Bin .num .add w16 (Value.int .i64 1) fun v51 =>
Bin .num .sub w26 (Value.int .i64 1) fun v52 =>
∃ (I53 : Jt) (m54 : Mt), JE I53 [v51, v52] H50 ∧ ∀ w57 w58 : Value, ∀ H56 : Hp, I53 [w57, w58] H56 → ∀ gs55 : Fr,
∃ (I59 : Jt) (m60 : Mt), JE I59 [w57] H56 ∧ ∀ w63 : Value, ∀ H62 : Hp, I59 [w63] H62 → ∀ gs61 : Fr,
∀ J64 : Jt, (∀ w67 : Value, ∀ H66 : Hp, (∀ gs65 : Fr,
Br w67 (
Bin .num .add w63 (Value.int .i64 1) fun v68 =>
Back I59 m60 [v68] H66 [w63] H62) (
∃ (I69 : Jt) (m70 : Mt), JE I69 [w58] H66 ∧ ∀ w73 : Value, ∀ H72 : Hp, I69 [w73] H72 → ∀ gs71 : Fr,
∀ J74 : Jt, (∀ w77 : Value, ∀ H76 : Hp, (∀ gs75 : Fr,
Br w77 (
Bin .num .sub w73 (Value.int .i64 1) fun v78 =>
Back I69 m70 [v78] H76 [w73] H72) (
Bin .num .gtr w63 w73 fun v79 =>
Br v79 (
DR H76 fun R80 =>
IAddr 1 a0 a1 fun v81 =>
Ld R80 v81 fun v82 =>
IAddr 1 a0 w73 fun v83 =>
Ld R80 v83 fun v84 =>
IAddr 1 a0 w73 fun v85 =>
St 1 H76 v85 v82 fun H86 =>
IAddr 1 a0 a1 fun v87 =>
St 1 H86 v87 v84 fun H88 =>
R (.returned (.tuple #[w73, (Value.bool false)])) H88) (
DR H76 fun R89 =>
IAddr 1 a0 w73 fun v90 =>
Ld R89 v90 fun v91 =>
IAddr 1 a0 w63 fun v92 =>
Ld R89 v92 fun v93 =>
IAddr 1 a0 w63 fun v94 =>
St 1 H76 v94 v91 fun H95 =>
IAddr 1 a0 w73 fun v96 =>
St 1 H95 v96 v93 fun H97 =>
Bin .num .add w63 (Value.int .i64 1) fun v98 =>
Bin .num .sub w73 (Value.int .i64 1) fun v99 =>
Back I53 m54 [v98, v99] H97 [w57, w58] H56))) → J74 [w77] H76) →
DR H72 fun R100 =>
Bin .num .leq w63 w73 fun v101 =>
Br v101 (
IAddr 1 a0 w73 fun v102 =>
Ld R100 v102 fun v103 =>
IAddr 1 a0 a1 fun v104 =>
Ld R100 v104 fun v105 =>
∀ F106 : Hp,
CF (g.add F106) 230 #[v103, v105] H72 (fun v107 H108 =>
Un .not v107 fun v109 =>
Pick (Value.bool true) v109 (Value.bool false) fun v110 =>
JE J74 [v110] H108) NoKP) (
JE J74 [(Value.bool false)] H72))) → J64 [w67] H66) →
DR H62 fun R111 =>
Bin .num .leq w63 w58 fun v112 =>
Br v112 (
IAddr 1 a0 w63 fun v113 =>
Ld R111 v113 fun v114 =>
IAddr 1 a0 a1 fun v115 =>
Ld R111 v115 fun v116 =>
∀ F117 : Hp,
CF (g.add F117) 230 #[v114, v116] H62 (fun v118 H119 =>
Pick (Value.bool true) v118 (Value.bool false) fun v120 =>
JE J64 [v120] H119) NoKP) (
JE J64 [(Value.bool false)] H62)))) → J27 [w30] H29) →
DR H25 fun R121 =>
Bin .num .leq w16 w26 fun v122 =>
Br v122 (
IAddr 1 a0 w26 fun v123 =>
Ld R121 v123 fun v124 =>
IAddr 1 a0 a1 fun v125 =>
Ld R121 v125 fun v126 =>
∀ F127 : Hp,
CF (g.add F127) 230 #[v124, v126] H25 (fun v128 H129 =>
Un .not v128 fun v130 =>
Pick (Value.bool true) v130 (Value.bool false) fun v131 =>
JE J27 [v131] H129) NoKP) (
JE J27 [(Value.bool false)] H25))) → J17 [w20] H19) →
DR H15 fun R132 =>
Bin .num .leq w16 v11 fun v133 =>
Br v133 (
IAddr 1 a0 w16 fun v134 =>
Ld R132 v134 fun v135 =>
IAddr 1 a0 a1 fun v136 =>
Ld R132 v136 fun v137 =>
∀ F138 : Hp,
CF (g.add F138) 230 #[v135, v137] H15 (fun v139 H140 =>
Pick (Value.bool true) v139 (Value.bool false) fun v141 =>
JE J17 [v141] H140) NoKP) (
JE J17 [(Value.bool false)] H15)
theorem L232_sound (h : L232 g a0 a1 a2 a3 H R) : SCalls Tryz.prog g 232 #[a0, a1, a2, a3] H R :=
 soundF (hn := (.n .e (.n (.h 0 (List.range 16) [] .e .e) (.n .e (.n (.n (.h 0 [10] [0, 1, 11] (.n (.h 1 [43] [0, 1, 10, 11] (.h 1 [] [] (.h 0 [0] [] (.h 0 [1] [] (.h 0 [2] [] (.h 2 [3] [] (.h 0 [4] [] (.h 0 [5] [] (.h 0 [6] [] (.h 0 [7] [] (.h 0 [8] [] (.h 0 [9] [] (.h 0 [10] [] (.h 0 [11] [] (.h 0 [12] [] (.h 0 [13] [] .e .e) .e) .e) .e) .e) .e) .e) .e) .e) .e) (.h 0 [4] [] (.h 0 [5] [] (.h 0 [6] [] (.h 0 [7] [] (.h 0 [8] [] (.h 0 [9] [] (.h 0 [10] [] (.h 0 [11] [] (.h 0 [12] [] (.h 3 [13] [] .e .e) .e) .e) .e) .e) .e) .e) .e) .e) .e)) .e) .e) .e) .e) .e) .e) .e) .e) (.n (.n (.h 0 [11] [0, 1, 10] (.n (.h 1 [60] [0, 1, 10, 11] (.h 1 [] [] (.h 0 [0] [] (.h 0 [1] [] (.h 0 [2] [] (.h 2 [3] [] (.h 0 [4] [] (.h 0 [5] [] (.h 0 [6] [] (.h 0 [7] [] (.h 0 [8] [] (.h 0 [9] [] (.h 0 [10] [] (.h 0 [11] [] (.h 0 [12] [] (.h 0 [13] [] (.h 0 [14] [] .e .e) .e) .e) .e) .e) .e) .e) .e) .e) .e) .e) (.h 0 [4] [] (.h 0 [5] [] (.h 0 [6] [] (.h 0 [7] [] (.h 0 [8] [] (.h 0 [9] [] (.h 0 [10] [] (.h 0 [11] [] (.h 0 [12] [] (.h 0 [13] [] (.h 3 [14] [] .e .e) .e) .e) .e) .e) .e) .e) .e) .e) .e) .e)) .e) .e) .e) .e) .e) .e) .e) .e) (.n (.n .e (.n (.n (.h 0 (List.range 16) [] .e .e) .e) .e)) (.n (.h 0 (List.range 16) [] .e .e) (.n .e (.n .e (.n (.n (.h 0 [10, 11] [0, 1] (.n (.n (.n (.h 0 [10] [0, 1, 11] (.n (.h 1 [112] [0, 1, 10, 11] (.h 1 [] [] (.h 0 [0] [] (.h 0 [1] [] (.h 0 [2] [] (.h 2 [3] [] (.h 0 [4] [] (.h 0 [5] [] (.h 0 [6] [] (.h 0 [7] [] (.h 0 [8] [] (.h 0 [9] [] (.h 0 [10] [] (.h 0 [11] [] (.h 0 [12] [] (.h 0 [13] [] .e .e) .e) .e) .e) .e) .e) .e) .e) .e) .e) (.h 0 [4] [] (.h 0 [5] [] (.h 0 [6] [] (.h 0 [7] [] (.h 0 [8] [] (.h 0 [9] [] (.h 0 [10] [] (.h 0 [11] [] (.h 0 [12] [] (.h 3 [13] [] .e .e) .e) .e) .e) .e) .e) .e) .e) .e) .e)) .e) .e) .e) .e) .e) .e) .e) .e) (.n (.n (.h 0 [11] [0, 1, 10] (.n (.h 1 [129] [0, 1, 10, 11] (.h 1 [] [] (.h 0 [0] [] (.h 0 [1] [] (.h 0 [2] [] (.h 2 [3] [] (.h 0 [4] [] (.h 0 [5] [] (.h 0 [6] [] (.h 0 [7] [] (.h 0 [8] [] (.h 0 [9] [] (.h 0 [10] [] (.h 0 [11] [] (.h 0 [12] [] (.h 0 [13] [] (.h 0 [14] [] .e .e) .e) .e) .e) .e) .e) .e) .e) .e) .e) .e) (.h 0 [4] [] (.h 0 [5] [] (.h 0 [6] [] (.h 0 [7] [] (.h 0 [8] [] (.h 0 [9] [] (.h 0 [10] [] (.h 0 [11] [] (.h 0 [12] [] (.h 0 [13] [] (.h 3 [14] [] .e .e) .e) .e) .e) .e) .e) .e) .e) .e) .e) .e)) .e) .e) .e) .e) .e) .e) .e) .e) (.n .e (.n (.h 0 (List.range 16) [] .e .e) .e)))) .e) .e) .e) (.n (.h 0 (List.range 16) [] .e .e) .e)))))))))))) Tryz.func232 h (by kernel_rfl)
def L234 (g : Gh) (a0 : Value) (H : Hp) (R : Rt) : Prop :=
∀ J1 : Jt, (∀ w4 w5 : Value, ∀ H3 : Hp, (∀ gs2 : Fr,
∀ J6 : Jt, (∀ w9 w10 : Value, ∀ H8 : Hp, (∀ gs7 : Fr,
∀ J11 : Jt, (∀ w14 w15 : Value, ∀ H13 : Hp, (∀ gs12 : Fr,
ConvI .u8 w14 fun v16 =>
StrIx (.string (ByteArray.mk #[0, 1, 2, 2, 3, 3, 3, 3, 4, 4, 4, 4, 4, 4, 4, 4, 5, 5, 5, 5, 5, 5, 5, 5, 5, 5, 5, 5, 5, 5, 5, 5, 6, 6, 6, 6, 6, 6, 6, 6, 6, 6, 6, 6, 6, 6, 6, 6, 6, 6, 6, 6, 6, 6, 6, 6, 6, 6, 6, 6, 6, 6, 6, 6, 7, 7, 7, 7, 7, 7, 7, 7, 7, 7, 7, 7, 7, 7, 7, 7, 7, 7, 7, 7, 7, 7, 7, 7, 7, 7, 7, 7, 7, 7, 7, 7, 7, 7, 7, 7, 7, 7, 7, 7, 7, 7, 7, 7, 7, 7, 7, 7, 7, 7, 7, 7, 7, 7, 7, 7, 7, 7, 7, 7, 7, 7, 7, 7, 8, 8, 8, 8, 8, 8, 8, 8, 8, 8, 8, 8, 8, 8, 8, 8, 8, 8, 8, 8, 8, 8, 8, 8, 8, 8, 8, 8, 8, 8, 8, 8, 8, 8, 8, 8, 8, 8, 8, 8, 8, 8, 8, 8, 8, 8, 8, 8, 8, 8, 8, 8, 8, 8, 8, 8, 8, 8, 8, 8, 8, 8, 8, 8, 8, 8, 8, 8, 8, 8, 8, 8, 8, 8, 8, 8, 8, 8, 8, 8, 8, 8, 8, 8, 8, 8, 8, 8, 8, 8, 8, 8, 8, 8, 8, 8, 8, 8, 8, 8, 8, 8, 8, 8, 8, 8, 8, 8, 8, 8, 8, 8, 8, 8, 8, 8, 8, 8, 8, 8, 8, 8, 8, 8, 8, 8, 8, 8])) v16 fun v17 =>
ConvI .i64 v17 fun v18 =>
Bin .num .add w15 v18 fun v19 =>
R (.returned v19) H13) → J11 [w14, w15] H13) →
Bin .num .geq w9 (Value.int .u64 256) fun v20 =>
Br v20 (
Bin .num .shr w9 (Value.int .u64 8) fun v21 =>
Bin .num .add w10 (Value.int .i64 8) fun v22 =>
JE J11 [v21, v22] H8) (
JE J11 [w9, w10] H8)) → J6 [w9, w10] H8) →
Bin .num .geq w4 (Value.int .u64 65536) fun v23 =>
Br v23 (
Bin .num .shr w4 (Value.int .u64 16) fun v24 =>
Bin .num .add w5 (Value.int .i64 16) fun v25 =>
JE J6 [v24, v25] H3) (
JE J6 [w4, w5] H3)) → J1 [w4, w5] H3) →
Bin .num .geq a0 (Value.int .u64 4294967296) fun v26 =>
Br v26 (
Bin .num .shr a0 (Value.int .u64 32) fun v27 =>
JE J1 [v27, (Value.int .i64 32)] H) (
JE J1 [a0, (Value.int .i64 0)] H)
theorem L234_sound (h : L234 g a0 H R) : SCalls Tryz.prog g 234 #[a0] H R :=
 soundF (hn := (.n .e (.h 1 [0, 2] [] .e (.h 1 [0, 2] [] .e (.h 1 [0, 2] [] .e .e))))) Tryz.func234 h (by kernel_rfl)
def L235 (g : Gh) (a0 a1 a2 a3 : Value) (H : Hp) (R : Rt) : Prop :=
∃ (I1 : Jt) (m2 : Mt), JE I1 [a1] H ∧ ∀ w5 : Value, ∀ H4 : Hp, I1 [w5] H4 → ∀ gs3 : Fr,
Bin .num .mul (Value.int .i64 2) w5 fun v6 =>
Bin .num .add v6 (Value.int .i64 1) fun v7 =>
Bin .num .geq v7 a2 fun v8 =>
Br v8 (
R (.returned (.tuple #[])) H4) (
∀ J9 : Jt, (∀ w12 : Value, ∀ H11 : Hp, (∀ gs10 : Fr,
DR H11 fun R13 =>
Bin .num .add a3 w5 fun v14 =>
IAddr 1 a0 v14 fun v15 =>
Ld R13 v15 fun v16 =>
Bin .num .add a3 w12 fun v17 =>
IAddr 1 a0 v17 fun v18 =>
Ld R13 v18 fun v19 =>
CF g 230 #[v16, v19] H11 (fun v20 H21 =>
Un .not v20 fun v22 =>
Br v22 (
R (.returned (.tuple #[])) H21) (
DR H21 fun R23 =>
Bin .num .add a3 w5 fun v24 =>
Bin .num .add a3 w12 fun v25 =>
Bin .num .add a3 w12 fun v26 =>
IAddr 1 a0 v26 fun v27 =>
Ld R23 v27 fun v28 =>
Bin .num .add a3 w5 fun v29 =>
IAddr 1 a0 v29 fun v30 =>
Ld R23 v30 fun v31 =>
IAddr 1 a0 v24 fun v32 =>
St 1 H21 v32 v28 fun H33 =>
IAddr 1 a0 v25 fun v34 =>
St 1 H33 v34 v31 fun H35 =>
Back I1 m2 [w12] H35 [w5] H4)) NoKP) → J9 [w12] H11) →
∀ J36 : Jt, (∀ w39 : Value, ∀ H38 : Hp, (∀ gs37 : Fr,
Br w39 (
Bin .num .add v7 (Value.int .i64 1) fun v40 =>
JE J9 [v40] H38) (
JE J9 [v7] H38)) → J36 [w39] H38) →
DR H4 fun R41 =>
Bin .num .add v7 (Value.int .i64 1) fun v42 =>
Bin .num .lss v42 a2 fun v43 =>
Br v43 (
Bin .num .add a3 v7 fun v44 =>
IAddr 1 a0 v44 fun v45 =>
Ld R41 v45 fun v46 =>
Bin .num .add a3 v7 fun v47 =>
Bin .num .add v47 (Value.int .i64 1) fun v48 =>
IAddr 1 a0 v48 fun v49 =>
Ld R41 v49 fun v50 =>
∀ F51 : Hp,
CF (g.add F51) 230 #[v46, v50] H4 (fun v52 H53 =>
Pick (Value.bool true) v52 (Value.bool false) fun v54 =>
JE J36 [v54] H53) NoKP) (
JE J36 [(Value.bool false)] H4))
theorem L235_sound (h : L235 g a0 a1 a2 a3 H R) : SCalls Tryz.prog g 235 #[a0, a1, a2, a3] H R :=
 soundF (hn := (.n .e (.n (.h 0 [8] [0, 2, 3] (.n (.n .e (.n .e (.h 1 [9] [0, 2, 3, 8] (.h 1 [36] [0, 2, 3, 8, 9] (.h 1 [] [] (.h 0 [0] [] (.h 0 [1] [] (.h 0 [2] [] (.h 0 [3] [] (.h 2 [4] [] (.h 0 [5] [] (.h 0 [6] [] (.h 0 [7] [] (.h 0 [8] [] (.h 0 [9] [] (.h 0 [10] [] (.h 0 [11] [] (.h 0 [12] [] (.h 0 [13] [] (.h 0 [14] [] (.h 0 [15] [] (.h 0 [16] [] (.h 0 [17] [] (.h 0 [18] [] (.h 0 [19] [] .e .e) .e) .e) .e) .e) .e) .e) .e) .e) .e) .e) .e) .e) .e) .e) (.h 0 [5] [] (.h 0 [6] [] (.h 0 [7] [] (.h 0 [8] [] (.h 0 [9] [] (.h 0 [10] [] (.h 0 [11] [] (.h 0 [12] [] (.h 0 [13] [] (.h 0 [14] [] (.h 0 [15] [] (.h 0 [16] [] (.h 0 [17] [] (.h 0 [18] [] (.h 3 [19] [] .e .e) .e) .e) .e) .e) .e) .e) .e) .e) .e) .e) .e) .e) .e) .e)) .e) .e) .e) .e) .e) .e) (.n (.n (.h 0 (List.range 14) [] .e .e) .e) (.n (.h 0 (List.range 24) [] .e .e) .e))))) .e) .e) .e))) Tryz.func235 h (by kernel_rfl)
def L236 (g : Gh) (a0 : Value) (H : Hp) (R : Rt) : Prop :=
ConvI .u64 a0 fun v1 =>
CF g 221 #[v1] H (fun v2 H3 =>
Bin .num .shl (Value.int .u64 1) v2 fun v4 =>
R (.returned v4) H3) (PanR R)
theorem L236_sound (h : L236 g a0 H R) : SCalls Tryz.prog g 236 #[a0] H R :=
 soundF (hn := .e) Tryz.func236 h (by kernel_rfl)
def L237 (g : Gh) (a0 : Value) (H : Hp) (R : Rt) : Prop :=
DR H fun R1 =>
Nil a0 fun v2 =>
Ld R1 v2 fun v3 =>
Nil a0 fun v4 =>
Ld R1 v4 fun v5 =>
Bin .num .shl v5 (Value.int .u64 13) fun v6 =>
Bin .num .xor v3 v6 fun v7 =>
Nil a0 fun v8 =>
St 1 H v8 v7 fun H9 =>
DR H9 fun R10 =>
Nil a0 fun v11 =>
Ld R10 v11 fun v12 =>
Nil a0 fun v13 =>
Ld R10 v13 fun v14 =>
Bin .num .shr v14 (Value.int .u64 7) fun v15 =>
Bin .num .xor v12 v15 fun v16 =>
Nil a0 fun v17 =>
St 1 H9 v17 v16 fun H18 =>
DR H18 fun R19 =>
Nil a0 fun v20 =>
Ld R19 v20 fun v21 =>
Nil a0 fun v22 =>
Ld R19 v22 fun v23 =>
Bin .num .shl v23 (Value.int .u64 17) fun v24 =>
Bin .num .xor v21 v24 fun v25 =>
Nil a0 fun v26 =>
St 1 H18 v26 v25 fun H27 =>
Nil a0 fun v28 =>
Ld H27 v28 fun v29 =>
R (.returned v29) H27
theorem L237_sound (h : L237 g a0 H R) : SCalls Tryz.prog g 237 #[a0] H R :=
 soundF (hn := (.n .e (.n (.h 0 (List.range 10) [] .e .e) (.n (.h 0 (List.range 10) [] .e .e) (.n (.h 0 (List.range 10) [] .e .e) .e))))) Tryz.func237 h (by kernel_rfl)
def L238 (g : Gh) (a0 a1 a2 : Value) (H : Hp) (R : Rt) : Prop :=
Bin .num .sub a1 (Value.int .i64 1) fun v1 =>
Bin .num .add a1 (Value.int .i64 1) fun v2 =>
CF g 239 #[a0, v1, a1, v2, a2] H (fun v3 H4 =>
R (.returned v3) H4) (PanR R)
theorem L238_sound (h : L238 g a0 a1 a2 H R) : SCalls Tryz.prog g 238 #[a0, a1, a2] H R :=
 soundF (hn := .e) Tryz.func238 h (by kernel_rfl)
def L239 (g : Gh) (a0 a1 a2 a3 a4 : Value) (H : Hp) (R : Rt) : Prop :=
CF g 241 #[a0, a1, a2, a4] H (fun v1 H2 =>
Ext 0 v1 fun v3 =>
Ext 1 v1 fun v4 =>
CF g 241 #[a0, v4, a3, a4] H2 (fun v5 H6 =>
Ext 0 v5 fun v7 =>
Ext 1 v5 fun v8 =>
CF g 241 #[a0, v3, v7, a4] H6 (fun v9 H10 =>
Ext 0 v9 fun v11 =>
Ext 1 v9 fun v12 =>
R (.returned v12) H10) (PanR R)) (PanR R)) (PanR R)
theorem L239_sound (h : L239 g a0 a1 a2 a3 a4 H R) : SCalls Tryz.prog g 239 #[a0, a1, a2, a3, a4] H R :=
 soundF (hn := .e) Tryz.func239 h (by kernel_rfl)
def L240 (g : Gh) (a0 : Value) (H : Hp) (R : Rt) : Prop :=
Bin .num .neq a0 a0 fun v1 =>
R (.returned v1) H
theorem L240_sound (h : L240 g a0 H R) : SCalls Tryz.prog g 240 #[a0] H R :=
 soundF (hn := .e) Tryz.func240 h (by kernel_rfl)
def L241 (g : Gh) (a0 a1 a2 a3 : Value) (H : Hp) (R : Rt) : Prop :=
DR H fun R1 =>
IAddr 1 a0 a2 fun v2 =>
Ld R1 v2 fun v3 =>
IAddr 1 a0 a1 fun v4 =>
Ld R1 v4 fun v5 =>
CF g 230 #[v3, v5] H (fun v6 H7 =>
Br v6 (
Nil a3 fun v8 =>
Ld H7 v8 fun v9 =>
Bin .num .add v9 (Value.int .i64 1) fun v10 =>
Nil a3 fun v11 =>
St 1 H7 v11 v10 fun H12 =>
R (.returned (.tuple #[a2, a1])) H12) (
R (.returned (.tuple #[a1, a2])) H7)) NoKP
theorem L241_sound (h : L241 g a0 a1 a2 a3 H R) : SCalls Tryz.prog g 241 #[a0, a1, a2, a3] H R :=
 soundF (hn := (.n .e (.n (.n (.h 0 (List.range 9) [] .e .e) .e) .e))) Tryz.func241 h (by kernel_rfl)
end Go.Proofs
