import Derived.Test.YtilnmikgcbcmcaaGreatF1
import Derived.ProofKit
import Derived.OpenShut
import Derived.Below
import Derived.ChangeKeysEq
import Derived.Laws.StructEq
import Derived.Defers
import Derived.Test.YtilnmikgcbcmcaaGreatProg
set_option linter.unusedVariables false
set_option linter.unusedSimpArgs false
set_option linter.unusedSectionVars false
namespace Tab
open Go.Sx
def wN (n : Nat) : Nat := max 1 (2 ^ n / 64)
def fullN (n : Nat) : Nat := if 6 ≤ n then 18446744073709551615 else 2 ^ 2 ^ n - 1
structure Frm (n : Nat) (ws : List Nat) : Prop where
  n16 : n ≤ 16
  len : ws.length = wN n
  full : ∀ w ∈ ws, w ≤ fullN n
instance (n : Nat) (ws : List Nat) : Decidable (Frm n ws) := decidable_of_iff (n ≤ 16 ∧ ws.length = wN n ∧ ∀ w ∈ ws, w ≤ fullN n) ⟨fun ⟨a, b, c⟩ => ⟨a, b, c⟩, fun ⟨a, b, c⟩ => ⟨a, b, c⟩⟩
def bit (ws : List Nat) (x : Nat) : Bool := (ws.getD (x / 64) 0).testBit (x % 64)
def setb (x v : Nat) (b : Bool) : Nat := if b then x ||| 2 ^ v else andn x (2 ^ v)
theorem wN_pos (n : Nat) : 0 < wN n := Nat.le_max_left _ _
theorem wN_ge {n : Nat} (h : 6 ≤ n) : wN n = 2 ^ (n - 6) := by
  unfold wN
  have : 2 ^ n / 64 = 2 ^ (n - 6) := by
    rw [show (64 : Nat) = 2 ^ 6 by rfl, Nat.pow_div h (by decide)]
  rw [this]; exact Nat.max_eq_right (Nat.two_pow_pos _)
theorem wN_lt {n : Nat} (h : n < 7) : wN n = 1 := by
  have : n = 0 ∨ n = 1 ∨ n = 2 ∨ n = 3 ∨ n = 4 ∨ n = 5 ∨ n = 6 := by omega
  rcases this with rfl | rfl | rfl | rfl | rfl | rfl | rfl <;> rfl
theorem wN_le {n : Nat} (h : n ≤ 16) : wN n ≤ 1024 := by
  by_cases h6 : 6 ≤ n
  · rw [wN_ge h6]; exact Nat.pow_le_pow_right (by decide) (by omega : n - 6 ≤ 10)
  · rw [wN_lt (by omega)]; decide
theorem fullN_lt (n : Nat) : fullN n < 18446744073709551616 := by
  unfold fullN
  split
  · decide
  · have h1 : 2 ^ n ≤ 32 := Nat.pow_le_pow_right (n := 2) (by decide) (by omega : n ≤ 5)
    have h2 : 2 ^ 2 ^ n ≤ 2 ^ 32 := Nat.pow_le_pow_right (by decide) h1
    omega
theorem Frm.lt {n : Nat} {ws : List Nat} (h : Frm n ws) {w : Nat} (hw : w ∈ ws) : w < 18446744073709551616 := Nat.lt_of_le_of_lt (h.full w hw) (fullN_lt n)
theorem and_full {n w : Nat} (h : w ≤ fullN n) : w &&& fullN n = w := by
  unfold fullN at *
  split at h
  · rename_i h6
    rw [if_pos h6, show (18446744073709551615 : Nat) = 2 ^ 64 - 1 by rfl, Nat.and_two_pow_sub_one_eq_mod, Nat.mod_eq_of_lt (by omega)]
  · rename_i h6
    rw [if_neg h6, Nat.and_two_pow_sub_one_eq_mod, Nat.mod_eq_of_lt]
    have := Nat.two_pow_pos (2 ^ n); omega
theorem testBit_full (n j : Nat) : (fullN n).testBit j = decide (j < if 6 ≤ n then 64 else 2 ^ n) := by
  unfold fullN
  split
  · rw [show (18446744073709551615 : Nat) = 2 ^ 64 - 1 by rfl, Nat.testBit_two_pow_sub_one]
  · rw [Nat.testBit_two_pow_sub_one]
theorem lt_words {n x : Nat} (h : x < 2 ^ n) : x / 64 < wN n := by
  by_cases h6 : 6 ≤ n
  · rw [wN_ge h6]
    refine Nat.div_lt_of_lt_mul ?_
    rw [show (64 : Nat) = 2 ^ 6 by rfl, ← Nat.pow_add]
    rwa [show 6 + (n - 6) = n by omega]
  · have h1 : 2 ^ n ≤ 32 := Nat.pow_le_pow_right (n := 2) (by decide) (by omega : n ≤ 5)
    rw [wN_lt (by omega)]; omega
theorem Frm.ext {n : Nat} {a b : List Nat} (ha : Frm n a) (hb : Frm n b) (h : ∀ x, x < 2 ^ n → bit a x = bit b x) : a = b := by
  apply List.ext_getElem (by rw [ha.len, hb.len])
  intro i h1 h2
  apply Nat.eq_of_testBit_eq
  intro j
  have hfa := and_full (ha.full _ (List.getElem_mem h1))
  have hfb := and_full (hb.full _ (List.getElem_mem h2))
  by_cases hj : j < (if 6 ≤ n then 64 else 2 ^ n)
  · have hj64 : j < 64 := by
      split at hj
      · exact hj
      · have h1 : 2 ^ n ≤ 32 := Nat.pow_le_pow_right (n := 2) (by decide) (by omega : n ≤ 5)
        omega
    have hx : 64 * i + j < 2 ^ n := by
      by_cases h6 : 6 ≤ n
      · have hi : i < 2 ^ (n - 6) := by rw [← wN_ge h6, ← ha.len]; exact h1
        have : 2 ^ n = 64 * 2 ^ (n - 6) := by rw [show (64 : Nat) = 2 ^ 6 by rfl, ← Nat.pow_add]; congr 1; omega
        omega
      · have hi : i < 1 := by rw [← wN_lt (show n < 7 by omega), ← ha.len]; exact h1
        rw [if_neg h6] at hj; omega
    have := h _ hx
    unfold bit at this
    rw [show (64 * i + j) / 64 = i by omega, show (64 * i + j) % 64 = j by omega] at this
    simpa [h1, h2] using this
  · have hd : (fullN n).testBit j = false := by rw [testBit_full]; simpa using hj
    rw [← hfa, ← hfb, Nat.testBit_and, Nat.testBit_and, hd]; simp
def colP (v : Nat) : Nat → Nat
  | 0 => 0
  | j + 1 => colP v j ||| (((j >>> v) &&& 1) <<< j)
def mask (v : Nat) : Nat := colP v 64
theorem and_one_eq (m : Nat) : m &&& 1 = if m.testBit 0 then 1 else 0 := by
  rw [Nat.and_one_is_mod, Nat.testBit_zero]
  rcases Nat.mod_two_eq_zero_or_one m with h | h <;> simp [h]
theorem testBit_colP (v : Nat) : ∀ J k, (colP v J).testBit k = (decide (k < J) && k.testBit v)
  | 0, k => by simp [colP]
  | J + 1, k => by
    rw [colP, Nat.testBit_or, testBit_colP v J k, and_one_eq, Nat.testBit_shiftRight, Nat.add_zero]
    by_cases e : k = J
    · subst e
      cases hb : k.testBit v <;> simp [Nat.testBit_shiftLeft]
    · have : ((if (J.testBit v) = true then 1 else 0) <<< J).testBit k = false := by
        rw [Nat.testBit_shiftLeft]
        split
        · by_cases hk : J ≤ k
          · have h1 : Nat.testBit 1 (k - J) = false := Nat.testBit_lt_two_pow (Nat.one_lt_two_pow (by omega))
            simp [hk, h1]
          · simp [hk]
        · simp
      rw [this]
      have : (decide (k < J + 1)) = decide (k < J) := by simp; omega
      rw [this]; simp
theorem colP_lt (v : Nat) : ∀ J, colP v J < 2 ^ J
  | 0 => by simp [colP]
  | J + 1 => by
    have h1 := colP_lt v J
    have h2 : ((J >>> v) &&& 1) <<< J < 2 ^ (J + 1) := by
      rw [and_one_eq, Nat.shiftLeft_eq]
      split
      · rw [Nat.one_mul]; exact Nat.pow_lt_pow_right (by decide) (by omega)
      · rw [Nat.zero_mul]; exact Nat.two_pow_pos _
    exact Nat.or_lt_two_pow (Nat.lt_of_lt_of_le h1 (Nat.pow_le_pow_right (by decide) (by omega))) h2
theorem testBit_mask (v k : Nat) : (mask v).testBit k = (decide (k < 64) && k.testBit v) := testBit_colP v 64 k
theorem mask_lt (v : Nat) : mask v < 18446744073709551616 := colP_lt v 64
def halfW (ws : List Nat) (v : Nat) (b : Bool) (i : Nat) : Nat :=
  if 6 ≤ v then ws.getD (setb i (v - 6) b) 0
  else if b then (ws.getD i 0 &&& mask v) ||| (ws.getD i 0 &&& mask v) >>> 2 ^ v
  else andn (ws.getD i 0) (mask v) ||| (andn (ws.getD i 0) (mask v) <<< 2 ^ v) % 18446744073709551616
def cof (n : Nat) (ws : List Nat) (v : Nat) (b : Bool) : List Nat := (List.range (wN n)).map fun i => halfW ws v b i &&& fullN n
theorem frm_cof {n v : Nat} {ws : List Nat} {b : Bool} (h : n ≤ 16) : Frm n (cof n ws v b) := by
  refine ⟨h, by simp [cof], fun w hw => ?_⟩
  obtain ⟨i, _, rfl⟩ := List.mem_map.1 hw
  exact Nat.and_le_right
theorem testBit_setb (x v : Nat) (b : Bool) (k : Nat) : (setb x v b).testBit k = if k = v then b else x.testBit k := by
  unfold setb
  cases b <;> simp only [if_true, Bool.false_eq_true, if_false]
  · rw [testBit_andn, Nat.testBit_two_pow]
    by_cases e : k = v
    · simp [e]
    · simp [e, Ne.symm e]
  · rw [Nat.testBit_or, Nat.testBit_two_pow]
    by_cases e : k = v
    · simp [e]
    · simp [e, Ne.symm e]
theorem setb_lt {x v n : Nat} {b : Bool} (hx : x < 2 ^ n) (hv : v < n) : setb x v b < 2 ^ n := by
  unfold setb
  split
  · exact Nat.or_lt_two_pow hx (Nat.pow_lt_pow_right (by decide) hv)
  · exact Nat.lt_of_le_of_lt (andn_le _ _) hx
theorem small6 : ∀ v : Fin 6, ∀ j : Fin 64, (j.1.testBit v.1 = true → setb j v true = j ∧ setb j v false = j - 2 ^ v.1 ∧ 2 ^ v.1 ≤ j.1 ∧ (j.1 + 2 ^ v.1).testBit v.1 = false ∧ (j.1 - 2 ^ v.1).testBit v.1 = false) ∧
    (j.1.testBit v.1 = false → setb j v true = j.1 + 2 ^ v.1 ∧ j.1 + 2 ^ v.1 < 64 ∧ setb j v false = j ∧ (j.1 + 2 ^ v.1).testBit v.1 = true ∧ (2 ^ v.1 ≤ j.1 → (j.1 - 2 ^ v.1).testBit v.1 = true)) := by decide +kernel
theorem setb_parts {x v : Nat} {b : Bool} : (6 ≤ v → setb x v b / 64 = setb (x / 64) (v - 6) b ∧ setb x v b % 64 = x % 64) ∧ (v < 6 → setb x v b / 64 = x / 64 ∧ setb x v b % 64 = setb (x % 64) v b) := by
  have h64 : ∀ y : Nat, y / 64 = y >>> 6 := fun y => by rw [Nat.shiftRight_eq_div_pow]
  have m64 : ∀ y : Nat, y % 64 = y % 2 ^ 6 := fun y => rfl
  refine ⟨fun h => ⟨?_, ?_⟩, fun h => ⟨?_, ?_⟩⟩ <;> apply Nat.eq_of_testBit_eq <;> intro k
  · rw [h64, h64, Nat.testBit_shiftRight, testBit_setb, testBit_setb, Nat.testBit_shiftRight]
    by_cases e : k = v - 6
    · rw [if_pos e, if_pos (by omega)]
    · rw [if_neg e, if_neg (by omega)]
  · rw [m64 (setb x v b), m64 x, Nat.testBit_mod_two_pow, Nat.testBit_mod_two_pow, testBit_setb]
    by_cases hk : k < 6
    · rw [if_neg (by omega)]
    · simp [hk]
  · rw [h64, h64, Nat.testBit_shiftRight, testBit_setb, Nat.testBit_shiftRight, if_neg (by omega)]
  · rw [m64 (setb x v b), m64 x, Nat.testBit_mod_two_pow, testBit_setb, testBit_setb, Nat.testBit_mod_two_pow]
    by_cases e : k = v
    · subst e; simp [h]
    · simp [e]
theorem bit_cof {n v x : Nat} {ws : List Nat} {b : Bool} (hf : Frm n ws) (hv : v < n) (hx : x < 2 ^ n) : bit (cof n ws v b) x = bit ws (setb x v b) := by
  have hi := lt_words hx
  unfold bit
  have hget : (cof n ws v b).getD (x / 64) 0 = halfW ws v b (x / 64) &&& fullN n := by
    simp [cof, hi]
  rw [hget, Nat.testBit_and, testBit_full]
  have hfb : decide (x % 64 < if 6 ≤ n then 64 else 2 ^ n) = true := by
    rw [decide_eq_true_eq]
    split
    · exact Nat.mod_lt _ (by decide)
    · have h1 : 2 ^ n ≤ 32 := Nat.pow_le_pow_right (n := 2) (by decide) (by omega : n ≤ 5)
      omega
  rw [hfb, Bool.and_true]
  unfold halfW
  by_cases h6 : 6 ≤ v
  · rw [if_pos h6, (setb_parts.1 h6).1, (setb_parts.1 h6).2]
  · rw [if_neg h6]
    obtain ⟨e1, e2⟩ := (setb_parts (x := x) (v := v) (b := b)).2 (by omega)
    rw [e1, e2]
    generalize hw : ws.getD (x / 64) 0 = w
    have hwl : w < 2 ^ 64 := by
      rw [← hw]
      rw [List.getD_eq_getElem?_getD, List.getElem?_eq_getElem (by rw [hf.len]; exact hi)]
      exact hf.lt (List.getElem_mem _)
    have hj : x % 64 < 64 := Nat.mod_lt _ (by decide)
    generalize x % 64 = j at hj
    obtain ⟨s1, s2⟩ := small6 ⟨v, by omega⟩ ⟨j, hj⟩
    simp only at s1 s2
    cases b
    · simp only [Bool.false_eq_true, if_false]
      rw [show (18446744073709551616 : Nat) = 2 ^ 64 by rfl, Nat.testBit_or, Nat.testBit_mod_two_pow, Nat.testBit_shiftLeft, testBit_andn, testBit_andn, testBit_mask, testBit_mask]
      cases hb : j.testBit v
      · obtain ⟨t1, t2, t3, t4, t5⟩ := s2 hb
        rw [t3]
        by_cases hle : 2 ^ v ≤ j
        · have := t5 hle
          have h64 : j - 2 ^ v < 64 := Nat.lt_of_le_of_lt (Nat.sub_le _ _) hj
          simp [hj, this, h64]
        · simp [hj, hle]
      · obtain ⟨t1, t2, t3, t4, t5⟩ := s1 hb
        rw [t2]
        simp [hj, t3, t5]
    · simp only [if_true]
      rw [Nat.testBit_or, Nat.testBit_and, Nat.testBit_shiftRight, Nat.testBit_and, testBit_mask, testBit_mask]
      cases hb : j.testBit v
      · obtain ⟨t1, t2, t3, t4, t5⟩ := s2 hb
        rw [t1, Nat.add_comm (2 ^ v) j]
        simp [hj, t2, t4]
      · obtain ⟨t1, t2, t3, t4, t5⟩ := s1 hb
        rw [t1, Nat.add_comm (2 ^ v) j]
        simp [hj, t4]
def dep (n : Nat) (ws : List Nat) (v : Nat) : Bool := decide (cof n ws v false ≠ cof n ws v true)
theorem setb_self (x v : Nat) : setb x v (x.testBit v) = x := by
  apply Nat.eq_of_testBit_eq; intro k
  rw [testBit_setb]
  by_cases e : k = v
  · rw [if_pos e, e]
  · rw [if_neg e]
theorem dep_iff {n v : Nat} {ws : List Nat} (hf : Frm n ws) (hv : v < n) : dep n ws v = true ↔ ∃ x, x < 2 ^ n ∧ bit ws (setb x v false) ≠ bit ws (setb x v true) := by
  constructor
  · intro h
    refine Classical.byContradiction fun hno => ?_
    have : cof n ws v false = cof n ws v true := (frm_cof hf.n16).ext (frm_cof hf.n16) fun x hx => by
      rw [bit_cof hf hv hx, bit_cof hf hv hx]
      exact Classical.byContradiction fun hne => hno ⟨x, hx, hne⟩
    simp [dep, this] at h
  · rintro ⟨x, hx, hne⟩
    simp only [dep, ne_eq, decide_eq_true_eq]
    intro he
    apply hne
    rw [← bit_cof hf hv hx, ← bit_cof hf hv hx, he]
end Tab
namespace Go.Sx
open Go
inductive Grow : Hp → Hp → Prop
  | refl (B : Hp) : Grow B B
  | cons {x : Nat × Obj} {B H : Hp} (h : Grow B H) : Grow B (x :: H)
  | app {N B H : Hp} (h : Grow B H) : Grow B (N ++ H)
theorem Grow.spec {B H : Hp} (h : Grow B H) : ∃ N, H = N ++ B := by
  induction h with
  | refl => exact ⟨[], rfl⟩
  | @cons x B H h ih => obtain ⟨N, rfl⟩ := ih; exact ⟨x :: N, rfl⟩
  | @app M B H h ih => obtain ⟨N, rfl⟩ := ih; exact ⟨M ++ N, by rw [List.append_assoc]⟩
theorem Grow.sub {B H : Hp} (h : Grow B H) : ∀ x ∈ B, x ∈ H := by
  obtain ⟨N, rfl⟩ := h.spec; exact fun x hx => List.mem_append_right _ hx
theorem Grow.ent {B H : Hp} (h : Grow B H) : Ent H B := by
  obtain ⟨N, rfl⟩ := h.spec; exact Ent.right
section
variable {P : Program} {g : Gh} {H : Hp}
def Px (P : Program) (f : FuncId) (args : Array Value) (B : Hp) (Q : Value → Hp → Prop) : Prop := Fc P f args B (fun v H => Grow B H ∧ Q v H)
theorem CallF.px {f : FuncId} {args : Array Value} {B H : Hp} {c : Hp → Hp} {Q : Value → Hp → Prop} {K : Value → Hp → Prop} {KP : List PanicEntry → Hp → Prop} (hh : Hole B H c) (hc : Px P f args B Q)
    (hk : ∀ v N, Q v (N ++ B) → K v (c (N ++ B))) : CallF P g f args H K KP :=
  CallF.fn hh hc fun v C' ⟨h1, h2⟩ => by obtain ⟨N, rfl⟩ := h1.spec; exact hk v N h2
theorem CallF.pre {f : FuncId} {args : Array Value} {H' : Hp} {K : Value → Hp → Prop} {KP : List PanicEntry → Hp → Prop} (he : Ent H H') (h : CallF P g f args H' K KP) : CallF P g f args H K KP := SCalls.pre h he
theorem Ent.swap {x y : Nat × Obj} {A : Hp} : Ent (x :: y :: A) (y :: x :: A) := .perm (.swap _ _ _)
theorem PxR.mk {Q : Value → Hp → Prop} {v : Value} {B H : Hp} (he : Grow B H) (h : Q v H) : FnR (fun v H => Grow B H ∧ Q v H) (.returned v) H := ⟨v, H, rfl, .refl _, he, h⟩
theorem RdR.mk {Q : Value → Prop} {v : Value} {B H : Hp} (he : Ent H B) (h : Q v) : FnR (fun v H => H = B ∧ Q v) (.returned v) H := ⟨v, B, rfl, he, rfl, h⟩
def icells (kd : IntKind) (l : List Int) : Array Value := (l.map fun n => Value.int kd n).toArray
theorem icells_set (kd : IntKind) (l : List Int) (i : Nat) (n : Int) : (icells kd l).setIfInBounds i (.int kd n) = icells kd (l.set i n) := by
  simp [icells, List.map_set]
@[simp] theorem icells_size (kd : IntKind) (l : List Int) : (icells kd l).size = l.length := by simp [icells]
theorem made_ints (kd : IntKind) (n : Nat) : madeCells (Value.cells (.int kd 0)) (n * 1) = icells kd (List.replicate n 0) := by
  apply Array.ext
  · simp [madeCells, icells]
  · intro i h1 h2
    simp [madeCells, icells, Value.cells, Nat.mod_one]
def Ints (kd : IntKind) (B : Hp) (v : Value) (l : List Int) : Prop := Sl 1 B v (l.map fun n => [Value.int kd n])
theorem Ints.mono {kd : IntKind} {B B' : Hp} {v : Value} {l : List Int} (h : Ints kd B v l) (hs : ∀ x ∈ B, x ∈ B') : Ints kd B' v l := Sl.mono h hs
theorem Ints.lenS {kd : IntKind} {B : Hp} {v : Value} {l : List Int} (h : Ints kd B v l) {K : Value → Prop} (hk : K (.int .i64 l.length)) : LenS v K := Sl.lenS h (by simpa using hk)
theorem Ints.block {kd : IntKind} {B : Hp} {b cap : Nat} {l : List Int} {T : TypeId} {fz : Nat × Nat} (hm : (b, Obj.cells (icells kd l) T fz) ∈ B) (hc : l.length ≤ cap) : Ints kd B (.slice (some ⟨b, 0, none⟩) l.length cap) l := by
  refine ⟨by simp, .inr ⟨b, 0, cap, _, T, fz, by simp, by simpa using hc, hm, by simp [icells], fun i r hi j v hj => ?_⟩⟩
  rw [List.getElem?_map] at hi
  cases hl : l[i]? with
  | none => rw [hl] at hi; simp at hi
  | some n =>
    rw [hl] at hi
    simp only [Option.map_some, Option.some.injEq] at hi
    subst hi
    cases j with
    | zero =>
      simp only [List.getElem?_cons_zero, Option.some.injEq] at hj
      subst hj
      simp [icells, hl]
    | succ j => simp at hj
theorem Ints.at {kd kd' : IntKind} {B : Hp} {v : Value} {l : List Int} (h : Ints kd B v l) {i : Nat} {n : Int} (hi : l[i]? = some n) {K : Value → Prop} (hk : ∀ p, At B p [.int kd n] → K p) : IAddr 1 v (.int kd' (i : Int)) K :=
  IAddr.sl h (by rw [List.getElem?_map, hi]; rfl) hk
theorem Ints.ld {kd kd' : IntKind} {B : Hp} {v : Value} {l : List Int} (h : Ints kd B v l) {i : Nat} {n : Int} (hi : l[i]? = some n) (hs : ∀ x ∈ B, x ∈ H) {K : Value → Prop} (hk : K (.int kd n)) : IAddr 1 v (.int kd' (i : Int)) (fun p => Ld H p K) :=
  h.at hi fun p hp => Ld.at hp hs hk
theorem MkSlice.ints {T : TypeId} {kd kl : IntKind} {bytes n : Nat} {K : Value → Hp → Prop} (hmax : n ≤ 9223372036854775807) (hb : n * bytes ≤ 281474976710656)
    (h : ∀ b, K (.slice (some ⟨b, 0, none⟩) n n) ((b, .cells (icells kd (List.replicate n 0)) T (0, 0)) :: H)) : MkSlice T 1 bytes (.int kd 0) H (.int kl n) (.int kl n) K :=
  ⟨kl, kl, n, n, rfl, rfl, Nat.le_refl _, by omega, hb, fun b _ => by rw [made_ints]; exact h b⟩
theorem St.ints {b i : Nat} {kd : IntKind} {l : List Int} {x : Int} {T : TypeId} {H' : Hp} {K : Hp → Prop} (hu : Upd b (.cells (icells kd l) T (0, 0)) (.cells (icells kd (l.set i x)) T (0, 0)) H H') (hi : i < l.length) (h : K H') :
    St 1 H (.pointer (some ⟨b, 0 + i * 1, none⟩)) (.int kd x) K :=
  St.one (c := icells kd l) (c' := icells kd (l.set i x)) hu rfl (by simpa using hi) (by rw [Nat.zero_add, Nat.mul_one]; exact icells_set kd l i x) h
end
def nAt : List Value → Nat → Nat
  | .int _ q :: _, 0 => q.toNat
  | _ :: r, i + 1 => nAt r i
  | _, _ => 0
structure Tb where
  n : Int
  ws : List Nat
  deriving DecidableEq
def iw (ws : List Nat) : List Int := ws.map (Nat.cast : Nat → Int)
@[simp] theorem iw_length (ws : List Nat) : (iw ws).length = ws.length := by simp [iw]
theorem iw_get {ws : List Nat} {i w : Nat} (h : ws[i]? = some w) : (iw ws)[i]? = some (w : Int) := by simp [iw, h]
def Words (B : Hp) (s : Value) (ws : List Nat) : Prop := Ints .u64 B s (iw ws) ∧ ∀ w ∈ ws, w < 18446744073709551616
theorem Words.mono {B B' : Hp} {v : Value} {ws : List Nat} (h : Words B v ws) (hs : ∀ x ∈ B, x ∈ B') : Words B' v ws := ⟨h.1.mono hs, h.2⟩
theorem Words.block {B : Hp} {b cap : Nat} {ws : List Nat} {T : TypeId} {fz : Nat × Nat} (hm : (b, Obj.cells (icells .u64 (iw ws)) T fz) ∈ B) (hc : ws.length ≤ cap) (hw : ∀ w ∈ ws, w < 18446744073709551616) : Words B (.slice (some ⟨b, 0, none⟩) ws.length cap) ws := by
  have := Ints.block (cap := cap) hm (by simpa using hc)
  rw [iw_length] at this
  exact ⟨this, hw⟩
def Tbl (B : Hp) (v : Value) (t : Tb) : Prop := ∃ s, v = .agg #[.int .i64 t.n, s] ∧ Words B s t.ws
theorem Tbl.mono {B B' : Hp} {v : Value} {t : Tb} (h : Tbl B v t) (hs : ∀ x ∈ B, x ∈ B') : Tbl B' v t := let ⟨s, h1, h2⟩ := h; ⟨s, h1, h2.mono hs⟩
def TRow (B : Hp) (r : List Value) (t : Tb) : Prop := ∃ s, r = [.int .i64 t.n, s] ∧ Words B s t.ws
theorem TRow.mono {B B' : Hp} {r : List Value} {t : Tb} (h : TRow B r t) (hs : ∀ x ∈ B, x ∈ B') : TRow B' r t := let ⟨s, h1, h2⟩ := h; ⟨s, h1, h2.mono hs⟩
def Each {α : Type} (p : List Value → α → Prop) (rs : List (List Value)) (l : List α) : Prop := rs.length = l.length ∧ ∀ (i : Nat) (r : List Value) (x : α), rs[i]? = some r → l[i]? = some x → p r x
theorem Each.nil {α : Type} {p : List Value → α → Prop} : Each p [] [] := ⟨rfl, by simp⟩
theorem Each.get {α : Type} {p : List Value → α → Prop} {rs : List (List Value)} {l : List α} (h : Each p rs l) {i : Nat} {x : α} (hx : l[i]? = some x) : ∃ r, rs[i]? = some r ∧ p r x := by
  have hlt := (List.getElem?_eq_some_iff.1 hx).1
  have : i < rs.length := by rw [h.1]; exact hlt
  exact ⟨rs[i], List.getElem?_eq_getElem this, h.2 i _ _ (List.getElem?_eq_getElem this) hx⟩
theorem Each.mono {α : Type} {p q : List Value → α → Prop} {rs : List (List Value)} {l : List α} (h : Each p rs l) (hpq : ∀ r x, p r x → q r x) : Each q rs l := ⟨h.1, fun i r x h1 h2 => hpq _ _ (h.2 i r x h1 h2)⟩
theorem Each.snoc {α : Type} {p : List Value → α → Prop} {rs : List (List Value)} {l : List α} (h : Each p rs l) {r : List Value} {x : α} (hx : p r x) : Each p (rs ++ [r]) (l ++ [x]) := by
  refine ⟨by simp [h.1], fun i r' x' h1 h2 => ?_⟩
  by_cases e : i < l.length
  · rw [List.getElem?_append_left e] at h2
    rw [List.getElem?_append_left (by rw [h.1]; exact e)] at h1
    exact h.2 i _ _ h1 h2
  · rw [List.getElem?_append_right (by omega)] at h2
    rw [List.getElem?_append_right (by rw [h.1]; omega), h.1] at h1
    cases hi : i - l.length with
    | zero => rw [hi] at h1 h2; simp at h1 h2; subst h1; subst h2; exact hx
    | succ k => rw [hi] at h2; simp at h2
def Tbls (B : Hp) (v : Value) (ts : List Tb) : Prop := ∃ rs, Sl 2 B v rs ∧ Each (TRow B) rs ts
theorem Tbls.mono {B B' : Hp} {v : Value} {ts : List Tb} (h : Tbls B v ts) (hs : ∀ x ∈ B, x ∈ B') : Tbls B' v ts := let ⟨rs, h1, h2⟩ := h; ⟨rs, h1.mono hs, h2.mono fun _ _ h => h.mono hs⟩
theorem Tbls.lenS {B : Hp} {v : Value} {ts : List Tb} (h : Tbls B v ts) {K : Value → Prop} (hk : K (.int .i64 ts.length)) : LenS v K := by
  obtain ⟨rs, h1, h2⟩ := h; refine h1.lenS ?_; have := h2.1; rw [this]; exact hk
theorem Tbls.ld {B H : Hp} {v : Value} {ts : List Tb} {kd : IntKind} (h : Tbls B v ts) {i : Nat} {t : Tb} (hi : ts[i]? = some t) (hs : ∀ x ∈ B, x ∈ H) {K : Value → Prop} (hk : ∀ s, Words B s t.ws → K (.agg #[.int .i64 t.n, s])) : IAddr 2 v (.int kd (i : Int)) (fun p => LdA 2 H p K) := by
  obtain ⟨rs, h1, h2⟩ := h
  obtain ⟨r, hr, s, rfl, hw⟩ := h2.get hi
  exact IAddr.sl h1 hr fun p hp => LdA.at hp rfl (by decide) hs (hk s hw)
theorem Tbls.one {B : Hp} {b cap : Nat} {t : Tb} {s : Value} {T : TypeId} {fz : Nat × Nat} (hm : (b, Obj.cells #[.int .i64 t.n, s] T fz) ∈ B) (hw : Words B s t.ws) : Tbls B (.slice (some ⟨b, 0, none⟩) 1 (cap + 1)) [t] := by
  refine ⟨[[.int .i64 t.n, s]], ⟨by simp, .inr ⟨b, 0, cap + 1, _, T, fz, rfl, by simp, hm, by simp, fun i r hi j v hj => ?_⟩⟩, rfl, fun i r x h1 h2 => ?_⟩
  · cases i with
    | zero => simp at hi; subst hi; simpa using hj
    | succ i => simp at hi
  · cases i with
    | zero => simp at h1 h2; subst h1; subst h2; exact ⟨s, rfl, hw⟩
    | succ i => simp at h1
def TF (t : Tb) : Prop := 0 ≤ t.n ∧ Tab.Frm t.n.toNat t.ws
instance (t : Tb) : Decidable (TF t) := by unfold TF; infer_instance
end Go.Sx
namespace Go.Sx
open Go Go.RowKit
section
variable {P : Program}
def whole (W : World) : Hp := (List.range W.heap.size).map fun i => (i, W.heap.getD i default)
theorem own_whole (W : World) : Own ⟨W, []⟩ (whole W) W := by
  refine ⟨rfl, rfl, rfl, ?_, ?_⟩
  · have : (whole W).map Prod.fst = List.range W.heap.size := by
      unfold whole
      rw [List.map_map]
      have : (Prod.fst ∘ fun i => (i, W.heap.getD i default)) = id := by funext i; rfl
      rw [this, List.map_id]
    rw [List.append_nil, this]; exact List.nodup_range
  · intro x hx
    rw [List.append_nil] at hx
    obtain ⟨i, hi, rfl⟩ := List.mem_map.1 hx
    have := List.mem_range.1 hi
    simp [Array.getD_eq_getD_getElem?, this]
theorem mem_whole {W : World} {b : Nat} {o : Obj} (h : W.heap[b]? = some o) : (b, o) ∈ whole W := by
  have hlt := (Array.getElem?_eq_some_iff.1 h).1
  exact List.mem_map.2 ⟨b, List.mem_range.2 hlt, by simp [Array.getD_eq_getD_getElem?, h]⟩
theorem Own.below {W W' : World} (h : Own ⟨W, []⟩ (whole W) W') : Below W.heap.size W W' := by
  have hb : ∀ k, k < W.heap.size → W'.heap[k]? = W.heap[k]? := fun k hk => by
    have := h.has (k, W.heap.getD k default) (List.mem_map.2 ⟨k, List.mem_range.2 hk, rfl⟩)
    simp only at this
    rw [this]; simp [Array.getD_eq_getD_getElem?, hk]
  refine ⟨h.os, h.tape, h.out, ?_, hb⟩
  rcases Nat.eq_zero_or_pos W.heap.size with h0 | h0
  · omega
  · have := hb (W.heap.size - 1) (by omega)
    rw [show W.heap[W.heap.size - 1]? = some (W.heap[W.heap.size - 1]'(by omega)) from Array.getElem?_eq_getElem (by omega)] at this
    have := (Array.getElem?_eq_some_iff.1 this).1
    omega
theorem law_below {f : FuncId} {args : Array Value} {W : World} (h : SCalls P ⟨W, []⟩ f args (whole W) (fun e H' => e = .returned (.bool true) ∧ Ent H' (whole W))) :
    Calls P f args W fun e W' => e = .returned (.bool true) ∧ Below W.heap.size W W' :=
  (h W (own_whole W)).mono fun e W' ⟨H', ho, he, hent⟩ => ⟨he, (hent _ _ ho).below⟩
theorem law_px {f : FuncId} {args : Array Value} {W : World} (h : Px P f args (whole W) (fun v _ => v = .bool true)) :
    Calls P f args W fun e W' => e = .returned (.bool true) ∧ Below W.heap.size W W' :=
  law_below ((h ⟨W, []⟩).post fun e H' ⟨v, C, he, hent, hg, hv⟩ => ⟨H', .refl _, by rw [he, hv], hent.trans hg.ent⟩)
section
variable {H : Type} {enc : TypeId × Value → H}
open Go.ChangeShapes Go.WideShapes Go.ChangeAt Go.RowKit
theorem trodAll_stays (hl : laidOutB P = true) {W W' : World} {sp : Nat → Bool} (hb : Below W.heap.size W W') : ∀ (ts : List TypeId) (vs : List Value) (ds : List (DataW H)) (ps : List MemPlace),
    (∀ t ∈ ts, P.readableRec t = true ∧ t < P.types.size) → DataW.TrodAll enc P W 0 (fun _ => true) true ts vs ds ps → (∀ x ∈ ps, x.block < W.heap.size) → (∀ x ∈ ps, sp x.block = true) → DataW.TrodAll enc P W' 0 sp true ts vs ds ps
  | [], vs, ds, ps, _, h, _, _ => by
    obtain ⟨rfl, rfl, rfl⟩ := trodAll_nil h; exact trodAll_mk0
  | t :: ts, vs, ds, ps, hr, h, hlt, hsp => by
    obtain ⟨v, vs', d, ds', p, q, rfl, rfl, rfl, h0, h1⟩ := trodAll_cons h
    have ht := hr t (by simp)
    exact trodAll_cons_mk (WideElems.Trod_stays hl ht.1 ht.2 h0 (fun x hx => hb.same (hlt x (by simp [hx]))) (fun x hx => hsp x (by simp [hx])))
      (trodAll_stays hl hb ts vs' ds' q (fun t' h' => hr t' (by simp [h'])) h1 (fun x hx => hlt x (by simp [hx])) (fun x hx => hsp x (by simp [hx])))
theorem law_post {f : Func} {s : ChangeSpec} {W W' : World} {args : Array Value} {ds gs : List (DataW H)} {before : List MemPlace} {tb : TypeId} (hvars : s.vars = [])
    (hW : DataW.Whole enc P f.params.toList s.vars false W args.toList ds gs before) (hs : s.fn H (ds ++ gs) = { results := [.lit (.bool true)], args := ds }) (hb : Below W.heap.size W W')
    (hl : laidOutB P = true) (hr : ∀ t ∈ f.params.toList, P.readableRec t = true ∧ t < P.types.size) (hrt : f.resultTypes = #[tb]) (hbool : P.underlying tb = some .bool) :
    s.post enc P f false true false false W args (.bool true) W' := by
  have hW' := hW
  have hlt := hW.lt
  obtain ⟨p, q, hA, hV, rfl, hfz, hnd⟩ := hW
  rw [hvars] at hV
  obtain ⟨rfl, rfl⟩ := trodVars_none hV
  refine ⟨ds, _, _, [], p, [], hW', ?_, ?_, ?_, World.keptBut_mono (fun p hp => ⟨hp, ?_⟩) (hb.frame (· ∈ p ++ [])), fun h => by cases h⟩
  · rw [hs, hrt]; exact trodAll_cons_mk (shut_bool hbool _) trodAll_mk0
  · rw [hs]
    exact trodAll_stays hl hb _ _ _ _ hr hA (fun x hx => hlt x (by simp [hx])) (fun x hx => by simpa using hlt x (by simp [hx]))
  · rw [hvars, hs]; rfl
  · right; simpa using hp
end
end
end Go.Sx
namespace Go.Sx
open Go
section
variable {P : Program} {g : Gh} {H : Hp}
theorem BuildSl.cell {t e : TypeId} {z x : Value} {K : Value → Hp → Prop} (h1 : P.underlying t = some (.slice e)) (h2 : sizeD P e = some 1) (h3 : zeroD P e = some z) (hx : x.oneCell' = true)
    (h : ∀ b, K (.slice (some ⟨b, 0, Option.none⟩) 1 1) ((b, .cells #[x] e (0, 0)) :: H)) : BuildSl P t 1 [(0, x)] H K := by
  refine ⟨#[x], e, 1, z, h1, h2, h3, by omega, ?_, fun b _ => h b⟩
  have hxc : x.cells = #[x] := by cases x <;> first | rfl | (simp [Value.oneCell'] at hx)
  have : ((Array.range (1 * 1)).map (z.cells[· % z.cells.size]!)) = [z.cells[0 % z.cells.size]!].toArray := by
    rw [show Array.range (1 * 1) = #[0] by decide]; simp
  rw [this]
  refine fillL_fill _ _ _ ?_
  simp only [fillL, hxc]
  rfl
theorem SOwn.cell1 {T : TypeId} {v x : Value} {rs : List (List Value)} {C : Hp} (hs : SOwn T 1 v rs C) {i : Nat} (hi : i < rs.length) (hr : rs[i]? = some [x]) (hC : ∀ y ∈ C, y ∈ H) {K : Value → Prop} (hk : K x) :
    IAddr 1 v (.int .i64 (i : Int)) fun p => Ld H p K := by
  obtain ⟨b', junk, rfl, rfl, hall⟩ := hs.pos (by omega)
  refine IAddr.nat hi ?_
  exact Ld.row1 (l := rs ++ junk) (hC _ (List.Mem.head _)) hall (by rw [List.getElem?_append_left hi]; exact hr) hk
theorem SOwn.put1 {T : TypeId} {v x y : Value} {rs : List (List Value)} {C A B : Hp} (hs : SOwn T 1 v rs C) {i : Nat} (hi : i < rs.length) (hr : rs[i]? = some [y]) (h1 : x.oneCell' = true) {K : Hp → Prop}
    (hk : ∀ C', SOwn T 1 v (rs.set i [x]) C' → K (A ++ (C' ++ B))) : IAddr 1 v (.int .i64 (i : Int)) fun p => St 1 (A ++ (C ++ B)) p x K := by
  obtain ⟨b', junk, rfl, rfl, hall⟩ := hs.pos (by omega)
  refine IAddr.nat hi ?_
  refine St.cell (l := rs ++ junk) (i := i) (k := 1) (j := 0) (r := [y]) (((Upd.head _).append B).prepend A) hall (by rw [List.getElem?_append_left hi]; exact hr) (by omega) h1 ?_
  have e : (rs ++ junk).set i ([y].set 0 x) = rs.set i [x] ++ junk := by rw [List.set_append_left _ _ hi]; rfl
  rw [e]
  refine hk [(b', _)] (SOwn.mk' (junk := junk) (fun r hr' => ?_) (by simp) (by simp))
  rcases List.mem_append.1 hr' with hr' | hr'
  · rcases List.mem_or_eq_of_mem_set hr' with hr' | rfl
    · exact hall r (by simp [hr'])
    · rfl
  · exact hall r (by simp [hr'])
end
end Go.Sx
namespace Go.Sx
open Go
section
variable {κ β : Type} [DecidableEq κ]
structure Ents (ke : κ → Value) (vr : Value → β → Prop) (es : Array MapEntry) (ck : Nat) (m : List (κ × β)) : Prop where
  len : es.size = m.length
  key : ∀ (i : Nat) (e : MapEntry) (x : κ × β), es[i]? = some e → m[i]? = some x → e.key = ke x.1 ∧ vr e.val x.2
  nd : (m.map Prod.fst).Nodup
  born : (es.toList.map MapEntry.born).Nodup
  lt : ∀ e ∈ es.toList, e.born < ck
variable {ke : κ → Value} {vr : Value → β → Prop} {es : Array MapEntry} {ck : Nat} {m : List (κ × β)}
theorem Ents.empty : Ents ke vr #[] 0 [] := ⟨rfl, by simp, by simp, by simp, by simp⟩
theorem Ents.mono {vr' : Value → β → Prop} (h : Ents ke vr es ck m) (hv : ∀ v x, vr v x → vr' v x) : Ents ke vr' es ck m := ⟨h.len, fun i e x h1 h2 => ⟨(h.key i e x h1 h2).1, hv _ _ (h.key i e x h1 h2).2⟩, h.nd, h.born, h.lt⟩
def mset (m : List (κ × β)) (k : κ) (x : β) : List (κ × β) := if k ∈ m.map Prod.fst then m.map (fun y => if y.1 = k then (k, x) else y) else m ++ [(k, x)]
def mget (m : List (κ × β)) (k : κ) : Option β := (m.find? (fun y => y.1 = k)).map Prod.snd
theorem mget_mem {m : List (κ × β)} {k : κ} {x : β} (nd : (m.map Prod.fst).Nodup) : mget m k = some x ↔ (k, x) ∈ m := by
  induction m with
  | nil => simp [mget]
  | cons y r ih =>
    rw [List.map_cons, List.nodup_cons] at nd
    obtain ⟨a, b⟩ := y
    simp only [mget, List.find?_cons] at ih ⊢
    by_cases e : a = k
    · subst e
      simp only [decide_true, Option.map_some, Option.some.injEq, List.mem_cons, Prod.mk.injEq, true_and]
      constructor
      · intro h; exact .inl h.symm
      · rintro (h | h)
        · exact h.symm
        · exact absurd (List.mem_map.2 ⟨_, h, rfl⟩) nd.1
    · simp only [e, decide_false, List.mem_cons, Prod.mk.injEq, Ne.symm e, false_and, false_or]
      exact ih nd.2
theorem mget_none {m : List (κ × β)} {k : κ} : mget m k = none ↔ k ∉ m.map Prod.fst := by
  simp only [mget, Option.map_eq_none_iff, List.find?_eq_none, decide_eq_true_eq, List.mem_map, not_exists, not_and]
theorem Ents.findS {P : Program} {kt : TypeId} (hk : ∀ a b, EqV P kt (ke a) (ke b) (decide (a = b))) (h : Ents ke vr es ck m) (k : κ) :
    (∃ (i : Nat) (x : β) (e : MapEntry), es[i]? = some e ∧ m[i]? = some (k, x) ∧ vr e.val x ∧ FindS P kt (ke k) es.toList 0 (some (i, e.val))) ∨ (k ∉ m.map Prod.fst ∧ FindS P kt (ke k) es.toList 0 none) := by
  have key : ∀ (l : List MapEntry) (q : List (κ × β)) (j : Nat), l.length = q.length → (∀ (i : Nat) (e : MapEntry) (x : κ × β), l[i]? = some e → q[i]? = some x → e.key = ke x.1 ∧ vr e.val x.2) →
      (∃ (i : Nat) (x : β) (e : MapEntry), l[i]? = some e ∧ q[i]? = some (k, x) ∧ vr e.val x ∧ FindS P kt (ke k) l j (some (j + i, e.val))) ∨ (k ∉ q.map Prod.fst ∧ FindS P kt (ke k) l j none) := by
    intro l
    induction l with
    | nil => intro q j hl _; cases q with | nil => exact .inr ⟨by simp, rfl⟩ | cons a b => simp at hl
    | cons e r ih =>
      intro q j hl hkey
      cases q with
      | nil => simp at hl
      | cons y q =>
        obtain ⟨h1, h2⟩ := hkey 0 e y rfl rfl
        have hb := hk k y.1
        rw [← h1] at hb
        by_cases e0 : k = y.1
        · refine .inl ⟨0, y.2, e, rfl, by rw [e0]; rfl, h2, ?_⟩
          exact ⟨_, hb, fun _ => by simp, fun h => by simp [e0] at h⟩
        · rcases ih q (j + 1) (by simpa using hl) (fun i e x h1 h2 => hkey (i + 1) e x (by simpa using h1) (by simpa using h2)) with ⟨i, x, e', g1, g2, g3, g4⟩ | ⟨g1, g2⟩
          · refine .inl ⟨i + 1, x, e', by simpa using g1, by simpa using g2, g3, _, hb, fun h => by simp [e0] at h, fun _ => ?_⟩
            rw [show j + (i + 1) = j + 1 + i by omega]; exact g4
          · exact .inr ⟨by rw [List.map_cons, List.mem_cons]; rintro (h | h); exact e0 h; exact g1 h, _, hb, fun h => by simp [e0] at h, fun _ => g2⟩
  have := key es.toList m 0 (by simpa using h.len) (fun i e x h1 h2 => h.key i e x (by simpa using h1) h2)
  rcases this with ⟨i, x, e, g1, g2, g3, g4⟩ | h2
  · exact .inl ⟨i, x, e, by simpa using g1, g2, g3, by simpa using g4⟩
  · exact .inr h2
theorem Ents.put (h : Ents ke vr es ck m) {i : Nat} {k : κ} {y x : β} {val : Value} (hi : m[i]? = some (k, y)) (hv : vr val x) : Ents ke vr (es.modify i fun e => { e with key := ke k, val }) ck (mset m k x) := by
  have hmem : k ∈ m.map Prod.fst := List.mem_map.2 ⟨_, List.mem_of_getElem? hi, rfl⟩
  have hlt := (List.getElem?_eq_some_iff.1 hi).1
  have huniq : ∀ j z, m[j]? = some z → z.1 = k → j = i := fun j z hj hz => by
    have hj' := (List.getElem?_eq_some_iff.1 hj).1
    have e1 : (m.map Prod.fst)[j]? = some k := by rw [List.getElem?_map, hj]; simp [hz]
    have e2 : (m.map Prod.fst)[i]? = some k := by rw [List.getElem?_map, hi]; rfl
    exact (List.getElem?_inj (by simpa using hj') h.nd).1 (e1.trans e2.symm)
  have hb : ((es.modify i fun e => { e with key := ke k, val }).toList.map MapEntry.born) = es.toList.map MapEntry.born := by
    apply List.ext_getElem?; intro j
    simp only [List.getElem?_map, Array.getElem?_toList, Array.getElem?_modify]
    split
    · cases es[j]? <;> rfl
    · rfl
  refine ⟨by simp [mset, hmem, h.len], fun j e z he hz => ?_, ?_, by rw [hb]; exact h.born, fun e he => ?_⟩
  · simp only [mset, hmem, if_true, List.getElem?_map] at hz
    rw [Array.getElem?_modify] at he
    cases hm : m[j]? with
    | none => rw [hm] at hz; simp at hz
    | some z0 =>
      rw [hm] at hz
      simp only [Option.map_some, Option.some.injEq] at hz
      cases hes : es[j]? with
      | none => rw [hes] at he; split at he <;> simp at he
      | some e0 =>
        rw [hes] at he
        by_cases ek : z0.1 = k
        · have := huniq j z0 hm ek
          subst this
          rw [if_pos ek] at hz; subst hz
          simp only [if_true, Option.map_some, Option.some.injEq] at he
          subst he; exact ⟨rfl, hv⟩
        · rw [if_neg ek] at hz; subst hz
          rw [if_neg (fun e => by subst e; rw [hi] at hm; cases hm; exact ek rfl)] at he
          simp only [Option.some.injEq] at he
          subst he; exact h.key j _ _ hes hm
  · have : (mset m k x).map Prod.fst = m.map Prod.fst := by
      simp only [mset, hmem, if_true, List.map_map]
      apply List.map_congr_left
      intro z _
      simp only [Function.comp]
      split
      · rename_i hz; exact hz.symm
      · rfl
    rw [this]; exact h.nd
  · have : e.born ∈ (es.modify i fun e => { e with key := ke k, val }).toList.map MapEntry.born := List.mem_map_of_mem he
    rw [hb] at this
    obtain ⟨e0, h1, h2⟩ := List.mem_map.1 this
    rw [← h2]; exact h.lt e0 h1
theorem Ents.more (h : Ents ke vr es ck m) {k : κ} {x : β} {val : Value} (hk : k ∉ m.map Prod.fst) (hv : vr val x) : Ents ke vr (es.push { key := ke k, val, born := ck }) (ck + 1) (mset m k x) := by
  have hs : mset m k x = m ++ [(k, x)] := by unfold mset; rw [if_neg hk]
  rw [hs]
  refine ⟨by simp [h.len], fun j e z he hz => ?_, ?_, ?_, fun e he => ?_⟩
  · by_cases hj : j < m.length
    · rw [List.getElem?_append_left hj] at hz
      rw [Array.getElem?_push, if_neg (by rw [h.len]; omega)] at he
      exact h.key j _ _ he hz
    · have hj2 := (List.getElem?_eq_some_iff.1 hz).1
      simp only [List.length_append, List.length_cons, List.length_nil] at hj2
      have : j = m.length := by omega
      subst this
      rw [List.getElem?_append_right (Nat.le_refl _)] at hz
      simp at hz; subst hz
      rw [Array.getElem?_push, if_pos h.len.symm] at he
      simp at he; subst he
      exact ⟨rfl, hv⟩
  · rw [List.map_append, List.nodup_append]
    refine ⟨h.nd, by simp, fun a ha b hb => ?_⟩
    simp at hb; subst hb; rintro rfl; exact hk ha
  · rw [Array.toList_push, List.map_append, List.nodup_append]
    refine ⟨h.born, by simp, fun a ha b hb => ?_⟩
    simp at hb; subst hb
    obtain ⟨e, he, rfl⟩ := List.mem_map.1 ha
    have := h.lt e he; omega
  · rw [Array.toList_push, List.mem_append] at he
    rcases he with he | he
    · have := h.lt e he; omega
    · simp at he; subst he; simp
variable {H : Hp} {b : Nat}
theorem Ents.hitS {P : Program} {kt : TypeId} {zero : Value} {ok : Bool} {k : κ} {x : β} {K : Value → Prop} (hk : ∀ a b, EqV P kt (ke a) (ke b) (decide (a = b))) (hc : ∀ a, ChkV P kt (ke a)) (h : Ents ke vr es ck m) (hm : (b, Obj.map es ck) ∈ H) (hx : mget m k = some x)
    (h1 : ∀ v, vr v x → K (cond ok (.tuple #[v, .bool true]) v)) : LookS P kt zero ok H (.map (some b)) (ke k) K := by
  rcases h.findS hk k with ⟨i, y, e, g1, g2, g3, g4⟩ | ⟨g1, g2⟩
  · have : mget m k = some y := (mget_mem h.nd).2 (List.mem_of_getElem? g2)
    rw [hx] at this; cases this
    exact ⟨es, _, .inr ⟨b, ck, rfl, hm⟩, hc k, g4, h1 _ g3⟩
  · rw [mget_none.2 g1] at hx; cases hx
theorem Ents.missS {P : Program} {kt : TypeId} {zero : Value} {ok : Bool} {k : κ} {K : Value → Prop} (hk : ∀ a b, EqV P kt (ke a) (ke b) (decide (a = b))) (hc : ∀ a, ChkV P kt (ke a)) (h : Ents ke vr es ck m) (hm : (b, Obj.map es ck) ∈ H) (hx : mget m k = none)
    (h1 : K (cond ok (.tuple #[zero, .bool false]) zero)) : LookS P kt zero ok H (.map (some b)) (ke k) K := by
  rcases h.findS hk k with ⟨i, y, e, g1, g2, g3, g4⟩ | ⟨g1, g2⟩
  · exact absurd (List.mem_map.2 ⟨_, List.mem_of_getElem? g2, rfl⟩) (mget_none.1 hx)
  · exact ⟨es, _, .inr ⟨b, ck, rfl, hm⟩, hc k, g2, h1⟩
theorem Ents.updS {P : Program} {kt : TypeId} {k : κ} {x : β} {val : Value} {K : Hp → Prop} (hk : ∀ a b, EqV P kt (ke a) (ke b) (decide (a = b))) (hc : ∀ a, ChkV P kt (ke a)) (hb : ∀ a, Instr.sameBits 10000 (ke a) (ke a) = true) (h : Ents ke vr es ck m) (hv : vr val x)
    (h1 : ∀ es' ck', Ents ke vr es' ck' (mset m k x) → ∃ H', Upd b (.map es ck) (.map es' ck') H H' ∧ K H') : MapUpdS P kt H (.map (some b)) (ke k) val K := by
  rcases h.findS hk k with ⟨i, y, e, g1, g2, g3, g4⟩ | ⟨g1, g2⟩
  · refine ⟨b, es, ck, _, rfl, hc k, g4, fun e' he' => ?_, by rw [h.len]; exact (List.getElem?_eq_some_iff.1 g2).1, h1 _ _ (h.put g2 hv)⟩
    rw [(h.key i e' _ he' g2).1]; exact hb k
  · exact ⟨b, es, ck, _, rfl, hc k, g2, h1 _ _ (h.more g1 hv)⟩
theorem Ents.len_ok (h : Ents ke vr es ck m) (hm : (b, Obj.map es ck) ∈ H) {K : Value → Prop} (hk : K (.int .i64 m.length)) : LenM H (.map (some b)) K := ⟨_, rfl, .inr ⟨b, es, ck, rfl, hm, by rw [h.len]; exact hk⟩⟩
def unseen (es : Array MapEntry) (m : List (κ × β)) (seen : Array Nat) : List (κ × β) := ((es.toList.zip m).filter fun p => !seen.contains p.1.born).map Prod.snd
omit [DecidableEq κ] in
theorem unseen_all (h : Ents ke vr es ck m) : unseen es m #[] = m := by
  unfold unseen
  rw [List.filter_eq_self.2 (by simp), ← List.unzip_snd, List.unzip_zip]
  simpa using h.len
omit [DecidableEq κ] in
theorem unseen_step (h : Ents ke vr es ck m) {seen : Array Nat} {i : Nat} {e : MapEntry} {x : κ × β} (he : es[i]? = some e) (hx : m[i]? = some x) (hs : e.born ∉ seen) : (unseen es m seen).Perm (x :: unseen es m (seen.push e.born)) := by
  unfold unseen
  have hz : (es.toList.zip m)[i]? = some (e, x) := by rw [List.getElem?_zip_eq_some]; exact ⟨by simpa using he, hx⟩
  obtain ⟨A, C, hAC, hlen⟩ : ∃ A C, es.toList.zip m = A ++ (e, x) :: C ∧ A.length = i := by
    obtain ⟨hlt, hg⟩ := List.getElem?_eq_some_iff.1 hz
    exact ⟨(es.toList.zip m).take i, (es.toList.zip m).drop (i + 1), by rw [← hg, List.getElem_cons_drop, List.take_append_drop], by simp only [List.length_take]; omega⟩
  have hfst : (es.toList.zip m).map (fun p => p.1.born) = es.toList.map MapEntry.born := by
    have : (es.toList.zip m).map Prod.fst = es.toList := by rw [← List.unzip_fst, List.unzip_zip]; simpa using h.len
    rw [show (fun p : MapEntry × (κ × β) => p.1.born) = MapEntry.born ∘ Prod.fst from rfl, ← List.map_map, this]
  have hnd := h.born
  rw [← hfst, hAC, List.map_append, List.map_cons] at hnd
  have hnd' := List.perm_middle.nodup_iff.1 hnd
  rw [List.nodup_cons, ← List.map_append] at hnd'
  have hne : ∀ p ∈ A ++ C, p.1.born ≠ e.born := fun p hp e0 => hnd'.1 (List.mem_map.2 ⟨p, hp, e0⟩)
  have hcong : ∀ L : List (MapEntry × (κ × β)), (∀ p ∈ L, p.1.born ≠ e.born) → (L.filter fun p => !(seen.push e.born).contains p.1.born) = L.filter fun p => !seen.contains p.1.born := fun L hL => by
    apply List.filter_congr
    intro p hp
    have := hL p hp
    simp [Array.mem_push, this]
  rw [hAC, List.filter_append, List.filter_append, List.filter_cons, List.filter_cons]
  rw [if_pos (by simpa using hs), if_neg (by simp), hcong A fun p hp => hne p (List.mem_append_left _ hp), hcong C fun p hp => hne p (List.mem_append_right _ hp)]
  rw [List.map_append, List.map_append, List.map_cons]
  exact List.perm_middle
omit [DecidableEq κ] in
theorem Ents.next {bi bm : Nat} {seen : Array Nat} {K : Value → Hp → Prop} (h : Ents ke vr es ck m) (hm : (bm, Obj.map es ck) ∈ H) (hi : (bi, Obj.mapIter (some bm) ck seen ck) ∈ H)
    (h1 : ∀ e x seen', e ∈ es.toList → e.key = ke x.1 → vr e.val x.2 → (unseen es m seen).Perm (x :: unseen es m seen') → seen'.back? = some e.born → es.find? (·.born == e.born) = some e →
      ∃ H', Upd bi (.mapIter (some bm) ck seen ck) (.mapIter (some bm) ck seen' ck) H H' ∧ K (.tuple #[.bool true, e.key, e.val]) H')
    (h2 : unseen es m seen = [] → K (.tuple #[.bool false]) H) : Nxt H (.pointer (some ⟨bi, 0, none⟩)) K := by
  refine ⟨bi, some bm, ck, seen, ck, rfl, hi, es, ck, hm, fun e he => ⟨h.lt e he, h.lt e he⟩, fun e he hs => ?_, fun hall => h2 ?_⟩
  · obtain ⟨i, hi', rfl⟩ := List.mem_iff_getElem.1 he
    have hi2 : i < m.length := by rw [← h.len]; simpa using hi'
    have g1 : es[i]? = some es.toList[i] := by rw [← Array.getElem?_toList]; exact List.getElem?_eq_getElem hi'
    have g2 : m[i]? = some m[i] := List.getElem?_eq_getElem hi2
    obtain ⟨k1, k2⟩ := h.key i _ _ g1 g2
    refine h1 _ m[i] _ he k1 k2 (unseen_step h g1 g2 hs) (by simp) ?_
    rw [← Array.find?_toList]
    have hnd := h.born
    rw [List.find?_eq_some_iff_append]
    refine ⟨by simp, es.toList.take i, es.toList.drop (i + 1), by rw [List.getElem_cons_drop, List.take_append_drop], fun a ha => ?_⟩
    simp only [Bool.not_eq_true', beq_eq_false_iff_ne, ne_eq]
    intro e0
    obtain ⟨j, hj, rfl⟩ := List.mem_iff_getElem.1 ha
    simp only [List.length_take] at hj
    rw [List.getElem_take] at e0
    have := (List.getElem_inj (by simpa using h.born) (xs := es.toList.map MapEntry.born) (i := j) (j := i) (h₀ := by rw [List.length_map]; omega) (h₁ := by rw [List.length_map]; exact hi')).1 (by simpa using e0)
    omega
  · unfold unseen
    rw [List.filter_eq_nil_iff.2, List.map_nil]
    intro p hp
    have := hall p.1 (List.of_mem_zip hp).1
    simpa using this
end
end Go.Sx
namespace Tab
def bytesW (w : Nat) : List UInt8 := (List.range 8).map fun i => UInt8.ofNat (w >>> (8 * i))
abbrev Fs := List (List Nat)
def add (l : Fs) (t : List Nat) : Fs := if t ∈ l then l else l ++ [t]
def unlike (L : Fs) : Fs := L.foldl add []
def given (n : Nat) (l : Fs) (v : Nat) : Fs := l.foldl (fun acc t => add (add acc (cof n t v false)) (cof n t v true)) []
def nodes (n : Nat) (l : Fs) (v : Nat) : Fs := l.filter fun t => dep n t v
def st (n : Nat) (L : Fs) (A : Nat) : Nat → Fs
  | 0 => unlike L
  | k + 1 => if A.testBit k then given n (st n L A k) k else st n L A k
theorem mem_add {l : Fs} {t x : List Nat} : x ∈ add l t ↔ x ∈ l ∨ x = t := by
  unfold add
  split
  · constructor
    · exact .inl
    · rintro (h | rfl) <;> assumption
  · simp
theorem add_nodup {l : Fs} {t : List Nat} (h : l.Nodup) : (add l t).Nodup := by
  unfold add
  split
  · exact h
  · rename_i hn
    rw [List.nodup_append]
    exact ⟨h, by simp, fun a ha b hb => by simp at hb; subst hb; rintro rfl; exact hn ha⟩
theorem foldl_add_mem {α : Type} (f : α → Fs → Fs) (g : α → List Nat → Prop) (hf : ∀ a l x, x ∈ f a l ↔ x ∈ l ∨ g a x) : ∀ (L : List α) (acc : Fs) (x : List Nat), x ∈ L.foldl (fun acc a => f a acc) acc ↔ x ∈ acc ∨ ∃ a ∈ L, g a x
  | [], acc, x => by simp
  | a :: L, acc, x => by
    rw [List.foldl_cons, foldl_add_mem f g hf L, hf]
    simp only [List.mem_cons, exists_eq_or_imp, or_assoc]
theorem foldl_add_nodup {α : Type} (f : α → Fs → Fs) (hf : ∀ a l, l.Nodup → (f a l).Nodup) : ∀ (L : List α) (acc : Fs), acc.Nodup → (L.foldl (fun acc a => f a acc) acc).Nodup
  | [], acc, h => h
  | a :: L, acc, h => foldl_add_nodup f hf L _ (hf a acc h)
theorem mem_unlike {L : Fs} {x : List Nat} : x ∈ unlike L ↔ x ∈ L := by
  unfold unlike
  have := foldl_add_mem (fun a l => add l a) (fun a x => x = a) (fun a l x => mem_add) L [] x
  rw [this]; simp
theorem unlike_nodup (L : Fs) : (unlike L).Nodup := foldl_add_nodup (fun a l => add l a) (fun a l h => add_nodup h) L [] (by simp)
theorem mem_given {n v : Nat} {l : Fs} {x : List Nat} : x ∈ given n l v ↔ ∃ t ∈ l, ∃ b, x = cof n t v b := by
  unfold given
  have := foldl_add_mem (fun t acc => add (add acc (cof n t v false)) (cof n t v true)) (fun t x => ∃ b, x = cof n t v b) (fun t l x => by
    rw [mem_add, mem_add]
    constructor
    · rintro ((h | h) | h)
      · exact .inl h
      · exact .inr ⟨false, h⟩
      · exact .inr ⟨true, h⟩
    · rintro (h | ⟨b, h⟩)
      · exact .inl (.inl h)
      · cases b
        · exact .inl (.inr h)
        · exact .inr h) l [] x
  rw [this]; simp
theorem given_nodup (n : Nat) (l : Fs) (v : Nat) : (given n l v).Nodup := foldl_add_nodup (fun t acc => add (add acc (cof n t v false)) (cof n t v true)) (fun a l h => add_nodup (add_nodup h)) l [] (by simp)
theorem st_nodup (n : Nat) (L : Fs) (A : Nat) : ∀ k, (st n L A k).Nodup
  | 0 => unlike_nodup L
  | k + 1 => by
    rw [st]; split
    · exact given_nodup _ _ _
    · exact st_nodup n L A k
theorem add_length (l : Fs) (t : List Nat) : (add l t).length ≤ l.length + 1 := by unfold add; split <;> simp
theorem foldl_add_length {α : Type} (f : α → Fs → Fs) (c : Nat) (hf : ∀ a l, (f a l).length ≤ l.length + c) : ∀ (L : List α) (acc : Fs), (L.foldl (fun acc a => f a acc) acc).length ≤ acc.length + c * L.length
  | [], acc => by simp
  | a :: L, acc => by
    have h1 := foldl_add_length f c hf L (f a acc)
    have h2 := hf a acc
    rw [List.foldl_cons, List.length_cons, Nat.mul_succ]; omega
def suppP (n : Nat) (ws : List Nat) : Nat → Nat
  | 0 => 0
  | v + 1 => if dep n ws v then suppP n ws v ||| 2 ^ v else suppP n ws v
theorem testBit_suppP (n : Nat) (ws : List Nat) (u : Nat) : ∀ k, (suppP n ws k).testBit u = (decide (u < k) && dep n ws u)
  | 0 => by simp [suppP]
  | v + 1 => by
    rw [suppP]
    by_cases e : u = v
    · subst e
      split
      · rename_i h; rw [Nat.testBit_or, Nat.testBit_two_pow_self]; simp [h]
      · rename_i h; rw [testBit_suppP n ws u u]; simp [h]
    · have h1 : decide (u < v + 1) = decide (u < v) := by simp; omega
      rw [h1]
      split
      · rw [Nat.testBit_or, Nat.testBit_two_pow, testBit_suppP n ws u v]; simp [Ne.symm e]
      · exact testBit_suppP n ws u v
theorem bit_one (A u : Nat) : (A >>> u &&& 1 = 1) ↔ A.testBit u = true := by
  rw [and_one_eq, Nat.testBit_shiftRight, Nat.add_zero]; cases A.testBit u <;> simp
theorem bit_mod (A u : Nat) : ((A >>> u) % 2 = 1) ↔ A.testBit u = true := by
  rw [← bit_one, Nat.and_one_is_mod]
def wordP (bs : List Bool) (i : Nat) : Nat → Nat
  | 0 => 0
  | j + 1 => if bs.getD (64 * i + j) false then wordP bs i j ||| 2 ^ j else wordP bs i j
theorem testBit_wordP (bs : List Bool) (i k : Nat) : ∀ J, (wordP bs i J).testBit k = (decide (k < J) && bs.getD (64 * i + k) false)
  | 0 => by simp [wordP]
  | j + 1 => by
    rw [wordP]
    by_cases e : k = j
    · subst e
      split
      · rename_i h; rw [Nat.testBit_or, Nat.testBit_two_pow_self, h]; simp
      · rename_i h; rw [testBit_wordP bs i k k]; simp at h ⊢; exact h
    · have h1 : decide (k < j + 1) = decide (k < j) := by simp; omega
      rw [h1]
      split
      · rw [Nat.testBit_or, Nat.testBit_two_pow, testBit_wordP bs i k j]; simp [Ne.symm e]
      · exact testBit_wordP bs i k j
theorem wordP_lt (bs : List Bool) (i : Nat) : ∀ J, wordP bs i J < 2 ^ J
  | 0 => by simp [wordP]
  | j + 1 => by
    have h1 := wordP_lt bs i j
    have h2 : 2 ^ j < 2 ^ (j + 1) := Nat.pow_lt_pow_right (by decide) (by omega)
    rw [wordP]; split
    · exact Nat.or_lt_two_pow (by omega) h2
    · omega
theorem wordP_add {bs : List Bool} {i j : Nat} (h : bs.getD (64 * i + j) false = true) : wordP bs i j + 2 ^ j = wordP bs i (j + 1) := by
  rw [wordP, if_pos h]
  have := Nat.two_pow_add_eq_or_of_lt (wordP_lt bs i j) 1
  rw [Nat.mul_one] at this
  rw [Nat.or_comm, ← this, Nat.add_comm]
def fillW (n : Nat) (bs : List Bool) : List Nat := (List.range (wN n)).map fun i => wordP bs i 64
theorem mask_fill (v : Nat) : wordP ((List.range 64).map fun x => x.testBit v) 0 64 = mask v := by
  apply Nat.eq_of_testBit_eq; intro k
  rw [testBit_wordP, testBit_mask]
  by_cases hk : k < 64
  · simp [hk]
  · simp [hk]
theorem halfW_full {n v i : Nat} {ws : List Nat} {b : Bool} (hf : Frm n ws) (hv : v < n) (hi : i < wN n) : halfW ws v b i &&& fullN n = halfW ws v b i := by
  have hwi : ∀ k, ws.getD k 0 < 2 ^ 64 := fun k => by
    rw [List.getD_eq_getElem?_getD]
    rcases Nat.lt_or_ge k ws.length with h | h
    · rw [List.getElem?_eq_getElem h]; exact hf.lt (List.getElem_mem h)
    · rw [List.getElem?_eq_none h]; decide
  have hlt : halfW ws v b i < 2 ^ 64 := by
    unfold halfW
    split
    · exact hwi _
    · split
      · exact Nat.or_lt_two_pow (Nat.lt_of_le_of_lt Nat.and_le_left (hwi i)) (Nat.lt_of_le_of_lt (Nat.shiftRight_le _ _) (Nat.lt_of_le_of_lt Nat.and_le_left (hwi i)))
      · exact Nat.or_lt_two_pow (Nat.lt_of_le_of_lt (Go.Sx.andn_le _ _) (hwi i)) (Nat.mod_lt _ (by decide))
  by_cases h6 : 6 ≤ n
  · exact and_full (by unfold fullN; rw [if_pos h6]; have : (2:Nat) ^ 64 = 18446744073709551616 := rfl; omega)
  · have hv6 : ¬ 6 ≤ v := by omega
    apply Nat.eq_of_testBit_eq; intro j
    rw [Nat.testBit_and, testBit_full, if_neg h6]
    by_cases hj : j < 2 ^ n
    · simp [hj]
    · have hz : (halfW ws v b i).testBit j = false := by
        have hw0 : ws.getD i 0 ≤ fullN n := by
          rw [List.getD_eq_getElem?_getD, List.getElem?_eq_getElem (by rw [hf.len]; exact hi)]; exact hf.full _ (List.getElem_mem _)
        have hbit : ∀ k, 2 ^ n ≤ k → (ws.getD i 0).testBit k = false := fun k hk => by
          have := congrArg (fun x => x.testBit k) (and_full hw0)
          simp only [Nat.testBit_and, testBit_full, if_neg h6] at this
          rw [← this]; simp; omega
        unfold halfW
        rw [if_neg hv6]
        cases b
        · simp only [Bool.false_eq_true, if_false]
          rw [show (18446744073709551616 : Nat) = 2 ^ 64 by rfl, Nat.testBit_or, Nat.testBit_mod_two_pow, Nat.testBit_shiftLeft, Go.Sx.testBit_andn, Go.Sx.testBit_andn, hbit j (by omega), testBit_mask, testBit_mask]
          by_cases hle : 2 ^ v ≤ j
          · by_cases h64 : j < 64
            · obtain ⟨s1, s2⟩ := small6 ⟨v, by omega⟩ ⟨j, h64⟩
              simp only at s1 s2
              cases hb : j.testBit v
              · have := (s2 hb).2.2.2.2 hle
                have h3 : j - 2 ^ v < 64 := Nat.lt_of_le_of_lt (Nat.sub_le _ _) h64
                simp [this, h3]
              · have h5 := s1 hb
                have : ¬ (j - 2 ^ v < 2 ^ n) := fun hlt => by
                  have h6' := setb_lt (b := true) hlt hv
                  have h7 := (small6 ⟨v, by omega⟩ ⟨j - 2 ^ v, Nat.lt_of_le_of_lt (Nat.sub_le _ _) h64⟩).2 h5.2.2.2.2
                  simp only at h7
                  rw [h7.1] at h6'; omega
                rw [hbit (j - 2 ^ v) (by omega)]; simp
            · simp [h64]
          · simp [hle]
        · simp only [if_true]
          rw [Nat.testBit_or, Nat.testBit_and, Nat.testBit_shiftRight, Nat.testBit_and, hbit j (Nat.le_of_not_lt hj), hbit (2 ^ v + j) (Nat.le_trans (Nat.le_of_not_lt hj) (Nat.le_add_left _ _))]; simp
      rw [hz]; rfl
theorem setb_div (i k : Nat) : i - i / 2 ^ k % 2 * 2 ^ k = setb i k false ∧ (i - i / 2 ^ k % 2 * 2 ^ k) + 2 ^ k = setb i k true := by
  have hp := Nat.two_pow_pos k
  have hdm := Nat.div_add_mod i (2 ^ k)
  have hm := Nat.mod_lt i hp
  generalize hq : i / 2 ^ k = q at *
  generalize hr : i % 2 ^ k = r at *
  have hle : q % 2 * 2 ^ k ≤ 2 ^ k * q := by rw [Nat.mul_comm]; exact Nat.mul_le_mul_left _ (Nat.mod_le _ _)
  have e1 : i - q % 2 * 2 ^ k = 2 ^ k * (2 * (q / 2)) + r := by
    have : 2 ^ k * q = 2 ^ k * (2 * (q / 2)) + q % 2 * 2 ^ k := by
      rw [Nat.mul_comm (q % 2), ← Nat.mul_add]; congr 1; omega
    omega
  have tb : ∀ j, i.testBit j = if j < k then r.testBit j else q.testBit (j - k) := fun j => by rw [← hdm]; exact Nat.testBit_two_pow_mul_add q hm j
  have e2 : (2 ^ k * (2 * (q / 2)) + r) + 2 ^ k = 2 ^ k * (2 * (q / 2) + 1) + r := by rw [Nat.mul_succ]; omega
  rw [e1]
  refine ⟨?_, ?_⟩
  · apply Nat.eq_of_testBit_eq; intro j
    rw [Nat.testBit_two_pow_mul_add _ hm, testBit_setb, tb]
    by_cases hj : j < k
    · rw [if_pos hj, if_neg (by omega), if_pos hj]
    · rw [if_neg hj, if_neg hj]
      by_cases e : j = k
      · subst e; simp
      · rw [if_neg e]
        obtain ⟨d, hd⟩ : ∃ d, j - k = d + 1 := ⟨j - k - 1, by omega⟩
        rw [hd, Nat.testBit_succ, Nat.testBit_succ]; congr 1; omega
  · rw [e2]
    apply Nat.eq_of_testBit_eq; intro j
    rw [Nat.testBit_two_pow_mul_add _ hm, testBit_setb, tb]
    by_cases hj : j < k
    · rw [if_pos hj, if_neg (by omega), if_pos hj]
    · rw [if_neg hj, if_neg hj]
      by_cases e : j = k
      · subst e; simp
      · rw [if_neg e]
        obtain ⟨d, hd⟩ : ∃ d, j - k = d + 1 := ⟨j - k - 1, by omega⟩
        rw [hd, Nat.testBit_succ, Nat.testBit_succ]; congr 1; omega
end Tab
namespace Go.Sx
open Go
section
variable {P : Program} {H : Hp}
theorem BuildSl.int {t e : Nat} {kd : IntKind} {x : Int} {K : Value → Hp → Prop} (h1 : P.underlying t = some (.slice e)) (h2 : sizeD P e = some 1) (h3 : zeroD P e = some (.int kd 0))
    (h : ∀ b, K (.slice (some ⟨b, 0, none⟩) 1 1) ((b, .cells (icells kd [x]) e (0, 0)) :: H)) : BuildSl P t 1 [(0, .int kd x)] H K := by
  refine ⟨icells kd [x], e, 1, _, h1, h2, h3, by decide, ?_, fun b _ => h b⟩
  have e1 : Array.range 1 = #[0] := rfl
  simp [Instr.fill, Value.cells, icells, e1]
theorem BuildSl.none {t e k : Nat} {z : Value} {K : Value → Hp → Prop} (h1 : P.underlying t = some (.slice e)) (h2 : sizeD P e = some k) (h3 : zeroD P e = some z)
    (h : ∀ b, K (.slice (some ⟨b, 0, none⟩) 0 0) ((b, .cells #[] e (0, 0)) :: H)) : BuildSl P t 0 [] H K := by
  refine ⟨_, e, k, z, h1, h2, h3, by simp, rfl, fun b _ => ?_⟩
  have : ((Array.range (0 * k)).map fun i => z.cells[i % z.cells.size]!) = #[] := by simp
  rw [this]; exact h b
def TOwn (T : TypeId) (v : Value) (ts : List Tb) (C B : Hp) : Prop := ∃ rs, SOwn T 2 v rs C ∧ Each (TRow B) rs ts
theorem TOwn.nil {T : TypeId} {B : Hp} : TOwn T (.slice none 0 0) [] [] B := ⟨[], SOwn.nil _ _, Each.nil⟩
theorem TOwn.mono {T : TypeId} {v : Value} {ts : List Tb} {C B B' : Hp} (h : TOwn T v ts C B) (hs : ∀ x ∈ B, x ∈ B') : TOwn T v ts C B' := let ⟨rs, h1, h2⟩ := h; ⟨rs, h1, h2.mono fun _ _ h => h.mono hs⟩
theorem TOwn.tbls {T : TypeId} {v : Value} {ts : List Tb} {C B B' : Hp} (h : TOwn T v ts C B) (hc : ∀ x ∈ C, x ∈ B') (hb : ∀ x ∈ B, x ∈ B') : Tbls B' v ts := by
  obtain ⟨rs, h1, h2⟩ := h; exact ⟨rs, (Sl.ofOwn h1 (by decide)).mono hc, h2.mono fun _ _ h => h.mono hb⟩
theorem TOwn.app {T : TypeId} {v : Value} {ts : List Tb} {C B0 A B : Hp} (h : TOwn T v ts C B0) {xb xc : Nat} {t : Tb} {s : Value} {xT : TypeId} {fz : Nat × Nat} (hx : (xb, Obj.cells #[.int .i64 t.n, s] xT fz) ∈ A ++ (C ++ B)) (hw : Words B0 s t.ws)
    (hl : ts.length < 4398046511103) {K : Value → Hp → Prop} (hk : ∀ v' C', TOwn T v' (ts ++ [t]) C' B0 → K v' (A ++ (C' ++ B))) : App P T 2 32 (.agg #[.int .i64 0, .slice none 0 0]) (A ++ (C ++ B)) v (.slice (some ⟨xb, 0, none⟩) 1 xc) K := by
  obtain ⟨rs, h1, h2⟩ := h
  have hs : s.oneCell' = true := by obtain ⟨a, c, rfl, _⟩ := hw.1.shape; rfl
  have hrl := h2.1
  refine h1.app' (r := [.int .i64 t.n, s]) hx rfl (fun u hu => by simp only [List.mem_cons, List.not_mem_nil, or_false] at hu; rcases hu with rfl | rfl; rfl; exact hs) ⟨[.int .i64 0, .slice none 0 0], rfl, rfl⟩ (by omega) (by omega) fun v' C' ho => hk v' C' ⟨_, ho, h2.snoc ⟨s, rfl, hw⟩⟩
end
end Go.Sx
namespace Go.Sx
open Go
section
variable {P : Program} {g : Gh} {H : Hp}
theorem SOwn.apps {elem k bytes : Nat} {zero : Value} {v : Value} {rs : List (List Value)} {C A B : Hp} (h : SOwn elem k v rs C) {xa : Option Addr} {xc : Nat} {r2 : List (List Value)}
    (hx : Cells (A ++ (C ++ B)) xa (r2.length * k) (rows r2)) (hr : ∀ r ∈ r2, r.length = k) (h1 : ∀ r ∈ r2, ∀ u ∈ r, u.oneCell' = true) (hz : ∃ z : List Value, zero.cells = z.toArray ∧ z.length = k)
    (hb : (rs.length + r2.length) * bytes ≤ 140737488355328) (hmax : rs.length + r2.length ≤ 9223372036854775807) {K : Value → Hp → Prop}
    (hk : ∀ v' C', SOwn elem k v' (rs ++ r2) C' → K v' (A ++ (C' ++ B))) : App P elem k bytes zero (A ++ (C ++ B)) v (.slice xa r2.length xc) K := by
  obtain ⟨z, hz1, hz2⟩ := hz
  have hnone : ∀ u ∈ (rows r2).toList, u.oneCell' = true := by
    intro u hu
    simp only [rows, List.mem_flatten] at hu
    obtain ⟨r, h2, h3⟩ := hu
    exact h1 r h2 u h3
  rcases h with ⟨rfl, rfl, rfl⟩ | ⟨b, junk, rfl, rfl, hall⟩
  · refine ⟨none, 0, 0, xa, r2.length, xc, #[], rows r2, rfl, rfl, rfl, hx, rows_size hr, by simp, hnone, fun h => ?_, fun _ => ⟨by simpa using hb, by simpa using hmax, fun newcap hn b hbf => ?_⟩⟩
    · have : r2 = [] := List.eq_nil_of_length_eq_zero (by omega)
      subst this
      exact hk _ [] (.inl ⟨rfl, rfl, rfl⟩)
    · rw [show (#[] : Array Value) ++ rows r2 ++ Builtin.zeroCells zero.cells (newcap - (0 + r2.length)) = rows ([] ++ r2 ++ List.replicate (newcap - r2.length) z) by rw [hz1, zeroRows z hz2]; simp only [Nat.zero_add, Array.empty_append, List.nil_append]; rw [rows_append]]
      refine ⟨_, Ent.swap3 [(b, _)] A B, hk _ [(b, _)] (.inr ⟨b, List.replicate (newcap - r2.length) z, ?_, rfl, ?_⟩)⟩
      · simp; omega
      · intro x hx
        rcases List.mem_append.1 hx with hx | hx
        · exact hr x hx
        · rw [List.eq_of_mem_replicate hx, hz2]
  · have hsz := rows_size hall
    have hallr : ∀ x ∈ rs, x.length = k := fun x hx => hall x (by simp [hx])
    have hold : rows rs = (rows (rs ++ junk)).extract 0 (0 + rs.length * k) := by
      rw [← rows_append]
      apply Array.ext'
      have := rows_size hallr
      have h2 : (rows rs).toList.length = rs.length * k := by rw [Array.length_toList]; exact this
      rw [Array.toList_extract, Array.toList_append, List.extract_eq_take_drop, List.drop_zero, Nat.zero_add, Nat.sub_zero, ← h2, List.take_left]
    refine ⟨some ⟨b, 0, none⟩, rs.length, rs.length + junk.length, xa, r2.length, xc, rows rs, rows r2, rfl, rfl, .inr ⟨rfl, _, elem, (0, 0), by simp, ?_, hold⟩, hx, rows_size hr, rows_size hallr, hnone, fun hfit => ?_, fun hgrow => ⟨hb, by omega, fun newcap hn b' hbf => ?_⟩⟩
    · rw [hsz]; simp only [List.length_append, Nat.zero_add]; exact Nat.mul_le_mul_right _ (by omega)
    · obtain ⟨j1, j2, rfl, hj⟩ : ∃ j1 j2, junk = j1 ++ j2 ∧ j1.length = r2.length := ⟨junk.take r2.length, junk.drop r2.length, (List.take_append_drop _ _).symm, by rw [List.length_take]; omega⟩
      have hallj : ∀ x ∈ j1, x.length = k := fun x hx => hall x (by simp [hx])
      refine ⟨_, elem, _, rfl, ?_, ((Upd.head _).append B).prepend A, hk _ [(b, _)] (.inr ⟨b, j2, ?_, ?_, ?_⟩)⟩
      · rw [hsz, List.length_append, List.length_append, hj, Nat.add_mul, Nat.add_mul]
        show 0 + rs.length * k + r2.length * k ≤ _
        omega
      · simp; omega
      · have e : (⟨b, 0, none⟩ : Addr).off + rs.length * k = rs.length * k := by simp
        have l1 := flatten_length rs hallr
        have l2 := flatten_length j1 hallj
        have l3 := flatten_length r2 hr
        have e2 : over (rows (rs ++ (j1 ++ j2))) (rs.length * k) (rows r2).toList = rows (rs ++ r2 ++ j2) := by
          unfold rows
          rw [List.flatten_append, List.flatten_append, List.toList_toArray, over_eq _ _ _ (by rw [List.length_append, List.length_append, l1, l2, l3, hj]; omega)]
          congr 1
          rw [List.flatten_append, List.flatten_append, ← l1, List.take_left, l3, ← hj, ← l2, List.drop_append, ← List.append_assoc]
          simp [List.drop_append]
        rw [e, e2]
      · intro x hx
        simp only [List.append_assoc, List.mem_append] at hx
        rcases hx with hx | hx | hx
        · exact hallr x hx
        · exact hr x hx
        · exact hall x (by simp [hx])
    · refine ⟨A ++ ([(b', _)] ++ B), ?_, hk _ [(b', _)] (.inr ⟨b', List.replicate (newcap - (rs.length + r2.length)) z, ?_, rfl, ?_⟩)⟩
      · rw [hz1, zeroRows z hz2, rows_append, rows_append]
        exact fun g w h => (Ent.segs [[_], A, [_], B] [[_], A, [_], B] ((List.perm_append_comm (l₁ := [_, A]) (l₂ := [_])).append_right [B] |>.trans (.cons _ (.swap _ _ _)) ) g w h).tail
      · simp; omega
      · intro x hx
        rcases List.mem_append.1 hx with hx | hx
        · rcases List.mem_append.1 hx with hx | hx
          · exact hallr x hx
          · exact hr x hx
        · rw [List.eq_of_mem_replicate hx, hz2]
def IOwn (T : TypeId) (kd : IntKind) (v : Value) (l : List Int) (C : Hp) : Prop := SOwn T 1 v (l.map fun n => [Value.int kd n]) C
theorem IOwn.nil {T : TypeId} {kd : IntKind} : IOwn T kd (.slice none 0 0) [] [] := SOwn.nil _ _
theorem IOwn.lenS {T : TypeId} {kd : IntKind} {v : Value} {l : List Int} {C : Hp} (h : IOwn T kd v l C) {K : Value → Prop} (hk : K (.int .i64 l.length)) : LenS v K := SOwn.lenS h (by simpa using hk)
theorem IOwn.ints {T : TypeId} {kd : IntKind} {v : Value} {l : List Int} {C : Hp} (h : IOwn T kd v l C) : Ints kd C v l := Sl.ofOwn h (by decide)
theorem IOwn.app {T : TypeId} {kd : IntKind} {v : Value} {l : List Int} {C A B : Hp} {bytes : Nat} (h : IOwn T kd v l C) {xb xc : Nat} {x : Int} {xT : TypeId} {fz : Nat × Nat} (hx : (xb, Obj.cells (icells kd [x]) xT fz) ∈ A ++ (C ++ B))
    (hb : (l.length + 1) * bytes ≤ 140737488355328) (hm : l.length + 1 ≤ 9223372036854775807) {K : Value → Hp → Prop} (hk : ∀ v' C', IOwn T kd v' (l ++ [x]) C' → K v' (A ++ (C' ++ B))) : App P T 1 bytes (.int kd 0) (A ++ (C ++ B)) v (.slice (some ⟨xb, 0, none⟩) 1 xc) K :=
  SOwn.app' (r := [.int kd x]) h hx rfl (by simp [Value.oneCell']) ⟨[.int kd 0], rfl, rfl⟩ (by simpa using hb) (by simpa using hm) fun v' C' ho => hk v' C' (by unfold IOwn; simpa using ho)
theorem IOwn.apps {T : TypeId} {kd : IntKind} {v x : Value} {l l2 : List Int} {C A B : Hp} {bytes : Nat} (h : IOwn T kd v l C) (hx : Ints kd (A ++ (C ++ B)) x l2)
    (hb : (l.length + l2.length) * bytes ≤ 140737488355328) (hm : l.length + l2.length ≤ 9223372036854775807) {K : Value → Hp → Prop} (hk : ∀ v' C', IOwn T kd v' (l ++ l2) C' → K v' (A ++ (C' ++ B))) : App P T 1 bytes (.int kd 0) (A ++ (C ++ B)) v x K := by
  obtain ⟨a, cap, rfl, hc⟩ := Sl.cells hx
  exact SOwn.apps h hc (by simp) (by simp [Value.oneCell']) ⟨[.int kd 0], rfl, rfl⟩ (by simpa using hb) (by simpa using hm) fun v' C' ho => hk v' C' (by unfold IOwn; rw [List.map_append]; exact ho)
theorem BuildSl.ints3 {t e : Nat} {kd : IntKind} {x y z : Int} {K : Value → Hp → Prop} (h1 : P.underlying t = some (.slice e)) (h2 : sizeD P e = some 1) (h3 : zeroD P e = some (.int kd 0))
    (h : ∀ b, K (.slice (some ⟨b, 0, Option.none⟩) 3 3) ((b, .cells (icells kd [x, y, z]) e (0, 0)) :: H)) : BuildSl P t 3 [(0, .int kd x), (1, .int kd y), (2, .int kd z)] H K := by
  refine ⟨icells kd [x, y, z], e, 1, _, h1, h2, h3, by decide, ?_, fun b _ => h b⟩
  have e1 : Array.range (3 * 1) = #[0, 1, 2] := rfl
  simp [Instr.fill, Value.cells, icells, e1]
end
end Go.Sx
namespace Go.Sx
open Go
section
variable {P : Program} {g : Gh} {H : Hp}
def Plain2 (P : Program) (t : TypeId) (x y : Value) : Prop :=
  (∃ q a b, P.underlying t = some (.int q) ∧ x = .int q a ∧ y = .int q b) ∨ (∃ a b, P.underlying t = some .bool ∧ x = .bool a ∧ y = .bool b)
theorem Plain2.eq {t : TypeId} {x y : Value} (h : Plain2 P t x y) (d : Nat) (w : World) : ∃ b, (Op.equalIn (d + 1) t x y).run P w = .ok b w ∧ (b = true ↔ x = y) := by
  rcases h with ⟨q, a, b, hu, rfl, rfl⟩ | ⟨a, b, hu, rfl, rfl⟩
  · exact ⟨a == b, by simp [Op.equalIn, run_underlying hu], by simp⟩
  · exact ⟨a == b, by simp [Op.equalIn, run_underlying hu], by simp⟩
theorem part_plain {t : TypeId} {xs : Array Value} {o : Nat} {x : Value} (hu : (∃ q, P.underlying t = some (.int q)) ∨ P.underlying t = some .bool) (h : xs[o]? = some x) (w : World) : (part t xs o).run P w = .ok x w := by
  rcases hu with ⟨q, hu⟩ | hu <;> simp [part, isAgg, run_underlying hu, h]
theorem eqFields_flat (d : Nat) (xs ys : Array Value) (w : World) : ∀ fs : List Field, (∀ f ∈ fs, f.name ≠ "_" ∧ ∃ x y, xs[f.offset]? = some x ∧ ys[f.offset]? = some y ∧ Plain2 P f.type x y) →
    ∃ b, (Op.eqFields (d + 1) xs ys fs).run P w = .ok b w ∧ (b = true ↔ ∀ f ∈ fs, xs[f.offset]? = ys[f.offset]?)
  | [], _ => ⟨true, by simp [Op.eqFields], by simp⟩
  | f :: fs, h => by
    obtain ⟨hn, x, y, hx, hy, hp⟩ := h f (by simp)
    obtain ⟨b', ih, hb'⟩ := eqFields_flat d xs ys w fs fun g hg => h g (by simp [hg])
    have hu : (∃ q, P.underlying f.type = some (.int q)) ∨ P.underlying f.type = some .bool := by
      rcases hp with ⟨q, _, _, hu, _⟩ | ⟨_, _, hu, _⟩
      · exact .inl ⟨q, hu⟩
      · exact .inr hu
    obtain ⟨b, hr, hb⟩ := hp.eq d w
    have p1 := part_plain hu hx w
    have p2 := part_plain hu hy w
    cases b with
    | false =>
      refine ⟨false, by simp [Op.eqFields, hn, p1, p2, hr], ?_⟩
      simp only [Bool.false_eq_true, List.mem_cons, forall_eq_or_imp, false_iff, hx, hy, Option.some.injEq]
      exact fun hh => absurd (hb.2 hh.1) (by decide)
    | true =>
      refine ⟨b', by simp [Op.eqFields, hn, p1, p2, hr, ih], ?_⟩
      rw [hb']
      simp only [List.mem_cons, forall_eq_or_imp, hx, hy, Option.some.injEq, hb.1 rfl, true_and]
theorem EqV.flat {t : TypeId} {fs : Array Field} (ht : P.underlying t = some (.struct fs)) (hp : P.stoodInHeld t = false) {xs ys : Array Value} {p : Prop} [Decidable p]
    (h : ∀ f ∈ fs.toList, f.name ≠ "_" ∧ ∃ x y, xs[f.offset]? = some x ∧ ys[f.offset]? = some y ∧ Plain2 P f.type x y) (he : (∀ f ∈ fs.toList, xs[f.offset]? = ys[f.offset]?) ↔ p) : EqV P t (.agg xs) (.agg ys) (decide p) := by
  have e : P.fieldsOf t = fs := by simp [Program.fieldsOf, ht]
  intro w
  show (Op.equalIn (9998 + 1 + 1) t _ _).run P w = _
  rw [run_equalIn_struct w (9998 + 1) t xs ys (by rw [e]; exact ht) hp, e]
  obtain ⟨b, hr, hb⟩ := eqFields_flat (P := P) 9998 xs ys w fs.toList h
  rw [hr]
  congr 1
  rw [Bool.eq_iff_iff, hb, he, decide_eq_true_eq]
theorem ChkV.flat {t : TypeId} {fs : Array Field} (ht : P.underlying t = some (.struct fs)) {xs : Array Value}
    (h : ∀ f ∈ fs.toList, f.name ≠ "_" ∧ ∃ x, xs[f.offset]? = some x ∧ Plain2 P f.type x x) : ChkV P t (.agg xs) := by
  intro b w
  have gen : ∀ d, (Instr.checkKey b (d + 1 + 1) t (.agg xs)).run P w = .ok () w := by
    intro d
    unfold Instr.checkKey
    simp only [Sem.run_bind, run_underlying ht, Result.andThen_ok]
    rw [← Array.forIn_toList]
    clear ht
    generalize fs.toList = l at h
    induction l with
    | nil => simp
    | cons f l ih =>
      obtain ⟨hn, x, hx, hp⟩ := h f (by simp)
      have hu : (∃ q, P.underlying f.type = some (.int q)) ∨ P.underlying f.type = some .bool := by
        rcases hp with ⟨q, _, _, hu, _⟩ | ⟨_, _, hu, _⟩
        · exact .inl ⟨q, hu⟩
        · exact .inr hu
      have p1 := part_plain hu hx w
      have p2 : (Instr.checkKey b (d + 1) f.type x).run P w = .ok () w := by
        rcases hp with ⟨q, a, _, hu, rfl, _⟩ | ⟨a, _, hu, rfl, _⟩
        · simp only [Instr.checkKey, Sem.run_bind, run_underlying hu, Result.andThen_ok, Sem.run_pure]
        · simp only [Instr.checkKey, Sem.run_bind, run_underlying hu, Result.andThen_ok, Sem.run_pure]
      have := ih fun g hg => h g (by simp [hg])
      simp only [List.forIn_cons, Sem.run_bind]
      simp [hn, p1, p2]
      simpa using this
  exact gen 9998
theorem sameBits_flat (n : Nat) {xs : Array Value} (h : ∀ x ∈ xs.toList, (∃ q a, x = .int q a) ∨ ∃ a, x = .bool a) : Instr.sameBits (n + 1 + 1) (.agg xs) (.agg xs) = true := by
  simp only [Instr.sameBits, beq_self_eq_true, Bool.true_and, List.all_eq_true]
  intro x hx
  obtain ⟨a, b⟩ := x
  have h1 := List.of_mem_zip hx
  have e : a = b := by
    obtain ⟨i, hi, he⟩ := List.mem_iff_getElem.1 hx
    simp at he
    exact he.1.symm.trans he.2
  subst e
  rcases h a h1.1 with ⟨q, z, rfl⟩ | ⟨z, rfl⟩ <;> simp [Instr.sameBits]
end
section
variable {κ : Type} [DecidableEq κ] {β : Type} {ke : κ → Value} {vr : Value → β → Prop} {es : Array MapEntry} {ck b : Nat} {m : List (κ × β)} {P : Program} {H : Hp}
def mdel (m : List (κ × β)) (k : κ) : List (κ × β) := m.filter fun y => ¬ y.1 = k
theorem mget_mdel {k k' : κ} : mget (mdel m k) k' = if k' = k then none else mget m k' := by
  unfold mget mdel
  rw [List.find?_filter]
  by_cases e : k' = k
  · rw [if_pos e]
    rw [List.find?_eq_none.2]
    · rfl
    · intro x _; simp; intro h1 h2; exact h1 (h2.trans e)
  · rw [if_neg e]
    congr 1
    congr 1
    funext y
    by_cases e2 : y.1 = k'
    · have : ¬ y.1 = k := fun e3 => e (e2.symm.trans e3)
      simp [e2, this, e]
    · simp [e2]
theorem mget_mset {k k' : κ} {x : β} : mget (mset m k x) k' = if k' = k then some x else mget m k' := by
  unfold mget mset
  by_cases hk : k ∈ m.map Prod.fst
  · rw [if_pos hk]
    by_cases e : k' = k
    · subst e
      rw [if_pos rfl]
      induction m with
      | nil => simp at hk
      | cons y m ih =>
        rw [List.map_cons, List.find?_cons]
        by_cases ey : y.1 = k'
        · simp [ey]
        · rw [if_neg ey]
          simp only [ey, decide_false]
          rw [ih]
          rw [List.map_cons] at hk
          rcases List.mem_cons.1 hk with h | h
          · exact absurd h.symm ey
          · simpa using h
    · rw [if_neg e]
      have : ∀ l : List (κ × β), (List.find? (fun y => decide (y.1 = k')) (l.map fun y => if y.1 = k then (k, x) else y)).map Prod.snd = (List.find? (fun y => decide (y.1 = k')) l).map Prod.snd := by
        intro l
        induction l with
        | nil => rfl
        | cons y l ih =>
          rw [List.map_cons, List.find?_cons, List.find?_cons]
          by_cases ey : y.1 = k
          · have h1 : decide (k = k') = false := by simpa using fun h => e h.symm
            have h2 : decide (y.1 = k') = false := by rw [ey]; exact h1
            simp only [if_pos ey, h1, h2]
            exact ih
          · simp only [if_neg ey]
            cases decide (y.1 = k') with
            | true => rfl
            | false => exact ih
      exact this m
  · rw [if_neg hk]
    rw [List.find?_append]
    by_cases e : k' = k
    · subst e
      have : List.find? (fun y => decide (y.1 = k')) m = none := by
        rw [List.find?_eq_none]; intro y hy; simp; intro h; exact hk (List.mem_map.2 ⟨y, hy, h⟩)
      simp [this]
    · have : ¬ k = k' := fun h => e h.symm
      rw [if_neg e]
      cases List.find? (fun y => decide (y.1 = k')) m <;> simp [this]
theorem mdel_erase (nd : (m.map Prod.fst).Nodup) {i : Nat} {k : κ} {y : β} (hi : m[i]? = some (k, y)) : mdel m k = m.eraseIdx i := by
  unfold mdel
  induction m generalizing i with
  | nil => simp at hi
  | cons z m ih =>
    rw [List.map_cons, List.nodup_cons] at nd
    cases i with
    | zero =>
      simp at hi; subst hi
      rw [List.eraseIdx_cons_zero, List.filter_cons_of_neg (by simp)]
      rw [List.filter_eq_self]
      intro w hw
      simp only [decide_not, Bool.not_eq_true', decide_eq_false_iff_not]
      intro e
      exact nd.1 (List.mem_map.2 ⟨w, hw, e⟩)
    | succ i =>
      simp at hi
      have hz : ¬ z.1 = k := fun e => nd.1 (List.mem_map.2 ⟨_, List.mem_of_getElem? hi, e.symm⟩)
      rw [List.eraseIdx_cons_succ, List.filter_cons_of_pos (by simpa using hz), ih nd.2 hi]
omit [DecidableEq κ] in
theorem Ents.less (h : Ents ke vr es ck m) (i : Nat) : Ents ke vr (es.eraseIdxIfInBounds i) ck (m.eraseIdx i) := by
  have hl : (es.eraseIdxIfInBounds i).toList = es.toList.eraseIdx i := by
    unfold Array.eraseIdxIfInBounds
    split
    · simp
    · rename_i hh; rw [List.eraseIdx_of_length_le (by simpa using hh)]
  refine ⟨?_, fun j e x he hx => ?_, ?_, ?_, fun e he => ?_⟩
  · have := congrArg List.length hl
    rw [Array.length_toList, List.length_eraseIdx] at this
    rw [this, List.length_eraseIdx, Array.length_toList, h.len]
  · rw [← Array.getElem?_toList, hl, List.getElem?_eraseIdx] at he
    rw [List.getElem?_eraseIdx] at hx
    split at he
    · rename_i hh; rw [if_pos hh] at hx; exact h.key j e x (by simpa using he) hx
    · rename_i hh; rw [if_neg hh] at hx; exact h.key (j + 1) e x (by simpa using he) hx
  · rw [← eraseIdx_map]; exact h.nd.sublist (List.eraseIdx_sublist _ _)
  · rw [hl, ← eraseIdx_map]; exact h.born.sublist (List.eraseIdx_sublist _ _)
  · rw [hl] at he; exact h.lt e (List.mem_of_mem_eraseIdx he)
theorem Ents.delS {P : Program} {kt : TypeId} {k : κ} {K : Hp → Prop} (hk : ∀ a b, EqV P kt (ke a) (ke b) (decide (a = b))) (hc : ∀ a, ChkV P kt (ke a)) (h : Ents ke vr es ck m) (hm : (b, Obj.map es ck) ∈ H)
    (h1 : ∀ es', Ents ke vr es' ck (mdel m k) → ∃ H', Upd b (.map es ck) (.map es' ck) H H' ∧ K H') : MapDelS P kt H (.map (some b)) (ke k) K := by
  refine ⟨hc k, .inr ?_⟩
  rcases h.findS hk k with ⟨i, y, e, g1, g2, g3, g4⟩ | ⟨g1, g2⟩
  · refine ⟨b, es, ck, _, rfl, g4, ?_⟩
    have := h.less i
    rw [← mdel_erase h.nd g2] at this
    exact h1 _ this
  · refine ⟨b, es, ck, _, rfl, g2, hm, ?_⟩
    have e : mdel m k = m := by
      unfold mdel
      rw [List.filter_eq_self]
      intro w hw
      simp only [decide_not, Bool.not_eq_true', decide_eq_false_iff_not]
      intro e
      exact g1 (List.mem_map.2 ⟨w, hw, e⟩)
    obtain ⟨H', hu, hK⟩ := h1 es (by rw [e]; exact h)
    have : ∀ {H H' : Hp} , Upd b (.map es ck) (.map es ck) H H' → H' = H := by
      intro H H' hu
      generalize ho : Obj.map es ck = o at hu
      induction hu with
      | head R => rfl
      | tail _ ih => rw [ih]
    rw [this hu] at hK; exact hK
end
section
variable {P : Program} {H : Hp}
theorem SOwn.ldRow {T : TypeId} {k : Nat} {v : Value} {rs : List (List Value)} {C : Hp} (hs : SOwn T k v rs C) {i : Nat} {kd : IntKind} {r : List Value} (hr : rs[i]? = some r) (hC : ∀ y ∈ C, y ∈ H) {K : Value → Prop} (hk : K (.agg r.toArray)) :
    IAddr k v (.int kd (i : Int)) fun p => LdA k H p K := by
  have hi := (List.getElem?_eq_some_iff.1 hr).1
  obtain ⟨b', junk, rfl, rfl, hall⟩ := hs.pos (by omega)
  exact IAddr.nat hi (LdA.row (hC _ (List.Mem.head _)) hall (by rw [List.getElem?_append_left hi]; exact hr) hk)
theorem SOwn.ldCell {T : TypeId} {k : Nat} {v x : Value} {rs : List (List Value)} {C : Hp} (hs : SOwn T k v rs C) {i j : Nat} {kd : IntKind} {r : List Value} (hr : rs[i]? = some r) (hj : r[j]? = some x) (hC : ∀ y ∈ C, y ∈ H) {K : Value → Prop} (hk : K x) :
    IAddr k v (.int kd (i : Int)) fun p => FAddr j p fun q => Ld H q K := by
  have hi := (List.getElem?_eq_some_iff.1 hr).1
  obtain ⟨b', junk, rfl, rfl, hall⟩ := hs.pos (by omega)
  exact IAddr.nat hi (FAddr.mk (Ld.row (hC _ (List.Mem.head _)) hall (by rw [List.getElem?_append_left hi]; exact hr) hj hk))
theorem SOwn.ld1 {T : TypeId} {v x : Value} {rs : List (List Value)} {C : Hp} (hs : SOwn T 1 v rs C) {i : Nat} {kd : IntKind} (hr : rs[i]? = some [x]) (hC : ∀ y ∈ C, y ∈ H) {K : Value → Prop} (hk : K x) :
    IAddr 1 v (.int kd (i : Int)) fun p => Ld H p K := by
  have hi := (List.getElem?_eq_some_iff.1 hr).1
  obtain ⟨b', junk, rfl, rfl, hall⟩ := hs.pos (by omega)
  exact IAddr.nat hi (Ld.row1 (l := rs ++ junk) (hC _ (List.Mem.head _)) hall (by rw [List.getElem?_append_left hi]; exact hr) hk)
theorem SOwn.ldPart {T : TypeId} {k n : Nat} {v : Value} {rs : List (List Value)} {C : Hp} (hs : SOwn T k v rs C) {i : Nat} {kd : IntKind} {r : List Value} (hr : rs[i]? = some r) (hn : 0 < n ∧ n ≤ k) (hC : ∀ y ∈ C, y ∈ H) {K : Value → Prop} (hk : K (.agg (r.take n).toArray)) :
    IAddr k v (.int kd (i : Int)) fun p => FAddr 0 p fun q => LdA n H q K := by
  have hi := (List.getElem?_eq_some_iff.1 hr).1
  obtain ⟨b', junk, rfl, rfl, hall⟩ := hs.pos (by omega)
  have hrl : r.length = k := hall r (List.mem_append_left _ (List.mem_of_getElem? hr))
  refine IAddr.nat hi (FAddr.mk ?_)
  have hat : At H (.pointer (some ⟨b', 0 + i * k + 0, none⟩)) (r.take n) := ⟨b', _, _, _, _, rfl, hC _ (List.Mem.head _), fun j x hj => by
    have hjn : j < n := by have := (List.getElem?_eq_some_iff.1 hj).1; simp at this; omega
    rw [List.getElem?_take, if_pos hjn] at hj
    rw [Nat.add_zero, Nat.zero_add, rows_get hall (by omega), List.getElem?_append_left hi, hr]; exact hj⟩
  exact LdA.at hat (by simp; omega) hn.1 (fun _ h => h) hk
theorem rows_over {k : Nat} {l : List (List Value)} (h : ∀ r ∈ l, r.length = k) {i : Nat} {r xs : List Value} (hi : l[i]? = some r) (hx : xs.length ≤ k) : over (rows l) (i * k) xs = rows (l.set i (xs ++ r.drop xs.length)) := by
  have hlt := (List.getElem?_eq_some_iff.1 hi).1
  have hr := h r (List.mem_of_getElem? hi)
  have key : ∀ (xs : List Value) (j : Nat) (l : List (List Value)) (r : List Value), (∀ r ∈ l, r.length = k) → l[i]? = some r → j + xs.length ≤ k → over (rows l) (i * k + j) xs = rows (l.set i (r.take j ++ xs ++ r.drop (j + xs.length))) := by
    intro xs
    induction xs with
    | nil =>
      intro j l r h hi _
      have hlt := (List.getElem?_eq_some_iff.1 hi).1
      simp only [over, List.append_nil, List.length_nil, Nat.add_zero, List.take_append_drop]
      congr 1
      apply List.ext_getElem?
      intro m
      rw [List.getElem?_set]
      by_cases e : i = m
      · subst e; rw [if_pos rfl, hi, if_pos hlt]
      · rw [if_neg e]
    | cons x xs ih =>
      intro j l r h hi hj
      have hr := h r (List.mem_of_getElem? hi)
      have hlt := (List.getElem?_eq_some_iff.1 hi).1
      simp only [List.length_cons] at hj
      rw [over, rows_set_cell h hi (by omega), Nat.add_assoc]
      rw [ih (j + 1) (l.set i (r.set j x)) (r.set j x) (fun y hy => by
        rcases List.mem_or_eq_of_mem_set hy with hy | rfl
        · exact h y hy
        · simpa using hr) (by simp [hlt]) (by omega)]
      rw [List.set_set]
      congr 2
      have e1 : (r.set j x).take (j + 1) = r.take j ++ [x] := by
        rw [List.set_eq_take_append_cons_drop, if_pos (by omega), List.take_append]
        simp [List.take_take, show min (j + 1) j = j by omega, show j + 1 - min j r.length = 1 by omega]
      have e2 : (r.set j x).drop (j + 1 + xs.length) = r.drop (j + (x :: xs).length) := by
        rw [List.drop_set, if_pos (by omega)]
        congr 1
        simp; omega
      rw [e1, e2]
      simp
  have := key xs 0 l r h hi (by omega)
  simpa using this
theorem SOwn.putPart {T : TypeId} {k n : Nat} {v : Value} {rs : List (List Value)} {C A B : Hp} (hs : SOwn T k v rs C) {i : Nat} {kd : IntKind} {r xs : List Value} (hr : rs[i]? = some r) (hx : xs.length = n ∧ n ≤ k) (h1 : ∀ x ∈ xs, x.oneCell' = true) {K : Hp → Prop}
    (hk : ∀ C', SOwn T k v (rs.set i (xs ++ r.drop n)) C' → K (A ++ (C' ++ B))) : IAddr k v (.int kd (i : Int)) fun p => FAddr 0 p fun q => St n (A ++ (C ++ B)) q (.agg xs.toArray) K := by
  have hi := (List.getElem?_eq_some_iff.1 hr).1
  obtain ⟨b', junk, rfl, rfl, hall⟩ := hs.pos (by omega)
  refine IAddr.nat hi (FAddr.mk ?_)
  have hg : (rs ++ junk)[i]? = some r := by rw [List.getElem?_append_left hi]; exact hr
  have e : (rs ++ junk).set i (xs ++ r.drop xs.length) = rs.set i (xs ++ r.drop n) ++ junk := by rw [List.set_append_left _ _ hi, hx.1]
  refine St.mk (c' := rows (rs.set i (xs ++ r.drop n) ++ junk)) (H' := A ++ ([(b', .cells (rows (rs.set i (xs ++ r.drop n) ++ junk)) T (0, 0))] ++ B)) (((Upd.head _).append B).prepend A) (by simpa [Value.cells] using hx.1) ?_ (by simpa [Value.cells] using h1) ?_ ?_
  · rw [rows_size hall, Nat.zero_add, Nat.add_zero, List.length_append]
    have := Nat.mul_le_mul_right k (Nat.succ_le_of_lt hi)
    rw [Nat.succ_mul] at this
    have h2 : rs.length * k ≤ (rs.length + junk.length) * k := Nat.mul_le_mul_right k (by omega)
    omega
  · simp only [Value.cells, Nat.zero_add, Nat.add_zero]
    rw [rows_over hall hg (by omega), e]
  · have hrl : r.length = k := hall r (List.mem_append_left _ (List.mem_of_getElem? hr))
    refine hk _ (SOwn.mk' (junk := junk) (fun y hy => ?_) (by simp) (by simp))
    rcases List.mem_append.1 hy with hy | hy
    · rcases List.mem_or_eq_of_mem_set hy with hy | rfl
      · exact hall y (List.mem_append_left _ hy)
      · simp; omega
    · exact hall y (List.mem_append_right _ hy)
theorem SOwn.putRow {T : TypeId} {k : Nat} {v : Value} {rs : List (List Value)} {C A B : Hp} (hs : SOwn T k v rs C) {i : Nat} {kd : IntKind} {xs : List Value} (hi : i < rs.length) (hx : xs.length = k) (h1 : ∀ x ∈ xs, x.oneCell' = true) {K : Hp → Prop}
    (hk : ∀ C', SOwn T k v (rs.set i xs) C' → K (A ++ (C' ++ B))) : IAddr k v (.int kd (i : Int)) fun p => St k (A ++ (C ++ B)) p (.agg xs.toArray) K := by
  obtain ⟨b', junk, rfl, rfl, hall⟩ := hs.pos (by omega)
  refine IAddr.nat hi (St.row (l := rs ++ junk) (((Upd.head _).append B).prepend A) hall (by simp; omega) hx h1 ?_)
  have e : (rs ++ junk).set i xs = rs.set i xs ++ junk := by rw [List.set_append_left _ _ hi]
  rw [e]
  refine hk [(b', _)] (SOwn.mk' (junk := junk) (fun y hy => ?_) (by simp) (by simp))
  rcases List.mem_append.1 hy with hy | hy
  · rcases List.mem_or_eq_of_mem_set hy with hy | rfl
    · exact hall y (List.mem_append_left _ hy)
    · exact hx
  · exact hall y (List.mem_append_right _ hy)
theorem IOwn.ld {T : TypeId} {kd kd' : IntKind} {v : Value} {l : List Int} {C : Hp} (hs : IOwn T kd v l C) {i : Nat} {x : Int} (hx : l[i]? = some x) (hC : ∀ y ∈ C, y ∈ H) {K : Value → Prop} (hk : K (.int kd x)) : IAddr 1 v (.int kd' (i : Int)) fun p => Ld H p K :=
  SOwn.ld1 hs (x := .int kd x) (by simp [hx]) hC hk
theorem IOwn.put {T : TypeId} {kd kd' : IntKind} {v : Value} {l : List Int} {C A B : Hp} (hs : IOwn T kd v l C) {i : Nat} {x : Int} (hi : i < l.length) {K : Hp → Prop}
    (hk : ∀ C', IOwn T kd v (l.set i x) C' → K (A ++ (C' ++ B))) : IAddr 1 v (.int kd' (i : Int)) fun p => St 1 (A ++ (C ++ B)) p (.int kd x) K := by
  have hi' : i < (l.map fun n => [Value.int kd n]).length := by simpa using hi
  obtain ⟨b', junk, rfl, rfl, hall⟩ := SOwn.pos hs (by omega)
  refine IAddr.nat hi' ?_
  refine St.cell (l := l.map (fun n => [Value.int kd n]) ++ junk) (i := i) (k := 1) (j := 0) (r := [.int kd l[i]]) (((Upd.head _).append B).prepend A) hall (by rw [List.getElem?_append_left hi']; simp [hi]) (by omega) rfl ?_
  have e : (l.map (fun n => [Value.int kd n]) ++ junk).set i ([Value.int kd l[i]].set 0 (.int kd x)) = (l.set i x).map (fun n => [Value.int kd n]) ++ junk := by
    rw [List.set_append_left _ _ hi', List.map_set]; rfl
  rw [e]
  refine hk [(b', _)] (SOwn.mk' (junk := junk) (fun r hr' => ?_) (by simp) (by simp))
  rcases List.mem_append.1 hr' with hr' | hr'
  · obtain ⟨y, _, rfl⟩ := List.mem_map.1 hr'; rfl
  · exact hall r (List.mem_append_right _ hr')
theorem Ent.nil {H : Hp} : Ent H [] := fun _ _ h => h.right0
theorem SOwn.cut {T : TypeId} {k i : Nat} {v : Value} {rs : List (List Value)} {C : Hp} (hs : SOwn T k v rs C) (hi : i ≤ rs.length) {kd : IntKind} {K : Value → Prop} (hk : ∀ v', SOwn T k v' (rs.take i) C → K v') :
    SliceE k v none (some (.int kd (i : Int))) K := by
  by_cases hp : 0 < rs.length
  · obtain ⟨b', junk, rfl, rfl, hall⟩ := hs.pos hp
    refine SliceE.upto (by omega) (hk _ ?_)
    have e : rs ++ junk = rs.take i ++ (rs.drop i ++ junk) := by rw [← List.append_assoc, List.take_append_drop]
    rw [e] at hall ⊢
    exact SOwn.mk' hall (by simp; omega) (by simp; omega)
  · obtain rfl : rs = [] := List.eq_nil_of_length_eq_zero (by omega)
    obtain rfl : i = 0 := by simpa using hi
    obtain ⟨a, c, rfl⟩ := hs.len
    exact SliceE.upto (Nat.zero_le _) (hk _ (by simpa using hs))
theorem IOwn.cut {T : TypeId} {kd kd' : IntKind} {i : Nat} {v : Value} {l : List Int} {C : Hp} (hs : IOwn T kd v l C) (hi : i ≤ l.length) {K : Value → Prop} (hk : ∀ v', IOwn T kd v' (l.take i) C → K v') :
    SliceE 1 v none (some (.int kd' (i : Int))) K :=
  SOwn.cut hs (by simpa using hi) fun v' h => hk v' (by unfold IOwn; rw [List.map_take]; exact h)
end
end Go.Sx
namespace Go.Sx
open Go
section
variable {P : Program} {H C : Hp} {c : Hp → Hp}
theorem Hole.split (h : Hole C H c) : ∃ A B, ∀ X, c X = A ++ (X ++ B) := by
  induction h with
  | here => exact ⟨[], [], fun X => by simp⟩
  | @left A => exact ⟨[], A, fun X => rfl⟩
  | @cons x H c h ih =>
    obtain ⟨A, B, e⟩ := ih
    exact ⟨x :: A, B, fun X => by show x :: c X = _; rw [e]; rfl⟩
  | @app A' H c h ih =>
    obtain ⟨A, B, e⟩ := ih
    exact ⟨A' ++ A, B, fun X => by show A' ++ c X = _; rw [e, List.append_assoc]⟩
theorem Hole.sub (h : Hole C H c) : ∀ x ∈ C, x ∈ H := fun x hx => by
  obtain ⟨A, B, e⟩ := h.split
  rw [h.spec.1, e]
  exact List.mem_append_right _ (List.mem_append_left _ hx)
theorem SOwn.appH {elem k bytes : Nat} {zero : Value} {v : Value} {rs : List (List Value)} (h : SOwn elem k v rs C) (hh : Hole C H c) {xb : Nat} {r : List Value} {xT : TypeId} {fz : Nat × Nat} {xc : Nat}
    (hx : (xb, Obj.cells r.toArray xT fz) ∈ H) (hr : r.length = k) (h1 : ∀ u ∈ r, u.oneCell' = true) (hz : ∃ z : List Value, zero.cells = z.toArray ∧ z.length = k)
    (hb : (rs.length + 1) * bytes ≤ 140737488355328) (hmax : rs.length + 1 ≤ 9223372036854775807) {K : Value → Hp → Prop}
    (hk : ∀ v' C', SOwn elem k v' (rs ++ [r]) C' → K v' (c C')) : App P elem k bytes zero H v (.slice (some ⟨xb, 0, none⟩) 1 xc) K := by
  obtain ⟨A, B, e⟩ := hh.split
  have e2 := hh.spec.1
  rw [e] at e2
  subst e2
  exact h.app' hx hr h1 hz hb hmax fun v' C' ho => by have := hk v' C' ho; rwa [e] at this
theorem IOwn.appH {T : TypeId} {kd : IntKind} {v : Value} {l : List Int} {bytes : Nat} (h : IOwn T kd v l C) (hh : Hole C H c) {xb xc : Nat} {x : Int} {xT : TypeId} {fz : Nat × Nat} (hx : (xb, Obj.cells (icells kd [x]) xT fz) ∈ H)
    (hb : (l.length + 1) * bytes ≤ 140737488355328) (hm : l.length + 1 ≤ 9223372036854775807) {K : Value → Hp → Prop} (hk : ∀ v' C', IOwn T kd v' (l ++ [x]) C' → K v' (c C')) : App P T 1 bytes (.int kd 0) H v (.slice (some ⟨xb, 0, none⟩) 1 xc) K := by
  obtain ⟨A, B, e⟩ := hh.split
  have e2 := hh.spec.1
  rw [e] at e2
  subst e2
  exact h.app hx hb hm fun v' C' ho => by have := hk v' C' ho; rwa [e] at this
theorem IOwn.appsH {T : TypeId} {kd : IntKind} {v x : Value} {l l2 : List Int} {bytes : Nat} (h : IOwn T kd v l C) (hh : Hole C H c) (hx : Ints kd H x l2)
    (hb : (l.length + l2.length) * bytes ≤ 140737488355328) (hm : l.length + l2.length ≤ 9223372036854775807) {K : Value → Hp → Prop} (hk : ∀ v' C', IOwn T kd v' (l ++ l2) C' → K v' (c C')) : App P T 1 bytes (.int kd 0) H v x K := by
  obtain ⟨A, B, e⟩ := hh.split
  have e2 := hh.spec.1
  rw [e] at e2
  subst e2
  exact h.apps hx hb hm fun v' C' ho => by have := hk v' C' ho; rwa [e] at this
theorem IOwn.putH {T : TypeId} {kd kd' : IntKind} {v : Value} {l : List Int} (hs : IOwn T kd v l C) (hh : Hole C H c) {i : Nat} {x : Int} (hi : i < l.length) {K : Hp → Prop}
    (hk : ∀ C', IOwn T kd v (l.set i x) C' → K (c C')) : IAddr 1 v (.int kd' (i : Int)) fun p => St 1 H p (.int kd x) K := by
  obtain ⟨A, B, e⟩ := hh.split
  have e2 := hh.spec.1
  rw [e] at e2
  subst e2
  exact hs.put hi fun C' ho => by have := hk C' ho; rwa [e] at this
theorem IOwn.one {T : TypeId} {kd : IntKind} {v : Value} {l : List Int} (h : IOwn T kd v l C) : v.oneCell' = true := by obtain ⟨a, c, e⟩ := SOwn.len h; rw [e]; rfl
theorem iw_set (l : List Nat) (i x : Nat) : (iw l).set i (x : Int) = iw (l.set i x) := by unfold iw; rw [List.map_set]
theorem iw_append (a b : List Nat) : iw (a ++ b) = iw a ++ iw b := by unfold iw; rw [List.map_append]
theorem iw_getD {l : List Nat} {i : Nat} (h : i < l.length) : (iw l)[i]? = some ((l.getD i 0 : Nat) : Int) := by
  rw [iw_get (List.getElem?_eq_getElem h)]; simp [List.getD, List.getElem?_eq_getElem h]
end
end Go.Sx
namespace Go.Sx
open Go
theorem least_of {p : Nat → Prop} (h : ∃ k, p k) : ∃ k, p k ∧ ∀ j, p j → k ≤ j := by
  obtain ⟨k, hk⟩ := h
  induction k using Nat.strongRecOn with
  | _ k ih =>
    by_cases e : ∃ j, j < k ∧ p j
    · obtain ⟨j, hj, hp⟩ := e; exact ih j hj hp
    · exact ⟨k, hk, fun j hp => Nat.le_of_not_lt fun hlt => e ⟨j, hlt, hp⟩⟩
open Classical in
noncomputable def leastK (J : Nat → List Value → Hp → Prop) (vs : List Value) (H : Hp) : Nat := if h : ∃ k, J k vs H then Classical.choose (least_of h) else 0
theorem leastK_le {J : Nat → List Value → Hp → Prop} {vs : List Value} {H : Hp} {k : Nat} (h : J k vs H) : leastK J vs H ≤ k := by
  unfold leastK
  rw [dif_pos ⟨k, h⟩]
  exact (Classical.choose_spec (least_of ⟨k, h⟩)).2 k h
theorem leastK_spec {J : Nat → List Value → Hp → Prop} {vs : List Value} {H : Hp} (h : ∃ k, J k vs H) : J (leastK J vs H) vs H := by
  unfold leastK
  rw [dif_pos h]
  exact (Classical.choose_spec (least_of h)).1
def SomeJ (J : Nat → List Value → Hp → Prop) : List Value → Hp → Prop := fun vs H => ∃ k, J k vs H
theorem SomeJ.open {J : Nat → List Value → Hp → Prop} {vs : List Value} {H : Hp} (h : SomeJ J vs H) : ∃ k, J k vs H ∧ k = leastK J vs H := ⟨_, leastK_spec h, rfl⟩
theorem SomeJ.mk {J : Nat → List Value → Hp → Prop} {vs : List Value} {H : Hp} (k : Nat) (h : J k vs H) : JE (SomeJ J) vs H := JE.mk ⟨k, h⟩
theorem SomeJ.back {J : Nat → List Value → Hp → Prop} {vs vs' : List Value} {H H' H0 : Hp} {k : Nat} (e : Ent H H') (hk : k = leastK J vs H0) (k' : Nat) (h : J k' vs' H') (hlt : k' < k) : Back (SomeJ J) (leastK J) vs' H vs H0 :=
  Back.of e ⟨k', h⟩ (Nat.lt_of_le_of_lt (leastK_le h) (by omega))
theorem loopJ {vs : List Value} {H : Hp} {Q : (List Value → Hp → Prop) → (List Value → Hp → Nat) → Prop} (J : Nat → List Value → Hp → Prop) (k : Nat) (h : J k vs H) (hq : Q (SomeJ J) (leastK J)) :
    ∃ (I : List Value → Hp → Prop) (m : List Value → Hp → Nat), JE I vs H ∧ Q I m := ⟨_, _, SomeJ.mk k h, hq⟩
section
variable {P : Program} {H : Hp}
theorem BuildSl.ints2 {t e : Nat} {kd : IntKind} {x y : Int} {K : Value → Hp → Prop} (h1 : P.underlying t = some (.slice e)) (h2 : sizeD P e = some 1) (h3 : zeroD P e = some (.int kd 0))
    (h : ∀ b, K (.slice (some ⟨b, 0, Option.none⟩) 2 2) ((b, .cells (icells kd [x, y]) e (0, 0)) :: H)) : BuildSl P t 2 [(0, .int kd x), (1, .int kd y)] H K := by
  refine ⟨icells kd [x, y], e, 1, _, h1, h2, h3, by decide, ?_, fun b _ => h b⟩
  have e1 : Array.range (2 * 1) = #[0, 1] := rfl
  simp [Instr.fill, Value.cells, icells, e1]
theorem rows_ints (kd : IntKind) (l : List Int) : rows (l.map fun n => [Value.int kd n]) = icells kd l := by
  unfold rows icells
  congr 1
  induction l with
  | nil => rfl
  | cons x l ih => rw [List.map_cons, List.flatten_cons, ih]; rfl
theorem IOwn.made {T : TypeId} {kd : IntKind} {b : Nat} (l : List Int) : IOwn T kd (.slice (some ⟨b, 0, none⟩) l.length l.length) l [(b, .cells (icells kd l) T (0, 0))] := by
  have := SOwn.mk' (T := T) (k := 1) (b := b) (n := l.length) (c := l.length) (rs := l.map fun n => [Value.int kd n]) (junk := []) (fun r hr => by
    rw [List.append_nil] at hr
    obtain ⟨x, _, rfl⟩ := List.mem_map.1 hr; rfl) (by simp) (by simp)
  rw [List.append_nil, rows_ints] at this
  exact this
end
end Go.Sx
namespace Go.Sx
open Go
section
variable {P : Program} {g : Gh}
structure Dfr where
  f : FuncId
  l : List Value
def SCallsD (P : Program) (g : Gh) (f : FuncId) (args : Array Value) (H : Hp) (R : Ending → Hp → Prop) : Prop :=
  ∀ w, Own g H w → ∀ u, CallsD P f args u w fun e u' w' => u' = u ∧ ∃ H', Own g H' w' ∧ R e H'
def DefF (P : Program) (g : Gh) (f : FuncId) (args : Array Value) (H : Hp) (K : Hp → Prop) : Prop := SCallsD P g f args H fun e H' => (∃ v, e = .returned v) ∧ K H'
def unwD (P : Program) (g : Gh) (K : Hp → Prop) : List Dfr → Hp → Prop
  | [], H => K H
  | x :: r, H => DefF P g x.f x.l.toArray H (unwD P g K r)
def DfrV (P : Program) (o : Oper) (ρ : Operand → Value) (k : Dfr → Prop) : Prop :=
  match o.op with
  | .defer c => match c.callee with
    | .value x => match ρ x with
      | .func (.func f) first cap => cond (callable P f) (k ⟨f, first.toList ++ (c.args.toList.map ρ ++ cap.toList)⟩) False
      | _ => False
    | _ => False
  | _ => False
def isDfr : Code → Option (Array Oper × Oper)
  | .region _ ops false => match ops.toList.getLast? with
    | some o => match o.op with
      | .defer _ => some (ops, o)
      | _ => none
    | none => none
  | _ => none
def endT (P : Program) (g : Gh) (fn : Func) (R : Ending → Hp → Prop) (dl : List Dfr) : Exit → Fr → Hp → Prop
  | .normal, fr, H => unwD P g (fun H' => resL P fr H' fn.results.toList fun vs => R (.returned (tupV vs)) H') dl H
  | .ret, fr, H => unwD P g (fun H' => resL P fr H' fn.results.toList fun vs => R (.returned (tupV vs)) H') dl H
  | _, _, _ => False
def denT (P : Program) (g : Gh) (n : Nat) (E : List Dfr → Exit → Fr → Hp → Prop) : Code → Hn → List Dfr → Fr → Hp → Prop
  | .seq x y, hn, dl, fr, H =>
    match isDfr x with
    | some (ops, o) => cond (o.dst.isNone && o.guard.isNone)
        (denOps P g n ops false (ops.toList.length + 1) false none [] ops.toList.dropLast fr H (fun _ fr' H' => DfrV P o (ev fr') fun d => denT P g n E y hn.b (d :: dl) fr' H') (fun _ _ => False)) False
    | none => match hn.m with
      | 0 => den P g n x hn.a (thenD (denT P g n E y hn.b dl) (E dl)) fr H
      | _ => cond (noW x hn.I)
        (Join hn.L.length (fun vs H' => ∀ gs, denT P g n E y hn.b dl (mix hn.L vs hn.I fr gs) H') fun J => den P g n x hn.a (thenD (fun fr' H' => JE J (frs fr' hn.L) H') (E dl)) fr H) False
  | c, hn, dl, fr, H => den P g n c hn (E dl) fr H
def denFT (P : Program) (g : Gh) (fn : Func) (hn : Hn) (args : List Value) (H : Hp) (R : Ending → Hp → Prop) : Prop :=
  match fn.body with
  | some c => cond (Nat.ble args.length fn.ntmps) (denT P g fn.ntmps (endT P g fn R) c hn [] (initFr args 0) H) False
  | none => False
def NoP : List PanicEntry → Hp → Prop := fun _ _ => ∀ _ : Fr, False
def DOK (P : Program) (x : Dfr) (d : Deferred) : Prop := ∃ cap args, d = { target := .fn (.func x.f) cap, args := args } ∧ args ++ cap = x.l.toArray ∧ callable P x.f = true
inductive DOKs (P : Program) : List Dfr → List Deferred → Prop
  | nil : DOKs P [] []
  | cons {x d l ds} (h : DOK P x d) (hr : DOKs P l ds) : DOKs P (x :: l) (d :: ds)
theorem unw_leaves {fn : Func} {tmps : Array Value} {K : Hp → Prop} {R : Ending → World → Prop} (hK : ∀ H w, Own g H w → K H → ∃ v, (results fn tmps).run P w = .ok v w ∧ R (.returned v) w) :
    ∀ {dl : List Dfr} {ds : List Deferred}, DOKs P dl ds → ∀ H w, Own g H w → unwD P g K dl H → Leaves P fn tmps R ds .returning w
  | _, _, .nil, H, w, hw, h => hK H w hw h
  | _, _, .cons ⟨cap, args, hd, ha, hc⟩ hr, H, w, hw, h => by
    subst hd
    refine leaves_cons (by simp) ?_ ((h w hw .returning).mono ?_)
    · show (callFunc _ (args ++ cap)).run P w = _
      rw [ha]
      exact callable_run hc _ w
    · rintro e u' w' ⟨rfl, H', ho, ⟨v, rfl⟩, hk⟩
      exact unw_leaves hK hr H' w' ho hk
theorem endT_sound {fn : Func} {R : Ending → Hp → Prop} {n : Nat} {dl : List Dfr} {ds : List Deferred} (hd : DOKs P dl ds) {e : Exit} {fr : Fr} {H : Hp} {a : Act} {w : World} (ha : Agree ds n a fr) (hw : Own g H w) (h : endT P g fn R dl e fr H) :
    bodyPostD P fn (fun e w' => ∃ H', Own g H' w' ∧ R e H') e a w := by
  have key : ∀ {H}, Own g H w → unwD P g (fun H' => resL P fr H' fn.results.toList fun vs => R (.returned (tupV vs)) H') dl H → Leaves P fn a.tmps (fun e w' => ∃ H', Own g H' w' ∧ R e H') a.defers .returning w := fun hw h => by
    rw [ha.defers]
    refine unw_leaves (fun H w hw h => ?_) hd _ _ hw h
    obtain ⟨vs, hr, hk⟩ := results_run ha hw h
    exact ⟨_, hr, H, hw, hk⟩
  cases e with
  | normal => exact key hw h
  | ret => exact key hw h
  | panic ch => exact h.elim
  | exit id => exact h.elim
  | goto l => exact h.elim
  | outgrown => exact h.elim
theorem isDfr_spec {c : Code} {ops : Array Oper} {o : Oper} (h : isDfr c = some (ops, o)) : ∃ id d, c = .region id ops false ∧ ops.toList = ops.toList.dropLast ++ [o] ∧ o.op = .defer d := by
  unfold isDfr at h
  split at h
  · rename_i id ops'
    split at h
    · rename_i o' ho
      split at h
      · rename_i d hd
        simp only [Option.some.injEq, Prod.mk.injEq] at h
        obtain ⟨rfl, rfl⟩ := h
        refine ⟨id, d, rfl, ?_, hd⟩
        obtain ⟨hne, e⟩ := List.getLast?_eq_some_iff.1 ho
        rw [e]; simp
      · cases h
    · cases h
  · cases h
theorem DfrV_run {o : Oper} {fr : Fr} {k : Dfr → Prop} (h : DfrV P o (ev fr) k) : ∃ x d, k x ∧ DOK P x d ∧ ∀ w, (execOp (ev fr) o).run P w = .ok (.defer d) w := by
  unfold DfrV at h
  split at h <;> try exact h.elim
  rename_i c hop
  split at h <;> try exact h.elim
  rename_i x hc
  split at h <;> try exact h.elim
  rename_i f first cap hx
  cases hcl : callable P f <;> simp only [hcl, cond_true, cond_false] at h
  refine ⟨_, { target := .fn (.func f) cap, args := first ++ c.args.map (ev fr) }, h, ⟨cap, _, rfl, ?_, hcl⟩, fun w => ?_⟩
  · apply Array.ext'
    simp
  · simp only [execOp, hop, resolve, hc, hx, Deferred.ofValue, Sem.run_bind, Sem.run_pure, Result.andThen_ok]
theorem denT_sound {n : Nat} {fn : Func} {R : Ending → Hp → Prop} : ∀ (c : Code) (hn : Hn) (dl : List Dfr) (fr : Fr) (H : Hp), denT P g n (endT P g fn R) c hn dl fr H → ∀ (ds : List Deferred), DOKs P dl ds → ∀ (a : Act) (w : World), Agree ds n a fr → Own g H w →
    c.wp P (bodyPostD P fn fun e w' => ∃ H', Own g H' w' ∧ R e H') a w := by
  have plain : ∀ (c : Code) (hn : Hn) (dl : List Dfr) (fr : Fr) (H : Hp), den P g n c hn (endT P g fn R dl) fr H → ∀ (ds : List Deferred), DOKs P dl ds → ∀ (a : Act) (w : World), Agree ds n a fr → Own g H w →
      c.wp P (bodyPostD P fn fun e w' => ∃ H', Own g H' w' ∧ R e H') a w := fun c hn dl fr H h ds hd a w ha hw =>
    wp_mono (den_sound c hn _ fr H h a w ha hw) fun e a' w' ⟨fr', H', ha', hw', _, hq⟩ => endT_sound hd ha' hw' hq
  intro c
  induction c with
  | seq x y _ ih =>
    intro hn dl fr H h ds hd a w ha hw
    unfold denT at h
    split at h
    · rename_i ops o hx
      obtain ⟨id, d, rfl, hl, hop⟩ := isDfr_spec hx
      cases hc : (o.dst.isNone && o.guard.isNone) <;> simp only [hc, cond_true, cond_false] at h
      simp only [Bool.and_eq_true, Option.isNone_iff_eq_none] at hc
      refine wp_seq (wp_region_list ?_)
      rw [hl]
      refine denOps_seq _ _ _ _ _ fr H _ _ h trivial (KnOK.nil fr) a w ha hw [o] _ ?_ ?_
      · intro a' w' kn' fr' H' ha' hw' _ _ hk
        refine wpList_plain hc.2 fun K hK => ?_
        obtain ⟨x, dd, hx, hok, hrun⟩ := DfrV_run hk
        show o.upon P a' K _ ((execOp a'.eval o).run P w')
        rw [ha'.eval, hrun]
        refine hK _ _ ?_
        refine ih _ _ fr' H' hx (dd :: ds) (.cons hok hd) _ _ ?_ hw'
        rw [hc.1]
        exact ⟨congrArg _ ha'.defers, ha'.size, ha'.get⟩
      · intro ch a' w' fr' H' _ _ hk; exact hk.elim
    · split at h
      · refine wp_seq (wp_mono (den_sound x _ _ fr H h a w ha hw) ?_)
        rintro e a' w' ⟨fr', H', ha', hw', ho, hq⟩
        cases e with
        | normal => exact ih _ _ fr' H' hq ds hd a' w' ha' hw'
        | ret => exact endT_sound (e := .ret) hd ha' hw' hq
        | exit id => exact hq.elim
        | goto l => exact hq.elim
        | panic ch => exact hq.elim
        | outgrown => exact hq.elim
      · cases hno : noW x hn.I <;> simp only [hno, cond_true, cond_false] at h
        have h' := h (fun vs H' => ∀ gs, denT P g n (endT P g fn R) y hn.b dl (mix hn.L vs hn.I fr gs) H') (AllV.intro (fun vs H' hh => hh) _)
        refine wp_seq (wp_mono (den_sound x _ _ fr H h' a w ha hw) ?_)
        rintro e a' w' ⟨fr', H', ha', hw', ho, hq⟩
        cases e with
        | normal =>
          obtain ⟨Hj, hent, hq⟩ := hq
          have hq' := hq fr'
          rw [mix_self fun s hs => ho rfl s (noW_spec hno s hs)] at hq'
          exact ih _ _ fr' Hj hq' ds hd a' w' ha' (hent _ _ hw')
        | ret => exact endT_sound (e := .ret) hd ha' hw' hq
        | exit id => exact hq.elim
        | goto l => exact hq.elim
        | panic ch => exact hq.elim
        | outgrown => exact hq.elim
  | _ => intro hn dl fr H h; exact plain _ hn dl fr H h
theorem initOK {args : List Value} {m : Nat} (hle : args.length ≤ m) : Agree [] m { tmps := args.toArray ++ Array.replicate (m - args.toArray.size) undef, defers := [] } (initFr args 0) := by
  refine ⟨rfl, by simp; omega, fun s => ?_⟩
  rw [initFr_get, Array.getD_eq_getD_getElem?, Array.getElem?_append]
  simp only [List.size_toArray, Nat.not_lt_zero, if_false, Nat.sub_zero]
  by_cases hs : s < args.length
  · simp [hs, List.getD]
  · rw [if_neg hs, Array.getElem?_replicate]
    have : args.getD s undef = undef := by simp [List.getD, List.getElem?_eq_none (Nat.le_of_not_lt hs)]
    rw [this]
    split <;> rfl
theorem denFT_sound {f : FuncId} {fn : Func} {hn : Hn} {args : List Value} {H : Hp} {R : Ending → Hp → Prop} (hf : P.funcs[f]? = some fn) (h : denFT P g fn hn args H R) : SCalls P g f args.toArray H R := by
  intro w hw
  unfold denFT at h
  split at h <;> try exact h.elim
  rename_i c hc
  cases hl : Nat.ble args.length fn.ntmps <;> simp only [hl, cond_true, cond_false] at h
  exact calls_of_wp_defers hf hc (denT_sound c hn [] _ H h [] .nil _ w (initOK (Nat.le_of_ble_eq_true hl)) hw)
theorem denF_soundD {f : FuncId} {fn : Func} {hn : Hn} {args : List Value} {H : Hp} {R : Ending → Hp → Prop} (hf : P.funcs[f]? = some fn) (h : denF P g fn hn args H R) : SCallsD P g f args.toArray H R := by
  intro w hw u
  unfold denF at h
  split at h <;> try exact h.elim
  rename_i c hc
  cases hl : Nat.ble args.length fn.ntmps <;> simp only [hl, cond_true, cond_false] at h
  refine callsD_of_wp hf hc (wp_mono (den_sound c hn _ _ H h _ w (initOK (Nat.le_of_ble_eq_true hl)) hw) ?_)
  rintro e a' w' ⟨fr', H', ha', hw', _, hq⟩
  cases e with
  | normal => obtain ⟨vs, hr, hk⟩ := results_run ha' hw' hq; exact ⟨ha'.defers, _, hr, H', hw', hk⟩
  | ret => obtain ⟨vs, hr, hk⟩ := results_run ha' hw' hq; exact ⟨ha'.defers, _, hr, H', hw', hk⟩
  | panic ch => exact ⟨ha'.defers, H', hw', hq⟩
  | exit id => exact hq.elim
  | goto l => exact hq.elim
  | outgrown => exact hq.elim
abbrev Jt := List Value → Hp → Prop
abbrev Mt := List Value → Hp → Nat
abbrev Rt := Ending → Hp → Prop
abbrev Hn.n (a b : Hn) : Hn := .h 0 [] [] a b
theorem soundF {f : FuncId} {fn : Func} {hn : Hn} {args : List Value} {H : Hp} {R : Rt} {L : Prop} (hf : P.funcs[f]? = some fn) (h : L) (e : denF P g fn hn args H R = L) : SCalls P g f args.toArray H R := denF_sound hf (e.mpr h)
theorem soundT {f : FuncId} {fn : Func} {hn : Hn} {args : List Value} {H : Hp} {R : Rt} {L : Prop} (hf : P.funcs[f]? = some fn) (h : L) (e : denFT P g fn hn args H R = L) : SCalls P g f args.toArray H R := denFT_sound hf (e.mpr h)
theorem soundD {f : FuncId} {fn : Func} {hn : Hn} {args : List Value} {H : Hp} {R : Rt} {L : Prop} (hf : P.funcs[f]? = some fn) (h : L) (e : denF P g fn hn args H R = L) : SCallsD P g f args.toArray H R := denF_soundD hf (e.mpr h)
end
end Go.Sx
set_option maxRecDepth 100000
namespace Go.Proofs
open Go Go.Sx
variable {g : Gh} {a0 a1 a2 a3 a4 a5 a6 a7 a8 a9 a10 a11 a12 a13 a14 a15 : Value} {H : Hp} {R : Rt}
def L6 (g : Gh) (a0 a1 a2 a3 a4 a5 : Value) (H : Hp) (R : Rt) : Prop :=
CallF Tryz.prog g 32 #[] H (fun v1 H2 =>
Un .not v1 fun v3 =>
Br v3 (
R (.returned (Value.bool false)) H2) (
Bin .num .lss a0 (Value.int .i64 1) fun v4 =>
Grp v4 false (fun t5 =>
Bin .num .gtr a0 (Value.int .i64 64) fun v6 =>
(H2 = H2 ∧ v6 = Value.bool t5)) (fun t5 => (Value.bool true) = Value.bool t5) fun t5 => ∀ gs7 : Fr,
Br (Value.bool t5) (
R (.returned (Value.bool true)) H2) (
CallF Tryz.prog g 10 #[a0, (Value.int .i64 400)] H2 (fun v8 H9 =>
Ext 0 v8 fun v10 =>
Ext 1 v8 fun v11 =>
Bin .num .neq v11 (Value.int .i64 0) fun v12 =>
Grp v12 false (fun t13 =>
Bin .ptr .eql v10 (.pointer none) fun v14 =>
(H9 = H9 ∧ v14 = Value.bool t13)) (fun t13 => (Value.bool true) = Value.bool t13) fun t13 => ∀ gs15 : Fr,
Br (Value.bool t13) (
R (.returned (Value.bool false)) H9) (
LenS a1 fun v16 =>
∃ (I17 : Jt) (m18 : Mt), JE I17 [(Value.int .u64 0), (Value.int .u64 0), (Value.int .i64 0)] H9 ∧ ∀ w21 w22 w23 : Value, ∀ H20 : Hp, I17 [w21, w22, w23] H20 → ∀ gs19 : Fr,
Bin .num .lss w23 v16 fun v24 =>
Br v24 (
∀ J25 : Jt, (∀ w28 w29 : Value, ∀ H27 : Hp, (∀ gs26 : Fr,
Bin .num .add w23 (Value.int .i64 1) fun v30 =>
Back I17 m18 [w28, w29, v30] H27 [w21, w22, w23] H20) → J25 [w28, w29] H27) →
IAddr 1 a1 w23 fun v31 =>
Ld H20 v31 fun v32 =>
Bin .num .quo v32 (Value.int .i64 2) fun v33 =>
Bin .num .lss v32 (Value.int .i64 0) fun v34 =>
Grp v34 false (fun t35 =>
Bin .num .geq v33 a0 fun v36 =>
(H20 = H20 ∧ v36 = Value.bool t35)) (fun t35 => (Value.bool true) = Value.bool t35) fun t35 => ∀ gs37 : Fr,
Br (Value.bool t35) (
JE J25 [w21, w22] H20) (
Bin .num .shl (Value.int .u64 1) v33 fun v38 =>
Bin .num .or w21 v38 fun v39 =>
Bin .num .shl (Value.int .u64 1) v33 fun v40 =>
Bin .num .andNot w22 v40 fun v41 =>
Bin .num .rem v32 (Value.int .i64 2) fun v42 =>
ConvI .u64 v42 fun v43 =>
Bin .num .shl v43 v33 fun v44 =>
Bin .num .or v41 v44 fun v45 =>
JE J25 [v39, v45] H20)) (
Bin .num .sub a0 (Value.int .i64 1) fun v46 =>
∃ (I47 : Jt) (m48 : Mt), JE I47 [(Value.int .u32 1), v46] H20 ∧ ∀ w51 w52 : Value, ∀ H50 : Hp, I47 [w51, w52] H50 → ∀ gs49 : Fr,
Bin .num .geq w52 (Value.int .i64 0) fun v53 =>
Br v53 (
∀ J54 : Jt, (∀ w57 : Value, ∀ H56 : Hp, (∀ gs55 : Fr,
Bin .num .sub w52 (Value.int .i64 1) fun v58 =>
Back I47 m48 [w57, v58] H56 [w51, w52] H50) → J54 [w57] H56) →
Bin .num .shr w21 w52 fun v59 =>
Bin .num .rem v59 (Value.int .u64 2) fun v60 =>
Bin .num .eql v60 (Value.int .u64 0) fun v61 =>
Br v61 (
JE J54 [w51] H50) (
∀ J62 : Jt, (∀ w65 w66 : Value, ∀ H64 : Hp, (∀ gs63 : Fr,
CallF Tryz.prog g 11 #[v10, w52, w65, w66] H64 (fun v67 H68 =>
Ext 0 v67 fun v69 =>
Ext 1 v67 fun v70 =>
∀ J71 : Jt, (∀ w74 : Value, ∀ H73 : Hp, (∀ gs72 : Fr,
Br w74 (
R (.returned (Value.bool false)) H73) (
JE J54 [v69] H73)) → J71 [w74] H73) →
Bin .num .neq v70 (Value.int .i64 0) fun v75 =>
Split v75 false (
CallF Tryz.prog g 12 #[v10, w51] H68 (fun v76 H77 =>
Bin .num .neq v76 (Value.int .i64 0) fun v78 =>
Pick (Value.bool false) (Value.bool true) v78 fun v79 =>
JE J71 [v79] H77) (PanR R)) (
Pick (Value.bool true) (Value.bool true) undef fun v80 =>
JE J71 [v80] H68)) (PanR R)) → J62 [w65, w66] H64) →
Bin .num .shr w22 w52 fun v81 =>
Bin .num .rem v81 (Value.int .u64 2) fun v82 =>
Bin .num .eql v82 (Value.int .u64 0) fun v83 =>
Br v83 (
JE J62 [w51, (Value.int .u32 0)] H50) (
JE J62 [(Value.int .u32 0), w51] H50))) (
CallF Tryz.prog g 14 #[v10] H50 (fun v84 H85 =>
CallF Tryz.prog g 33 #[v10, a3, a4] H85 (fun v86 H87 =>
Ext 0 v86 fun v88 =>
Ext 1 v86 fun v89 =>
Bin .num .geq a3 (Value.int .i64 0) fun v90 =>
Grp v90 true (fun t91 =>
Bin .num .lss a3 a0 fun v92 =>
(H87 = H87 ∧ v92 = Value.bool t91)) (fun t91 => (Value.bool false) = Value.bool t91) fun t91 => ∀ gs93 : Fr,
Grp (Value.bool t91) true (fun t94 =>
Bin .num .geq a4 (Value.int .i64 0) fun v95 =>
(H87 = H87 ∧ v95 = Value.bool t94)) (fun t94 => (Value.bool false) = Value.bool t94) fun t94 => ∀ gs96 : Fr,
Grp (Value.bool t94) true (fun t97 =>
Bin .num .lss a4 a0 fun v98 =>
(H87 = H87 ∧ v98 = Value.bool t97)) (fun t97 => (Value.bool false) = Value.bool t97) fun t97 => ∀ gs99 : Fr,
Bin .num .eql v89 (Value.int .i64 0) fun v100 =>
Bin .bool .neq (Value.bool t97) v100 fun v101 =>
Br v101 (
R (.returned (Value.bool false)) H87) (
CallF Tryz.prog g 34 #[v10, a2] H87 (fun v102 H103 =>
Ext 0 v102 fun v104 =>
Ext 1 v102 fun v105 =>
∀ J106 : Jt, (∀ w109 : Value, ∀ H108 : Hp, (∀ gs107 : Fr,
Br w109 (
R (.returned (Value.bool false)) H108) (
CallF Tryz.prog g 14 #[v10] H108 (fun v110 H111 =>
Bin .num .neq v110 v84 fun v112 =>
Br v112 (
R (.returned (Value.bool false)) H111) (
Bin .num .xor w22 w21 fun v113 =>
BuildSl Tryz.prog 23 3 [(0, w22), (1, v113), (2, (Value.int .u64 0))] H111 fun v114 H115 =>
App Tryz.prog 29 1 8 (Value.int .u64 0) H115 v114 a5 fun v118 H119 =>
LenS v118 fun v120 =>
∃ (I121 : Jt) (m122 : Mt), JE I121 [(Value.int .i64 0)] H119 ∧ ∀ w125 : Value, ∀ H124 : Hp, I121 [w125] H124 → ∀ gs123 : Fr,
Bin .num .lss w125 v120 fun v126 =>
Br v126 (
IAddr 1 v118 w125 fun v127 =>
Ld H124 v127 fun v128 =>
CallF Tryz.prog g 36 #[v10, w51, v128] H124 (fun v129 H130 =>
Ext 0 v129 fun v131 =>
Ext 1 v129 fun v132 =>
Un .not v132 fun v133 =>
Grp v133 false (fun t134 =>
Bin .num .and v128 w21 fun v135 =>
Bin .num .eql v135 w22 fun v136 =>
Bin .bool .neq v131 v136 fun v137 =>
(H130 = H130 ∧ v137 = Value.bool t134)) (fun t134 => (Value.bool true) = Value.bool t134) fun t134 => ∀ gs138 : Fr,
Br (Value.bool t134) (
R (.returned (Value.bool false)) H130) (
Bin .num .add w125 (Value.int .i64 1) fun v139 =>
Back I121 m122 [v139] H130 [w125] H124)) (PanR R)) (
R (.returned (Value.bool true)) H124))) (PanR R))) → J106 [w109] H108) →
CallF Tryz.prog g 35 #[a2] H103 (fun v140 H141 =>
Bin .num .eql v140 (Value.int .i64 0) fun v142 =>
Split v142 true (
LenS a2 fun v143 =>
Bin .num .eql v143 a0 fun v144 =>
Pick (Value.bool true) v144 (Value.bool false) fun v145 =>
Bin .num .eql v105 (Value.int .i64 0) fun v146 =>
Bin .bool .neq v145 v146 fun v147 =>
Split v147 false (
Bin .num .eql v105 (Value.int .i64 0) fun v148 =>
Split v148 true (
CallF Tryz.prog g 13 #[v10] H141 (fun v149 H150 =>
CallF Tryz.prog g 19 #[v149, a2] H150 (fun v151 H152 =>
Un .not v151 fun v153 =>
Pick (Value.bool true) v153 (Value.bool false) fun v154 =>
Pick (Value.bool false) (Value.bool true) v154 fun v155 =>
JE J106 [v155] H152) (PanR R)) (PanR R)) (
Pick (Value.bool false) undef (Value.bool false) fun v156 =>
Pick (Value.bool false) (Value.bool true) v156 fun v157 =>
JE J106 [v157] H141)) (
Pick (Value.bool true) (Value.bool true) undef fun v158 =>
JE J106 [v158] H141)) (
Pick (Value.bool false) undef (Value.bool false) fun v159 =>
Bin .num .eql v105 (Value.int .i64 0) fun v160 =>
Bin .bool .neq v159 v160 fun v161 =>
Split v161 false (
Bin .num .eql v105 (Value.int .i64 0) fun v162 =>
Split v162 true (
CallF Tryz.prog g 13 #[v10] H141 (fun v163 H164 =>
CallF Tryz.prog g 19 #[v163, a2] H164 (fun v165 H166 =>
Un .not v165 fun v167 =>
Pick (Value.bool true) v167 (Value.bool false) fun v168 =>
Pick (Value.bool false) (Value.bool true) v168 fun v169 =>
JE J106 [v169] H166) (PanR R)) (PanR R)) (
Pick (Value.bool false) undef (Value.bool false) fun v170 =>
Pick (Value.bool false) (Value.bool true) v170 fun v171 =>
JE J106 [v171] H141)) (
Pick (Value.bool true) (Value.bool true) undef fun v172 =>
JE J106 [v172] H141))) (PanR R)) (PanR R))) (PanR R)) (PanR R))))) (PanR R)))) (PanR R)
theorem L6_sound (h : L6 g a0 a1 a2 a3 a4 a5 H R) : SCalls Tryz.prog g 6 #[a0, a1, a2, a3, a4, a5] H R :=
  soundF (hn := (.n .e (.n .e (.n (.n (.h 0 [] [1] .e .e) .e) (.n .e (.n (.n (.h 0 [] [1] .e .e) .e) (.n .e (.n (.n .e (.n (.h 0 [15, 16, 55] [0, 2, 3, 4, 5, 13, 53, 54] (.n .e (.n .e (.h 1 [15, 16] [0, 2, 3, 4, 5, 13, 53, 54, 55] (.n (.n .e (.n .e (.n (.n (.h 0 [] [1] .e .e) .e) .e))) .e) .e))) .e) .e)) (.n .e (.n (.n .e (.n (.h 0 [20, 21] [0, 2, 3, 4, 5, 13, 15, 16] (.n .e (.h 1 [20] [0, 2, 3, 4, 5, 13, 15, 16, 21] (.n (.n .e (.n .e (.h 1 [22, 23] [0, 2, 3, 4, 5, 13, 15, 16, 20, 21] .e (.n .e (.n (.h 1 [116] [0, 2, 3, 4, 5, 13, 15, 16, 21, 24] .e .e) .e))))) .e) .e)) .e) .e)) (.n .e (.n .e (.n (.n (.h 0 [] [1] .e .e) .e) (.n .e (.n (.h 1 [175] [5, 13, 15, 16, 20, 26] .e .e) (.n .e (.n (.n .e (.n (.h 0 [188] [13, 15, 16, 20, 186, 187] (.n .e (.n .e (.n (.n (.n .e (.n .e (.n (.h 0 [] [1] .e .e) .e))) .e) .e))) .e) .e)) .e))))))))))))))))) Tryz.func6 h (by kernel_rfl)
def L7 (g : Gh) (H : Hp) (R : Rt) : Prop :=
CallF Tryz.prog g 32 #[] H (fun v1 H2 =>
Un .not v1 fun v3 =>
Br v3 (
R (.returned (Value.bool false)) H2) (
BuildSl Tryz.prog 76 8 [(0, (Value.bool false)), (1, (Value.bool false)), (2, (Value.bool false)), (3, (Value.bool true)), (4, (Value.bool true)), (5, (Value.bool true)), (6, (Value.bool true)), (7, (Value.bool true))] H2 fun v4 H5 =>
CallF Tryz.prog g 37 #[(Value.int .i64 3), v4] H5 (fun v6 H7 =>
New H7 (.cells #[(Value.int .i64 0), (.slice none 0 0)] 55 (0, 0)) fun b8 H9 =>
St 2 H9 (.pointer (some ⟨b8, 0, none⟩)) v6 fun H10 =>
BuildSl Tryz.prog 22 3 [(0, (Value.int .i64 0)), (1, (Value.int .i64 1)), (2, (Value.int .i64 2))] H10 fun v11 H12 =>
LdA 2 H12 (.pointer (some ⟨b8, 0, none⟩)) fun v13 =>
BuildSl Tryz.prog 49 1 [(0, v13)] H12 fun v14 H15 =>
CallF Tryz.prog g 38 #[(Value.int .i64 100), v11, v14] H15 (fun v16 H17 =>
Ext 0 v16 fun v18 =>
Ext 1 v16 fun v19 =>
Ext 2 v16 fun v20 =>
New H17 (.cells #[(.pointer none), (.pointer none), (.slice none 0 0), (.slice none 0 0)] 78 (0, 0)) fun b21 H22 =>
St 4 H22 (.pointer (some ⟨b21, 0, none⟩)) v18 fun H23 =>
∀ J24 : Jt, (∀ w27 : Value, ∀ H26 : Hp, (∀ gs25 : Fr,
Br w27 (
R (.returned (Value.bool false)) H26) (
FAddr 0 (.pointer (some ⟨b21, 0, none⟩)) fun v28 =>
Ld H26 v28 fun v29 =>
CallF Tryz.prog g 39 #[v29, (Value.int .i64 2)] H26 (fun v30 H31 =>
Ext 0 v30 fun v32 =>
Ext 1 v30 fun v33 =>
FAddr 0 (.pointer (some ⟨b21, 0, none⟩)) fun v34 =>
Ld H31 v34 fun v35 =>
CallF Tryz.prog g 33 #[v35, (Value.int .i64 1), (Value.int .i64 1)] H31 (fun v36 H37 =>
Ext 0 v36 fun v38 =>
Ext 1 v36 fun v39 =>
FAddr 0 (.pointer (some ⟨b21, 0, none⟩)) fun v40 =>
Ld H37 v40 fun v41 =>
CallF Tryz.prog g 33 #[v41, (Value.int .i64 0), (Value.int .i64 2)] H37 (fun v42 H43 =>
Ext 0 v42 fun v44 =>
Ext 1 v42 fun v45 =>
∀ J46 : Jt, (∀ w49 : Value, ∀ H48 : Hp, (∀ gs47 : Fr,
Br w49 (
R (.returned (Value.bool false)) H48) (
FAddr 0 (.pointer (some ⟨b21, 0, none⟩)) fun v50 =>
Ld H48 v50 fun v51 =>
CallF Tryz.prog g 33 #[v51, (Value.int .i64 3), (Value.int .i64 0)] H48 (fun v52 H53 =>
Ext 0 v52 fun v54 =>
Ext 1 v52 fun v55 =>
FAddr 0 (.pointer (some ⟨b21, 0, none⟩)) fun v56 =>
Ld H53 v56 fun v57 =>
CallF Tryz.prog g 33 #[v57, (Value.int .i64 0), (Value.int .i64 3)] H53 (fun v58 H59 =>
Ext 0 v58 fun v60 =>
Ext 1 v58 fun v61 =>
FAddr 0 (.pointer (some ⟨b21, 0, none⟩)) fun v62 =>
Ld H59 v62 fun v63 =>
CallF Tryz.prog g 33 #[v63, (Value.int .i64 3), (Value.int .i64 3)] H59 (fun v64 H65 =>
Ext 0 v64 fun v66 =>
Ext 1 v64 fun v67 =>
FAddr 0 (.pointer (some ⟨b21, 0, none⟩)) fun v68 =>
Ld H65 v68 fun v69 =>
BuildSl Tryz.prog 22 2 [(0, (Value.int .i64 0)), (1, (Value.int .i64 1))] H65 fun v70 H71 =>
CallF Tryz.prog g 34 #[v69, v70] H71 (fun v72 H73 =>
Ext 0 v72 fun v74 =>
Ext 1 v72 fun v75 =>
FAddr 0 (.pointer (some ⟨b21, 0, none⟩)) fun v76 =>
Ld H73 v76 fun v77 =>
BuildSl Tryz.prog 22 3 [(0, (Value.int .i64 0)), (1, (Value.int .i64 0)), (2, (Value.int .i64 1))] H73 fun v78 H79 =>
CallF Tryz.prog g 34 #[v77, v78] H79 (fun v80 H81 =>
Ext 0 v80 fun v82 =>
Ext 1 v80 fun v83 =>
Bin .num .neq v55 (Value.int .i64 2) fun v84 =>
Grp v84 false (fun t85 =>
Bin .num .neq v61 (Value.int .i64 1) fun v86 =>
(H81 = H81 ∧ v86 = Value.bool t85)) (fun t85 => (Value.bool true) = Value.bool t85) fun t85 => ∀ gs87 : Fr,
Grp (Value.bool t85) false (fun t88 =>
Bin .num .neq v67 (Value.int .i64 1) fun v89 =>
(H81 = H81 ∧ v89 = Value.bool t88)) (fun t88 => (Value.bool true) = Value.bool t88) fun t88 => ∀ gs90 : Fr,
Grp (Value.bool t88) false (fun t91 =>
Bin .num .neq v75 (Value.int .i64 4) fun v92 =>
(H81 = H81 ∧ v92 = Value.bool t91)) (fun t91 => (Value.bool true) = Value.bool t91) fun t91 => ∀ gs93 : Fr,
Grp (Value.bool t91) false (fun t94 =>
Bin .num .neq v83 (Value.int .i64 4) fun v95 =>
(H81 = H81 ∧ v95 = Value.bool t94)) (fun t94 => (Value.bool true) = Value.bool t94) fun t94 => ∀ gs96 : Fr,
Br (Value.bool t94) (
R (.returned (Value.bool false)) H81) (
CallF Tryz.prog g 33 #[(.pointer none), (Value.int .i64 9), (Value.int .i64 9)] H81 (fun v97 H98 =>
Ext 0 v97 fun v99 =>
Ext 1 v97 fun v100 =>
BuildSl Tryz.prog 22 1 [(0, (Value.int .i64 5))] H98 fun v101 H102 =>
CallF Tryz.prog g 34 #[(.pointer none), v101] H102 (fun v103 H104 =>
Ext 0 v103 fun v105 =>
Ext 1 v103 fun v106 =>
CallF Tryz.prog g 39 #[(.pointer none), (Value.int .i64 (-1))] H104 (fun v107 H108 =>
Ext 0 v107 fun v109 =>
Ext 1 v107 fun v110 =>
FAddr 0 (.pointer (some ⟨b21, 0, none⟩)) fun v111 =>
Ld H108 v111 fun v112 =>
CallF Tryz.prog g 39 #[v112, (Value.int .i64 3)] H108 (fun v113 H114 =>
Ext 0 v113 fun v115 =>
Ext 1 v113 fun v116 =>
Bin .num .neq v100 (Value.int .i64 10) fun v117 =>
Grp v117 false (fun t118 =>
Bin .num .neq v106 (Value.int .i64 10) fun v119 =>
(H114 = H114 ∧ v119 = Value.bool t118)) (fun t118 => (Value.bool true) = Value.bool t118) fun t118 => ∀ gs120 : Fr,
Grp (Value.bool t118) false (fun t121 =>
Bin .num .neq v110 (Value.int .i64 10) fun v122 =>
(H114 = H114 ∧ v122 = Value.bool t121)) (fun t121 => (Value.bool true) = Value.bool t121) fun t121 => ∀ gs123 : Fr,
Grp (Value.bool t121) false (fun t124 =>
LenS v109 fun v125 =>
Bin .num .neq v125 (Value.int .i64 0) fun v126 =>
(H114 = H114 ∧ v126 = Value.bool t124)) (fun t124 => (Value.bool true) = Value.bool t124) fun t124 => ∀ gs127 : Fr,
Grp (Value.bool t124) false (fun t128 =>
Bin .num .neq v116 (Value.int .i64 2) fun v129 =>
(H114 = H114 ∧ v129 = Value.bool t128)) (fun t128 => (Value.bool true) = Value.bool t128) fun t128 => ∀ gs130 : Fr,
Br (Value.bool t128) (
R (.returned (Value.bool false)) H114) (
BuildSl Tryz.prog 22 3 [(0, (Value.int .i64 0)), (1, (Value.int .i64 1)), (2, (Value.int .i64 2))] H114 fun v131 H132 =>
LdA 2 H132 (.pointer (some ⟨b8, 0, none⟩)) fun v133 =>
BuildSl Tryz.prog 49 1 [(0, v133)] H132 fun v134 H135 =>
CallF Tryz.prog g 38 #[(Value.int .i64 5), v131, v134] H135 (fun v136 H137 =>
Ext 0 v136 fun v138 =>
Ext 1 v136 fun v139 =>
Ext 2 v136 fun v140 =>
New H137 (.cells #[(.pointer none), (.pointer none), (.slice none 0 0), (.slice none 0 0)] 78 (0, 0)) fun b141 H142 =>
St 4 H142 (.pointer (some ⟨b141, 0, none⟩)) v138 fun H143 =>
FAddr 0 (.pointer (some ⟨b141, 0, none⟩)) fun v144 =>
Ld H143 v144 fun v145 =>
CallF Tryz.prog g 33 #[v145, (Value.int .i64 2), (Value.int .i64 0)] H143 (fun v146 H147 =>
Ext 0 v146 fun v148 =>
Ext 1 v146 fun v149 =>
∀ J150 : Jt, (∀ w153 : Value, ∀ H152 : Hp, (∀ gs151 : Fr,
R (.returned w153) H152) → J150 [w153] H152) →
Split v140 true (
Bin .num .eql v149 (Value.int .i64 9) fun v154 =>
Pick (Value.bool true) v154 (Value.bool false) fun v155 =>
Split v155 true (
Bin .num .eql v148 (Value.int .i64 0) fun v156 =>
Pick (Value.bool true) v156 (Value.bool false) fun v157 =>
Split v157 true (
LdA 4 H147 (.pointer (some ⟨b141, 0, none⟩)) fun v158 =>
CallF Tryz.prog g 40 #[v158] H147 (fun v159 H160 =>
Pick (Value.bool true) v159 (Value.bool false) fun v161 =>
JE J150 [v161] H160) (PanR R)) (
Pick (Value.bool false) undef (Value.bool false) fun v162 =>
JE J150 [v162] H147)) (
Pick (Value.bool false) undef (Value.bool false) fun v163 =>
Pick v163 undef (Value.bool false) fun v164 =>
JE J150 [v164] H147)) (
Pick (Value.bool false) undef (Value.bool false) fun v165 =>
Pick v165 undef (Value.bool false) fun v166 =>
Pick v166 undef (Value.bool false) fun v167 =>
JE J150 [v167] H147)) (PanR R)) (PanR R))) (PanR R)) (PanR R)) (PanR R)) (PanR R))) (PanR R)) (PanR R)) (PanR R)) (PanR R)) (PanR R))) → J46 [w49] H48) →
Bin .num .neq v33 (Value.int .i64 0) fun v168 =>
Split v168 false (
Bin .num .neq v39 (Value.int .i64 0) fun v169 =>
Pick (Value.bool false) (Value.bool true) v169 fun v170 =>
Split v170 false (
Bin .num .neq v45 (Value.int .i64 0) fun v171 =>
Pick (Value.bool false) (Value.bool true) v171 fun v172 =>
Split v172 false (
BuildSl Tryz.prog 22 3 [(0, (Value.int .i64 3)), (1, (Value.int .i64 4)), (2, (Value.int .i64 3))] H43 fun v173 H174 =>
CallF Tryz.prog g 19 #[v32, v173] H174 (fun v175 H176 =>
Un .not v175 fun v177 =>
Pick (Value.bool false) (Value.bool true) v177 fun v178 =>
Split v178 false (
Bin .num .neq v38 (Value.int .i64 0) fun v179 =>
Pick (Value.bool false) (Value.bool true) v179 fun v180 =>
Split v180 false (
Bin .num .neq v44 (Value.int .i64 2) fun v181 =>
Pick (Value.bool false) (Value.bool true) v181 fun v182 =>
Split v182 false (
FAddr 0 (.pointer (some ⟨b21, 0, none⟩)) fun v183 =>
Ld H176 v183 fun v184 =>
CallF Tryz.prog g 13 #[v184] H176 (fun v185 H186 =>
BuildSl Tryz.prog 22 3 [(0, (Value.int .i64 1)), (1, (Value.int .i64 2)), (2, (Value.int .i64 0))] H186 fun v187 H188 =>
CallF Tryz.prog g 19 #[v185, v187] H188 (fun v189 H190 =>
Un .not v189 fun v191 =>
Pick (Value.bool false) (Value.bool true) v191 fun v192 =>
Split v192 false (
FAddr 0 (.pointer (some ⟨b21, 0, none⟩)) fun v193 =>
Ld H190 v193 fun v194 =>
CallF Tryz.prog g 15 #[v194] H190 (fun v195 H196 =>
Bin .num .neq v195 (Value.int .i64 2) fun v197 =>
Pick (Value.bool false) (Value.bool true) v197 fun v198 =>
JE J46 [v198] H196) (PanR R)) (
Pick (Value.bool true) (Value.bool true) undef fun v199 =>
JE J46 [v199] H190)) (PanR R)) (PanR R)) (
Pick (Value.bool true) (Value.bool true) undef fun v200 =>
Pick v200 (Value.bool true) undef fun v201 =>
JE J46 [v201] H176)) (
Pick (Value.bool true) (Value.bool true) undef fun v202 =>
Pick v202 (Value.bool true) undef fun v203 =>
Pick v203 (Value.bool true) undef fun v204 =>
JE J46 [v204] H176)) (
Pick (Value.bool true) (Value.bool true) undef fun v205 =>
Pick v205 (Value.bool true) undef fun v206 =>
Pick v206 (Value.bool true) undef fun v207 =>
Pick v207 (Value.bool true) undef fun v208 =>
JE J46 [v208] H176)) (PanR R)) (
Pick (Value.bool true) (Value.bool true) undef fun v209 =>
Pick v209 (Value.bool true) undef fun v210 =>
Pick v210 (Value.bool true) undef fun v211 =>
Pick v211 (Value.bool true) undef fun v212 =>
Pick v212 (Value.bool true) undef fun v213 =>
JE J46 [v213] H43)) (
Pick (Value.bool true) (Value.bool true) undef fun v214 =>
Pick v214 (Value.bool true) undef fun v215 =>
Pick v215 (Value.bool true) undef fun v216 =>
Pick v216 (Value.bool true) undef fun v217 =>
Pick v217 (Value.bool true) undef fun v218 =>
Pick v218 (Value.bool true) undef fun v219 =>
JE J46 [v219] H43)) (
Pick (Value.bool true) (Value.bool true) undef fun v220 =>
Pick v220 (Value.bool true) undef fun v221 =>
Pick v221 (Value.bool true) undef fun v222 =>
Pick v222 (Value.bool true) undef fun v223 =>
Pick v223 (Value.bool true) undef fun v224 =>
Pick v224 (Value.bool true) undef fun v225 =>
Pick v225 (Value.bool true) undef fun v226 =>
JE J46 [v226] H43)) (PanR R)) (PanR R)) (PanR R))) → J24 [w27] H26) →
Un .not v20 fun v227 =>
Split v227 false (
FAddr 0 (.pointer (some ⟨b21, 0, none⟩)) fun v228 =>
Ld H23 v228 fun v229 =>
CallF Tryz.prog g 14 #[v229] H23 (fun v230 H231 =>
Bin .num .neq v230 (Value.int .i64 3) fun v232 =>
Pick (Value.bool false) (Value.bool true) v232 fun v233 =>
JE J24 [v233] H231) (PanR R)) (
Pick (Value.bool true) (Value.bool true) undef fun v234 =>
JE J24 [v234] H23)) (PanR R)) (PanR R))) (PanR R)
theorem L7_sound (h : L7 g H R) : SCalls Tryz.prog g 7 #[] H R :=
  soundF (hn := (.n .e (.n .e (.n .e (.n .e (.n (.h 1 [38] [1, 2] .e .e) (.n .e (.n .e (.n .e (.n (.h 1 [94] [1, 2] .e .e) (.n .e (.n .e (.n .e (.n .e (.n .e (.n (.n (.h 0 [] [1] .e .e) .e) (.n .e (.n .e (.n .e (.n .e (.n (.n (.h 0 [] [1] .e .e) .e) (.n .e (.n .e (.h 1 [0] [] .e .e)))))))))))))))))))))))) Tryz.func7 h (by kernel_rfl)
def L10 (g : Gh) (a0 a1 : Value) (H : Hp) (R : Rt) : Prop :=
CallF Tryz.prog g 43 #[a0] H (fun v1 H2 =>
Ext 0 v1 fun v3 =>
Ext 1 v1 fun v4 =>
Bin .num .neq v4 (Value.int .i64 0) fun v5 =>
Grp v5 false (fun t6 =>
Bin .num .lss a0 (Value.int .i64 1) fun v7 =>
(H2 = H2 ∧ v7 = Value.bool t6)) (fun t6 => (Value.bool true) = Value.bool t6) fun t6 => ∀ gs8 : Fr,
Grp (Value.bool t6) false (fun t9 =>
Bin .num .lss a1 (Value.int .i64 2) fun v10 =>
(H2 = H2 ∧ v10 = Value.bool t9)) (fun t9 => (Value.bool true) = Value.bool t9) fun t9 => ∀ gs11 : Fr,
Grp (Value.bool t9) false (fun t12 =>
Bin .num .gtr a1 (Value.int .i64 1048576) fun v13 =>
(H2 = H2 ∧ v13 = Value.bool t12)) (fun t12 => (Value.bool true) = Value.bool t12) fun t12 => ∀ gs14 : Fr,
Br (Value.bool t12) (
R (.returned (.tuple #[(.pointer none), (Value.int .i64 1)])) H2) (
CallF Tryz.prog g 44 #[a0] H2 (fun v15 H16 =>
Ext 0 v15 fun v17 =>
Ext 1 v15 fun v18 =>
Bin .num .neq v18 (Value.int .i64 0) fun v19 =>
Br v19 (
R (.returned (.tuple #[(.pointer none), v18])) H16) (
CallF Tryz.prog g 45 #[a1, v17] H16 (fun v20 H21 =>
Ext 0 v20 fun v22 =>
Ext 1 v20 fun v23 =>
New H21 (.cells #[(.pointer none), (.pointer none), (.slice none 0 0), (.slice none 0 0)] 92 (0, 0)) fun b24 H25 =>
St 4 H25 (.pointer (some ⟨b24, 0, none⟩)) v22 fun H26 =>
Bin .num .neq v23 (Value.int .i64 0) fun v27 =>
Br v27 (
R (.returned (.tuple #[(.pointer none), v23])) H26) (
DR H26 fun R28 =>
LdA 4 R28 (.pointer (some ⟨b24, 0, none⟩)) fun v29 =>
CallF Tryz.prog g 46 #[v3] H26 (fun v30 H31 =>
Ent H31 R28 ∧
Build Tryz.prog 96 [(0, v29), (1, a0), (2, v3), (3, v30)] fun v32 =>
New H31 (.cells (Value.cells v32) 96 (0, 0)) fun b33 H34 =>
Ent H34 R28 ∧
R (.returned (.tuple #[(.pointer (some ⟨b33, 0, none⟩)), (Value.int .i64 0)])) H34) NoKP)) (PanR R))) (PanR R))) (PanR R)
theorem L10_sound (h : L10 g a0 a1 H R) : SCalls Tryz.prog g 10 #[a0, a1] H R :=
  soundF (hn := (.n .e (.n .e (.n (.n (.h 0 [] [1] .e .e) .e) (.n .e (.n .e (.n .e (.n .e (.n (.h 0 [0, 1, 2, 3, 4, 5, 6, 7, 8] [] .e .e) .e))))))))) Tryz.func10 h (by kernel_rfl)
def L11 (g : Gh) (a0 a1 a2 a3 : Value) (H : Hp) (R : Rt) : Prop :=
Bin .ptr .eql a0 (.pointer none) fun v1 =>
Br v1 (
R (.returned (.tuple #[(Value.int .u32 0), (Value.int .i64 10)])) H) (
CallF Tryz.prog g 47 #[a0, a1, a2, a3] H (fun v2 H3 =>
Bin .num .neq v2 (Value.int .i64 0) fun v4 =>
Br v4 (
R (.returned (.tuple #[(Value.int .u32 0), v2])) H3) (
CallF Tryz.prog g 48 #[a0, a1, a2, a3] H3 (fun v5 H6 =>
Ext 0 v5 fun v7 =>
Ext 1 v5 fun v8 =>
∀ J9 : Jt, (∀ w12 : Value, ∀ H11 : Hp, (∀ gs10 : Fr,
CallF Tryz.prog g 51 #[a0, w12] H11 (fun v13 H14 =>
Bin .num .neq v13 (Value.int .i64 0) fun v15 =>
Br v15 (
R (.returned (.tuple #[(Value.int .u32 0), v13])) H14) (
R (.returned (.tuple #[w12, (Value.int .i64 0)])) H14)) (PanR R)) → J9 [w12] H11) →
Un .not v8 fun v16 =>
Br v16 (
Nil a0 fun v17 =>
FAddr 0 v17 fun v18 =>
CallF Tryz.prog g 49 #[v18, (Value.int .i64 1)] H6 (fun v19 H20 =>
Un .not v19 fun v21 =>
Br v21 (
R (.returned (.tuple #[(Value.int .u32 0), (Value.int .i64 9)])) H20) (
Nil a0 fun v22 =>
FAddr 0 v22 fun v23 =>
Build Tryz.prog 103 [(0, a1), (1, a2), (2, a3)] fun v24 =>
CallF Tryz.prog g 50 #[v23, v24] H20 (fun v25 H26 =>
JE J9 [v25] H26) (PanR R))) (PanR R)) (
JE J9 [v7] H6)) (PanR R))) (PanR R))
theorem L11_sound (h : L11 g a0 a1 a2 a3 H R) : SCalls Tryz.prog g 11 #[a0, a1, a2, a3] H R :=
  soundF (hn := (.n .e (.n .e (.n .e (.n .e (.h 1 [11] [0] .e .e)))))) Tryz.func11 h (by kernel_rfl)
def L12 (g : Gh) (a0 a1 : Value) (H : Hp) (R : Rt) : Prop :=
Bin .ptr .eql a0 (.pointer none) fun v1 =>
Br v1 (
R (.returned (Value.int .i64 10)) H) (
∀ J2 : Jt, (∀ H4 : Hp, (∀ gs3 : Fr,
Nil a0 fun v5 =>
FAddr 7 v5 fun v6 =>
St 1 H4 v6 (.slice none 0 0) fun H7 =>
R (.returned (Value.int .i64 0)) H7) → J2 [] H4) →
Bin .num .gtr a1 (Value.int .u32 1) fun v8 =>
Br v8 (
CallF Tryz.prog g 52 #[a0, a1] H (fun v9 H10 =>
Bin .num .eql v9 (Value.int .i64 0) fun v11 =>
Br v11 (
R (.returned (Value.int .i64 3)) H10) (
Nil a0 fun v12 =>
FAddr 0 v12 fun v13 =>
FAddr 3 v13 fun v14 =>
Ld H10 v14 fun v15 =>
IAddr 1 v15 a1 fun v16 =>
Ld H10 v16 fun v17 =>
Bin .num .sub v17 (Value.int .i32 1) fun v18 =>
IAddr 1 v15 a1 fun v19 =>
St 1 H10 v19 v18 fun H20 =>
Nil a0 fun v21 =>
FAddr 0 v21 fun v22 =>
FAddr 3 v22 fun v23 =>
Ld H20 v23 fun v24 =>
IAddr 1 v24 a1 fun v25 =>
Ld H20 v25 fun v26 =>
Bin .num .eql v26 (Value.int .i32 0) fun v27 =>
Br v27 (
Nil a0 fun v28 =>
FAddr 0 v28 fun v29 =>
CallF Tryz.prog g 53 #[v29, a1] H20 (fun v30 H31 =>
JE J2 [] H31) (PanR R)) (
JE J2 [] H20))) (PanR R)) (
JE J2 [] H))
theorem L12_sound (h : L12 g a0 a1 H R) : SCalls Tryz.prog g 12 #[a0, a1] H R :=
  soundF (hn := (.n .e (.n .e (.h 1 [] [0] .e .e)))) Tryz.func12 h (by kernel_rfl)
def L13 (g : Gh) (a0 : Value) (H : Hp) (R : Rt) : Prop :=
Bin .ptr .eql a0 (.pointer none) fun v1 =>
Br v1 (
R (.returned (.slice none 0 0)) H) (
Nil a0 fun v2 =>
FAddr 5 v2 fun v3 =>
Ld H v3 fun v4 =>
CallF Tryz.prog g 46 #[v4] H (fun v5 H6 =>
R (.returned v5) H6) (PanR R))
theorem L13_sound (h : L13 g a0 H R) : SCalls Tryz.prog g 13 #[a0] H R :=
  soundF (hn := .e) Tryz.func13 h (by kernel_rfl)
def L14 (g : Gh) (a0 : Value) (H : Hp) (R : Rt) : Prop :=
Bin .ptr .eql a0 (.pointer none) fun v1 =>
Br v1 (
R (.returned (Value.int .i64 0)) H) (
Nil a0 fun v2 =>
FAddr 0 v2 fun v3 =>
FAddr 0 v3 fun v4 =>
Ld H v4 fun v5 =>
CallF Tryz.prog g 54 #[v5] H (fun v6 H7 =>
Bin .num .sub v6 (Value.int .i64 2) fun v8 =>
R (.returned v8) H7) (PanR R))
theorem L14_sound (h : L14 g a0 H R) : SCalls Tryz.prog g 14 #[a0] H R :=
  soundF (hn := .e) Tryz.func14 h (by kernel_rfl)
def L15 (g : Gh) (a0 : Value) (H : Hp) (R : Rt) : Prop :=
Bin .ptr .eql a0 (.pointer none) fun v1 =>
Br v1 (
R (.returned (Value.int .i64 0)) H) (
Nil a0 fun v2 =>
FAddr 7 v2 fun v3 =>
Ld H v3 fun v4 =>
LenS v4 fun v5 =>
R (.returned v5) H)
theorem L15_sound (h : L15 g a0 H R) : SCalls Tryz.prog g 15 #[a0] H R :=
  soundF (hn := .e) Tryz.func15 h (by kernel_rfl)
def L19 (g : Gh) (a0 a1 : Value) (H : Hp) (R : Rt) : Prop :=
LenS a0 fun v1 =>
LenS a1 fun v2 =>
Bin .num .neq v1 v2 fun v3 =>
Br v3 (
R (.returned (Value.bool false)) H) (
∃ (I4 : Jt) (m5 : Mt), JE I4 [(Value.int .i64 0)] H ∧ ∀ w8 : Value, ∀ H7 : Hp, I4 [w8] H7 → ∀ gs6 : Fr,
LenS a0 fun v9 =>
Bin .num .lss w8 v9 fun v10 =>
Br v10 (
IAddr 1 a0 w8 fun v11 =>
Ld H7 v11 fun v12 =>
IAddr 1 a1 w8 fun v13 =>
Ld H7 v13 fun v14 =>
Bin .num .neq v12 v14 fun v15 =>
Br v15 (
R (.returned (Value.bool false)) H7) (
Bin .num .add w8 (Value.int .i64 1) fun v16 =>
Back I4 m5 [v16] H7 [w8] H7)) (
R (.returned (Value.bool true)) H7))
theorem L19_sound (h : L19 g a0 a1 H R) : SCalls Tryz.prog g 19 #[a0, a1] H R :=
  soundF (hn := (.n .e (.n .e (.n (.n .e (.n (.h 0 [5] [0, 1] .e .e) .e)) .e)))) Tryz.func19 h (by kernel_rfl)
def L28 (g : Gh) (a0 a1 : Value) (H : Hp) (R : Rt) : Prop :=
Bin .ptr .eql a0 (.pointer none) fun v1 =>
Br v1 (
R (.returned (Value.int .i64 10)) H) (
Bin .num .lss a1 (Value.int .i64 0) fun v2 =>
Grp v2 false (fun t3 =>
Nil a0 fun v4 =>
FAddr 4 v4 fun v5 =>
Ld H v5 fun v6 =>
Bin .num .sub v6 (Value.int .i64 2) fun v7 =>
Bin .num .gtr a1 v7 fun v8 =>
(H = H ∧ v8 = Value.bool t3)) (fun t3 => (Value.bool true) = Value.bool t3) fun t3 => ∀ gs9 : Fr,
Br (Value.bool t3) (
R (.returned (Value.int .i64 1)) H) (
CallF Tryz.prog g 76 #[a0, a1] H (fun v10 H11 =>
Un .not v10 fun v12 =>
Br v12 (
R (.returned (Value.int .i64 9)) H11) (
Nil a0 fun v13 =>
FAddr 7 v13 fun v14 =>
Ld H11 v14 fun v15 =>
BuildSl Tryz.prog 22 1 [(0, a1)] H11 fun v16 H17 =>
App Tryz.prog 3 1 8 (Value.int .i64 0) H17 v15 v16 fun v20 H21 =>
Nil a0 fun v22 =>
FAddr 7 v22 fun v23 =>
St 1 H21 v23 v20 fun H24 =>
R (.returned (Value.int .i64 0)) H24)) (PanR R)))
theorem L28_sound (h : L28 g a0 a1 H R) : SCalls Tryz.prog g 28 #[a0, a1] H R :=
  soundF (hn := (.n .e (.n (.n (.n .e (.n .e (.n (.h 0 [] [1] .e .e) .e))) .e) .e))) Tryz.func28 h (by kernel_rfl)
def L29 (g : Gh) (a0 : Value) (H : Hp) (R : Rt) : Prop :=
Bin .ptr .eql a0 (.pointer none) fun v1 =>
Grp v1 false (fun t2 =>
Nil a0 fun v3 =>
FAddr 7 v3 fun v4 =>
Ld H v4 fun v5 =>
LenS v5 fun v6 =>
Bin .num .eql v6 (Value.int .i64 0) fun v7 =>
(H = H ∧ v7 = Value.bool t2)) (fun t2 => (Value.bool true) = Value.bool t2) fun t2 => ∀ gs8 : Fr,
Br (Value.bool t2) (
R (.returned (.tuple #[(Value.int .i64 0), (Value.int .i64 10)])) H) (
Nil a0 fun v9 =>
FAddr 7 v9 fun v10 =>
Ld H v10 fun v11 =>
LenS v11 fun v12 =>
Bin .num .sub v12 (Value.int .i64 1) fun v13 =>
Nil a0 fun v14 =>
FAddr 7 v14 fun v15 =>
Ld H v15 fun v16 =>
IAddr 1 v16 v13 fun v17 =>
Ld H v17 fun v18 =>
CallF Tryz.prog g 76 #[a0, v18] H (fun v19 H20 =>
Nil a0 fun v21 =>
FAddr 7 v21 fun v22 =>
Ld H20 v22 fun v23 =>
SliceE 1 v23 none (some v13) fun v24 =>
Nil a0 fun v25 =>
FAddr 7 v25 fun v26 =>
St 1 H20 v26 v24 fun H27 =>
R (.returned (.tuple #[v18, (Value.int .i64 0)])) H27) (PanR R))
theorem L29_sound (h : L29 g a0 H R) : SCalls Tryz.prog g 29 #[a0] H R :=
  soundF (hn := (.n .e (.n (.n (.h 0 [] [1] .e .e) .e) .e))) Tryz.func29 h (by kernel_rfl)
def L32 (g : Gh) (H : Hp) (R : Rt) : Prop :=
BuildSl Tryz.prog 22 4 [(0, (Value.int .i64 0)), (1, (Value.int .i64 2)), (2, (Value.int .i64 1)), (3, (Value.int .i64 3))] H fun v1 H2 =>
CallF Tryz.prog g 81 #[] H2 (fun v3 H4 =>
BuildSl Tryz.prog 49 1 [(0, v3)] H4 fun v5 H6 =>
CallF Tryz.prog g 38 #[(Value.int .i64 100), v1, v5] H6 (fun v7 H8 =>
Ext 0 v7 fun v9 =>
Ext 1 v7 fun v10 =>
Ext 2 v7 fun v11 =>
New H8 (.cells #[(.pointer none), (.pointer none), (.slice none 0 0), (.slice none 0 0)] 78 (0, 0)) fun b12 H13 =>
St 4 H13 (.pointer (some ⟨b12, 0, none⟩)) v9 fun H14 =>
∀ J15 : Jt, (∀ w18 : Value, ∀ H17 : Hp, (∀ gs16 : Fr,
Br w18 (
R (.returned (Value.bool false)) H17) (
FAddr 0 (.pointer (some ⟨b12, 0, none⟩)) fun v19 =>
Ld H17 v19 fun v20 =>
CallF Tryz.prog g 39 #[v20, (Value.int .i64 1)] H17 (fun v21 H22 =>
Ext 0 v21 fun v23 =>
Ext 1 v21 fun v24 =>
FAddr 0 (.pointer (some ⟨b12, 0, none⟩)) fun v25 =>
Ld H22 v25 fun v26 =>
CallF Tryz.prog g 33 #[v26, (Value.int .i64 1), (Value.int .i64 1)] H22 (fun v27 H28 =>
Ext 0 v27 fun v29 =>
Ext 1 v27 fun v30 =>
FAddr 0 (.pointer (some ⟨b12, 0, none⟩)) fun v31 =>
Ld H28 v31 fun v32 =>
CallF Tryz.prog g 14 #[v32] H28 (fun v33 H34 =>
FAddr 0 (.pointer (some ⟨b12, 0, none⟩)) fun v35 =>
Ld H34 v35 fun v36 =>
BuildSl Tryz.prog 22 4 [(0, (Value.int .i64 3)), (1, (Value.int .i64 2)), (2, (Value.int .i64 1)), (3, (Value.int .i64 0))] H34 fun v37 H38 =>
CallF Tryz.prog g 34 #[v36, v37] H38 (fun v39 H40 =>
Ext 0 v39 fun v41 =>
Ext 1 v39 fun v42 =>
∀ J43 : Jt, (∀ w46 : Value, ∀ H45 : Hp, (∀ gs44 : Fr,
R (.returned w46) H45) → J43 [w46] H45) →
Bin .num .eql v24 (Value.int .i64 0) fun v47 =>
Split v47 true (
Bin .num .eql v30 (Value.int .i64 0) fun v48 =>
Pick (Value.bool true) v48 (Value.bool false) fun v49 =>
Split v49 true (
Bin .num .eql v42 (Value.int .i64 0) fun v50 =>
Pick (Value.bool true) v50 (Value.bool false) fun v51 =>
Split v51 true (
Bin .num .eql v29 (Value.int .i64 1) fun v52 =>
Pick (Value.bool true) v52 (Value.bool false) fun v53 =>
Split v53 true (
Bin .num .eql v33 (Value.int .i64 4) fun v54 =>
Pick (Value.bool true) v54 (Value.bool false) fun v55 =>
Split v55 true (
Bin .num .eql v41 (Value.int .i64 6) fun v56 =>
Pick (Value.bool true) v56 (Value.bool false) fun v57 =>
Split v57 true (
BuildSl Tryz.prog 22 4 [(0, (Value.int .i64 4)), (1, (Value.int .i64 4)), (2, (Value.int .i64 6)), (3, (Value.int .i64 6))] H40 fun v58 H59 =>
CallF Tryz.prog g 19 #[v23, v58] H59 (fun v60 H61 =>
Pick (Value.bool true) v60 (Value.bool false) fun v62 =>
Split v62 true (
FAddr 0 (.pointer (some ⟨b12, 0, none⟩)) fun v63 =>
Ld H61 v63 fun v64 =>
CallF Tryz.prog g 13 #[v64] H61 (fun v65 H66 =>
BuildSl Tryz.prog 22 4 [(0, (Value.int .i64 3)), (1, (Value.int .i64 2)), (2, (Value.int .i64 1)), (3, (Value.int .i64 0))] H66 fun v67 H68 =>
CallF Tryz.prog g 19 #[v65, v67] H68 (fun v69 H70 =>
Pick (Value.bool true) v69 (Value.bool false) fun v71 =>
JE J43 [v71] H70) (PanR R)) (PanR R)) (
Pick (Value.bool false) undef (Value.bool false) fun v72 =>
JE J43 [v72] H61)) (PanR R)) (
Pick (Value.bool false) undef (Value.bool false) fun v73 =>
Pick v73 undef (Value.bool false) fun v74 =>
JE J43 [v74] H40)) (
Pick (Value.bool false) undef (Value.bool false) fun v75 =>
Pick v75 undef (Value.bool false) fun v76 =>
Pick v76 undef (Value.bool false) fun v77 =>
JE J43 [v77] H40)) (
Pick (Value.bool false) undef (Value.bool false) fun v78 =>
Pick v78 undef (Value.bool false) fun v79 =>
Pick v79 undef (Value.bool false) fun v80 =>
Pick v80 undef (Value.bool false) fun v81 =>
JE J43 [v81] H40)) (
Pick (Value.bool false) undef (Value.bool false) fun v82 =>
Pick v82 undef (Value.bool false) fun v83 =>
Pick v83 undef (Value.bool false) fun v84 =>
Pick v84 undef (Value.bool false) fun v85 =>
Pick v85 undef (Value.bool false) fun v86 =>
JE J43 [v86] H40)) (
Pick (Value.bool false) undef (Value.bool false) fun v87 =>
Pick v87 undef (Value.bool false) fun v88 =>
Pick v88 undef (Value.bool false) fun v89 =>
Pick v89 undef (Value.bool false) fun v90 =>
Pick v90 undef (Value.bool false) fun v91 =>
Pick v91 undef (Value.bool false) fun v92 =>
JE J43 [v92] H40)) (
Pick (Value.bool false) undef (Value.bool false) fun v93 =>
Pick v93 undef (Value.bool false) fun v94 =>
Pick v94 undef (Value.bool false) fun v95 =>
Pick v95 undef (Value.bool false) fun v96 =>
Pick v96 undef (Value.bool false) fun v97 =>
Pick v97 undef (Value.bool false) fun v98 =>
Pick v98 undef (Value.bool false) fun v99 =>
JE J43 [v99] H40)) (PanR R)) (PanR R)) (PanR R)) (PanR R))) → J15 [w18] H17) →
Un .not v11 fun v100 =>
Split v100 false (
FAddr 0 (.pointer (some ⟨b12, 0, none⟩)) fun v101 =>
Ld H14 v101 fun v102 =>
CallF Tryz.prog g 14 #[v102] H14 (fun v103 H104 =>
Bin .num .neq v103 (Value.int .i64 6) fun v105 =>
Pick (Value.bool false) (Value.bool true) v105 fun v106 =>
JE J15 [v106] H104) (PanR R)) (
Pick (Value.bool true) (Value.bool true) undef fun v107 =>
JE J15 [v107] H14)) (PanR R)) (PanR R)
theorem L32_sound (h : L32 g H R) : SCalls Tryz.prog g 32 #[] H R :=
  soundF (hn := (.n .e (.n .e (.n (.h 1 [26] [1] .e .e) (.n .e (.n .e (.n .e (.n .e (.h 1 [0] [] .e .e))))))))) Tryz.func32 h (by kernel_rfl)
def L33 (g : Gh) (a0 a1 a2 : Value) (H : Hp) (R : Rt) : Prop :=
Bin .ptr .eql a0 (.pointer none) fun v1 =>
Br v1 (
R (.returned (.tuple #[(Value.int .i64 0), (Value.int .i64 10)])) H) (
∀ J2 : Jt, (∀ w5 : Value, ∀ H4 : Hp, (∀ gs3 : Fr,
Br w5 (
R (.returned (.tuple #[(Value.int .i64 0), (Value.int .i64 1)])) H4) (
CallF Tryz.prog g 42 #[a0, a1] H4 (fun v6 H7 =>
Ext 0 v6 fun v8 =>
Ext 1 v6 fun v9 =>
Bin .num .neq v9 (Value.int .i64 0) fun v10 =>
Br v10 (
R (.returned (.tuple #[(Value.int .i64 0), v9])) H7) (
CallF Tryz.prog g 83 #[v8, a2] H7 (fun v11 H12 =>
CallF Tryz.prog g 82 #[a0, v11] H12 (fun v13 H14 =>
Ext 0 v13 fun v15 =>
Ext 1 v13 fun v16 =>
R (.returned (.tuple #[v15, v16])) H14) (PanR R)) (PanR R))) (PanR R))) → J2 [w5] H4) →
Bin .num .lss a2 (Value.int .i64 0) fun v17 =>
Split v17 false (
CallF Tryz.prog g 56 #[a0] H (fun v18 H19 =>
Bin .num .geq a2 v18 fun v20 =>
Pick (Value.bool false) (Value.bool true) v20 fun v21 =>
JE J2 [v21] H19) (PanR R)) (
Pick (Value.bool true) (Value.bool true) undef fun v22 =>
JE J2 [v22] H))
theorem L33_sound (h : L33 g a0 a1 a2 H R) : SCalls Tryz.prog g 33 #[a0, a1, a2] H R :=
  soundF (hn := (.n .e (.n (.n (.n .e (.n .e (.h 1 [13] [0, 1, 2] .e .e))) .e) .e))) Tryz.func33 h (by kernel_rfl)
def L34 (g : Gh) (a0 a1 : Value) (H : Hp) (R : Rt) : Prop :=
Bin .ptr .eql a0 (.pointer none) fun v1 =>
Br v1 (
R (.returned (.tuple #[(Value.int .i64 0), (Value.int .i64 10)])) H) (
∀ J2 : Jt, (∀ w5 : Value, ∀ H4 : Hp, (∀ gs3 : Fr,
Br w5 (
R (.returned (.tuple #[(Value.int .i64 0), (Value.int .i64 4)])) H4) (
CallF Tryz.prog g 13 #[a0] H4 (fun v6 H7 =>
CallF Tryz.prog g 85 #[v6, a1] H7 (fun v8 H9 =>
Ext 0 v8 fun v10 =>
Ext 1 v8 fun v11 =>
Bin .num .neq v11 (Value.int .i64 0) fun v12 =>
Br v12 (
R (.returned (.tuple #[(Value.int .i64 0), v11])) H9) (
CallF Tryz.prog g 82 #[a0, v10] H9 (fun v13 H14 =>
Ext 0 v13 fun v15 =>
Ext 1 v13 fun v16 =>
R (.returned (.tuple #[v15, v16])) H14) (PanR R))) (PanR R)) (PanR R))) → J2 [w5] H4) →
CallF Tryz.prog g 84 #[a1] H (fun v17 H18 =>
Bin .num .neq v17 (Value.int .i64 0) fun v19 =>
Split v19 false (
LenS a1 fun v20 =>
CallF Tryz.prog g 56 #[a0] H18 (fun v21 H22 =>
Bin .num .neq v20 v21 fun v23 =>
Pick (Value.bool false) (Value.bool true) v23 fun v24 =>
JE J2 [v24] H22) (PanR R)) (
Pick (Value.bool true) (Value.bool true) undef fun v25 =>
JE J2 [v25] H18)) (PanR R))
theorem L34_sound (h : L34 g a0 a1 H R) : SCalls Tryz.prog g 34 #[a0, a1] H R :=
  soundF (hn := (.n .e (.n .e (.n (.h 1 [19] [0, 1] .e .e) .e)))) Tryz.func34 h (by kernel_rfl)
def L35 (g : Gh) (a0 : Value) (H : Hp) (R : Rt) : Prop :=
∃ (I1 : Jt) (m2 : Mt), JE I1 [(Value.int .i64 0)] H ∧ ∀ w5 : Value, ∀ H4 : Hp, I1 [w5] H4 → ∀ gs3 : Fr,
LenS a0 fun v6 =>
Bin .num .lss w5 v6 fun v7 =>
Br v7 (
CallF Tryz.prog g 86 #[a0, w5] H4 (fun v8 H9 =>
Bin .num .lss v8 (Value.int .i64 0) fun v10 =>
Br v10 (
R (.returned (Value.int .i64 4)) H9) (
Bin .num .add w5 (Value.int .i64 1) fun v11 =>
Back I1 m2 [v11] H9 [w5] H4)) (PanR R)) (
LenS a0 fun v12 =>
Bin .num .gtr v12 (Value.int .i64 64) fun v13 =>
Br v13 (
R (.returned (Value.int .i64 13)) H4) (
R (.returned (Value.int .i64 0)) H4))
theorem L35_sound (h : L35 g a0 H R) : SCalls Tryz.prog g 35 #[a0] H R :=
  soundF (hn := (.n .e (.n (.n .e (.n (.h 0 [3] [0] .e .e) .e)) .e))) Tryz.func35 h (by kernel_rfl)
def L36 (g : Gh) (a0 a1 a2 : Value) (H : Hp) (R : Rt) : Prop :=
∃ (I1 : Jt) (m2 : Mt), JE I1 [a1, (Value.int .i64 0)] H ∧ ∀ w5 w6 : Value, ∀ H4 : Hp, I1 [w5, w6] H4 → ∀ gs3 : Fr,
Bin .num .lss w6 (Value.int .i64 70) fun v7 =>
Br v7 (
∀ J8 : Jt, (∀ w11 : Value, ∀ H10 : Hp, (∀ gs9 : Fr,
Bin .num .add w6 (Value.int .i64 1) fun v12 =>
Back I1 m2 [w11, v12] H10 [w5, w6] H4) → J8 [w11] H10) →
Bin .num .lss w5 (Value.int .u32 2) fun v13 =>
Br v13 (
Bin .num .eql w5 (Value.int .u32 1) fun v14 =>
R (.returned (.tuple #[v14, (Value.bool true)])) H4) (
CallF Tryz.prog g 60 #[a0, w5] H4 (fun v15 H16 =>
Ext 0 v15 fun v17 =>
Ext 1 v15 fun v18 =>
New H16 (.cells #[(Value.int .i64 0), (Value.int .u32 0), (Value.int .u32 0)] 103 (0, 0)) fun b19 H20 =>
St 3 H20 (.pointer (some ⟨b19, 0, none⟩)) v17 fun H21 =>
Bin .num .neq v18 (Value.int .i64 0) fun v22 =>
Grp v22 false (fun t23 =>
FAddr 0 (.pointer (some ⟨b19, 0, none⟩)) fun v24 =>
Ld H21 v24 fun v25 =>
Bin .num .lss v25 (Value.int .i64 0) fun v26 =>
(H21 = H21 ∧ v26 = Value.bool t23)) (fun t23 => (Value.bool true) = Value.bool t23) fun t23 => ∀ gs27 : Fr,
Grp (Value.bool t23) false (fun t28 =>
FAddr 0 (.pointer (some ⟨b19, 0, none⟩)) fun v29 =>
Ld H21 v29 fun v30 =>
Bin .num .gtr v30 (Value.int .i64 63) fun v31 =>
(H21 = H21 ∧ v31 = Value.bool t28)) (fun t28 => (Value.bool true) = Value.bool t28) fun t28 => ∀ gs32 : Fr,
Br (Value.bool t28) (
R (.returned (.tuple #[(Value.bool false), (Value.bool false)])) H21) (
FAddr 1 (.pointer (some ⟨b19, 0, none⟩)) fun v33 =>
Ld H21 v33 fun v34 =>
FAddr 0 (.pointer (some ⟨b19, 0, none⟩)) fun v35 =>
Ld H21 v35 fun v36 =>
Bin .num .shr a2 v36 fun v37 =>
Bin .num .rem v37 (Value.int .u64 2) fun v38 =>
Bin .num .eql v38 (Value.int .u64 1) fun v39 =>
Br v39 (
FAddr 2 (.pointer (some ⟨b19, 0, none⟩)) fun v40 =>
Ld H21 v40 fun v41 =>
JE J8 [v41] H21) (
JE J8 [v34] H21))) (PanR R))) (
R (.returned (.tuple #[(Value.bool false), (Value.bool false)])) H4)
theorem L36_sound (h : L36 g a0 a1 a2 H R) : SCalls Tryz.prog g 36 #[a0, a1, a2] H R :=
  soundF (hn := (.n .e (.n (.n .e (.n (.h 0 [1, 8] [0, 2] (.n .e (.h 1 [1] [0, 2, 8] (.n (.n .e (.n .e (.n (.n (.h 0 [] [1] .e .e) .e) .e))) .e) .e)) .e) .e)) .e))) Tryz.func36 h (by kernel_rfl)
def L37 (g : Gh) (a0 a1 : Value) (H : Hp) (R : Rt) : Prop :=
New H (.cells #[(Value.int .i64 0), (.slice none 0 0)] 55 (0, 0)) fun b1 H2 =>
CallF Tryz.prog g 87 #[a0] H2 (fun v3 H4 =>
MkSlice 29 1 8 (Value.int .u64 0) H4 v3 v3 fun v5 H6 =>
Build Tryz.prog 55 [(0, a0), (1, v5)] fun v7 =>
New H6 (.cells #[(Value.int .i64 0), (.slice none 0 0)] 55 (0, 0)) fun b8 H9 =>
St 2 H9 (.pointer (some ⟨b8, 0, none⟩)) v7 fun H10 =>
∃ (I11 : Jt) (m12 : Mt), JE I11 [(Value.int .i64 0)] H10 ∧ ∀ w15 : Value, ∀ H14 : Hp, I11 [w15] H14 → ∀ gs13 : Fr,
LenS a1 fun v16 =>
Bin .num .lss w15 v16 fun v17 =>
Br v17 (
∀ J18 : Jt, (∀ H20 : Hp, (∀ gs19 : Fr,
Bin .num .add w15 (Value.int .i64 1) fun v21 =>
Back I11 m12 [v21] H20 [w15] H14) → J18 [] H20) →
IAddr 1 a1 w15 fun v22 =>
Ld H14 v22 fun v23 =>
Br v23 (
DR H14 fun R24 =>
FAddr 1 (.pointer (some ⟨b8, 0, none⟩)) fun v25 =>
Ld R24 v25 fun v26 =>
Bin .num .quo w15 (Value.int .i64 64) fun v27 =>
IAddr 1 v26 v27 fun v28 =>
Ld R24 v28 fun v29 =>
Bin .num .rem w15 (Value.int .i64 64) fun v30 =>
Bin .num .shl (Value.int .u64 1) v30 fun v31 =>
Bin .num .add v29 v31 fun v32 =>
IAddr 1 v26 v27 fun v33 =>
St 1 H14 v33 v32 fun H34 =>
JE J18 [] H34) (
JE J18 [] H14)) (
LdA 2 H14 (.pointer (some ⟨b8, 0, none⟩)) fun v35 =>
St 2 H14 (.pointer (some ⟨b1, 0, none⟩)) v35 fun H36 =>
LdA 2 H36 (.pointer (some ⟨b1, 0, none⟩)) fun v37 =>
R (.returned v37) H36)) (PanR R)
theorem L37_sound (h : L37 g a0 a1 H R) : SCalls Tryz.prog g 37 #[a0, a1] H R :=
  soundF (hn := (.n .e (.n .e (.n (.n .e (.n (.h 0 [6] [1, 4, 5] (.n .e (.h 1 [] [1, 4, 5, 6] (.n (.n .e (.n (.h 0 [0, 1, 2, 3, 4, 5, 6, 7, 8, 9, 10, 11] [] .e .e) .e)) .e) .e)) .e) .e)) .e)))) Tryz.func37 h (by kernel_rfl)
def L38 (g : Gh) (a0 a1 a2 : Value) (H : Hp) (R : Rt) : Prop :=
New H (.cells #[(.pointer none), (.pointer none), (.slice none 0 0), (.slice none 0 0)] 78 (0, 0)) fun b1 H2 =>
LenS a1 fun v3 =>
∀ J4 : Jt, (∀ w7 : Value, ∀ H6 : Hp, (∀ gs5 : Fr,
Br w7 (
LdA 4 H6 (.pointer (some ⟨b1, 0, none⟩)) fun v8 =>
St 4 H6 (.pointer (some ⟨b1, 0, none⟩)) v8 fun H9 =>
LdA 4 H9 (.pointer (some ⟨b1, 0, none⟩)) fun v10 =>
R (.returned (.tuple #[v10, (Value.bool false), (Value.bool true)])) H9) (
LenS a2 fun v11 =>
∃ (I12 : Jt) (m13 : Mt), JE I12 [(Value.int .i64 0)] H6 ∧ ∀ w16 : Value, ∀ H15 : Hp, I12 [w16] H15 → ∀ gs14 : Fr,
Bin .num .lss w16 v11 fun v17 =>
Br v17 (
IAddr 2 a2 w16 fun v18 =>
LdA 2 H15 v18 fun v19 =>
New H15 (.cells #[(Value.int .i64 0), (.slice none 0 0)] 55 (0, 0)) fun b20 H21 =>
St 2 H21 (.pointer (some ⟨b20, 0, none⟩)) v19 fun H22 =>
LdA 2 H22 (.pointer (some ⟨b20, 0, none⟩)) fun v23 =>
CallF Tryz.prog g 62 #[v23] H22 (fun v24 H25 =>
Un .not v24 fun v26 =>
Grp v26 false (fun t27 =>
FAddr 0 (.pointer (some ⟨b20, 0, none⟩)) fun v28 =>
Ld H25 v28 fun v29 =>
Bin .num .neq v29 v3 fun v30 =>
(H25 = H25 ∧ v30 = Value.bool t27)) (fun t27 => (Value.bool true) = Value.bool t27) fun t27 => ∀ gs31 : Fr,
Br (Value.bool t27) (
LdA 4 H25 (.pointer (some ⟨b1, 0, none⟩)) fun v32 =>
St 4 H25 (.pointer (some ⟨b1, 0, none⟩)) v32 fun H33 =>
LdA 4 H33 (.pointer (some ⟨b1, 0, none⟩)) fun v34 =>
R (.returned (.tuple #[v34, (Value.bool false), (Value.bool true)])) H33) (
Bin .num .add w16 (Value.int .i64 1) fun v35 =>
Back I12 m13 [v35] H25 [w16] H15)) (PanR R)) (
CallF Tryz.prog g 10 #[v3, a0] H15 (fun v36 H37 =>
Ext 0 v36 fun v38 =>
Ext 1 v36 fun v39 =>
Bin .num .neq v39 (Value.int .i64 0) fun v40 =>
Grp v40 false (fun t41 =>
Bin .ptr .eql v38 (.pointer none) fun v42 =>
(H37 = H37 ∧ v42 = Value.bool t41)) (fun t41 => (Value.bool true) = Value.bool t41) fun t41 => ∀ gs43 : Fr,
Br (Value.bool t41) (
LdA 4 H37 (.pointer (some ⟨b1, 0, none⟩)) fun v44 =>
St 4 H37 (.pointer (some ⟨b1, 0, none⟩)) v44 fun H45 =>
LdA 4 H45 (.pointer (some ⟨b1, 0, none⟩)) fun v46 =>
R (.returned (.tuple #[v46, (Value.bool true), (Value.bool false)])) H45) (
CallF Tryz.prog g 63 #[v3, a0] H37 (fun v47 H48 =>
Build Tryz.prog 78 [(0, v38), (1, v47)] fun v49 =>
St 4 H48 (.pointer (some ⟨b1, 0, none⟩)) v49 fun H50 =>
FAddr 1 (.pointer (some ⟨b1, 0, none⟩)) fun v51 =>
Ld H50 v51 fun v52 =>
Nil v52 fun v53 =>
FAddr 2 v53 fun v54 =>
Ld H50 v54 fun v55 =>
CallF Tryz.prog g 64 #[v55, a1] H50 (fun v56 H57 =>
Ext 0 v56 fun v58 =>
Ext 1 v56 fun v59 =>
LenS v58 fun v60 =>
∃ (I61 : Jt) (m62 : Mt), JE I61 [(Value.int .i64 0)] H57 ∧ ∀ w65 : Value, ∀ H64 : Hp, I61 [w65] H64 → ∀ gs63 : Fr,
Bin .num .lss w65 v60 fun v66 =>
Br v66 (
IAddr 1 v58 w65 fun v67 =>
Ld H64 v67 fun v68 =>
∀ J69 : Jt, (∀ w72 : Value, ∀ H71 : Hp, (∀ gs70 : Fr,
Br w72 (
LdA 4 H71 (.pointer (some ⟨b1, 0, none⟩)) fun v73 =>
St 4 H71 (.pointer (some ⟨b1, 0, none⟩)) v73 fun H74 =>
LdA 4 H74 (.pointer (some ⟨b1, 0, none⟩)) fun v75 =>
R (.returned (.tuple #[v75, (Value.bool true), (Value.bool false)])) H74) (
Bin .num .add w65 (Value.int .i64 1) fun v76 =>
Back I61 m62 [v76] H71 [w65] H64)) → J69 [w72] H71) →
CallF Tryz.prog g 28 #[v38, v68] H64 (fun v77 H78 =>
Bin .num .neq v77 (Value.int .i64 0) fun v79 =>
Split v79 false (
FAddr 1 (.pointer (some ⟨b1, 0, none⟩)) fun v80 =>
Ld H78 v80 fun v81 =>
CallF Tryz.prog g 65 #[v81, v68] H78 (fun v82 H83 =>
Bin .num .neq v82 (Value.int .i64 0) fun v84 =>
Pick (Value.bool false) (Value.bool true) v84 fun v85 =>
JE J69 [v85] H83) (PanR R)) (
Pick (Value.bool true) (Value.bool true) undef fun v86 =>
JE J69 [v86] H78)) (PanR R)) (
CallF Tryz.prog g 51 #[v38, (Value.int .u32 1)] H64 (fun v87 H88 =>
Bin .num .neq v87 (Value.int .i64 0) fun v89 =>
Br v89 (
LdA 4 H88 (.pointer (some ⟨b1, 0, none⟩)) fun v90 =>
St 4 H88 (.pointer (some ⟨b1, 0, none⟩)) v90 fun H91 =>
LdA 4 H91 (.pointer (some ⟨b1, 0, none⟩)) fun v92 =>
R (.returned (.tuple #[v92, (Value.bool true), (Value.bool false)])) H91) (
FAddr 1 (.pointer (some ⟨b1, 0, none⟩)) fun v93 =>
Ld H88 v93 fun v94 =>
Nil v94 fun v95 =>
FAddr 4 v95 fun v96 =>
St 1 H88 v96 (.slice none 0 0) fun H97 =>
LenS a2 fun v98 =>
∃ (I99 : Jt) (m100 : Mt), JE I99 [(Value.int .i64 0)] H97 ∧ ∀ w103 : Value, ∀ H102 : Hp, I99 [w103] H102 → ∀ gs101 : Fr,
Bin .num .lss w103 v98 fun v104 =>
Br v104 (
∀ J105 : Jt, (∀ H107 : Hp, (∀ gs106 : Fr,
Bin .num .add w103 (Value.int .i64 1) fun v108 =>
Back I99 m100 [v108] H107 [w103] H102) → J105 [] H107) →
IAddr 2 a2 w103 fun v109 =>
LdA 2 H102 v109 fun v110 =>
New H102 (.cells #[(Value.int .i64 0), (.slice none 0 0)] 55 (0, 0)) fun b111 H112 =>
St 2 H112 (.pointer (some ⟨b111, 0, none⟩)) v110 fun H113 =>
FAddr 1 (.pointer (some ⟨b1, 0, none⟩)) fun v114 =>
Ld H113 v114 fun v115 =>
LdA 2 H113 (.pointer (some ⟨b111, 0, none⟩)) fun v116 =>
BuildSl Tryz.prog 49 1 [(0, v116)] H113 fun v117 H118 =>
CallF Tryz.prog g 66 #[v115, v117] H118 (fun v119 H120 =>
Un .not v119 fun v121 =>
Br v121 (
JE J105 [] H120) (
LdA 2 H120 (.pointer (some ⟨b111, 0, none⟩)) fun v122 =>
CallF Tryz.prog g 88 #[v38, a1, v122, (Value.int .i64 0)] H120 (fun v123 H124 =>
Ext 0 v123 fun v125 =>
Ext 1 v123 fun v126 =>
Bin .num .neq v126 (Value.int .i64 0) fun v127 =>
Br v127 (
LdA 4 H124 (.pointer (some ⟨b1, 0, none⟩)) fun v128 =>
St 4 H124 (.pointer (some ⟨b1, 0, none⟩)) v128 fun H129 =>
LdA 4 H129 (.pointer (some ⟨b1, 0, none⟩)) fun v130 =>
R (.returned (.tuple #[v130, (Value.bool true), (Value.bool false)])) H129) (
FAddr 1 (.pointer (some ⟨b1, 0, none⟩)) fun v131 =>
Ld H124 v131 fun v132 =>
LdA 2 H124 (.pointer (some ⟨b111, 0, none⟩)) fun v133 =>
CallF Tryz.prog g 68 #[v132, v133] H124 (fun v134 H135 =>
FAddr 2 (.pointer (some ⟨b1, 0, none⟩)) fun v136 =>
Ld H135 v136 fun v137 =>
BuildSl Tryz.prog 48 1 [(0, v125)] H135 fun v138 H139 =>
App Tryz.prog 31 1 4 (Value.int .u32 0) H139 v137 v138 fun v142 H143 =>
FAddr 2 (.pointer (some ⟨b1, 0, none⟩)) fun v144 =>
St 1 H143 v144 v142 fun H145 =>
FAddr 3 (.pointer (some ⟨b1, 0, none⟩)) fun v146 =>
Ld H145 v146 fun v147 =>
LdA 2 H145 (.pointer (some ⟨b111, 0, none⟩)) fun v148 =>
BuildSl Tryz.prog 49 1 [(0, v148)] H145 fun v149 H150 =>
App Tryz.prog 55 2 32 (.agg #[(Value.int .i64 0), (.slice none 0 0)]) H150 v147 v149 fun v153 H154 =>
FAddr 3 (.pointer (some ⟨b1, 0, none⟩)) fun v155 =>
St 1 H154 v155 v153 fun H156 =>
JE J105 [] H156) (PanR R))) (PanR R))) (PanR R)) (
DR H102 fun R157 =>
LdA 4 R157 (.pointer (some ⟨b1, 0, none⟩)) fun v158 =>
LdA 4 R157 (.pointer (some ⟨b1, 0, none⟩)) fun v159 =>
CallF Tryz.prog g 40 #[v159] H102 (fun v160 H161 =>
Ent H161 R157 ∧
St 4 H161 (.pointer (some ⟨b1, 0, none⟩)) v158 fun H162 =>
LdA 4 H162 (.pointer (some ⟨b1, 0, none⟩)) fun v163 =>
R (.returned (.tuple #[v163, (Value.bool true), v160])) H162) NoKP))) (PanR R))) (PanR R)) (PanR R))) (PanR R)))) → J4 [w7] H6) →
Bin .num .lss v3 (Value.int .i64 1) fun v164 =>
Split v164 false (
Bin .num .gtr v3 (Value.int .i64 8) fun v165 =>
Pick (Value.bool false) (Value.bool true) v165 fun v166 =>
Split v166 false (
CallF Tryz.prog g 61 #[a1, v3] H2 (fun v167 H168 =>
Un .not v167 fun v169 =>
Pick (Value.bool false) (Value.bool true) v169 fun v170 =>
Split v170 false (
Bin .num .lss a0 (Value.int .i64 2) fun v171 =>
Pick (Value.bool false) (Value.bool true) v171 fun v172 =>
Split v172 false (
Bin .num .gtr a0 (Value.int .i64 1048576) fun v173 =>
Pick (Value.bool false) (Value.bool true) v173 fun v174 =>
Split v174 false (
LenS a2 fun v175 =>
Bin .num .gtr v175 (Value.int .i64 60000) fun v176 =>
Pick (Value.bool false) (Value.bool true) v176 fun v177 =>
JE J4 [v177] H168) (
Pick (Value.bool true) (Value.bool true) undef fun v178 =>
JE J4 [v178] H168)) (
Pick (Value.bool true) (Value.bool true) undef fun v179 =>
Pick v179 (Value.bool true) undef fun v180 =>
JE J4 [v180] H168)) (
Pick (Value.bool true) (Value.bool true) undef fun v181 =>
Pick v181 (Value.bool true) undef fun v182 =>
Pick v182 (Value.bool true) undef fun v183 =>
JE J4 [v183] H168)) (PanR R)) (
Pick (Value.bool true) (Value.bool true) undef fun v184 =>
Pick v184 (Value.bool true) undef fun v185 =>
Pick v185 (Value.bool true) undef fun v186 =>
Pick v186 (Value.bool true) undef fun v187 =>
JE J4 [v187] H2)) (
Pick (Value.bool true) (Value.bool true) undef fun v188 =>
Pick v188 (Value.bool true) undef fun v189 =>
Pick v189 (Value.bool true) undef fun v190 =>
Pick v190 (Value.bool true) undef fun v191 =>
Pick v191 (Value.bool true) undef fun v192 =>
JE J4 [v192] H2)
theorem L38_sound (h : L38 g a0 a1 a2 H R) : SCalls Tryz.prog g 38 #[a0, a1, a2] H R :=
  soundF (hn := (.n .e (.n .e (.n (.h 1 [48] [0, 1, 2, 6, 9] .e .e) (.n (.n .e (.n (.h 0 [52] [0, 1, 2, 6, 9, 50, 51] (.n .e (.n .e (.n (.n (.n .e (.n (.h 0 [] [1] .e .e) .e)) .e) .e))) .e) .e)) (.n .e (.n (.n (.h 0 [] [1] .e .e) .e) (.n .e (.n .e (.n (.n .e (.n (.h 0 [97] [1, 2, 6, 12, 95, 96] (.n .e (.n .e (.n (.n (.n .e (.h 1 [111] [1, 2, 6, 12, 95, 96, 97] .e .e)) .e) .e))) .e) .e)) (.n .e (.n .e (.n (.n .e (.n (.h 0 [124] [1, 6, 12, 122, 123] (.n .e (.n .e (.h 1 [] [1, 6, 12, 122, 123, 124] .e .e))) .e) .e)) (.n (.h 0 [0, 1, 2, 3, 4, 5] [] .e .e) .e)))))))))))))) Tryz.func38 h (by kernel_rfl)
def L39 (g : Gh) (a0 a1 : Value) (H : Hp) (R : Rt) : Prop :=
CallF Tryz.prog g 42 #[a0, a1] H (fun v1 H2 =>
Ext 0 v1 fun v3 =>
Ext 1 v1 fun v4 =>
Bin .num .neq v4 (Value.int .i64 0) fun v5 =>
Br v5 (
R (.returned (.tuple #[(.slice none 0 0), v4])) H2) (
CallF Tryz.prog g 89 #[a0] H2 (fun v6 H7 =>
CallF Tryz.prog g 56 #[a0] H7 (fun v8 H9 =>
MkSlice 3 1 8 (Value.int .i64 0) H9 v8 v8 fun v10 H11 =>
CallF Tryz.prog g 14 #[a0] H11 (fun v12 H13 =>
IAddr 1 v10 v3 fun v14 =>
St 1 H13 v14 v12 fun H15 =>
CallF Tryz.prog g 56 #[a0] H15 (fun v16 H17 =>
Bin .num .sub v16 (Value.int .i64 1) fun v18 =>
BuildSl Tryz.prog 22 2 [(0, v18), (1, (Value.int .i64 0))] H17 fun v19 H20 =>
LenS v19 fun v21 =>
∃ (I22 : Jt) (m23 : Mt), JE I22 [(Value.int .i64 0)] H20 ∧ ∀ w26 : Value, ∀ H25 : Hp, I22 [w26] H25 → ∀ gs24 : Fr,
Bin .num .lss w26 v21 fun v27 =>
Br v27 (
IAddr 1 v19 w26 fun v28 =>
Ld H25 v28 fun v29 =>
CallF Tryz.prog g 83 #[v3, v29] H25 (fun v30 H31 =>
LenS v30 fun v32 =>
∃ (I33 : Jt) (m34 : Mt), JE I33 [v3, (Value.int .i64 0)] H31 ∧ ∀ w37 w38 : Value, ∀ H36 : Hp, I33 [w37, w38] H36 → ∀ gs35 : Fr,
Bin .num .lss w38 v32 fun v39 =>
Br v39 (
IAddr 1 v30 w38 fun v40 =>
Ld H36 v40 fun v41 =>
CallF Tryz.prog g 91 #[v6, v41] H36 (fun v42 H43 =>
Bin .num .neq v42 (Value.int .i64 0) fun v44 =>
Br v44 (
DefF Tryz.prog g 90 #[v6] H43 fun H45 =>
R (.returned (.tuple #[(.slice none 0 0), v42])) H45) (
Bin .num .add v41 v41 fun v46 =>
Bin .num .add v46 (Value.int .i64 1) fun v47 =>
Bin .num .sub v47 w37 fun v48 =>
Bin .num .sub v48 w37 fun v49 =>
Bin .num .add w37 v49 fun v50 =>
CallF Tryz.prog g 14 #[a0] H43 (fun v51 H52 =>
IAddr 1 v10 v50 fun v53 =>
St 1 H52 v53 v51 fun H54 =>
Bin .num .add w38 (Value.int .i64 1) fun v55 =>
Back I33 m34 [v50, v55] H54 [w37, w38] H36) NoP)) NoP) (
CallF Tryz.prog g 92 #[v6] H36 (fun v56 H57 =>
Bin .num .add w26 (Value.int .i64 1) fun v58 =>
Back I22 m23 [v58] H57 [w26] H25) NoP)) NoP) (
DefF Tryz.prog g 90 #[v6] H25 fun H59 =>
R (.returned (.tuple #[v10, (Value.int .i64 0)])) H59)) NoP) NoP) NoP) NoP)) NoP
theorem L39_sound (h : L39 g a0 a1 H R) : SCalls Tryz.prog g 39 #[a0, a1] H R :=
  soundT (hn := (.n .e (.n .e (.n .e (.n .e (.n .e (.n .e (.n .e (.n (.n .e (.n (.h 0 [41] [0, 6, 8, 9, 39, 40] (.n .e (.n .e (.n (.n (.n .e (.n .e (.n (.n .e (.n (.h 0 [12, 50] [0, 6, 8, 9, 39, 40, 41, 48, 49] .e .e) .e)) .e))) .e) .e))) .e) .e)) .e))))))))) Tryz.func39 h (by kernel_rfl)
def L40 (g : Gh) (a0 : Value) (H : Hp) (R : Rt) : Prop :=
New H (.cells (Value.cells a0) 78 (0, 0)) fun b1 H2 =>
∀ J3 : Jt, (∀ w6 : Value, ∀ H5 : Hp, (∀ gs4 : Fr,
Br w6 (
R (.returned (Value.bool false)) H5) (
FAddr 2 (.pointer (some ⟨b1, 0, none⟩)) fun v7 =>
Ld H5 v7 fun v8 =>
LenS v8 fun v9 =>
∃ (I10 : Jt) (m11 : Mt), JE I10 [(Value.int .i64 0)] H5 ∧ ∀ w14 : Value, ∀ H13 : Hp, I10 [w14] H13 → ∀ gs12 : Fr,
Bin .num .lss w14 v9 fun v15 =>
Br v15 (
IAddr 1 v8 w14 fun v16 =>
Ld H13 v16 fun v17 =>
DR H13 fun R18 =>
FAddr 0 (.pointer (some ⟨b1, 0, none⟩)) fun v19 =>
Ld R18 v19 fun v20 =>
FAddr 1 (.pointer (some ⟨b1, 0, none⟩)) fun v21 =>
Ld R18 v21 fun v22 =>
Nil v22 fun v23 =>
FAddr 0 v23 fun v24 =>
Ld R18 v24 fun v25 =>
∀ F26 : Hp,
CallF Tryz.prog (g.add F26) 93 #[v20, v17, v25, (Value.int .i64 0)] H13 (fun v27 H28 =>
Ent H28 R18 ∧
Ext 0 v27 fun v29 =>
Ext 1 v27 fun v30 =>
New H28 (.cells #[(Value.int .i64 0), (.slice none 0 0)] 55 (0, 0)) fun b31 H32 =>
∀ F33 : Hp,
St 2 H32 (.pointer (some ⟨b31, 0, none⟩)) v29 fun H34 =>
Ent H34 R18 ∧
∀ J35 : Jt, (∀ w38 : Value, ∀ H37 : Hp, (∀ gs36 : Fr,
Br w38 (
R (.returned (Value.bool false)) H37) (
Bin .num .add w14 (Value.int .i64 1) fun v39 =>
Back I10 m11 [v39] H37 [w14] H13)) → J35 [w38] H37) →
DR H34 fun R40 =>
Un .not v30 fun v41 =>
Br v41 (
JE J35 [(Value.bool true)] H34) (
LdA 2 R40 (.pointer (some ⟨b31, 0, none⟩)) fun v42 =>
FAddr 3 (.pointer (some ⟨b1, 0, none⟩)) fun v43 =>
Ld R40 v43 fun v44 =>
IAddr 2 v44 w14 fun v45 =>
LdA 2 R40 v45 fun v46 =>
∀ F47 : Hp,
CallF Tryz.prog (g.add F47) 72 #[v42, v46] H34 (fun v48 H49 =>
Ent H49 R40 ∧
Un .not v48 fun v50 =>
Pick (Value.bool false) (Value.bool true) v50 fun v51 =>
Br v51 (
JE J35 [(Value.bool true)] H49) (
FAddr 0 (.pointer (some ⟨b1, 0, none⟩)) fun v52 =>
Ld R40 v52 fun v53 =>
FAddr 1 (.pointer (some ⟨b1, 0, none⟩)) fun v54 =>
Ld R40 v54 fun v55 =>
LdA 2 R40 (.pointer (some ⟨b31, 0, none⟩)) fun v56 =>
∀ F57 : Hp,
CallF Tryz.prog (g.add F57) 52 #[v53, v17] H49 (fun v58 H59 =>
Ent H59 R40 ∧
∀ F60 : Hp,
CallF Tryz.prog (g.add F60) 73 #[v55, v56] H59 (fun v61 H62 =>
Ent H62 R40 ∧
Bin .num .neq v58 v61 fun v63 =>
Pick (Value.bool false) (Value.bool true) v63 fun v64 =>
JE J35 [v64] H62) NoKP) NoKP)) NoKP)) NoKP) (
R (.returned (Value.bool true)) H13))) → J3 [w6] H5) →
DR H2 fun R65 =>
FAddr 0 (.pointer (some ⟨b1, 0, none⟩)) fun v66 =>
Ld R65 v66 fun v67 =>
FAddr 1 (.pointer (some ⟨b1, 0, none⟩)) fun v68 =>
Ld R65 v68 fun v69 =>
Nil v69 fun v70 =>
FAddr 2 v70 fun v71 =>
Ld R65 v71 fun v72 =>
∀ F73 : Hp,
CallF Tryz.prog (g.add F73) 13 #[v67] H2 (fun v74 H75 =>
Ent H75 R65 ∧
∀ F76 : Hp,
CallF Tryz.prog (g.add F76) 19 #[v74, v72] H75 (fun v77 H78 =>
Ent H78 R65 ∧
Un .not v77 fun v79 =>
Br v79 (
JE J3 [(Value.bool true)] H78) (
FAddr 0 (.pointer (some ⟨b1, 0, none⟩)) fun v80 =>
Ld R65 v80 fun v81 =>
FAddr 1 (.pointer (some ⟨b1, 0, none⟩)) fun v82 =>
Ld R65 v82 fun v83 =>
Nil v83 fun v84 =>
FAddr 4 v84 fun v85 =>
Ld R65 v85 fun v86 =>
LenS v86 fun v87 =>
∀ F88 : Hp,
CallF Tryz.prog (g.add F88) 15 #[v81] H78 (fun v89 H90 =>
Ent H90 R65 ∧
Bin .num .neq v89 v87 fun v91 =>
Pick (Value.bool false) (Value.bool true) v91 fun v92 =>
Br v92 (
JE J3 [(Value.bool true)] H90) (
FAddr 0 (.pointer (some ⟨b1, 0, none⟩)) fun v93 =>
Ld R65 v93 fun v94 =>
FAddr 1 (.pointer (some ⟨b1, 0, none⟩)) fun v95 =>
Ld R65 v95 fun v96 =>
∀ F97 : Hp,
CallF Tryz.prog (g.add F97) 14 #[v94] H90 (fun v98 H99 =>
Ent H99 R65 ∧
∀ F100 : Hp,
CallF Tryz.prog (g.add F100) 69 #[v96] H99 (fun v101 H102 =>
Ent H102 R65 ∧
Bin .num .neq v98 v101 fun v103 =>
Pick (Value.bool false) (Value.bool true) v103 fun v104 =>
Br v104 (
JE J3 [(Value.bool true)] H102) (
FAddr 0 (.pointer (some ⟨b1, 0, none⟩)) fun v105 =>
Ld R65 v105 fun v106 =>
FAddr 1 (.pointer (some ⟨b1, 0, none⟩)) fun v107 =>
Ld R65 v107 fun v108 =>
Nil v108 fun v109 =>
FAddr 3 v109 fun v110 =>
Ld R65 v110 fun v111 =>
LenS v111 fun v112 =>
∀ F113 : Hp,
CallF Tryz.prog (g.add F113) 70 #[v106] H102 (fun v114 H115 =>
Ent H115 R65 ∧
LenS v114 fun v116 =>
Bin .num .neq v116 v112 fun v117 =>
Pick (Value.bool false) (Value.bool true) v117 fun v118 =>
JE J3 [v118] H115) NoKP)) NoKP) NoKP)) NoKP)) NoKP) NoKP
theorem L40_sound (h : L40 g a0 H R) : SCalls Tryz.prog g 40 #[a0] H R :=
  soundF (hn := (.n .e (.n (.h 1 [50] [1] (.h 1 [] [] (.h 0 [0] [] (.h 0 [1] [] (.h 0 [3] [] (.h 0 [4] [] (.h 0 [5] [] (.h 0 [6] [] (.h 0 [7] [] (.h 0 [2] [] (.h 0 [8] [] (.h 0 [9] [] (.h 2 [10] [] (.h 0 [11] [] (.h 0 [12] [] (.h 0 [13] [] (.h 0 [14] [] (.h 0 [15] [] (.h 0 [16] [] (.h 0 [17] [] (.h 0 [18] [] (.h 0 [19] [] (.h 0 [20] [] (.h 3 [21] [] (.h 3 [22] [] (.h 0 [23] [] (.h 0 [24] [] (.h 0 [25] [] (.h 0 [26] [] (.h 0 [27] [] (.h 0 [28] [] (.h 0 [29] [] (.h 3 [30] [] (.h 3 [31] [] (.h 0 [32] [] (.h 0 [33] [] (.h 0 [34] [] (.h 0 [35] [] (.h 0 [36] [] (.h 0 [37] [] (.h 0 [38] [] (.h 0 [39] [] (.h 0 [40] [] (.h 0 [41] [] (.h 0 [42] [] (.h 3 [43] [] .e .e) .e) .e) .e) .e) .e) .e) .e) .e) .e) .e) .e) .e) .e) .e) .e) .e) .e) .e) .e) .e) .e) .e) .e) .e) .e) .e) .e) .e) .e) .e) .e) .e) (.h 0 [11] [] (.h 0 [12] [] (.h 0 [14] [] (.h 0 [15] [] (.h 0 [16] [] (.h 0 [17] [] (.h 0 [18] [] (.h 0 [19] [] (.h 0 [13] [] (.h 0 [20] [] (.h 0 [21] [] (.h 2 [22] [] (.h 0 [23] [] (.h 0 [24] [] (.h 0 [25] [] (.h 0 [26] [] (.h 0 [27] [] (.h 0 [28] [] (.h 0 [29] [] (.h 3 [30] [] (.h 3 [31] [] (.h 0 [32] [] (.h 0 [33] [] (.h 0 [34] [] (.h 0 [35] [] (.h 0 [36] [] (.h 0 [37] [] (.h 0 [38] [] (.h 0 [39] [] (.h 0 [40] [] (.h 0 [41] [] (.h 0 [42] [] (.h 3 [43] [] .e .e) .e) .e) .e) .e) .e) .e) .e) .e) .e) .e) .e) .e) .e) .e) .e) .e) .e) .e) .e) .e) (.h 0 [23] [] (.h 0 [24] [] (.h 0 [26] [] (.h 0 [27] [] (.h 0 [25] [] (.h 0 [28] [] (.h 0 [29] [] (.h 0 [30] [] (.h 2 [31] [] (.h 0 [32] [] (.h 0 [33] [] (.h 0 [34] [] (.h 0 [35] [] (.h 0 [36] [] (.h 0 [37] [] (.h 0 [38] [] (.h 0 [39] [] (.h 0 [40] [] (.h 0 [41] [] (.h 0 [42] [] (.h 3 [43] [] .e .e) .e) .e) .e) .e) .e) .e) .e) .e) .e) .e) .e) (.h 0 [32] [] (.h 0 [33] [] (.h 0 [36] [] (.h 0 [37] [] (.h 0 [38] [] (.h 0 [39] [] (.h 0 [40] [] (.h 0 [41] [] (.h 0 [34] [] (.h 0 [35] [] (.h 0 [42] [] (.h 0 [43] [] .e .e) .e) .e) .e) .e) .e) .e) .e) .e) .e) .e) .e)) .e) .e) .e) .e) .e) .e) .e) .e)) .e) .e) .e) .e) .e) .e) .e) .e) .e) .e) .e)) .e) .e) .e) .e) .e) .e) .e) .e) .e) .e) .e) .e) (.n (.n .e (.n (.h 0 [54] [1, 52, 53] (.n .e (.n .e (.n (.n (.n .e (.n (.h 1 [] [] (.h 0 [0] [] (.h 0 [1] [] (.h 0 [2] [] (.h 0 [3] [] (.h 0 [4] [] (.h 0 [5] [] (.h 0 [6] [] (.h 0 [7] [] (.h 1 [12] [] (.h 0 [8] [] (.h 0 [9] [] (.h 0 [10] [] (.h 0 [11] [] (.h 0 [12] [] (.h 0 [13] [] (.h 0 [14] [] .e .e) .e) .e) .e) .e) .e) .e) .e) .e) .e) .e) .e) .e) .e) .e) .e) .e) (.h 1 [93] [1, 52, 53, 54] (.h 1 [] [] (.h 0 [0] [] (.h 0 [1] [] (.h 2 [2] [] (.h 0 [3] [] (.h 0 [4] [] (.h 0 [5] [] (.h 0 [6] [] (.h 0 [7] [] (.h 0 [8] [] (.h 0 [9] [] (.h 0 [10] [] (.h 3 [11] [] (.h 3 [12] [] (.h 0 [13] [] (.h 0 [14] [] (.h 0 [15] [] (.h 0 [16] [] (.h 0 [17] [] (.h 0 [18] [] (.h 0 [19] [] (.h 0 [20] [] (.h 0 [21] [] (.h 3 [22] [] .e .e) .e) .e) .e) .e) .e) .e) .e) .e) .e) .e) .e) .e) .e) .e) .e) .e) .e) .e) .e) (.h 0 [3] [] (.h 0 [4] [] (.h 0 [5] [] (.h 0 [6] [] (.h 0 [7] [] (.h 0 [8] [] (.h 0 [9] [] (.h 0 [10] [] (.h 0 [11] [] (.h 2 [12] [] (.h 0 [13] [] (.h 0 [14] [] (.h 0 [15] [] (.h 0 [16] [] (.h 0 [17] [] (.h 0 [18] [] (.h 0 [19] [] (.h 0 [20] [] (.h 0 [21] [] (.h 3 [22] [] .e .e) .e) .e) .e) .e) .e) .e) .e) .e) .e) (.h 0 [13] [] (.h 0 [14] [] (.h 0 [15] [] (.h 0 [17] [] (.h 0 [18] [] (.h 0 [19] [] (.h 0 [16] [] (.h 0 [20] [] (.h 0 [21] [] (.h 0 [22] [] .e .e) .e) .e) .e) .e) .e) .e) .e) .e) .e)) .e) .e) .e) .e) .e) .e) .e) .e) .e)) .e) .e) .e) .e))) .e) .e))) .e) .e)) .e)))) Tryz.func40 h (by kernel_rfl)
def L42 (g : Gh) (a0 a1 : Value) (H : Hp) (R : Rt) : Prop :=
Bin .ptr .eql a0 (.pointer none) fun v1 =>
Br v1 (
R (.returned (.tuple #[(Value.int .i64 0), (Value.int .i64 10)])) H) (
CallF Tryz.prog g 94 #[a0, a1] H (fun v2 H3 =>
Un .not v2 fun v4 =>
Br v4 (
R (.returned (.tuple #[(Value.int .i64 0), (Value.int .i64 2)])) H3) (
Nil a0 fun v5 =>
FAddr 6 v5 fun v6 =>
Ld H3 v6 fun v7 =>
IAddr 1 v7 a1 fun v8 =>
Ld H3 v8 fun v9 =>
R (.returned (.tuple #[v9, (Value.int .i64 0)])) H3)) (PanR R))
theorem L42_sound (h : L42 g a0 a1 H R) : SCalls Tryz.prog g 42 #[a0, a1] H R :=
  soundF (hn := .e) Tryz.func42 h (by kernel_rfl)
def L43 (g : Gh) (a0 : Value) (H : Hp) (R : Rt) : Prop :=
Bin .num .lss a0 (Value.int .i64 0) fun v1 =>
Grp v1 false (fun t2 =>
Bin .num .gtr a0 (Value.int .i64 64) fun v3 =>
(H = H ∧ v3 = Value.bool t2)) (fun t2 => (Value.bool true) = Value.bool t2) fun t2 => ∀ gs4 : Fr,
Br (Value.bool t2) (
R (.returned (.tuple #[(.slice none 0 0), (Value.int .i64 1)])) H) (
CallF Tryz.prog g 95 #[a0] H (fun v5 H6 =>
R (.returned (.tuple #[v5, (Value.int .i64 0)])) H6) (PanR R))
theorem L43_sound (h : L43 g a0 H R) : SCalls Tryz.prog g 43 #[a0] H R :=
  soundF (hn := (.n .e (.n (.n (.h 0 [] [1] .e .e) .e) .e))) Tryz.func43 h (by kernel_rfl)
def L44 (g : Gh) (a0 : Value) (H : Hp) (R : Rt) : Prop :=
Bin .num .lss a0 (Value.int .i64 1) fun v1 =>
Grp v1 false (fun t2 =>
Bin .num .gtr a0 (Value.int .i64 64) fun v3 =>
(H = H ∧ v3 = Value.bool t2)) (fun t2 => (Value.bool true) = Value.bool t2) fun t2 => ∀ gs4 : Fr,
Br (Value.bool t2) (
R (.returned (.tuple #[(.pointer none), (Value.int .i64 1)])) H) (
MkSlice 147 1 8 (.map none) H a0 a0 fun v5 H6 =>
Build Tryz.prog 146 [(0, v5)] fun v7 =>
New H6 (.cells (Value.cells v7) 146 (0, 0)) fun b8 H9 =>
∃ (I10 : Jt) (m11 : Mt), JE I10 [(Value.int .i64 0)] H9 ∧ ∀ w14 : Value, ∀ H13 : Hp, I10 [w14] H13 → ∀ gs12 : Fr,
Bin .num .lss w14 a0 fun v15 =>
Br v15 (
Nil (.pointer (some ⟨b8, 0, none⟩)) fun v16 =>
FAddr 0 v16 fun v17 =>
Ld H13 v17 fun v18 =>
MkMap H13 fun v19 H20 =>
IAddr 1 v18 w14 fun v21 =>
St 1 H20 v21 v19 fun H22 =>
Bin .num .add w14 (Value.int .i64 1) fun v23 =>
Back I10 m11 [v23] H22 [w14] H13) (
R (.returned (.tuple #[(.pointer (some ⟨b8, 0, none⟩)), (Value.int .i64 0)])) H13))
theorem L44_sound (h : L44 g a0 H R) : SCalls Tryz.prog g 44 #[a0] H R :=
  soundF (hn := (.n .e (.n (.n (.h 0 [] [1] .e .e) .e) (.n .e (.n (.n .e (.n (.h 0 [17] [4, 16] .e .e) .e)) .e))))) Tryz.func44 h (by kernel_rfl)
def L45 (g : Gh) (a0 a1 : Value) (H : Hp) (R : Rt) : Prop :=
New H (.cells #[(.pointer none), (.pointer none), (.slice none 0 0), (.slice none 0 0)] 92 (0, 0)) fun b1 H2 =>
CallF Tryz.prog g 96 #[a0] H2 (fun v3 H4 =>
Ext 0 v3 fun v5 =>
Ext 1 v3 fun v6 =>
Build Tryz.prog 92 [(0, v5), (1, a1)] fun v7 =>
St 4 H4 (.pointer (some ⟨b1, 0, none⟩)) v7 fun H8 =>
LdA 4 H8 (.pointer (some ⟨b1, 0, none⟩)) fun v9 =>
R (.returned (.tuple #[v9, v6])) H8) (PanR R)
theorem L45_sound (h : L45 g a0 a1 H R) : SCalls Tryz.prog g 45 #[a0, a1] H R :=
  soundF (hn := .e) Tryz.func45 h (by kernel_rfl)
def L46 (g : Gh) (a0 : Value) (H : Hp) (R : Rt) : Prop :=
Bin .slice .eql a0 (.slice none 0 0) fun v1 =>
Br v1 (
R (.returned (.slice none 0 0)) H) (
BuildSl Tryz.prog 22 0 [] H fun v2 H3 =>
App Tryz.prog 3 1 8 (Value.int .i64 0) H3 v2 a0 fun v6 H7 =>
R (.returned v6) H7)
theorem L46_sound (h : L46 g a0 H R) : SCalls Tryz.prog g 46 #[a0] H R :=
  soundF (hn := .e) Tryz.func46 h (by kernel_rfl)
def L47 (g : Gh) (a0 a1 a2 a3 : Value) (H : Hp) (R : Rt) : Prop :=
CallF Tryz.prog g 94 #[a0, a1] H (fun v1 H2 =>
Un .not v1 fun v3 =>
Br v3 (
R (.returned (Value.int .i64 2)) H2) (
∀ J4 : Jt, (∀ w7 : Value, ∀ H6 : Hp, (∀ gs5 : Fr,
Br w7 (
R (.returned (Value.int .i64 3)) H6) (
∀ J8 : Jt, (∀ w11 : Value, ∀ H10 : Hp, (∀ gs9 : Fr,
Br w11 (
R (.returned (Value.int .i64 4)) H10) (
R (.returned (Value.int .i64 0)) H10)) → J8 [w11] H10) →
DR H6 fun R12 =>
Bin .num .neq a2 a3 fun v13 =>
Br v13 (
Nil a0 fun v14 =>
FAddr 6 v14 fun v15 =>
Ld R12 v15 fun v16 =>
IAddr 1 v16 a1 fun v17 =>
Ld R12 v17 fun v18 =>
∀ F19 : Hp,
CallF Tryz.prog (g.add F19) 98 #[a0, a2] H6 (fun v20 H21 =>
Ent H21 R12 ∧
∀ F22 : Hp,
CallF Tryz.prog (g.add F22) 98 #[a0, a3] H21 (fun v23 H24 =>
Ent H24 R12 ∧
MinI v20 v23 fun v25 =>
Bin .num .geq v18 v25 fun v26 =>
Pick (Value.bool true) v26 (Value.bool false) fun v27 =>
JE J8 [v27] H24) NoKP) NoKP) (
JE J8 [(Value.bool false)] H6))) → J4 [w7] H6) →
Nil a0 fun v28 =>
FAddr 0 v28 fun v29 =>
CallF Tryz.prog g 97 #[v29, a2] H2 (fun v30 H31 =>
Un .not v30 fun v32 =>
Split v32 false (
Nil a0 fun v33 =>
FAddr 0 v33 fun v34 =>
CallF Tryz.prog g 97 #[v34, a3] H31 (fun v35 H36 =>
Un .not v35 fun v37 =>
Pick (Value.bool false) (Value.bool true) v37 fun v38 =>
JE J4 [v38] H36) (PanR R)) (
Pick (Value.bool true) (Value.bool true) undef fun v39 =>
JE J4 [v39] H31)) (PanR R))) (PanR R)
theorem L47_sound (h : L47 g a0 a1 a2 a3 H R) : SCalls Tryz.prog g 47 #[a0, a1, a2, a3] H R :=
  soundF (hn := (.n .e (.n (.n (.n .e (.n .e (.h 1 [14] [0, 1, 2, 3] .e (.n .e (.h 1 [29] [] (.h 1 [] [] (.h 0 [0] [] (.h 0 [1] [] (.h 0 [2] [] (.h 2 [3] [] (.h 0 [4] [] (.h 0 [5] [] (.h 0 [6] [] (.h 0 [7] [] (.h 0 [8] [] (.h 0 [9] [] (.h 0 [10] [] (.h 0 [11] [] (.h 0 [12] [] (.h 0 [14] [] (.h 0 [15] [] (.h 0 [13] [] (.h 0 [16] [] (.h 0 [17] [] (.h 0 [18] [] (.h 0 [19] [] (.h 0 [20] [] .e .e) .e) .e) .e) .e) .e) .e) .e) .e) .e) .e) .e) .e) .e) .e) .e) .e) (.h 0 [4] [] (.h 0 [5] [] (.h 0 [6] [] (.h 0 [7] [] (.h 0 [8] [] (.h 0 [9] [] (.h 0 [10] [] (.h 0 [11] [] (.h 0 [12] [] (.h 0 [13] [] (.h 0 [14] [] (.h 0 [15] [] (.h 0 [16] [] (.h 0 [17] [] (.h 0 [18] [] (.h 3 [19] [] (.h 3 [20] [] .e .e) .e) .e) .e) .e) .e) .e) .e) .e) .e) .e) .e) .e) .e) .e) .e) .e)) .e) .e) .e) .e) .e))))) .e) .e))) Tryz.func47 h (by kernel_rfl)
def L48 (g : Gh) (a0 a1 a2 a3 : Value) (H : Hp) (R : Rt) : Prop :=
Bin .num .eql a2 a3 fun v1 =>
Br v1 (
R (.returned (.tuple #[a2, (Value.bool true)])) H) (
Nil a0 fun v2 =>
FAddr 0 v2 fun v3 =>
FAddr 1 v3 fun v4 =>
Ld H v4 fun v5 =>
Build Tryz.prog 103 [(0, a1), (1, a2), (2, a3)] fun v6 =>
CallF Tryz.prog g 99 #[v5, v6] H (fun v7 H8 =>
Ext 0 v7 fun v9 =>
Ext 1 v7 fun v10 =>
R (.returned (.tuple #[v9, v10])) H8) (PanR R))
theorem L48_sound (h : L48 g a0 a1 a2 a3 H R) : SCalls Tryz.prog g 48 #[a0, a1, a2, a3] H R :=
  soundF (hn := .e) Tryz.func48 h (by kernel_rfl)
def L49 (g : Gh) (a0 a1 : Value) (H : Hp) (R : Rt) : Prop :=
DR H fun R1 =>
Nil a0 fun v2 =>
FAddr 0 v2 fun v3 =>
Ld R1 v3 fun v4 =>
Nil a0 fun v5 =>
FAddr 0 v5 fun v6 =>
Ld R1 v6 fun v7 =>
CallF Tryz.prog g 54 #[v4] H (fun v8 H9 =>
Ent H9 R1 ∧
Bin .num .add v8 a1 fun v10 =>
CallF Tryz.prog g 100 #[v7] H9 (fun v11 H12 =>
Ent H12 R1 ∧
Bin .num .leq v10 v11 fun v13 =>
R (.returned v13) H12) NoKP) NoKP
theorem L49_sound (h : L49 g a0 a1 H R) : SCalls Tryz.prog g 49 #[a0, a1] H R :=
  soundF (hn := (.n .e (.n (.h 0 [0, 1, 2, 3, 5, 7, 8, 9, 10, 4, 6, 11, 12, 13] [] .e .e) .e))) Tryz.func49 h (by kernel_rfl)
def L50 (g : Gh) (a0 a1 : Value) (H : Hp) (R : Rt) : Prop :=
New H (.cells (Value.cells a1) 103 (0, 0)) fun b1 H2 =>
DR H2 fun R3 =>
Nil a0 fun v4 =>
FAddr 0 v4 fun v5 =>
Ld R3 v5 fun v6 =>
LdA 3 R3 (.pointer (some ⟨b1, 0, none⟩)) fun v7 =>
CallF Tryz.prog g 101 #[v6, v7] H2 (fun v8 H9 =>
Ent H9 R3 ∧
Ext 0 v8 fun v10 =>
Ext 1 v8 fun v11 =>
∃ (I12 : Jt) (m13 : Mt), JE I12 [] H9 ∧ ∀ H15 : Hp, I12 [] H15 → ∀ gs14 : Fr,
ConvI .i64 v10 fun v16 =>
Nil a0 fun v17 =>
FAddr 2 v17 fun v18 =>
Ld H15 v18 fun v19 =>
LenS v19 fun v20 =>
Bin .num .geq v16 v20 fun v21 =>
Br v21 (
Nil a0 fun v22 =>
FAddr 2 v22 fun v23 =>
Ld H15 v23 fun v24 =>
BuildSl Tryz.prog 90 1 [(0, (Value.int .i32 0))] H15 fun v25 H26 =>
App Tryz.prog 21 1 4 (Value.int .i32 0) H26 v24 v25 fun v29 H30 =>
Nil a0 fun v31 =>
FAddr 2 v31 fun v32 =>
St 1 H30 v32 v29 fun H33 =>
Nil a0 fun v34 =>
FAddr 3 v34 fun v35 =>
Ld H33 v35 fun v36 =>
BuildSl Tryz.prog 90 1 [(0, (Value.int .i32 0))] H33 fun v37 H38 =>
App Tryz.prog 21 1 4 (Value.int .i32 0) H38 v36 v37 fun v41 H42 =>
Nil a0 fun v43 =>
FAddr 3 v43 fun v44 =>
St 1 H42 v44 v41 fun H45 =>
Back I12 m13 [] H45 [] H15) (
DR H15 fun R46 =>
Nil a0 fun v47 =>
FAddr 2 v47 fun v48 =>
Ld R46 v48 fun v49 =>
Nil a0 fun v50 =>
FAddr 3 v50 fun v51 =>
Ld R46 v51 fun v52 =>
IAddr 1 v49 v10 fun v53 =>
St 1 H15 v53 (Value.int .i32 0) fun H54 =>
IAddr 1 v52 v10 fun v55 =>
St 1 H54 v55 (Value.int .i32 0) fun H56 =>
FAddr 1 (.pointer (some ⟨b1, 0, none⟩)) fun v57 =>
Ld H56 v57 fun v58 =>
CallF Tryz.prog g 102 #[a0, v58] H56 (fun v59 H60 =>
FAddr 2 (.pointer (some ⟨b1, 0, none⟩)) fun v61 =>
Ld H60 v61 fun v62 =>
CallF Tryz.prog g 102 #[a0, v62] H60 (fun v63 H64 =>
DR H64 fun R65 =>
Nil a0 fun v66 =>
FAddr 1 v66 fun v67 =>
Ld R65 v67 fun v68 =>
LdA 3 R65 (.pointer (some ⟨b1, 0, none⟩)) fun v69 =>
CallF Tryz.prog g 103 #[v68, v69, v10] H64 (fun v70 H71 =>
R (.returned v10) H71) NoKP) (PanR R)) (PanR R))) NoKP
theorem L50_sound (h : L50 g a0 a1 H R) : SCalls Tryz.prog g 50 #[a0, a1] H R :=
  soundF (hn := (.n .e (.n (.h 0 [0, 1, 2, 3, 4, 5, 6, 7, 8, 9, 10] [] .e .e) (.n (.n (.h 0 [] [0, 3, 5] .e .e) .e) (.n (.h 0 [0, 1, 2, 3, 4, 5, 6, 7, 8, 9, 10, 11, 12, 13] [] .e .e) (.n .e (.n .e (.n (.h 0 [0, 1, 2, 3, 4, 5, 6] [] .e .e) .e)))))))) Tryz.func50 h (by kernel_rfl)
def L51 (g : Gh) (a0 a1 : Value) (H : Hp) (R : Rt) : Prop :=
Bin .ptr .eql a0 (.pointer none) fun v1 =>
Br v1 (
R (.returned (Value.int .i64 10)) H) (
Nil a0 fun v2 =>
FAddr 0 v2 fun v3 =>
CallF Tryz.prog g 97 #[v3, a1] H (fun v4 H5 =>
Un .not v4 fun v6 =>
Br v6 (
R (.returned (Value.int .i64 3)) H5) (
∀ J7 : Jt, (∀ H9 : Hp, (∀ gs8 : Fr,
Nil a0 fun v10 =>
FAddr 7 v10 fun v11 =>
St 1 H9 v11 (.slice none 0 0) fun H12 =>
R (.returned (Value.int .i64 0)) H12) → J7 [] H9) →
Bin .num .gtr a1 (Value.int .u32 1) fun v13 =>
Br v13 (
Nil a0 fun v14 =>
FAddr 0 v14 fun v15 =>
FAddr 3 v15 fun v16 =>
Ld H5 v16 fun v17 =>
IAddr 1 v17 a1 fun v18 =>
Ld H5 v18 fun v19 =>
Bin .num .eql v19 (Value.int .i32 65535) fun v20 =>
Br v20 (
R (.returned (Value.int .i64 8)) H5) (
Nil a0 fun v21 =>
FAddr 0 v21 fun v22 =>
FAddr 3 v22 fun v23 =>
Ld H5 v23 fun v24 =>
IAddr 1 v24 a1 fun v25 =>
Ld H5 v25 fun v26 =>
Bin .num .add v26 (Value.int .i32 1) fun v27 =>
IAddr 1 v24 a1 fun v28 =>
St 1 H5 v28 v27 fun H29 =>
Nil a0 fun v30 =>
FAddr 0 v30 fun v31 =>
FAddr 3 v31 fun v32 =>
Ld H29 v32 fun v33 =>
IAddr 1 v33 a1 fun v34 =>
Ld H29 v34 fun v35 =>
Bin .num .eql v35 (Value.int .i32 1) fun v36 =>
Br v36 (
Nil a0 fun v37 =>
FAddr 0 v37 fun v38 =>
FAddr 2 v38 fun v39 =>
Ld H29 v39 fun v40 =>
IAddr 1 v40 a1 fun v41 =>
Ld H29 v41 fun v42 =>
Bin .num .add v42 (Value.int .i32 1) fun v43 =>
IAddr 1 v40 a1 fun v44 =>
St 1 H29 v44 v43 fun H45 =>
JE J7 [] H45) (
JE J7 [] H29))) (
JE J7 [] H5))) (PanR R))
theorem L51_sound (h : L51 g a0 a1 H R) : SCalls Tryz.prog g 51 #[a0, a1] H R :=
  soundF (hn := (.n .e (.n .e (.h 1 [] [0] .e .e)))) Tryz.func51 h (by kernel_rfl)
def L52 (g : Gh) (a0 a1 : Value) (H : Hp) (R : Rt) : Prop :=
Bin .ptr .eql a0 (.pointer none) fun v1 =>
Grp v1 false (fun t2 =>
ConvI .i64 a1 fun v3 =>
Nil a0 fun v4 =>
FAddr 0 v4 fun v5 =>
FAddr 3 v5 fun v6 =>
Ld H v6 fun v7 =>
LenS v7 fun v8 =>
Bin .num .geq v3 v8 fun v9 =>
(H = H ∧ v9 = Value.bool t2)) (fun t2 => (Value.bool true) = Value.bool t2) fun t2 => ∀ gs10 : Fr,
Br (Value.bool t2) (
R (.returned (Value.int .i64 0)) H) (
Nil a0 fun v11 =>
FAddr 0 v11 fun v12 =>
FAddr 3 v12 fun v13 =>
Ld H v13 fun v14 =>
IAddr 1 v14 a1 fun v15 =>
Ld H v15 fun v16 =>
ConvI .i64 v16 fun v17 =>
R (.returned v17) H)
theorem L52_sound (h : L52 g a0 a1 H R) : SCalls Tryz.prog g 52 #[a0, a1] H R :=
  soundF (hn := (.n .e (.n (.n (.h 0 [] [1] .e .e) .e) .e))) Tryz.func52 h (by kernel_rfl)
def L53 (g : Gh) (a0 a1 : Value) (H : Hp) (R : Rt) : Prop :=
BuildSl Tryz.prog 48 1 [(0, a1)] H fun v1 H2 =>
∃ (I3 : Jt) (m4 : Mt), JE I3 [v1] H2 ∧ ∀ w7 : Value, ∀ H6 : Hp, I3 [w7] H6 → ∀ gs5 : Fr,
LenS w7 fun v8 =>
Bin .num .gtr v8 (Value.int .i64 0) fun v9 =>
Br v9 (
LenS w7 fun v10 =>
Bin .num .sub v10 (Value.int .i64 1) fun v11 =>
IAddr 1 w7 v11 fun v12 =>
Ld H6 v12 fun v13 =>
SliceE 1 w7 none (some v11) fun v14 =>
Bin .num .leq v13 (Value.int .u32 1) fun v15 =>
Br v15 (
Back I3 m4 [v14] H6 [w7] H6) (
Nil a0 fun v16 =>
FAddr 2 v16 fun v17 =>
Ld H6 v17 fun v18 =>
IAddr 1 v18 v13 fun v19 =>
Ld H6 v19 fun v20 =>
Bin .num .sub v20 (Value.int .i32 1) fun v21 =>
IAddr 1 v18 v13 fun v22 =>
St 1 H6 v22 v21 fun H23 =>
Nil a0 fun v24 =>
FAddr 2 v24 fun v25 =>
Ld H23 v25 fun v26 =>
IAddr 1 v26 v13 fun v27 =>
Ld H23 v27 fun v28 =>
Bin .num .gtr v28 (Value.int .i32 0) fun v29 =>
Br v29 (
Back I3 m4 [v14] H23 [w7] H6) (
CallF Tryz.prog g 104 #[a0, v13] H23 (fun v30 H31 =>
New H31 (.cells #[(Value.int .i64 0), (Value.int .u32 0), (Value.int .u32 0)] 103 (0, 0)) fun b32 H33 =>
St 3 H33 (.pointer (some ⟨b32, 0, none⟩)) v30 fun H34 =>
DR H34 fun R35 =>
Nil a0 fun v36 =>
FAddr 1 v36 fun v37 =>
Ld R35 v37 fun v38 =>
LdA 3 R35 (.pointer (some ⟨b32, 0, none⟩)) fun v39 =>
CallF Tryz.prog g 105 #[v38, v39] H34 (fun v40 H41 =>
Nil a0 fun v42 =>
FAddr 0 v42 fun v43 =>
Ld H41 v43 fun v44 =>
CallF Tryz.prog g 106 #[v44, v13] H41 (fun v45 H46 =>
FAddr 1 (.pointer (some ⟨b32, 0, none⟩)) fun v47 =>
Ld H46 v47 fun v48 =>
FAddr 2 (.pointer (some ⟨b32, 0, none⟩)) fun v49 =>
Ld H46 v49 fun v50 =>
BuildSl Tryz.prog 48 2 [(0, v48), (1, v50)] H46 fun v51 H52 =>
App Tryz.prog 31 1 4 (Value.int .u32 0) H52 v14 v51 fun v55 H56 =>
Back I3 m4 [v55] H56 [w7] H6) (PanR R)) NoKP) (PanR R)))) (
R (.returned (.tuple #[])) H6)
theorem L53_sound (h : L53 g a0 a1 H R) : SCalls Tryz.prog g 53 #[a0, a1] H R :=
  soundF (hn := (.n .e (.n (.h 0 [4] [0] (.n .e (.n (.n .e (.n .e (.n .e (.n .e (.n .e (.n .e (.n (.h 0 [0, 1, 2, 3, 4, 5] [] .e .e) .e))))))) .e)) .e) .e))) Tryz.func53 h (by kernel_rfl)
def L54 (g : Gh) (a0 : Value) (H : Hp) (R : Rt) : Prop :=
Bin .ptr .eql a0 (.pointer none) fun v1 =>
Br v1 (
R (.returned (Value.int .i64 0)) H) (
Nil a0 fun v2 =>
FAddr 3 v2 fun v3 =>
Ld H v3 fun v4 =>
R (.returned v4) H)
theorem L54_sound (h : L54 g a0 H R) : SCalls Tryz.prog g 54 #[a0] H R :=
  soundF (hn := .e) Tryz.func54 h (by kernel_rfl)
def L56 (g : Gh) (a0 : Value) (H : Hp) (R : Rt) : Prop :=
Bin .ptr .eql a0 (.pointer none) fun v1 =>
Br v1 (
R (.returned (Value.int .i64 0)) H) (
Nil a0 fun v2 =>
FAddr 4 v2 fun v3 =>
Ld H v3 fun v4 =>
R (.returned v4) H)
theorem L56_sound (h : L56 g a0 H R) : SCalls Tryz.prog g 56 #[a0] H R :=
  soundF (hn := .e) Tryz.func56 h (by kernel_rfl)
def L60 (g : Gh) (a0 a1 : Value) (H : Hp) (R : Rt) : Prop :=
New H (.cells #[(Value.int .i64 0), (Value.int .u32 0), (Value.int .u32 0)] 103 (0, 0)) fun b1 H2 =>
Bin .ptr .eql a0 (.pointer none) fun v3 =>
Br v3 (
Build Tryz.prog 103 [] fun v4 =>
St 3 H2 (.pointer (some ⟨b1, 0, none⟩)) v4 fun H5 =>
LdA 3 H5 (.pointer (some ⟨b1, 0, none⟩)) fun v6 =>
R (.returned (.tuple #[v6, (Value.int .i64 10)])) H5) (
Nil a0 fun v7 =>
FAddr 0 v7 fun v8 =>
CallF Tryz.prog g 97 #[v8, a1] H2 (fun v9 H10 =>
Un .not v9 fun v11 =>
Br v11 (
Build Tryz.prog 103 [] fun v12 =>
St 3 H10 (.pointer (some ⟨b1, 0, none⟩)) v12 fun H13 =>
LdA 3 H13 (.pointer (some ⟨b1, 0, none⟩)) fun v14 =>
R (.returned (.tuple #[v14, (Value.int .i64 3)])) H13) (
Nil a0 fun v15 =>
FAddr 0 v15 fun v16 =>
CallF Tryz.prog g 104 #[v16, a1] H10 (fun v17 H18 =>
St 3 H18 (.pointer (some ⟨b1, 0, none⟩)) v17 fun H19 =>
LdA 3 H19 (.pointer (some ⟨b1, 0, none⟩)) fun v20 =>
R (.returned (.tuple #[v20, (Value.int .i64 0)])) H19) (PanR R))) (PanR R))
theorem L60_sound (h : L60 g a0 a1 H R) : SCalls Tryz.prog g 60 #[a0, a1] H R :=
  soundF (hn := .e) Tryz.func60 h (by kernel_rfl)
def L61 (g : Gh) (a0 a1 : Value) (H : Hp) (R : Rt) : Prop :=
LenS a0 fun v1 =>
Bin .num .neq v1 a1 fun v2 =>
Br v2 (
R (.returned (Value.bool false)) H) (
∃ (I3 : Jt) (m4 : Mt), JE I3 [(Value.int .i64 0)] H ∧ ∀ w7 : Value, ∀ H6 : Hp, I3 [w7] H6 → ∀ gs5 : Fr,
Bin .num .lss w7 a1 fun v8 =>
Br v8 (
LenS a0 fun v9 =>
∃ (I10 : Jt) (m11 : Mt), JE I10 [(Value.int .i64 0), (Value.int .i64 0)] H6 ∧ ∀ w14 w15 : Value, ∀ H13 : Hp, I10 [w14, w15] H13 → ∀ gs12 : Fr,
Bin .num .lss w15 v9 fun v16 =>
Br v16 (
∀ J17 : Jt, (∀ w20 : Value, ∀ H19 : Hp, (∀ gs18 : Fr,
Bin .num .add w15 (Value.int .i64 1) fun v21 =>
Back I10 m11 [w20, v21] H19 [w14, w15] H13) → J17 [w20] H19) →
IAddr 1 a0 w15 fun v22 =>
Ld H13 v22 fun v23 =>
Bin .num .eql v23 w7 fun v24 =>
Br v24 (
Bin .num .add w14 (Value.int .i64 1) fun v25 =>
JE J17 [v25] H13) (
JE J17 [w14] H13)) (
Bin .num .neq w14 (Value.int .i64 1) fun v26 =>
Br v26 (
R (.returned (Value.bool false)) H13) (
Bin .num .add w7 (Value.int .i64 1) fun v27 =>
Back I3 m4 [v27] H13 [w7] H6))) (
R (.returned (Value.bool true)) H6))
theorem L61_sound (h : L61 g a0 a1 H R) : SCalls Tryz.prog g 61 #[a0, a1] H R :=
  soundF (hn := (.n .e (.n .e (.n (.n .e (.n (.h 0 [5] [0, 1] (.n .e (.n (.n (.n .e (.n (.n .e (.n (.h 0 [6, 20] [0, 1, 5, 18, 19] (.n .e (.n .e (.h 1 [6] [0, 1, 5, 18, 19, 20] .e .e))) .e) .e)) .e)) .e) .e)) .e) .e)) .e)))) Tryz.func61 h (by kernel_rfl)
def L62 (g : Gh) (a0 : Value) (H : Hp) (R : Rt) : Prop :=
New H (.cells (Value.cells a0) 55 (0, 0)) fun b1 H2 =>
∀ J3 : Jt, (∀ w6 : Value, ∀ H5 : Hp, (∀ gs4 : Fr,
Br w6 (
R (.returned (Value.bool false)) H5) (
FAddr 0 (.pointer (some ⟨b1, 0, none⟩)) fun v7 =>
Ld H5 v7 fun v8 =>
Bin .num .geq v8 (Value.int .i64 6) fun v9 =>
Grp v9 false (fun t10 =>
FAddr 1 (.pointer (some ⟨b1, 0, none⟩)) fun v11 =>
Ld H5 v11 fun v12 =>
IAddr 1 v12 (Value.int .i64 0) fun v13 =>
Ld H5 v13 fun v14 =>
FAddr 0 (.pointer (some ⟨b1, 0, none⟩)) fun v15 =>
Ld H5 v15 fun v16 =>
Bin .num .shl (Value.int .u64 1) v16 fun v17 =>
Bin .num .shr v14 v17 fun v18 =>
Bin .num .eql v18 (Value.int .u64 0) fun v19 =>
(H5 = H5 ∧ v19 = Value.bool t10)) (fun t10 => (Value.bool true) = Value.bool t10) fun t10 => ∀ gs20 : Fr,
R (.returned (Value.bool t10)) H5)) → J3 [w6] H5) →
DR H2 fun R21 =>
FAddr 0 (.pointer (some ⟨b1, 0, none⟩)) fun v22 =>
Ld R21 v22 fun v23 =>
Bin .num .lss v23 (Value.int .i64 0) fun v24 =>
Br v24 (
JE J3 [(Value.bool true)] H2) (
FAddr 0 (.pointer (some ⟨b1, 0, none⟩)) fun v25 =>
Ld R21 v25 fun v26 =>
Bin .num .gtr v26 (Value.int .i64 16) fun v27 =>
Pick (Value.bool false) (Value.bool true) v27 fun v28 =>
Br v28 (
JE J3 [(Value.bool true)] H2) (
FAddr 1 (.pointer (some ⟨b1, 0, none⟩)) fun v29 =>
Ld R21 v29 fun v30 =>
LenS v30 fun v31 =>
FAddr 0 (.pointer (some ⟨b1, 0, none⟩)) fun v32 =>
Ld R21 v32 fun v33 =>
∀ F34 : Hp,
CallF Tryz.prog (g.add F34) 87 #[v33] H2 (fun v35 H36 =>
Ent H36 R21 ∧
Bin .num .neq v31 v35 fun v37 =>
Pick (Value.bool false) (Value.bool true) v37 fun v38 =>
JE J3 [v38] H36) NoKP))
theorem L62_sound (h : L62 g a0 H R) : SCalls Tryz.prog g 62 #[a0] H R :=
  soundF (hn := (.n .e (.n (.h 1 [19] [1] (.h 1 [] [] (.h 0 [0] [] (.h 0 [1] [] (.h 0 [2] [] (.h 2 [3] [] (.h 0 [4] [] (.h 0 [5] [] (.h 0 [6] [] (.h 3 [7] [] (.h 3 [8] [] (.h 0 [9] [] (.h 0 [10] [] (.h 0 [11] [] (.h 0 [12] [] (.h 0 [13] [] (.h 0 [14] [] (.h 0 [15] [] (.h 3 [16] [] .e .e) .e) .e) .e) .e) .e) .e) .e) .e) .e) .e) .e) .e) (.h 0 [4] [] (.h 0 [5] [] (.h 0 [6] [] (.h 0 [7] [] (.h 2 [8] [] (.h 0 [9] [] (.h 0 [10] [] (.h 0 [11] [] (.h 0 [12] [] (.h 0 [13] [] (.h 0 [14] [] (.h 0 [15] [] (.h 3 [16] [] .e .e) .e) .e) .e) .e) .e) .e) .e) (.h 0 [9] [] (.h 0 [10] [] (.h 0 [11] [] (.h 0 [12] [] (.h 0 [13] [] (.h 0 [14] [] (.h 0 [15] [] (.h 0 [16] [] .e .e) .e) .e) .e) .e) .e) .e) .e)) .e) .e) .e) .e)) .e) .e) .e) .e) .e) .e))) Tryz.func62 h (by kernel_rfl)
def L63 (g : Gh) (a0 a1 : Value) (H : Hp) (R : Rt) : Prop :=
Build Tryz.prog 121 [(0, a0), (1, a1)] fun v1 =>
New H (.cells (Value.cells v1) 121 (0, 0)) fun b2 H3 =>
∃ (I4 : Jt) (m5 : Mt), JE I4 [(Value.int .i64 0)] H3 ∧ ∀ w8 : Value, ∀ H7 : Hp, I4 [w8] H7 → ∀ gs6 : Fr,
Bin .num .lss w8 a0 fun v9 =>
Br v9 (
Nil (.pointer (some ⟨b2, 0, none⟩)) fun v10 =>
FAddr 2 v10 fun v11 =>
Ld H7 v11 fun v12 =>
BuildSl Tryz.prog 22 1 [(0, w8)] H7 fun v13 H14 =>
App Tryz.prog 3 1 8 (Value.int .i64 0) H14 v12 v13 fun v17 H18 =>
Nil (.pointer (some ⟨b2, 0, none⟩)) fun v19 =>
FAddr 2 v19 fun v20 =>
St 1 H18 v20 v17 fun H21 =>
Bin .num .add w8 (Value.int .i64 1) fun v22 =>
Back I4 m5 [v22] H21 [w8] H7) (
R (.returned (.pointer (some ⟨b2, 0, none⟩))) H7)
theorem L63_sound (h : L63 g a0 a1 H R) : SCalls Tryz.prog g 63 #[a0, a1] H R :=
  soundF (hn := (.n .e (.n .e (.n (.n .e (.n (.h 0 [6] [0, 5] .e .e) .e)) .e)))) Tryz.func63 h (by kernel_rfl)
def L64 (g : Gh) (a0 a1 : Value) (H : Hp) (R : Rt) : Prop :=
CallF Tryz.prog g 110 #[a0, a1] H (fun v1 H2 =>
Bin .num .neq v1 (Value.int .i64 0) fun v3 =>
Br v3 (
R (.returned (.tuple #[(.slice none 0 0), v1])) H2) (
∃ (I4 : Jt) (m5 : Mt), JE I4 [a0, (.slice none 0 0), (Value.int .i64 0)] H2 ∧ ∀ w8 w9 w10 : Value, ∀ H7 : Hp, I4 [w8, w9, w10] H7 → ∀ gs6 : Fr,
LenS a1 fun v11 =>
Bin .num .lss w10 v11 fun v12 =>
Br v12 (
IAddr 1 a1 w10 fun v13 =>
Ld H7 v13 fun v14 =>
CallF Tryz.prog g 86 #[w8, v14] H7 (fun v15 H16 =>
∃ (I17 : Jt) (m18 : Mt), JE I17 [w8, w9, v15] H16 ∧ ∀ w21 w22 w23 : Value, ∀ H20 : Hp, I17 [w21, w22, w23] H20 → ∀ gs19 : Fr,
Bin .num .gtr w23 w10 fun v24 =>
Br v24 (
Bin .num .sub w23 (Value.int .i64 1) fun v25 =>
CallF Tryz.prog g 111 #[w21, v25] H20 (fun v26 H27 =>
Bin .num .sub w23 (Value.int .i64 1) fun v28 =>
BuildSl Tryz.prog 22 1 [(0, v28)] H27 fun v29 H30 =>
App Tryz.prog 3 1 8 (Value.int .i64 0) H30 w22 v29 fun v33 H34 =>
Bin .num .sub w23 (Value.int .i64 1) fun v35 =>
Back I17 m18 [v26, v33, v35] H34 [w21, w22, w23] H20) (PanR R)) (
Bin .num .add w10 (Value.int .i64 1) fun v36 =>
Back I4 m5 [w21, w22, v36] H20 [w8, w9, w10] H7)) (PanR R)) (
R (.returned (.tuple #[w9, (Value.int .i64 0)])) H7))) (PanR R)
theorem L64_sound (h : L64 g a0 a1 H R) : SCalls Tryz.prog g 64 #[a0, a1] H R :=
  soundF (hn := (.n .e (.n .e (.n .e (.n .e (.n (.n .e (.n (.h 0 [0, 7, 8] [1] (.n .e (.n (.n (.n .e (.n (.h 0 [0, 7, 9] [1, 8] .e .e) .e)) .e) .e)) .e) .e)) .e)))))) Tryz.func64 h (by kernel_rfl)
def L65 (g : Gh) (a0 a1 : Value) (H : Hp) (R : Rt) : Prop :=
Bin .num .lss a1 (Value.int .i64 0) fun v1 =>
Grp v1 false (fun t2 =>
Nil a0 fun v3 =>
FAddr 0 v3 fun v4 =>
Ld H v4 fun v5 =>
Bin .num .sub v5 (Value.int .i64 2) fun v6 =>
Bin .num .gtr a1 v6 fun v7 =>
(H = H ∧ v7 = Value.bool t2)) (fun t2 => (Value.bool true) = Value.bool t2) fun t2 => ∀ gs8 : Fr,
Br (Value.bool t2) (
R (.returned (Value.int .i64 1)) H) (
DR H fun R9 =>
Nil a0 fun v10 =>
FAddr 1 v10 fun v11 =>
Ld R9 v11 fun v12 =>
CallF Tryz.prog g 112 #[a0, a1] H (fun v13 H14 =>
Ent H14 R9 ∧
Bin .num .add (Value.int .i64 2) v13 fun v15 =>
Bin .num .gtr v15 v12 fun v16 =>
Br v16 (
R (.returned (Value.int .i64 9)) H14) (
Nil a0 fun v17 =>
FAddr 2 v17 fun v18 =>
Ld H14 v18 fun v19 =>
CallF Tryz.prog g 113 #[v19, a1] H14 (fun v20 H21 =>
Nil a0 fun v22 =>
FAddr 2 v22 fun v23 =>
St 1 H21 v23 v20 fun H24 =>
Nil a0 fun v25 =>
FAddr 4 v25 fun v26 =>
Ld H24 v26 fun v27 =>
BuildSl Tryz.prog 22 1 [(0, a1)] H24 fun v28 H29 =>
App Tryz.prog 3 1 8 (Value.int .i64 0) H29 v27 v28 fun v32 H33 =>
Nil a0 fun v34 =>
FAddr 4 v34 fun v35 =>
St 1 H33 v35 v32 fun H36 =>
R (.returned (Value.int .i64 0)) H36) (PanR R))) NoKP)
theorem L65_sound (h : L65 g a0 a1 H R) : SCalls Tryz.prog g 65 #[a0, a1] H R :=
  soundF (hn := (.n .e (.n (.n (.n (.h 0 [] [1] .e .e) (.n .e (.n (.h 0 [0, 1, 4, 5, 6, 7, 2, 3, 8, 9] [] .e .e) .e))) .e) .e))) Tryz.func65 h (by kernel_rfl)
def L66 (g : Gh) (a0 a1 : Value) (H : Hp) (R : Rt) : Prop :=
CallF Tryz.prog g 114 #[a0] H (fun v1 H2 =>
App Tryz.prog 55 2 32 (.agg #[(Value.int .i64 0), (.slice none 0 0)]) H2 (.slice none 0 0) v1 fun v5 H6 =>
App Tryz.prog 55 2 32 (.agg #[(Value.int .i64 0), (.slice none 0 0)]) H6 v5 a1 fun v9 H10 =>
DR H10 fun R11 =>
Nil a0 fun v12 =>
FAddr 1 v12 fun v13 =>
Ld R11 v13 fun v14 =>
CallF Tryz.prog g 115 #[a0, v9] H10 (fun v15 H16 =>
Ent H16 R11 ∧
Bin .num .add (Value.int .i64 2) v15 fun v17 =>
Bin .num .leq v17 v14 fun v18 =>
R (.returned v18) H16) NoKP) (PanR R)
theorem L66_sound (h : L66 g a0 a1 H R) : SCalls Tryz.prog g 66 #[a0, a1] H R :=
  soundF (hn := (.n .e (.n .e (.n .e (.n .e (.n (.h 0 [0, 1, 4, 5, 6, 7, 2, 3, 8, 9] [] .e .e) .e)))))) Tryz.func66 h (by kernel_rfl)
def L68 (g : Gh) (a0 a1 : Value) (H : Hp) (R : Rt) : Prop :=
New H (.cells (Value.cells a1) 55 (0, 0)) fun b1 H2 =>
LdA 2 H2 (.pointer (some ⟨b1, 0, none⟩)) fun v3 =>
CallF Tryz.prog g 116 #[v3] H2 (fun v4 H5 =>
Br v4 (
R (.returned (Value.int .i64 0)) H5) (
∃ (I6 : Jt) (m7 : Mt), JE I6 [(Value.int .i64 0)] H5 ∧ ∀ w10 : Value, ∀ H9 : Hp, I6 [w10] H9 → ∀ gs8 : Fr,
Nil a0 fun v11 =>
FAddr 3 v11 fun v12 =>
Ld H9 v12 fun v13 =>
LenS v13 fun v14 =>
Bin .num .lss w10 v14 fun v15 =>
Br v15 (
DR H9 fun R16 =>
Nil a0 fun v17 =>
FAddr 3 v17 fun v18 =>
Ld R16 v18 fun v19 =>
IAddr 3 v19 w10 fun v20 =>
FAddr 0 v20 fun v21 =>
LdA 2 R16 v21 fun v22 =>
LdA 2 R16 (.pointer (some ⟨b1, 0, none⟩)) fun v23 =>
CallF Tryz.prog g 72 #[v22, v23] H9 (fun v24 H25 =>
Ent H25 R16 ∧
Br v24 (
Nil a0 fun v26 =>
FAddr 3 v26 fun v27 =>
Ld H25 v27 fun v28 =>
IAddr 3 v28 w10 fun v29 =>
FAddr 2 v29 fun v30 =>
Ld H25 v30 fun v31 =>
Bin .num .geq v31 (Value.int .i64 65535) fun v32 =>
Br v32 (
R (.returned (Value.int .i64 8)) H25) (
Nil a0 fun v33 =>
FAddr 3 v33 fun v34 =>
Ld H25 v34 fun v35 =>
IAddr 3 v35 w10 fun v36 =>
FAddr 2 v36 fun v37 =>
Ld H25 v37 fun v38 =>
Bin .num .add v38 (Value.int .i64 1) fun v39 =>
IAddr 3 v35 w10 fun v40 =>
FAddr 2 v40 fun v41 =>
St 1 H25 v41 v39 fun H42 =>
R (.returned (Value.int .i64 0)) H42)) (
Bin .num .add w10 (Value.int .i64 1) fun v43 =>
Back I6 m7 [v43] H25 [w10] H9)) NoKP) (
DR H9 fun R44 =>
Nil a0 fun v45 =>
FAddr 3 v45 fun v46 =>
Ld R44 v46 fun v47 =>
LdA 2 R44 (.pointer (some ⟨b1, 0, none⟩)) fun v48 =>
Build Tryz.prog 173 [(0, v48), (1, (Value.int .i64 1))] fun v49 =>
BuildSl Tryz.prog 119 1 [(0, v49)] H9 fun v50 H51 =>
Ent H51 R44 ∧
App Tryz.prog 173 3 40 (.agg #[(Value.int .i64 0), (.slice none 0 0), (Value.int .i64 0)]) H51 v47 v50 fun v54 H55 =>
Ent H55 R44 ∧
Nil a0 fun v56 =>
FAddr 3 v56 fun v57 =>
St 1 H55 v57 v54 fun H58 =>
R (.returned (Value.int .i64 0)) H58))) (PanR R)
theorem L68_sound (h : L68 g a0 a1 H R) : SCalls Tryz.prog g 68 #[a0, a1] H R :=
  soundF (hn := (.n .e (.n .e (.n (.n .e (.n (.h 0 [5] [0, 3] (.n .e (.n (.n (.n (.h 0 [0, 1, 2, 3, 4, 5, 6, 7, 8, 9] [] .e .e) .e) .e) .e)) .e) .e)) (.n (.h 0 [0, 1, 2, 3, 4, 5, 6, 7, 8, 9, 10, 11] [] .e .e) .e))))) Tryz.func68 h (by kernel_rfl)
def L69 (g : Gh) (a0 : Value) (H : Hp) (R : Rt) : Prop :=
CallF Tryz.prog g 114 #[a0] H (fun v1 H2 =>
CallF Tryz.prog g 115 #[a0, v1] H2 (fun v3 H4 =>
R (.returned v3) H4) (PanR R)) (PanR R)
theorem L69_sound (h : L69 g a0 H R) : SCalls Tryz.prog g 69 #[a0] H R :=
  soundF (hn := .e) Tryz.func69 h (by kernel_rfl)
end Go.Proofs
