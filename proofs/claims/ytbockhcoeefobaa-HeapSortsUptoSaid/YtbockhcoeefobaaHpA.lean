/-
  Heaps, plainly: things with keys in a list, the order of a heap, and what going up and going down do to it.
-/
set_option linter.unusedVariables false
namespace HpA
abbrev It := Int × Int
def prec (a b : It) : Bool := decide (a.2 < b.2) || (a.2 == b.2 && decide (a.1 < b.1))
theorem prec_iff {a b : It} : prec a b = true ↔ a.2 < b.2 ∨ a.2 = b.2 ∧ a.1 < b.1 := by simp [prec]
theorem prec_false {a b : It} : prec a b = false ↔ ¬ (a.2 < b.2 ∨ a.2 = b.2 ∧ a.1 < b.1) := by rw [← prec_iff]; simp
theorem prec_irrefl (a : It) : prec a a = false := by rw [prec_false]; omega
theorem prec_asymm {a b : It} (h : prec a b = true) : prec b a = false := by rw [prec_iff] at h; rw [prec_false]; omega
theorem le_trans {a b c : It} (h1 : prec b a = false) (h2 : prec c b = false) : prec c a = false := by rw [prec_false] at *; omega
theorem le_of_prec {a b c : It} (h1 : prec a b = true) (h2 : prec c b = false) : prec c a = false := by rw [prec_iff] at h1; rw [prec_false] at *; omega

def fset (V : Nat → It) (i : Nat) (b : It) : Nat → It := fun j => if j = i then b else V j
/-- the thing at j doesn't go prec of its parent -/
def E (V : Nat → It) (j : Nat) : Prop := prec (V j) (V ((j - 1) / 2)) = false
/-- all in order, but for what hangs on place i -/
def UpInv (n : Nat) (V : Nat → It) (i : Nat) : Prop :=
  (∀ j, 0 < j → j < n → j ≠ i → (j - 1) / 2 ≠ i → E V j) ∧ (∀ j, 0 < j → j < n → (j - 1) / 2 = i → 0 < i → prec (V j) (V ((i - 1) / 2)) = false)
def ChildOK (n : Nat) (V : Nat → It) (i : Nat) : Prop := ∀ j, 0 < j → j < n → (j - 1) / 2 = i → E V j
/-- all in order, but for the children of i -/
def Exc (n : Nat) (V : Nat → It) (i : Nat) : Prop :=
  (∀ j, 0 < j → j < n → (j - 1) / 2 ≠ i → E V j) ∧ (∀ j, 0 < j → j < n → (j - 1) / 2 = i → 0 < i → prec (V j) (V ((i - 1) / 2)) = false)
def Ord (n : Nat) (V : Nat → It) : Prop := ∀ j, 0 < j → j < n → E V j

theorem up_step {n i : Nat} {V : Nat → It} (hi : 0 < i) (hn : i < n) (h : UpInv n V i) (ha : prec (V i) (V ((i - 1) / 2)) = true) :
    UpInv n (fset (fset V i (V ((i - 1) / 2))) ((i - 1) / 2) (V i)) ((i - 1) / 2) ∧ ChildOK n (fset (fset V i (V ((i - 1) / 2))) ((i - 1) / 2) (V i)) ((i - 1) / 2) := by
  obtain ⟨h1, h2⟩ := h
  have hq : (i - 1) / 2 ≠ i := by omega
  generalize hqd : (i - 1) / 2 = q at *
  have hqi : q < i := by omega
  refine ⟨⟨?_, ?_⟩, ?_⟩
  · intro j j0 jn jq jp
    unfold E fset
    rw [if_neg jq, if_neg jp]
    by_cases e1 : j = i
    · exact absurd (by rw [e1, hqd]) jp
    · rw [if_neg e1]
      by_cases e2 : (j - 1) / 2 = i
      · rw [if_pos e2]; exact h2 j j0 jn e2 hi
      · rw [if_neg e2]; exact h1 j j0 jn e1 e2
  · intro j j0 jn jp q0
    unfold fset
    have hqq : (q - 1) / 2 ≠ q := by omega
    have hqq2 : (q - 1) / 2 ≠ i := by omega
    rw [if_neg hqq, if_neg hqq2]
    have hjq : j ≠ q := by omega
    rw [if_neg hjq]
    have hq1 : E V q := h1 q q0 (by omega) hq (by omega)
    by_cases e1 : j = i
    · rw [if_pos e1]; exact hq1
    · rw [if_neg e1]
      have := h1 j j0 jn e1 (by omega)
      unfold E at this hq1
      rw [jp] at this
      exact le_trans hq1 this
  · intro j j0 jn jp
    unfold E fset
    rw [jp, if_pos rfl]
    have hjq : j ≠ q := by omega
    rw [if_neg hjq]
    by_cases e1 : j = i
    · rw [if_pos e1]; exact prec_asymm ha
    · rw [if_neg e1]
      have := h1 j j0 jn e1 (by omega)
      unfold E at this
      rw [jp] at this
      exact le_of_prec ha this
theorem up_done {n i : Nat} {V : Nat → It} (h : UpInv n V i) (ha : i = 0 ∨ prec (V i) (V ((i - 1) / 2)) = false) : Exc n V i := by
  refine ⟨fun j j0 jn jp => ?_, h.2⟩
  by_cases e : j = i
  · subst e; rcases ha with ha | ha
    · omega
    · exact ha
  · exact h.1 j j0 jn e jp
theorem exc_child {n i : Nat} {V : Nat → It} (h : Exc n V i) (hc : ChildOK n V i) : Ord n V := fun j j0 jn => by
  by_cases e : (j - 1) / 2 = i
  · exact hc j j0 jn e
  · exact h.1 j j0 jn e

/-- the child to look at -/
def kid (n : Nat) (V : Nat → It) (i : Nat) : Nat := if (decide (2 * i + 1 + 1 < n) && prec (V (2 * i + 1 + 1)) (V (2 * i + 1))) = true then 2 * i + 1 + 1 else 2 * i + 1
theorem kid_cases (n : Nat) (V : Nat → It) (i : Nat) : kid n V i = 2 * i + 1 ∨ kid n V i = 2 * i + 2 ∧ 2 * i + 2 < n := by
  unfold kid; split
  · rename_i h; simp only [Bool.and_eq_true, decide_eq_true_eq] at h; right; omega
  · left; rfl
theorem kid_least {n i j : Nat} {V : Nat → It} (j0 : 0 < j) (jn : j < n) (jp : (j - 1) / 2 = i) : prec (V j) (V (kid n V i)) = false := by
  unfold kid
  split
  · rename_i h
    simp only [Bool.and_eq_true, decide_eq_true_eq] at h
    rcases (show j = 2 * i + 1 ∨ j = 2 * i + 1 + 1 by omega) with rfl | rfl
    · exact prec_asymm h.2
    · exact prec_irrefl _
  · rename_i h
    rcases (show j = 2 * i + 1 ∨ j = 2 * i + 1 + 1 by omega) with rfl | rfl
    · exact prec_irrefl _
    · cases hh : prec (V (2 * i + 1 + 1)) (V (2 * i + 1))
      · rfl
      · exact absurd (by simp [hh, jn]) h
theorem down_step {n i : Nat} {V : Nat → It} (h : Exc n V i) (hk : kid n V i < n) (ha : prec (V (kid n V i)) (V i) = true) :
    Exc n (fset (fset V i (V (kid n V i))) (kid n V i) (V i)) (kid n V i) := by
  have hl : ∀ j, 0 < j → j < n → (j - 1) / 2 = i → prec (V j) (V (kid n V i)) = false := fun j => kid_least
  have hkc := kid_cases n V i
  generalize kid n V i = c at *
  obtain ⟨h1, h2⟩ := h
  have hcp : (c - 1) / 2 = i := by omega
  have hc0 : 0 < c := by omega
  have hci : c ≠ i := by omega
  refine ⟨?_, ?_⟩
  · intro j j0 jn jp
    unfold E fset
    rw [if_neg jp]
    by_cases e1 : j = c
    · rw [if_pos e1, if_pos (by rw [e1]; exact hcp)]; exact prec_asymm ha
    · rw [if_neg e1]
      by_cases e2 : j = i
      · rw [if_pos e2]
        have : (j - 1) / 2 ≠ i := by omega
        rw [if_neg this, e2]; exact h2 c hc0 hk hcp (by omega)
      · rw [if_neg e2]
        by_cases e3 : (j - 1) / 2 = i
        · rw [if_pos e3]; exact hl j j0 jn e3
        · rw [if_neg e3]; exact h1 j j0 jn e3
  · intro j j0 jn jp _
    unfold fset
    rw [hcp]
    have : j ≠ c := by omega
    have e2 : j ≠ i := by omega
    rw [if_neg this, if_neg e2, if_neg (fun e => hci e.symm), if_pos rfl]
    have := h1 j j0 jn (by omega)
    unfold E at this
    rwa [jp] at this
theorem down_done {n i : Nat} {V : Nat → It} (h : Exc n V i) (ha : n ≤ kid n V i ∨ prec (V (kid n V i)) (V i) = false) : Ord n V := by
  refine exc_child h fun j j0 jn jp => ?_
  have hl := kid_least (V := V) j0 jn jp
  rcases ha with ha | ha
  · rcases kid_cases n V i with h | h <;> omega
  · unfold E; rw [jp]; exact le_trans ha hl
theorem ord_min {n : Nat} {V : Nat → It} (h : Ord n V) : ∀ j, j < n → prec (V j) (V 0) = false := by
  intro j
  induction j using Nat.strongRecOn with
  | _ j ih =>
    intro jn
    by_cases j0 : j = 0
    · subst j0; exact prec_irrefl _
    · exact le_trans (ih ((j - 1) / 2) (by omega) (by omega)) (h j (by omega) jn)

/-! lists -/
def at' (l : List It) (j : Nat) : It := l.getD j (0, 0)
theorem at_some {l : List It} {j : Nat} (h : j < l.length) : l[j]? = some (at' l j) := by simp [at', List.getD, h]
theorem at_set {l : List It} {i : Nat} (b : It) (h : i < l.length) : at' (l.set i b) = fset (at' l) i b := by
  funext j
  unfold at' fset
  simp only [List.getD, List.getElem?_set]
  by_cases e : i = j
  · subst e; simp [h]
  · rw [if_neg e, if_neg (fun x => e x.symm)]
theorem set_at {l : List It} {i : Nat} (h : i < l.length) : l.set i (at' l i) = l := by
  apply List.ext_getElem?; intro j; rw [List.getElem?_set]; by_cases e : i = j
  · subst e; simp [h, at', List.getD]
  · simp [e]
theorem swap_perm {l : List It} {i q : Nat} (hi : i < l.length) (hq : q < l.length) (hne : q ≠ i) : ((l.set i (at' l q)).set q (at' l i)).Perm l := by
  rw [List.perm_iff_count]
  intro x
  have g1 : l[i] = at' l i := by simp [at', List.getD, hi]
  have g2 : l[q] = at' l q := by simp [at', List.getD, hq]
  have g3 : (l.set i (at' l q))[q]'(by simp [hq]) = at' l q := by rw [List.getElem_set_ne (fun e => hne e.symm)]; exact g2
  rw [List.count_set (by simp [hq]), List.count_set hi, g1, g3]
  have hc : at' l i = x → 0 < l.count x := fun e => by rw [List.count_pos_iff, ← e, ← g1]; exact List.getElem_mem hi
  by_cases e1 : at' l i = x
  · have := hc e1
    by_cases e2 : at' l q = x <;> simp [e1, e2] <;> omega
  · by_cases e2 : at' l q = x <;> simp [e1, e2]
/-- each thing once -/
def Once (l : List It) : Prop := (l.map Prod.fst).Nodup
theorem Once.perm {l l' : List It} (h : Once l) (p : l'.Perm l) : Once l' := (p.map _).nodup_iff.2 h
theorem Once.inj {l : List It} (h : Once l) {i j : Nat} (hi : i < l.length) (hj : j < l.length) (e : (at' l i).1 = (at' l j).1) : i = j := by
  unfold Once at h
  have hp := List.pairwise_iff_getElem.1 h
  have g : ∀ k (hk : k < l.length), (l.map Prod.fst)[k]'(by simpa using hk) = (at' l k).1 := fun k hk => by simp [at', List.getD, hk]
  rcases Nat.lt_trichotomy i j with hlt | rfl | hlt
  · have := hp i j (by simpa using hi) (by simpa using hj) hlt
    rw [g i hi, g j hj] at this; exact absurd e this
  · rfl
  · have := hp j i (by simpa using hj) (by simpa using hi) hlt
    rw [g i hi, g j hj] at this; exact absurd e.symm this
theorem mem_things {l : List It} {x : Int} : x ∈ l.map Prod.fst ↔ ∃ j, j < l.length ∧ (at' l j).1 = x := by
  rw [List.mem_iff_getElem]
  constructor
  · rintro ⟨j, hj, e⟩
    have hj' : j < l.length := by simpa using hj
    exact ⟨j, hj', by simpa [at', List.getD, hj'] using e⟩
  · rintro ⟨j, hj, e⟩
    exact ⟨j, by simpa using hj, by simpa [at', List.getD, hj] using e⟩

def upf (f : Int → Option Nat) (x : Int) (p : Option Nat) : Int → Option Nat := fun y => if y = x then p else f y
/-- f tells where each thing stands, but for what stands at i -/
def ConsX (l : List It) (f : Int → Option Nat) (i : Nat) : Prop := (∀ j, j < l.length → j ≠ i → f (at' l j).1 = some j) ∧ ∀ x, x ∉ l.map Prod.fst → f x = none
def Cons (l : List It) (f : Int → Option Nat) : Prop := (∀ j, j < l.length → f (at' l j).1 = some j) ∧ ∀ x, x ∉ l.map Prod.fst → f x = none
theorem Cons.x {l : List It} {f : Int → Option Nat} (h : Cons l f) (i : Nat) : ConsX l f i := ⟨fun j hj _ => h.1 j hj, h.2⟩
theorem ConsX.done {l : List It} {f : Int → Option Nat} {i : Nat} (h : ConsX l f i) (ho : Once l) (hi : i < l.length) : Cons l (upf f (at' l i).1 (some i)) := by
  refine ⟨fun j hj => ?_, fun x hx => ?_⟩
  · unfold upf
    by_cases e : (at' l j).1 = (at' l i).1
    · rw [if_pos e, ho.inj hj hi e]
    · rw [if_neg e]; exact h.1 j hj (fun e2 => e (by rw [e2]))
  · unfold upf
    rw [if_neg (fun e => hx (mem_things.2 ⟨i, hi, e.symm⟩))]
    exact h.2 x hx
theorem ConsX.step {l : List It} {f : Int → Option Nat} {i q : Nat} (h : ConsX l f i) (ho : Once l) (hi : i < l.length) (hq : q < l.length) (hne : q ≠ i) :
    ConsX ((l.set i (at' l q)).set q (at' l i)) (upf f (at' l q).1 (some i)) q := by
  have hat : ∀ j, at' ((l.set i (at' l q)).set q (at' l i)) j = fset (fset (at' l) i (at' l q)) q (at' l i) j := fun j => by rw [at_set _ (by simpa using hq), at_set _ hi]
  refine ⟨fun j hj hjq => ?_, fun x hx => ?_⟩
  · rw [hat]
    simp only [List.length_set] at hj
    unfold fset upf
    rw [if_neg hjq]
    by_cases e : j = i
    · rw [if_pos e, if_pos rfl, e]
    · rw [if_neg e]
      rw [if_neg (fun e2 => hjq (ho.inj hj hq e2))]
      exact h.1 j hj e
  · have hx' : x ∉ l.map Prod.fst := fun hm => hx (by
      have := (swap_perm hi hq hne).map Prod.fst
      exact this.mem_iff.2 hm)
    unfold upf
    rw [if_neg (fun e => hx' (mem_things.2 ⟨q, hq, e.symm⟩))]
    exact h.2 x hx'
end HpA
