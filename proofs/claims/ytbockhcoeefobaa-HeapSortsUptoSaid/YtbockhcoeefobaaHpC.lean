/- facts that the heap's walks want -/
import Derived.Test.YtbockhcoeefobaaHpB
import Derived.Test.YtbockhcoeefobaaSxM
set_option linter.unusedVariables false
set_option linter.unusedSimpArgs false
namespace HpA
open Go Go.Sx
theorem quo2 (j : Nat) (h : 0 < j) : ((j - 1 : Nat) : Int).tdiv 2 = (((j - 1) / 2 : Nat) : Int) := by
  rw [Int.tdiv_eq_ediv_of_nonneg (by omega)]; omega
theorem set_set_at {l : List It} {i q : Nat} (a : It) (hi : i < l.length) (hq : q < l.length) (hne : q ≠ i) : ((l.set i a).set i (at' (l.set i a) q)).set q (at' (l.set i a) i) = (l.set i (at' l q)).set q a := by
  rw [at_set a hi, List.set_set]
  simp [fset, hne]
/-- a heap whole -/
def HI (kd : IntKind) (TI TH : TypeId) (h : Value) (l : List It) (C : Hp) : Prop := ∃ f, HO kd TI TH h l f C ∧ Cons l f ∧ Ord l.length (at' l) ∧ Once l
theorem at_app {l : List It} {a : It} {j : Nat} (h : j < l.length) : at' (l ++ [a]) j = at' l j := by simp [at', List.getD, List.getElem?_append_left h]
theorem at_last (l : List It) (a : It) : at' (l ++ [a]) l.length = a := by simp [at', List.getD]
theorem push_pre {l : List It} {f : Int → Option Nat} {a : It} (hc : Cons l f) (ho : Ord l.length (at' l)) (h1 : Once l) (hx : a.1 ∉ l.map Prod.fst) :
    UpInv (l ++ [a]).length (at' (l ++ [a])) l.length ∧ ConsX (l ++ [a]) f l.length ∧ Once (l ++ [a]) ∧ ChildOK (l ++ [a]).length (at' (l ++ [a])) l.length := by
  simp only [List.length_append, List.length_cons, List.length_nil, Nat.zero_add]
  refine ⟨⟨fun j j0 jn jne jp => ?_, fun j j0 jn jp => by omega⟩, ⟨fun j jn jne => ?_, fun x hx' => ?_⟩, ?_, fun j j0 jn jp => by omega⟩
  · unfold E; rw [at_app (by omega), at_app (by omega)]; exact ho j j0 (by omega)
  · simp only [List.length_append, List.length_cons, List.length_nil] at jn
    rw [at_app (by omega)]; exact hc.1 j (by omega)
  · exact hc.2 x (fun h => hx' (by rw [List.map_append, List.mem_append]; exact .inl h))
  · unfold Once at *; rw [List.map_append, List.nodup_append]; exact ⟨h1, by simp, fun a' ha' b hb => by simp at hb; subst hb; intro e; subst e; exact hx ha'⟩
theorem cons_get {l : List It} {f : Int → Option Nat} (hc : Cons l f) {x : Int} : (x ∉ l.map Prod.fst ∧ f x = none) ∨ ∃ i, i < l.length ∧ (at' l i).1 = x ∧ f x = some i := by
  by_cases h : x ∈ l.map Prod.fst
  · obtain ⟨j, hj, e⟩ := mem_things.1 h
    exact .inr ⟨j, hj, e, by rw [← e]; exact hc.1 j hj⟩
  · exact .inl ⟨h, hc.2 x h⟩
/-- the heap without its first: the last one in its place -/
theorem pop_pre {l : List It} {f : Int → Option Nat} (hc : Cons l f) (ho : Ord l.length (at' l)) (h1 : Once l) {n : Nat} (hn : l.length = n + 1) :
    let l' := l.take n
    ((0 < n → (at' l n) :: (l'.set 0 (at' l n)).tail = l'.set 0 (at' l n) ∧ (at' l 0 :: l'.set 0 (at' l n)).Perm l ∧ Exc n (at' (l'.set 0 (at' l n))) 0 ∧ Once (l'.set 0 (at' l n)) ∧
      ConsX (l'.set 0 (at' l n)) (upf f (at' l 0).1 none) 0)) := by
  intro l' hn0
  have hl' : l'.length = n := by simp [l', hn]
  have hperm : (at' l 0 :: l'.set 0 (at' l n)).Perm l := by
    rw [List.perm_iff_count]
    intro x
    have e : l = l' ++ [at' l n] := by
      have : l = l.take n ++ l.drop n := (List.take_append_drop n l).symm
      have h2 : l.drop n = [at' l n] := by
        rw [List.drop_eq_getElem_cons (by omega), List.drop_eq_nil_of_le (by omega)]
        simp [hn, at', List.getD]
      rw [h2] at this; exact this
    have g0 : l'[0]'(by omega) = at' l 0 := by simp [l', at', List.getD, hn]
    conv => rhs; rw [e]
    rw [List.count_cons, List.count_set (by omega), g0, List.count_append]
    have hc0 : at' l 0 = x → 0 < l'.count x := fun e => by rw [List.count_pos_iff, ← e, ← g0]; exact List.getElem_mem _
    by_cases e1 : at' l 0 = x
    · have := hc0 e1
      by_cases e2 : at' l n = x <;> simp [e1, e2] <;> omega
    · by_cases e2 : at' l n = x <;> simp [e1, e2]
  have hat : ∀ j, j < n → j ≠ 0 → at' (l'.set 0 (at' l n)) j = at' l j := fun j hj h0 => by
    rw [at_set _ (by omega)]; simp [fset, h0, l', at', List.getD, hj]
  have hO : Once (l'.set 0 (at' l n)) := by
    have := (h1.perm hperm : Once _)
    unfold Once at this ⊢
    simp only [List.map_cons, List.nodup_cons] at this
    exact this.2
  refine ⟨?_, hperm, ⟨fun j j0 jn jp => ?_, fun j j0 jn jp h => by omega⟩, hO, fun j hj hj0 => ?_, fun x hx => ?_⟩
  · cases hh : l' with
    | nil => rw [hh] at hl'; simp at hl'; omega
    | cons a r => simp
  · unfold E; rw [hat j jn (by omega), hat _ (by omega) jp]; exact ho j j0 (by omega)
  · simp only [List.length_set, hl'] at hj
    rw [hat j hj hj0]
    unfold upf
    rw [if_neg (fun e => hj0 (h1.inj (by omega) (by omega) e))]
    exact hc.1 j (by omega)
  · unfold upf
    by_cases e : x = (at' l 0).1
    · rw [if_pos e]
    · rw [if_neg e]
      refine hc.2 x fun hm => hx ?_
      have := (hperm.map Prod.fst).mem_iff.2 hm
      simp only [List.map_cons, List.mem_cons] at this
      rcases this with h | h
      · exact absurd h e
      · exact h
/-- the key at i turned -/
theorem move_pre {l : List It} {f : Int → Option Nat} (hc : Cons l f) (ho : Ord l.length (at' l)) (h1 : Once l) {i : Nat} (hi : i < l.length) (key : Int) :
    UpInv (l.set i ((at' l i).1, key)).length (at' (l.set i ((at' l i).1, key))) i ∧ ConsX (l.set i ((at' l i).1, key)) f i ∧ Once (l.set i ((at' l i).1, key)) := by
  have hth : (l.set i ((at' l i).1, key)).map Prod.fst = l.map Prod.fst := by
    rw [List.map_set]
    apply List.ext_getElem?
    intro j
    rw [List.getElem?_set]
    by_cases e : i = j
    · subst e; simp [hi, at', List.getD]
    · simp [e]
  have hat : ∀ j, j ≠ i → at' (l.set i ((at' l i).1, key)) j = at' l j := fun j h => by rw [at_set _ hi]; simp [fset, h]
  refine ⟨⟨fun j j0 jn jne jp => ?_, fun j j0 jn jp i0 => ?_⟩, ⟨fun j jn jne => ?_, fun x hx => hc.2 x (by rwa [hth] at hx)⟩, by unfold Once; rw [hth]; exact h1⟩
  · simp only [List.length_set] at jn
    unfold E; rw [hat j jne, hat _ jp]; exact ho j j0 jn
  · simp only [List.length_set] at jn
    rw [hat j (by omega), hat _ (by omega)]
    have a1 := ho j j0 jn
    have a2 := ho i i0 hi
    unfold E at a1 a2
    rw [jp] at a1
    exact le_trans a2 a1
  · simp only [List.length_set] at jn
    rw [hat j jne]; exact hc.1 j jn
/-- a thing with its key, and the others -/
theorem perm_at {l : List It} {i : Nat} (hi : i < l.length) (a : It) : ∃ r, l.Perm (at' l i :: r) ∧ (l.set i a).Perm (a :: r) := by
  refine ⟨l.take i ++ l.drop (i + 1), ?_, ?_⟩
  · have : l = l.take i ++ at' l i :: l.drop (i + 1) := by
      have h2 : at' l i = l[i] := by simp [at', List.getD, hi]
      rw [h2, ← List.drop_eq_getElem_cons hi, List.take_append_drop]
    conv => lhs; rw [this]
    exact List.perm_middle
  · rw [List.set_eq_take_append_cons_drop, if_pos hi]
    exact List.perm_middle
end HpA
