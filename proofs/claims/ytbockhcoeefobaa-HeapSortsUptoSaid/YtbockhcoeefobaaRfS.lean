/-
  A heap's list beside the reference's list: what each call does to both.
-/
import Derived.Test.YtbockhcoeefobaaRfA
set_option linter.unusedVariables false
set_option linter.unusedSimpArgs false
namespace HpA
open Go Go.Sx
/-- how a thing with a key is told to the reference -/
structure Tau (τ : It → Tg) : Prop where
  sm : ∀ a b, sm (τ a) (τ b) = (a.1 == b.1)
  ls : ∀ a b, ls (τ a) (τ b) = prec a b
  key : ∀ a, (τ a).2.2 = a.2
  set : ∀ a k, ((τ a).1, (τ a).2.1, k) = τ (a.1, k)
def tw (a : It) : Tg := (a.1, false, a.2)
theorem tau_tw : Tau tw := by
  refine ⟨fun a b => by simp [HpA.sm, tw], fun a b => ?_, fun a => rfl, fun a k => rfl⟩
  rw [Bool.eq_iff_iff, ls_iff, prec_iff]; simp [tw]
def th (a : It) : Tg := if a.1 < 0 then (a.1 + 9223372036854775808, true, a.2) else (a.1, false, a.2)
theorem tau_th : Tau th := by
  have hc : ∀ a : It, (a.1 < 0 ∧ th a = (a.1 + 9223372036854775808, true, a.2)) ∨ (¬ a.1 < 0 ∧ th a = (a.1, false, a.2)) := fun a => by
    unfold th; split
    · rename_i h; exact .inl ⟨h, rfl⟩
    · rename_i h; exact .inr ⟨h, rfl⟩
  refine ⟨fun a b => ?_, fun a b => ?_, fun a => ?_, fun a k => ?_⟩
  · rw [Bool.eq_iff_iff]
    rcases hc a with ⟨h1, e1⟩ | ⟨h1, e1⟩ <;> rcases hc b with ⟨h2, e2⟩ | ⟨h2, e2⟩ <;> rw [e1, e2] <;> simp [HpA.sm] <;> omega
  · rw [Bool.eq_iff_iff, ls_iff, prec_iff]
    rcases hc a with ⟨h1, e1⟩ | ⟨h1, e1⟩ <;> rcases hc b with ⟨h2, e2⟩ | ⟨h2, e2⟩ <;> rw [e1, e2] <;> simp <;> omega
  · rcases hc a with ⟨h1, e1⟩ | ⟨h1, e1⟩ <;> rw [e1]
  · unfold th; simp only; split <;> rfl
theorem get_erase_perm {α : Type} {l : List α} {i : Nat} (h : i < l.length) : (l[i] :: l.eraseIdx i).Perm l := by
  have e : l = l.take i ++ l[i] :: l.drop (i + 1) := by
    rw [List.getElem_cons_drop, List.take_append_drop]
  rw [List.eraseIdx_eq_take_drop_succ]
  exact (List.perm_middle.symm).trans (.of_eq e.symm)
def Rel (τ : It → Tg) (l : List It) (ts : List Tg) : Prop := ts.Perm (l.map τ)
section
variable {τ : It → Tg} {l l' : List It} {ts : List Tg} {x k : Int}
theorem Rel.len (h : Rel τ l ts) : ts.length = l.length := by simpa using h.length_eq
theorem Rel.mem (h : Rel τ l ts) {t : Tg} (ht : t ∈ ts) : ∃ a ∈ l, τ a = t := by
  have := (h.mem_iff).1 ht
  simpa using this
theorem Rel.push_in (h : Rel τ l ts) (hτ : Tau τ) (hx : x ∈ l.map Prod.fst) : ∃ t ∈ ts, HpA.sm t (τ (x, k)) = true := by
  obtain ⟨a, ha, rfl⟩ := List.mem_map.1 hx
  exact ⟨τ a, (h.mem_iff).2 (List.mem_map_of_mem ha), by rw [hτ.sm]; simp⟩
theorem Rel.push_out (h : Rel τ l ts) (hτ : Tau τ) (hx : x ∉ l.map Prod.fst) : ∀ t ∈ ts, HpA.sm t (τ (x, k)) = false := by
  intro t ht
  obtain ⟨a, ha, rfl⟩ := h.mem ht
  rw [hτ.sm]
  simp only [beq_eq_false_iff_ne, ne_eq]
  intro e
  exact hx (List.mem_map.2 ⟨a, ha, e⟩)
theorem Rel.pushed (h : Rel τ l ts) (hp : l'.Perm ((x, k) :: l)) : Rel τ l' (ts ++ [τ (x, k)]) := by
  refine (List.perm_append_comm (l₁ := ts) (l₂ := [τ (x, k)])).trans (((h.cons _)).trans ?_)
  exact (hp.map τ).symm
theorem prec_eq {a b : It} (h1 : prec a b = false) (h2 : prec b a = false) : a = b := by
  rw [prec_false] at h1 h2
  apply Prod.ext <;> omega
theorem Rel.popped (h : Rel τ l ts) (hτ : Tau τ) {a : It} (hp : l.Perm (a :: l')) (hmin : ∀ b ∈ l, prec b a = false) {m : Nat} (hm : m < ts.length) (hmm : ∀ j, (hj : j < ts.length) → HpA.ls ts[j] ts[m] = false) :
    ts[m] = τ a ∧ Rel τ l' (ts.eraseIdx m) := by
  obtain ⟨c, hc, e⟩ := h.mem (List.getElem_mem hm)
  have ha : τ a ∈ ts := (h.mem_iff).2 (List.mem_map_of_mem ((hp.mem_iff).2 (by simp)))
  obtain ⟨j, hj, ej⟩ := List.mem_iff_getElem.1 ha
  have h1 := hmm j hj
  rw [ej, ← e, hτ.ls] at h1
  have := prec_eq h1 (hmin c hc)
  subst this
  refine ⟨e.symm, ?_⟩
  have p1 : (ts[m] :: ts.eraseIdx m).Perm ts := get_erase_perm hm
  rw [← e] at p1
  have p2 := (p1.trans h).trans (hp.map τ)
  exact (List.perm_cons _).1 p2
theorem Rel.moved (h : Rel τ l ts) (hτ : Tau τ) (h1 : Once l) {k0 : Int} {r : List It} (hp : l.Perm ((x, k0) :: r)) (hp' : l'.Perm ((x, k) :: r)) {i : Nat} (hi : i < ts.length) (hs : HpA.sm ts[i] (τ (x, k)) = true) :
    ts[i] = τ (x, k0) ∧ Rel τ l' (ts.set i (ts[i].1, ts[i].2.1, k)) := by
  obtain ⟨c, hc, e⟩ := h.mem (List.getElem_mem hi)
  rw [← e, hτ.sm] at hs
  have hcx : c.1 = x := by simpa using hs
  have hc' : c = (x, k0) := by
    have h2 := h1.perm hp.symm
    have h3 := (hp.mem_iff).1 hc
    rcases List.mem_cons.1 h3 with h3 | h3
    · exact h3
    · unfold Once at h2
      simp only [List.map_cons, List.nodup_cons] at h2
      exact absurd (List.mem_map.2 ⟨c, h3, hcx⟩) h2.1
  subst hc'
  refine ⟨e.symm, ?_⟩
  have p1 : (ts[i] :: ts.eraseIdx i).Perm ts := get_erase_perm hi
  have p2 : (ts.eraseIdx i).Perm (r.map τ) := by
    rw [← e] at p1
    exact (List.perm_cons _).1 ((p1.trans h).trans (hp.map τ))
  have p3 : (ts.set i (ts[i].1, ts[i].2.1, k)).Perm ((ts[i].1, ts[i].2.1, k) :: ts.eraseIdx i) := by
    have := get_erase_perm (l := ts.set i (ts[i].1, ts[i].2.1, k)) (i := i) (by simpa using hi)
    simp only [List.getElem_set_self] at this
    rw [List.eraseIdx_set_eq] at this
    exact this.symm
  rw [← e, hτ.set] at p3 ⊢
  exact p3.trans ((p2.cons _).trans (hp'.map τ).symm)
theorem Rel.not_in (h : Rel τ l ts) (hτ : Tau τ) (hn : ∀ t ∈ ts, HpA.sm t (τ (x, k)) = false) : x ∉ l.map Prod.fst := fun hx => by
  obtain ⟨t, ht, e⟩ := h.push_in (k := k) hτ hx
  rw [hn t ht] at e; cases e
theorem Rel.told (h : Rel τ l ts) (hτ : Tau τ) (h1 : Once l) {k0 : Int} (hk : (x, k0) ∈ l) {i : Nat} (hi : i < ts.length) (hs : HpA.sm ts[i] (τ (x, k)) = true) : ts[i].2.2 = k0 := by
  obtain ⟨r, hr⟩ : ∃ r, l.Perm ((x, k0) :: r) := by
    obtain ⟨s, t, rfl⟩ := List.append_of_mem hk
    exact ⟨s ++ t, List.perm_middle⟩
  obtain ⟨e, _⟩ := h.moved (l' := (x, k) :: r) hτ h1 hr (List.Perm.refl _) hi hs
  rw [e, hτ.key]
end
end HpA
