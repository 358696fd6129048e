/-
  The reference: things with keys in a plain list; and how it goes along with a heap.
-/
import Derived.Test.YtbockhcoeefobaaHpC
set_option linter.unusedVariables false
set_option linter.unusedSimpArgs false
namespace HpA
open Go Go.Sx
abbrev Tg := Int × Bool × Int
def sm (a b : Tg) : Bool := a.1 == b.1 && a.2.1 == b.2.1
def ls (a b : Tg) : Bool := if a.2.2 != b.2.2 then decide (a.2.2 < b.2.2) else if a.2.1 != b.2.1 then a.2.1 else decide (a.1 < b.1)
def encG (a : Tg) : List Value := [.int .u64 a.1, .bool a.2.1, .int .i64 a.2.2]
def encGs (l : List Tg) : List (List Value) := l.map encG
theorem encGs_length (l : List Tg) : (encGs l).length = l.length := by simp [encGs]
theorem encGs_rows (l : List Tg) : ∀ r ∈ encGs l, r.length = 3 := by
  simp only [encGs, List.mem_map]; rintro r ⟨a, _, rfl⟩; rfl
theorem encGs_one (l : List Tg) : ∀ r ∈ encGs l, ∀ u ∈ r, u.oneCell' = true := by
  simp only [encGs, List.mem_map]; rintro r ⟨a, _, rfl⟩; simp [encG, Value.oneCell']
theorem encGs_get {l : List Tg} {i : Nat} (h : i < l.length) (junk : List (List Value)) : (encGs l ++ junk)[i]? = some (encG l[i]) := by
  rw [List.getElem?_append_left (by rw [encGs_length]; exact h)]; simp [encGs, h]
def fi (l : List Tg) (t : Tg) : Int := match l.findIdx? (fun a => sm a t) with | some i => i | none => -1
theorem fi_at {l : List Tg} {t : Tg} {i : Nat} (hi : i < l.length) (h : ∀ j, (hj : j < i) → sm (l[j]'(by omega)) t = false) (h1 : sm l[i] t = true) : fi l t = i := by
  unfold fi
  have : l.findIdx? (fun a => sm a t) = some i := by
    rw [List.findIdx?_eq_some_iff_getElem]
    exact ⟨hi, h1, fun j hj => by simp [h j hj]⟩
  rw [this]
theorem fi_none {l : List Tg} {t : Tg} (h : ∀ j, (hj : j < l.length) → sm l[j] t = false) : fi l t = -1 := by
  unfold fi
  have : l.findIdx? (fun a => sm a t) = none := by
    rw [List.findIdx?_eq_none_iff]
    intro x hx
    obtain ⟨j, hj, rfl⟩ := List.mem_iff_getElem.1 hx
    exact h j hj
  rw [this]
theorem fi_cases (l : List Tg) (t : Tg) : (fi l t = -1 ∧ ∀ a ∈ l, sm a t = false) ∨ ∃ i, ∃ h : i < l.length, fi l t = (i : Int) ∧ sm l[i] t = true := by
  unfold fi
  cases h : l.findIdx? (fun a => sm a t) with
  | none => exact .inl ⟨rfl, by simpa using h⟩
  | some i =>
    obtain ⟨hi, h1, _⟩ := List.findIdx?_eq_some_iff_getElem.1 h
    exact .inr ⟨i, hi, rfl, h1⟩
theorem ls_iff {a b : Tg} : ls a b = true ↔ a.2.2 < b.2.2 ∨ a.2.2 = b.2.2 ∧ (a.2.1 = true ∧ b.2.1 = false ∨ a.2.1 = b.2.1 ∧ a.1 < b.1) := by
  unfold ls
  by_cases h : a.2.2 = b.2.2
  · rw [if_neg (by simp [h])]
    cases ha : a.2.1 <;> cases hb : b.2.1 <;> simp [h]
  · rw [if_pos (by simpa using h)]
    simp [h]
theorem ls_false {a b : Tg} : ls a b = false ↔ ¬ (a.2.2 < b.2.2 ∨ a.2.2 = b.2.2 ∧ (a.2.1 = true ∧ b.2.1 = false ∨ a.2.1 = b.2.1 ∧ a.1 < b.1)) := by rw [← ls_iff]; simp
theorem ls_irrefl (a : Tg) : ls a a = false := by rw [ls_false]; simp
theorem ls_step {a m i : Tg} (h1 : ls a m = false) (h2 : ls i m = true) : ls a i = false := by
  rw [ls_iff] at h2
  rw [ls_false] at h1 ⊢
  cases ha : a.2.1 <;> cases hm : m.2.1 <;> cases hi : i.2.1 <;> simp only [ha, hm, hi, Bool.false_eq_true, reduceCtorEq, and_false, and_true, false_and, true_and, false_or, or_false] at h1 h2 ⊢ <;> omega
/-- the reference's heap -/
def RO (TR TG : TypeId) (h : Value) (l : List Tg) (C : Hp) : Prop := ∃ b v Cs, h = .pointer (some ⟨b, 0, none⟩) ∧ C = (b, .cells #[v] TR (0, 0)) :: Cs ∧ SOwn TG 3 v (encGs l) Cs
end HpA
