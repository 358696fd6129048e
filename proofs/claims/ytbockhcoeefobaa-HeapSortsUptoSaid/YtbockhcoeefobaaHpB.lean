/-
  The program's heap as a piece of memory.
-/
import Derived.Test.YtbockhcoeefobaaSxL
import Derived.Test.YtbockhcoeefobaaHpA
set_option linter.unusedVariables false
set_option linter.unusedSimpArgs false
namespace HpA
open Go Go.Sx
def enc (kd : IntKind) (a : It) : List Value := [.int kd a.1, .int .i64 a.2]
def encL (kd : IntKind) (l : List It) : List (List Value) := l.map (enc kd)
theorem encL_length (kd : IntKind) (l : List It) : (encL kd l).length = l.length := by simp [encL]
theorem encL_rows (kd : IntKind) (l : List It) : ∀ r ∈ encL kd l, r.length = 2 := fun r hr => by
  obtain ⟨a, _, rfl⟩ := List.mem_map.1 hr; rfl
theorem encL_get {kd : IntKind} {l : List It} {i : Nat} (h : i < l.length) (junk : List (List Value)) : (encL kd l ++ junk)[i]? = some (enc kd (at' l i)) := by
  rw [List.getElem?_append_left (by rw [encL_length]; exact h), encL, List.getElem?_map, at_some h]; rfl
theorem encL_set {kd : IntKind} {l : List It} {i : Nat} (h : i < l.length) (a : It) (junk : List (List Value)) : (encL kd l ++ junk).set i (enc kd a) = encL kd (l.set i a) ++ junk := by
  rw [List.set_append_left _ _ (by rw [encL_length]; exact h), encL, encL, List.map_set]
def idx (i : Nat) : Value := .int .i64 (i : Int)
/-- the heap h: its list l, its map f; C holds all of it -/
def HO (kd : IntKind) (TI TH : TypeId) (h : Value) (l : List It) (f : Int → Option Nat) (C : Hp) : Prop :=
  ∃ bh sv mv Cs Cm, h = .pointer (some ⟨bh, 0, none⟩) ∧ C = (bh, Obj.cells #[sv, mv] TH (0, 0)) :: (Cs ++ Cm) ∧ SOwn TI 2 sv (encL kd l) Cs ∧ MOwn kd idx mv f Cm ∧ (mv = .map none → l = [])
theorem HO.open {kd : IntKind} {TI TH : TypeId} {h : Value} {l : List It} {f : Int → Option Nat} {C : Hp} (H : HO kd TI TH h l f C) (hp : 0 < l.length) :
    ∃ bh la mb junk Cm, h = .pointer (some ⟨bh, 0, none⟩) ∧
      C = (bh, Obj.cells #[.slice (some ⟨la, 0, none⟩) l.length (l.length + junk.length), .map (some mb)] TH (0, 0)) :: (la, .cells (rows (encL kd l ++ junk)) TI (0, 0)) :: Cm ∧
      (∀ r ∈ encL kd l ++ junk, r.length = 2) ∧ MOwn kd idx (.map (some mb)) f Cm := by
  obtain ⟨bh, sv, mv, Cs, Cm, rfl, rfl, hs, hm, hne⟩ := H
  obtain ⟨la, junk, rfl, rfl, hall⟩ := hs.pos (by rw [encL_length]; exact hp)
  rw [encL_length]
  rcases hm with ⟨rfl, _⟩ | ⟨mb, m, ck, rfl, h2⟩
  · rw [hne rfl] at hp; simp at hp
  · exact ⟨bh, la, mb, junk, Cm, rfl, rfl, hall, .inr ⟨mb, m, ck, rfl, h2⟩⟩
theorem HO.shut {kd : IntKind} {TI TH : TypeId} {bh la mb n c : Nat} {junk : List (List Value)} {Cm : Hp} {l : List It} {f : Int → Option Nat} (hall : ∀ r ∈ encL kd l ++ junk, r.length = 2) (hn : n = l.length) (hc : c = l.length + junk.length)
    (hm : MOwn kd idx (.map (some mb)) f Cm) :
    HO kd TI TH (.pointer (some ⟨bh, 0, none⟩)) l f ((bh, Obj.cells #[.slice (some ⟨la, 0, none⟩) n c, .map (some mb)] TH (0, 0)) :: (la, .cells (rows (encL kd l ++ junk)) TI (0, 0)) :: Cm) :=
  ⟨bh, _, _, [_], Cm, rfl, rfl, SOwn.mk' hall (by rw [encL_length]; exact hn) (by rw [encL_length]; exact hc), hm, fun h => by simp at h⟩
theorem rows_two {l junk : List (List Value)} (h : ∀ r ∈ l ++ junk, r.length = 2) (kd : IntKind) (l' : List It) : ∀ r ∈ encL kd l' ++ junk, r.length = 2 := fun r hr => by
  rcases List.mem_append.1 hr with hr | hr
  · exact encL_rows kd l' r hr
  · exact h r (by simp [hr])
theorem enc_one (kd : IntKind) (a : It) : ∀ v ∈ enc kd a, v.oneCell' = true := by simp [enc, Value.oneCell']
end HpA
