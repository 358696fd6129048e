/-
  Slices that own their array, maps with whole-number keys that own their entries: as pieces of heap, with the laws of append, look-up, store and delete.
-/
import Derived.Test.YtbockhcoeefobaaSxJ
set_option linter.unusedSimpArgs false
set_option linter.unusedVariables false
namespace Go.Sx
open Go
section
variable {P : Program} {g : World}

theorem Upd.prepend {b : Nat} {o o' : Obj} {C C' : Hp} (h : Upd b o o' C C') (A : Hp) : Upd b o o' (A ++ C) (A ++ C') := by
  induction A with
  | nil => exact h
  | cons x A ih => exact .tail ih
theorem Upd.append {b : Nat} {o o' : Obj} {C C' : Hp} (h : Upd b o o' C C') (B : Hp) : Upd b o o' (C ++ B) (C' ++ B) := by
  induction h with
  | head R => exact .head _
  | tail _ ih => exact .tail ih

/-- the slice v is of these rows, k cells each, in an array of its own that C holds -/
def SOwn (T : TypeId) (k : Nat) (v : Value) (rs : List (List Value)) (C : Hp) : Prop :=
  (v = .slice none 0 0 ∧ rs = [] ∧ C = []) ∨
  ∃ b junk, v = .slice (some ⟨b, 0, none⟩) rs.length (rs.length + junk.length) ∧ C = [(b, .cells (rows (rs ++ junk)) T (0, 0))] ∧ (∀ r ∈ rs ++ junk, r.length = k)
theorem SOwn.nil (T : TypeId) (k : Nat) : SOwn T k (.slice none 0 0) [] [] := .inl ⟨rfl, rfl, rfl⟩
theorem SOwn.len {T : TypeId} {k : Nat} {v : Value} {rs : List (List Value)} {C : Hp} (h : SOwn T k v rs C) : ∃ a c, v = .slice a rs.length c := by
  rcases h with ⟨rfl, rfl, rfl⟩ | ⟨b, junk, rfl, _⟩
  · exact ⟨_, _, rfl⟩
  · exact ⟨_, _, rfl⟩
theorem SOwn.lenS {T : TypeId} {k : Nat} {v : Value} {rs : List (List Value)} {C : Hp} (h : SOwn T k v rs C) {K : Value → Prop} (hk : K (.int .i64 rs.length)) : LenS v K := by
  obtain ⟨a, c, rfl⟩ := h.len; exact LenS.mk hk

theorem zeroRows {k : Nat} (z : List Value) (hz : z.length = k) (m : Nat) : Builtin.zeroCells z.toArray m = rows (List.replicate m z) := by
  apply Array.ext'
  apply List.ext_getElem?
  intro j
  have hall : ∀ r ∈ List.replicate m z, r.length = k := fun r hr => by rw [List.eq_of_mem_replicate hr, hz]
  by_cases hj : j < m * k
  · have hk : 0 < k := Nat.pos_of_ne_zero fun e => by simp [e] at hj
    have hd : j / k < m := Nat.div_lt_of_lt_mul (by rw [Nat.mul_comm]; exact hj)
    have hm : j % k < k := Nat.mod_lt _ hk
    have he : j / k * k + j % k = j := by rw [Nat.mul_comm]; exact Nat.div_add_mod j k
    have := rows_get hall (i := j / k) hm
    rw [he] at this
    rw [Array.getElem?_toList, Array.getElem?_toList, this]
    simp only [Builtin.zeroCells, List.size_toArray, hz, List.getElem?_replicate, hd, if_true, Option.bind_some]
    rw [Array.getElem?_map, Array.getElem?_range]
    simp [hj, hz, hm]
  · rw [List.getElem?_eq_none, List.getElem?_eq_none]
    · simp only [Array.length_toList, rows_size hall, List.length_replicate]; omega
    · simp [Builtin.zeroCells, hz]; omega
theorem rows_append (a b : List (List Value)) : rows a ++ rows b = rows (a ++ b) := by simp [rows, List.flatten_append]

/-- 's = append(s, x)': one row more -/
theorem SOwn.app' {elem k bytes : Nat} {zero : Value} {v : Value} {rs : List (List Value)} {C A B : Hp} (h : SOwn elem k v rs C) {xb : Nat} {r : List Value} {xT : TypeId} {fz : Nat × Nat} {xc : Nat}
    (hx : (xb, Obj.cells r.toArray xT fz) ∈ A ++ (C ++ B)) (hr : r.length = k) (h1 : ∀ u ∈ r, u.oneCell' = true) (hz : ∃ z : List Value, zero.cells = z.toArray ∧ z.length = k)
    (hb : (rs.length + 1) * bytes ≤ 140737488355328) (hmax : rs.length + 1 ≤ 9223372036854775807) {K : Value → Hp → Prop}
    (hk : ∀ v' C', SOwn elem k v' (rs ++ [r]) C' → K v' (A ++ (C' ++ B))) : App P elem k bytes zero (A ++ (C ++ B)) v (.slice (some ⟨xb, 0, none⟩) 1 xc) K := by
  have hall1 : ∀ x ∈ [r], x.length = k := fun x hx => by simp at hx; rw [hx]; exact hr
  obtain ⟨z, hz1, hz2⟩ := hz
  have hnews : Cells (A ++ (C ++ B)) (some ⟨xb, 0, none⟩) (1 * k) (rows [r]) := ⟨rfl, _, _, _, hx, by simp [hr], by simp [rows]; rw [← hr, List.take_length]⟩
  have hnone : ∀ u ∈ (rows [r]).toList, u.oneCell' = true := by simpa [rows] using h1
  rcases h with ⟨rfl, rfl, rfl⟩ | ⟨b, junk, rfl, rfl, hall⟩
  · refine ⟨none, 0, 0, some ⟨xb, 0, none⟩, 1, xc, #[], rows [r], rfl, rfl, rfl, hnews, by rw [rows_size hall1]; simp, by simp, hnone, fun h => by omega, fun _ => ⟨hb, by omega, fun newcap hn b hbf => ?_⟩⟩
    rw [show (#[] : Array Value) ++ rows [r] ++ Builtin.zeroCells zero.cells (newcap - (0 + 1)) = rows ([] ++ [r] ++ List.replicate (newcap - 1) z) by rw [hz1, zeroRows z hz2]; simp only [Nat.zero_add, Array.empty_append, List.nil_append]; rw [rows_append]]
    refine ⟨_, Ent.swap3 [(b, _)] A B, hk _ [(b, _)] (.inr ⟨b, List.replicate (newcap - 1) z, ?_, rfl, ?_⟩)⟩
    · simp; omega
    · intro x hx
      rcases List.mem_append.1 hx with hx | hx
      · exact hall1 x hx
      · rw [List.eq_of_mem_replicate hx, hz2]
  · have hsz := rows_size hall
    have hallr : ∀ x ∈ rs, x.length = k := fun x hx => hall x (by simp [hx])
    have hold : rows rs = (rows (rs ++ junk)).extract 0 (0 + rs.length * k) := by
      rw [← rows_append]
      apply Array.ext'
      have := rows_size hallr
      have h2 : (rows rs).toList.length = rs.length * k := by rw [Array.length_toList]; exact this
      rw [Array.toList_extract, Array.toList_append, List.extract_eq_take_drop, List.drop_zero, Nat.zero_add, Nat.sub_zero, ← h2, List.take_left]
    refine ⟨some ⟨b, 0, none⟩, rs.length, rs.length + junk.length, some ⟨xb, 0, none⟩, 1, xc, rows rs, rows [r], rfl, rfl, ⟨rfl, _, elem, (0, 0), by simp, ?_, hold⟩, hnews, by rw [rows_size hall1]; simp, rows_size hallr, hnone, fun hfit => ?_, fun hgrow => ⟨hb, by omega, fun newcap hn b' hbf => ?_⟩⟩
    · rw [hsz]; simp only [List.length_append, Nat.zero_add]; exact Nat.mul_le_mul_right _ (by omega)
    · obtain ⟨j0, junk', rfl⟩ : ∃ j0 junk', junk = j0 :: junk' := by cases junk with | nil => exact absurd hfit (by simp only [List.length_nil]; omega) | cons a b => exact ⟨a, b, rfl⟩
      refine ⟨_, elem, _, rfl, ?_, ((Upd.head _).append B).prepend A, hk _ [(b, _)] (.inr ⟨b, junk', ?_, ?_, ?_⟩)⟩
      · rw [hsz]; simp [Nat.succ_mul, Nat.add_mul]
      · simp; omega
      · have e : (rows [r]).toList = r := by simp [rows]
        rw [e, show (⟨b, 0, none⟩ : Addr).off + rs.length * k = rs.length * k by simp, rows_set hall (by simp) hr]
        simp
      · intro x hx
        simp only [List.append_assoc, List.cons_append, List.nil_append, List.mem_append, List.mem_cons] at hx
        rcases hx with hx | hx | hx
        · exact hallr x hx
        · rw [hx]; exact hr
        · exact hall x (by simp [hx])
    · refine ⟨A ++ ([(b', _)] ++ B), ?_, hk _ [(b', _)] (.inr ⟨b', List.replicate (newcap - (rs.length + 1)) z, ?_, rfl, ?_⟩)⟩
      · rw [hz1, zeroRows z hz2, rows_append, rows_append]
        exact fun g w h => (Ent.segs [[_], A, [_], B] [[_], A, [_], B] ((List.perm_append_comm (l₁ := [_, A]) (l₂ := [_])).append_right [B] |>.trans (.cons _ (.swap _ _ _)) ) g w h).tail
      · simp; omega
      · intro x hx
        rcases List.mem_append.1 hx with hx | hx
        · rcases List.mem_append.1 hx with hx | hx
          · exact hallr x hx
          · exact hall1 x hx
        · rw [List.eq_of_mem_replicate hx, hz2]
theorem SOwn.app {elem k bytes : Nat} {zero : Value} {v : Value} {rs : List (List Value)} {C H : Hp} (h : SOwn elem k v rs C) {xb : Nat} {r : List Value} {xT : TypeId} {fz : Nat × Nat} {xc : Nat}
    (hx : (xb, Obj.cells r.toArray xT fz) ∈ C ++ H) (hr : r.length = k) (h1 : ∀ u ∈ r, u.oneCell' = true) (hz : ∃ z : List Value, zero.cells = z.toArray ∧ z.length = k)
    (hb : (rs.length + 1) * bytes ≤ 140737488355328) (hmax : rs.length + 1 ≤ 9223372036854775807) {K : Value → Hp → Prop}
    (hk : ∀ v' C', SOwn elem k v' (rs ++ [r]) C' → K v' (C' ++ H)) : App P elem k bytes zero (C ++ H) v (.slice (some ⟨xb, 0, none⟩) 1 xc) K :=
  SOwn.app' (A := []) h hx hr h1 hz hb hmax hk
end
end Go.Sx
