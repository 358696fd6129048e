/-
  Slices: several rows behind one another, parts of a slice.
-/
import Derived.Test.YtbockhcoeefobaaSxM
set_option linter.unusedSimpArgs false
set_option linter.unusedVariables false
namespace Go.Sx
open Go
section
variable {P : Program} {g : World} {H : Hp}
theorem flatten_take {k : Nat} : ∀ (l : List (List Value)) (m : Nat), (∀ r ∈ l, r.length = k) → l.flatten.take (m * k) = (l.take m).flatten
  | [], m, _ => by simp
  | r :: l, 0, _ => by simp
  | r :: l, m + 1, h => by
    have hr := h r (by simp)
    rw [List.take_succ_cons, List.flatten_cons, List.flatten_cons, Nat.succ_mul, ← flatten_take l m (fun x hx => h x (by simp [hx]))]
    rw [List.take_append, hr, List.take_of_length_le (by omega), Nat.add_sub_cancel]
theorem flatten_drop {k : Nat} : ∀ (l : List (List Value)) (m : Nat), (∀ r ∈ l, r.length = k) → l.flatten.drop (m * k) = (l.drop m).flatten
  | [], m, _ => by simp
  | r :: l, 0, _ => by simp
  | r :: l, m + 1, h => by
    have hr := h r (by simp)
    rw [List.drop_succ_cons, List.flatten_cons, Nat.succ_mul, ← flatten_drop l m (fun x hx => h x (by simp [hx]))]
    rw [List.drop_append, hr, List.drop_of_length_le (by omega), Nat.add_sub_cancel, List.nil_append]
theorem rows_part {k : Nat} {l : List (List Value)} (h : ∀ r ∈ l, r.length = k) {i m : Nat} (hi : i + m ≤ l.length) : (rows l).extract (i * k) (i * k + m * k) = rows ((l.drop i).take m) := by
  apply Array.ext'
  rw [Array.toList_extract, List.extract_eq_take_drop]
  simp only [rows]
  rw [flatten_drop l i h, Nat.add_sub_cancel_left, flatten_take _ m (fun r hr => h r (List.mem_of_mem_drop hr))]
theorem rows_over {k : Nat} {l ns : List (List Value)} (h : ∀ r ∈ l, r.length = k) (hn : ∀ r ∈ ns, r.length = k) {i : Nat} (hi : i + ns.length ≤ l.length) :
    over (rows l) (i * k) (rows ns).toList = rows (l.take i ++ ns ++ l.drop (i + ns.length)) := by
  have hl := flatten_length l h
  have hnl := flatten_length ns hn
  simp only [rows]
  rw [over_eq _ _ _ (by rw [hnl, hl, ← Nat.add_mul]; exact Nat.mul_le_mul_right _ hi), hnl, ← Nat.add_mul, flatten_take l i h, flatten_drop l _ h]
  simp
/-- the cells of a part of an owned slice -/
theorem Cells.part {k b i m : Nat} {l : List (List Value)} {T : TypeId} {fz : Nat × Nat} (hm : (b, Obj.cells (rows l) T fz) ∈ H) (hall : ∀ r ∈ l, r.length = k) (hi : i + m ≤ l.length) :
    Cells H (some ⟨b, i * k, none⟩) (m * k) (rows ((l.drop i).take m)) :=
  ⟨rfl, _, T, fz, hm, by simp only; rw [rows_size hall, ← Nat.add_mul]; exact Nat.mul_le_mul_right _ hi, (rows_part hall hi).symm⟩
theorem Cells.zero {base : Option Addr} (h : ∀ a, base = some a → a.spot = none ∧ ∃ c T fz, (a.block, Obj.cells c T fz) ∈ H ∧ a.off ≤ c.size) : Cells H base 0 #[] := by
  cases base with
  | none => rfl
  | some a => obtain ⟨h1, c, T, fz, h2, h3⟩ := h a rfl; exact ⟨h1, c, T, fz, h2, by omega, by simp; exact Nat.min_le_left _ _⟩
/-- 's = append(s, xs...)' -/
theorem SOwn.appN {elem k bytes m : Nat} {zero : Value} {v : Value} {rs ns : List (List Value)} {C A B : Hp} (h : SOwn elem k v rs C) {xb : Option Addr} {xc : Nat}
    (hx : Cells (A ++ (C ++ B)) xb (m * k) (rows ns)) (hm : m = ns.length) (hr : ∀ r ∈ ns, r.length = k) (h1 : ∀ r ∈ ns, ∀ u ∈ r, u.oneCell' = true) (hz : ∃ z : List Value, zero.cells = z.toArray ∧ z.length = k)
    (hb : (rs.length + ns.length) * bytes ≤ 140737488355328) (hmax : rs.length + ns.length ≤ 9223372036854775807) {K : Value → Hp → Prop}
    (hk : ∀ v' C', SOwn elem k v' (rs ++ ns) C' → K v' (A ++ (C' ++ B))) : App P elem k bytes zero (A ++ (C ++ B)) v (.slice xb m xc) K := by
  obtain ⟨z, hz1, hz2⟩ := hz
  subst hm
  have hnone : ∀ u ∈ (rows ns).toList, u.oneCell' = true := by
    simp only [rows, List.mem_flatten]; rintro u ⟨r, hr, hu⟩; exact h1 r hr u hu
  rcases h with ⟨rfl, rfl, rfl⟩ | ⟨b, junk, rfl, rfl, hall⟩
  · refine ⟨none, 0, 0, xb, ns.length, xc, #[], rows ns, rfl, rfl, by simp [Cells], hx, rows_size hr, by simp, hnone, fun h => ?_, fun _ => ⟨hb, by simpa using hmax, fun newcap hn b hbf => ?_⟩⟩
    · have : ns = [] := List.length_eq_zero_iff.1 (by omega)
      subst this
      exact hk _ [] (.inl ⟨rfl, rfl, rfl⟩)
    · rw [show (#[] : Array Value) ++ rows ns ++ Builtin.zeroCells zero.cells (newcap - (0 + ns.length)) = rows ([] ++ ns ++ List.replicate (newcap - ns.length) z) by rw [hz1, zeroRows z hz2]; simp only [Nat.zero_add, Array.empty_append, List.nil_append]; rw [rows_append]]
      refine ⟨_, Ent.swap3 [(b, _)] A B, hk _ [(b, _)] (.inr ⟨b, List.replicate (newcap - ns.length) z, ?_, rfl, ?_⟩)⟩
      · simp; omega
      · intro x hx
        rcases List.mem_append.1 hx with hx | hx
        · exact hr x hx
        · rw [List.eq_of_mem_replicate hx, hz2]
  · have hsz := rows_size hall
    have hallr : ∀ x ∈ rs, x.length = k := fun x hx => hall x (by simp [hx])
    have hold : rows rs = (rows (rs ++ junk)).extract 0 (0 + rs.length * k) := by
      have := rows_part hall (i := 0) (m := rs.length) (by simp)
      simp only [Nat.zero_mul, List.drop_zero, List.take_left] at this
      exact this.symm
    refine ⟨some ⟨b, 0, none⟩, rs.length, rs.length + junk.length, xb, ns.length, xc, rows rs, rows ns, rfl, rfl, ⟨rfl, _, elem, (0, 0), by simp, ?_, hold⟩, hx, rows_size hr, rows_size hallr, hnone, fun hfit => ?_, fun hgrow => ⟨hb, by omega, fun newcap hn b' hbf => ?_⟩⟩
    · rw [hsz]; simp only [List.length_append, Nat.zero_add]; exact Nat.mul_le_mul_right _ (by omega)
    · refine ⟨_, elem, _, rfl, ?_, ((Upd.head _).append B).prepend A, hk _ [(b, _)] (.inr ⟨b, junk.drop ns.length, ?_, ?_, ?_⟩)⟩
      · rw [hsz]; simp only [List.length_append, Nat.zero_add, ← Nat.add_mul]; exact Nat.mul_le_mul_right _ hfit
      · simp; omega
      · rw [show (⟨b, 0, none⟩ : Addr).off + rs.length * k = rs.length * k by simp, rows_over hall hr (by simp; omega)]
        simp
      · intro x hx
        simp only [List.append_assoc, List.mem_append] at hx
        rcases hx with hx | hx | hx
        · exact hallr x hx
        · exact hr x hx
        · exact hall x (by simp [List.mem_of_mem_drop hx])
    · refine ⟨A ++ ([(b', _)] ++ B), ?_, hk _ [(b', _)] (.inr ⟨b', List.replicate (newcap - (rs.length + ns.length)) z, ?_, rfl, ?_⟩)⟩
      · rw [hz1, zeroRows z hz2, rows_append, rows_append]
        exact fun g w h => (Ent.segs [[_], A, [_], B] [[_], A, [_], B] ((List.perm_append_comm (l₁ := [_, A]) (l₂ := [_])).append_right [B] |>.trans (.cons _ (.swap _ _ _)) ) g w h).tail
      · simp; omega
      · intro x hx
        rcases List.mem_append.1 hx with hx | hx
        · rcases List.mem_append.1 hx with hx | hx
          · exact hallr x hx
          · exact hr x hx
        · rw [List.eq_of_mem_replicate hx, hz2]
theorem SliceE.from {size n c l : Nat} {a : Option Addr} {kd : IntKind} {k : Value → Prop} (hl : l ≤ n) (hn : n ≤ c)
    (hk : k (.slice (if c = l then a else a.map (·.add (l * size))) (n - l) (c - l))) : SliceE size (.slice a n c) (some (.int kd (l : Int))) none k := by
  refine ⟨a, n, c, l, n, rfl, rfl, rfl, by omega, by omega, by omega, ?_⟩
  simpa using hk
theorem Ent.front (A : Hp) (x : Nat × Obj) (B : Hp) : Ent (A ++ x :: B) (x :: (A ++ B)) := .perm List.perm_middle
theorem Ent.drop1 (A : Hp) (x : Nat × Obj) (B : Hp) : Ent (A ++ x :: B) (A ++ B) := (Ent.front A x B).trans .tail
theorem Cells.from {k b l n c : Nat} {all : List (List Value)} {T : TypeId} {fz : Nat × Nat} (hm : (b, Obj.cells (rows all) T fz) ∈ H) (hall : ∀ r ∈ all, r.length = k) (hn : n ≤ all.length) (hl : l ≤ n) (hc : n ≤ c) :
    Cells H (if c = l then some ⟨b, 0, none⟩ else (some (⟨b, 0, none⟩ : Addr)).map (·.add (l * k))) ((n - l) * k) (rows ((all.drop l).take (n - l))) := by
  split
  · have e : n - l = 0 := by omega
    rw [e]
    have := Cells.part (m := 0) (i := 0) hm hall (by omega)
    simpa using this
  · have := Cells.part (m := n - l) (i := l) hm hall (by omega)
    rw [show (some (⟨b, 0, none⟩ : Addr)).map (·.add (l * k)) = some ⟨b, l * k, none⟩ by
      simp only [Option.map_some, Addr.add, Nat.zero_add]
      split
      · rename_i h0; rw [h0]
      · rfl]
    exact this
end
end Go.Sx
