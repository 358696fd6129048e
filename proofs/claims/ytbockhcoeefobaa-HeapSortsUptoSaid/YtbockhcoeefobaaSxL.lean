/-
  Reading and writing rows; maps with whole-number keys.
-/
import Derived.Test.YtbockhcoeefobaaSxK
set_option linter.unusedSimpArgs false
set_option linter.unusedVariables false
namespace Go.Sx
open Go
section
variable {P : Program} {g : World} {H : Hp}

theorem SOwn.pos {T : TypeId} {k : Nat} {v : Value} {rs : List (List Value)} {C : Hp} (h : SOwn T k v rs C) (hp : 0 < rs.length) :
    ∃ b junk, v = .slice (some ⟨b, 0, none⟩) rs.length (rs.length + junk.length) ∧ C = [(b, .cells (rows (rs ++ junk)) T (0, 0))] ∧ (∀ r ∈ rs ++ junk, r.length = k) := by
  rcases h with ⟨_, rfl, _⟩ | h
  · simp at hp
  · exact h
theorem SOwn.mk {T : TypeId} {k b : Nat} {rs junk : List (List Value)} (hall : ∀ r ∈ rs ++ junk, r.length = k) : SOwn T k (.slice (some ⟨b, 0, none⟩) rs.length (rs.length + junk.length)) rs [(b, .cells (rows (rs ++ junk)) T (0, 0))] :=
  .inr ⟨b, junk, rfl, rfl, hall⟩
theorem SOwn.mk' {T : TypeId} {k b n c : Nat} {rs junk : List (List Value)} (hall : ∀ r ∈ rs ++ junk, r.length = k) (hn : n = rs.length) (hc : c = rs.length + junk.length) : SOwn T k (.slice (some ⟨b, 0, none⟩) n c) rs [(b, .cells (rows (rs ++ junk)) T (0, 0))] := by
  subst hn; subst hc; exact SOwn.mk hall
theorem LdA.row {b i k : Nat} {l : List (List Value)} {T : TypeId} {fz : Nat × Nat} {r : List Value} {K : Value → Prop} (hm : (b, Obj.cells (rows l) T fz) ∈ H) (hall : ∀ r ∈ l, r.length = k) (hi : l[i]? = some r) (h : K (.agg r.toArray)) :
    LdA k H (.pointer (some ⟨b, 0 + i * k, none⟩)) K := by
  have hlt := (List.getElem?_eq_some_iff.1 hi).1
  refine LdA.mk hm ?_ ?_ h
  · rw [rows_size hall, Nat.zero_add]; have := Nat.mul_le_mul_right k (Nat.succ_le_of_lt hlt); rwa [Nat.succ_mul] at this
  · rw [Nat.zero_add]; exact rows_extract hall hi
theorem Ld.row {b i j k : Nat} {l : List (List Value)} {T : TypeId} {fz : Nat × Nat} {r : List Value} {v : Value} {K : Value → Prop} (hm : (b, Obj.cells (rows l) T fz) ∈ H) (hall : ∀ r ∈ l, r.length = k) (hi : l[i]? = some r) (hv : r[j]? = some v) (h : K v) :
    Ld H (.pointer (some ⟨b, 0 + i * k + j, none⟩)) K := by
  have hr := hall r (List.mem_of_getElem? hi)
  have hj : j < k := by rw [← hr]; exact (List.getElem?_eq_some_iff.1 hv).1
  refine Ld.mk hm ?_ h
  rw [Nat.zero_add, rows_get hall hj, hi]; exact hv
/-- rows of one cell -/
theorem Ld.row1 {b i : Nat} {l : List (List Value)} {T : TypeId} {fz : Nat × Nat} {v : Value} {K : Value → Prop} (hm : (b, Obj.cells (rows l) T fz) ∈ H) (hall : ∀ r ∈ l, r.length = 1) (hi : l[i]? = some [v]) (h : K v) :
    Ld H (.pointer (some ⟨b, 0 + i * 1, none⟩)) K := by
  have := Ld.row (j := 0) hm hall hi rfl h
  simpa using this
theorem St.row {b i k : Nat} {l : List (List Value)} {T : TypeId} {r : List Value} {H' : Hp} {K : Hp → Prop} (hu : Upd b (.cells (rows l) T (0, 0)) (.cells (rows (l.set i r)) T (0, 0)) H H') (hall : ∀ r ∈ l, r.length = k) (hi : i < l.length)
    (hr : r.length = k) (h1 : ∀ v ∈ r, v.oneCell' = true) (h : K H') : St k H (.pointer (some ⟨b, 0 + i * k, none⟩)) (.agg r.toArray) K := by
  refine St.mk hu (by simp [Value.cells, hr]) ?_ (by simpa [Value.cells] using h1) ?_ h
  · rw [rows_size hall, Nat.zero_add]; have := Nat.mul_le_mul_right k (Nat.succ_le_of_lt hi); rwa [Nat.succ_mul] at this
  · simp only [Value.cells, Nat.zero_add]; exact rows_set hall hi hr
theorem rows_set_cell {k : Nat} {l : List (List Value)} (h : ∀ r ∈ l, r.length = k) {i j : Nat} {r : List Value} (hi : l[i]? = some r) (hj : j < k) (v : Value) : (rows l).setIfInBounds (i * k + j) v = rows (l.set i (r.set j v)) := by
  have hr := h r (List.mem_of_getElem? hi)
  have hlt := (List.getElem?_eq_some_iff.1 hi).1
  have hall' : ∀ x ∈ l.set i (r.set j v), x.length = k := fun x hx => by
    rcases List.mem_or_eq_of_mem_set hx with hx | hx
    · exact h x hx
    · rw [hx, List.length_set]; exact hr
  have hk : 0 < k := by omega
  apply Array.ext'
  apply List.ext_getElem?
  intro m
  rw [Array.getElem?_toList, Array.getElem?_toList, Array.getElem?_setIfInBounds]
  have hm : m % k < k := Nat.mod_lt _ hk
  have he : m / k * k + m % k = m := by rw [Nat.mul_comm]; exact Nat.div_add_mod m k
  have g1 := rows_get h (i := m / k) hm
  have g2 := rows_get hall' (i := m / k) hm
  rw [he] at g1 g2
  rw [g1, g2]
  by_cases e : i * k + j = m
  · have e1 : m / k = i := by rw [← e, Nat.mul_comm, Nat.mul_add_div hk, Nat.div_eq_of_lt hj, Nat.add_zero]
    have e2 : m % k = j := by rw [← e, Nat.mul_comm, Nat.mul_add_mod, Nat.mod_eq_of_lt hj]
    rw [if_pos e, if_pos (by rw [rows_size h]; have := Nat.mul_le_mul_right k (Nat.succ_le_of_lt hlt); rw [Nat.succ_mul] at this; omega), e1, e2]
    simp [hlt, hr, hj]
  · rw [if_neg e]
    by_cases e1 : m / k = i
    · have e2 : j ≠ m % k := fun e2 => e (by rw [e2, ← e1]; exact he)
      rw [e1, hi]
      simp [hlt, e2]
    · rw [List.getElem?_set_ne (fun x => e1 x.symm)]
theorem St.cell {b i j k : Nat} {l : List (List Value)} {T : TypeId} {r : List Value} {v : Value} {H' : Hp} {K : Hp → Prop} (hu : Upd b (.cells (rows l) T (0, 0)) (.cells (rows (l.set i (r.set j v))) T (0, 0)) H H') (hall : ∀ r ∈ l, r.length = k)
    (hi : l[i]? = some r) (hj : j < k) (h1 : v.oneCell' = true) (h : K H') : St 1 H (.pointer (some ⟨b, 0 + i * k + j, none⟩)) v K := by
  have hlt := (List.getElem?_eq_some_iff.1 hi).1
  have hc : v.cells = #[v] := by cases v <;> first | rfl | (simp [Value.oneCell'] at h1)
  refine St.mk hu (by simp [hc]) ?_ (by simp [hc, h1]) ?_ h
  · rw [rows_size hall, Nat.zero_add]; have := Nat.mul_le_mul_right k (Nat.succ_le_of_lt hlt); rw [Nat.succ_mul] at this; omega
  · simp only [hc, Nat.zero_add, over]; exact rows_set_cell hall hi hj v
/-- one cell of a block written out -/
theorem St.one {b off : Nat} {c c' : Array Value} {T : TypeId} {v : Value} {H' : Hp} {K : Hp → Prop} (hu : Upd b (.cells c T (0, 0)) (.cells c' T (0, 0)) H H') (h1 : v.oneCell' = true) (hs : off < c.size) (hc : c.setIfInBounds off v = c') (h : K H') :
    St 1 H (.pointer (some ⟨b, off, none⟩)) v K := by
  have hv : v.cells = #[v] := by cases v <;> first | rfl | (simp [Value.oneCell'] at h1)
  exact St.mk hu (by simp [hv]) (by omega) (by simp [hv, h1]) (by simpa [hv, over] using hc) h
/-- a whole block, laid anew -/
theorem St.whole {b n : Nat} {c : Array Value} {T : TypeId} {r : List Value} {H' : Hp} {K : Hp → Prop} (hu : Upd b (.cells c T (0, 0)) (.cells r.toArray T (0, 0)) H H') (hs : c.size = n) (hr : r.length = n) (h1 : ∀ v ∈ r, v.oneCell' = true) (h : K H') :
    St n H (.pointer (some ⟨b, 0, none⟩)) (.agg r.toArray) K := by
  refine St.mk hu (by simp [Value.cells, hr]) (by omega) (by simpa [Value.cells] using h1) ?_ h
  have := over_eq r c.toList 0 (by simp; omega)
  rw [Array.toArray_toList] at this
  simp only [Value.cells]
  rw [this]
  simp [List.drop_eq_nil_of_le, hr, hs]
theorem LdA.whole {b n : Nat} {r : List Value} {T : TypeId} {fz : Nat × Nat} {K : Value → Prop} (hm : (b, Obj.cells r.toArray T fz) ∈ H) (hr : r.length = n) (h : K (.agg r.toArray)) : LdA n H (.pointer (some ⟨b, 0, none⟩)) K :=
  LdA.mk hm (by simp [hr]) (by simp; rw [← hr, List.take_length]) h

theorem eraseIdx_map {α β : Type} (f : α → β) : ∀ (l : List α) (i : Nat), (l.map f).eraseIdx i = (l.eraseIdx i).map f
  | [], _ => rfl
  | x :: l, 0 => rfl
  | x :: l, i + 1 => by simp [eraseIdx_map f l i]
/-! maps -/
def mapEnts {β : Type} (kd : IntKind) (enc : β → Value) (m : List (Int × β × Nat)) : Array MapEntry := (m.map fun x => ({ key := .int kd x.1, val := enc x.2.1, born := x.2.2 } : MapEntry)).toArray
def mapFn {β : Type} (m : List (Int × β × Nat)) (x : Int) : Option β := (m.find? (fun y => x == y.1)).map (·.2.1)
/-- the map v is this function of whole numbers; C holds its entries (none: the nil map) -/
def MOwn {β : Type} (kd : IntKind) (enc : β → Value) (v : Value) (f : Int → Option β) (C : Hp) : Prop :=
  (v = .map none ∧ C = [] ∧ f = fun _ => none) ∨
  ∃ b m ck, v = .map (some b) ∧ C = [(b, .map (mapEnts kd enc m) ck)] ∧ (m.map Prod.fst).Nodup ∧ f = mapFn m
theorem findNow_ents {β : Type} (kd : IntKind) (enc : β → Value) (x : Int) : ∀ (m : List (Int × β × Nat)) (i : Nat),
    ∃ r, Instr.findNow (.int kd) (.int kd x) (mapEnts kd enc m).toList i = some r ∧
      (match r with
        | none => mapFn m x = none ∧ x ∉ m.map Prod.fst
        | some (j, v) => i ≤ j ∧ ∃ p n, m[j - i]? = some (x, p, n) ∧ v = enc p ∧ mapFn m x = some p)
  | [], i => ⟨none, by simp [mapEnts, Instr.findNow], by simp [mapFn]⟩
  | (y, p, n) :: m, i => by
    simp only [mapEnts, List.map_cons, Instr.findNow, Instr.sameNow, if_true]
    by_cases e : x = y
    · subst e
      refine ⟨some (i, enc p), by simp [Instr.findNow, Instr.sameNow], Nat.le_refl _, p, n, by simp, rfl, by simp [mapFn]⟩
    · obtain ⟨r, hr, hp⟩ := findNow_ents kd enc x m (i + 1)
      have hb : (x == y) = false := by simpa using e
      refine ⟨r, ?_, ?_⟩
      · simp only [mapEnts] at hr
        simp [Instr.findNow, Instr.sameNow, hb, hr]
      · cases r with
        | none =>
          simp only [mapFn, List.find?_cons, hb] at hp ⊢
          exact ⟨hp.1, by simpa [e] using hp.2⟩
        | some jv =>
          obtain ⟨j, v⟩ := jv
          simp only [mapFn, List.find?_cons, hb] at hp ⊢
          obtain ⟨hij, p', n', h1, h2, h3⟩ := hp
          refine ⟨by omega, p', n', ?_, h2, h3⟩
          rw [show j - i = (j - (i + 1)) + 1 by omega]; simpa using h1
theorem MOwn.look {β : Type} {kd : IntKind} {enc : β → Value} {v zero : Value} {f : Int → Option β} {C : Hp} {ok : Bool} {x : Int} {K : Value → Prop} (h : MOwn kd enc v f C) (hC : ∀ y ∈ C, y ∈ H)
    (hk : K (match f x with | some p => cond ok (.tuple #[enc p, .bool true]) (enc p) | none => cond ok (.tuple #[zero, .bool false]) zero)) : Look (.int kd) zero ok H v (.int kd x) K := by
  rcases h with ⟨rfl, rfl, rfl⟩ | ⟨b, m, ck, rfl, rfl, _, rfl⟩
  · exact ⟨#[], none, .inl ⟨rfl, rfl⟩, rfl, hk⟩
  · obtain ⟨r, hr, hp⟩ := findNow_ents kd enc x m 0
    refine ⟨_, r, .inr ⟨b, ck, rfl, hC _ (by simp)⟩, hr, ?_⟩
    cases r with
    | none => simp only [hp.1] at hk; exact hk
    | some jv =>
      obtain ⟨j, u⟩ := jv
      obtain ⟨_, p, n, _, rfl, h3⟩ := hp
      simp only [h3] at hk; exact hk
def upM {β : Type} (f : Int → Option β) (x : Int) (p : Option β) : Int → Option β := fun y => if y = x then p else f y
theorem MOwn.made {β : Type} {kd : IntKind} {enc : β → Value} (b : Nat) : MOwn kd enc (.map (some b)) (fun _ => none) [(b, .map #[] 0)] :=
  .inr ⟨b, [], 0, rfl, rfl, by simp, by funext x; simp [mapFn]⟩
theorem mapFn_push {β : Type} (m : List (Int × β × Nat)) (x : Int) (p : β) (n : Nat) (hx : x ∉ m.map Prod.fst) : mapFn (m ++ [(x, p, n)]) = upM (mapFn m) x (some p) := by
  funext y
  simp only [mapFn, upM, List.find?_append]
  by_cases e : y = x
  · subst e
    have : m.find? (fun z => y == z.1) = none := by
      rw [List.find?_eq_none]; intro z hz; simp only [beq_iff_eq]; intro e; exact hx (e ▸ List.mem_map_of_mem hz)
    simp [this]
  · have e' : (y == x) = false := by simpa using e
    rw [if_neg e]
    cases h : m.find? (fun z => y == z.1) <;> simp [e']
theorem mapFn_set {β : Type} : ∀ (m : List (Int × β × Nat)) (j : Nat) (x : Int) (p q : β) (n : Nat), (m.map Prod.fst).Nodup → m[j]? = some (x, q, n) → mapFn (m.set j (x, p, n)) = upM (mapFn m) x (some p)
  | [], j, _, _, _, _, _, h => by simp at h
  | y :: m, 0, x, p, q, n, nd, h => by
    simp at h; subst h
    funext z
    simp only [List.set_cons_zero, mapFn, upM, List.find?_cons]
    by_cases e : z = x
    · subst e; simp
    · have e' : (z == x) = false := by simpa using e
      rw [if_neg e]; simp [e']
  | y :: m, j + 1, x, p, q, n, nd, h => by
    simp at h
    simp only [List.map_cons, List.nodup_cons] at nd
    have ih := mapFn_set m j x p q n nd.2 h
    have hne : x ≠ y.1 := fun e => nd.1 (e ▸ List.mem_map_of_mem (f := Prod.fst) (List.mem_of_getElem? h))
    funext z
    have ihz := congrFun ih z
    simp only [List.set_cons_succ, mapFn, upM, List.find?_cons] at ihz ⊢
    by_cases e : z = y.1
    · have : z ≠ x := fun e2 => hne (e2 ▸ e)
      simp [e, Ne.symm hne]
    · have e' : (z == y.1) = false := by simpa using e
      simp only [e']; exact ihz
theorem mapFn_erase {β : Type} : ∀ (m : List (Int × β × Nat)) (j : Nat) (x : Int) (q : β) (n : Nat), (m.map Prod.fst).Nodup → m[j]? = some (x, q, n) → mapFn (m.eraseIdx j) = upM (mapFn m) x none
  | [], j, _, _, _, _, h => by simp at h
  | y :: m, 0, x, q, n, nd, h => by
    simp at h; subst h
    simp only [List.map_cons, List.nodup_cons] at nd
    funext z
    simp only [List.eraseIdx_cons_zero, mapFn, upM, List.find?_cons]
    by_cases e : z = x
    · subst e
      have : m.find? (fun w => z == w.1) = none := by
        rw [List.find?_eq_none]; intro w hw; simp only [beq_iff_eq]; intro e; exact nd.1 (e ▸ List.mem_map_of_mem hw)
      simp [this]
    · have e' : (z == x) = false := by simpa using e
      rw [if_neg e]; simp [e']
  | y :: m, j + 1, x, q, n, nd, h => by
    simp at h
    simp only [List.map_cons, List.nodup_cons] at nd
    have ih := mapFn_erase m j x q n nd.2 h
    have hne : x ≠ y.1 := fun e => nd.1 (e ▸ List.mem_map_of_mem (f := Prod.fst) (List.mem_of_getElem? h))
    funext z
    have ihz := congrFun ih z
    simp only [List.eraseIdx_cons_succ, mapFn, upM, List.find?_cons] at ihz ⊢
    by_cases e : z = y.1
    · simp [e, Ne.symm hne]
    · have e' : (z == y.1) = false := by simpa using e
      simp only [e']; exact ihz
theorem MOwn.upd {β : Type} {kd : IntKind} {enc : β → Value} {b : Nat} {f : Int → Option β} {C : Hp} {x : Int} {p : β} {A B : Hp} {K : Hp → Prop} (h : MOwn kd enc (.map (some b)) f C)
    (hk : ∀ C', MOwn kd enc (.map (some b)) (upM f x (some p)) C' → K (A ++ (C' ++ B))) : MapUpd (.int kd) (A ++ (C ++ B)) (.map (some b)) (.int kd x) (enc p) K := by
  rcases h with ⟨h, _, _⟩ | ⟨b', m, ck, hb, rfl, nd, rfl⟩
  · simp at h
  · simp only [Value.map.injEq, Option.some.injEq] at hb; subst hb
    obtain ⟨r, hr, hp⟩ := findNow_ents kd enc x m 0
    refine ⟨b, mapEnts kd enc m, ck, r, rfl, hr, ?_⟩
    cases r with
    | none =>
      refine ⟨_, ((Upd.head _).append B).prepend A, hk [(b, _)] (.inr ⟨b, m ++ [(x, p, ck)], ck + 1, rfl, ?_, ?_, ?_⟩)⟩
      · simp [mapEnts]
      · rw [List.map_append, List.nodup_append]; exact ⟨nd, by simp, fun a ha c hc => by simp at hc; subst hc; intro e; subst e; exact hp.2 ha⟩
      · exact (mapFn_push m x p ck hp.2).symm
    | some jv =>
      obtain ⟨j, u⟩ := jv
      obtain ⟨_, q, n, h1, rfl, h3⟩ := hp
      rw [Nat.sub_zero] at h1
      have hlt := (List.getElem?_eq_some_iff.1 h1).1
      refine ⟨fun e he => ?_, by simpa [mapEnts] using hlt, _, ((Upd.head _).append B).prepend A, hk [(b, _)] (.inr ⟨b, m.set j (x, p, n), ck, rfl, ?_, ?_, ?_⟩)⟩
      · have : e = { key := .int kd x, val := enc q, born := n } := by
          simp only [mapEnts, List.getElem?_toArray, List.getElem?_map, h1] at he; simpa using he.symm
        subst this
        simp [Instr.sameBits]
      · congr 3
        apply Array.ext'
        apply List.ext_getElem?
        intro i
        simp only [mapEnts, Array.getElem?_toList, Array.getElem?_modify, List.getElem?_toArray, List.getElem?_map, List.getElem?_set]
        by_cases e : j = i
        · subst e
          have hj : m[j] = (x, q, n) := by have := List.getElem?_eq_getElem hlt; rw [h1] at this; simpa using this.symm
          simp [hlt, hj]
        · simp [e]
      · rw [List.map_set]
        have hx : (m.map Prod.fst)[j]? = some x := by rw [List.getElem?_map, h1]; rfl
        rw [show (m.map Prod.fst).set j x = m.map Prod.fst by
          apply List.ext_getElem?; intro i; rw [List.getElem?_set]; by_cases e : j = i
          · subst e; rw [hx]; simp [hlt]
          · simp [e]]
        exact nd
      · exact (mapFn_set m j x p q n nd h1).symm
theorem MOwn.del {β : Type} {kd : IntKind} {enc : β → Value} {v : Value} {f : Int → Option β} {C : Hp} {x : Int} {A B : Hp} {K : Hp → Prop} (h : MOwn kd enc v f C)
    (hk : ∀ C', MOwn kd enc v (upM f x none) C' → K (A ++ (C' ++ B))) : MapDel (.int kd) (A ++ (C ++ B)) v (.int kd x) K := by
  rcases h with ⟨rfl, rfl, rfl⟩ | ⟨b, m, ck, rfl, rfl, nd, rfl⟩
  · refine .inl ⟨rfl, hk [] (.inl ⟨rfl, rfl, ?_⟩)⟩
    funext y; simp [upM]
  · obtain ⟨r, hr, hp⟩ := findNow_ents kd enc x m 0
    refine .inr ⟨b, mapEnts kd enc m, ck, r, rfl, hr, ?_⟩
    cases r with
    | none =>
      refine ⟨by simp, hk [(b, _)] (.inr ⟨b, m, ck, rfl, rfl, nd, ?_⟩)⟩
      funext y; simp only [upM]; split
      · rename_i e; subst e; exact hp.1.symm
      · rfl
    | some jv =>
      obtain ⟨j, u⟩ := jv
      obtain ⟨_, q, n, h1, rfl, h3⟩ := hp
      rw [Nat.sub_zero] at h1
      have hlt := (List.getElem?_eq_some_iff.1 h1).1
      refine ⟨_, ((Upd.head _).append B).prepend A, hk [(b, _)] (.inr ⟨b, m.eraseIdx j, ck, rfl, ?_, ?_, ?_⟩)⟩
      · congr 3
        apply Array.ext'
        simp [mapEnts, Array.eraseIdxIfInBounds, hlt, eraseIdx_map]
      · rw [← eraseIdx_map]; exact nd.sublist (List.eraseIdx_sublist _ _)
      · exact (mapFn_erase m j x q n nd h1).symm
end
end Go.Sx
