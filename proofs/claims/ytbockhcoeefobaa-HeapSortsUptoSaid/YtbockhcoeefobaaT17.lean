import Derived.Test.YtbockhcoeefobaaT16
import Derived.Test.YtbockhcoeefobaaSxU
set_option linter.unusedVariables false
set_option linter.unusedSimpArgs false
set_option maxRecDepth 100000
namespace Go.Proofs
open Go Go.Sx HpA
/-- a slice of numbers, as it stands on the heap -/
def IntsIn (k : IntKind) (H : Hp) (v : Value) (zs : List Int) : Prop := ∃ a cap, v = .slice a zs.length cap ∧ ∀ i, (h : i < zs.length) → ∃ b o c T fz, a = some ⟨b, o, none⟩ ∧ (b, Obj.cells c T fz) ∈ H ∧ c[o + i]? = some (.int k zs[i])
theorem IntsIn.mono {k : IntKind} {H H' : Hp} {v : Value} {zs : List Int} (h : IntsIn k H v zs) (hs : ∀ x ∈ H, x ∈ H') : IntsIn k H' v zs := by
  obtain ⟨a, cap, h1, h2⟩ := h
  exact ⟨a, cap, h1, fun i hi => let ⟨b, o, c, T, fz, h3, h4, h5⟩ := h2 i hi; ⟨b, o, c, T, fz, h3, hs _ h4, h5⟩⟩
theorem IntsIn.len {k : IntKind} {H : Hp} {v : Value} {zs : List Int} (h : IntsIn k H v zs) {K : Value → Prop} (hk : K (.int .i64 zs.length)) : LenS v K := by
  obtain ⟨a, cap, rfl, h2⟩ := h
  exact LenS.mk hk
theorem IntsIn.at {k : IntKind} {H : Hp} {v : Value} {zs : List Int} (h : IntsIn k H v zs) {i : Nat} (hi : i < zs.length) {K : Value → Prop} (hk : K (.int k zs[i])) :
    IAddr 1 v (.int .i64 (i : Int)) fun p => Ld H p K := by
  obtain ⟨a, cap, rfl, h2⟩ := h
  obtain ⟨b, o, c, T, fz, rfl, h3, h4⟩ := h2 i hi
  exact IAddr.nat hi (Ld.mk h3 (by rw [Nat.mul_one]; exact h4) hk)
def ix (ps : List It) (x : Int) : Int := match ps.findIdx? (fun a => x == a.1) with | some i => i | none => -1
theorem ix_cases (ps : List It) (x : Int) : (ix ps x = -1 ∧ x ∉ ps.map Prod.fst) ∨ ∃ i, ∃ h : i < ps.length, ix ps x = (i : Int) ∧ ps[i].1 = x := by
  unfold ix
  cases h : ps.findIdx? (fun a => x == a.1) with
  | none =>
    refine .inl ⟨rfl, fun hx => ?_⟩
    obtain ⟨a, ha, rfl⟩ := List.mem_map.1 hx
    have := (List.findIdx?_eq_none_iff.1 h) a ha
    simp at this
  | some i =>
    obtain ⟨hi, h1, _⟩ := List.findIdx?_eq_some_iff_getElem.1 h
    exact .inr ⟨i, hi, rfl, (by simpa using h1 : x = ps[i].1).symm⟩
theorem ix_at {ps : List It} {x : Int} {i : Nat} (hi : i < ps.length) (h : ∀ j, (hj : j < i) → (hl : j < ps.length) → ps[j].1 ≠ x) (h1 : ps[i].1 = x) : ix ps x = i := by
  unfold ix
  have : ps.findIdx? (fun a => x == a.1) = some i := by
    rw [List.findIdx?_eq_some_iff_getElem]
    exact ⟨hi, by simp [h1], fun j hj => by simpa using fun e => h j hj (by omega) e.symm⟩
  rw [this]
theorem ix_none {ps : List It} {x : Int} (h : ∀ j, (hj : j < ps.length) → ps[j].1 ≠ x) : ix ps x = -1 := by
  rcases ix_cases ps x with ⟨h1, _⟩ | ⟨i, hi, _, h2⟩
  · exact h1
  · exact absurd h2 (h i hi)
def col1 (ps : List It) : List (List Value) := ps.map fun a => [.int .u64 a.1]
def col2 (ps : List It) : List (List Value) := ps.map fun a => [.int .i64 a.2]
theorem indexG {g : World} {v : Value} {ps : List It} {C H : Hp} (hs : SOwn 26 1 v (col1 ps) C) (hC : ∀ y ∈ C, y ∈ H) (hmax : ps.length < 4398046511104) (x : Int) : CalmQ Try.prog g 11 #[v, .int .u64 x] H (.int .i64 (ix ps x)) := by
  refine L11_sound ?_
  unfold L11
  have hl : (col1 ps).length = ps.length := by simp [col1]
  refine hs.lenS ?_
  rw [hl]
  refine ⟨fun vs H1 => ∃ i : Nat, vs = [.int .i64 i] ∧ H1 = H ∧ i ≤ ps.length ∧ ∀ j, (hj : j < i) → (hl : j < ps.length) → ps[j].1 ≠ x,
    fun vs _ => match vs with | [.int _ i] => ps.length - i.toNat | _ => 0, .mk ⟨0, rfl, rfl, by omega, fun j hj => by omega⟩, ?_⟩
  rintro w H1 ⟨i, hv, rfl, hi, hno⟩ gs
  obtain rfl : w = .int .i64 i := by simpa using hv
  refine Bin.lss (Br.mk (fun h1 => ?_) (fun h1 => ?_))
  · have hil : i < ps.length := by simpa using h1
    obtain ⟨b', junk, rfl, rfl, hall⟩ := hs.pos (by omega)
    refine IAddr.nat (by omega) ?_
    refine Ld.row1 (l := col1 ps ++ junk) (v := .int .u64 ps[i].1) (hC _ (List.Mem.head _)) hall (by rw [List.getElem?_append_left (by omega)]; simp [col1, hil]) ?_
    refine Bin.eql (Br.mk (fun h2 => ?_) (fun h2 => ?_))
    · exact ⟨by rw [ix_at hil hno (by simpa using Eq.symm (by simpa using h2))], .refl _⟩
    · refine Bin.add64 (c := ((i + 1 : Nat) : Int)) (by simp) (by omega) ?_
      refine .mk ⟨i + 1, rfl, rfl, by omega, fun j hj hl => ?_⟩ ?_
      · by_cases e : j = i
        · subst e; exact fun e => by simp [e] at h2
        · exact hno j (by omega) hl
      · simp only [Int.toNat_natCast]; omega
  · have hil : i = ps.length := by simp at h1; omega
    subst hil
    exact ⟨by rw [ix_none fun j hj => hno j hj hj], .refl _⟩
theorem set_perm {l l' ps r : List It} {x k k0 : Int} (hp : l.Perm ps) (h1 : Once l) (hl : l.Perm ((x, k0) :: r)) (hl' : l'.Perm ((x, k) :: r)) {j : Nat} (hj : j < ps.length) (hx : ps[j].1 = x) : l'.Perm (ps.set j (x, k)) := by
  have e : ps[j] = (x, k0) := by
    have h2 := h1.perm hl.symm
    have h3 := (hl.mem_iff).1 ((hp.mem_iff).2 (List.getElem_mem hj))
    rcases List.mem_cons.1 h3 with h3 | h3
    · exact h3
    · unfold Once at h2
      simp only [List.map_cons, List.nodup_cons] at h2
      exact absurd (List.mem_map.2 ⟨_, h3, hx⟩) h2.1
  have p1 : (ps[j] :: ps.eraseIdx j).Perm ps := get_erase_perm hj
  rw [e] at p1
  have p2 : (ps.eraseIdx j).Perm r := (List.perm_cons _).1 ((p1.trans hp.symm).trans hl)
  have p3 := get_erase_perm (l := ps.set j (x, k)) (i := j) (by simpa using hj)
  simp only [List.getElem_set_self] at p3
  rw [List.eraseIdx_set_eq] at p3
  exact (hl'.trans (p2.symm.cons _)).trans p3
theorem once_eq {ps : List It} (h : Once ps) {j : Nat} (hj : j < ps.length) {a : It} (ha : a ∈ ps) (e : ps[j].1 = a.1) : ps[j] = a := by
  obtain ⟨i, hi, rfl⟩ := List.mem_iff_getElem.1 ha
  have e1 : at' ps j = ps[j] := by simp [at', List.getD, hj]
  have e2 : at' ps i = ps[i] := by simp [at', List.getD, hi]
  have := Once.inj h hj hi (by rw [e1, e2]; exact e)
  subst this; rfl
/-- what has gone in, beside the heap -/
def Sort3 (h vi vl : Value) (l ps : List It) (C C1 C2 : Hp) : Prop := HI .u64 75 71 h l C ∧ SOwn 26 1 vi (col1 ps) C1 ∧ SOwn 2 1 vl (col2 ps) C2 ∧ l.Perm ps
theorem perm3 (A B C D : Hp) : (A ++ (B ++ (C ++ D))).Perm (C ++ (A ++ (B ++ D))) := by
  rw [← List.append_assoc, ← List.append_assoc A B D]; exact (List.perm_append_comm (l₁ := A ++ B) (l₂ := C) |>.append_right D) |> fun h => by simpa [List.append_assoc] using h
theorem law3 {g : World} {v0 v1 v2 : Value} {xs ks ls : List Int} {F : Hp} (h0 : IntsIn .u64 F v0 xs) (h1 : IntsIn .i64 F v1 ks) (h2 : IntsIn .i64 F v2 ls) (m0 : xs.length < 4398046511104) (m1 : ks.length < 4398046511104) (m2 : ls.length < 4398046511104) :
    CalmQ Try.prog g 3 #[v0, v1, v2] F (.bool true) := by
  refine L3_sound ?_
  unfold L3
  refine CallF.at (.refl _) (newU F) ?_
  rintro e H' ⟨b, C0, rfl, rfl, hi0⟩
  refine ⟨_, .refl _, ?_⟩
  refine CallF.pure (awake (C0 ++ F)) ?_
  refine Un.not (Grp.mk false (fun _ => Bin.ptrNil ⟨rfl, rfl⟩) (fun h => absurd h (by decide)) fun gs => ?_)
  refine Br.no ?_
  refine h0.len ?_
  refine ⟨fun vs H1 => ∃ (i : Nat) (vi vl : Value) (l ps : List It) (C C1 C2 : Hp), vs = [vi, vl, .int .i64 i] ∧ H1 = C ++ (C1 ++ (C2 ++ F)) ∧ Sort3 (.pointer (some ⟨b, 0, none⟩)) vi vl l ps C C1 C2 ∧ i ≤ xs.length ∧ ps.length ≤ i,
    fun vs _ => match vs with | [_, _, .int _ i] => xs.length - i.toNat | _ => 0, .mk ⟨0, _, _, [], [], C0, [], [], rfl, rfl, ⟨hi0, SOwn.nil _ _, SOwn.nil _ _, .refl _⟩, by omega, by simp⟩, ?_⟩
  rintro w1 w2 w3 H1 ⟨i, vi, vl, l, ps, C, C1, C2, hw, rfl, ⟨hi, hs1, hs2, hp⟩, hix, hpi⟩ gs
  obtain ⟨rfl, rfl, rfl⟩ : w1 = vi ∧ w2 = vl ∧ w3 = .int .i64 i := by simpa using hw
  have hlp := hp.length_eq
  have hmem : ∀ x, x ∈ l.map Prod.fst ↔ x ∈ ps.map Prod.fst := fun x => (hp.map Prod.fst).mem_iff
  have hF : ∀ x ∈ F, x ∈ C ++ (C1 ++ (C2 ++ F)) := fun x hx => by simp [hx]
  refine Bin.lss (Br.mk (fun hb => ?_) (fun hb => ?_))
  · have hil : i < xs.length := by simpa using hb
    intro J hJ
    refine (h0.mono hF).at hil ?_
    generalize xs[i] = x
    intro J2 hJ2
    have main : ∀ key : Int, J2 [.int .i64 key] (C ++ (C1 ++ (C2 ++ F))) := by
      intro key
      refine hJ2 _ _ fun gs => ?_
      refine CallF.at (.refl _) (pushU hi (by omega) x key (C1 ++ (C2 ++ F))) ?_
      rintro e H' ⟨l', C', rfl, hi', hcase⟩
      have hret : ∃ z, e = .returned (.int .i64 z) := by rcases hcase with ⟨_, rfl, _⟩ | ⟨_, rfl, _⟩ <;> exact ⟨_, rfl⟩
      obtain ⟨z, rfl⟩ := hret
      refine ⟨_, .refl _, ?_⟩
      refine CallF.pure (indexG hs1 (fun y hy => by simp [hy]) (by omega) x) ?_
      refine Bin.eql (Bin.lss ?_)
      have hback : ∀ vi' vl' l2 ps2 C' C1' C2', Sort3 (.pointer (some ⟨b, 0, none⟩)) vi' vl' l2 ps2 C' C1' C2' → ps2.length ≤ i + 1 → J [vi', vl'] (C' ++ (C1' ++ (C2' ++ F))) := by
        intro vi' vl' l2 ps2 C' C1' C2' hS hle
        refine hJ _ _ _ fun gs => ?_
        refine Bin.add64 (c := ((i + 1 : Nat) : Int)) (by simp) (by omega) ?_
        exact .mk ⟨i + 1, vi', vl', l2, ps2, C', C1', C2', rfl, rfl, hS, by omega, hle⟩ (by simp only [Int.toNat_natCast]; omega)
      rcases hcase with ⟨hx, hz, rfl⟩ | ⟨hx, hz, hp'⟩ <;> (simp only [Ending.returned.injEq, Value.int.injEq, true_and] at hz; subst hz) <;> rcases ix_cases ps x with ⟨hix, hn⟩ | ⟨j, hj, hix, hjx⟩
      · exact absurd ((hmem x).1 hx) hn
      · rw [hix, show decide ((j : Int) < 0) = false from by simp]
        refine Bin.neqB (Grp.mk false (fun _ => Bin.neq (Grp.mk false (fun _ => Bin.neq ⟨rfl, rfl⟩) (fun h => absurd h (by decide)) fun gs => ⟨rfl, rfl⟩)) (fun h => absurd h (by decide)) fun gs => ?_)
        refine Br.no (Bin.lss ?_)
        rw [show decide ((j : Int) < 0) = false from by simp]
        exact Br.no (JE.mk (hback _ _ l' ps C' C1 C2 ⟨hi', hs1, hs2, hp⟩ (by omega)))
      · rw [hix]
        refine Bin.neqB (Grp.mk false (fun _ => Bin.neq (Grp.mk false (fun h => absurd h (by decide)) (fun _ => rfl) fun gs => ⟨rfl, rfl⟩)) (fun h => absurd h (by decide)) fun gs => ?_)
        refine Br.no (Bin.lss (Br.yes' rfl ?_))
        refine BuildSl.cell (e := 26) (z := .int .u64 0) (by kernel_rfl) (by kernel_rfl) (by kernel_rfl) rfl fun xb => ?_
        refine hs1.app' (A := (xb, .cells #[.int .u64 x] 26 (0, 0)) :: C') (B := C2 ++ F) (r := [.int .u64 x]) (List.Mem.head _) rfl (by simp [Value.oneCell']) ⟨[.int .u64 0], rfl, rfl⟩ (by simp [col1]; omega) (by simp [col1]; omega) fun vi' C1' hs1' => ?_
        refine BuildSl.cell (e := 2) (z := .int .i64 0) (by kernel_rfl) (by kernel_rfl) (by kernel_rfl) rfl fun yb => ?_
        refine (show App Try.prog 2 1 8 (.int .i64 0) (((yb, .cells #[.int .i64 key] 2 (0, 0)) :: (xb, .cells #[.int .u64 x] 26 (0, 0)) :: (C' ++ C1')) ++ (C2 ++ F)) _ _ _ → _ from fun h => by simpa using h) ?_
        refine hs2.app' (A := (yb, .cells #[.int .i64 key] 2 (0, 0)) :: (xb, .cells #[.int .u64 x] 26 (0, 0)) :: (C' ++ C1')) (B := F) (r := [.int .i64 key]) (List.Mem.head _) rfl (by simp [Value.oneCell']) ⟨[.int .i64 0], rfl, rfl⟩ (by simp [col2]; omega) (by simp [col2]; omega) fun vl' C2' hs2' => ?_
        refine JE.of ?_ (hback vi' vl' l' (ps ++ [(x, key)]) C' C1' C2' ⟨hi', by simpa [col1] using hs1', by simpa [col2] using hs2', ?_⟩ (by simp; omega))
        · exact Ent.trans .tail (.trans .tail (.perm (by simp [List.append_assoc])))
        · exact hp'.trans ((hp.cons _).trans (List.perm_append_comm (l₁ := [(x, key)]) (l₂ := ps)))
      · exact absurd ((hmem x).2 (List.mem_map.2 ⟨_, List.getElem_mem hj, hjx⟩)) hx
    refine h1.len (Bin.lss (Br.mk (fun hb => ?_) (fun hb => ?_)))
    · have hik : i < ks.length := by simpa using hb
      exact (h1.mono hF).at hik (JE.mk (main _))
    · exact JE.mk (main 0)
  refine h2.len ?_
  refine ⟨fun vs H1 => ∃ (i : Nat) (l qs : List It) (C C1 C2 : Hp), vs = [.int .i64 i] ∧ H1 = C ++ (C1 ++ (C2 ++ F)) ∧ Sort3 (.pointer (some ⟨b, 0, none⟩)) w1 w2 l qs C C1 C2 ∧ i ≤ ls.length ∧ qs.length = ps.length,
    fun vs _ => match vs with | [.int _ i] => ls.length - i.toNat | _ => 0, .mk ⟨0, l, ps, C, C1, C2, rfl, rfl, ⟨hi, hs1, hs2, hp⟩, by omega, rfl⟩, ?_⟩
  have hpx : ps.length < 4398046511104 := by omega
  generalize ps.length = N at hpx
  clear hs1 hs2 hp hi hlp hmem hF hb hix hpi
  clear l C C1 C2 ps
  rintro w4 H1 ⟨i, l, ps, C, C1, C2, hw, rfl, ⟨hi, hs1, hs2, hp⟩, hix, hN⟩ gs
  obtain rfl : w4 = .int .i64 i := by simpa using hw
  have hlp := hp.length_eq
  have hmem : ∀ x, x ∈ l.map Prod.fst ↔ x ∈ ps.map Prod.fst := fun x => (hp.map Prod.fst).mem_iff
  have hF : ∀ x ∈ F, x ∈ C ++ (C1 ++ (C2 ++ F)) := fun x hx => by simp [hx]
  have hl1 : (col1 ps).length = ps.length := by simp [col1]
  have hl2 : (col2 ps).length = ps.length := by simp [col2]
  refine Bin.lss (Br.mk (fun hb => ?_) (fun hb => ?_))
  · have hil : i < ls.length := by simpa using hb
    intro J hJ
    refine (h2.mono hF).at hil ?_
    generalize ls[i] = key
    have hback : ∀ l2 ps2 C' C1' C2', Sort3 (.pointer (some ⟨b, 0, none⟩)) w1 w2 l2 ps2 C' C1' C2' → ps2.length = N → J [] (C' ++ (C1' ++ (C2' ++ F))) := by
      intro l2 ps2 C' C1' C2' hS hle
      refine hJ _ fun gs => ?_
      refine Bin.add64 (c := ((i + 1 : Nat) : Int)) (by simp) (by omega) ?_
      exact .mk ⟨i + 1, l2, ps2, C', C1', C2', rfl, rfl, hS, by omega, hle⟩ (by simp only [Int.toNat_natCast]; omega)
    refine hs1.lenS ?_
    rw [hl1]
    refine Bin.lss (Br.mk (fun hb => ?_) (fun hb => JE.mk (hback l ps C C1 C2 ⟨hi, hs1, hs2, hp⟩ hN)))
    have hip : i < ps.length := by simpa using hb
    refine hs1.cell1 (by omega) (x := .int .u64 ps[i].1) (by simp [col1, hip]) (fun y hy => by simp [hy]) ?_
    refine CallF.at (.refl _) (moveU hi (by omega) ps[i].1 key (C1 ++ (C2 ++ F))) ?_
    rintro e H' ⟨l', C', rfl, hi', ⟨hx, _, _⟩ | ⟨k0, r, hr, hr', rfl⟩⟩
    · exact absurd ((hmem _).2 (List.mem_map.2 ⟨_, List.getElem_mem hip, rfl⟩)) hx
    refine ⟨_, .refl _, Bin.neq (Br.no ?_)⟩
    have hassoc : C' ++ (C1 ++ (C2 ++ F)) = (C' ++ C1) ++ (C2 ++ F) := by simp
    rw [hassoc]
    refine hs2.put1 (by omega) (y := .int .i64 ps[i].2) (by simp [col2, hip]) rfl fun C2' hs2' => ?_
    refine JE.of (.perm (by simp [List.append_assoc])) (hback l' (ps.set i (ps[i].1, key)) C' C1 C2' ⟨hi', ?_, ?_, set_perm hp (hi_once hi) hr hr' hip rfl⟩ (by simpa using hN))
    · have : col1 (ps.set i (ps[i].1, key)) = col1 ps := by
        apply List.ext_getElem? ; intro j
        simp only [col1, List.getElem?_map, List.getElem?_set]
        split
        · rename_i e; subst e; simp [hip]
        · rfl
      rw [this]; exact hs1
    · have : col2 (ps.set i (ps[i].1, key)) = (col2 ps).set i [.int .i64 key] := by simp [col2, List.map_set]
      rw [this]; exact hs2'
  refine hs1.lenS ?_
  rw [hl1]
  refine ⟨fun vs H1 => ∃ (n : Nat) (x key : Int) (l : List It) (C : Hp), vs = [.int .u64 x, .int .i64 key, .int .i64 n] ∧ H1 = C ++ (C1 ++ (C2 ++ F)) ∧ HI .u64 75 71 (.pointer (some ⟨b, 0, none⟩)) l C ∧ l.length + n = ps.length ∧
      (∀ a ∈ l, a ∈ ps) ∧ (0 < n → ∀ a ∈ l, prec a (x, key) = false ∧ a ≠ (x, key)),
    fun vs _ => match vs with | [_, _, .int _ i] => ps.length - i.toNat | _ => 0, .mk ⟨0, 0, 0, l, C, rfl, rfl, hi, by omega, fun a ha => (hp.mem_iff).1 ha, fun h => by omega⟩, ?_⟩
  have honce : Once ps := (hi_once hi).perm hp.symm
  clear hp hi hlp hmem hF hb hix
  clear l C
  rintro u1 u2 u3 H1 ⟨n, x, key, l, C, hw, rfl, hi, hln, hsub, hord⟩ gs
  obtain ⟨rfl, rfl, rfl⟩ : u1 = .int .u64 x ∧ u2 = .int .i64 key ∧ u3 = .int .i64 n := by simpa using hw
  refine Bin.lss (Br.mk (fun hb => ?_) (fun hb => ?_))
  · have hnl : n < ps.length := by simpa using hb
    refine CallF.at (.refl _) (popU hi (by omega) (C1 ++ (C2 ++ F))) ?_
    rintro e H' ⟨l', C', rfl, hi', ⟨hl0, _, _⟩ | ⟨a, hpa, hmin, rfl⟩⟩
    · rw [hl0] at hln; simp at hln; omega
    refine ⟨_, .refl _, Ext.mk rfl (Ext.mk rfl (Ext.mk rfl ?_))⟩
    have hal : a ∈ l := (hpa.mem_iff).2 (by simp)
    have hll := hpa.length_eq
    simp only [List.length_cons] at hll
    refine CallF.pure (indexG hs1 (fun y hy => by simp [hy]) (by omega) a.1) ?_
    rcases ix_cases ps a.1 with ⟨hix, hn⟩ | ⟨j, hj, hix, hjx⟩
    · exact absurd (List.mem_map.2 ⟨_, hsub a hal, rfl⟩) hn
    have hja := once_eq honce hj (hsub a hal) hjx
    rw [hix]
    intro J hJ
    have hfin : J [.bool false] (C' ++ (C1 ++ (C2 ++ F))) := by
      refine hJ _ _ fun gs => Br.no ?_
      refine Bin.add64 (c := ((n + 1 : Nat) : Int)) (by simp) (by omega) ?_
      refine .mk ⟨n + 1, a.1, a.2, l', C', rfl, rfl, hi', by omega, fun c hc => hsub c ((hpa.mem_iff).2 (by simp [hc])), fun _ c hc => ⟨hmin c ((hpa.mem_iff).2 (by simp [hc])), fun e => ?_⟩⟩ (by simp only [Int.toNat_natCast]; omega)
      have h2 := (hi_once hi).perm hpa.symm
      unfold Once at h2
      simp only [List.map_cons, List.nodup_cons] at h2
      exact h2.1 (List.mem_map.2 ⟨c, hc, by rw [e]⟩)
    have hlen : ∀ (K : Value → Hp → Prop) KP, K (.bool false) (C' ++ (C1 ++ (C2 ++ F))) →
        CallF Try.prog g 14 #[.pointer (some ⟨b, 0, none⟩)] (C' ++ (C1 ++ (C2 ++ F))) (fun v118 H119 => LenS w1 fun v120 => Bin .num .sub v120 (Value.int .i64 1) fun v121 => Bin .num .sub v121 (.int .i64 n) fun v122 => Bin .num .neq v118 v122 fun v123 => K v123 H119) KP := by
      intro K KP hK
      refine CallF.pure (lenU hi' (C1 ++ (C2 ++ F))) ?_
      refine hs1.lenS ?_
      rw [hl1]
      refine Bin.sub64 (c := ((ps.length - 1 : Nat) : Int)) (by omega) (by omega) ?_
      refine Bin.sub64 (c := ((ps.length - 1 - n : Nat) : Int)) (by omega) (by omega) ?_
      refine Bin.neq ?_
      rw [show (((l'.length : Nat) : Int) != ((ps.length - 1 - n : Nat) : Int)) = false by simp; omega]
      exact hK
    refine Bin.neq (Split.go rfl ?_)
    refine Bin.lss ?_
    rw [show decide ((j : Int) < 0) = false from by simp]
    refine Pick.mk (Split.go rfl ?_)
    refine hs2.cell1 (by omega) (x := .int .i64 a.2) (by simp [col2, hj, hja]) (fun y hy => by simp [hy]) ?_
    refine Bin.neq ?_
    rw [show (a.2 != a.2) = false from by simp]
    refine Pick.mk (Split.go rfl ?_)
    refine Bin.gtr (Split.mk (fun hn => ?_) (fun hn => ?_))
    · have hn' : 0 < n := by simpa using hn
      obtain ⟨ho1, ho2⟩ := hord hn' a hal
      rw [prec_false] at ho1
      simp only at ho1
      have hc1 : decide (a.2 < key) = false := by simp; omega
      refine Bin.lss ?_
      rw [hc1]
      refine Split.go rfl (Bin.eql (Split.mk (fun he => ?_) (fun he => ?_)))
      · have he' : a.2 = key := by simpa using he
        have hc2 : decide (a.1 ≤ x) = false := by
          simp only [decide_eq_false_iff_not, Int.not_le]
          have : a.1 ≠ x := fun e => ho2 (Prod.ext e he')
          omega
        refine Bin.leq ?_
        rw [hc2]
        refine Pick.mk (Pick.mk (Pick.mk (Pick.mk (Split.go rfl ?_))))
        refine hlen _ _ ?_
        exact Pick.mk (JE.mk hfin)
      · refine Pick.mk (Pick.mk (Pick.mk (Pick.mk ?_)))
        refine hlen _ _ ?_
        exact Pick.mk (JE.mk hfin)
    · refine Pick.mk (Pick.mk ?_)
      refine hlen _ _ ?_
      exact Pick.mk (JE.mk hfin)
  · have hnl : n = ps.length := by simp at hb; omega
    have hl0 : l = [] := List.length_eq_zero_iff.1 (by omega)
    refine CallF.at (.refl _) (popU hi (by omega) (C1 ++ (C2 ++ F))) ?_
    rintro e H' ⟨l', C', rfl, hi', ⟨_, rfl, rfl⟩ | ⟨a, hpa, hmin, rfl⟩⟩
    · refine ⟨_, .refl _, Ext.mk rfl (Ext.mk rfl (Ext.mk rfl ?_))⟩
      intro J hJ
      refine Bin.eql (Split.go rfl ?_)
      refine CallF.pure (lenU hi' (C1 ++ (C2 ++ F))) ?_
      rw [hl0]
      refine Bin.eql (Pick.mk (JE.mk (hJ _ _ fun gs => ⟨rfl, ?_⟩)))
      exact Ent.trans .right (.trans .right .right)
    · rw [hl0] at hpa; have := hpa.length_eq; simp at this
end Go.Proofs
