import Derived.Test.YtbockhcoeefobaaT13
set_option linter.unusedVariables false
set_option linter.unusedSimpArgs false
set_option maxRecDepth 100000
namespace Go.Proofs
open Go Go.Sx HpA
/-- a slice of calls, as it stands on the heap -/
def OpsIn (H : Hp) (v : Value) (os : List Opr) : Prop := ∃ a cap, v = .slice a os.length cap ∧ ∀ i, (h : i < os.length) → ∃ b o c T fz, a = some ⟨b, o, none⟩ ∧ (b, Obj.cells c T fz) ∈ H ∧ o + i * 4 + 4 ≤ c.size ∧ c.extract (o + i * 4) (o + i * 4 + 4) = os[i].enc.toArray
theorem OpsIn.mono {H H' : Hp} {v : Value} {os : List Opr} (h : OpsIn H v os) (hs : ∀ x ∈ H, x ∈ H') : OpsIn H' v os := by
  obtain ⟨a, cap, h1, h2⟩ := h
  exact ⟨a, cap, h1, fun i hi => let ⟨b, o, c, T, fz, h3, h4, h5⟩ := h2 i hi; ⟨b, o, c, T, fz, h3, hs _ h4, h5⟩⟩
theorem OpsIn.len {H : Hp} {v : Value} {os : List Opr} (h : OpsIn H v os) {K : Value → Prop} (hk : K (.int .i64 os.length)) : LenS v K := by
  obtain ⟨a, cap, rfl, h2⟩ := h
  exact LenS.mk hk
theorem OpsIn.at {H : Hp} {v : Value} {os : List Opr} (h : OpsIn H v os) {i : Nat} (hi : i < os.length) {K : Value → Prop} (hk : K (.agg os[i].enc.toArray)) :
    IAddr 4 v (.int .i64 (i : Int)) fun p => LdA 4 H p K := by
  obtain ⟨a, cap, rfl, h2⟩ := h
  obtain ⟨b, o, c, T, fz, rfl, h3, h4, h5⟩ := h2 i hi
  exact IAddr.nat hi (LdA.mk h3 h4 h5 hk)
theorem newBoth {h hr : Value} {b : Nat} {C : Hp} (hi : HI .i64 95 42 h [] C) : Both h (.pointer (some ⟨b, 0, none⟩)) [] [] C [(b, .cells #[.slice none 0 0] 46 (0, 0))] :=
  ⟨hi, ⟨b, _, [], rfl, rfl, SOwn.nil _ _⟩, List.Perm.refl _, fun a ha => by simp at ha⟩
theorem law4 {g : World} (z : Bool) {v : Value} {os : List Opr} {F : Hp} (hv : OpsIn F v os) (hok : ∀ o ∈ os, o.ok) (hmax : os.length < 4398046511104) : CalmQ Try.prog g 4 #[.bool z, v] F (.bool true) := by
  refine L4_sound ?_
  unfold L4
  refine CallF.pure (awake F) ?_
  refine Un.not (Br.no ?_)
  refine CallF.at (.refl _) (newN F) ?_
  rintro e H' ⟨b, C, rfl, rfl, hi⟩
  refine ⟨_, .refl _, ?_⟩
  intro J hJ
  have main : ∀ b' C', HI .i64 95 42 (.pointer (some ⟨b', 0, none⟩)) [] C' → J [.pointer (some ⟨b', 0, none⟩)] (C' ++ F) := by
    intro b' C' hi'
    refine hJ _ _ fun gs => ?_
    refine Bin.ptrNil (Br.no ?_)
    refine Build.mk (cs := [.slice none 0 0]) (by kernel_rfl) ?_
    intro br _
    refine hv.len ?_
    refine ⟨fun vs H1 => ∃ (i : Nat) (l : List It) (ts : List Tg) (C Cr : Hp), vs = [.int .i64 i] ∧ H1 = C ++ (Cr ++ F) ∧ Both (.pointer (some ⟨b', 0, none⟩)) (.pointer (some ⟨br, 0, none⟩)) l ts C Cr ∧ i ≤ os.length ∧ l.length ≤ i,
      fun vs _ => match vs with | [.int _ i] => os.length - i.toNat | _ => 0, .of (Ent.perm ?_) ⟨0, [], [], C', [_], rfl, rfl, newBoth (hr := .pointer none) hi', by omega, by simp⟩, ?_⟩
    · exact List.perm_middle.symm
    rintro w H1 ⟨i, l, ts, C, Cr, hw, rfl, B, hi, hl⟩ gs
    obtain rfl : w = .int .i64 i := by simpa using hw
    refine Bin.lss (Br.mk (fun h1 => ?_) (fun h1 => ?_))
    · have hil : i < os.length := by simpa using h1
      refine (hv.mono (fun x hx => by simp [hx])).at hil ?_
      intro b1 _
      refine St.whole (r := os[i].enc) (by exact Upd.head _) rfl rfl (by simp [Opr.enc, Value.oneCell']) ?_
      refine LdA.whole (r := os[i].enc) (by exact List.Mem.head _) rfl ?_
      refine CallF.at .tail (oneG B (by omega) (hok _ (List.getElem_mem hil)) F) ?_
      rintro e H' ⟨rfl, l', ts', C', Cr', rfl, B', hl'⟩
      refine ⟨_, .refl _, Un.not (Br.no ?_)⟩
      refine Bin.add64 (c := ((i + 1 : Nat) : Int)) (by simp) (by omega) ?_
      exact .mk ⟨i + 1, l', ts', C', Cr', rfl, rfl, B', by omega, by omega⟩ (by simp only [Int.toNat_natCast]; omega)
    · exact ⟨rfl, .trans .right .right⟩
  refine Br.mk (fun _ => ?_) (fun _ => ?_)
  · refine Build.mk (cs := [.slice none 0 0, .map none]) (by kernel_rfl) ?_
    intro b2 _
    refine JE.of (H' := [(b2, Obj.cells #[.slice none 0 0, .map none] 42 (0, 0))] ++ F) ?_ (main b2 _ ⟨fun _ => none, ⟨b2, _, _, [], [], rfl, rfl, SOwn.nil _ _, .inl ⟨rfl, rfl, rfl⟩, fun _ => rfl⟩, ⟨fun j hj => by simp at hj, fun _ _ => rfl⟩, fun j _ hj => by simp at hj, by simp [Once]⟩)
    exact (Ent.perm List.perm_middle.symm).trans .right
  · exact JE.mk (main b C hi)
theorem perm4 (A B C D F : Hp) : (A ++ (B ++ (C ++ (D ++ F)))).Perm (C ++ (D ++ (A ++ (B ++ F)))) := by
  simpa [List.append_assoc] using (List.perm_append_comm (l₁ := A ++ B) (l₂ := C ++ D)).append_right F
theorem perm03 {α : Type} (a b c d e : α) : [a, b, c, d, e].Perm [d, b, c, a, e] :=
  (List.Perm.swap _ _ _).trans ((List.Perm.cons _ (.swap _ _ _)).trans ((List.Perm.cons _ (.cons _ (.swap _ _ _))).trans ((List.Perm.cons _ (.swap _ _ _)).trans (.swap _ _ _))))
theorem law6 {g : World} {v1 v2 : Value} {os1 os2 : List Opr} {F : Hp} (hv1 : OpsIn F v1 os1) (hv2 : OpsIn F v2 os2) (hok1 : ∀ o ∈ os1, o.ok) (hok2 : ∀ o ∈ os2, o.ok) (hmax1 : os1.length < 4398046511104) (hmax2 : os2.length < 4398046511104) :
    CalmQ Try.prog g 6 #[v1, v2] F (.bool true) := by
  refine L6_sound ?_
  unfold L6
  refine CallF.pure (awake F) ?_
  refine Un.not (Br.no ?_)
  refine CallF.at (.refl _) (newN F) ?_
  rintro e H' ⟨b, C0, rfl, rfl, hi1⟩
  refine ⟨_, .refl _, ?_⟩
  refine CallF.at (.refl _) (newN (C0 ++ F)) ?_
  rintro e H' ⟨b', C0', rfl, rfl, hi2⟩
  refine ⟨_, .refl _, ?_⟩
  refine Build.mk (cs := [.slice none 0 0]) (by kernel_rfl) ?_
  intro br1 _
  refine Build.mk (cs := [.slice none 0 0]) (by kernel_rfl) ?_
  intro br2 _
  refine Bin.ptrNil (Grp.mk false (fun _ => Bin.ptrNil ⟨rfl, rfl⟩) (fun h => absurd h (by decide)) fun gs => ?_)
  refine Br.no ?_
  refine ⟨fun vs H1 => ∃ (i : Nat) (l1 l2 : List It) (ts1 ts2 : List Tg) (C1 Cr1 C2 Cr2 : Hp), vs = [.int .i64 i] ∧ H1 = C1 ++ (Cr1 ++ (C2 ++ (Cr2 ++ F))) ∧ Both (.pointer (some ⟨b, 0, none⟩)) (.pointer (some ⟨br1, 0, none⟩)) l1 ts1 C1 Cr1 ∧
      Both (.pointer (some ⟨b', 0, none⟩)) (.pointer (some ⟨br2, 0, none⟩)) l2 ts2 C2 Cr2 ∧ (i ≤ os1.length ∨ i ≤ os2.length) ∧ l1.length ≤ i ∧ l2.length ≤ i,
    fun vs _ => match vs with | [.int _ i] => max os1.length os2.length - i.toNat | _ => 0, .of (H' := C0 ++ ([(br1, .cells #[.slice none 0 0] 46 (0, 0))] ++ (C0' ++ ([(br2, .cells #[.slice none 0 0] 46 (0, 0))] ++ F)))) (Ent.segs [[_], [_], C0', C0, F] [C0, [_], C0', [_], F] (perm03 _ _ _ _ _)) ⟨0, [], [], [], [], C0, [_], C0', [_], rfl, rfl, newBoth (hr := .pointer none) hi1, newBoth (hr := .pointer none) hi2, by omega, by simp, by simp⟩, ?_⟩
  rintro w H1 ⟨i, l1, l2, ts1, ts2, C1, Cr1, C2, Cr2, hw, rfl, B1, B2, hi, hl1, hl2⟩ gs
  obtain rfl : w = .int .i64 i := by simpa using hw
  have hF : ∀ x ∈ F, x ∈ C1 ++ (Cr1 ++ (C2 ++ (Cr2 ++ F))) := fun x hx => by simp [hx]
  refine hv1.len (Bin.lss ?_)
  refine Grp.mk (decide (i < os1.length) || decide (i < os2.length)) (fun h => hv2.len (Bin.lss ⟨rfl, ?_⟩)) (fun h => ?_) fun gs => ?_
  · have : decide (i < os1.length) = false := by simpa using h
    rw [this]; simp
  · have : decide (i < os1.length) = true := by simpa using h
    rw [this]; simp
  refine Br.mk (fun h0 => ?_) (fun h0 => ⟨rfl, .trans .right (.trans .right (.trans .right .right))⟩)
  have h0' : i < os1.length ∨ i < os2.length := by simpa using h0
  intro J hJ
  have fin : ∀ l1' l2' ts1' ts2' C1' Cr1' C2' Cr2', Both (.pointer (some ⟨b, 0, none⟩)) (.pointer (some ⟨br1, 0, none⟩)) l1' ts1' C1' Cr1' → Both (.pointer (some ⟨b', 0, none⟩)) (.pointer (some ⟨br2, 0, none⟩)) l2' ts2' C2' Cr2' → l1'.length ≤ i + 1 → l2'.length ≤ i + 1 →
      J [.bool false] (C1' ++ (Cr1' ++ (C2' ++ (Cr2' ++ F)))) := by
    intro l1' l2' ts1' ts2' C1' Cr1' C2' Cr2' B1' B2' h1 h2
    refine hJ _ _ fun gs => Br.no ?_
    refine Bin.add64 (c := ((i + 1 : Nat) : Int)) (by simp) (by omega) ?_
    exact .mk ⟨i + 1, l1', l2', ts1', ts2', C1', Cr1', C2', Cr2', rfl, rfl, B1', B2', by omega, h1, h2⟩ (by simp only [Int.toNat_natCast]; omega)
  have hsec : ∀ (l1' : List It) (ts1' : List Tg) (C1' Cr1' : Hp), Both (.pointer (some ⟨b, 0, none⟩)) (.pointer (some ⟨br1, 0, none⟩)) l1' ts1' C1' Cr1' → l1'.length ≤ i + 1 → (h2 : i < os2.length) → ∀ K : Value → Hp → Prop, ∀ KP,
      (∀ H', J [.bool false] H' → K (.bool true) H') → CallF Try.prog g 16 #[.pointer (some ⟨b', 0, none⟩), .pointer (some ⟨br2, 0, none⟩), .agg os2[i].enc.toArray] (C1' ++ (Cr1' ++ (C2 ++ (Cr2 ++ F)))) K KP := by
    intro l1' ts1' C1' Cr1' B1' hl1' h2 K KP hK
    refine CallF.at (.perm (perm4 C1' Cr1' C2 Cr2 F)) (oneG B2 (by omega) (hok2 _ (List.getElem_mem h2)) (C1' ++ (Cr1' ++ F))) ?_
    rintro e H' ⟨rfl, l', ts', C', Cr', rfl, B', hl'⟩
    exact ⟨_, .perm (perm4 C' Cr' C1' Cr1' F), hK _ (fin l1' l' ts1' ts' C1' Cr1' C' Cr' B1' B' hl1' (by omega))⟩
  refine hv1.len (Bin.lss ?_)
  refine Split.mk (fun h1 => ?_) (fun h1 => ?_)
  · have h1' : i < os1.length := by simpa using h1
    refine (hv1.mono hF).at h1' ?_
    refine CallF.at (.refl _) (oneG B1 (by omega) (hok1 _ (List.getElem_mem h1')) (C2 ++ (Cr2 ++ F))) ?_
    rintro e H' ⟨rfl, l', ts', C', Cr', rfl, B', hl'⟩
    refine ⟨_, .refl _, Un.not (Pick.mk ?_)⟩
    refine Split.go rfl ?_
    refine hv2.len (Bin.lss ?_)
    refine Split.mk (fun h2 => ?_) (fun h2 => ?_)
    · have h2' : i < os2.length := by simpa using h2
      refine (hv2.mono (fun x hx => by simp [hx])).at h2' ?_
      refine hsec l' ts' C' Cr' B' (by omega) h2' _ _ fun H' hj => ?_
      exact Un.not (Pick.mk (Pick.mk (JE.mk hj)))
    · exact Pick.mk (Pick.mk (JE.mk (fin l' l2 ts' ts2 C' Cr' C2 Cr2 B' B2 (by omega) (by omega))))
  · have h1' : ¬ i < os1.length := by simpa using h1
    refine Pick.mk (hv2.len (Bin.lss ?_))
    have h2' : i < os2.length := by omega
    refine Split.go (by simpa using h2') ?_
    refine (hv2.mono hF).at h2' ?_
    refine hsec l1 ts1 C1 Cr1 B1 (by omega) h2' _ _ fun H' hj => ?_
    exact Un.not (Pick.mk (Pick.mk (JE.mk hj)))
end Go.Proofs
