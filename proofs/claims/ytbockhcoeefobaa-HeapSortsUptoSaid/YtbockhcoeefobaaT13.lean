import Derived.Test.YtbockhcoeefobaaT12
set_option linter.unusedVariables false
set_option linter.unusedSimpArgs false
set_option maxRecDepth 100000
namespace Go.Proofs
open Go Go.Sx HpA
theorem CalmQ.perm {P : Program} {g : World} {f : FuncId} {args : Array Value} {H1 H2 : Hp} {v : Value} (p : H1.Perm H2) (h : CalmQ P g f args H1 v) : CalmQ P g f args H2 v :=
  (SCalls.pre h (.perm p.symm)).mono fun e H' ⟨h1, h2⟩ => ⟨h1, h2.trans (.perm p)⟩
def Both (h hr : Value) (l : List It) (ts : List Tg) (C Cr : Hp) : Prop := HI .i64 95 42 h l C ∧ RO 46 52 hr ts Cr ∧ Rel th l ts ∧ ∀ a ∈ l, -9223372036854775808 ≤ a.1 ∧ a.1 ≤ 9223372036854775807
theorem hi_once {kd : IntKind} {TI TH : TypeId} {h : Value} {l : List It} {C : Hp} (hi : HI kd TI TH h l C) : Once l := by obtain ⟨f, _, _, _, h1⟩ := hi; exact h1
theorem swapE {α : Type} {P : Program} {g : World} {f : FuncId} {args : Array Value} {H F : Hp} {R : Ending → α → Hp → Prop} (h : SCalls P g f args H (fun e H' => ∃ l' C', H' = C' ++ F ∧ R e l' C')) :
    SCalls P g f args H (fun e H' => ∃ C', H' = C' ++ F ∧ ∃ l', R e l' C') := h.mono fun e H' ⟨l', C', h1, h2⟩ => ⟨C', h1, l', h2⟩
theorem sameE {P : Program} {g : World} {f : FuncId} {args : Array Value} {H C F : Hp} {R : Ending → Prop} (h : SCalls P g f args H (fun e H' => H' = C ++ F ∧ R e)) :
    SCalls P g f args H (fun e H' => ∃ C', H' = C' ++ F ∧ (C' = C ∧ R e)) := h.mono fun e H' ⟨h1, h2⟩ => ⟨C, h1, rfl, h2⟩
theorem oneG {g : World} {h hr : Value} {l : List It} {ts : List Tg} {C Cr : Hp} (B : Both h hr l ts C Cr) (hmax : l.length < 4398046511104) {o : Opr} (hok : o.ok) (F : Hp) :
    SCalls Try.prog g 16 #[h, hr, .agg o.enc.toArray] (C ++ (Cr ++ F)) (fun e H' => e = .returned (.bool true) ∧ ∃ l' ts' C' Cr', H' = C' ++ (Cr' ++ F) ∧ Both h hr l' ts' C' Cr' ∧ l'.length ≤ l.length + 1) := by
  obtain ⟨hi, ho, hrel, hrng⟩ := B
  have htmax : ts.length < 4398046511104 := by rw [hrel.len]; exact hmax
  have hn := num_range hok
  refine (L16_sound (R := fun e H' => ∃ H1, Ent H' H1 ∧ e = .returned (.bool true) ∧ ∃ l' ts' C' Cr', H1 = C' ++ (Cr' ++ F) ∧ Both h hr l' ts' C' Cr' ∧ l'.length ≤ l.length + 1) ?_).post fun e H' h => h
  unfold L16
  intro b1 _
  refine LdA.whole (r := o.enc) (by exact List.Mem.head _) rfl ?_
  refine CallF.pure (numberG hok _) ?_
  intro J hJ
  have fin : ∀ l' ts' C' Cr', Both h hr l' ts' C' Cr' → l'.length ≤ l.length + 1 → J [] ((b1, .cells o.enc.toArray 48 (0, 0)) :: (C' ++ (Cr' ++ F))) := by
    rintro l' ts' C' Cr' B' hle
    have B0 := B'
    obtain ⟨hi', ho', hrel', _⟩ := B'
    refine hJ _ fun gs => ⟨_, .refl _, ?_⟩
    obtain ⟨b, v, Cs, he, rfl, hs⟩ := ho'
    subst he
    refine Nil.ptr (FAddr.mk (Ld.mk (List.mem_cons_of_mem _ (List.mem_append_right C' (List.Mem.head _))) rfl (hs.lenS ?_)))
    refine CallF.pure (CalmQ.perm List.perm_middle (lenN hi' ((b1, .cells o.enc.toArray 48 (0, 0)) :: _))) ?_
    refine ⟨.refl _, Bin.eql ?_⟩
    refine ⟨_, .tail, ?_, l', ts', C', _, rfl, B0, hle⟩
    rw [encGs_length, hrel'.len]; simp
  refine FAddr.mk (Ld.mk (v := .int .i64 o.kind) (by exact List.Mem.head _) rfl (Bin.eql ?_))
  refine Br.mk (fun _ => ?_) (fun _ => ?_)
  · refine ⟨[_], .left (A := [_]), ?_⟩
    refine FAddr.mk (Ld.mk (v := .int .i64 o.key) (by exact List.Mem.head _) rfl ?_)
    refine FAddr.mk (Ld.mk (v := .int .i64 o.key) (by exact List.Mem.head _) rfl ?_)
    have hc1 := fun F => swapE (pushN (g := g) hi hmax (num o) o.key F)
    refine CallF.at (.refl _) (atHeap hc1) ?_
    rintro e H' ⟨C', rfl, l', hi', hcase⟩
    have hret : ∃ z, e = .returned (.int .i64 z) := by rcases hcase with ⟨_, rfl, _⟩ | ⟨_, rfl, _⟩ <;> exact ⟨_, rfl⟩
    obtain ⟨z, rfl⟩ := hret
    refine ⟨_, .refl _, .left (A := [_]), ?_⟩
    refine CallF.pure (thingG (num o, o.key) hn _) ?_
    refine ⟨.left (A := [_]), ?_⟩
    have hc2 := fun F => swapE (refPush (g := g) ho (th (num o, o.key)) htmax F)
    refine CallF.at (.refl _) (atRef hc2) ?_
    rintro e H' ⟨Cr', rfl, ts', ho', hcase'⟩
    rcases hcase with ⟨hx, hz, rfl⟩ | ⟨hx, hz, hp⟩ <;> (simp only [Ending.returned.injEq, Value.int.injEq, true_and] at hz; subst hz) <;> rcases hcase' with ⟨⟨t, ht, hst⟩, rfl, rfl⟩ | ⟨hno, rfl, rfl⟩
    · refine ⟨_, .refl _, .left (A := [_]), Bin.neq (Br.no' rfl (JE.mk (fin l' ts' C' Cr' ⟨hi', ho', hrel, hrng⟩ (by omega))))⟩
    · obtain ⟨t, ht, hst⟩ := hrel.push_in (k := o.key) tau_th hx
      rw [hno t ht] at hst; cases hst
    · rw [hrel.push_out tau_th hx t ht] at hst; cases hst
    · refine ⟨_, .refl _, .left (A := [_]), Bin.neq (Br.no' rfl (JE.mk (fin l' _ C' Cr' ⟨hi', ho', hrel.pushed hp, fun a ha => ?_⟩ (by rw [hp.length_eq]; simp))))⟩
      rcases List.mem_cons.1 ((hp.mem_iff).1 ha) with rfl | ha
      · exact hn
      · exact hrng a ha
  refine Bin.eql (Br.mk (fun _ => ?_) (fun _ => ?_))
  · have hc1 := fun F => swapE (popN (g := g) hi hmax F)
    refine CallF.at (.refl _) (atHeap hc1) ?_
    rintro e H' ⟨C', rfl, l', hi', hcase⟩
    have hext : ∃ x y z, e = .returned (.tuple #[.int .i64 x, .int .i64 y, .int .i64 z]) := by
      rcases hcase with ⟨_, rfl, _⟩ | ⟨a, _, _, rfl⟩ <;> exact ⟨_, _, _, rfl⟩
    rcases hcase with ⟨hl, rfl, rfl⟩ | ⟨a, hp, hmin, rfl⟩
    · refine ⟨_, .refl _, Ext.mk rfl (Ext.mk rfl (Ext.mk rfl ?_))⟩
      have hc2 := fun F => swapE (refPop (g := g) ho htmax F)
      refine CallF.at (.refl _) (atRef hc2) ?_
      rintro e H' ⟨Cr', rfl, ts', ho', hcase'⟩
      rcases hcase' with ⟨htl, rfl, rfl⟩ | ⟨m, hm, hmm, rfl, rfl⟩
      · refine ⟨_, .refl _, Ext.mk rfl (Ext.mk rfl ?_)⟩
        intro b2 _
        refine St.whole (r := [.int .u64 0, .bool false, .int .i64 0]) (by exact Upd.head _) rfl rfl (by simp [Value.oneCell']) ?_
        refine Bin.neq (Grp.mk false (fun _ => Bin.neq (Grp.mk false (fun _ => Bin.neq (Grp.mk false (fun _ => Bin.neq ⟨rfl, rfl⟩) (fun h => absurd h (by decide)) fun gs => ⟨rfl, rfl⟩)) (fun h => absurd h (by decide)) fun gs => ⟨rfl, rfl⟩)) (fun h => absurd h (by decide)) fun gs => ?_)
        refine Grp.mk false (fun _ => Bin.eql (Grp.mk false (fun h => absurd h (by decide)) (fun _ => rfl) fun gs => ⟨rfl, rfl⟩)) (fun h => absurd h (by decide)) fun gs => ?_
        exact Br.no (JE.of .tail (fin l' ts' C' Cr' ⟨hi', ho', hrel, hrng⟩ (by omega)))
      · have := hrel.len
        rw [hl] at this; simp at this; rw [this] at hm; simp at hm
    · refine ⟨_, .refl _, Ext.mk rfl (Ext.mk rfl (Ext.mk rfl ?_))⟩
      have hc2 := fun F => swapE (refPop (g := g) ho htmax F)
      refine CallF.at (.refl _) (atRef hc2) ?_
      rintro e H' ⟨Cr', rfl, ts', ho', hcase'⟩
      rcases hcase' with ⟨htl, rfl, rfl⟩ | ⟨m, hm, hmm, rfl, rfl⟩
      · have := hrel.len
        rw [htl, hp.length_eq] at this; simp at this
      · obtain ⟨hta, hrel'⟩ := hrel.popped tau_th hp hmin hm hmm
        rw [hta]
        have hra := hrng a ((hp.mem_iff).2 (by simp))
        refine ⟨_, .refl _, Ext.mk rfl (Ext.mk rfl ?_)⟩
        intro b2 _
        refine St.whole (r := encG (th a)) (by exact Upd.head _) rfl rfl (by simp [encG, Value.oneCell']) ?_
        refine Bin.neq (Grp.mk false (fun _ => Bin.neq (Grp.mk false (fun h => absurd h (by decide)) (fun _ => rfl) fun gs => ⟨rfl, rfl⟩)) (fun h => absurd h (by decide)) fun gs => ?_)
        refine Grp.mk false (fun _ => Bin.eql (Grp.mk false (fun _ => ?_) (fun h => absurd h (by decide)) fun gs => ⟨rfl, rfl⟩)) (fun h => absurd h (by decide)) fun gs => ?_
        · refine CallQ.by (thingG a hra _) (LdA.whole (r := encG (th a)) (by exact List.Mem.head _) rfl ?_)
          refine neqG (th a) (th a) rfl rfl ⟨rfl, by simp⟩
        · exact Br.no (JE.of .tail (fin l' _ C' Cr' ⟨hi', ho', hrel', fun b hb => hrng b ((hp.mem_iff).2 (by simp [hb]))⟩ (by have := hp.length_eq; simp at this; omega)))
  refine Bin.eql (Br.mk (fun _ => ?_) (fun _ => ?_))
  · refine ⟨[_], .left (A := [_]), ?_⟩
    refine FAddr.mk (Ld.mk (v := .int .i64 o.key) (by exact List.Mem.head _) rfl ?_)
    refine FAddr.mk (Ld.mk (v := .int .i64 o.key) (by exact List.Mem.head _) rfl ?_)
    have hc1 := fun F => swapE (moveN (g := g) hi hmax (num o) o.key F)
    refine CallF.at (.refl _) (atHeap hc1) ?_
    rintro e H' ⟨C', rfl, l', hi', hcase⟩
    have hret : ∃ z, e = .returned (.int .i64 z) := by rcases hcase with ⟨_, rfl, _⟩ | ⟨_, _, _, _, rfl⟩ <;> exact ⟨_, rfl⟩
    obtain ⟨z, rfl⟩ := hret
    refine ⟨_, .refl _, .left (A := [_]), ?_⟩
    refine CallF.pure (thingG (num o, o.key) hn _) ?_
    refine ⟨.left (A := [_]), ?_⟩
    have hc2 := fun F => swapE (refMove (g := g) ho (th (num o, o.key)) htmax F)
    refine CallF.at (.refl _) (atRef hc2) ?_
    rintro e H' ⟨Cr', rfl, ts', ho', hcase'⟩
    rcases hcase with ⟨hx, hz, rfl⟩ | ⟨k0, r, hp, hp', hz⟩ <;> (simp only [Ending.returned.injEq, Value.int.injEq, true_and] at hz; subst hz) <;> rcases hcase' with ⟨hno, rfl, rfl⟩ | ⟨i, hi2, hsm, rfl, rfl⟩
    · refine ⟨_, .refl _, .left (A := [_]), Bin.neq (Br.no' rfl (JE.mk (fin l' ts' C' Cr' ⟨hi', ho', hrel, hrng⟩ (by omega))))⟩
    · rw [hrel.push_out tau_th hx _ (List.getElem_mem hi2)] at hsm; cases hsm
    · exact absurd (List.mem_map.2 ⟨_, (hp.mem_iff).2 (List.mem_cons_self), rfl⟩) (hrel.not_in tau_th hno)
    · have hkey : (th (num o, o.key)).2.2 = o.key := tau_th.key _
      rw [hkey] at ho'
      obtain ⟨_, hrel'⟩ := hrel.moved tau_th (hi_once hi) hp hp' hi2 hsm
      refine ⟨_, .refl _, .left (A := [_]), Bin.neq (Br.no' rfl (JE.mk (fin l' _ C' Cr' ⟨hi', ho', hrel', fun b hb => ?_⟩ (by rw [hp'.length_eq, hp.length_eq]; simp))))⟩
      rcases List.mem_cons.1 ((hp'.mem_iff).1 hb) with rfl | hb
      · exact hn
      · exact hrng b ((hp.mem_iff).2 (by simp [hb]))
  refine Bin.eql (Br.mk (fun _ => ?_) (fun _ => ?_))
  · have hc1 := fun F => sameE (keyN (g := g) hi (num o) F)
    refine CallF.at (.refl _) (atHeap hc1) ?_
    rintro e H' ⟨C1, rfl, hC1, hcase⟩
    rw [hC1]
    have hret : ∃ y z, e = .returned (.tuple #[.int .i64 y, .int .i64 z]) := by rcases hcase with ⟨_, rfl⟩ | ⟨_, _, rfl⟩ <;> exact ⟨_, _, rfl⟩
    obtain ⟨y, z, rfl⟩ := hret
    refine ⟨_, .refl _, Ext.mk rfl (Ext.mk rfl ?_)⟩
    refine CallF.pure (thingG (num o, 0) hn _) ?_
    have hc2 := fun F => sameE (refKey (g := g) ho (th (num o, 0)) htmax F)
    refine CallF.at (.refl _) (atRef hc2) ?_
    rintro e H' ⟨C2, rfl, hC2, hcase'⟩
    rw [hC2]
    have hfin : J [] ((b1, .cells o.enc.toArray 48 (0, 0)) :: (C ++ (Cr ++ F))) := fin l ts C Cr ⟨hi, ho, hrel, hrng⟩ (by omega)
    rcases hcase with ⟨hx, hz⟩ | ⟨k0, hk0, hz⟩ <;> (simp only [Ending.returned.injEq, Value.tuple.injEq, Array.mk.injEq, List.cons.injEq, Value.int.injEq, true_and, and_true] at hz; obtain ⟨rfl, rfl⟩ := hz) <;> rcases hcase' with ⟨hno, rfl⟩ | ⟨i, hi2, hsm, rfl⟩
    · exact ⟨_, .refl _, Ext.mk rfl (Ext.mk rfl (Bin.neq (Grp.mk false (fun _ => Bin.neq ⟨rfl, rfl⟩) (fun h => absurd h (by decide)) fun gs => Br.no (JE.mk hfin))))⟩
    · rw [hrel.push_out tau_th hx _ (List.getElem_mem hi2)] at hsm; cases hsm
    · exact absurd (List.mem_map.2 ⟨_, hk0, rfl⟩) (hrel.not_in tau_th hno)
    · rw [hrel.told tau_th (hi_once hi) hk0 hi2 hsm]
      exact ⟨_, .refl _, Ext.mk rfl (Ext.mk rfl (Bin.neq (Grp.mk false (fun _ => Bin.neq ⟨rfl, by simp⟩) (fun h => by simp at h) fun gs => Br.no (JE.mk hfin))))⟩
  · exact JE.mk (fin l ts C Cr ⟨hi, ho, hrel, hrng⟩ (by omega))
end Go.Proofs
