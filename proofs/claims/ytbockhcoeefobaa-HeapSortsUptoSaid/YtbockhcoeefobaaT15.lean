import Derived.Test.YtbockhcoeefobaaT14
set_option linter.unusedVariables false
set_option linter.unusedSimpArgs false
set_option maxRecDepth 100000
namespace Go.Proofs
open Go Go.Sx HpA
theorem permX (X C R : Hp) : (X ++ (C ++ R)).Perm (C ++ (X ++ R)) := by
  rw [← List.append_assoc, ← List.append_assoc]; exact List.perm_append_comm.append_right R
theorem atHeapX {P : Program} {g : World} {f : FuncId} {args : Array Value} (X : Hp) {C Cr F : Hp} {Q : Ending → Hp → Prop} (h : ∀ F, SCalls P g f args (C ++ F) (fun e H' => ∃ C', H' = C' ++ F ∧ Q e C')) :
    SCalls P g f args (X ++ (C ++ (Cr ++ F))) (fun e H' => ∃ C', H' = X ++ (C' ++ (Cr ++ F)) ∧ Q e C') :=
  ((h (X ++ (Cr ++ F))).pre (.perm (permX X C _))).post fun e H' ⟨C', e', q⟩ => ⟨_, .perm (by rw [e']; exact (permX X C' _).symm), C', rfl, q⟩
theorem atRefX {P : Program} {g : World} {f : FuncId} {args : Array Value} (X : Hp) {C Cr F : Hp} {Q : Ending → Hp → Prop} (h : ∀ F, SCalls P g f args (Cr ++ F) (fun e H' => ∃ C', H' = C' ++ F ∧ Q e C')) :
    SCalls P g f args (X ++ (C ++ (Cr ++ F))) (fun e H' => ∃ C', H' = X ++ (C ++ (C' ++ F)) ∧ Q e C') := by
  have hp : ∀ A : Hp, (X ++ (C ++ (A ++ F))).Perm (A ++ (X ++ (C ++ F))) := fun A => by
    refine (List.Perm.append_left X (permX C A F)).trans (permX X A _)
  exact ((h (X ++ (C ++ F))).pre (.perm (hp Cr))).post fun e H' ⟨C', e', q⟩ => ⟨_, .perm (by rw [e']; exact (hp C').symm), C', rfl, q⟩
def BothW (h hr : Value) (l : List It) (ts : List Tg) (C Cr : Hp) : Prop := HI .u64 75 71 h l C ∧ RO 46 52 hr ts Cr ∧ Rel tw l ts
theorem law5 {g : World} {v : Value} {os : List Opr} {F : Hp} (hv : OpsIn F v os) (hok : ∀ o ∈ os, o.ok) (hmax : os.length < 4398046511104) : CalmQ Try.prog g 5 #[v] F (.bool true) := by
  refine L5_sound ?_
  unfold L5
  refine CallF.at (.refl _) (newU F) ?_
  rintro e H' ⟨b, C0, rfl, rfl, hi0⟩
  refine ⟨_, .refl _, ?_⟩
  refine CallF.pure (awake (C0 ++ F)) ?_
  refine Un.not (Grp.mk false (fun _ => Bin.ptrNil ⟨rfl, rfl⟩) (fun h => absurd h (by decide)) fun gs => ?_)
  refine Br.no ?_
  refine Build.mk (cs := [.slice none 0 0]) (by kernel_rfl) ?_
  intro br _
  refine hv.len ?_
  refine ⟨fun vs H1 => ∃ (i : Nat) (l : List It) (ts : List Tg) (C Cr : Hp), vs = [.int .i64 i] ∧ H1 = C ++ (Cr ++ F) ∧ BothW (.pointer (some ⟨b, 0, none⟩)) (.pointer (some ⟨br, 0, none⟩)) l ts C Cr ∧ i ≤ os.length ∧ l.length ≤ i,
    fun vs _ => match vs with | [.int _ i] => os.length - i.toNat | _ => 0, .of (H' := C0 ++ ([(br, .cells #[.slice none 0 0] 46 (0, 0))] ++ F)) (Ent.perm List.perm_middle.symm) ⟨0, [], [], C0, [_], rfl, rfl, ⟨hi0, ⟨br, _, [], rfl, rfl, SOwn.nil _ _⟩, List.Perm.refl _⟩, by omega, by simp⟩, ?_⟩
  rintro w H1 ⟨i, l, ts, C, Cr, hw, rfl, ⟨hi, ho, hrel⟩, hio, hl⟩ gs
  obtain rfl : w = .int .i64 i := by simpa using hw
  refine Bin.lss (Br.mk (fun h1 => ?_) (fun h1 => ⟨rfl, .trans .right .right⟩))
  have hil : i < os.length := by simpa using h1
  have hlm : l.length < 4398046511104 := by omega
  have htmax : ts.length < 4398046511104 := by rw [hrel.len]; omega
  refine (hv.mono (fun x hx => by simp [hx])).at hil ?_
  generalize os[i] = o
  intro b1 _
  refine St.whole (r := o.enc) (by exact Upd.head _) rfl rfl (by simp [Opr.enc, Value.oneCell']) ?_
  refine FAddr.mk (Ld.mk (v := .int .u64 o.x) (by exact List.Mem.head _) rfl ?_)
  refine FAddr.mk (Ld.mk (v := .int .i64 o.key) (by exact List.Mem.head _) rfl ?_)
  refine Build.mk (cs := encG (tw (o.x, o.key))) (by kernel_rfl) ?_
  intro b2 _
  refine St.whole (r := encG (tw (o.x, o.key))) (by exact Upd.head _) rfl rfl (by simp [encG, Value.oneCell']) ?_
  intro J hJ
  have fin : ∀ l' ts' C' Cr', BothW (.pointer (some ⟨b, 0, none⟩)) (.pointer (some ⟨br, 0, none⟩)) l' ts' C' Cr' → l'.length ≤ i + 1 → J [] ([(b2, .cells (encG (tw (o.x, o.key))).toArray 52 (0, 0)), (b1, .cells o.enc.toArray 48 (0, 0))] ++ (C' ++ (Cr' ++ F))) := by
    rintro l' ts' C' Cr' B' hle
    have B0 := B'
    obtain ⟨hi', ho', hrel'⟩ := B'
    refine hJ _ fun gs => ⟨_, .refl _, ?_⟩
    obtain ⟨b', v', Cs, he, rfl, hs⟩ := ho'
    simp only [Value.pointer.injEq, Option.some.injEq, Addr.mk.injEq, and_true] at he
    subst he
    refine Nil.ptr (FAddr.mk (Ld.mk (List.mem_append_right _ (List.mem_append_right C' (List.Mem.head _))) rfl (hs.lenS ?_)))
    refine CallF.pure (CalmQ.perm (permX C' [_, _] _) (lenU hi' ([(b2, .cells (encG (tw (o.x, o.key))).toArray 52 (0, 0)), (b1, .cells o.enc.toArray 48 (0, 0))] ++ _))) ?_
    refine ⟨.refl _, Bin.neq (Br.no' (by rw [encGs_length, hrel'.len]; simp) ?_)⟩
    refine Bin.add64 (c := ((i + 1 : Nat) : Int)) (by simp) (by omega) ?_
    exact .of (.right (A := [_, _])) ⟨i + 1, l', ts', C', _, rfl, rfl, B0, by omega, hle⟩ (by simp only [Int.toNat_natCast]; omega)
  refine FAddr.mk (Ld.mk (v := .int .i64 o.kind) (by exact List.Mem.tail _ (List.Mem.head _)) rfl (Bin.eql ?_))
  refine Br.mk (fun _ => ?_) (fun _ => ?_)
  · refine ⟨[_, _], .left (A := [_, _]), ?_⟩
    refine FAddr.mk (Ld.mk (v := .int .u64 o.x) (by exact List.Mem.tail _ (List.Mem.head _)) rfl ?_)
    refine FAddr.mk (Ld.mk (v := .int .i64 o.key) (by exact List.Mem.tail _ (List.Mem.head _)) rfl ?_)
    refine LdA.whole (r := encG (tw (o.x, o.key))) (by exact List.Mem.head _) rfl ?_
    have hc1 := fun F => swapE (pushU (g := g) hi hlm o.x o.key F)
    refine CallF.at (.refl _) (atHeapX [_, _] hc1) ?_
    rintro e H' ⟨C', rfl, l', hi', hcase⟩
    have hret : ∃ z, e = .returned (.int .i64 z) := by rcases hcase with ⟨_, rfl, _⟩ | ⟨_, rfl, _⟩ <;> exact ⟨_, rfl⟩
    obtain ⟨z, rfl⟩ := hret
    refine ⟨_, .refl _, .left (A := [_, _]), ?_⟩
    have hc2 := fun F => swapE (refPush (g := g) ho (tw (o.x, o.key)) htmax F)
    refine CallF.at (.refl _) (atRefX [_, _] hc2) ?_
    rintro e H' ⟨Cr', rfl, ts', ho', hcase'⟩
    rcases hcase with ⟨hx, hz, rfl⟩ | ⟨hx, hz, hp⟩ <;> (simp only [Ending.returned.injEq, Value.int.injEq, true_and] at hz; subst hz) <;> rcases hcase' with ⟨⟨t, ht, hst⟩, rfl, rfl⟩ | ⟨hno, rfl, rfl⟩
    · refine ⟨_, .refl _, .left (A := [_, _]), Bin.neq (Br.no' rfl (JE.mk (fin l' ts' C' Cr' ⟨hi', ho', hrel⟩ (by omega))))⟩
    · obtain ⟨t, ht, hst⟩ := hrel.push_in (k := o.key) tau_tw hx
      rw [hno t ht] at hst; cases hst
    · rw [hrel.push_out tau_tw hx t ht] at hst; cases hst
    · exact ⟨_, .refl _, .left (A := [_, _]), Bin.neq (Br.no' rfl (JE.mk (fin l' _ C' Cr' ⟨hi', ho', hrel.pushed hp⟩ (by rw [hp.length_eq]; simp; omega))))⟩
  refine Bin.eql (Br.mk (fun _ => ?_) (fun _ => ?_))
  · have hc1 := fun F => swapE (popU (g := g) hi hlm F)
    refine CallF.at (.refl _) (atHeapX [_, _] hc1) ?_
    rintro e H' ⟨C', rfl, l', hi', hcase⟩
    rcases hcase with ⟨hl0, rfl, rfl⟩ | ⟨a, hp, hmin, rfl⟩
    · refine ⟨_, .refl _, Ext.mk rfl (Ext.mk rfl (Ext.mk rfl ?_))⟩
      have hc2 := fun F => swapE (refPop (g := g) ho htmax F)
      refine CallF.at (.refl _) (atRefX [_, _] hc2) ?_
      rintro e H' ⟨Cr', rfl, ts', ho', hcase'⟩
      rcases hcase' with ⟨htl, rfl, rfl⟩ | ⟨m, hm, hmm, rfl, rfl⟩
      · refine ⟨_, .refl _, Ext.mk rfl (Ext.mk rfl ?_)⟩
        intro b3 _
        refine St.whole (r := [.int .u64 0, .bool false, .int .i64 0]) (by exact Upd.head _) rfl rfl (by simp [Value.oneCell']) ?_
        refine Bin.neq (Grp.mk false (fun _ => FAddr.mk (Ld.mk (v := .int .u64 0) (by exact List.Mem.head _) rfl (Bin.neq ⟨rfl, rfl⟩))) (fun h => absurd h (by decide)) fun gs => ?_)
        refine Grp.mk false (fun _ => FAddr.mk (Ld.mk (v := .int .i64 0) (by exact List.Mem.head _) rfl (Bin.neq ⟨rfl, rfl⟩))) (fun h => absurd h (by decide)) fun gs => ?_
        exact Br.no (JE.of .tail (fin l' ts' C' Cr' ⟨hi', ho', hrel⟩ (by omega)))
      · have := hrel.len
        rw [hl0] at this; simp at this; rw [this] at hm; simp at hm
    · refine ⟨_, .refl _, Ext.mk rfl (Ext.mk rfl (Ext.mk rfl ?_))⟩
      have hc2 := fun F => swapE (refPop (g := g) ho htmax F)
      refine CallF.at (.refl _) (atRefX [_, _] hc2) ?_
      rintro e H' ⟨Cr', rfl, ts', ho', hcase'⟩
      rcases hcase' with ⟨htl, rfl, rfl⟩ | ⟨m, hm, hmm, rfl, rfl⟩
      · have := hrel.len
        rw [htl, hp.length_eq] at this; simp at this
      · obtain ⟨hta, hrel'⟩ := hrel.popped tau_tw hp hmin hm hmm
        rw [hta]
        refine ⟨_, .refl _, Ext.mk rfl (Ext.mk rfl ?_)⟩
        intro b3 _
        refine St.whole (r := encG (tw a)) (by exact Upd.head _) rfl rfl (by simp [encG, Value.oneCell']) ?_
        refine Bin.neq (Grp.mk false (fun _ => FAddr.mk (Ld.mk (v := .int .u64 a.1) (by exact List.Mem.head _) rfl (Bin.neq ⟨rfl, by simp⟩))) (fun h => absurd h (by decide)) fun gs => ?_)
        refine Grp.mk false (fun _ => FAddr.mk (Ld.mk (v := .int .i64 a.2) (by exact List.Mem.head _) rfl (Bin.neq ⟨rfl, by simp⟩))) (fun h => absurd h (by decide)) fun gs => ?_
        exact Br.no (JE.of .tail (fin l' _ C' Cr' ⟨hi', ho', hrel'⟩ (by have := hp.length_eq; simp at this; omega)))
  refine Bin.eql (Br.mk (fun _ => ?_) (fun _ => ?_))
  · refine ⟨[_, _], .left (A := [_, _]), ?_⟩
    refine FAddr.mk (Ld.mk (v := .int .u64 o.x) (by exact List.Mem.tail _ (List.Mem.head _)) rfl ?_)
    refine FAddr.mk (Ld.mk (v := .int .i64 o.key) (by exact List.Mem.tail _ (List.Mem.head _)) rfl ?_)
    refine LdA.whole (r := encG (tw (o.x, o.key))) (by exact List.Mem.head _) rfl ?_
    have hc1 := fun F => swapE (moveU (g := g) hi hlm o.x o.key F)
    refine CallF.at (.refl _) (atHeapX [_, _] hc1) ?_
    rintro e H' ⟨C', rfl, l', hi', hcase⟩
    have hret : ∃ z, e = .returned (.int .i64 z) := by rcases hcase with ⟨_, rfl, _⟩ | ⟨_, _, _, _, rfl⟩ <;> exact ⟨_, rfl⟩
    obtain ⟨z, rfl⟩ := hret
    refine ⟨_, .refl _, .left (A := [_, _]), ?_⟩
    have hc2 := fun F => swapE (refMove (g := g) ho (tw (o.x, o.key)) htmax F)
    refine CallF.at (.refl _) (atRefX [_, _] hc2) ?_
    rintro e H' ⟨Cr', rfl, ts', ho', hcase'⟩
    rcases hcase with ⟨hx, hz, rfl⟩ | ⟨k0, r, hp, hp', hz⟩ <;> (simp only [Ending.returned.injEq, Value.int.injEq, true_and] at hz; subst hz) <;> rcases hcase' with ⟨hno, rfl, rfl⟩ | ⟨j, hi2, hsm, rfl, rfl⟩
    · refine ⟨_, .refl _, .left (A := [_, _]), Bin.neq (Br.no' rfl (JE.mk (fin l' ts' C' Cr' ⟨hi', ho', hrel⟩ (by omega))))⟩
    · rw [hrel.push_out tau_tw hx _ (List.getElem_mem hi2)] at hsm; cases hsm
    · exact absurd (List.mem_map.2 ⟨_, (hp.mem_iff).2 (List.mem_cons_self), rfl⟩) (hrel.not_in tau_tw hno)
    · obtain ⟨_, hrel'⟩ := hrel.moved tau_tw (hi_once hi) hp hp' hi2 hsm
      refine ⟨_, .refl _, .left (A := [_, _]), Bin.neq (Br.no' rfl (JE.mk (fin l' _ C' Cr' ⟨hi', ho', hrel'⟩ (by have := hp'.length_eq; have := hp.length_eq; simp at *; omega))))⟩
  refine Bin.eql (Br.mk (fun _ => ?_) (fun _ => ?_))
  · refine FAddr.mk (Ld.mk (v := .int .u64 o.x) (by exact List.Mem.tail _ (List.Mem.head _)) rfl ?_)
    have hc1 := fun F => sameE (keyU (g := g) hi o.x F)
    refine CallF.at (.refl _) (atHeapX [_, _] hc1) ?_
    rintro e H' ⟨C1, rfl, hC1, hcase⟩
    rw [hC1]
    have hret : ∃ y z, e = .returned (.tuple #[.int .i64 y, .int .i64 z]) := by rcases hcase with ⟨_, rfl⟩ | ⟨_, _, rfl⟩ <;> exact ⟨_, _, rfl⟩
    obtain ⟨y, z, rfl⟩ := hret
    refine ⟨_, .refl _, Ext.mk rfl (Ext.mk rfl ?_)⟩
    refine LdA.whole (r := encG (tw (o.x, o.key))) (by exact List.Mem.head _) rfl ?_
    have hc2 := fun F => sameE (refKey (g := g) ho (tw (o.x, o.key)) htmax F)
    refine CallF.at (.refl _) (atRefX [_, _] hc2) ?_
    rintro e H' ⟨C2, rfl, hC2, hcase'⟩
    rw [hC2]
    have hfin := fin l ts C Cr ⟨hi, ho, hrel⟩ (by omega)
    rcases hcase with ⟨hx, hz⟩ | ⟨k0, hk0, hz⟩ <;> (simp only [Ending.returned.injEq, Value.tuple.injEq, Array.mk.injEq, List.cons.injEq, Value.int.injEq, true_and, and_true] at hz; obtain ⟨rfl, rfl⟩ := hz) <;> rcases hcase' with ⟨hno, rfl⟩ | ⟨j, hi2, hsm, rfl⟩
    · exact ⟨_, .refl _, Ext.mk rfl (Ext.mk rfl (Bin.neq (Grp.mk false (fun _ => Bin.neq ⟨rfl, rfl⟩) (fun h => absurd h (by decide)) fun gs => Br.no (JE.mk hfin))))⟩
    · rw [hrel.push_out tau_tw hx _ (List.getElem_mem hi2)] at hsm; cases hsm
    · exact absurd (List.mem_map.2 ⟨_, hk0, rfl⟩) (hrel.not_in tau_tw hno)
    · rw [hrel.told tau_tw (hi_once hi) hk0 hi2 hsm]
      exact ⟨_, .refl _, Ext.mk rfl (Ext.mk rfl (Bin.neq (Grp.mk false (fun _ => Bin.neq ⟨rfl, by simp⟩) (fun h => by simp at h) fun gs => Br.no (JE.mk hfin))))⟩
  · exact JE.mk (fin l ts C Cr ⟨hi, ho, hrel⟩ (by omega))
end Go.Proofs
