import Derived.Test.YtbockhcoeefobaaT3
import Derived.Test.YtbockhcoeefobaaT4
set_option linter.unusedVariables false
set_option linter.unusedSimpArgs false
set_option maxRecDepth 100000
namespace Go.Proofs
open Go Go.Sx HpA
theorem newU {g : World} (F : Hp) : SCalls Try.prog g 8 #[] F (fun e H' => ∃ b C, e = .returned (.pointer (some ⟨b, 0, none⟩)) ∧ H' = C ++ F ∧ HI .u64 75 71 (.pointer (some ⟨b, 0, none⟩)) [] C) := by
  refine L8_sound ?_
  unfold L8
  refine Build.mk (cs := [.slice none 0 0, .map none]) (by kernel_rfl) ?_
  intro b _
  exact ⟨b, [_], rfl, rfl, fun _ => none, ⟨b, _, _, [], [], rfl, rfl, SOwn.nil _ _, .inl ⟨rfl, rfl, rfl⟩, fun _ => rfl⟩, ⟨fun j hj => by simp at hj, fun _ _ => rfl⟩, fun j _ hj => by simp at hj, by simp [Once]⟩
theorem lenU {g : World} {h : Value} {l : List It} {C : Hp} (hi : HI .u64 75 71 h l C) (F : Hp) : CalmQ Try.prog g 14 #[h] (C ++ F) (.int .i64 (l.length : Int)) := by
  obtain ⟨f, ⟨bh, sv, mv, Cs, Cm, rfl, rfl, hs, hm, hne⟩, _⟩ := hi
  refine L14_sound ?_
  unfold L14
  (repeat (first | refine Nil.ptr ?_ | refine FAddr.mk ?_ | refine Ld.mk (by repeat (first | exact List.Mem.head _ | apply List.Mem.tail)) rfl ?_ | refine LenS.mk ?_ | refine Bin.eql ?_ | refine Bin.neq ?_ | refine Bin.lss ?_ | refine Bin.leq ?_ | refine Bin.gtr ?_ | refine Bin.geq ?_ | refine Un.not ?_ | refine Ext.mk rfl ?_ | refine Pick.mk ?_ | refine Bin.ptrNil ?_ | refine Bin.mapNil ?_ | refine Bin.nilNil ?_ | refine Br.yes ?_ | refine Br.no ?_))
  refine hs.lenS ?_
  rw [encL_length]
  exact ⟨rfl, .refl _⟩
theorem keyU {g : World} {h : Value} {l : List It} {C : Hp} (hi : HI .u64 75 71 h l C) (x : Int) (F : Hp) :
    SCalls Try.prog g 20 #[h, .int .u64 x] (C ++ F) (fun e H' => H' = C ++ F ∧ ((x ∉ l.map Prod.fst ∧ e = .returned (.tuple #[.int .i64 0, .int .i64 10])) ∨ ∃ k, (x, k) ∈ l ∧ e = .returned (.tuple #[.int .i64 k, .int .i64 0]))) := by
  obtain ⟨f, ho, hc, _, _⟩ := hi
  refine L20_sound ?_
  unfold L20
  rcases cons_get hc (x := x) with ⟨h1, h2⟩ | ⟨i, hi, h1, h2⟩
  · obtain ⟨bh, sv, mv, Cs, Cm, rfl, rfl, hs, hm, hne⟩ := ho
    (repeat (first | refine Nil.ptr ?_ | refine FAddr.mk ?_ | refine Ld.mk (by repeat (first | exact List.Mem.head _ | apply List.Mem.tail)) rfl ?_ | refine LenS.mk ?_ | refine Bin.eql ?_ | refine Bin.neq ?_ | refine Bin.lss ?_ | refine Bin.leq ?_ | refine Bin.gtr ?_ | refine Bin.geq ?_ | refine Un.not ?_ | refine Ext.mk rfl ?_ | refine Pick.mk ?_ | refine Bin.ptrNil ?_ | refine Bin.mapNil ?_ | refine Bin.nilNil ?_ | refine Br.yes ?_ | refine Br.no ?_))
    refine hm.look_none (fun y hy => by simp [hy]) h2 ?_
    (repeat (first | refine Nil.ptr ?_ | refine FAddr.mk ?_ | refine Ld.mk (by repeat (first | exact List.Mem.head _ | apply List.Mem.tail)) rfl ?_ | refine LenS.mk ?_ | refine Bin.eql ?_ | refine Bin.neq ?_ | refine Bin.lss ?_ | refine Bin.leq ?_ | refine Bin.gtr ?_ | refine Bin.geq ?_ | refine Un.not ?_ | refine Ext.mk rfl ?_ | refine Pick.mk ?_ | refine Bin.ptrNil ?_ | refine Bin.mapNil ?_ | refine Bin.nilNil ?_ | refine Br.yes ?_ | refine Br.no ?_))
    exact ⟨rfl, .inl ⟨h1, rfl⟩⟩
  · obtain ⟨bh, la, mb, junk, Cm, rfl, rfl, hall, hm⟩ := ho.open (by omega)
    (repeat (first | refine Nil.ptr ?_ | refine FAddr.mk ?_ | refine Ld.mk (by repeat (first | exact List.Mem.head _ | apply List.Mem.tail)) rfl ?_ | refine LenS.mk ?_ | refine Bin.eql ?_ | refine Bin.neq ?_ | refine Bin.lss ?_ | refine Bin.leq ?_ | refine Bin.gtr ?_ | refine Bin.geq ?_ | refine Un.not ?_ | refine Ext.mk rfl ?_ | refine Pick.mk ?_ | refine Bin.ptrNil ?_ | refine Bin.mapNil ?_ | refine Bin.nilNil ?_ | refine Br.yes ?_ | refine Br.no ?_))
    refine hm.look_some (fun y hy => by simp [hy]) h2 ?_
    (repeat (first | refine Nil.ptr ?_ | refine FAddr.mk ?_ | refine Ld.mk (by repeat (first | exact List.Mem.head _ | apply List.Mem.tail)) rfl ?_ | refine LenS.mk ?_ | refine Bin.eql ?_ | refine Bin.neq ?_ | refine Bin.lss ?_ | refine Bin.leq ?_ | refine Bin.gtr ?_ | refine Bin.geq ?_ | refine Un.not ?_ | refine Ext.mk rfl ?_ | refine Pick.mk ?_ | refine Bin.ptrNil ?_ | refine Bin.mapNil ?_ | refine Bin.nilNil ?_ | refine Br.yes ?_ | refine Br.no ?_))
    refine IAddr.nat hi ?_
    (repeat (first | refine Nil.ptr ?_ | refine FAddr.mk ?_ | refine Ld.mk (by repeat (first | exact List.Mem.head _ | apply List.Mem.tail)) rfl ?_ | refine LenS.mk ?_ | refine Bin.eql ?_ | refine Bin.neq ?_ | refine Bin.lss ?_ | refine Bin.leq ?_ | refine Bin.gtr ?_ | refine Bin.geq ?_ | refine Un.not ?_ | refine Ext.mk rfl ?_ | refine Pick.mk ?_ | refine Bin.ptrNil ?_ | refine Bin.mapNil ?_ | refine Bin.nilNil ?_ | refine Br.yes ?_ | refine Br.no ?_))
    refine Ld.row (l := encL .u64 l ++ junk) (j := 1) (by repeat (first | exact List.Mem.head _ | apply List.Mem.tail)) hall (encL_get hi junk) rfl ?_
    refine ⟨rfl, .inr ⟨_, ?_, rfl⟩⟩
    have := at_some hi
    rw [← h1]; exact List.mem_of_getElem? this
theorem pushU {g : World} {h : Value} {l : List It} {C : Hp} (hi : HI .u64 75 71 h l C) (hmax : l.length < 4398046511104) (x k : Int) (F : Hp) :
    SCalls Try.prog g 10 #[h, .int .u64 x, .int .i64 k] (C ++ F) (fun e H' => ∃ l' C', H' = C' ++ F ∧ HI .u64 75 71 h l' C' ∧
      ((x ∈ l.map Prod.fst ∧ e = .returned (.int .i64 11) ∧ l' = l) ∨ (x ∉ l.map Prod.fst ∧ e = .returned (.int .i64 0) ∧ l'.Perm ((x, k) :: l)))) := by
  have hi0 := hi
  obtain ⟨f, ho, hc, hO, h1⟩ := hi
  have ho0 := ho
  obtain ⟨bh, sv, mv, Cs, Cm, rfl, rfl, hs, hm, hne⟩ := ho
  refine L10_sound ?_
  unfold L10
  (repeat (first | refine Nil.ptr ?_ | refine FAddr.mk ?_ | refine Ld.mk (by repeat (first | exact List.Mem.head _ | apply List.Mem.tail)) rfl ?_ | refine LenS.mk ?_ | refine Bin.eql ?_ | refine Bin.neq ?_ | refine Bin.lss ?_ | refine Bin.leq ?_ | refine Bin.gtr ?_ | refine Bin.geq ?_ | refine Un.not ?_ | refine Ext.mk rfl ?_ | refine Pick.mk ?_ | refine Bin.ptrNil ?_ | refine Bin.mapNil ?_ | refine Bin.nilNil ?_ | refine Br.yes ?_ | refine Br.no ?_))
  rcases cons_get hc (x := x) with ⟨hx, hf⟩ | ⟨i, hi, hx, hf⟩
  · refine hm.look_none (fun y hy => by simp [hy]) hf ?_
    (repeat (first | refine Nil.ptr ?_ | refine FAddr.mk ?_ | refine Ld.mk (by repeat (first | exact List.Mem.head _ | apply List.Mem.tail)) rfl ?_ | refine LenS.mk ?_ | refine Bin.eql ?_ | refine Bin.neq ?_ | refine Bin.lss ?_ | refine Bin.leq ?_ | refine Bin.gtr ?_ | refine Bin.geq ?_ | refine Un.not ?_ | refine Ext.mk rfl ?_ | refine Pick.mk ?_ | refine Bin.ptrNil ?_ | refine Bin.mapNil ?_ | refine Bin.nilNil ?_ | refine Br.yes ?_ | refine Br.no ?_))
    intro J hJ
    obtain ⟨hp1, hp2, hp3, hp4⟩ := push_pre (a := (x, k)) hc hO h1 hx
    have hrest : ∀ mb Cm', MOwn .u64 idx (.map (some mb)) f Cm' → J [] ((bh, Obj.cells #[sv, .map (some mb)] 71 (0, 0)) :: (Cs ++ (Cm' ++ F))) := by
      intro mb Cm' hm'
      refine hJ _ fun gs => ?_
      (repeat (first | refine Nil.ptr ?_ | refine FAddr.mk ?_ | refine Ld.mk (by repeat (first | exact List.Mem.head _ | apply List.Mem.tail)) rfl ?_ | refine LenS.mk ?_ | refine Bin.eql ?_ | refine Bin.neq ?_ | refine Bin.lss ?_ | refine Bin.leq ?_ | refine Bin.gtr ?_ | refine Bin.geq ?_ | refine Un.not ?_ | refine Ext.mk rfl ?_ | refine Pick.mk ?_ | refine Bin.ptrNil ?_ | refine Bin.mapNil ?_ | refine Bin.nilNil ?_ | refine Br.yes ?_ | refine Br.no ?_))
      refine Build.mk (cs := enc .u64 (x, k)) (by kernel_rfl) ?_
      refine BuildSl.one (k := 2) (e := 75) (z := .agg #[.int .u64 0, .int .i64 0]) (by kernel_rfl) (by kernel_rfl) (by kernel_rfl) (by decide) rfl fun xb => ?_
      refine hs.app' (A := [_, _]) (B := Cm' ++ F) (r := enc .u64 (x, k)) (by repeat (first | exact List.Mem.head _ | apply List.Mem.tail)) rfl (enc_one _ _) ⟨[.int .u64 0, .int .i64 0], rfl, rfl⟩ (by rw [encL_length]; omega) (by rw [encL_length]; omega) fun v' C' hs' => ?_
      (repeat (first | refine Nil.ptr ?_ | refine FAddr.mk ?_ | refine Ld.mk (by repeat (first | exact List.Mem.head _ | apply List.Mem.tail)) rfl ?_ | refine LenS.mk ?_ | refine Bin.eql ?_ | refine Bin.neq ?_ | refine Bin.lss ?_ | refine Bin.leq ?_ | refine Bin.gtr ?_ | refine Bin.geq ?_ | refine Un.not ?_ | refine Ext.mk rfl ?_ | refine Pick.mk ?_ | refine Bin.ptrNil ?_ | refine Bin.mapNil ?_ | refine Bin.nilNil ?_ | refine Br.yes ?_ | refine Br.no ?_))
      refine St.one (by repeat (first | exact Upd.head _ | apply Upd.tail)) (by obtain ⟨a, c, rfl⟩ := hs'.len; rfl) (by simp) rfl ?_
      (repeat (first | refine Nil.ptr ?_ | refine FAddr.mk ?_ | refine Ld.mk (by repeat (first | exact List.Mem.head _ | apply List.Mem.tail)) rfl ?_ | refine LenS.mk ?_ | refine Bin.eql ?_ | refine Bin.neq ?_ | refine Bin.lss ?_ | refine Bin.leq ?_ | refine Bin.gtr ?_ | refine Bin.geq ?_ | refine Un.not ?_ | refine Ext.mk rfl ?_ | refine Pick.mk ?_ | refine Bin.ptrNil ?_ | refine Bin.mapNil ?_ | refine Bin.nilNil ?_ | refine Br.yes ?_ | refine Br.no ?_))
      refine hs'.lenS ?_
      refine Bin.sub64 (c := ((l.length : Nat) : Int)) (by rw [List.length_append, encL_length]; simp) (by omega) ?_
      have hs2 : SOwn 75 2 v' (encL .u64 (l ++ [(x, k)])) C' := by simpa [encL] using hs'
      have ho' : HO .u64 75 71 (.pointer (some ⟨bh, 0, none⟩)) (l ++ [(x, k)]) f ((bh, Obj.cells #[v', .map (some mb)] 71 (0, 0)) :: (C' ++ Cm')) :=
        ⟨bh, _, _, C', Cm', rfl, rfl, hs2, hm', fun h => by simp at h⟩
      refine CallF.at ?_ (upU ho' (i := l.length) (by simp) (by simp; omega) hp1 hp2 hp3 F) ?_
      · exact fun g w h => by have := h.tail; simpa using this
      · rintro e H' ⟨l', f', C'', p, rfl, rfl, ho2, hperm, hc2, hex, hp, hat, hord⟩
        refine ⟨_, .refl _, l', C'', rfl, ⟨f', ho2, hc2, hord hp4, hp3.perm hperm⟩, .inr ⟨hx, rfl, hperm.trans ?_⟩⟩
        exact List.perm_append_comm (l₁ := l) (l₂ := [(x, k)])
    (repeat (first | refine Nil.ptr ?_ | refine FAddr.mk ?_ | refine Ld.mk (by repeat (first | exact List.Mem.head _ | apply List.Mem.tail)) rfl ?_ | refine LenS.mk ?_ | refine Bin.eql ?_ | refine Bin.neq ?_ | refine Bin.lss ?_ | refine Bin.leq ?_ | refine Bin.gtr ?_ | refine Bin.geq ?_ | refine Un.not ?_ | refine Ext.mk rfl ?_ | refine Pick.mk ?_ | refine Bin.ptrNil ?_ | refine Bin.mapNil ?_ | refine Bin.nilNil ?_ | refine Br.yes ?_ | refine Br.no ?_))
    rcases hm with ⟨rfl, rfl, hfn⟩ | ⟨mb, m, ck, rfl, h2⟩
    · (repeat (first | refine Nil.ptr ?_ | refine FAddr.mk ?_ | refine Ld.mk (by repeat (first | exact List.Mem.head _ | apply List.Mem.tail)) rfl ?_ | refine LenS.mk ?_ | refine Bin.eql ?_ | refine Bin.neq ?_ | refine Bin.lss ?_ | refine Bin.leq ?_ | refine Bin.gtr ?_ | refine Bin.geq ?_ | refine Un.not ?_ | refine Ext.mk rfl ?_ | refine Pick.mk ?_ | refine Bin.ptrNil ?_ | refine Bin.mapNil ?_ | refine Bin.nilNil ?_ | refine Br.yes ?_ | refine Br.no ?_))
      intro mb _
      (repeat (first | refine Nil.ptr ?_ | refine FAddr.mk ?_ | refine Ld.mk (by repeat (first | exact List.Mem.head _ | apply List.Mem.tail)) rfl ?_ | refine LenS.mk ?_ | refine Bin.eql ?_ | refine Bin.neq ?_ | refine Bin.lss ?_ | refine Bin.leq ?_ | refine Bin.gtr ?_ | refine Bin.geq ?_ | refine Un.not ?_ | refine Ext.mk rfl ?_ | refine Pick.mk ?_ | refine Bin.ptrNil ?_ | refine Bin.mapNil ?_ | refine Bin.nilNil ?_ | refine Br.yes ?_ | refine Br.no ?_))
      refine St.one (by repeat (first | exact Upd.head _ | apply Upd.tail)) rfl (by simp) rfl ?_
      refine JE.of ?_ (hrest mb _ (by rw [hfn]; exact MOwn.made mb))
      simp only [List.append_nil]
      exact Ent.segs [[_], [_], Cs, F] [[_], Cs, [_], F] (by
        refine (List.Perm.swap _ _ _).trans (.cons _ (.swap _ _ _)))
    · (repeat (first | refine Nil.ptr ?_ | refine FAddr.mk ?_ | refine Ld.mk (by repeat (first | exact List.Mem.head _ | apply List.Mem.tail)) rfl ?_ | refine LenS.mk ?_ | refine Bin.eql ?_ | refine Bin.neq ?_ | refine Bin.lss ?_ | refine Bin.leq ?_ | refine Bin.gtr ?_ | refine Bin.geq ?_ | refine Un.not ?_ | refine Ext.mk rfl ?_ | refine Pick.mk ?_ | refine Bin.ptrNil ?_ | refine Bin.mapNil ?_ | refine Bin.nilNil ?_ | refine Br.yes ?_ | refine Br.no ?_))
      refine JE.mk ?_
      simp only [List.cons_append, List.append_assoc]
      exact hrest mb Cm (.inr ⟨mb, m, ck, rfl, h2⟩)
  · refine hm.look_some (fun y hy => by simp [hy]) hf ?_
    (repeat (first | refine Nil.ptr ?_ | refine FAddr.mk ?_ | refine Ld.mk (by repeat (first | exact List.Mem.head _ | apply List.Mem.tail)) rfl ?_ | refine LenS.mk ?_ | refine Bin.eql ?_ | refine Bin.neq ?_ | refine Bin.lss ?_ | refine Bin.leq ?_ | refine Bin.gtr ?_ | refine Bin.geq ?_ | refine Un.not ?_ | refine Ext.mk rfl ?_ | refine Pick.mk ?_ | refine Bin.ptrNil ?_ | refine Bin.mapNil ?_ | refine Bin.nilNil ?_ | refine Br.yes ?_ | refine Br.no ?_))
    refine ⟨l, _, rfl, hi0, .inl ⟨?_, rfl, rfl⟩⟩
    rw [mem_things]; exact ⟨i, hi, hx⟩
theorem newI {g : World} (F : Hp) : SCalls Try.prog g 27 #[] F (fun e H' => ∃ b C, e = .returned (.pointer (some ⟨b, 0, none⟩)) ∧ H' = C ++ F ∧ HI .i64 90 88 (.pointer (some ⟨b, 0, none⟩)) [] C) := by
  refine L27_sound ?_
  unfold L27
  refine Build.mk (cs := [.slice none 0 0, .map none]) (by kernel_rfl) ?_
  intro b _
  exact ⟨b, [_], rfl, rfl, fun _ => none, ⟨b, _, _, [], [], rfl, rfl, SOwn.nil _ _, .inl ⟨rfl, rfl, rfl⟩, fun _ => rfl⟩, ⟨fun j hj => by simp at hj, fun _ _ => rfl⟩, fun j _ hj => by simp at hj, by simp [Once]⟩
theorem lenI {g : World} {h : Value} {l : List It} {C : Hp} (hi : HI .i64 90 88 h l C) (F : Hp) : CalmQ Try.prog g 26 #[h] (C ++ F) (.int .i64 (l.length : Int)) := by
  obtain ⟨f, ⟨bh, sv, mv, Cs, Cm, rfl, rfl, hs, hm, hne⟩, _⟩ := hi
  refine L26_sound ?_
  unfold L26
  (repeat (first | refine Nil.ptr ?_ | refine FAddr.mk ?_ | refine Ld.mk (by repeat (first | exact List.Mem.head _ | apply List.Mem.tail)) rfl ?_ | refine LenS.mk ?_ | refine Bin.eql ?_ | refine Bin.neq ?_ | refine Bin.lss ?_ | refine Bin.leq ?_ | refine Bin.gtr ?_ | refine Bin.geq ?_ | refine Un.not ?_ | refine Ext.mk rfl ?_ | refine Pick.mk ?_ | refine Bin.ptrNil ?_ | refine Bin.mapNil ?_ | refine Bin.nilNil ?_ | refine Br.yes ?_ | refine Br.no ?_))
  refine hs.lenS ?_
  rw [encL_length]
  exact ⟨rfl, .refl _⟩
theorem keyI {g : World} {h : Value} {l : List It} {C : Hp} (hi : HI .i64 90 88 h l C) (x : Int) (F : Hp) :
    SCalls Try.prog g 23 #[h, .int .i64 x] (C ++ F) (fun e H' => H' = C ++ F ∧ ((x ∉ l.map Prod.fst ∧ e = .returned (.tuple #[.int .i64 0, .int .i64 10])) ∨ ∃ k, (x, k) ∈ l ∧ e = .returned (.tuple #[.int .i64 k, .int .i64 0]))) := by
  obtain ⟨f, ho, hc, _, _⟩ := hi
  refine L23_sound ?_
  unfold L23
  rcases cons_get hc (x := x) with ⟨h1, h2⟩ | ⟨i, hi, h1, h2⟩
  · obtain ⟨bh, sv, mv, Cs, Cm, rfl, rfl, hs, hm, hne⟩ := ho
    (repeat (first | refine Nil.ptr ?_ | refine FAddr.mk ?_ | refine Ld.mk (by repeat (first | exact List.Mem.head _ | apply List.Mem.tail)) rfl ?_ | refine LenS.mk ?_ | refine Bin.eql ?_ | refine Bin.neq ?_ | refine Bin.lss ?_ | refine Bin.leq ?_ | refine Bin.gtr ?_ | refine Bin.geq ?_ | refine Un.not ?_ | refine Ext.mk rfl ?_ | refine Pick.mk ?_ | refine Bin.ptrNil ?_ | refine Bin.mapNil ?_ | refine Bin.nilNil ?_ | refine Br.yes ?_ | refine Br.no ?_))
    refine hm.look_none (fun y hy => by simp [hy]) h2 ?_
    (repeat (first | refine Nil.ptr ?_ | refine FAddr.mk ?_ | refine Ld.mk (by repeat (first | exact List.Mem.head _ | apply List.Mem.tail)) rfl ?_ | refine LenS.mk ?_ | refine Bin.eql ?_ | refine Bin.neq ?_ | refine Bin.lss ?_ | refine Bin.leq ?_ | refine Bin.gtr ?_ | refine Bin.geq ?_ | refine Un.not ?_ | refine Ext.mk rfl ?_ | refine Pick.mk ?_ | refine Bin.ptrNil ?_ | refine Bin.mapNil ?_ | refine Bin.nilNil ?_ | refine Br.yes ?_ | refine Br.no ?_))
    exact ⟨rfl, .inl ⟨h1, rfl⟩⟩
  · obtain ⟨bh, la, mb, junk, Cm, rfl, rfl, hall, hm⟩ := ho.open (by omega)
    (repeat (first | refine Nil.ptr ?_ | refine FAddr.mk ?_ | refine Ld.mk (by repeat (first | exact List.Mem.head _ | apply List.Mem.tail)) rfl ?_ | refine LenS.mk ?_ | refine Bin.eql ?_ | refine Bin.neq ?_ | refine Bin.lss ?_ | refine Bin.leq ?_ | refine Bin.gtr ?_ | refine Bin.geq ?_ | refine Un.not ?_ | refine Ext.mk rfl ?_ | refine Pick.mk ?_ | refine Bin.ptrNil ?_ | refine Bin.mapNil ?_ | refine Bin.nilNil ?_ | refine Br.yes ?_ | refine Br.no ?_))
    refine hm.look_some (fun y hy => by simp [hy]) h2 ?_
    (repeat (first | refine Nil.ptr ?_ | refine FAddr.mk ?_ | refine Ld.mk (by repeat (first | exact List.Mem.head _ | apply List.Mem.tail)) rfl ?_ | refine LenS.mk ?_ | refine Bin.eql ?_ | refine Bin.neq ?_ | refine Bin.lss ?_ | refine Bin.leq ?_ | refine Bin.gtr ?_ | refine Bin.geq ?_ | refine Un.not ?_ | refine Ext.mk rfl ?_ | refine Pick.mk ?_ | refine Bin.ptrNil ?_ | refine Bin.mapNil ?_ | refine Bin.nilNil ?_ | refine Br.yes ?_ | refine Br.no ?_))
    refine IAddr.nat hi ?_
    (repeat (first | refine Nil.ptr ?_ | refine FAddr.mk ?_ | refine Ld.mk (by repeat (first | exact List.Mem.head _ | apply List.Mem.tail)) rfl ?_ | refine LenS.mk ?_ | refine Bin.eql ?_ | refine Bin.neq ?_ | refine Bin.lss ?_ | refine Bin.leq ?_ | refine Bin.gtr ?_ | refine Bin.geq ?_ | refine Un.not ?_ | refine Ext.mk rfl ?_ | refine Pick.mk ?_ | refine Bin.ptrNil ?_ | refine Bin.mapNil ?_ | refine Bin.nilNil ?_ | refine Br.yes ?_ | refine Br.no ?_))
    refine Ld.row (l := encL .i64 l ++ junk) (j := 1) (by repeat (first | exact List.Mem.head _ | apply List.Mem.tail)) hall (encL_get hi junk) rfl ?_
    refine ⟨rfl, .inr ⟨_, ?_, rfl⟩⟩
    have := at_some hi
    rw [← h1]; exact List.mem_of_getElem? this
theorem pushI {g : World} {h : Value} {l : List It} {C : Hp} (hi : HI .i64 90 88 h l C) (hmax : l.length < 4398046511104) (x k : Int) (F : Hp) :
    SCalls Try.prog g 24 #[h, .int .i64 x, .int .i64 k] (C ++ F) (fun e H' => ∃ l' C', H' = C' ++ F ∧ HI .i64 90 88 h l' C' ∧
      ((x ∈ l.map Prod.fst ∧ e = .returned (.int .i64 11) ∧ l' = l) ∨ (x ∉ l.map Prod.fst ∧ e = .returned (.int .i64 0) ∧ l'.Perm ((x, k) :: l)))) := by
  have hi0 := hi
  obtain ⟨f, ho, hc, hO, h1⟩ := hi
  have ho0 := ho
  obtain ⟨bh, sv, mv, Cs, Cm, rfl, rfl, hs, hm, hne⟩ := ho
  refine L24_sound ?_
  unfold L24
  (repeat (first | refine Nil.ptr ?_ | refine FAddr.mk ?_ | refine Ld.mk (by repeat (first | exact List.Mem.head _ | apply List.Mem.tail)) rfl ?_ | refine LenS.mk ?_ | refine Bin.eql ?_ | refine Bin.neq ?_ | refine Bin.lss ?_ | refine Bin.leq ?_ | refine Bin.gtr ?_ | refine Bin.geq ?_ | refine Un.not ?_ | refine Ext.mk rfl ?_ | refine Pick.mk ?_ | refine Bin.ptrNil ?_ | refine Bin.mapNil ?_ | refine Bin.nilNil ?_ | refine Br.yes ?_ | refine Br.no ?_))
  rcases cons_get hc (x := x) with ⟨hx, hf⟩ | ⟨i, hi, hx, hf⟩
  · refine hm.look_none (fun y hy => by simp [hy]) hf ?_
    (repeat (first | refine Nil.ptr ?_ | refine FAddr.mk ?_ | refine Ld.mk (by repeat (first | exact List.Mem.head _ | apply List.Mem.tail)) rfl ?_ | refine LenS.mk ?_ | refine Bin.eql ?_ | refine Bin.neq ?_ | refine Bin.lss ?_ | refine Bin.leq ?_ | refine Bin.gtr ?_ | refine Bin.geq ?_ | refine Un.not ?_ | refine Ext.mk rfl ?_ | refine Pick.mk ?_ | refine Bin.ptrNil ?_ | refine Bin.mapNil ?_ | refine Bin.nilNil ?_ | refine Br.yes ?_ | refine Br.no ?_))
    intro J hJ
    obtain ⟨hp1, hp2, hp3, hp4⟩ := push_pre (a := (x, k)) hc hO h1 hx
    have hrest : ∀ mb Cm', MOwn .i64 idx (.map (some mb)) f Cm' → J [] ((bh, Obj.cells #[sv, .map (some mb)] 88 (0, 0)) :: (Cs ++ (Cm' ++ F))) := by
      intro mb Cm' hm'
      refine hJ _ fun gs => ?_
      (repeat (first | refine Nil.ptr ?_ | refine FAddr.mk ?_ | refine Ld.mk (by repeat (first | exact List.Mem.head _ | apply List.Mem.tail)) rfl ?_ | refine LenS.mk ?_ | refine Bin.eql ?_ | refine Bin.neq ?_ | refine Bin.lss ?_ | refine Bin.leq ?_ | refine Bin.gtr ?_ | refine Bin.geq ?_ | refine Un.not ?_ | refine Ext.mk rfl ?_ | refine Pick.mk ?_ | refine Bin.ptrNil ?_ | refine Bin.mapNil ?_ | refine Bin.nilNil ?_ | refine Br.yes ?_ | refine Br.no ?_))
      refine Build.mk (cs := enc .i64 (x, k)) (by kernel_rfl) ?_
      refine BuildSl.one (k := 2) (e := 90) (z := .agg #[.int .i64 0, .int .i64 0]) (by kernel_rfl) (by kernel_rfl) (by kernel_rfl) (by decide) rfl fun xb => ?_
      refine hs.app' (A := [_, _]) (B := Cm' ++ F) (r := enc .i64 (x, k)) (by repeat (first | exact List.Mem.head _ | apply List.Mem.tail)) rfl (enc_one _ _) ⟨[.int .i64 0, .int .i64 0], rfl, rfl⟩ (by rw [encL_length]; omega) (by rw [encL_length]; omega) fun v' C' hs' => ?_
      (repeat (first | refine Nil.ptr ?_ | refine FAddr.mk ?_ | refine Ld.mk (by repeat (first | exact List.Mem.head _ | apply List.Mem.tail)) rfl ?_ | refine LenS.mk ?_ | refine Bin.eql ?_ | refine Bin.neq ?_ | refine Bin.lss ?_ | refine Bin.leq ?_ | refine Bin.gtr ?_ | refine Bin.geq ?_ | refine Un.not ?_ | refine Ext.mk rfl ?_ | refine Pick.mk ?_ | refine Bin.ptrNil ?_ | refine Bin.mapNil ?_ | refine Bin.nilNil ?_ | refine Br.yes ?_ | refine Br.no ?_))
      refine St.one (by repeat (first | exact Upd.head _ | apply Upd.tail)) (by obtain ⟨a, c, rfl⟩ := hs'.len; rfl) (by simp) rfl ?_
      (repeat (first | refine Nil.ptr ?_ | refine FAddr.mk ?_ | refine Ld.mk (by repeat (first | exact List.Mem.head _ | apply List.Mem.tail)) rfl ?_ | refine LenS.mk ?_ | refine Bin.eql ?_ | refine Bin.neq ?_ | refine Bin.lss ?_ | refine Bin.leq ?_ | refine Bin.gtr ?_ | refine Bin.geq ?_ | refine Un.not ?_ | refine Ext.mk rfl ?_ | refine Pick.mk ?_ | refine Bin.ptrNil ?_ | refine Bin.mapNil ?_ | refine Bin.nilNil ?_ | refine Br.yes ?_ | refine Br.no ?_))
      refine hs'.lenS ?_
      refine Bin.sub64 (c := ((l.length : Nat) : Int)) (by rw [List.length_append, encL_length]; simp) (by omega) ?_
      have hs2 : SOwn 90 2 v' (encL .i64 (l ++ [(x, k)])) C' := by simpa [encL] using hs'
      have ho' : HO .i64 90 88 (.pointer (some ⟨bh, 0, none⟩)) (l ++ [(x, k)]) f ((bh, Obj.cells #[v', .map (some mb)] 88 (0, 0)) :: (C' ++ Cm')) :=
        ⟨bh, _, _, C', Cm', rfl, rfl, hs2, hm', fun h => by simp at h⟩
      refine CallF.at ?_ (upI ho' (i := l.length) (by simp) (by simp; omega) hp1 hp2 hp3 F) ?_
      · exact fun g w h => by have := h.tail; simpa using this
      · rintro e H' ⟨l', f', C'', p, rfl, rfl, ho2, hperm, hc2, hex, hp, hat, hord⟩
        refine ⟨_, .refl _, l', C'', rfl, ⟨f', ho2, hc2, hord hp4, hp3.perm hperm⟩, .inr ⟨hx, rfl, hperm.trans ?_⟩⟩
        exact List.perm_append_comm (l₁ := l) (l₂ := [(x, k)])
    (repeat (first | refine Nil.ptr ?_ | refine FAddr.mk ?_ | refine Ld.mk (by repeat (first | exact List.Mem.head _ | apply List.Mem.tail)) rfl ?_ | refine LenS.mk ?_ | refine Bin.eql ?_ | refine Bin.neq ?_ | refine Bin.lss ?_ | refine Bin.leq ?_ | refine Bin.gtr ?_ | refine Bin.geq ?_ | refine Un.not ?_ | refine Ext.mk rfl ?_ | refine Pick.mk ?_ | refine Bin.ptrNil ?_ | refine Bin.mapNil ?_ | refine Bin.nilNil ?_ | refine Br.yes ?_ | refine Br.no ?_))
    rcases hm with ⟨rfl, rfl, hfn⟩ | ⟨mb, m, ck, rfl, h2⟩
    · (repeat (first | refine Nil.ptr ?_ | refine FAddr.mk ?_ | refine Ld.mk (by repeat (first | exact List.Mem.head _ | apply List.Mem.tail)) rfl ?_ | refine LenS.mk ?_ | refine Bin.eql ?_ | refine Bin.neq ?_ | refine Bin.lss ?_ | refine Bin.leq ?_ | refine Bin.gtr ?_ | refine Bin.geq ?_ | refine Un.not ?_ | refine Ext.mk rfl ?_ | refine Pick.mk ?_ | refine Bin.ptrNil ?_ | refine Bin.mapNil ?_ | refine Bin.nilNil ?_ | refine Br.yes ?_ | refine Br.no ?_))
      intro mb _
      (repeat (first | refine Nil.ptr ?_ | refine FAddr.mk ?_ | refine Ld.mk (by repeat (first | exact List.Mem.head _ | apply List.Mem.tail)) rfl ?_ | refine LenS.mk ?_ | refine Bin.eql ?_ | refine Bin.neq ?_ | refine Bin.lss ?_ | refine Bin.leq ?_ | refine Bin.gtr ?_ | refine Bin.geq ?_ | refine Un.not ?_ | refine Ext.mk rfl ?_ | refine Pick.mk ?_ | refine Bin.ptrNil ?_ | refine Bin.mapNil ?_ | refine Bin.nilNil ?_ | refine Br.yes ?_ | refine Br.no ?_))
      refine St.one (by repeat (first | exact Upd.head _ | apply Upd.tail)) rfl (by simp) rfl ?_
      refine JE.of ?_ (hrest mb _ (by rw [hfn]; exact MOwn.made mb))
      simp only [List.append_nil]
      exact Ent.segs [[_], [_], Cs, F] [[_], Cs, [_], F] (by
        refine (List.Perm.swap _ _ _).trans (.cons _ (.swap _ _ _)))
    · (repeat (first | refine Nil.ptr ?_ | refine FAddr.mk ?_ | refine Ld.mk (by repeat (first | exact List.Mem.head _ | apply List.Mem.tail)) rfl ?_ | refine LenS.mk ?_ | refine Bin.eql ?_ | refine Bin.neq ?_ | refine Bin.lss ?_ | refine Bin.leq ?_ | refine Bin.gtr ?_ | refine Bin.geq ?_ | refine Un.not ?_ | refine Ext.mk rfl ?_ | refine Pick.mk ?_ | refine Bin.ptrNil ?_ | refine Bin.mapNil ?_ | refine Bin.nilNil ?_ | refine Br.yes ?_ | refine Br.no ?_))
      refine JE.mk ?_
      simp only [List.cons_append, List.append_assoc]
      exact hrest mb Cm (.inr ⟨mb, m, ck, rfl, h2⟩)
  · refine hm.look_some (fun y hy => by simp [hy]) hf ?_
    (repeat (first | refine Nil.ptr ?_ | refine FAddr.mk ?_ | refine Ld.mk (by repeat (first | exact List.Mem.head _ | apply List.Mem.tail)) rfl ?_ | refine LenS.mk ?_ | refine Bin.eql ?_ | refine Bin.neq ?_ | refine Bin.lss ?_ | refine Bin.leq ?_ | refine Bin.gtr ?_ | refine Bin.geq ?_ | refine Un.not ?_ | refine Ext.mk rfl ?_ | refine Pick.mk ?_ | refine Bin.ptrNil ?_ | refine Bin.mapNil ?_ | refine Bin.nilNil ?_ | refine Br.yes ?_ | refine Br.no ?_))
    refine ⟨l, _, rfl, hi0, .inl ⟨?_, rfl, rfl⟩⟩
    rw [mem_things]; exact ⟨i, hi, hx⟩
theorem newN {g : World} (F : Hp) : SCalls Try.prog g 15 #[] F (fun e H' => ∃ b C, e = .returned (.pointer (some ⟨b, 0, none⟩)) ∧ H' = C ++ F ∧ HI .i64 95 42 (.pointer (some ⟨b, 0, none⟩)) [] C) := by
  refine L15_sound ?_
  unfold L15
  refine Build.mk (cs := [.slice none 0 0, .map none]) (by kernel_rfl) ?_
  intro b _
  exact ⟨b, [_], rfl, rfl, fun _ => none, ⟨b, _, _, [], [], rfl, rfl, SOwn.nil _ _, .inl ⟨rfl, rfl, rfl⟩, fun _ => rfl⟩, ⟨fun j hj => by simp at hj, fun _ _ => rfl⟩, fun j _ hj => by simp at hj, by simp [Once]⟩
theorem lenN {g : World} {h : Value} {l : List It} {C : Hp} (hi : HI .i64 95 42 h l C) (F : Hp) : CalmQ Try.prog g 37 #[h] (C ++ F) (.int .i64 (l.length : Int)) := by
  obtain ⟨f, ⟨bh, sv, mv, Cs, Cm, rfl, rfl, hs, hm, hne⟩, _⟩ := hi
  refine L37_sound ?_
  unfold L37
  (repeat (first | refine Nil.ptr ?_ | refine FAddr.mk ?_ | refine Ld.mk (by repeat (first | exact List.Mem.head _ | apply List.Mem.tail)) rfl ?_ | refine LenS.mk ?_ | refine Bin.eql ?_ | refine Bin.neq ?_ | refine Bin.lss ?_ | refine Bin.leq ?_ | refine Bin.gtr ?_ | refine Bin.geq ?_ | refine Un.not ?_ | refine Ext.mk rfl ?_ | refine Pick.mk ?_ | refine Bin.ptrNil ?_ | refine Bin.mapNil ?_ | refine Bin.nilNil ?_ | refine Br.yes ?_ | refine Br.no ?_))
  refine hs.lenS ?_
  rw [encL_length]
  exact ⟨rfl, .refl _⟩
theorem keyN {g : World} {h : Value} {l : List It} {C : Hp} (hi : HI .i64 95 42 h l C) (x : Int) (F : Hp) :
    SCalls Try.prog g 36 #[h, .int .i64 x] (C ++ F) (fun e H' => H' = C ++ F ∧ ((x ∉ l.map Prod.fst ∧ e = .returned (.tuple #[.int .i64 0, .int .i64 10])) ∨ ∃ k, (x, k) ∈ l ∧ e = .returned (.tuple #[.int .i64 k, .int .i64 0]))) := by
  obtain ⟨f, ho, hc, _, _⟩ := hi
  refine L36_sound ?_
  unfold L36
  rcases cons_get hc (x := x) with ⟨h1, h2⟩ | ⟨i, hi, h1, h2⟩
  · obtain ⟨bh, sv, mv, Cs, Cm, rfl, rfl, hs, hm, hne⟩ := ho
    (repeat (first | refine Nil.ptr ?_ | refine FAddr.mk ?_ | refine Ld.mk (by repeat (first | exact List.Mem.head _ | apply List.Mem.tail)) rfl ?_ | refine LenS.mk ?_ | refine Bin.eql ?_ | refine Bin.neq ?_ | refine Bin.lss ?_ | refine Bin.leq ?_ | refine Bin.gtr ?_ | refine Bin.geq ?_ | refine Un.not ?_ | refine Ext.mk rfl ?_ | refine Pick.mk ?_ | refine Bin.ptrNil ?_ | refine Bin.mapNil ?_ | refine Bin.nilNil ?_ | refine Br.yes ?_ | refine Br.no ?_))
    refine hm.look_none (fun y hy => by simp [hy]) h2 ?_
    (repeat (first | refine Nil.ptr ?_ | refine FAddr.mk ?_ | refine Ld.mk (by repeat (first | exact List.Mem.head _ | apply List.Mem.tail)) rfl ?_ | refine LenS.mk ?_ | refine Bin.eql ?_ | refine Bin.neq ?_ | refine Bin.lss ?_ | refine Bin.leq ?_ | refine Bin.gtr ?_ | refine Bin.geq ?_ | refine Un.not ?_ | refine Ext.mk rfl ?_ | refine Pick.mk ?_ | refine Bin.ptrNil ?_ | refine Bin.mapNil ?_ | refine Bin.nilNil ?_ | refine Br.yes ?_ | refine Br.no ?_))
    exact ⟨rfl, .inl ⟨h1, rfl⟩⟩
  · obtain ⟨bh, la, mb, junk, Cm, rfl, rfl, hall, hm⟩ := ho.open (by omega)
    (repeat (first | refine Nil.ptr ?_ | refine FAddr.mk ?_ | refine Ld.mk (by repeat (first | exact List.Mem.head _ | apply List.Mem.tail)) rfl ?_ | refine LenS.mk ?_ | refine Bin.eql ?_ | refine Bin.neq ?_ | refine Bin.lss ?_ | refine Bin.leq ?_ | refine Bin.gtr ?_ | refine Bin.geq ?_ | refine Un.not ?_ | refine Ext.mk rfl ?_ | refine Pick.mk ?_ | refine Bin.ptrNil ?_ | refine Bin.mapNil ?_ | refine Bin.nilNil ?_ | refine Br.yes ?_ | refine Br.no ?_))
    refine hm.look_some (fun y hy => by simp [hy]) h2 ?_
    (repeat (first | refine Nil.ptr ?_ | refine FAddr.mk ?_ | refine Ld.mk (by repeat (first | exact List.Mem.head _ | apply List.Mem.tail)) rfl ?_ | refine LenS.mk ?_ | refine Bin.eql ?_ | refine Bin.neq ?_ | refine Bin.lss ?_ | refine Bin.leq ?_ | refine Bin.gtr ?_ | refine Bin.geq ?_ | refine Un.not ?_ | refine Ext.mk rfl ?_ | refine Pick.mk ?_ | refine Bin.ptrNil ?_ | refine Bin.mapNil ?_ | refine Bin.nilNil ?_ | refine Br.yes ?_ | refine Br.no ?_))
    refine IAddr.nat hi ?_
    (repeat (first | refine Nil.ptr ?_ | refine FAddr.mk ?_ | refine Ld.mk (by repeat (first | exact List.Mem.head _ | apply List.Mem.tail)) rfl ?_ | refine LenS.mk ?_ | refine Bin.eql ?_ | refine Bin.neq ?_ | refine Bin.lss ?_ | refine Bin.leq ?_ | refine Bin.gtr ?_ | refine Bin.geq ?_ | refine Un.not ?_ | refine Ext.mk rfl ?_ | refine Pick.mk ?_ | refine Bin.ptrNil ?_ | refine Bin.mapNil ?_ | refine Bin.nilNil ?_ | refine Br.yes ?_ | refine Br.no ?_))
    refine Ld.row (l := encL .i64 l ++ junk) (j := 1) (by repeat (first | exact List.Mem.head _ | apply List.Mem.tail)) hall (encL_get hi junk) rfl ?_
    refine ⟨rfl, .inr ⟨_, ?_, rfl⟩⟩
    have := at_some hi
    rw [← h1]; exact List.mem_of_getElem? this
theorem pushN {g : World} {h : Value} {l : List It} {C : Hp} (hi : HI .i64 95 42 h l C) (hmax : l.length < 4398046511104) (x k : Int) (F : Hp) :
    SCalls Try.prog g 32 #[h, .int .i64 x, .int .i64 k] (C ++ F) (fun e H' => ∃ l' C', H' = C' ++ F ∧ HI .i64 95 42 h l' C' ∧
      ((x ∈ l.map Prod.fst ∧ e = .returned (.int .i64 11) ∧ l' = l) ∨ (x ∉ l.map Prod.fst ∧ e = .returned (.int .i64 0) ∧ l'.Perm ((x, k) :: l)))) := by
  have hi0 := hi
  obtain ⟨f, ho, hc, hO, h1⟩ := hi
  have ho0 := ho
  obtain ⟨bh, sv, mv, Cs, Cm, rfl, rfl, hs, hm, hne⟩ := ho
  refine L32_sound ?_
  unfold L32
  (repeat (first | refine Nil.ptr ?_ | refine FAddr.mk ?_ | refine Ld.mk (by repeat (first | exact List.Mem.head _ | apply List.Mem.tail)) rfl ?_ | refine LenS.mk ?_ | refine Bin.eql ?_ | refine Bin.neq ?_ | refine Bin.lss ?_ | refine Bin.leq ?_ | refine Bin.gtr ?_ | refine Bin.geq ?_ | refine Un.not ?_ | refine Ext.mk rfl ?_ | refine Pick.mk ?_ | refine Bin.ptrNil ?_ | refine Bin.mapNil ?_ | refine Bin.nilNil ?_ | refine Br.yes ?_ | refine Br.no ?_))
  rcases cons_get hc (x := x) with ⟨hx, hf⟩ | ⟨i, hi, hx, hf⟩
  · refine hm.look_none (fun y hy => by simp [hy]) hf ?_
    (repeat (first | refine Nil.ptr ?_ | refine FAddr.mk ?_ | refine Ld.mk (by repeat (first | exact List.Mem.head _ | apply List.Mem.tail)) rfl ?_ | refine LenS.mk ?_ | refine Bin.eql ?_ | refine Bin.neq ?_ | refine Bin.lss ?_ | refine Bin.leq ?_ | refine Bin.gtr ?_ | refine Bin.geq ?_ | refine Un.not ?_ | refine Ext.mk rfl ?_ | refine Pick.mk ?_ | refine Bin.ptrNil ?_ | refine Bin.mapNil ?_ | refine Bin.nilNil ?_ | refine Br.yes ?_ | refine Br.no ?_))
    intro J hJ
    obtain ⟨hp1, hp2, hp3, hp4⟩ := push_pre (a := (x, k)) hc hO h1 hx
    have hrest : ∀ mb Cm', MOwn .i64 idx (.map (some mb)) f Cm' → J [] ((bh, Obj.cells #[sv, .map (some mb)] 42 (0, 0)) :: (Cs ++ (Cm' ++ F))) := by
      intro mb Cm' hm'
      refine hJ _ fun gs => ?_
      (repeat (first | refine Nil.ptr ?_ | refine FAddr.mk ?_ | refine Ld.mk (by repeat (first | exact List.Mem.head _ | apply List.Mem.tail)) rfl ?_ | refine LenS.mk ?_ | refine Bin.eql ?_ | refine Bin.neq ?_ | refine Bin.lss ?_ | refine Bin.leq ?_ | refine Bin.gtr ?_ | refine Bin.geq ?_ | refine Un.not ?_ | refine Ext.mk rfl ?_ | refine Pick.mk ?_ | refine Bin.ptrNil ?_ | refine Bin.mapNil ?_ | refine Bin.nilNil ?_ | refine Br.yes ?_ | refine Br.no ?_))
      refine Build.mk (cs := enc .i64 (x, k)) (by kernel_rfl) ?_
      refine BuildSl.one (k := 2) (e := 95) (z := .agg #[.int .i64 0, .int .i64 0]) (by kernel_rfl) (by kernel_rfl) (by kernel_rfl) (by decide) rfl fun xb => ?_
      refine hs.app' (A := [_, _]) (B := Cm' ++ F) (r := enc .i64 (x, k)) (by repeat (first | exact List.Mem.head _ | apply List.Mem.tail)) rfl (enc_one _ _) ⟨[.int .i64 0, .int .i64 0], rfl, rfl⟩ (by rw [encL_length]; omega) (by rw [encL_length]; omega) fun v' C' hs' => ?_
      (repeat (first | refine Nil.ptr ?_ | refine FAddr.mk ?_ | refine Ld.mk (by repeat (first | exact List.Mem.head _ | apply List.Mem.tail)) rfl ?_ | refine LenS.mk ?_ | refine Bin.eql ?_ | refine Bin.neq ?_ | refine Bin.lss ?_ | refine Bin.leq ?_ | refine Bin.gtr ?_ | refine Bin.geq ?_ | refine Un.not ?_ | refine Ext.mk rfl ?_ | refine Pick.mk ?_ | refine Bin.ptrNil ?_ | refine Bin.mapNil ?_ | refine Bin.nilNil ?_ | refine Br.yes ?_ | refine Br.no ?_))
      refine St.one (by repeat (first | exact Upd.head _ | apply Upd.tail)) (by obtain ⟨a, c, rfl⟩ := hs'.len; rfl) (by simp) rfl ?_
      (repeat (first | refine Nil.ptr ?_ | refine FAddr.mk ?_ | refine Ld.mk (by repeat (first | exact List.Mem.head _ | apply List.Mem.tail)) rfl ?_ | refine LenS.mk ?_ | refine Bin.eql ?_ | refine Bin.neq ?_ | refine Bin.lss ?_ | refine Bin.leq ?_ | refine Bin.gtr ?_ | refine Bin.geq ?_ | refine Un.not ?_ | refine Ext.mk rfl ?_ | refine Pick.mk ?_ | refine Bin.ptrNil ?_ | refine Bin.mapNil ?_ | refine Bin.nilNil ?_ | refine Br.yes ?_ | refine Br.no ?_))
      refine hs'.lenS ?_
      refine Bin.sub64 (c := ((l.length : Nat) : Int)) (by rw [List.length_append, encL_length]; simp) (by omega) ?_
      have hs2 : SOwn 95 2 v' (encL .i64 (l ++ [(x, k)])) C' := by simpa [encL] using hs'
      have ho' : HO .i64 95 42 (.pointer (some ⟨bh, 0, none⟩)) (l ++ [(x, k)]) f ((bh, Obj.cells #[v', .map (some mb)] 42 (0, 0)) :: (C' ++ Cm')) :=
        ⟨bh, _, _, C', Cm', rfl, rfl, hs2, hm', fun h => by simp at h⟩
      refine CallF.at ?_ (upN ho' (i := l.length) (by simp) (by simp; omega) hp1 hp2 hp3 F) ?_
      · exact fun g w h => by have := h.tail; simpa using this
      · rintro e H' ⟨l', f', C'', p, rfl, rfl, ho2, hperm, hc2, hex, hp, hat, hord⟩
        refine ⟨_, .refl _, l', C'', rfl, ⟨f', ho2, hc2, hord hp4, hp3.perm hperm⟩, .inr ⟨hx, rfl, hperm.trans ?_⟩⟩
        exact List.perm_append_comm (l₁ := l) (l₂ := [(x, k)])
    (repeat (first | refine Nil.ptr ?_ | refine FAddr.mk ?_ | refine Ld.mk (by repeat (first | exact List.Mem.head _ | apply List.Mem.tail)) rfl ?_ | refine LenS.mk ?_ | refine Bin.eql ?_ | refine Bin.neq ?_ | refine Bin.lss ?_ | refine Bin.leq ?_ | refine Bin.gtr ?_ | refine Bin.geq ?_ | refine Un.not ?_ | refine Ext.mk rfl ?_ | refine Pick.mk ?_ | refine Bin.ptrNil ?_ | refine Bin.mapNil ?_ | refine Bin.nilNil ?_ | refine Br.yes ?_ | refine Br.no ?_))
    rcases hm with ⟨rfl, rfl, hfn⟩ | ⟨mb, m, ck, rfl, h2⟩
    · (repeat (first | refine Nil.ptr ?_ | refine FAddr.mk ?_ | refine Ld.mk (by repeat (first | exact List.Mem.head _ | apply List.Mem.tail)) rfl ?_ | refine LenS.mk ?_ | refine Bin.eql ?_ | refine Bin.neq ?_ | refine Bin.lss ?_ | refine Bin.leq ?_ | refine Bin.gtr ?_ | refine Bin.geq ?_ | refine Un.not ?_ | refine Ext.mk rfl ?_ | refine Pick.mk ?_ | refine Bin.ptrNil ?_ | refine Bin.mapNil ?_ | refine Bin.nilNil ?_ | refine Br.yes ?_ | refine Br.no ?_))
      intro mb _
      (repeat (first | refine Nil.ptr ?_ | refine FAddr.mk ?_ | refine Ld.mk (by repeat (first | exact List.Mem.head _ | apply List.Mem.tail)) rfl ?_ | refine LenS.mk ?_ | refine Bin.eql ?_ | refine Bin.neq ?_ | refine Bin.lss ?_ | refine Bin.leq ?_ | refine Bin.gtr ?_ | refine Bin.geq ?_ | refine Un.not ?_ | refine Ext.mk rfl ?_ | refine Pick.mk ?_ | refine Bin.ptrNil ?_ | refine Bin.mapNil ?_ | refine Bin.nilNil ?_ | refine Br.yes ?_ | refine Br.no ?_))
      refine St.one (by repeat (first | exact Upd.head _ | apply Upd.tail)) rfl (by simp) rfl ?_
      refine JE.of ?_ (hrest mb _ (by rw [hfn]; exact MOwn.made mb))
      simp only [List.append_nil]
      exact Ent.segs [[_], [_], Cs, F] [[_], Cs, [_], F] (by
        refine (List.Perm.swap _ _ _).trans (.cons _ (.swap _ _ _)))
    · (repeat (first | refine Nil.ptr ?_ | refine FAddr.mk ?_ | refine Ld.mk (by repeat (first | exact List.Mem.head _ | apply List.Mem.tail)) rfl ?_ | refine LenS.mk ?_ | refine Bin.eql ?_ | refine Bin.neq ?_ | refine Bin.lss ?_ | refine Bin.leq ?_ | refine Bin.gtr ?_ | refine Bin.geq ?_ | refine Un.not ?_ | refine Ext.mk rfl ?_ | refine Pick.mk ?_ | refine Bin.ptrNil ?_ | refine Bin.mapNil ?_ | refine Bin.nilNil ?_ | refine Br.yes ?_ | refine Br.no ?_))
      refine JE.mk ?_
      simp only [List.cons_append, List.append_assoc]
      exact hrest mb Cm (.inr ⟨mb, m, ck, rfl, h2⟩)
  · refine hm.look_some (fun y hy => by simp [hy]) hf ?_
    (repeat (first | refine Nil.ptr ?_ | refine FAddr.mk ?_ | refine Ld.mk (by repeat (first | exact List.Mem.head _ | apply List.Mem.tail)) rfl ?_ | refine LenS.mk ?_ | refine Bin.eql ?_ | refine Bin.neq ?_ | refine Bin.lss ?_ | refine Bin.leq ?_ | refine Bin.gtr ?_ | refine Bin.geq ?_ | refine Un.not ?_ | refine Ext.mk rfl ?_ | refine Pick.mk ?_ | refine Bin.ptrNil ?_ | refine Bin.mapNil ?_ | refine Bin.nilNil ?_ | refine Br.yes ?_ | refine Br.no ?_))
    refine ⟨l, _, rfl, hi0, .inl ⟨?_, rfl, rfl⟩⟩
    rw [mem_things]; exact ⟨i, hi, hx⟩
end Go.Proofs
