import Derived.Test.YtbockhcoeefobaaT5
set_option linter.unusedVariables false
set_option linter.unusedSimpArgs false
set_option maxRecDepth 100000
namespace Go.Proofs
open Go Go.Sx HpA
theorem moveU {g : World} {h : Value} {l : List It} {C : Hp} (hi : HI .u64 75 71 h l C) (hmax : l.length < 4398046511104) (x k : Int) (F : Hp) :
    SCalls Try.prog g 12 #[h, .int .u64 x, .int .i64 k] (C ++ F) (fun e H' => ∃ l' C', H' = C' ++ F ∧ HI .u64 75 71 h l' C' ∧
      ((x ∉ l.map Prod.fst ∧ e = .returned (.int .i64 10) ∧ l' = l) ∨ (∃ k0 r, l.Perm ((x, k0) :: r) ∧ l'.Perm ((x, k) :: r) ∧ e = .returned (.int .i64 0)))) := by
  have hi0 := hi
  obtain ⟨f, ho, hc, hO, h1⟩ := hi
  refine L12_sound ?_
  unfold L12
  rcases cons_get hc (x := x) with ⟨hx, hf⟩ | ⟨i, hi, hx, hf⟩
  · obtain ⟨bh, sv, mv, Cs, Cm, rfl, rfl, hs, hm, hne⟩ := ho
    (repeat (first | refine Nil.ptr ?_ | refine FAddr.mk ?_ | refine Ld.mk (by repeat (first | exact List.Mem.head _ | apply List.Mem.tail)) rfl ?_ | refine LenS.mk ?_ | refine Bin.eql ?_ | refine Bin.neq ?_ | refine Bin.lss ?_ | refine Bin.leq ?_ | refine Bin.gtr ?_ | refine Bin.geq ?_ | refine Un.not ?_ | refine Ext.mk rfl ?_ | refine Pick.mk ?_ | refine Bin.ptrNil ?_ | refine Bin.mapNil ?_ | refine Bin.nilNil ?_ | refine Br.yes ?_ | refine Br.no ?_))
    refine hm.look_none (fun y hy => by simp [hy]) hf ?_
    (repeat (first | refine Nil.ptr ?_ | refine FAddr.mk ?_ | refine Ld.mk (by repeat (first | exact List.Mem.head _ | apply List.Mem.tail)) rfl ?_ | refine LenS.mk ?_ | refine Bin.eql ?_ | refine Bin.neq ?_ | refine Bin.lss ?_ | refine Bin.leq ?_ | refine Bin.gtr ?_ | refine Bin.geq ?_ | refine Un.not ?_ | refine Ext.mk rfl ?_ | refine Pick.mk ?_ | refine Bin.ptrNil ?_ | refine Bin.mapNil ?_ | refine Bin.nilNil ?_ | refine Br.yes ?_ | refine Br.no ?_))
    exact ⟨l, _, rfl, hi0, .inl ⟨hx, rfl, rfl⟩⟩
  · obtain ⟨bh, la, mb, junk, Cm, rfl, rfl, hall, hm⟩ := ho.open (by omega)
    (repeat (first | refine Nil.ptr ?_ | refine FAddr.mk ?_ | refine Ld.mk (by repeat (first | exact List.Mem.head _ | apply List.Mem.tail)) rfl ?_ | refine LenS.mk ?_ | refine Bin.eql ?_ | refine Bin.neq ?_ | refine Bin.lss ?_ | refine Bin.leq ?_ | refine Bin.gtr ?_ | refine Bin.geq ?_ | refine Un.not ?_ | refine Ext.mk rfl ?_ | refine Pick.mk ?_ | refine Bin.ptrNil ?_ | refine Bin.mapNil ?_ | refine Bin.nilNil ?_ | refine Br.yes ?_ | refine Br.no ?_))
    refine hm.look_some (fun y hy => by simp [hy]) hf ?_
    (repeat (first | refine Nil.ptr ?_ | refine FAddr.mk ?_ | refine Ld.mk (by repeat (first | exact List.Mem.head _ | apply List.Mem.tail)) rfl ?_ | refine LenS.mk ?_ | refine Bin.eql ?_ | refine Bin.neq ?_ | refine Bin.lss ?_ | refine Bin.leq ?_ | refine Bin.gtr ?_ | refine Bin.geq ?_ | refine Un.not ?_ | refine Ext.mk rfl ?_ | refine Pick.mk ?_ | refine Bin.ptrNil ?_ | refine Bin.mapNil ?_ | refine Bin.nilNil ?_ | refine Br.yes ?_ | refine Br.no ?_))
    refine IAddr.nat hi ?_
    (repeat (first | refine Nil.ptr ?_ | refine FAddr.mk ?_ | refine Ld.mk (by repeat (first | exact List.Mem.head _ | apply List.Mem.tail)) rfl ?_ | refine LenS.mk ?_ | refine Bin.eql ?_ | refine Bin.neq ?_ | refine Bin.lss ?_ | refine Bin.leq ?_ | refine Bin.gtr ?_ | refine Bin.geq ?_ | refine Un.not ?_ | refine Ext.mk rfl ?_ | refine Pick.mk ?_ | refine Bin.ptrNil ?_ | refine Bin.mapNil ?_ | refine Bin.nilNil ?_ | refine Br.yes ?_ | refine Br.no ?_))
    refine St.cell (l := encL .u64 l ++ junk) (j := 1) (by repeat (first | exact Upd.head _ | apply Upd.tail)) hall (encL_get hi junk) (by decide) rfl ?_
    obtain ⟨p1, p2, p3⟩ := move_pre hc hO h1 hi k
    have hset : (encL .u64 l ++ junk).set i ((enc .u64 (at' l i)).set 1 (.int .i64 k)) = encL .u64 (l.set i ((at' l i).1, k)) ++ junk := by
      rw [← encL_set hi]; rfl
    rw [hset]
    obtain ⟨r, hr1, hr2⟩ := perm_at hi ((at' l i).1, k)
    have ho' : HO .u64 75 71 (.pointer (some ⟨bh, 0, none⟩)) (l.set i ((at' l i).1, k)) f ((bh, Obj.cells #[.slice (some ⟨la, 0, none⟩) l.length (l.length + junk.length), .map (some mb)] 71 (0, 0)) :: (la, .cells (rows (encL .u64 (l.set i ((at' l i).1, k)) ++ junk)) 75 (0, 0)) :: Cm) :=
      .shut (rows_two hall _ _) (by simp) (by simp) hm
    refine CallF.at (.refl _) (upU ho' (i := i) (by simpa using hi) (by simp; omega) p1 p2 p3 F) ?_
    rintro e H' ⟨l', f', C', p, rfl, rfl, ho2, hperm, hc2, hex, hp, hat, _⟩
    refine ⟨_, .refl _, ?_⟩
    have hO2 := p3.perm hperm
    have hlen := hperm.length_eq
    simp only [List.length_set] at hlen
    obtain ⟨bh', la', mb', junk', Cm', hbh, rfl, hall', hm'⟩ := ho2.open (by omega)
    simp only [Value.pointer.injEq, Option.some.injEq, Addr.mk.injEq, and_true] at hbh
    subst hbh
    have hfx : f' x = some p := by
      have := hc2.1 p hp
      rw [hat, at_set _ hi] at this
      simp only [fset, if_true] at this
      rw [← hx]; exact this
    (repeat (first | refine Nil.ptr ?_ | refine FAddr.mk ?_ | refine Ld.mk (by repeat (first | exact List.Mem.head _ | apply List.Mem.tail)) rfl ?_ | refine LenS.mk ?_ | refine Bin.eql ?_ | refine Bin.neq ?_ | refine Bin.lss ?_ | refine Bin.leq ?_ | refine Bin.gtr ?_ | refine Bin.geq ?_ | refine Un.not ?_ | refine Ext.mk rfl ?_ | refine Pick.mk ?_ | refine Bin.ptrNil ?_ | refine Bin.mapNil ?_ | refine Bin.nilNil ?_ | refine Br.yes ?_ | refine Br.no ?_))
    refine hm'.look_some (fun y hy => by simp [hy]) hfx ?_
    refine CallF.at (.refl _) (downU (.shut hall' rfl rfl hm') (i := p) hp (by omega) hex (hc2.x p) hO2 F) ?_
    rintro e H' ⟨l2, f2, C2, rfl, rfl, ho3, hperm2, hc3, hord⟩
    refine ⟨_, .refl _, l2, C2, rfl, ⟨f2, ho3, hc3, hord, hO2.perm hperm2⟩, .inr ⟨(at' l i).2, r, ?_, ?_, rfl⟩⟩
    · rw [← hx]; exact hr1
    · rw [← hx]; exact hperm2.trans (hperm.trans hr2)
theorem popU {g : World} {h : Value} {l : List It} {C : Hp} (hi : HI .u64 75 71 h l C) (hmax : l.length < 4398046511104) (F : Hp) :
    SCalls Try.prog g 13 #[h] (C ++ F) (fun e H' => ∃ l' C', H' = C' ++ F ∧ HI .u64 75 71 h l' C' ∧
      ((l = [] ∧ e = .returned (.tuple #[.int .u64 0, .int .i64 0, .int .i64 10]) ∧ l' = l) ∨ (∃ a, l.Perm (a :: l') ∧ (∀ b ∈ l, prec b a = false) ∧ e = .returned (.tuple #[.int .u64 a.1, .int .i64 a.2, .int .i64 0])))) := by
  have hi0 := hi
  obtain ⟨f, ho, hc, hO, h1⟩ := hi
  by_cases hl : l = []
  · subst hl
    refine L13_sound ?_
    unfold L13
    obtain ⟨bh, sv, mv, Cs, Cm, rfl, rfl, hs, hm, hne⟩ := ho
    (repeat (first | refine Nil.ptr ?_ | refine FAddr.mk ?_ | refine Ld.mk (by repeat (first | exact List.Mem.head _ | apply List.Mem.tail)) rfl ?_ | refine LenS.mk ?_ | refine Bin.eql ?_ | refine Bin.neq ?_ | refine Bin.lss ?_ | refine Bin.leq ?_ | refine Bin.gtr ?_ | refine Bin.geq ?_ | refine Un.not ?_ | refine Ext.mk rfl ?_ | refine Pick.mk ?_ | refine Bin.ptrNil ?_ | refine Bin.mapNil ?_ | refine Bin.nilNil ?_ | refine Br.yes ?_ | refine Br.no ?_))
    refine Grp.or true (fun _ => ?_) rfl fun _ => ?_
    · (repeat (first | refine Nil.ptr ?_ | refine FAddr.mk ?_ | refine Ld.mk (by repeat (first | exact List.Mem.head _ | apply List.Mem.tail)) rfl ?_ | refine LenS.mk ?_ | refine Bin.eql ?_ | refine Bin.neq ?_ | refine Bin.lss ?_ | refine Bin.leq ?_ | refine Bin.gtr ?_ | refine Bin.geq ?_ | refine Un.not ?_ | refine Ext.mk rfl ?_ | refine Pick.mk ?_ | refine Bin.ptrNil ?_ | refine Bin.mapNil ?_ | refine Bin.nilNil ?_ | refine Br.yes ?_ | refine Br.no ?_))
      refine hs.lenS ?_
      (repeat (first | refine Nil.ptr ?_ | refine FAddr.mk ?_ | refine Ld.mk (by repeat (first | exact List.Mem.head _ | apply List.Mem.tail)) rfl ?_ | refine LenS.mk ?_ | refine Bin.eql ?_ | refine Bin.neq ?_ | refine Bin.lss ?_ | refine Bin.leq ?_ | refine Bin.gtr ?_ | refine Bin.geq ?_ | refine Un.not ?_ | refine Ext.mk rfl ?_ | refine Pick.mk ?_ | refine Bin.ptrNil ?_ | refine Bin.mapNil ?_ | refine Bin.nilNil ?_ | refine Br.yes ?_ | refine Br.no ?_))
      exact ⟨rfl, rfl⟩
    · (repeat (first | refine Nil.ptr ?_ | refine FAddr.mk ?_ | refine Ld.mk (by repeat (first | exact List.Mem.head _ | apply List.Mem.tail)) rfl ?_ | refine LenS.mk ?_ | refine Bin.eql ?_ | refine Bin.neq ?_ | refine Bin.lss ?_ | refine Bin.leq ?_ | refine Bin.gtr ?_ | refine Bin.geq ?_ | refine Un.not ?_ | refine Ext.mk rfl ?_ | refine Pick.mk ?_ | refine Bin.ptrNil ?_ | refine Bin.mapNil ?_ | refine Bin.nilNil ?_ | refine Br.yes ?_ | refine Br.no ?_))
      exact ⟨[], _, rfl, hi0, .inl ⟨rfl, rfl, rfl⟩⟩
  · obtain ⟨n, hn⟩ : ∃ n, l.length = n + 1 := ⟨l.length - 1, by have := List.length_pos_iff.2 hl; omega⟩
    have hmin : ∀ b ∈ l, prec b (at' l 0) = false := fun b hb => by
      obtain ⟨j, hj, e⟩ := List.mem_iff_getElem.1 hb
      have := ord_min hO j hj
      rwa [show at' l j = b by simp [at', List.getD, hj, e]] at this
    refine (L13_sound (R := fun e H' => ∃ G l' C', H' = G ++ (C' ++ F) ∧ HI .u64 75 71 h l' C' ∧ l.Perm (at' l 0 :: l') ∧ e = .returned (.tuple #[.int .u64 (at' l 0).1, .int .i64 (at' l 0).2, .int .i64 0])) ?_).post ?_
    · obtain ⟨bh, la, mb, junk, Cm, rfl, rfl, hall, hm⟩ := ho.open (by omega)
      unfold L13
      (repeat (first | refine Nil.ptr ?_ | refine FAddr.mk ?_ | refine Ld.mk (by repeat (first | exact List.Mem.head _ | apply List.Mem.tail)) rfl ?_ | refine LenS.mk ?_ | refine Bin.eql ?_ | refine Bin.neq ?_ | refine Bin.lss ?_ | refine Bin.leq ?_ | refine Bin.gtr ?_ | refine Bin.geq ?_ | refine Un.not ?_ | refine Ext.mk rfl ?_ | refine Pick.mk ?_ | refine Bin.ptrNil ?_ | refine Bin.mapNil ?_ | refine Bin.nilNil ?_ | refine Br.yes ?_ | refine Br.no ?_))
      refine Grp.or false (fun _ => ?_) rfl fun _ => ?_
      · (repeat (first | refine Nil.ptr ?_ | refine FAddr.mk ?_ | refine Ld.mk (by repeat (first | exact List.Mem.head _ | apply List.Mem.tail)) rfl ?_ | refine LenS.mk ?_ | refine Bin.eql ?_ | refine Bin.neq ?_ | refine Bin.lss ?_ | refine Bin.leq ?_ | refine Bin.gtr ?_ | refine Bin.geq ?_ | refine Un.not ?_ | refine Ext.mk rfl ?_ | refine Pick.mk ?_ | refine Bin.ptrNil ?_ | refine Bin.mapNil ?_ | refine Bin.nilNil ?_ | refine Br.yes ?_ | refine Br.no ?_))
        exact ⟨rfl, by rw [hn]; simp; omega⟩
      (repeat (first | refine Nil.ptr ?_ | refine FAddr.mk ?_ | refine Ld.mk (by repeat (first | exact List.Mem.head _ | apply List.Mem.tail)) rfl ?_ | refine LenS.mk ?_ | refine Bin.eql ?_ | refine Bin.neq ?_ | refine Bin.lss ?_ | refine Bin.leq ?_ | refine Bin.gtr ?_ | refine Bin.geq ?_ | refine Un.not ?_ | refine Ext.mk rfl ?_ | refine Pick.mk ?_ | refine Bin.ptrNil ?_ | refine Bin.mapNil ?_ | refine Bin.nilNil ?_ | refine Br.yes ?_ | refine Br.no ?_))
      refine IAddr.of 0 rfl (by omega) ?_
      refine LdA.row (l := encL .u64 l ++ junk) (by repeat (first | exact List.Mem.head _ | apply List.Mem.tail)) hall (encL_get (by omega) junk) ?_
      intro b14 _
      refine St.whole (r := enc .u64 (at' l 0)) (by repeat (first | exact Upd.head _ | apply Upd.tail)) rfl rfl (enc_one _ _) ?_
      (repeat (first | refine Nil.ptr ?_ | refine FAddr.mk ?_ | refine Ld.mk (by repeat (first | exact List.Mem.head _ | apply List.Mem.tail)) rfl ?_ | refine LenS.mk ?_ | refine Bin.eql ?_ | refine Bin.neq ?_ | refine Bin.lss ?_ | refine Bin.leq ?_ | refine Bin.gtr ?_ | refine Bin.geq ?_ | refine Un.not ?_ | refine Ext.mk rfl ?_ | refine Pick.mk ?_ | refine Bin.ptrNil ?_ | refine Bin.mapNil ?_ | refine Bin.nilNil ?_ | refine Br.yes ?_ | refine Br.no ?_))
      refine Bin.sub64 (c := (n : Int)) (by rw [hn]; simp) (by omega) ?_
      (repeat (first | refine Nil.ptr ?_ | refine FAddr.mk ?_ | refine Ld.mk (by repeat (first | exact List.Mem.head _ | apply List.Mem.tail)) rfl ?_ | refine LenS.mk ?_ | refine Bin.eql ?_ | refine Bin.neq ?_ | refine Bin.lss ?_ | refine Bin.leq ?_ | refine Bin.gtr ?_ | refine Bin.geq ?_ | refine Un.not ?_ | refine Ext.mk rfl ?_ | refine Pick.mk ?_ | refine Bin.ptrNil ?_ | refine Bin.mapNil ?_ | refine Bin.nilNil ?_ | refine Br.yes ?_ | refine Br.no ?_))
      refine IAddr.nat (by omega) ?_
      refine LdA.row (l := encL .u64 l ++ junk) (by repeat (first | exact List.Mem.head _ | apply List.Mem.tail)) hall (encL_get (by omega) junk) ?_
      intro b27 _
      refine St.whole (r := enc .u64 (at' l n)) (by repeat (first | exact Upd.head _ | apply Upd.tail)) rfl rfl (enc_one _ _) ?_
      (repeat (first | refine Nil.ptr ?_ | refine FAddr.mk ?_ | refine Ld.mk (by repeat (first | exact List.Mem.head _ | apply List.Mem.tail)) rfl ?_ | refine LenS.mk ?_ | refine Bin.eql ?_ | refine Bin.neq ?_ | refine Bin.lss ?_ | refine Bin.leq ?_ | refine Bin.gtr ?_ | refine Bin.geq ?_ | refine Un.not ?_ | refine Ext.mk rfl ?_ | refine Pick.mk ?_ | refine Bin.ptrNil ?_ | refine Bin.mapNil ?_ | refine Bin.nilNil ?_ | refine Br.yes ?_ | refine Br.no ?_))
      refine SliceE.upto (h := n) (by omega) ?_
      (repeat (first | refine Nil.ptr ?_ | refine FAddr.mk ?_ | refine Ld.mk (by repeat (first | exact List.Mem.head _ | apply List.Mem.tail)) rfl ?_ | refine LenS.mk ?_ | refine Bin.eql ?_ | refine Bin.neq ?_ | refine Bin.lss ?_ | refine Bin.leq ?_ | refine Bin.gtr ?_ | refine Bin.geq ?_ | refine Un.not ?_ | refine Ext.mk rfl ?_ | refine Pick.mk ?_ | refine Bin.ptrNil ?_ | refine Bin.mapNil ?_ | refine Bin.nilNil ?_ | refine Br.yes ?_ | refine Br.no ?_))
      refine St.one (by repeat (first | exact Upd.head _ | apply Upd.tail)) rfl (by simp) rfl ?_
      refine ⟨[_, _, _], .left (A := [_, _, _]), ?_⟩
      (repeat (first | refine Nil.ptr ?_ | refine FAddr.mk ?_ | refine Ld.mk (by repeat (first | exact List.Mem.head _ | apply List.Mem.tail)) rfl ?_ | refine LenS.mk ?_ | refine Bin.eql ?_ | refine Bin.neq ?_ | refine Bin.lss ?_ | refine Bin.leq ?_ | refine Bin.gtr ?_ | refine Bin.geq ?_ | refine Un.not ?_ | refine Ext.mk rfl ?_ | refine Pick.mk ?_ | refine Bin.ptrNil ?_ | refine Bin.mapNil ?_ | refine Bin.nilNil ?_ | refine Br.yes ?_ | refine Br.no ?_))
      refine MOwn.del (A := [_, _, _, _]) hm fun Cm' hm' => ?_
      have hrows : encL .u64 l ++ junk = encL .u64 (l.take n) ++ (enc .u64 (at' l n) :: junk) := by
        have e : l = l.take n ++ [at' l n] := by
          have h2 : l.drop n = [at' l n] := by
            rw [List.drop_eq_getElem_cons (by omega), List.drop_eq_nil_of_le (by omega)]
            simp [hn, at', List.getD]
          have := (List.take_append_drop n l).symm
          rw [h2] at this; exact this
        conv => lhs; rw [e]
        simp [encL]
      have hall' : ∀ r ∈ encL .u64 (l.take n) ++ (enc .u64 (at' l n) :: junk), r.length = 2 := by rw [← hrows]; exact hall
      intro J hJ
      have hlt : (l.take n).length = n := by simp [hn]
      have hrest : ∀ l' C', HI .u64 75 71 (.pointer (some ⟨bh, 0, none⟩)) l' C' → l.Perm (at' l 0 :: l') → J [] ([(b27, Obj.cells (enc .u64 (at' l n)).toArray 75 (0, 0)), (b14, Obj.cells (enc .u64 (at' l 0)).toArray 75 (0, 0))] ++ (C' ++ F)) := by
        intro l' C' hi' hp'
        refine hJ _ fun gs => ?_
        (repeat (first | refine Nil.ptr ?_ | refine FAddr.mk ?_ | refine Ld.mk (by repeat (first | exact List.Mem.head _ | apply List.Mem.tail)) rfl ?_ | refine LenS.mk ?_ | refine Bin.eql ?_ | refine Bin.neq ?_ | refine Bin.lss ?_ | refine Bin.leq ?_ | refine Bin.gtr ?_ | refine Bin.geq ?_ | refine Un.not ?_ | refine Ext.mk rfl ?_ | refine Pick.mk ?_ | refine Bin.ptrNil ?_ | refine Bin.mapNil ?_ | refine Bin.nilNil ?_ | refine Br.yes ?_ | refine Br.no ?_))
        exact ⟨_, l', C', rfl, hi', hp', rfl⟩
      (repeat (first | refine Nil.ptr ?_ | refine FAddr.mk ?_ | refine Ld.mk (by repeat (first | exact List.Mem.head _ | apply List.Mem.tail)) rfl ?_ | refine LenS.mk ?_ | refine Bin.eql ?_ | refine Bin.neq ?_ | refine Bin.lss ?_ | refine Bin.leq ?_ | refine Bin.gtr ?_ | refine Bin.geq ?_ | refine Un.not ?_ | refine Ext.mk rfl ?_ | refine Pick.mk ?_ | refine Bin.ptrNil ?_ | refine Bin.mapNil ?_ | refine Bin.nilNil ?_ | refine Br.yes ?_ | refine Br.no ?_))
      have ho1 : HO .u64 75 71 (.pointer (some ⟨bh, 0, none⟩)) (l.take n) (upf f (at' l 0).1 none) ((bh, Obj.cells #[.slice (some ⟨la, 0, none⟩) n (l.length + junk.length), .map (some mb)] 71 (0, 0)) :: (la, .cells (rows (encL .u64 l ++ junk)) 75 (0, 0)) :: Cm') := by
        rw [hrows]
        exact .shut hall' hlt.symm (by simp [hn]; omega) hm'
      refine Br.mk (fun h0 => ?_) (fun h0 => ?_)
      · have h0 : 0 < n := by simpa using h0
        obtain ⟨_, q1, q2, q3, q4⟩ := pop_pre hc hO h1 hn h0
        refine LdA.whole (r := enc .u64 (at' l n)) (by repeat (first | exact List.Mem.head _ | apply List.Mem.tail)) rfl ?_
        refine CallF.at (Ent.swap3 [_, _] (_ :: _ :: Cm') F) (putU ho1 (i := 0) (by omega) (at' l n) _) ?_
        rintro e H' ⟨C2, rfl, rfl, ho2⟩
        refine ⟨_, .refl _, ?_⟩
        have hcx : ConsX ((l.take n).set 0 (at' l n)) (upf (upf f (at' l 0).1 none) (at' l n).1 (some 0)) 0 := by
          refine ⟨fun j hj hj0 => ?_, fun x hx => ?_⟩
          · unfold upf
            rw [if_neg]
            · exact q4.1 j hj hj0
            · intro e
              have h00 : at' ((l.take n).set 0 (at' l n)) 0 = at' l n := by rw [at_set _ (by omega)]; simp [fset]
              exact hj0 (q3.inj hj (by simp; omega) (by rw [e, h00]))
          · unfold upf
            rw [if_neg]
            · exact q4.2 x hx
            · intro e
              refine hx (mem_things.2 ⟨0, by simp; omega, ?_⟩)
              rw [at_set _ (by omega)]; simp [fset, e]
        refine CallF.at (.refl _) (downU ho2 (i := 0) (by simp; omega) (by simp; omega) (by simpa [hn] using q2) hcx q3 _) ?_
        rintro e H' ⟨l3, f3, C3, rfl, rfl, ho3, hperm3, hc3, hord3⟩
        refine ⟨_, .refl _, ?_⟩
        exact JE.of (Ent.swap3 C3 [_, _] F) (hrest l3 C3 ⟨f3, ho3, hc3, hord3, q3.perm hperm3⟩ ((hperm3.cons (at' l 0)).trans q1).symm)
      · have h0 : n = 0 := by simp at h0; omega
        subst h0
        refine JE.mk (hrest (l.take 0) _ ⟨_, ho1, ⟨fun j hj => by simp at hj, fun x _ => ?_⟩, fun j _ hj => by simp at hj, by simp [Once]⟩ ?_)
        · unfold upf
          split
          · rfl
          · rename_i hne
            refine hc.2 x fun hm => hne ?_
            obtain ⟨j, hj, e⟩ := mem_things.1 hm
            rw [show j = 0 by omega] at e; exact e.symm
        · match l, hn with
          | [a], _ => exact .refl _
    · rintro e H' ⟨G, l', C', rfl, h, hp, rfl⟩
      exact ⟨_, .right, l', C', rfl, h, .inr ⟨_, hp, hmin, rfl⟩⟩
theorem moveI {g : World} {h : Value} {l : List It} {C : Hp} (hi : HI .i64 90 88 h l C) (hmax : l.length < 4398046511104) (x k : Int) (F : Hp) :
    SCalls Try.prog g 25 #[h, .int .i64 x, .int .i64 k] (C ++ F) (fun e H' => ∃ l' C', H' = C' ++ F ∧ HI .i64 90 88 h l' C' ∧
      ((x ∉ l.map Prod.fst ∧ e = .returned (.int .i64 10) ∧ l' = l) ∨ (∃ k0 r, l.Perm ((x, k0) :: r) ∧ l'.Perm ((x, k) :: r) ∧ e = .returned (.int .i64 0)))) := by
  have hi0 := hi
  obtain ⟨f, ho, hc, hO, h1⟩ := hi
  refine L25_sound ?_
  unfold L25
  rcases cons_get hc (x := x) with ⟨hx, hf⟩ | ⟨i, hi, hx, hf⟩
  · obtain ⟨bh, sv, mv, Cs, Cm, rfl, rfl, hs, hm, hne⟩ := ho
    (repeat (first | refine Nil.ptr ?_ | refine FAddr.mk ?_ | refine Ld.mk (by repeat (first | exact List.Mem.head _ | apply List.Mem.tail)) rfl ?_ | refine LenS.mk ?_ | refine Bin.eql ?_ | refine Bin.neq ?_ | refine Bin.lss ?_ | refine Bin.leq ?_ | refine Bin.gtr ?_ | refine Bin.geq ?_ | refine Un.not ?_ | refine Ext.mk rfl ?_ | refine Pick.mk ?_ | refine Bin.ptrNil ?_ | refine Bin.mapNil ?_ | refine Bin.nilNil ?_ | refine Br.yes ?_ | refine Br.no ?_))
    refine hm.look_none (fun y hy => by simp [hy]) hf ?_
    (repeat (first | refine Nil.ptr ?_ | refine FAddr.mk ?_ | refine Ld.mk (by repeat (first | exact List.Mem.head _ | apply List.Mem.tail)) rfl ?_ | refine LenS.mk ?_ | refine Bin.eql ?_ | refine Bin.neq ?_ | refine Bin.lss ?_ | refine Bin.leq ?_ | refine Bin.gtr ?_ | refine Bin.geq ?_ | refine Un.not ?_ | refine Ext.mk rfl ?_ | refine Pick.mk ?_ | refine Bin.ptrNil ?_ | refine Bin.mapNil ?_ | refine Bin.nilNil ?_ | refine Br.yes ?_ | refine Br.no ?_))
    exact ⟨l, _, rfl, hi0, .inl ⟨hx, rfl, rfl⟩⟩
  · obtain ⟨bh, la, mb, junk, Cm, rfl, rfl, hall, hm⟩ := ho.open (by omega)
    (repeat (first | refine Nil.ptr ?_ | refine FAddr.mk ?_ | refine Ld.mk (by repeat (first | exact List.Mem.head _ | apply List.Mem.tail)) rfl ?_ | refine LenS.mk ?_ | refine Bin.eql ?_ | refine Bin.neq ?_ | refine Bin.lss ?_ | refine Bin.leq ?_ | refine Bin.gtr ?_ | refine Bin.geq ?_ | refine Un.not ?_ | refine Ext.mk rfl ?_ | refine Pick.mk ?_ | refine Bin.ptrNil ?_ | refine Bin.mapNil ?_ | refine Bin.nilNil ?_ | refine Br.yes ?_ | refine Br.no ?_))
    refine hm.look_some (fun y hy => by simp [hy]) hf ?_
    (repeat (first | refine Nil.ptr ?_ | refine FAddr.mk ?_ | refine Ld.mk (by repeat (first | exact List.Mem.head _ | apply List.Mem.tail)) rfl ?_ | refine LenS.mk ?_ | refine Bin.eql ?_ | refine Bin.neq ?_ | refine Bin.lss ?_ | refine Bin.leq ?_ | refine Bin.gtr ?_ | refine Bin.geq ?_ | refine Un.not ?_ | refine Ext.mk rfl ?_ | refine Pick.mk ?_ | refine Bin.ptrNil ?_ | refine Bin.mapNil ?_ | refine Bin.nilNil ?_ | refine Br.yes ?_ | refine Br.no ?_))
    refine IAddr.nat hi ?_
    (repeat (first | refine Nil.ptr ?_ | refine FAddr.mk ?_ | refine Ld.mk (by repeat (first | exact List.Mem.head _ | apply List.Mem.tail)) rfl ?_ | refine LenS.mk ?_ | refine Bin.eql ?_ | refine Bin.neq ?_ | refine Bin.lss ?_ | refine Bin.leq ?_ | refine Bin.gtr ?_ | refine Bin.geq ?_ | refine Un.not ?_ | refine Ext.mk rfl ?_ | refine Pick.mk ?_ | refine Bin.ptrNil ?_ | refine Bin.mapNil ?_ | refine Bin.nilNil ?_ | refine Br.yes ?_ | refine Br.no ?_))
    refine St.cell (l := encL .i64 l ++ junk) (j := 1) (by repeat (first | exact Upd.head _ | apply Upd.tail)) hall (encL_get hi junk) (by decide) rfl ?_
    obtain ⟨p1, p2, p3⟩ := move_pre hc hO h1 hi k
    have hset : (encL .i64 l ++ junk).set i ((enc .i64 (at' l i)).set 1 (.int .i64 k)) = encL .i64 (l.set i ((at' l i).1, k)) ++ junk := by
      rw [← encL_set hi]; rfl
    rw [hset]
    obtain ⟨r, hr1, hr2⟩ := perm_at hi ((at' l i).1, k)
    have ho' : HO .i64 90 88 (.pointer (some ⟨bh, 0, none⟩)) (l.set i ((at' l i).1, k)) f ((bh, Obj.cells #[.slice (some ⟨la, 0, none⟩) l.length (l.length + junk.length), .map (some mb)] 88 (0, 0)) :: (la, .cells (rows (encL .i64 (l.set i ((at' l i).1, k)) ++ junk)) 90 (0, 0)) :: Cm) :=
      .shut (rows_two hall _ _) (by simp) (by simp) hm
    refine CallF.at (.refl _) (upI ho' (i := i) (by simpa using hi) (by simp; omega) p1 p2 p3 F) ?_
    rintro e H' ⟨l', f', C', p, rfl, rfl, ho2, hperm, hc2, hex, hp, hat, _⟩
    refine ⟨_, .refl _, ?_⟩
    have hO2 := p3.perm hperm
    have hlen := hperm.length_eq
    simp only [List.length_set] at hlen
    obtain ⟨bh', la', mb', junk', Cm', hbh, rfl, hall', hm'⟩ := ho2.open (by omega)
    simp only [Value.pointer.injEq, Option.some.injEq, Addr.mk.injEq, and_true] at hbh
    subst hbh
    have hfx : f' x = some p := by
      have := hc2.1 p hp
      rw [hat, at_set _ hi] at this
      simp only [fset, if_true] at this
      rw [← hx]; exact this
    (repeat (first | refine Nil.ptr ?_ | refine FAddr.mk ?_ | refine Ld.mk (by repeat (first | exact List.Mem.head _ | apply List.Mem.tail)) rfl ?_ | refine LenS.mk ?_ | refine Bin.eql ?_ | refine Bin.neq ?_ | refine Bin.lss ?_ | refine Bin.leq ?_ | refine Bin.gtr ?_ | refine Bin.geq ?_ | refine Un.not ?_ | refine Ext.mk rfl ?_ | refine Pick.mk ?_ | refine Bin.ptrNil ?_ | refine Bin.mapNil ?_ | refine Bin.nilNil ?_ | refine Br.yes ?_ | refine Br.no ?_))
    refine hm'.look_some (fun y hy => by simp [hy]) hfx ?_
    refine CallF.at (.refl _) (downI (.shut hall' rfl rfl hm') (i := p) hp (by omega) hex (hc2.x p) hO2 F) ?_
    rintro e H' ⟨l2, f2, C2, rfl, rfl, ho3, hperm2, hc3, hord⟩
    refine ⟨_, .refl _, l2, C2, rfl, ⟨f2, ho3, hc3, hord, hO2.perm hperm2⟩, .inr ⟨(at' l i).2, r, ?_, ?_, rfl⟩⟩
    · rw [← hx]; exact hr1
    · rw [← hx]; exact hperm2.trans (hperm.trans hr2)
theorem popI {g : World} {h : Value} {l : List It} {C : Hp} (hi : HI .i64 90 88 h l C) (hmax : l.length < 4398046511104) (F : Hp) :
    SCalls Try.prog g 22 #[h] (C ++ F) (fun e H' => ∃ l' C', H' = C' ++ F ∧ HI .i64 90 88 h l' C' ∧
      ((l = [] ∧ e = .returned (.tuple #[.int .i64 0, .int .i64 0, .int .i64 10]) ∧ l' = l) ∨ (∃ a, l.Perm (a :: l') ∧ (∀ b ∈ l, prec b a = false) ∧ e = .returned (.tuple #[.int .i64 a.1, .int .i64 a.2, .int .i64 0])))) := by
  have hi0 := hi
  obtain ⟨f, ho, hc, hO, h1⟩ := hi
  by_cases hl : l = []
  · subst hl
    refine L22_sound ?_
    unfold L22
    obtain ⟨bh, sv, mv, Cs, Cm, rfl, rfl, hs, hm, hne⟩ := ho
    (repeat (first | refine Nil.ptr ?_ | refine FAddr.mk ?_ | refine Ld.mk (by repeat (first | exact List.Mem.head _ | apply List.Mem.tail)) rfl ?_ | refine LenS.mk ?_ | refine Bin.eql ?_ | refine Bin.neq ?_ | refine Bin.lss ?_ | refine Bin.leq ?_ | refine Bin.gtr ?_ | refine Bin.geq ?_ | refine Un.not ?_ | refine Ext.mk rfl ?_ | refine Pick.mk ?_ | refine Bin.ptrNil ?_ | refine Bin.mapNil ?_ | refine Bin.nilNil ?_ | refine Br.yes ?_ | refine Br.no ?_))
    refine Grp.or true (fun _ => ?_) rfl fun _ => ?_
    · (repeat (first | refine Nil.ptr ?_ | refine FAddr.mk ?_ | refine Ld.mk (by repeat (first | exact List.Mem.head _ | apply List.Mem.tail)) rfl ?_ | refine LenS.mk ?_ | refine Bin.eql ?_ | refine Bin.neq ?_ | refine Bin.lss ?_ | refine Bin.leq ?_ | refine Bin.gtr ?_ | refine Bin.geq ?_ | refine Un.not ?_ | refine Ext.mk rfl ?_ | refine Pick.mk ?_ | refine Bin.ptrNil ?_ | refine Bin.mapNil ?_ | refine Bin.nilNil ?_ | refine Br.yes ?_ | refine Br.no ?_))
      refine hs.lenS ?_
      (repeat (first | refine Nil.ptr ?_ | refine FAddr.mk ?_ | refine Ld.mk (by repeat (first | exact List.Mem.head _ | apply List.Mem.tail)) rfl ?_ | refine LenS.mk ?_ | refine Bin.eql ?_ | refine Bin.neq ?_ | refine Bin.lss ?_ | refine Bin.leq ?_ | refine Bin.gtr ?_ | refine Bin.geq ?_ | refine Un.not ?_ | refine Ext.mk rfl ?_ | refine Pick.mk ?_ | refine Bin.ptrNil ?_ | refine Bin.mapNil ?_ | refine Bin.nilNil ?_ | refine Br.yes ?_ | refine Br.no ?_))
      exact ⟨rfl, rfl⟩
    · (repeat (first | refine Nil.ptr ?_ | refine FAddr.mk ?_ | refine Ld.mk (by repeat (first | exact List.Mem.head _ | apply List.Mem.tail)) rfl ?_ | refine LenS.mk ?_ | refine Bin.eql ?_ | refine Bin.neq ?_ | refine Bin.lss ?_ | refine Bin.leq ?_ | refine Bin.gtr ?_ | refine Bin.geq ?_ | refine Un.not ?_ | refine Ext.mk rfl ?_ | refine Pick.mk ?_ | refine Bin.ptrNil ?_ | refine Bin.mapNil ?_ | refine Bin.nilNil ?_ | refine Br.yes ?_ | refine Br.no ?_))
      exact ⟨[], _, rfl, hi0, .inl ⟨rfl, rfl, rfl⟩⟩
  · obtain ⟨n, hn⟩ : ∃ n, l.length = n + 1 := ⟨l.length - 1, by have := List.length_pos_iff.2 hl; omega⟩
    have hmin : ∀ b ∈ l, prec b (at' l 0) = false := fun b hb => by
      obtain ⟨j, hj, e⟩ := List.mem_iff_getElem.1 hb
      have := ord_min hO j hj
      rwa [show at' l j = b by simp [at', List.getD, hj, e]] at this
    refine (L22_sound (R := fun e H' => ∃ G l' C', H' = G ++ (C' ++ F) ∧ HI .i64 90 88 h l' C' ∧ l.Perm (at' l 0 :: l') ∧ e = .returned (.tuple #[.int .i64 (at' l 0).1, .int .i64 (at' l 0).2, .int .i64 0])) ?_).post ?_
    · obtain ⟨bh, la, mb, junk, Cm, rfl, rfl, hall, hm⟩ := ho.open (by omega)
      unfold L22
      (repeat (first | refine Nil.ptr ?_ | refine FAddr.mk ?_ | refine Ld.mk (by repeat (first | exact List.Mem.head _ | apply List.Mem.tail)) rfl ?_ | refine LenS.mk ?_ | refine Bin.eql ?_ | refine Bin.neq ?_ | refine Bin.lss ?_ | refine Bin.leq ?_ | refine Bin.gtr ?_ | refine Bin.geq ?_ | refine Un.not ?_ | refine Ext.mk rfl ?_ | refine Pick.mk ?_ | refine Bin.ptrNil ?_ | refine Bin.mapNil ?_ | refine Bin.nilNil ?_ | refine Br.yes ?_ | refine Br.no ?_))
      refine Grp.or false (fun _ => ?_) rfl fun _ => ?_
      · (repeat (first | refine Nil.ptr ?_ | refine FAddr.mk ?_ | refine Ld.mk (by repeat (first | exact List.Mem.head _ | apply List.Mem.tail)) rfl ?_ | refine LenS.mk ?_ | refine Bin.eql ?_ | refine Bin.neq ?_ | refine Bin.lss ?_ | refine Bin.leq ?_ | refine Bin.gtr ?_ | refine Bin.geq ?_ | refine Un.not ?_ | refine Ext.mk rfl ?_ | refine Pick.mk ?_ | refine Bin.ptrNil ?_ | refine Bin.mapNil ?_ | refine Bin.nilNil ?_ | refine Br.yes ?_ | refine Br.no ?_))
        exact ⟨rfl, by rw [hn]; simp; omega⟩
      (repeat (first | refine Nil.ptr ?_ | refine FAddr.mk ?_ | refine Ld.mk (by repeat (first | exact List.Mem.head _ | apply List.Mem.tail)) rfl ?_ | refine LenS.mk ?_ | refine Bin.eql ?_ | refine Bin.neq ?_ | refine Bin.lss ?_ | refine Bin.leq ?_ | refine Bin.gtr ?_ | refine Bin.geq ?_ | refine Un.not ?_ | refine Ext.mk rfl ?_ | refine Pick.mk ?_ | refine Bin.ptrNil ?_ | refine Bin.mapNil ?_ | refine Bin.nilNil ?_ | refine Br.yes ?_ | refine Br.no ?_))
      refine IAddr.of 0 rfl (by omega) ?_
      refine LdA.row (l := encL .i64 l ++ junk) (by repeat (first | exact List.Mem.head _ | apply List.Mem.tail)) hall (encL_get (by omega) junk) ?_
      intro b14 _
      refine St.whole (r := enc .i64 (at' l 0)) (by repeat (first | exact Upd.head _ | apply Upd.tail)) rfl rfl (enc_one _ _) ?_
      (repeat (first | refine Nil.ptr ?_ | refine FAddr.mk ?_ | refine Ld.mk (by repeat (first | exact List.Mem.head _ | apply List.Mem.tail)) rfl ?_ | refine LenS.mk ?_ | refine Bin.eql ?_ | refine Bin.neq ?_ | refine Bin.lss ?_ | refine Bin.leq ?_ | refine Bin.gtr ?_ | refine Bin.geq ?_ | refine Un.not ?_ | refine Ext.mk rfl ?_ | refine Pick.mk ?_ | refine Bin.ptrNil ?_ | refine Bin.mapNil ?_ | refine Bin.nilNil ?_ | refine Br.yes ?_ | refine Br.no ?_))
      refine Bin.sub64 (c := (n : Int)) (by rw [hn]; simp) (by omega) ?_
      (repeat (first | refine Nil.ptr ?_ | refine FAddr.mk ?_ | refine Ld.mk (by repeat (first | exact List.Mem.head _ | apply List.Mem.tail)) rfl ?_ | refine LenS.mk ?_ | refine Bin.eql ?_ | refine Bin.neq ?_ | refine Bin.lss ?_ | refine Bin.leq ?_ | refine Bin.gtr ?_ | refine Bin.geq ?_ | refine Un.not ?_ | refine Ext.mk rfl ?_ | refine Pick.mk ?_ | refine Bin.ptrNil ?_ | refine Bin.mapNil ?_ | refine Bin.nilNil ?_ | refine Br.yes ?_ | refine Br.no ?_))
      refine IAddr.nat (by omega) ?_
      refine LdA.row (l := encL .i64 l ++ junk) (by repeat (first | exact List.Mem.head _ | apply List.Mem.tail)) hall (encL_get (by omega) junk) ?_
      intro b27 _
      refine St.whole (r := enc .i64 (at' l n)) (by repeat (first | exact Upd.head _ | apply Upd.tail)) rfl rfl (enc_one _ _) ?_
      (repeat (first | refine Nil.ptr ?_ | refine FAddr.mk ?_ | refine Ld.mk (by repeat (first | exact List.Mem.head _ | apply List.Mem.tail)) rfl ?_ | refine LenS.mk ?_ | refine Bin.eql ?_ | refine Bin.neq ?_ | refine Bin.lss ?_ | refine Bin.leq ?_ | refine Bin.gtr ?_ | refine Bin.geq ?_ | refine Un.not ?_ | refine Ext.mk rfl ?_ | refine Pick.mk ?_ | refine Bin.ptrNil ?_ | refine Bin.mapNil ?_ | refine Bin.nilNil ?_ | refine Br.yes ?_ | refine Br.no ?_))
      refine SliceE.upto (h := n) (by omega) ?_
      (repeat (first | refine Nil.ptr ?_ | refine FAddr.mk ?_ | refine Ld.mk (by repeat (first | exact List.Mem.head _ | apply List.Mem.tail)) rfl ?_ | refine LenS.mk ?_ | refine Bin.eql ?_ | refine Bin.neq ?_ | refine Bin.lss ?_ | refine Bin.leq ?_ | refine Bin.gtr ?_ | refine Bin.geq ?_ | refine Un.not ?_ | refine Ext.mk rfl ?_ | refine Pick.mk ?_ | refine Bin.ptrNil ?_ | refine Bin.mapNil ?_ | refine Bin.nilNil ?_ | refine Br.yes ?_ | refine Br.no ?_))
      refine St.one (by repeat (first | exact Upd.head _ | apply Upd.tail)) rfl (by simp) rfl ?_
      refine ⟨[_, _, _], .left (A := [_, _, _]), ?_⟩
      (repeat (first | refine Nil.ptr ?_ | refine FAddr.mk ?_ | refine Ld.mk (by repeat (first | exact List.Mem.head _ | apply List.Mem.tail)) rfl ?_ | refine LenS.mk ?_ | refine Bin.eql ?_ | refine Bin.neq ?_ | refine Bin.lss ?_ | refine Bin.leq ?_ | refine Bin.gtr ?_ | refine Bin.geq ?_ | refine Un.not ?_ | refine Ext.mk rfl ?_ | refine Pick.mk ?_ | refine Bin.ptrNil ?_ | refine Bin.mapNil ?_ | refine Bin.nilNil ?_ | refine Br.yes ?_ | refine Br.no ?_))
      refine MOwn.del (A := [_, _, _, _]) hm fun Cm' hm' => ?_
      have hrows : encL .i64 l ++ junk = encL .i64 (l.take n) ++ (enc .i64 (at' l n) :: junk) := by
        have e : l = l.take n ++ [at' l n] := by
          have h2 : l.drop n = [at' l n] := by
            rw [List.drop_eq_getElem_cons (by omega), List.drop_eq_nil_of_le (by omega)]
            simp [hn, at', List.getD]
          have := (List.take_append_drop n l).symm
          rw [h2] at this; exact this
        conv => lhs; rw [e]
        simp [encL]
      have hall' : ∀ r ∈ encL .i64 (l.take n) ++ (enc .i64 (at' l n) :: junk), r.length = 2 := by rw [← hrows]; exact hall
      intro J hJ
      have hlt : (l.take n).length = n := by simp [hn]
      have hrest : ∀ l' C', HI .i64 90 88 (.pointer (some ⟨bh, 0, none⟩)) l' C' → l.Perm (at' l 0 :: l') → J [] ([(b27, Obj.cells (enc .i64 (at' l n)).toArray 90 (0, 0)), (b14, Obj.cells (enc .i64 (at' l 0)).toArray 90 (0, 0))] ++ (C' ++ F)) := by
        intro l' C' hi' hp'
        refine hJ _ fun gs => ?_
        (repeat (first | refine Nil.ptr ?_ | refine FAddr.mk ?_ | refine Ld.mk (by repeat (first | exact List.Mem.head _ | apply List.Mem.tail)) rfl ?_ | refine LenS.mk ?_ | refine Bin.eql ?_ | refine Bin.neq ?_ | refine Bin.lss ?_ | refine Bin.leq ?_ | refine Bin.gtr ?_ | refine Bin.geq ?_ | refine Un.not ?_ | refine Ext.mk rfl ?_ | refine Pick.mk ?_ | refine Bin.ptrNil ?_ | refine Bin.mapNil ?_ | refine Bin.nilNil ?_ | refine Br.yes ?_ | refine Br.no ?_))
        exact ⟨_, l', C', rfl, hi', hp', rfl⟩
      (repeat (first | refine Nil.ptr ?_ | refine FAddr.mk ?_ | refine Ld.mk (by repeat (first | exact List.Mem.head _ | apply List.Mem.tail)) rfl ?_ | refine LenS.mk ?_ | refine Bin.eql ?_ | refine Bin.neq ?_ | refine Bin.lss ?_ | refine Bin.leq ?_ | refine Bin.gtr ?_ | refine Bin.geq ?_ | refine Un.not ?_ | refine Ext.mk rfl ?_ | refine Pick.mk ?_ | refine Bin.ptrNil ?_ | refine Bin.mapNil ?_ | refine Bin.nilNil ?_ | refine Br.yes ?_ | refine Br.no ?_))
      have ho1 : HO .i64 90 88 (.pointer (some ⟨bh, 0, none⟩)) (l.take n) (upf f (at' l 0).1 none) ((bh, Obj.cells #[.slice (some ⟨la, 0, none⟩) n (l.length + junk.length), .map (some mb)] 88 (0, 0)) :: (la, .cells (rows (encL .i64 l ++ junk)) 90 (0, 0)) :: Cm') := by
        rw [hrows]
        exact .shut hall' hlt.symm (by simp [hn]; omega) hm'
      refine Br.mk (fun h0 => ?_) (fun h0 => ?_)
      · have h0 : 0 < n := by simpa using h0
        obtain ⟨_, q1, q2, q3, q4⟩ := pop_pre hc hO h1 hn h0
        refine LdA.whole (r := enc .i64 (at' l n)) (by repeat (first | exact List.Mem.head _ | apply List.Mem.tail)) rfl ?_
        refine CallF.at (Ent.swap3 [_, _] (_ :: _ :: Cm') F) (putI ho1 (i := 0) (by omega) (at' l n) _) ?_
        rintro e H' ⟨C2, rfl, rfl, ho2⟩
        refine ⟨_, .refl _, ?_⟩
        have hcx : ConsX ((l.take n).set 0 (at' l n)) (upf (upf f (at' l 0).1 none) (at' l n).1 (some 0)) 0 := by
          refine ⟨fun j hj hj0 => ?_, fun x hx => ?_⟩
          · unfold upf
            rw [if_neg]
            · exact q4.1 j hj hj0
            · intro e
              have h00 : at' ((l.take n).set 0 (at' l n)) 0 = at' l n := by rw [at_set _ (by omega)]; simp [fset]
              exact hj0 (q3.inj hj (by simp; omega) (by rw [e, h00]))
          · unfold upf
            rw [if_neg]
            · exact q4.2 x hx
            · intro e
              refine hx (mem_things.2 ⟨0, by simp; omega, ?_⟩)
              rw [at_set _ (by omega)]; simp [fset, e]
        refine CallF.at (.refl _) (downI ho2 (i := 0) (by simp; omega) (by simp; omega) (by simpa [hn] using q2) hcx q3 _) ?_
        rintro e H' ⟨l3, f3, C3, rfl, rfl, ho3, hperm3, hc3, hord3⟩
        refine ⟨_, .refl _, ?_⟩
        exact JE.of (Ent.swap3 C3 [_, _] F) (hrest l3 C3 ⟨f3, ho3, hc3, hord3, q3.perm hperm3⟩ ((hperm3.cons (at' l 0)).trans q1).symm)
      · have h0 : n = 0 := by simp at h0; omega
        subst h0
        refine JE.mk (hrest (l.take 0) _ ⟨_, ho1, ⟨fun j hj => by simp at hj, fun x _ => ?_⟩, fun j _ hj => by simp at hj, by simp [Once]⟩ ?_)
        · unfold upf
          split
          · rfl
          · rename_i hne
            refine hc.2 x fun hm => hne ?_
            obtain ⟨j, hj, e⟩ := mem_things.1 hm
            rw [show j = 0 by omega] at e; exact e.symm
        · match l, hn with
          | [a], _ => exact .refl _
    · rintro e H' ⟨G, l', C', rfl, h, hp, rfl⟩
      exact ⟨_, .right, l', C', rfl, h, .inr ⟨_, hp, hmin, rfl⟩⟩
theorem moveN {g : World} {h : Value} {l : List It} {C : Hp} (hi : HI .i64 95 42 h l C) (hmax : l.length < 4398046511104) (x k : Int) (F : Hp) :
    SCalls Try.prog g 35 #[h, .int .i64 x, .int .i64 k] (C ++ F) (fun e H' => ∃ l' C', H' = C' ++ F ∧ HI .i64 95 42 h l' C' ∧
      ((x ∉ l.map Prod.fst ∧ e = .returned (.int .i64 10) ∧ l' = l) ∨ (∃ k0 r, l.Perm ((x, k0) :: r) ∧ l'.Perm ((x, k) :: r) ∧ e = .returned (.int .i64 0)))) := by
  have hi0 := hi
  obtain ⟨f, ho, hc, hO, h1⟩ := hi
  refine L35_sound ?_
  unfold L35
  rcases cons_get hc (x := x) with ⟨hx, hf⟩ | ⟨i, hi, hx, hf⟩
  · obtain ⟨bh, sv, mv, Cs, Cm, rfl, rfl, hs, hm, hne⟩ := ho
    (repeat (first | refine Nil.ptr ?_ | refine FAddr.mk ?_ | refine Ld.mk (by repeat (first | exact List.Mem.head _ | apply List.Mem.tail)) rfl ?_ | refine LenS.mk ?_ | refine Bin.eql ?_ | refine Bin.neq ?_ | refine Bin.lss ?_ | refine Bin.leq ?_ | refine Bin.gtr ?_ | refine Bin.geq ?_ | refine Un.not ?_ | refine Ext.mk rfl ?_ | refine Pick.mk ?_ | refine Bin.ptrNil ?_ | refine Bin.mapNil ?_ | refine Bin.nilNil ?_ | refine Br.yes ?_ | refine Br.no ?_))
    refine hm.look_none (fun y hy => by simp [hy]) hf ?_
    (repeat (first | refine Nil.ptr ?_ | refine FAddr.mk ?_ | refine Ld.mk (by repeat (first | exact List.Mem.head _ | apply List.Mem.tail)) rfl ?_ | refine LenS.mk ?_ | refine Bin.eql ?_ | refine Bin.neq ?_ | refine Bin.lss ?_ | refine Bin.leq ?_ | refine Bin.gtr ?_ | refine Bin.geq ?_ | refine Un.not ?_ | refine Ext.mk rfl ?_ | refine Pick.mk ?_ | refine Bin.ptrNil ?_ | refine Bin.mapNil ?_ | refine Bin.nilNil ?_ | refine Br.yes ?_ | refine Br.no ?_))
    exact ⟨l, _, rfl, hi0, .inl ⟨hx, rfl, rfl⟩⟩
  · obtain ⟨bh, la, mb, junk, Cm, rfl, rfl, hall, hm⟩ := ho.open (by omega)
    (repeat (first | refine Nil.ptr ?_ | refine FAddr.mk ?_ | refine Ld.mk (by repeat (first | exact List.Mem.head _ | apply List.Mem.tail)) rfl ?_ | refine LenS.mk ?_ | refine Bin.eql ?_ | refine Bin.neq ?_ | refine Bin.lss ?_ | refine Bin.leq ?_ | refine Bin.gtr ?_ | refine Bin.geq ?_ | refine Un.not ?_ | refine Ext.mk rfl ?_ | refine Pick.mk ?_ | refine Bin.ptrNil ?_ | refine Bin.mapNil ?_ | refine Bin.nilNil ?_ | refine Br.yes ?_ | refine Br.no ?_))
    refine hm.look_some (fun y hy => by simp [hy]) hf ?_
    (repeat (first | refine Nil.ptr ?_ | refine FAddr.mk ?_ | refine Ld.mk (by repeat (first | exact List.Mem.head _ | apply List.Mem.tail)) rfl ?_ | refine LenS.mk ?_ | refine Bin.eql ?_ | refine Bin.neq ?_ | refine Bin.lss ?_ | refine Bin.leq ?_ | refine Bin.gtr ?_ | refine Bin.geq ?_ | refine Un.not ?_ | refine Ext.mk rfl ?_ | refine Pick.mk ?_ | refine Bin.ptrNil ?_ | refine Bin.mapNil ?_ | refine Bin.nilNil ?_ | refine Br.yes ?_ | refine Br.no ?_))
    refine IAddr.nat hi ?_
    (repeat (first | refine Nil.ptr ?_ | refine FAddr.mk ?_ | refine Ld.mk (by repeat (first | exact List.Mem.head _ | apply List.Mem.tail)) rfl ?_ | refine LenS.mk ?_ | refine Bin.eql ?_ | refine Bin.neq ?_ | refine Bin.lss ?_ | refine Bin.leq ?_ | refine Bin.gtr ?_ | refine Bin.geq ?_ | refine Un.not ?_ | refine Ext.mk rfl ?_ | refine Pick.mk ?_ | refine Bin.ptrNil ?_ | refine Bin.mapNil ?_ | refine Bin.nilNil ?_ | refine Br.yes ?_ | refine Br.no ?_))
    refine St.cell (l := encL .i64 l ++ junk) (j := 1) (by repeat (first | exact Upd.head _ | apply Upd.tail)) hall (encL_get hi junk) (by decide) rfl ?_
    obtain ⟨p1, p2, p3⟩ := move_pre hc hO h1 hi k
    have hset : (encL .i64 l ++ junk).set i ((enc .i64 (at' l i)).set 1 (.int .i64 k)) = encL .i64 (l.set i ((at' l i).1, k)) ++ junk := by
      rw [← encL_set hi]; rfl
    rw [hset]
    obtain ⟨r, hr1, hr2⟩ := perm_at hi ((at' l i).1, k)
    have ho' : HO .i64 95 42 (.pointer (some ⟨bh, 0, none⟩)) (l.set i ((at' l i).1, k)) f ((bh, Obj.cells #[.slice (some ⟨la, 0, none⟩) l.length (l.length + junk.length), .map (some mb)] 42 (0, 0)) :: (la, .cells (rows (encL .i64 (l.set i ((at' l i).1, k)) ++ junk)) 95 (0, 0)) :: Cm) :=
      .shut (rows_two hall _ _) (by simp) (by simp) hm
    refine CallF.at (.refl _) (upN ho' (i := i) (by simpa using hi) (by simp; omega) p1 p2 p3 F) ?_
    rintro e H' ⟨l', f', C', p, rfl, rfl, ho2, hperm, hc2, hex, hp, hat, _⟩
    refine ⟨_, .refl _, ?_⟩
    have hO2 := p3.perm hperm
    have hlen := hperm.length_eq
    simp only [List.length_set] at hlen
    obtain ⟨bh', la', mb', junk', Cm', hbh, rfl, hall', hm'⟩ := ho2.open (by omega)
    simp only [Value.pointer.injEq, Option.some.injEq, Addr.mk.injEq, and_true] at hbh
    subst hbh
    have hfx : f' x = some p := by
      have := hc2.1 p hp
      rw [hat, at_set _ hi] at this
      simp only [fset, if_true] at this
      rw [← hx]; exact this
    (repeat (first | refine Nil.ptr ?_ | refine FAddr.mk ?_ | refine Ld.mk (by repeat (first | exact List.Mem.head _ | apply List.Mem.tail)) rfl ?_ | refine LenS.mk ?_ | refine Bin.eql ?_ | refine Bin.neq ?_ | refine Bin.lss ?_ | refine Bin.leq ?_ | refine Bin.gtr ?_ | refine Bin.geq ?_ | refine Un.not ?_ | refine Ext.mk rfl ?_ | refine Pick.mk ?_ | refine Bin.ptrNil ?_ | refine Bin.mapNil ?_ | refine Bin.nilNil ?_ | refine Br.yes ?_ | refine Br.no ?_))
    refine hm'.look_some (fun y hy => by simp [hy]) hfx ?_
    refine CallF.at (.refl _) (downN (.shut hall' rfl rfl hm') (i := p) hp (by omega) hex (hc2.x p) hO2 F) ?_
    rintro e H' ⟨l2, f2, C2, rfl, rfl, ho3, hperm2, hc3, hord⟩
    refine ⟨_, .refl _, l2, C2, rfl, ⟨f2, ho3, hc3, hord, hO2.perm hperm2⟩, .inr ⟨(at' l i).2, r, ?_, ?_, rfl⟩⟩
    · rw [← hx]; exact hr1
    · rw [← hx]; exact hperm2.trans (hperm.trans hr2)
theorem popN {g : World} {h : Value} {l : List It} {C : Hp} (hi : HI .i64 95 42 h l C) (hmax : l.length < 4398046511104) (F : Hp) :
    SCalls Try.prog g 34 #[h] (C ++ F) (fun e H' => ∃ l' C', H' = C' ++ F ∧ HI .i64 95 42 h l' C' ∧
      ((l = [] ∧ e = .returned (.tuple #[.int .i64 0, .int .i64 0, .int .i64 10]) ∧ l' = l) ∨ (∃ a, l.Perm (a :: l') ∧ (∀ b ∈ l, prec b a = false) ∧ e = .returned (.tuple #[.int .i64 a.1, .int .i64 a.2, .int .i64 0])))) := by
  have hi0 := hi
  obtain ⟨f, ho, hc, hO, h1⟩ := hi
  by_cases hl : l = []
  · subst hl
    refine L34_sound ?_
    unfold L34
    obtain ⟨bh, sv, mv, Cs, Cm, rfl, rfl, hs, hm, hne⟩ := ho
    (repeat (first | refine Nil.ptr ?_ | refine FAddr.mk ?_ | refine Ld.mk (by repeat (first | exact List.Mem.head _ | apply List.Mem.tail)) rfl ?_ | refine LenS.mk ?_ | refine Bin.eql ?_ | refine Bin.neq ?_ | refine Bin.lss ?_ | refine Bin.leq ?_ | refine Bin.gtr ?_ | refine Bin.geq ?_ | refine Un.not ?_ | refine Ext.mk rfl ?_ | refine Pick.mk ?_ | refine Bin.ptrNil ?_ | refine Bin.mapNil ?_ | refine Bin.nilNil ?_ | refine Br.yes ?_ | refine Br.no ?_))
    refine Grp.or true (fun _ => ?_) rfl fun _ => ?_
    · (repeat (first | refine Nil.ptr ?_ | refine FAddr.mk ?_ | refine Ld.mk (by repeat (first | exact List.Mem.head _ | apply List.Mem.tail)) rfl ?_ | refine LenS.mk ?_ | refine Bin.eql ?_ | refine Bin.neq ?_ | refine Bin.lss ?_ | refine Bin.leq ?_ | refine Bin.gtr ?_ | refine Bin.geq ?_ | refine Un.not ?_ | refine Ext.mk rfl ?_ | refine Pick.mk ?_ | refine Bin.ptrNil ?_ | refine Bin.mapNil ?_ | refine Bin.nilNil ?_ | refine Br.yes ?_ | refine Br.no ?_))
      refine hs.lenS ?_
      (repeat (first | refine Nil.ptr ?_ | refine FAddr.mk ?_ | refine Ld.mk (by repeat (first | exact List.Mem.head _ | apply List.Mem.tail)) rfl ?_ | refine LenS.mk ?_ | refine Bin.eql ?_ | refine Bin.neq ?_ | refine Bin.lss ?_ | refine Bin.leq ?_ | refine Bin.gtr ?_ | refine Bin.geq ?_ | refine Un.not ?_ | refine Ext.mk rfl ?_ | refine Pick.mk ?_ | refine Bin.ptrNil ?_ | refine Bin.mapNil ?_ | refine Bin.nilNil ?_ | refine Br.yes ?_ | refine Br.no ?_))
      exact ⟨rfl, rfl⟩
    · (repeat (first | refine Nil.ptr ?_ | refine FAddr.mk ?_ | refine Ld.mk (by repeat (first | exact List.Mem.head _ | apply List.Mem.tail)) rfl ?_ | refine LenS.mk ?_ | refine Bin.eql ?_ | refine Bin.neq ?_ | refine Bin.lss ?_ | refine Bin.leq ?_ | refine Bin.gtr ?_ | refine Bin.geq ?_ | refine Un.not ?_ | refine Ext.mk rfl ?_ | refine Pick.mk ?_ | refine Bin.ptrNil ?_ | refine Bin.mapNil ?_ | refine Bin.nilNil ?_ | refine Br.yes ?_ | refine Br.no ?_))
      exact ⟨[], _, rfl, hi0, .inl ⟨rfl, rfl, rfl⟩⟩
  · obtain ⟨n, hn⟩ : ∃ n, l.length = n + 1 := ⟨l.length - 1, by have := List.length_pos_iff.2 hl; omega⟩
    have hmin : ∀ b ∈ l, prec b (at' l 0) = false := fun b hb => by
      obtain ⟨j, hj, e⟩ := List.mem_iff_getElem.1 hb
      have := ord_min hO j hj
      rwa [show at' l j = b by simp [at', List.getD, hj, e]] at this
    refine (L34_sound (R := fun e H' => ∃ G l' C', H' = G ++ (C' ++ F) ∧ HI .i64 95 42 h l' C' ∧ l.Perm (at' l 0 :: l') ∧ e = .returned (.tuple #[.int .i64 (at' l 0).1, .int .i64 (at' l 0).2, .int .i64 0])) ?_).post ?_
    · obtain ⟨bh, la, mb, junk, Cm, rfl, rfl, hall, hm⟩ := ho.open (by omega)
      unfold L34
      (repeat (first | refine Nil.ptr ?_ | refine FAddr.mk ?_ | refine Ld.mk (by repeat (first | exact List.Mem.head _ | apply List.Mem.tail)) rfl ?_ | refine LenS.mk ?_ | refine Bin.eql ?_ | refine Bin.neq ?_ | refine Bin.lss ?_ | refine Bin.leq ?_ | refine Bin.gtr ?_ | refine Bin.geq ?_ | refine Un.not ?_ | refine Ext.mk rfl ?_ | refine Pick.mk ?_ | refine Bin.ptrNil ?_ | refine Bin.mapNil ?_ | refine Bin.nilNil ?_ | refine Br.yes ?_ | refine Br.no ?_))
      refine Grp.or false (fun _ => ?_) rfl fun _ => ?_
      · (repeat (first | refine Nil.ptr ?_ | refine FAddr.mk ?_ | refine Ld.mk (by repeat (first | exact List.Mem.head _ | apply List.Mem.tail)) rfl ?_ | refine LenS.mk ?_ | refine Bin.eql ?_ | refine Bin.neq ?_ | refine Bin.lss ?_ | refine Bin.leq ?_ | refine Bin.gtr ?_ | refine Bin.geq ?_ | refine Un.not ?_ | refine Ext.mk rfl ?_ | refine Pick.mk ?_ | refine Bin.ptrNil ?_ | refine Bin.mapNil ?_ | refine Bin.nilNil ?_ | refine Br.yes ?_ | refine Br.no ?_))
        exact ⟨rfl, by rw [hn]; simp; omega⟩
      (repeat (first | refine Nil.ptr ?_ | refine FAddr.mk ?_ | refine Ld.mk (by repeat (first | exact List.Mem.head _ | apply List.Mem.tail)) rfl ?_ | refine LenS.mk ?_ | refine Bin.eql ?_ | refine Bin.neq ?_ | refine Bin.lss ?_ | refine Bin.leq ?_ | refine Bin.gtr ?_ | refine Bin.geq ?_ | refine Un.not ?_ | refine Ext.mk rfl ?_ | refine Pick.mk ?_ | refine Bin.ptrNil ?_ | refine Bin.mapNil ?_ | refine Bin.nilNil ?_ | refine Br.yes ?_ | refine Br.no ?_))
      refine IAddr.of 0 rfl (by omega) ?_
      refine LdA.row (l := encL .i64 l ++ junk) (by repeat (first | exact List.Mem.head _ | apply List.Mem.tail)) hall (encL_get (by omega) junk) ?_
      intro b14 _
      refine St.whole (r := enc .i64 (at' l 0)) (by repeat (first | exact Upd.head _ | apply Upd.tail)) rfl rfl (enc_one _ _) ?_
      (repeat (first | refine Nil.ptr ?_ | refine FAddr.mk ?_ | refine Ld.mk (by repeat (first | exact List.Mem.head _ | apply List.Mem.tail)) rfl ?_ | refine LenS.mk ?_ | refine Bin.eql ?_ | refine Bin.neq ?_ | refine Bin.lss ?_ | refine Bin.leq ?_ | refine Bin.gtr ?_ | refine Bin.geq ?_ | refine Un.not ?_ | refine Ext.mk rfl ?_ | refine Pick.mk ?_ | refine Bin.ptrNil ?_ | refine Bin.mapNil ?_ | refine Bin.nilNil ?_ | refine Br.yes ?_ | refine Br.no ?_))
      refine Bin.sub64 (c := (n : Int)) (by rw [hn]; simp) (by omega) ?_
      (repeat (first | refine Nil.ptr ?_ | refine FAddr.mk ?_ | refine Ld.mk (by repeat (first | exact List.Mem.head _ | apply List.Mem.tail)) rfl ?_ | refine LenS.mk ?_ | refine Bin.eql ?_ | refine Bin.neq ?_ | refine Bin.lss ?_ | refine Bin.leq ?_ | refine Bin.gtr ?_ | refine Bin.geq ?_ | refine Un.not ?_ | refine Ext.mk rfl ?_ | refine Pick.mk ?_ | refine Bin.ptrNil ?_ | refine Bin.mapNil ?_ | refine Bin.nilNil ?_ | refine Br.yes ?_ | refine Br.no ?_))
      refine IAddr.nat (by omega) ?_
      refine LdA.row (l := encL .i64 l ++ junk) (by repeat (first | exact List.Mem.head _ | apply List.Mem.tail)) hall (encL_get (by omega) junk) ?_
      intro b27 _
      refine St.whole (r := enc .i64 (at' l n)) (by repeat (first | exact Upd.head _ | apply Upd.tail)) rfl rfl (enc_one _ _) ?_
      (repeat (first | refine Nil.ptr ?_ | refine FAddr.mk ?_ | refine Ld.mk (by repeat (first | exact List.Mem.head _ | apply List.Mem.tail)) rfl ?_ | refine LenS.mk ?_ | refine Bin.eql ?_ | refine Bin.neq ?_ | refine Bin.lss ?_ | refine Bin.leq ?_ | refine Bin.gtr ?_ | refine Bin.geq ?_ | refine Un.not ?_ | refine Ext.mk rfl ?_ | refine Pick.mk ?_ | refine Bin.ptrNil ?_ | refine Bin.mapNil ?_ | refine Bin.nilNil ?_ | refine Br.yes ?_ | refine Br.no ?_))
      refine SliceE.upto (h := n) (by omega) ?_
      (repeat (first | refine Nil.ptr ?_ | refine FAddr.mk ?_ | refine Ld.mk (by repeat (first | exact List.Mem.head _ | apply List.Mem.tail)) rfl ?_ | refine LenS.mk ?_ | refine Bin.eql ?_ | refine Bin.neq ?_ | refine Bin.lss ?_ | refine Bin.leq ?_ | refine Bin.gtr ?_ | refine Bin.geq ?_ | refine Un.not ?_ | refine Ext.mk rfl ?_ | refine Pick.mk ?_ | refine Bin.ptrNil ?_ | refine Bin.mapNil ?_ | refine Bin.nilNil ?_ | refine Br.yes ?_ | refine Br.no ?_))
      refine St.one (by repeat (first | exact Upd.head _ | apply Upd.tail)) rfl (by simp) rfl ?_
      refine ⟨[_, _, _], .left (A := [_, _, _]), ?_⟩
      (repeat (first | refine Nil.ptr ?_ | refine FAddr.mk ?_ | refine Ld.mk (by repeat (first | exact List.Mem.head _ | apply List.Mem.tail)) rfl ?_ | refine LenS.mk ?_ | refine Bin.eql ?_ | refine Bin.neq ?_ | refine Bin.lss ?_ | refine Bin.leq ?_ | refine Bin.gtr ?_ | refine Bin.geq ?_ | refine Un.not ?_ | refine Ext.mk rfl ?_ | refine Pick.mk ?_ | refine Bin.ptrNil ?_ | refine Bin.mapNil ?_ | refine Bin.nilNil ?_ | refine Br.yes ?_ | refine Br.no ?_))
      refine MOwn.del (A := [_, _, _, _]) hm fun Cm' hm' => ?_
      have hrows : encL .i64 l ++ junk = encL .i64 (l.take n) ++ (enc .i64 (at' l n) :: junk) := by
        have e : l = l.take n ++ [at' l n] := by
          have h2 : l.drop n = [at' l n] := by
            rw [List.drop_eq_getElem_cons (by omega), List.drop_eq_nil_of_le (by omega)]
            simp [hn, at', List.getD]
          have := (List.take_append_drop n l).symm
          rw [h2] at this; exact this
        conv => lhs; rw [e]
        simp [encL]
      have hall' : ∀ r ∈ encL .i64 (l.take n) ++ (enc .i64 (at' l n) :: junk), r.length = 2 := by rw [← hrows]; exact hall
      intro J hJ
      have hlt : (l.take n).length = n := by simp [hn]
      have hrest : ∀ l' C', HI .i64 95 42 (.pointer (some ⟨bh, 0, none⟩)) l' C' → l.Perm (at' l 0 :: l') → J [] ([(b27, Obj.cells (enc .i64 (at' l n)).toArray 95 (0, 0)), (b14, Obj.cells (enc .i64 (at' l 0)).toArray 95 (0, 0))] ++ (C' ++ F)) := by
        intro l' C' hi' hp'
        refine hJ _ fun gs => ?_
        (repeat (first | refine Nil.ptr ?_ | refine FAddr.mk ?_ | refine Ld.mk (by repeat (first | exact List.Mem.head _ | apply List.Mem.tail)) rfl ?_ | refine LenS.mk ?_ | refine Bin.eql ?_ | refine Bin.neq ?_ | refine Bin.lss ?_ | refine Bin.leq ?_ | refine Bin.gtr ?_ | refine Bin.geq ?_ | refine Un.not ?_ | refine Ext.mk rfl ?_ | refine Pick.mk ?_ | refine Bin.ptrNil ?_ | refine Bin.mapNil ?_ | refine Bin.nilNil ?_ | refine Br.yes ?_ | refine Br.no ?_))
        exact ⟨_, l', C', rfl, hi', hp', rfl⟩
      (repeat (first | refine Nil.ptr ?_ | refine FAddr.mk ?_ | refine Ld.mk (by repeat (first | exact List.Mem.head _ | apply List.Mem.tail)) rfl ?_ | refine LenS.mk ?_ | refine Bin.eql ?_ | refine Bin.neq ?_ | refine Bin.lss ?_ | refine Bin.leq ?_ | refine Bin.gtr ?_ | refine Bin.geq ?_ | refine Un.not ?_ | refine Ext.mk rfl ?_ | refine Pick.mk ?_ | refine Bin.ptrNil ?_ | refine Bin.mapNil ?_ | refine Bin.nilNil ?_ | refine Br.yes ?_ | refine Br.no ?_))
      have ho1 : HO .i64 95 42 (.pointer (some ⟨bh, 0, none⟩)) (l.take n) (upf f (at' l 0).1 none) ((bh, Obj.cells #[.slice (some ⟨la, 0, none⟩) n (l.length + junk.length), .map (some mb)] 42 (0, 0)) :: (la, .cells (rows (encL .i64 l ++ junk)) 95 (0, 0)) :: Cm') := by
        rw [hrows]
        exact .shut hall' hlt.symm (by simp [hn]; omega) hm'
      refine Br.mk (fun h0 => ?_) (fun h0 => ?_)
      · have h0 : 0 < n := by simpa using h0
        obtain ⟨_, q1, q2, q3, q4⟩ := pop_pre hc hO h1 hn h0
        refine LdA.whole (r := enc .i64 (at' l n)) (by repeat (first | exact List.Mem.head _ | apply List.Mem.tail)) rfl ?_
        refine CallF.at (Ent.swap3 [_, _] (_ :: _ :: Cm') F) (putN ho1 (i := 0) (by omega) (at' l n) _) ?_
        rintro e H' ⟨C2, rfl, rfl, ho2⟩
        refine ⟨_, .refl _, ?_⟩
        have hcx : ConsX ((l.take n).set 0 (at' l n)) (upf (upf f (at' l 0).1 none) (at' l n).1 (some 0)) 0 := by
          refine ⟨fun j hj hj0 => ?_, fun x hx => ?_⟩
          · unfold upf
            rw [if_neg]
            · exact q4.1 j hj hj0
            · intro e
              have h00 : at' ((l.take n).set 0 (at' l n)) 0 = at' l n := by rw [at_set _ (by omega)]; simp [fset]
              exact hj0 (q3.inj hj (by simp; omega) (by rw [e, h00]))
          · unfold upf
            rw [if_neg]
            · exact q4.2 x hx
            · intro e
              refine hx (mem_things.2 ⟨0, by simp; omega, ?_⟩)
              rw [at_set _ (by omega)]; simp [fset, e]
        refine CallF.at (.refl _) (downN ho2 (i := 0) (by simp; omega) (by simp; omega) (by simpa [hn] using q2) hcx q3 _) ?_
        rintro e H' ⟨l3, f3, C3, rfl, rfl, ho3, hperm3, hc3, hord3⟩
        refine ⟨_, .refl _, ?_⟩
        exact JE.of (Ent.swap3 C3 [_, _] F) (hrest l3 C3 ⟨f3, ho3, hc3, hord3, q3.perm hperm3⟩ ((hperm3.cons (at' l 0)).trans q1).symm)
      · have h0 : n = 0 := by simp at h0; omega
        subst h0
        refine JE.mk (hrest (l.take 0) _ ⟨_, ho1, ⟨fun j hj => by simp at hj, fun x _ => ?_⟩, fun j _ hj => by simp at hj, by simp [Once]⟩ ?_)
        · unfold upf
          split
          · rfl
          · rename_i hne
            refine hc.2 x fun hm => hne ?_
            obtain ⟨j, hj, e⟩ := mem_things.1 hm
            rw [show j = 0 by omega] at e; exact e.symm
        · match l, hn with
          | [a], _ => exact .refl _
    · rintro e H' ⟨G, l', C', rfl, h, hp, rfl⟩
      exact ⟨_, .right, l', C', rfl, h, .inr ⟨_, hp, hmin, rfl⟩⟩
end Go.Proofs
