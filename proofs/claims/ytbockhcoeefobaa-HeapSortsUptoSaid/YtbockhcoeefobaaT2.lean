import Derived.Test.YtbockhcoeefobaaT1
import Derived.Test.YtbockhcoeefobaaHpC
set_option linter.unusedVariables false
set_option linter.unusedSimpArgs false
set_option maxRecDepth 100000
namespace Go.Proofs
open Go Go.Sx HpA
theorem aheadU {g : World} (a b : It) (H : Hp) : CalmQ Try.prog g 43 #[.agg #[.int .u64 a.1, .int .i64 a.2], .agg #[.int .u64 b.1, .int .i64 b.2]] H (.bool (prec a b)) := by
  refine L43_sound ?_
  unfold L43
  intro b1 _ b2 _
  (repeat (first | refine Nil.ptr ?_ | refine FAddr.mk ?_ | refine Ld.mk (by repeat (first | exact List.Mem.head _ | apply List.Mem.tail)) rfl ?_ | refine LenS.mk ?_ | refine Bin.eql ?_ | refine Bin.neq ?_ | refine Bin.lss ?_ | refine Bin.leq ?_ | refine Bin.gtr ?_ | refine Bin.geq ?_ | refine Un.not ?_ | refine Ext.mk rfl ?_ | refine Pick.mk ?_ | refine Bin.ptrNil ?_ | refine Bin.mapNil ?_ | refine Bin.nilNil ?_ | refine Br.yes ?_ | refine Br.no ?_))
  refine Grp.or (a.2 == b.2 && decide (a.1 < b.1)) (fun _ => ?_) rfl fun _ => ⟨rfl, .right (A := [_, _])⟩
  (repeat (first | refine Nil.ptr ?_ | refine FAddr.mk ?_ | refine Ld.mk (by repeat (first | exact List.Mem.head _ | apply List.Mem.tail)) rfl ?_ | refine LenS.mk ?_ | refine Bin.eql ?_ | refine Bin.neq ?_ | refine Bin.lss ?_ | refine Bin.leq ?_ | refine Bin.gtr ?_ | refine Bin.geq ?_ | refine Un.not ?_ | refine Ext.mk rfl ?_ | refine Pick.mk ?_ | refine Bin.ptrNil ?_ | refine Bin.mapNil ?_ | refine Bin.nilNil ?_ | refine Br.yes ?_ | refine Br.no ?_))
  refine Grp.and (decide (a.1 < b.1)) (fun _ => ?_) rfl fun _ => ⟨rfl, rfl⟩
  (repeat (first | refine Nil.ptr ?_ | refine FAddr.mk ?_ | refine Ld.mk (by repeat (first | exact List.Mem.head _ | apply List.Mem.tail)) rfl ?_ | refine LenS.mk ?_ | refine Bin.eql ?_ | refine Bin.neq ?_ | refine Bin.lss ?_ | refine Bin.leq ?_ | refine Bin.gtr ?_ | refine Bin.geq ?_ | refine Un.not ?_ | refine Ext.mk rfl ?_ | refine Pick.mk ?_ | refine Bin.ptrNil ?_ | refine Bin.mapNil ?_ | refine Bin.nilNil ?_ | refine Br.yes ?_ | refine Br.no ?_))
  exact ⟨rfl, rfl⟩
theorem putU {g : World} {h : Value} {l : List It} {f : Int → Option Nat} {C : Hp} (ho : HO .u64 75 71 h l f C) {i : Nat} (hi : i < l.length) (a : It) (F : Hp) :
    SCalls Try.prog g 30 #[h, .int .i64 (i : Int), .agg #[.int .u64 a.1, .int .i64 a.2]] (C ++ F) (fun e H' => ∃ C', e = .returned (.tuple #[]) ∧ H' = C' ++ F ∧ HO .u64 75 71 h (l.set i a) (upf f a.1 (some i)) C') := by
  obtain ⟨bh, la, mb, junk, Cm, rfl, rfl, hall, hm⟩ := ho.open (by omega)
  simp only [List.cons_append]
  refine (L30_sound (R := fun e H' => ∃ x C', e = .returned (.tuple #[]) ∧ H' = x :: (C' ++ F) ∧ HO .u64 75 71 (.pointer (some ⟨bh, 0, none⟩)) (l.set i a) (upf f a.1 (some i)) C') ?_).post ?_
  · unfold L30
    intro b1 _
    refine ⟨[_, _], .left (A := [_, _]), ?_⟩
    (repeat (first | refine Nil.ptr ?_ | refine FAddr.mk ?_ | refine Ld.mk (by repeat (first | exact List.Mem.head _ | apply List.Mem.tail)) rfl ?_ | refine LenS.mk ?_ | refine Bin.eql ?_ | refine Bin.neq ?_ | refine Bin.lss ?_ | refine Bin.leq ?_ | refine Bin.gtr ?_ | refine Bin.geq ?_ | refine Un.not ?_ | refine Ext.mk rfl ?_ | refine Pick.mk ?_ | refine Bin.ptrNil ?_ | refine Bin.mapNil ?_ | refine Bin.nilNil ?_ | refine Br.yes ?_ | refine Br.no ?_))
    refine LdA.whole (r := enc .u64 a) (by repeat (first | exact List.Mem.head _ | apply List.Mem.tail)) rfl ?_
    refine IAddr.nat hi ?_
    refine St.row (l := encL .u64 l ++ junk) (by repeat (first | exact Upd.head _ | apply Upd.tail)) hall (by rw [List.length_append, encL_length]; omega) rfl (enc_one _ _) ?_
    refine ⟨[_, _], .left (A := [_, _]), ?_⟩
    (repeat (first | refine Nil.ptr ?_ | refine FAddr.mk ?_ | refine Ld.mk (by repeat (first | exact List.Mem.head _ | apply List.Mem.tail)) rfl ?_ | refine LenS.mk ?_ | refine Bin.eql ?_ | refine Bin.neq ?_ | refine Bin.lss ?_ | refine Bin.leq ?_ | refine Bin.gtr ?_ | refine Bin.geq ?_ | refine Un.not ?_ | refine Ext.mk rfl ?_ | refine Pick.mk ?_ | refine Bin.ptrNil ?_ | refine Bin.mapNil ?_ | refine Bin.nilNil ?_ | refine Br.yes ?_ | refine Br.no ?_))
    refine MOwn.upd (p := i) (A := [_, _, _]) hm fun C' hm' => ?_
    refine ⟨_, (bh, _) :: (la, _) :: C', rfl, rfl, ?_⟩
    rw [encL_set hi]
    exact .shut (rows_two hall _ _) (by simp) (by simp) hm'
  · rintro e H' ⟨x, C', rfl, rfl, h⟩
    exact ⟨_, .tail, C', rfl, rfl, h⟩
theorem aheadI {g : World} (a b : It) (H : Hp) : CalmQ Try.prog g 48 #[.agg #[.int .i64 a.1, .int .i64 a.2], .agg #[.int .i64 b.1, .int .i64 b.2]] H (.bool (prec a b)) := by
  refine L48_sound ?_
  unfold L48
  intro b1 _ b2 _
  (repeat (first | refine Nil.ptr ?_ | refine FAddr.mk ?_ | refine Ld.mk (by repeat (first | exact List.Mem.head _ | apply List.Mem.tail)) rfl ?_ | refine LenS.mk ?_ | refine Bin.eql ?_ | refine Bin.neq ?_ | refine Bin.lss ?_ | refine Bin.leq ?_ | refine Bin.gtr ?_ | refine Bin.geq ?_ | refine Un.not ?_ | refine Ext.mk rfl ?_ | refine Pick.mk ?_ | refine Bin.ptrNil ?_ | refine Bin.mapNil ?_ | refine Bin.nilNil ?_ | refine Br.yes ?_ | refine Br.no ?_))
  refine Grp.or (a.2 == b.2 && decide (a.1 < b.1)) (fun _ => ?_) rfl fun _ => ⟨rfl, .right (A := [_, _])⟩
  (repeat (first | refine Nil.ptr ?_ | refine FAddr.mk ?_ | refine Ld.mk (by repeat (first | exact List.Mem.head _ | apply List.Mem.tail)) rfl ?_ | refine LenS.mk ?_ | refine Bin.eql ?_ | refine Bin.neq ?_ | refine Bin.lss ?_ | refine Bin.leq ?_ | refine Bin.gtr ?_ | refine Bin.geq ?_ | refine Un.not ?_ | refine Ext.mk rfl ?_ | refine Pick.mk ?_ | refine Bin.ptrNil ?_ | refine Bin.mapNil ?_ | refine Bin.nilNil ?_ | refine Br.yes ?_ | refine Br.no ?_))
  refine Grp.and (decide (a.1 < b.1)) (fun _ => ?_) rfl fun _ => ⟨rfl, rfl⟩
  (repeat (first | refine Nil.ptr ?_ | refine FAddr.mk ?_ | refine Ld.mk (by repeat (first | exact List.Mem.head _ | apply List.Mem.tail)) rfl ?_ | refine LenS.mk ?_ | refine Bin.eql ?_ | refine Bin.neq ?_ | refine Bin.lss ?_ | refine Bin.leq ?_ | refine Bin.gtr ?_ | refine Bin.geq ?_ | refine Un.not ?_ | refine Ext.mk rfl ?_ | refine Pick.mk ?_ | refine Bin.ptrNil ?_ | refine Bin.mapNil ?_ | refine Bin.nilNil ?_ | refine Br.yes ?_ | refine Br.no ?_))
  exact ⟨rfl, rfl⟩
theorem putI {g : World} {h : Value} {l : List It} {f : Int → Option Nat} {C : Hp} (ho : HO .i64 90 88 h l f C) {i : Nat} (hi : i < l.length) (a : It) (F : Hp) :
    SCalls Try.prog g 40 #[h, .int .i64 (i : Int), .agg #[.int .i64 a.1, .int .i64 a.2]] (C ++ F) (fun e H' => ∃ C', e = .returned (.tuple #[]) ∧ H' = C' ++ F ∧ HO .i64 90 88 h (l.set i a) (upf f a.1 (some i)) C') := by
  obtain ⟨bh, la, mb, junk, Cm, rfl, rfl, hall, hm⟩ := ho.open (by omega)
  simp only [List.cons_append]
  refine (L40_sound (R := fun e H' => ∃ x C', e = .returned (.tuple #[]) ∧ H' = x :: (C' ++ F) ∧ HO .i64 90 88 (.pointer (some ⟨bh, 0, none⟩)) (l.set i a) (upf f a.1 (some i)) C') ?_).post ?_
  · unfold L40
    intro b1 _
    refine ⟨[_, _], .left (A := [_, _]), ?_⟩
    (repeat (first | refine Nil.ptr ?_ | refine FAddr.mk ?_ | refine Ld.mk (by repeat (first | exact List.Mem.head _ | apply List.Mem.tail)) rfl ?_ | refine LenS.mk ?_ | refine Bin.eql ?_ | refine Bin.neq ?_ | refine Bin.lss ?_ | refine Bin.leq ?_ | refine Bin.gtr ?_ | refine Bin.geq ?_ | refine Un.not ?_ | refine Ext.mk rfl ?_ | refine Pick.mk ?_ | refine Bin.ptrNil ?_ | refine Bin.mapNil ?_ | refine Bin.nilNil ?_ | refine Br.yes ?_ | refine Br.no ?_))
    refine LdA.whole (r := enc .i64 a) (by repeat (first | exact List.Mem.head _ | apply List.Mem.tail)) rfl ?_
    refine IAddr.nat hi ?_
    refine St.row (l := encL .i64 l ++ junk) (by repeat (first | exact Upd.head _ | apply Upd.tail)) hall (by rw [List.length_append, encL_length]; omega) rfl (enc_one _ _) ?_
    refine ⟨[_, _], .left (A := [_, _]), ?_⟩
    (repeat (first | refine Nil.ptr ?_ | refine FAddr.mk ?_ | refine Ld.mk (by repeat (first | exact List.Mem.head _ | apply List.Mem.tail)) rfl ?_ | refine LenS.mk ?_ | refine Bin.eql ?_ | refine Bin.neq ?_ | refine Bin.lss ?_ | refine Bin.leq ?_ | refine Bin.gtr ?_ | refine Bin.geq ?_ | refine Un.not ?_ | refine Ext.mk rfl ?_ | refine Pick.mk ?_ | refine Bin.ptrNil ?_ | refine Bin.mapNil ?_ | refine Bin.nilNil ?_ | refine Br.yes ?_ | refine Br.no ?_))
    refine MOwn.upd (p := i) (A := [_, _, _]) hm fun C' hm' => ?_
    refine ⟨_, (bh, _) :: (la, _) :: C', rfl, rfl, ?_⟩
    rw [encL_set hi]
    exact .shut (rows_two hall _ _) (by simp) (by simp) hm'
  · rintro e H' ⟨x, C', rfl, rfl, h⟩
    exact ⟨_, .tail, C', rfl, rfl, h⟩
theorem aheadN {g : World} (a b : It) (H : Hp) : CalmQ Try.prog g 49 #[.agg #[.int .i64 a.1, .int .i64 a.2], .agg #[.int .i64 b.1, .int .i64 b.2]] H (.bool (prec a b)) := by
  refine L49_sound ?_
  unfold L49
  intro b1 _ b2 _
  (repeat (first | refine Nil.ptr ?_ | refine FAddr.mk ?_ | refine Ld.mk (by repeat (first | exact List.Mem.head _ | apply List.Mem.tail)) rfl ?_ | refine LenS.mk ?_ | refine Bin.eql ?_ | refine Bin.neq ?_ | refine Bin.lss ?_ | refine Bin.leq ?_ | refine Bin.gtr ?_ | refine Bin.geq ?_ | refine Un.not ?_ | refine Ext.mk rfl ?_ | refine Pick.mk ?_ | refine Bin.ptrNil ?_ | refine Bin.mapNil ?_ | refine Bin.nilNil ?_ | refine Br.yes ?_ | refine Br.no ?_))
  refine Grp.or (a.2 == b.2 && decide (a.1 < b.1)) (fun _ => ?_) rfl fun _ => ⟨rfl, .right (A := [_, _])⟩
  (repeat (first | refine Nil.ptr ?_ | refine FAddr.mk ?_ | refine Ld.mk (by repeat (first | exact List.Mem.head _ | apply List.Mem.tail)) rfl ?_ | refine LenS.mk ?_ | refine Bin.eql ?_ | refine Bin.neq ?_ | refine Bin.lss ?_ | refine Bin.leq ?_ | refine Bin.gtr ?_ | refine Bin.geq ?_ | refine Un.not ?_ | refine Ext.mk rfl ?_ | refine Pick.mk ?_ | refine Bin.ptrNil ?_ | refine Bin.mapNil ?_ | refine Bin.nilNil ?_ | refine Br.yes ?_ | refine Br.no ?_))
  refine Grp.and (decide (a.1 < b.1)) (fun _ => ?_) rfl fun _ => ⟨rfl, rfl⟩
  (repeat (first | refine Nil.ptr ?_ | refine FAddr.mk ?_ | refine Ld.mk (by repeat (first | exact List.Mem.head _ | apply List.Mem.tail)) rfl ?_ | refine LenS.mk ?_ | refine Bin.eql ?_ | refine Bin.neq ?_ | refine Bin.lss ?_ | refine Bin.leq ?_ | refine Bin.gtr ?_ | refine Bin.geq ?_ | refine Un.not ?_ | refine Ext.mk rfl ?_ | refine Pick.mk ?_ | refine Bin.ptrNil ?_ | refine Bin.mapNil ?_ | refine Bin.nilNil ?_ | refine Br.yes ?_ | refine Br.no ?_))
  exact ⟨rfl, rfl⟩
theorem putN {g : World} {h : Value} {l : List It} {f : Int → Option Nat} {C : Hp} (ho : HO .i64 95 42 h l f C) {i : Nat} (hi : i < l.length) (a : It) (F : Hp) :
    SCalls Try.prog g 45 #[h, .int .i64 (i : Int), .agg #[.int .i64 a.1, .int .i64 a.2]] (C ++ F) (fun e H' => ∃ C', e = .returned (.tuple #[]) ∧ H' = C' ++ F ∧ HO .i64 95 42 h (l.set i a) (upf f a.1 (some i)) C') := by
  obtain ⟨bh, la, mb, junk, Cm, rfl, rfl, hall, hm⟩ := ho.open (by omega)
  simp only [List.cons_append]
  refine (L45_sound (R := fun e H' => ∃ x C', e = .returned (.tuple #[]) ∧ H' = x :: (C' ++ F) ∧ HO .i64 95 42 (.pointer (some ⟨bh, 0, none⟩)) (l.set i a) (upf f a.1 (some i)) C') ?_).post ?_
  · unfold L45
    intro b1 _
    refine ⟨[_, _], .left (A := [_, _]), ?_⟩
    (repeat (first | refine Nil.ptr ?_ | refine FAddr.mk ?_ | refine Ld.mk (by repeat (first | exact List.Mem.head _ | apply List.Mem.tail)) rfl ?_ | refine LenS.mk ?_ | refine Bin.eql ?_ | refine Bin.neq ?_ | refine Bin.lss ?_ | refine Bin.leq ?_ | refine Bin.gtr ?_ | refine Bin.geq ?_ | refine Un.not ?_ | refine Ext.mk rfl ?_ | refine Pick.mk ?_ | refine Bin.ptrNil ?_ | refine Bin.mapNil ?_ | refine Bin.nilNil ?_ | refine Br.yes ?_ | refine Br.no ?_))
    refine LdA.whole (r := enc .i64 a) (by repeat (first | exact List.Mem.head _ | apply List.Mem.tail)) rfl ?_
    refine IAddr.nat hi ?_
    refine St.row (l := encL .i64 l ++ junk) (by repeat (first | exact Upd.head _ | apply Upd.tail)) hall (by rw [List.length_append, encL_length]; omega) rfl (enc_one _ _) ?_
    refine ⟨[_, _], .left (A := [_, _]), ?_⟩
    (repeat (first | refine Nil.ptr ?_ | refine FAddr.mk ?_ | refine Ld.mk (by repeat (first | exact List.Mem.head _ | apply List.Mem.tail)) rfl ?_ | refine LenS.mk ?_ | refine Bin.eql ?_ | refine Bin.neq ?_ | refine Bin.lss ?_ | refine Bin.leq ?_ | refine Bin.gtr ?_ | refine Bin.geq ?_ | refine Un.not ?_ | refine Ext.mk rfl ?_ | refine Pick.mk ?_ | refine Bin.ptrNil ?_ | refine Bin.mapNil ?_ | refine Bin.nilNil ?_ | refine Br.yes ?_ | refine Br.no ?_))
    refine MOwn.upd (p := i) (A := [_, _, _]) hm fun C' hm' => ?_
    refine ⟨_, (bh, _) :: (la, _) :: C', rfl, rfl, ?_⟩
    rw [encL_set hi]
    exact .shut (rows_two hall _ _) (by simp) (by simp) hm'
  · rintro e H' ⟨x, C', rfl, rfl, h⟩
    exact ⟨_, .tail, C', rfl, rfl, h⟩
end Go.Proofs
