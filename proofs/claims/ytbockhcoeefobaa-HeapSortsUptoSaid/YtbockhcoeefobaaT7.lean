import Derived.Test.YtbockhcoeefobaaT6
set_option linter.unusedVariables false
set_option linter.unusedSimpArgs false
set_option maxRecDepth 100000
namespace Go.Proofs
open Go Go.Sx HpA
theorem popNilU {g : World} (H : Hp) : CalmQ Try.prog g 13 #[.pointer none] H (.tuple #[.int .u64 0, .int .i64 0, .int .i64 10]) := by
  refine L13_sound ?_
  unfold L13
  (repeat (first | refine Nil.ptr ?_ | refine FAddr.mk ?_ | refine Ld.mk (by repeat (first | exact List.Mem.head _ | apply List.Mem.tail)) rfl ?_ | refine LenS.mk ?_ | refine Bin.eql ?_ | refine Bin.neq ?_ | refine Bin.lss ?_ | refine Bin.leq ?_ | refine Bin.gtr ?_ | refine Bin.geq ?_ | refine Un.not ?_ | refine Ext.mk rfl ?_ | refine Pick.mk ?_ | refine Bin.ptrNil ?_ | refine Bin.mapNil ?_ | refine Bin.nilNil ?_ | refine Br.yes ?_ | refine Br.no ?_))
  refine Grp.or true (fun h => by simp at h) rfl fun _ => ?_
  (repeat (first | refine Nil.ptr ?_ | refine FAddr.mk ?_ | refine Ld.mk (by repeat (first | exact List.Mem.head _ | apply List.Mem.tail)) rfl ?_ | refine LenS.mk ?_ | refine Bin.eql ?_ | refine Bin.neq ?_ | refine Bin.lss ?_ | refine Bin.leq ?_ | refine Bin.gtr ?_ | refine Bin.geq ?_ | refine Un.not ?_ | refine Ext.mk rfl ?_ | refine Pick.mk ?_ | refine Bin.ptrNil ?_ | refine Bin.mapNil ?_ | refine Bin.nilNil ?_ | refine Br.yes ?_ | refine Br.no ?_))
  exact ⟨rfl, .refl _⟩
theorem keyNilU {g : World} (x : Int) (H : Hp) : CalmQ Try.prog g 20 #[.pointer none, .int .u64 x] H (.tuple #[.int .i64 0, .int .i64 10]) := by
  refine L20_sound ?_
  unfold L20
  (repeat (first | refine Nil.ptr ?_ | refine FAddr.mk ?_ | refine Ld.mk (by repeat (first | exact List.Mem.head _ | apply List.Mem.tail)) rfl ?_ | refine LenS.mk ?_ | refine Bin.eql ?_ | refine Bin.neq ?_ | refine Bin.lss ?_ | refine Bin.leq ?_ | refine Bin.gtr ?_ | refine Bin.geq ?_ | refine Un.not ?_ | refine Ext.mk rfl ?_ | refine Pick.mk ?_ | refine Bin.ptrNil ?_ | refine Bin.mapNil ?_ | refine Bin.nilNil ?_ | refine Br.yes ?_ | refine Br.no ?_))
  exact ⟨rfl, .refl _⟩
theorem pushNilU {g : World} (x k : Int) (H : Hp) : CalmQ Try.prog g 10 #[.pointer none, .int .u64 x, .int .i64 k] H (.int .i64 10) := by
  refine L10_sound ?_
  unfold L10
  (repeat (first | refine Nil.ptr ?_ | refine FAddr.mk ?_ | refine Ld.mk (by repeat (first | exact List.Mem.head _ | apply List.Mem.tail)) rfl ?_ | refine LenS.mk ?_ | refine Bin.eql ?_ | refine Bin.neq ?_ | refine Bin.lss ?_ | refine Bin.leq ?_ | refine Bin.gtr ?_ | refine Bin.geq ?_ | refine Un.not ?_ | refine Ext.mk rfl ?_ | refine Pick.mk ?_ | refine Bin.ptrNil ?_ | refine Bin.mapNil ?_ | refine Bin.nilNil ?_ | refine Br.yes ?_ | refine Br.no ?_))
  exact ⟨rfl, .refl _⟩
theorem moveNilU {g : World} (x k : Int) (H : Hp) : CalmQ Try.prog g 12 #[.pointer none, .int .u64 x, .int .i64 k] H (.int .i64 10) := by
  refine L12_sound ?_
  unfold L12
  (repeat (first | refine Nil.ptr ?_ | refine FAddr.mk ?_ | refine Ld.mk (by repeat (first | exact List.Mem.head _ | apply List.Mem.tail)) rfl ?_ | refine LenS.mk ?_ | refine Bin.eql ?_ | refine Bin.neq ?_ | refine Bin.lss ?_ | refine Bin.leq ?_ | refine Bin.gtr ?_ | refine Bin.geq ?_ | refine Un.not ?_ | refine Ext.mk rfl ?_ | refine Pick.mk ?_ | refine Bin.ptrNil ?_ | refine Bin.mapNil ?_ | refine Bin.nilNil ?_ | refine Br.yes ?_ | refine Br.no ?_))
  exact ⟨rfl, .refl _⟩
theorem lenNilU {g : World} (H : Hp) : CalmQ Try.prog g 14 #[.pointer none] H (.int .i64 0) := by
  refine L14_sound ?_
  unfold L14
  (repeat (first | refine Nil.ptr ?_ | refine FAddr.mk ?_ | refine Ld.mk (by repeat (first | exact List.Mem.head _ | apply List.Mem.tail)) rfl ?_ | refine LenS.mk ?_ | refine Bin.eql ?_ | refine Bin.neq ?_ | refine Bin.lss ?_ | refine Bin.leq ?_ | refine Bin.gtr ?_ | refine Bin.geq ?_ | refine Un.not ?_ | refine Ext.mk rfl ?_ | refine Pick.mk ?_ | refine Bin.ptrNil ?_ | refine Bin.mapNil ?_ | refine Bin.nilNil ?_ | refine Br.yes ?_ | refine Br.no ?_))
  exact ⟨rfl, .refl _⟩
theorem popNilI {g : World} (H : Hp) : CalmQ Try.prog g 22 #[.pointer none] H (.tuple #[.int .i64 0, .int .i64 0, .int .i64 10]) := by
  refine L22_sound ?_
  unfold L22
  (repeat (first | refine Nil.ptr ?_ | refine FAddr.mk ?_ | refine Ld.mk (by repeat (first | exact List.Mem.head _ | apply List.Mem.tail)) rfl ?_ | refine LenS.mk ?_ | refine Bin.eql ?_ | refine Bin.neq ?_ | refine Bin.lss ?_ | refine Bin.leq ?_ | refine Bin.gtr ?_ | refine Bin.geq ?_ | refine Un.not ?_ | refine Ext.mk rfl ?_ | refine Pick.mk ?_ | refine Bin.ptrNil ?_ | refine Bin.mapNil ?_ | refine Bin.nilNil ?_ | refine Br.yes ?_ | refine Br.no ?_))
  refine Grp.or true (fun h => by simp at h) rfl fun _ => ?_
  (repeat (first | refine Nil.ptr ?_ | refine FAddr.mk ?_ | refine Ld.mk (by repeat (first | exact List.Mem.head _ | apply List.Mem.tail)) rfl ?_ | refine LenS.mk ?_ | refine Bin.eql ?_ | refine Bin.neq ?_ | refine Bin.lss ?_ | refine Bin.leq ?_ | refine Bin.gtr ?_ | refine Bin.geq ?_ | refine Un.not ?_ | refine Ext.mk rfl ?_ | refine Pick.mk ?_ | refine Bin.ptrNil ?_ | refine Bin.mapNil ?_ | refine Bin.nilNil ?_ | refine Br.yes ?_ | refine Br.no ?_))
  exact ⟨rfl, .refl _⟩
theorem keyNilI {g : World} (x : Int) (H : Hp) : CalmQ Try.prog g 23 #[.pointer none, .int .i64 x] H (.tuple #[.int .i64 0, .int .i64 10]) := by
  refine L23_sound ?_
  unfold L23
  (repeat (first | refine Nil.ptr ?_ | refine FAddr.mk ?_ | refine Ld.mk (by repeat (first | exact List.Mem.head _ | apply List.Mem.tail)) rfl ?_ | refine LenS.mk ?_ | refine Bin.eql ?_ | refine Bin.neq ?_ | refine Bin.lss ?_ | refine Bin.leq ?_ | refine Bin.gtr ?_ | refine Bin.geq ?_ | refine Un.not ?_ | refine Ext.mk rfl ?_ | refine Pick.mk ?_ | refine Bin.ptrNil ?_ | refine Bin.mapNil ?_ | refine Bin.nilNil ?_ | refine Br.yes ?_ | refine Br.no ?_))
  exact ⟨rfl, .refl _⟩
theorem pushNilI {g : World} (x k : Int) (H : Hp) : CalmQ Try.prog g 24 #[.pointer none, .int .i64 x, .int .i64 k] H (.int .i64 10) := by
  refine L24_sound ?_
  unfold L24
  (repeat (first | refine Nil.ptr ?_ | refine FAddr.mk ?_ | refine Ld.mk (by repeat (first | exact List.Mem.head _ | apply List.Mem.tail)) rfl ?_ | refine LenS.mk ?_ | refine Bin.eql ?_ | refine Bin.neq ?_ | refine Bin.lss ?_ | refine Bin.leq ?_ | refine Bin.gtr ?_ | refine Bin.geq ?_ | refine Un.not ?_ | refine Ext.mk rfl ?_ | refine Pick.mk ?_ | refine Bin.ptrNil ?_ | refine Bin.mapNil ?_ | refine Bin.nilNil ?_ | refine Br.yes ?_ | refine Br.no ?_))
  exact ⟨rfl, .refl _⟩
theorem moveNilI {g : World} (x k : Int) (H : Hp) : CalmQ Try.prog g 25 #[.pointer none, .int .i64 x, .int .i64 k] H (.int .i64 10) := by
  refine L25_sound ?_
  unfold L25
  (repeat (first | refine Nil.ptr ?_ | refine FAddr.mk ?_ | refine Ld.mk (by repeat (first | exact List.Mem.head _ | apply List.Mem.tail)) rfl ?_ | refine LenS.mk ?_ | refine Bin.eql ?_ | refine Bin.neq ?_ | refine Bin.lss ?_ | refine Bin.leq ?_ | refine Bin.gtr ?_ | refine Bin.geq ?_ | refine Un.not ?_ | refine Ext.mk rfl ?_ | refine Pick.mk ?_ | refine Bin.ptrNil ?_ | refine Bin.mapNil ?_ | refine Bin.nilNil ?_ | refine Br.yes ?_ | refine Br.no ?_))
  exact ⟨rfl, .refl _⟩
theorem lenNilI {g : World} (H : Hp) : CalmQ Try.prog g 26 #[.pointer none] H (.int .i64 0) := by
  refine L26_sound ?_
  unfold L26
  (repeat (first | refine Nil.ptr ?_ | refine FAddr.mk ?_ | refine Ld.mk (by repeat (first | exact List.Mem.head _ | apply List.Mem.tail)) rfl ?_ | refine LenS.mk ?_ | refine Bin.eql ?_ | refine Bin.neq ?_ | refine Bin.lss ?_ | refine Bin.leq ?_ | refine Bin.gtr ?_ | refine Bin.geq ?_ | refine Un.not ?_ | refine Ext.mk rfl ?_ | refine Pick.mk ?_ | refine Bin.ptrNil ?_ | refine Bin.mapNil ?_ | refine Bin.nilNil ?_ | refine Br.yes ?_ | refine Br.no ?_))
  exact ⟨rfl, .refl _⟩
theorem popNilN {g : World} (H : Hp) : CalmQ Try.prog g 34 #[.pointer none] H (.tuple #[.int .i64 0, .int .i64 0, .int .i64 10]) := by
  refine L34_sound ?_
  unfold L34
  (repeat (first | refine Nil.ptr ?_ | refine FAddr.mk ?_ | refine Ld.mk (by repeat (first | exact List.Mem.head _ | apply List.Mem.tail)) rfl ?_ | refine LenS.mk ?_ | refine Bin.eql ?_ | refine Bin.neq ?_ | refine Bin.lss ?_ | refine Bin.leq ?_ | refine Bin.gtr ?_ | refine Bin.geq ?_ | refine Un.not ?_ | refine Ext.mk rfl ?_ | refine Pick.mk ?_ | refine Bin.ptrNil ?_ | refine Bin.mapNil ?_ | refine Bin.nilNil ?_ | refine Br.yes ?_ | refine Br.no ?_))
  refine Grp.or true (fun h => by simp at h) rfl fun _ => ?_
  (repeat (first | refine Nil.ptr ?_ | refine FAddr.mk ?_ | refine Ld.mk (by repeat (first | exact List.Mem.head _ | apply List.Mem.tail)) rfl ?_ | refine LenS.mk ?_ | refine Bin.eql ?_ | refine Bin.neq ?_ | refine Bin.lss ?_ | refine Bin.leq ?_ | refine Bin.gtr ?_ | refine Bin.geq ?_ | refine Un.not ?_ | refine Ext.mk rfl ?_ | refine Pick.mk ?_ | refine Bin.ptrNil ?_ | refine Bin.mapNil ?_ | refine Bin.nilNil ?_ | refine Br.yes ?_ | refine Br.no ?_))
  exact ⟨rfl, .refl _⟩
theorem keyNilN {g : World} (x : Int) (H : Hp) : CalmQ Try.prog g 36 #[.pointer none, .int .i64 x] H (.tuple #[.int .i64 0, .int .i64 10]) := by
  refine L36_sound ?_
  unfold L36
  (repeat (first | refine Nil.ptr ?_ | refine FAddr.mk ?_ | refine Ld.mk (by repeat (first | exact List.Mem.head _ | apply List.Mem.tail)) rfl ?_ | refine LenS.mk ?_ | refine Bin.eql ?_ | refine Bin.neq ?_ | refine Bin.lss ?_ | refine Bin.leq ?_ | refine Bin.gtr ?_ | refine Bin.geq ?_ | refine Un.not ?_ | refine Ext.mk rfl ?_ | refine Pick.mk ?_ | refine Bin.ptrNil ?_ | refine Bin.mapNil ?_ | refine Bin.nilNil ?_ | refine Br.yes ?_ | refine Br.no ?_))
  exact ⟨rfl, .refl _⟩
theorem pushNilN {g : World} (x k : Int) (H : Hp) : CalmQ Try.prog g 32 #[.pointer none, .int .i64 x, .int .i64 k] H (.int .i64 10) := by
  refine L32_sound ?_
  unfold L32
  (repeat (first | refine Nil.ptr ?_ | refine FAddr.mk ?_ | refine Ld.mk (by repeat (first | exact List.Mem.head _ | apply List.Mem.tail)) rfl ?_ | refine LenS.mk ?_ | refine Bin.eql ?_ | refine Bin.neq ?_ | refine Bin.lss ?_ | refine Bin.leq ?_ | refine Bin.gtr ?_ | refine Bin.geq ?_ | refine Un.not ?_ | refine Ext.mk rfl ?_ | refine Pick.mk ?_ | refine Bin.ptrNil ?_ | refine Bin.mapNil ?_ | refine Bin.nilNil ?_ | refine Br.yes ?_ | refine Br.no ?_))
  exact ⟨rfl, .refl _⟩
theorem moveNilN {g : World} (x k : Int) (H : Hp) : CalmQ Try.prog g 35 #[.pointer none, .int .i64 x, .int .i64 k] H (.int .i64 10) := by
  refine L35_sound ?_
  unfold L35
  (repeat (first | refine Nil.ptr ?_ | refine FAddr.mk ?_ | refine Ld.mk (by repeat (first | exact List.Mem.head _ | apply List.Mem.tail)) rfl ?_ | refine LenS.mk ?_ | refine Bin.eql ?_ | refine Bin.neq ?_ | refine Bin.lss ?_ | refine Bin.leq ?_ | refine Bin.gtr ?_ | refine Bin.geq ?_ | refine Un.not ?_ | refine Ext.mk rfl ?_ | refine Pick.mk ?_ | refine Bin.ptrNil ?_ | refine Bin.mapNil ?_ | refine Bin.nilNil ?_ | refine Br.yes ?_ | refine Br.no ?_))
  exact ⟨rfl, .refl _⟩
theorem lenNilN {g : World} (H : Hp) : CalmQ Try.prog g 37 #[.pointer none] H (.int .i64 0) := by
  refine L37_sound ?_
  unfold L37
  (repeat (first | refine Nil.ptr ?_ | refine FAddr.mk ?_ | refine Ld.mk (by repeat (first | exact List.Mem.head _ | apply List.Mem.tail)) rfl ?_ | refine LenS.mk ?_ | refine Bin.eql ?_ | refine Bin.neq ?_ | refine Bin.lss ?_ | refine Bin.leq ?_ | refine Bin.gtr ?_ | refine Bin.geq ?_ | refine Un.not ?_ | refine Ext.mk rfl ?_ | refine Pick.mk ?_ | refine Bin.ptrNil ?_ | refine Bin.mapNil ?_ | refine Bin.nilNil ?_ | refine Br.yes ?_ | refine Br.no ?_))
  exact ⟨rfl, .refl _⟩
end Go.Proofs
