import Derived.Test.YtbockhcoeefobaaT9
set_option linter.unusedVariables false
set_option linter.unusedSimpArgs false
set_option maxRecDepth 100000
namespace Go.Proofs
open Go Go.Sx HpA
theorem refPop {g : World} {h : Value} {l : List Tg} {C : Hp} (ho : RO 46 52 h l C) (hmax : l.length < 4398046511104) (F : Hp) :
    SCalls Try.prog g 18 #[h] (C ++ F) (fun e H' => ∃ l' C', H' = C' ++ F ∧ RO 46 52 h l' C' ∧
      ((l = [] ∧ e = .returned (.tuple #[.agg #[.int .u64 0, .bool false, .int .i64 0], .int .i64 10]) ∧ l' = l) ∨
       (∃ m, ∃ hm : m < l.length, (∀ j, (hj : j < l.length) → ls l[j] l[m] = false) ∧ e = .returned (.tuple #[.agg (encG l[m]).toArray, .int .i64 0]) ∧ l' = l.eraseIdx m))) := by
  refine (L18_sound (R := fun e H' => ∃ H1, Ent H' H1 ∧ ∃ l' C', H1 = C' ++ F ∧ RO 46 52 h l' C' ∧
      ((l = [] ∧ e = .returned (.tuple #[.agg #[.int .u64 0, .bool false, .int .i64 0], .int .i64 10]) ∧ l' = l) ∨
       (∃ m, ∃ hm : m < l.length, (∀ j, (hj : j < l.length) → ls l[j] l[m] = false) ∧ e = .returned (.tuple #[.agg (encG l[m]).toArray, .int .i64 0]) ∧ l' = l.eraseIdx m))) ?_).post fun e H' h => h
  unfold L18
  intro b1 _
  by_cases hl : l = []
  · subst hl
    have ho0 := ho
    obtain ⟨b, v, Cs, rfl, rfl, hs⟩ := ho
    refine Nil.ptr (FAddr.mk (Ld.mk (by repeat (first | exact List.Mem.head _ | apply List.Mem.tail)) rfl (hs.lenS ?_)))
    refine Bin.eql ?_
    refine Br.yes' rfl ?_
    refine Build.mk (cs := [.int .u64 0, .bool false, .int .i64 0]) (by kernel_rfl) ?_
    refine St.whole (r := [.int .u64 0, .bool false, .int .i64 0]) (by repeat (first | exact Upd.head _ | apply Upd.tail)) rfl rfl (by simp [Value.oneCell']) ?_
    refine LdA.whole (r := [.int .u64 0, .bool false, .int .i64 0]) (by repeat (first | exact List.Mem.head _ | apply List.Mem.tail)) rfl ?_
    exact ⟨_, .tail, [], _, rfl, ho0, .inl ⟨rfl, rfl, rfl⟩⟩
  · have hlen : 0 < l.length := List.length_pos_iff.2 hl
    obtain ⟨b, b', junk, rfl, rfl, hall⟩ := ro_one ho hlen
    (repeat (first | refine Nil.ptr ?_ | refine FAddr.mk ?_ | refine Ld.mk (by repeat (first | exact List.Mem.head _ | apply List.Mem.tail)) rfl ?_ | refine LenS.mk ?_ | refine Bin.eql ?_ | refine Bin.neq ?_ | refine Bin.lss ?_ | refine Bin.leq ?_ | refine Bin.gtr ?_ | refine Bin.geq ?_ | refine Un.not ?_ | refine Ext.mk rfl ?_ | refine Pick.mk ?_ | refine Bin.ptrNil ?_ | refine Bin.mapNil ?_ | refine Bin.nilNil ?_ | refine Br.yes ?_ | refine Br.no ?_))
    refine Br.no' (b := ((l.length : Nat) : Int) == 0) (by simp [hl]) ?_
    (repeat (first | refine Nil.ptr ?_ | refine FAddr.mk ?_ | refine Ld.mk (by repeat (first | exact List.Mem.head _ | apply List.Mem.tail)) rfl ?_ | refine LenS.mk ?_ | refine Bin.eql ?_ | refine Bin.neq ?_ | refine Bin.lss ?_ | refine Bin.leq ?_ | refine Bin.gtr ?_ | refine Bin.geq ?_ | refine Un.not ?_ | refine Ext.mk rfl ?_ | refine Pick.mk ?_ | refine Bin.ptrNil ?_ | refine Bin.mapNil ?_ | refine Bin.nilNil ?_ | refine Br.yes ?_ | refine Br.no ?_))
    refine ⟨fun vs H1 => ∃ m i : Nat, vs = [.int .i64 m, .int .i64 i] ∧ H1 = (b1, .cells #[.int .u64 0, .bool false, .int .i64 0] 52 (0, 0)) :: (b, .cells #[.slice (some ⟨b', 0, none⟩) l.length (l.length + junk.length)] 46 (0, 0)) :: (b', .cells (rows (encGs l ++ junk)) 52 (0, 0)) :: F ∧ m < l.length ∧ i ≤ l.length ∧ ∀ j, (hj : j < i) → (h1 : j < l.length) → (h2 : m < l.length) → ls l[j] l[m] = false,
      fun vs _ => match vs with | [_, .int _ i] => l.length - i.toNat | _ => 0, .mk ⟨0, 0, rfl, rfl, hlen, by omega, fun j hj => by omega⟩, ?_⟩
    rintro w1 w2 H1 ⟨m, i, hv, rfl, hm, hi, hno⟩ gs
    obtain ⟨rfl, rfl⟩ : w1 = .int .i64 m ∧ w2 = .int .i64 i := by simpa using hv
    refine Bin.lss ?_
    refine Br.mk (fun h1 => ?_) (fun h1 => ?_)
    · have hil : i < l.length := by simpa using h1
      intro J hJ
      have hback : ∀ m' : Nat, m' < l.length → (∀ j, (hj : j < i + 1) → (h1 : j < l.length) → (h2 : m' < l.length) → ls l[j] l[m'] = false) →
          J [.int .i64 m'] ((b1, .cells #[.int .u64 0, .bool false, .int .i64 0] 52 (0, 0)) :: (b, .cells #[.slice (some ⟨b', 0, none⟩) l.length (l.length + junk.length)] 46 (0, 0)) :: (b', .cells (rows (encGs l ++ junk)) 52 (0, 0)) :: F) := by
        intro m' hm' hall'
        refine hJ _ _ fun gs => ?_
        refine Bin.add64 (c := ((i + 1 : Nat) : Int)) (by simp) (by omega) ?_
        exact .mk ⟨m', i + 1, rfl, rfl, hm', by omega, hall'⟩ (by simp only [Int.toNat_natCast]; omega)
      refine Nil.ptr (FAddr.mk (Ld.mk (by repeat (first | exact List.Mem.head _ | apply List.Mem.tail)) rfl ?_))
      refine IAddr.nat hil ?_
      refine LdA.row (l := encGs l ++ junk) (by repeat (first | exact List.Mem.head _ | apply List.Mem.tail)) hall (encGs_get hil junk) ?_
      refine Nil.ptr (FAddr.mk (Ld.mk (by repeat (first | exact List.Mem.head _ | apply List.Mem.tail)) rfl ?_))
      refine IAddr.nat hm ?_
      refine LdA.row (l := encGs l ++ junk) (by repeat (first | exact List.Mem.head _ | apply List.Mem.tail)) hall (encGs_get hm junk) ?_
      refine CallQ.by (lessG _ _ _) ?_
      refine Br.mk (fun h2 => ?_) (fun h2 => ?_)
      · refine .mk (hback i hil fun j hj h3 h4 => ?_)
        by_cases e : j = i
        · subst e; exact ls_irrefl _
        · exact ls_step (hno j (by omega) h3 hm) h2
      · refine .mk (hback m hm fun j hj h3 h4 => ?_)
        by_cases e : j = i
        · subst e; exact h2
        · exact hno j (by omega) h3 hm
    · have hil : i = l.length := by simp at h1; omega
      subst hil
      have hno' : ∀ j, (hj : j < l.length) → ls l[j] l[m] = false := fun j hj => hno j hj hj hm
      refine Nil.ptr (FAddr.mk (Ld.mk (by repeat (first | exact List.Mem.head _ | apply List.Mem.tail)) rfl ?_))
      refine IAddr.nat hm ?_
      refine LdA.row (l := encGs l ++ junk) (by repeat (first | exact List.Mem.head _ | apply List.Mem.tail)) hall (encGs_get hm junk) ?_
      intro b2 _
      refine St.whole (r := encG l[m]) (by repeat (first | exact Upd.head _ | apply Upd.tail)) rfl rfl (by simp [encG, Value.oneCell']) ?_
      refine Nil.ptr (FAddr.mk (Ld.mk (by repeat (first | exact List.Mem.head _ | apply List.Mem.tail)) rfl ?_))
      refine SliceE.upto (h := m) (by omega) ?_
      have htk : ((encGs l ++ junk).drop 0).take m = encGs (l.take m) := by
        rw [List.drop_zero, List.take_append_of_le_length (by rw [encGs_length]; omega)]
        simp [encGs, List.map_take]
      have hdr : ((encGs l ++ junk).drop (m + 1)).take (l.length - (m + 1)) = encGs (l.drop (m + 1)) := by
        rw [List.drop_append_of_le_length (by rw [encGs_length]; omega), List.take_append_of_le_length (by simp [encGs]), List.take_of_length_le (by simp [encGs])]
        simp [encGs, List.map_drop]
      refine (SOwn.nil 52 3).appN (A := []) (ns := encGs (l.take m)) (by rw [← htk]; exact Cells.part (i := 0) (m := m) (by repeat (first | exact List.Mem.head _ | apply List.Mem.tail)) hall (by simp [encGs_length]; omega)) (by simp [encGs_length]; omega) (encGs_rows _) (encGs_one _)
        ⟨[.int .u64 0, .bool false, .int .i64 0], rfl, rfl⟩ (by simp [encGs_length]; omega) (by simp [encGs_length]; omega) fun v' C' hs' => ?_
      refine Nil.ptr (FAddr.mk (Ld.mk (List.mem_append_right C' (by repeat (first | exact List.Mem.head _ | apply List.Mem.tail))) rfl ?_))
      refine Bin.add64 (c := ((m + 1 : Nat) : Int)) (by simp) (by omega) ?_
      refine SliceE.from (l := m + 1) (by omega) (by omega) ?_
      refine hs'.appN (A := []) (ns := encGs (l.drop (m + 1))) (by rw [← hdr]; exact Cells.from (List.mem_append_right C' (by repeat (first | exact List.Mem.head _ | apply List.Mem.tail))) hall (by simp [encGs_length]) (by omega) (by omega)) (by simp [encGs_length]) (encGs_rows _) (encGs_one _)
        ⟨[.int .u64 0, .bool false, .int .i64 0], rfl, rfl⟩ (by simp [encGs_length]; omega) (by simp [encGs_length]; omega) fun v'' C'' hs'' => ?_
      refine Nil.ptr (FAddr.mk ?_)
      refine St.one (Upd.prepend (by repeat (first | exact Upd.head _ | apply Upd.tail)) C'') (by obtain ⟨a, c, rfl⟩ := hs''.len; rfl) (by simp) rfl ?_
      refine LdA.whole (r := encG l[m]) (List.mem_append_right C'' (by repeat (first | exact List.Mem.head _ | apply List.Mem.tail))) rfl ?_
      refine St.whole (r := encG l[m]) (Upd.prepend (by repeat (first | exact Upd.head _ | apply Upd.tail)) C'') rfl rfl (by simp [encG, Value.oneCell']) ?_
      refine LdA.whole (r := encG l[m]) (List.mem_append_right C'' (by repeat (first | exact List.Mem.head _ | apply List.Mem.tail))) rfl ?_
      refine ⟨(b, .cells #[v''] 46 (0, 0)) :: C'' ++ F, ?_, l.eraseIdx m, _, rfl, ⟨b, v'', C'', rfl, rfl, ?_⟩, .inr ⟨m, hm, hno', rfl, rfl⟩⟩
      · refine (Ent.drop1 C'' _ _).trans ((Ent.drop1 C'' _ _).trans ((Ent.front C'' _ _).trans ?_))
        exact Ent.drop1 (_ :: C'') _ _
      · have e : [] ++ encGs (l.take m) ++ encGs (l.drop (m + 1)) = encGs (l.eraseIdx m) := by
          rw [List.nil_append, List.eraseIdx_eq_take_drop_succ]; simp [encGs]
        rw [← e]; exact hs''
end Go.Proofs
