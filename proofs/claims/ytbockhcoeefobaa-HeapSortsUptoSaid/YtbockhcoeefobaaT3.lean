import Derived.Test.YtbockhcoeefobaaT2
set_option linter.unusedVariables false
set_option linter.unusedSimpArgs false
set_option maxRecDepth 100000
namespace Go.Proofs
open Go Go.Sx HpA
theorem upU {g : World} {h : Value} {l : List It} {f : Int → Option Nat} {C : Hp} (ho : HO .u64 75 71 h l f C) {i : Nat} (hi : i < l.length) (hmax : l.length < 4611686018427387904) (hu : UpInv l.length (at' l) i) (hc : ConsX l f i) (hO : Once l) (F : Hp) :
    SCalls Try.prog g 28 #[h, .int .i64 (i : Int)] (C ++ F) (fun e H' => ∃ l' f' C' p, e = .returned (.tuple #[]) ∧ H' = C' ++ F ∧ HO .u64 75 71 h l' f' C' ∧ l'.Perm l ∧ Cons l' f' ∧ Exc l'.length (at' l') p ∧ p < l'.length ∧ at' l' p = at' l i ∧
      (ChildOK l.length (at' l) i → Ord l'.length (at' l'))) := by
  obtain ⟨bh, la, mb, junk, Cm, rfl, rfl, hall, hm⟩ := ho.open (by omega)
  obtain ⟨n, hn⟩ : ∃ n, n = l.length := ⟨_, rfl⟩
  obtain ⟨a, ha⟩ : ∃ a, a = at' l i := ⟨_, rfl⟩
  simp only [List.cons_append]
  refine (L28_sound (R := fun e H' => ∃ x l' f' C' p, e = .returned (.tuple #[]) ∧ H' = x :: (C' ++ F) ∧ HO .u64 75 71 (.pointer (some ⟨bh, 0, none⟩)) l' f' C' ∧ l'.Perm l ∧ Cons l' f' ∧ Exc l'.length (at' l') p ∧ p < l'.length ∧ at' l' p = at' l i ∧
      (ChildOK l.length (at' l) i → Ord l'.length (at' l'))) ?_).post ?_
  · unfold L28
    (repeat (first | refine Nil.ptr ?_ | refine FAddr.mk ?_ | refine Ld.mk (by repeat (first | exact List.Mem.head _ | apply List.Mem.tail)) rfl ?_ | refine LenS.mk ?_ | refine Bin.eql ?_ | refine Bin.neq ?_ | refine Bin.lss ?_ | refine Bin.leq ?_ | refine Bin.gtr ?_ | refine Bin.geq ?_ | refine Un.not ?_ | refine Ext.mk rfl ?_ | refine Pick.mk ?_ | refine Bin.ptrNil ?_ | refine Bin.mapNil ?_ | refine Bin.nilNil ?_ | refine Br.yes ?_ | refine Br.no ?_))
    refine IAddr.nat hi ?_
    refine LdA.row (l := encL .u64 l ++ junk) (by repeat (first | exact List.Mem.head _ | apply List.Mem.tail)) hall (encL_get hi junk) ?_
    intro b6 _
    refine St.whole (r := enc .u64 (at' l i)) (by repeat (first | exact Upd.head _ | apply Upd.tail)) rfl rfl (enc_one _ _) ?_
    rw [← ha]
    refine ⟨fun vs H => ∃ (j : Nat) (L : List It) (f : Int → Option Nat) (C : Hp), vs = [.int .i64 (j : Int)] ∧ H = (b6, Obj.cells (enc .u64 a).toArray 75 (0, 0)) :: (C ++ F) ∧ HO .u64 75 71 (.pointer (some ⟨bh, 0, none⟩)) L f C ∧ L.length = n ∧ j < n ∧
        (L.set j a).Perm l ∧ UpInv n (at' (L.set j a)) j ∧ ConsX (L.set j a) f j ∧ (ChildOK n (at' l) i → ChildOK n (at' (L.set j a)) j),
      fun vs _ => match vs with | [.int _ j] => j.toNat | _ => 0, .mk ⟨i, l, f, _, rfl, rfl, ho, hn.symm, by omega, ?_, ?_, ?_, ?_⟩, ?_⟩
    · exact (by rw [ha, set_at hi])
    · rw [ha, set_at hi, hn]; exact hu
    · rw [ha, set_at hi]; exact hc
    · rw [ha, set_at hi]; exact id
    rintro w H ⟨j, L, f, C, hw, rfl, ho, hLn, hj, hp, hu, hc, hch⟩ gs
    simp only [List.cons.injEq, and_true] at hw
    subst hw
    obtain ⟨bh', la, mb, junk, Cm, hbh, rfl, hall, hm⟩ := ho.open (by omega)
    simp only [Value.pointer.injEq, Option.some.injEq, Addr.mk.injEq, and_true] at hbh
    subst hbh
    simp only [List.cons_append]
    have hOV : Once (L.set j a) := hO.perm hp
    have hlV : (L.set j a).length = n := by simp [hLn]
    have hVj : at' (L.set j a) j = a := by rw [at_set a (by omega)]; simp [fset]
    have hVq : 0 < j → at' (L.set j a) ((j - 1) / 2) = at' L ((j - 1) / 2) := fun h0 => by rw [at_set a (by omega)]; simp [fset, show ¬ ((j - 1) / 2 = j) from by omega]
    (repeat (first | refine Nil.ptr ?_ | refine FAddr.mk ?_ | refine Ld.mk (by repeat (first | exact List.Mem.head _ | apply List.Mem.tail)) rfl ?_ | refine LenS.mk ?_ | refine Bin.eql ?_ | refine Bin.neq ?_ | refine Bin.lss ?_ | refine Bin.leq ?_ | refine Bin.gtr ?_ | refine Bin.geq ?_ | refine Un.not ?_ | refine Ext.mk rfl ?_ | refine Pick.mk ?_ | refine Bin.ptrNil ?_ | refine Bin.mapNil ?_ | refine Bin.nilNil ?_ | refine Br.yes ?_ | refine Br.no ?_))
    refine Grp.and (prec a (at' L ((j - 1) / 2))) (fun h0 => ?_) rfl fun _ => ?_
    · have h0 : 0 < j := by simpa using h0
      refine LdA.whole (r := enc .u64 a) (by repeat (first | exact List.Mem.head _ | apply List.Mem.tail)) rfl ?_
      (repeat (first | refine Nil.ptr ?_ | refine FAddr.mk ?_ | refine Ld.mk (by repeat (first | exact List.Mem.head _ | apply List.Mem.tail)) rfl ?_ | refine LenS.mk ?_ | refine Bin.eql ?_ | refine Bin.neq ?_ | refine Bin.lss ?_ | refine Bin.leq ?_ | refine Bin.gtr ?_ | refine Bin.geq ?_ | refine Un.not ?_ | refine Ext.mk rfl ?_ | refine Pick.mk ?_ | refine Bin.ptrNil ?_ | refine Bin.mapNil ?_ | refine Bin.nilNil ?_ | refine Br.yes ?_ | refine Br.no ?_))
      refine Bin.sub64 (c := ((j - 1 : Nat) : Int)) (by omega) (by omega) ?_
      refine Bin.quo64 (by decide) (quo2 j h0) (by omega) ?_
      refine IAddr.nat (by omega) ?_
      refine LdA.row (l := encL .u64 L ++ junk) (by repeat (first | exact List.Mem.head _ | apply List.Mem.tail)) hall (encL_get (by omega) junk) ?_
      exact CallQ.by (aheadU a _ _) ⟨by trivial, rfl⟩
    refine Br.mk (fun ht => ?_) (fun hf => ?_)
    · simp only [Bool.and_eq_true, decide_eq_true_eq] at ht
      have h0 : 0 < j := by omega
      (repeat (first | refine Nil.ptr ?_ | refine FAddr.mk ?_ | refine Ld.mk (by repeat (first | exact List.Mem.head _ | apply List.Mem.tail)) rfl ?_ | refine LenS.mk ?_ | refine Bin.eql ?_ | refine Bin.neq ?_ | refine Bin.lss ?_ | refine Bin.leq ?_ | refine Bin.gtr ?_ | refine Bin.geq ?_ | refine Un.not ?_ | refine Ext.mk rfl ?_ | refine Pick.mk ?_ | refine Bin.ptrNil ?_ | refine Bin.mapNil ?_ | refine Bin.nilNil ?_ | refine Br.yes ?_ | refine Br.no ?_))
      refine Bin.sub64 (c := ((j - 1 : Nat) : Int)) (by omega) (by omega) ?_
      refine Bin.quo64 (by decide) (quo2 j h0) (by omega) ?_
      refine IAddr.nat (by omega) ?_
      refine LdA.row (l := encL .u64 L ++ junk) (by repeat (first | exact List.Mem.head _ | apply List.Mem.tail)) hall (encL_get (by omega) junk) ?_
      refine CallF.at (Ent.swap3 [_] (_ :: _ :: Cm) F) (putU (.shut hall rfl rfl hm) (i := j) (by omega) (at' L ((j - 1) / 2)) _) ?_
      rintro e H' ⟨C', rfl, rfl, ho'⟩
      refine ⟨_, Ent.swap3 C' [_] F, ?_⟩
      refine Bin.sub64 (c := ((j - 1 : Nat) : Int)) (by omega) (by omega) ?_
      refine Bin.quo64 (by decide) (quo2 j h0) (by omega) ?_
      have hst := up_step h0 (by rw [← hlV] at hj; rw [hlV] at hj; exact hj) hu (by rw [hVj, hVq h0]; exact ht.2)
      have hcs := hc.step hOV (i := j) (q := (j - 1) / 2) (by omega) (by omega) (by omega)
      have hpp := (swap_perm (l := L.set j a) (i := j) (q := (j - 1) / 2) (by omega) (by omega) (by omega)).trans hp
      have hVV : (L.set j (at' L ((j - 1) / 2))).set ((j - 1) / 2) a = ((L.set j a).set j (at' (L.set j a) ((j - 1) / 2))).set ((j - 1) / 2) (at' (L.set j a) j) := (set_set_at a (by omega) (by omega) (by omega)).symm
      have hat : at' ((L.set j (at' L ((j - 1) / 2))).set ((j - 1) / 2) a) = fset (fset (at' (L.set j a)) j (at' (L.set j a) ((j - 1) / 2))) ((j - 1) / 2) (at' (L.set j a) j) := by
        rw [hVV, at_set _ (by simp; omega), at_set _ (by omega)]
      refine Back.mk ⟨(j - 1) / 2, _, _, C', rfl, rfl, ho', by simp [hLn], by omega, ?_, ?_, ?_, fun _ => ?_⟩ ?_
      · rw [hVV]; exact hpp
      · rw [hat]; exact hst.1
      · rw [hVV]; rw [hVq h0] at hcs ⊢; exact hcs
      · rw [hat]; exact hst.2
      · simp only [Int.toNat_natCast]; omega
    · refine LdA.whole (r := enc .u64 a) (by repeat (first | exact List.Mem.head _ | apply List.Mem.tail)) rfl ?_
      refine CallF.at (Ent.swap3 [_] (_ :: _ :: Cm) F) (putU (.shut hall rfl rfl hm) (i := j) (by omega) a _) ?_
      rintro e H' ⟨C', rfl, rfl, ho'⟩
      refine ⟨_, Ent.swap3 C' [_] F, ?_⟩
      have hd := hc.done hOV (by omega)
      rw [hVj] at hd
      have hex := up_done hu (by
        by_cases h0 : j = 0
        · exact .inl h0
        · right
          rw [hVj, hVq (by omega)]
          rcases Bool.and_eq_false_iff.1 hf with h | h
          · simp at h; omega
          · exact h)
      rw [← hlV] at hex
      exact ⟨_, _, _, _, j, by trivial, by trivial, ho', hp, hd, hex, by omega, by rw [hVj, ha], fun hk => exc_child hex (by rw [hlV]; exact hch (by rw [hn]; exact hk))⟩
  · rintro e H' ⟨x, l', f', C', p, rfl, rfl, h⟩
    exact ⟨_, .tail, l', f', C', p, rfl, rfl, h⟩
theorem upI {g : World} {h : Value} {l : List It} {f : Int → Option Nat} {C : Hp} (ho : HO .i64 90 88 h l f C) {i : Nat} (hi : i < l.length) (hmax : l.length < 4611686018427387904) (hu : UpInv l.length (at' l) i) (hc : ConsX l f i) (hO : Once l) (F : Hp) :
    SCalls Try.prog g 42 #[h, .int .i64 (i : Int)] (C ++ F) (fun e H' => ∃ l' f' C' p, e = .returned (.tuple #[]) ∧ H' = C' ++ F ∧ HO .i64 90 88 h l' f' C' ∧ l'.Perm l ∧ Cons l' f' ∧ Exc l'.length (at' l') p ∧ p < l'.length ∧ at' l' p = at' l i ∧
      (ChildOK l.length (at' l) i → Ord l'.length (at' l'))) := by
  obtain ⟨bh, la, mb, junk, Cm, rfl, rfl, hall, hm⟩ := ho.open (by omega)
  obtain ⟨n, hn⟩ : ∃ n, n = l.length := ⟨_, rfl⟩
  obtain ⟨a, ha⟩ : ∃ a, a = at' l i := ⟨_, rfl⟩
  simp only [List.cons_append]
  refine (L42_sound (R := fun e H' => ∃ x l' f' C' p, e = .returned (.tuple #[]) ∧ H' = x :: (C' ++ F) ∧ HO .i64 90 88 (.pointer (some ⟨bh, 0, none⟩)) l' f' C' ∧ l'.Perm l ∧ Cons l' f' ∧ Exc l'.length (at' l') p ∧ p < l'.length ∧ at' l' p = at' l i ∧
      (ChildOK l.length (at' l) i → Ord l'.length (at' l'))) ?_).post ?_
  · unfold L42
    (repeat (first | refine Nil.ptr ?_ | refine FAddr.mk ?_ | refine Ld.mk (by repeat (first | exact List.Mem.head _ | apply List.Mem.tail)) rfl ?_ | refine LenS.mk ?_ | refine Bin.eql ?_ | refine Bin.neq ?_ | refine Bin.lss ?_ | refine Bin.leq ?_ | refine Bin.gtr ?_ | refine Bin.geq ?_ | refine Un.not ?_ | refine Ext.mk rfl ?_ | refine Pick.mk ?_ | refine Bin.ptrNil ?_ | refine Bin.mapNil ?_ | refine Bin.nilNil ?_ | refine Br.yes ?_ | refine Br.no ?_))
    refine IAddr.nat hi ?_
    refine LdA.row (l := encL .i64 l ++ junk) (by repeat (first | exact List.Mem.head _ | apply List.Mem.tail)) hall (encL_get hi junk) ?_
    intro b6 _
    refine St.whole (r := enc .i64 (at' l i)) (by repeat (first | exact Upd.head _ | apply Upd.tail)) rfl rfl (enc_one _ _) ?_
    rw [← ha]
    refine ⟨fun vs H => ∃ (j : Nat) (L : List It) (f : Int → Option Nat) (C : Hp), vs = [.int .i64 (j : Int)] ∧ H = (b6, Obj.cells (enc .i64 a).toArray 90 (0, 0)) :: (C ++ F) ∧ HO .i64 90 88 (.pointer (some ⟨bh, 0, none⟩)) L f C ∧ L.length = n ∧ j < n ∧
        (L.set j a).Perm l ∧ UpInv n (at' (L.set j a)) j ∧ ConsX (L.set j a) f j ∧ (ChildOK n (at' l) i → ChildOK n (at' (L.set j a)) j),
      fun vs _ => match vs with | [.int _ j] => j.toNat | _ => 0, .mk ⟨i, l, f, _, rfl, rfl, ho, hn.symm, by omega, ?_, ?_, ?_, ?_⟩, ?_⟩
    · exact (by rw [ha, set_at hi])
    · rw [ha, set_at hi, hn]; exact hu
    · rw [ha, set_at hi]; exact hc
    · rw [ha, set_at hi]; exact id
    rintro w H ⟨j, L, f, C, hw, rfl, ho, hLn, hj, hp, hu, hc, hch⟩ gs
    simp only [List.cons.injEq, and_true] at hw
    subst hw
    obtain ⟨bh', la, mb, junk, Cm, hbh, rfl, hall, hm⟩ := ho.open (by omega)
    simp only [Value.pointer.injEq, Option.some.injEq, Addr.mk.injEq, and_true] at hbh
    subst hbh
    simp only [List.cons_append]
    have hOV : Once (L.set j a) := hO.perm hp
    have hlV : (L.set j a).length = n := by simp [hLn]
    have hVj : at' (L.set j a) j = a := by rw [at_set a (by omega)]; simp [fset]
    have hVq : 0 < j → at' (L.set j a) ((j - 1) / 2) = at' L ((j - 1) / 2) := fun h0 => by rw [at_set a (by omega)]; simp [fset, show ¬ ((j - 1) / 2 = j) from by omega]
    (repeat (first | refine Nil.ptr ?_ | refine FAddr.mk ?_ | refine Ld.mk (by repeat (first | exact List.Mem.head _ | apply List.Mem.tail)) rfl ?_ | refine LenS.mk ?_ | refine Bin.eql ?_ | refine Bin.neq ?_ | refine Bin.lss ?_ | refine Bin.leq ?_ | refine Bin.gtr ?_ | refine Bin.geq ?_ | refine Un.not ?_ | refine Ext.mk rfl ?_ | refine Pick.mk ?_ | refine Bin.ptrNil ?_ | refine Bin.mapNil ?_ | refine Bin.nilNil ?_ | refine Br.yes ?_ | refine Br.no ?_))
    refine Grp.and (prec a (at' L ((j - 1) / 2))) (fun h0 => ?_) rfl fun _ => ?_
    · have h0 : 0 < j := by simpa using h0
      refine LdA.whole (r := enc .i64 a) (by repeat (first | exact List.Mem.head _ | apply List.Mem.tail)) rfl ?_
      (repeat (first | refine Nil.ptr ?_ | refine FAddr.mk ?_ | refine Ld.mk (by repeat (first | exact List.Mem.head _ | apply List.Mem.tail)) rfl ?_ | refine LenS.mk ?_ | refine Bin.eql ?_ | refine Bin.neq ?_ | refine Bin.lss ?_ | refine Bin.leq ?_ | refine Bin.gtr ?_ | refine Bin.geq ?_ | refine Un.not ?_ | refine Ext.mk rfl ?_ | refine Pick.mk ?_ | refine Bin.ptrNil ?_ | refine Bin.mapNil ?_ | refine Bin.nilNil ?_ | refine Br.yes ?_ | refine Br.no ?_))
      refine Bin.sub64 (c := ((j - 1 : Nat) : Int)) (by omega) (by omega) ?_
      refine Bin.quo64 (by decide) (quo2 j h0) (by omega) ?_
      refine IAddr.nat (by omega) ?_
      refine LdA.row (l := encL .i64 L ++ junk) (by repeat (first | exact List.Mem.head _ | apply List.Mem.tail)) hall (encL_get (by omega) junk) ?_
      exact CallQ.by (aheadI a _ _) ⟨by trivial, rfl⟩
    refine Br.mk (fun ht => ?_) (fun hf => ?_)
    · simp only [Bool.and_eq_true, decide_eq_true_eq] at ht
      have h0 : 0 < j := by omega
      (repeat (first | refine Nil.ptr ?_ | refine FAddr.mk ?_ | refine Ld.mk (by repeat (first | exact List.Mem.head _ | apply List.Mem.tail)) rfl ?_ | refine LenS.mk ?_ | refine Bin.eql ?_ | refine Bin.neq ?_ | refine Bin.lss ?_ | refine Bin.leq ?_ | refine Bin.gtr ?_ | refine Bin.geq ?_ | refine Un.not ?_ | refine Ext.mk rfl ?_ | refine Pick.mk ?_ | refine Bin.ptrNil ?_ | refine Bin.mapNil ?_ | refine Bin.nilNil ?_ | refine Br.yes ?_ | refine Br.no ?_))
      refine Bin.sub64 (c := ((j - 1 : Nat) : Int)) (by omega) (by omega) ?_
      refine Bin.quo64 (by decide) (quo2 j h0) (by omega) ?_
      refine IAddr.nat (by omega) ?_
      refine LdA.row (l := encL .i64 L ++ junk) (by repeat (first | exact List.Mem.head _ | apply List.Mem.tail)) hall (encL_get (by omega) junk) ?_
      refine CallF.at (Ent.swap3 [_] (_ :: _ :: Cm) F) (putI (.shut hall rfl rfl hm) (i := j) (by omega) (at' L ((j - 1) / 2)) _) ?_
      rintro e H' ⟨C', rfl, rfl, ho'⟩
      refine ⟨_, Ent.swap3 C' [_] F, ?_⟩
      refine Bin.sub64 (c := ((j - 1 : Nat) : Int)) (by omega) (by omega) ?_
      refine Bin.quo64 (by decide) (quo2 j h0) (by omega) ?_
      have hst := up_step h0 (by rw [← hlV] at hj; rw [hlV] at hj; exact hj) hu (by rw [hVj, hVq h0]; exact ht.2)
      have hcs := hc.step hOV (i := j) (q := (j - 1) / 2) (by omega) (by omega) (by omega)
      have hpp := (swap_perm (l := L.set j a) (i := j) (q := (j - 1) / 2) (by omega) (by omega) (by omega)).trans hp
      have hVV : (L.set j (at' L ((j - 1) / 2))).set ((j - 1) / 2) a = ((L.set j a).set j (at' (L.set j a) ((j - 1) / 2))).set ((j - 1) / 2) (at' (L.set j a) j) := (set_set_at a (by omega) (by omega) (by omega)).symm
      have hat : at' ((L.set j (at' L ((j - 1) / 2))).set ((j - 1) / 2) a) = fset (fset (at' (L.set j a)) j (at' (L.set j a) ((j - 1) / 2))) ((j - 1) / 2) (at' (L.set j a) j) := by
        rw [hVV, at_set _ (by simp; omega), at_set _ (by omega)]
      refine Back.mk ⟨(j - 1) / 2, _, _, C', rfl, rfl, ho', by simp [hLn], by omega, ?_, ?_, ?_, fun _ => ?_⟩ ?_
      · rw [hVV]; exact hpp
      · rw [hat]; exact hst.1
      · rw [hVV]; rw [hVq h0] at hcs ⊢; exact hcs
      · rw [hat]; exact hst.2
      · simp only [Int.toNat_natCast]; omega
    · refine LdA.whole (r := enc .i64 a) (by repeat (first | exact List.Mem.head _ | apply List.Mem.tail)) rfl ?_
      refine CallF.at (Ent.swap3 [_] (_ :: _ :: Cm) F) (putI (.shut hall rfl rfl hm) (i := j) (by omega) a _) ?_
      rintro e H' ⟨C', rfl, rfl, ho'⟩
      refine ⟨_, Ent.swap3 C' [_] F, ?_⟩
      have hd := hc.done hOV (by omega)
      rw [hVj] at hd
      have hex := up_done hu (by
        by_cases h0 : j = 0
        · exact .inl h0
        · right
          rw [hVj, hVq (by omega)]
          rcases Bool.and_eq_false_iff.1 hf with h | h
          · simp at h; omega
          · exact h)
      rw [← hlV] at hex
      exact ⟨_, _, _, _, j, by trivial, by trivial, ho', hp, hd, hex, by omega, by rw [hVj, ha], fun hk => exc_child hex (by rw [hlV]; exact hch (by rw [hn]; exact hk))⟩
  · rintro e H' ⟨x, l', f', C', p, rfl, rfl, h⟩
    exact ⟨_, .tail, l', f', C', p, rfl, rfl, h⟩
theorem upN {g : World} {h : Value} {l : List It} {f : Int → Option Nat} {C : Hp} (ho : HO .i64 95 42 h l f C) {i : Nat} (hi : i < l.length) (hmax : l.length < 4611686018427387904) (hu : UpInv l.length (at' l) i) (hc : ConsX l f i) (hO : Once l) (F : Hp) :
    SCalls Try.prog g 44 #[h, .int .i64 (i : Int)] (C ++ F) (fun e H' => ∃ l' f' C' p, e = .returned (.tuple #[]) ∧ H' = C' ++ F ∧ HO .i64 95 42 h l' f' C' ∧ l'.Perm l ∧ Cons l' f' ∧ Exc l'.length (at' l') p ∧ p < l'.length ∧ at' l' p = at' l i ∧
      (ChildOK l.length (at' l) i → Ord l'.length (at' l'))) := by
  obtain ⟨bh, la, mb, junk, Cm, rfl, rfl, hall, hm⟩ := ho.open (by omega)
  obtain ⟨n, hn⟩ : ∃ n, n = l.length := ⟨_, rfl⟩
  obtain ⟨a, ha⟩ : ∃ a, a = at' l i := ⟨_, rfl⟩
  simp only [List.cons_append]
  refine (L44_sound (R := fun e H' => ∃ x l' f' C' p, e = .returned (.tuple #[]) ∧ H' = x :: (C' ++ F) ∧ HO .i64 95 42 (.pointer (some ⟨bh, 0, none⟩)) l' f' C' ∧ l'.Perm l ∧ Cons l' f' ∧ Exc l'.length (at' l') p ∧ p < l'.length ∧ at' l' p = at' l i ∧
      (ChildOK l.length (at' l) i → Ord l'.length (at' l'))) ?_).post ?_
  · unfold L44
    (repeat (first | refine Nil.ptr ?_ | refine FAddr.mk ?_ | refine Ld.mk (by repeat (first | exact List.Mem.head _ | apply List.Mem.tail)) rfl ?_ | refine LenS.mk ?_ | refine Bin.eql ?_ | refine Bin.neq ?_ | refine Bin.lss ?_ | refine Bin.leq ?_ | refine Bin.gtr ?_ | refine Bin.geq ?_ | refine Un.not ?_ | refine Ext.mk rfl ?_ | refine Pick.mk ?_ | refine Bin.ptrNil ?_ | refine Bin.mapNil ?_ | refine Bin.nilNil ?_ | refine Br.yes ?_ | refine Br.no ?_))
    refine IAddr.nat hi ?_
    refine LdA.row (l := encL .i64 l ++ junk) (by repeat (first | exact List.Mem.head _ | apply List.Mem.tail)) hall (encL_get hi junk) ?_
    intro b6 _
    refine St.whole (r := enc .i64 (at' l i)) (by repeat (first | exact Upd.head _ | apply Upd.tail)) rfl rfl (enc_one _ _) ?_
    rw [← ha]
    refine ⟨fun vs H => ∃ (j : Nat) (L : List It) (f : Int → Option Nat) (C : Hp), vs = [.int .i64 (j : Int)] ∧ H = (b6, Obj.cells (enc .i64 a).toArray 95 (0, 0)) :: (C ++ F) ∧ HO .i64 95 42 (.pointer (some ⟨bh, 0, none⟩)) L f C ∧ L.length = n ∧ j < n ∧
        (L.set j a).Perm l ∧ UpInv n (at' (L.set j a)) j ∧ ConsX (L.set j a) f j ∧ (ChildOK n (at' l) i → ChildOK n (at' (L.set j a)) j),
      fun vs _ => match vs with | [.int _ j] => j.toNat | _ => 0, .mk ⟨i, l, f, _, rfl, rfl, ho, hn.symm, by omega, ?_, ?_, ?_, ?_⟩, ?_⟩
    · exact (by rw [ha, set_at hi])
    · rw [ha, set_at hi, hn]; exact hu
    · rw [ha, set_at hi]; exact hc
    · rw [ha, set_at hi]; exact id
    rintro w H ⟨j, L, f, C, hw, rfl, ho, hLn, hj, hp, hu, hc, hch⟩ gs
    simp only [List.cons.injEq, and_true] at hw
    subst hw
    obtain ⟨bh', la, mb, junk, Cm, hbh, rfl, hall, hm⟩ := ho.open (by omega)
    simp only [Value.pointer.injEq, Option.some.injEq, Addr.mk.injEq, and_true] at hbh
    subst hbh
    simp only [List.cons_append]
    have hOV : Once (L.set j a) := hO.perm hp
    have hlV : (L.set j a).length = n := by simp [hLn]
    have hVj : at' (L.set j a) j = a := by rw [at_set a (by omega)]; simp [fset]
    have hVq : 0 < j → at' (L.set j a) ((j - 1) / 2) = at' L ((j - 1) / 2) := fun h0 => by rw [at_set a (by omega)]; simp [fset, show ¬ ((j - 1) / 2 = j) from by omega]
    (repeat (first | refine Nil.ptr ?_ | refine FAddr.mk ?_ | refine Ld.mk (by repeat (first | exact List.Mem.head _ | apply List.Mem.tail)) rfl ?_ | refine LenS.mk ?_ | refine Bin.eql ?_ | refine Bin.neq ?_ | refine Bin.lss ?_ | refine Bin.leq ?_ | refine Bin.gtr ?_ | refine Bin.geq ?_ | refine Un.not ?_ | refine Ext.mk rfl ?_ | refine Pick.mk ?_ | refine Bin.ptrNil ?_ | refine Bin.mapNil ?_ | refine Bin.nilNil ?_ | refine Br.yes ?_ | refine Br.no ?_))
    refine Grp.and (prec a (at' L ((j - 1) / 2))) (fun h0 => ?_) rfl fun _ => ?_
    · have h0 : 0 < j := by simpa using h0
      refine LdA.whole (r := enc .i64 a) (by repeat (first | exact List.Mem.head _ | apply List.Mem.tail)) rfl ?_
      (repeat (first | refine Nil.ptr ?_ | refine FAddr.mk ?_ | refine Ld.mk (by repeat (first | exact List.Mem.head _ | apply List.Mem.tail)) rfl ?_ | refine LenS.mk ?_ | refine Bin.eql ?_ | refine Bin.neq ?_ | refine Bin.lss ?_ | refine Bin.leq ?_ | refine Bin.gtr ?_ | refine Bin.geq ?_ | refine Un.not ?_ | refine Ext.mk rfl ?_ | refine Pick.mk ?_ | refine Bin.ptrNil ?_ | refine Bin.mapNil ?_ | refine Bin.nilNil ?_ | refine Br.yes ?_ | refine Br.no ?_))
      refine Bin.sub64 (c := ((j - 1 : Nat) : Int)) (by omega) (by omega) ?_
      refine Bin.quo64 (by decide) (quo2 j h0) (by omega) ?_
      refine IAddr.nat (by omega) ?_
      refine LdA.row (l := encL .i64 L ++ junk) (by repeat (first | exact List.Mem.head _ | apply List.Mem.tail)) hall (encL_get (by omega) junk) ?_
      exact CallQ.by (aheadN a _ _) ⟨by trivial, rfl⟩
    refine Br.mk (fun ht => ?_) (fun hf => ?_)
    · simp only [Bool.and_eq_true, decide_eq_true_eq] at ht
      have h0 : 0 < j := by omega
      (repeat (first | refine Nil.ptr ?_ | refine FAddr.mk ?_ | refine Ld.mk (by repeat (first | exact List.Mem.head _ | apply List.Mem.tail)) rfl ?_ | refine LenS.mk ?_ | refine Bin.eql ?_ | refine Bin.neq ?_ | refine Bin.lss ?_ | refine Bin.leq ?_ | refine Bin.gtr ?_ | refine Bin.geq ?_ | refine Un.not ?_ | refine Ext.mk rfl ?_ | refine Pick.mk ?_ | refine Bin.ptrNil ?_ | refine Bin.mapNil ?_ | refine Bin.nilNil ?_ | refine Br.yes ?_ | refine Br.no ?_))
      refine Bin.sub64 (c := ((j - 1 : Nat) : Int)) (by omega) (by omega) ?_
      refine Bin.quo64 (by decide) (quo2 j h0) (by omega) ?_
      refine IAddr.nat (by omega) ?_
      refine LdA.row (l := encL .i64 L ++ junk) (by repeat (first | exact List.Mem.head _ | apply List.Mem.tail)) hall (encL_get (by omega) junk) ?_
      refine CallF.at (Ent.swap3 [_] (_ :: _ :: Cm) F) (putN (.shut hall rfl rfl hm) (i := j) (by omega) (at' L ((j - 1) / 2)) _) ?_
      rintro e H' ⟨C', rfl, rfl, ho'⟩
      refine ⟨_, Ent.swap3 C' [_] F, ?_⟩
      refine Bin.sub64 (c := ((j - 1 : Nat) : Int)) (by omega) (by omega) ?_
      refine Bin.quo64 (by decide) (quo2 j h0) (by omega) ?_
      have hst := up_step h0 (by rw [← hlV] at hj; rw [hlV] at hj; exact hj) hu (by rw [hVj, hVq h0]; exact ht.2)
      have hcs := hc.step hOV (i := j) (q := (j - 1) / 2) (by omega) (by omega) (by omega)
      have hpp := (swap_perm (l := L.set j a) (i := j) (q := (j - 1) / 2) (by omega) (by omega) (by omega)).trans hp
      have hVV : (L.set j (at' L ((j - 1) / 2))).set ((j - 1) / 2) a = ((L.set j a).set j (at' (L.set j a) ((j - 1) / 2))).set ((j - 1) / 2) (at' (L.set j a) j) := (set_set_at a (by omega) (by omega) (by omega)).symm
      have hat : at' ((L.set j (at' L ((j - 1) / 2))).set ((j - 1) / 2) a) = fset (fset (at' (L.set j a)) j (at' (L.set j a) ((j - 1) / 2))) ((j - 1) / 2) (at' (L.set j a) j) := by
        rw [hVV, at_set _ (by simp; omega), at_set _ (by omega)]
      refine Back.mk ⟨(j - 1) / 2, _, _, C', rfl, rfl, ho', by simp [hLn], by omega, ?_, ?_, ?_, fun _ => ?_⟩ ?_
      · rw [hVV]; exact hpp
      · rw [hat]; exact hst.1
      · rw [hVV]; rw [hVq h0] at hcs ⊢; exact hcs
      · rw [hat]; exact hst.2
      · simp only [Int.toNat_natCast]; omega
    · refine LdA.whole (r := enc .i64 a) (by repeat (first | exact List.Mem.head _ | apply List.Mem.tail)) rfl ?_
      refine CallF.at (Ent.swap3 [_] (_ :: _ :: Cm) F) (putN (.shut hall rfl rfl hm) (i := j) (by omega) a _) ?_
      rintro e H' ⟨C', rfl, rfl, ho'⟩
      refine ⟨_, Ent.swap3 C' [_] F, ?_⟩
      have hd := hc.done hOV (by omega)
      rw [hVj] at hd
      have hex := up_done hu (by
        by_cases h0 : j = 0
        · exact .inl h0
        · right
          rw [hVj, hVq (by omega)]
          rcases Bool.and_eq_false_iff.1 hf with h | h
          · simp at h; omega
          · exact h)
      rw [← hlV] at hex
      exact ⟨_, _, _, _, j, by trivial, by trivial, ho', hp, hd, hex, by omega, by rw [hVj, ha], fun hk => exc_child hex (by rw [hlV]; exact hch (by rw [hn]; exact hk))⟩
  · rintro e H' ⟨x, l', f', C', p, rfl, rfl, h⟩
    exact ⟨_, .tail, l', f', C', p, rfl, rfl, h⟩
end Go.Proofs
