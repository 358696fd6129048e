import Derived.Test.YtbockhcoeefobaaT2
set_option linter.unusedVariables false
set_option linter.unusedSimpArgs false
set_option maxRecDepth 100000
namespace Go.Proofs
open Go Go.Sx HpA
theorem downU {g : World} {h : Value} {l : List It} {f : Int → Option Nat} {C : Hp} (ho : HO .u64 75 71 h l f C) {i : Nat} (hi : i < l.length) (hmax : l.length < 4611686018427387904) (hu : Exc l.length (at' l) i) (hc : ConsX l f i) (hO : Once l) (F : Hp) :
    SCalls Try.prog g 29 #[h, .int .i64 (i : Int)] (C ++ F) (fun e H' => ∃ l' f' C', e = .returned (.tuple #[]) ∧ H' = C' ++ F ∧ HO .u64 75 71 h l' f' C' ∧ l'.Perm l ∧ Cons l' f' ∧ Ord l'.length (at' l')) := by
  obtain ⟨bh, la, mb, junk, Cm, rfl, rfl, hall, hm⟩ := ho.open (by omega)
  obtain ⟨n, hn⟩ : ∃ n, n = l.length := ⟨_, rfl⟩
  obtain ⟨a, ha⟩ : ∃ a, a = at' l i := ⟨_, rfl⟩
  simp only [List.cons_append]
  refine (L29_sound (R := fun e H' => ∃ x l' f' C', e = .returned (.tuple #[]) ∧ H' = x :: (C' ++ F) ∧ HO .u64 75 71 (.pointer (some ⟨bh, 0, none⟩)) l' f' C' ∧ l'.Perm l ∧ Cons l' f' ∧ Ord l'.length (at' l')) ?_).post ?_
  · unfold L29
    (repeat (first | refine Nil.ptr ?_ | refine FAddr.mk ?_ | refine Ld.mk (by repeat (first | exact List.Mem.head _ | apply List.Mem.tail)) rfl ?_ | refine LenS.mk ?_ | refine Bin.eql ?_ | refine Bin.neq ?_ | refine Bin.lss ?_ | refine Bin.leq ?_ | refine Bin.gtr ?_ | refine Bin.geq ?_ | refine Un.not ?_ | refine Ext.mk rfl ?_ | refine Pick.mk ?_ | refine Bin.ptrNil ?_ | refine Bin.mapNil ?_ | refine Bin.nilNil ?_ | refine Br.yes ?_ | refine Br.no ?_))
    refine IAddr.nat hi ?_
    refine LdA.row (l := encL .u64 l ++ junk) (by repeat (first | exact List.Mem.head _ | apply List.Mem.tail)) hall (encL_get hi junk) ?_
    intro b6 _
    refine St.whole (r := enc .u64 (at' l i)) (by repeat (first | exact Upd.head _ | apply Upd.tail)) rfl rfl (enc_one _ _) ?_
    rw [← ha]
    refine ⟨fun vs H => ∃ (j : Nat) (L : List It) (f : Int → Option Nat) (C : Hp), vs = [.int .i64 (j : Int)] ∧ H = (b6, Obj.cells (enc .u64 a).toArray 75 (0, 0)) :: (C ++ F) ∧ HO .u64 75 71 (.pointer (some ⟨bh, 0, none⟩)) L f C ∧ L.length = n ∧ j < n ∧
        (L.set j a).Perm l ∧ Exc n (at' (L.set j a)) j ∧ ConsX (L.set j a) f j,
      fun vs _ => match vs with | [.int _ j] => n - j.toNat | _ => 0, .mk ⟨i, l, f, _, rfl, rfl, ho, hn.symm, by omega, ?_, ?_, ?_⟩, ?_⟩
    · exact (by rw [ha, set_at hi])
    · rw [ha, set_at hi, hn]; exact hu
    · rw [ha, set_at hi]; exact hc
    rintro w H ⟨j, L, f, C, hw, rfl, ho, hLn, hj, hp, hu, hc⟩ gs
    simp only [List.cons.injEq, and_true] at hw
    subst hw
    obtain ⟨bh', la, mb, junk, Cm, hbh, rfl, hall, hm⟩ := ho.open (by omega)
    simp only [Value.pointer.injEq, Option.some.injEq, Addr.mk.injEq, and_true] at hbh
    subst hbh
    simp only [List.cons_append]
    have hOV : Once (L.set j a) := hO.perm hp
    have hlV : (L.set j a).length = n := by simp [hLn]
    have hVj : at' (L.set j a) j = a := by rw [at_set a (by omega)]; simp [fset]
    have hVL : ∀ c, c ≠ j → at' (L.set j a) c = at' L c := fun c h0 => by rw [at_set a (by omega)]; simp [fset, h0]
    refine Bin.mul64 (c := ((2 * j : Nat) : Int)) (by omega) (by omega) ?_
    refine Bin.add64 (c := ((2 * j + 1 : Nat) : Int)) (by omega) (by omega) ?_
    intro J hJ
    obtain ⟨c, hcd⟩ : ∃ c, c = kid n (at' (L.set j a)) j := ⟨_, rfl⟩
    have hkc := kid_cases n (at' (L.set j a)) j
    rw [← hcd] at hkc
    have hrest : J [.int .i64 (c : Int)] ((b6, Obj.cells (enc .u64 a).toArray 75 (0, 0)) :: (bh, Obj.cells #[.slice (some ⟨la, 0, none⟩) L.length (L.length + junk.length), .map (some mb)] 71 (0, 0)) :: (la, .cells (rows (encL .u64 L ++ junk)) 75 (0, 0)) :: (Cm ++ F)) := by
      refine hJ _ _ fun gs2 => ?_
      (repeat (first | refine Nil.ptr ?_ | refine FAddr.mk ?_ | refine Ld.mk (by repeat (first | exact List.Mem.head _ | apply List.Mem.tail)) rfl ?_ | refine LenS.mk ?_ | refine Bin.eql ?_ | refine Bin.neq ?_ | refine Bin.lss ?_ | refine Bin.leq ?_ | refine Bin.gtr ?_ | refine Bin.geq ?_ | refine Un.not ?_ | refine Ext.mk rfl ?_ | refine Pick.mk ?_ | refine Bin.ptrNil ?_ | refine Bin.mapNil ?_ | refine Bin.nilNil ?_ | refine Br.yes ?_ | refine Br.no ?_))
      refine Grp.or (!prec (at' L c) a) (fun h0 => ?_) rfl fun _ => ?_
      · have h0 : c < n := by simp at h0; omega
        (repeat (first | refine Nil.ptr ?_ | refine FAddr.mk ?_ | refine Ld.mk (by repeat (first | exact List.Mem.head _ | apply List.Mem.tail)) rfl ?_ | refine LenS.mk ?_ | refine Bin.eql ?_ | refine Bin.neq ?_ | refine Bin.lss ?_ | refine Bin.leq ?_ | refine Bin.gtr ?_ | refine Bin.geq ?_ | refine Un.not ?_ | refine Ext.mk rfl ?_ | refine Pick.mk ?_ | refine Bin.ptrNil ?_ | refine Bin.mapNil ?_ | refine Bin.nilNil ?_ | refine Br.yes ?_ | refine Br.no ?_))
        refine IAddr.nat (by omega) ?_
        refine LdA.row (l := encL .u64 L ++ junk) (by repeat (first | exact List.Mem.head _ | apply List.Mem.tail)) hall (encL_get (by omega) junk) ?_
        refine LdA.whole (r := enc .u64 a) (by repeat (first | exact List.Mem.head _ | apply List.Mem.tail)) rfl ?_
        refine CallQ.by (aheadU _ a _) ?_
        (repeat (first | refine Nil.ptr ?_ | refine FAddr.mk ?_ | refine Ld.mk (by repeat (first | exact List.Mem.head _ | apply List.Mem.tail)) rfl ?_ | refine LenS.mk ?_ | refine Bin.eql ?_ | refine Bin.neq ?_ | refine Bin.lss ?_ | refine Bin.leq ?_ | refine Bin.gtr ?_ | refine Bin.geq ?_ | refine Un.not ?_ | refine Ext.mk rfl ?_ | refine Pick.mk ?_ | refine Bin.ptrNil ?_ | refine Bin.mapNil ?_ | refine Bin.nilNil ?_ | refine Br.yes ?_ | refine Br.no ?_))
        exact ⟨by trivial, rfl⟩
      refine Br.mk (fun ht => ?_) (fun hf => ?_)
      · refine LdA.whole (r := enc .u64 a) (by repeat (first | exact List.Mem.head _ | apply List.Mem.tail)) rfl ?_
        refine CallF.at (Ent.swap3 [_] (_ :: _ :: Cm) F) (putU (.shut hall rfl rfl hm) (i := j) (by omega) a _) ?_
        rintro e H' ⟨C', rfl, rfl, ho'⟩
        refine ⟨_, Ent.swap3 C' [_] F, ?_⟩
        have hd := hc.done hOV (by omega)
        rw [hVj] at hd
        have hex := down_done hu (by
          rw [← hcd]
          by_cases h0 : n ≤ c
          · exact .inl h0
          · right
            rw [hVj, hVL c (by omega)]
            rcases Bool.or_eq_true_iff.1 ht with h | h
            · simp at h; omega
            · simpa using h)
        rw [← hlV] at hex
        exact ⟨_, _, _, _, by trivial, by trivial, ho', hp, hd, hex⟩
      · rw [Bool.or_eq_false_iff] at hf
        have h0 : c < n := by have := hf.1; simp at this; omega
        have hpr : prec (at' L c) a = true := by simpa using hf.2
        (repeat (first | refine Nil.ptr ?_ | refine FAddr.mk ?_ | refine Ld.mk (by repeat (first | exact List.Mem.head _ | apply List.Mem.tail)) rfl ?_ | refine LenS.mk ?_ | refine Bin.eql ?_ | refine Bin.neq ?_ | refine Bin.lss ?_ | refine Bin.leq ?_ | refine Bin.gtr ?_ | refine Bin.geq ?_ | refine Un.not ?_ | refine Ext.mk rfl ?_ | refine Pick.mk ?_ | refine Bin.ptrNil ?_ | refine Bin.mapNil ?_ | refine Bin.nilNil ?_ | refine Br.yes ?_ | refine Br.no ?_))
        refine IAddr.nat (by omega) ?_
        refine LdA.row (l := encL .u64 L ++ junk) (by repeat (first | exact List.Mem.head _ | apply List.Mem.tail)) hall (encL_get (by omega) junk) ?_
        refine CallF.at (Ent.swap3 [_] (_ :: _ :: Cm) F) (putU (.shut hall rfl rfl hm) (i := j) (by omega) (at' L c) _) ?_
        rintro e H' ⟨C', rfl, rfl, ho'⟩
        refine ⟨_, Ent.swap3 C' [_] F, ?_⟩
        have hcj : c ≠ j := by omega
        have hst := down_step hu (by rw [← hcd]; exact h0) (by rw [← hcd, hVj, hVL c hcj]; exact hpr)
        rw [← hcd] at hst
        have hcs := hc.step hOV (i := j) (q := c) (by omega) (by omega) hcj
        have hpp := (swap_perm (l := L.set j a) (i := j) (q := c) (by omega) (by omega) hcj).trans hp
        have hVV : (L.set j (at' L c)).set c a = ((L.set j a).set j (at' (L.set j a) c)).set c (at' (L.set j a) j) := (set_set_at a (by omega) (by omega) hcj).symm
        have hat : at' ((L.set j (at' L c)).set c a) = fset (fset (at' (L.set j a)) j (at' (L.set j a) c)) c (at' (L.set j a) j) := by
          rw [hVV, at_set _ (by simp; omega), at_set _ (by omega)]
        simp only [Kend]
        refine Back.mk ⟨c, _, _, C', rfl, rfl, ho', by simp [hLn], by omega, ?_, ?_, ?_⟩ ?_
        · rw [hVV]; exact hpp
        · rw [hat]; exact hst
        · rw [hVV]; rw [hVL c hcj] at hcs ⊢; exact hcs
        · simp only [Int.toNat_natCast]; omega
    refine Bin.add64 (c := ((2 * j + 1 + 1 : Nat) : Int)) (by omega) (by omega) ?_
    (repeat (first | refine Nil.ptr ?_ | refine FAddr.mk ?_ | refine Ld.mk (by repeat (first | exact List.Mem.head _ | apply List.Mem.tail)) rfl ?_ | refine LenS.mk ?_ | refine Bin.eql ?_ | refine Bin.neq ?_ | refine Bin.lss ?_ | refine Bin.leq ?_ | refine Bin.gtr ?_ | refine Bin.geq ?_ | refine Un.not ?_ | refine Ext.mk rfl ?_ | refine Pick.mk ?_ | refine Bin.ptrNil ?_ | refine Bin.mapNil ?_ | refine Bin.nilNil ?_ | refine Br.yes ?_ | refine Br.no ?_))
    refine Grp.and (prec (at' L (2 * j + 1 + 1)) (at' L (2 * j + 1))) (fun h0 => ?_) rfl fun _ => ?_
    · have h0 : 2 * j + 1 + 1 < n := by simp at h0; omega
      (repeat (first | refine Nil.ptr ?_ | refine FAddr.mk ?_ | refine Ld.mk (by repeat (first | exact List.Mem.head _ | apply List.Mem.tail)) rfl ?_ | refine LenS.mk ?_ | refine Bin.eql ?_ | refine Bin.neq ?_ | refine Bin.lss ?_ | refine Bin.leq ?_ | refine Bin.gtr ?_ | refine Bin.geq ?_ | refine Un.not ?_ | refine Ext.mk rfl ?_ | refine Pick.mk ?_ | refine Bin.ptrNil ?_ | refine Bin.mapNil ?_ | refine Bin.nilNil ?_ | refine Br.yes ?_ | refine Br.no ?_))
      refine Bin.add64 (c := ((2 * j + 1 + 1 : Nat) : Int)) (by omega) (by omega) ?_
      refine IAddr.nat (by omega) ?_
      refine LdA.row (l := encL .u64 L ++ junk) (by repeat (first | exact List.Mem.head _ | apply List.Mem.tail)) hall (encL_get (by omega) junk) ?_
      (repeat (first | refine Nil.ptr ?_ | refine FAddr.mk ?_ | refine Ld.mk (by repeat (first | exact List.Mem.head _ | apply List.Mem.tail)) rfl ?_ | refine LenS.mk ?_ | refine Bin.eql ?_ | refine Bin.neq ?_ | refine Bin.lss ?_ | refine Bin.leq ?_ | refine Bin.gtr ?_ | refine Bin.geq ?_ | refine Un.not ?_ | refine Ext.mk rfl ?_ | refine Pick.mk ?_ | refine Bin.ptrNil ?_ | refine Bin.mapNil ?_ | refine Bin.nilNil ?_ | refine Br.yes ?_ | refine Br.no ?_))
      refine IAddr.nat (by omega) ?_
      refine LdA.row (l := encL .u64 L ++ junk) (by repeat (first | exact List.Mem.head _ | apply List.Mem.tail)) hall (encL_get (by omega) junk) ?_
      exact CallQ.by (aheadU _ _ _) ⟨by trivial, rfl⟩
    have hkd : kid n (at' (L.set j a)) j = if (decide (2 * j + 1 + 1 < n) && prec (at' L (2 * j + 1 + 1)) (at' L (2 * j + 1))) = true then 2 * j + 1 + 1 else 2 * j + 1 := by
      unfold kid; rw [hVL _ (by omega), hVL _ (by omega)]
    have hdi : decide (((2 * j + 1 + 1 : Nat) : Int) < (L.length : Int)) = decide (2 * j + 1 + 1 < n) := by rw [hLn]; simp; omega
    rw [hdi]
    refine Br.mk (fun ht => ?_) (fun hf => ?_)
    · refine Bin.add64 (c := ((2 * j + 1 + 1 : Nat) : Int)) (by omega) (by omega) ?_
      rw [hkd, if_pos ht] at hcd
      rw [hcd] at hrest
      exact .mk hrest
    · rw [hkd, if_neg (by rw [hf]; simp)] at hcd
      rw [hcd] at hrest
      exact .mk hrest
  · rintro e H' ⟨x, l', f', C', rfl, rfl, h⟩
    exact ⟨_, .tail, l', f', C', rfl, rfl, h⟩
theorem downI {g : World} {h : Value} {l : List It} {f : Int → Option Nat} {C : Hp} (ho : HO .i64 90 88 h l f C) {i : Nat} (hi : i < l.length) (hmax : l.length < 4611686018427387904) (hu : Exc l.length (at' l) i) (hc : ConsX l f i) (hO : Once l) (F : Hp) :
    SCalls Try.prog g 41 #[h, .int .i64 (i : Int)] (C ++ F) (fun e H' => ∃ l' f' C', e = .returned (.tuple #[]) ∧ H' = C' ++ F ∧ HO .i64 90 88 h l' f' C' ∧ l'.Perm l ∧ Cons l' f' ∧ Ord l'.length (at' l')) := by
  obtain ⟨bh, la, mb, junk, Cm, rfl, rfl, hall, hm⟩ := ho.open (by omega)
  obtain ⟨n, hn⟩ : ∃ n, n = l.length := ⟨_, rfl⟩
  obtain ⟨a, ha⟩ : ∃ a, a = at' l i := ⟨_, rfl⟩
  simp only [List.cons_append]
  refine (L41_sound (R := fun e H' => ∃ x l' f' C', e = .returned (.tuple #[]) ∧ H' = x :: (C' ++ F) ∧ HO .i64 90 88 (.pointer (some ⟨bh, 0, none⟩)) l' f' C' ∧ l'.Perm l ∧ Cons l' f' ∧ Ord l'.length (at' l')) ?_).post ?_
  · unfold L41
    (repeat (first | refine Nil.ptr ?_ | refine FAddr.mk ?_ | refine Ld.mk (by repeat (first | exact List.Mem.head _ | apply List.Mem.tail)) rfl ?_ | refine LenS.mk ?_ | refine Bin.eql ?_ | refine Bin.neq ?_ | refine Bin.lss ?_ | refine Bin.leq ?_ | refine Bin.gtr ?_ | refine Bin.geq ?_ | refine Un.not ?_ | refine Ext.mk rfl ?_ | refine Pick.mk ?_ | refine Bin.ptrNil ?_ | refine Bin.mapNil ?_ | refine Bin.nilNil ?_ | refine Br.yes ?_ | refine Br.no ?_))
    refine IAddr.nat hi ?_
    refine LdA.row (l := encL .i64 l ++ junk) (by repeat (first | exact List.Mem.head _ | apply List.Mem.tail)) hall (encL_get hi junk) ?_
    intro b6 _
    refine St.whole (r := enc .i64 (at' l i)) (by repeat (first | exact Upd.head _ | apply Upd.tail)) rfl rfl (enc_one _ _) ?_
    rw [← ha]
    refine ⟨fun vs H => ∃ (j : Nat) (L : List It) (f : Int → Option Nat) (C : Hp), vs = [.int .i64 (j : Int)] ∧ H = (b6, Obj.cells (enc .i64 a).toArray 90 (0, 0)) :: (C ++ F) ∧ HO .i64 90 88 (.pointer (some ⟨bh, 0, none⟩)) L f C ∧ L.length = n ∧ j < n ∧
        (L.set j a).Perm l ∧ Exc n (at' (L.set j a)) j ∧ ConsX (L.set j a) f j,
      fun vs _ => match vs with | [.int _ j] => n - j.toNat | _ => 0, .mk ⟨i, l, f, _, rfl, rfl, ho, hn.symm, by omega, ?_, ?_, ?_⟩, ?_⟩
    · exact (by rw [ha, set_at hi])
    · rw [ha, set_at hi, hn]; exact hu
    · rw [ha, set_at hi]; exact hc
    rintro w H ⟨j, L, f, C, hw, rfl, ho, hLn, hj, hp, hu, hc⟩ gs
    simp only [List.cons.injEq, and_true] at hw
    subst hw
    obtain ⟨bh', la, mb, junk, Cm, hbh, rfl, hall, hm⟩ := ho.open (by omega)
    simp only [Value.pointer.injEq, Option.some.injEq, Addr.mk.injEq, and_true] at hbh
    subst hbh
    simp only [List.cons_append]
    have hOV : Once (L.set j a) := hO.perm hp
    have hlV : (L.set j a).length = n := by simp [hLn]
    have hVj : at' (L.set j a) j = a := by rw [at_set a (by omega)]; simp [fset]
    have hVL : ∀ c, c ≠ j → at' (L.set j a) c = at' L c := fun c h0 => by rw [at_set a (by omega)]; simp [fset, h0]
    refine Bin.mul64 (c := ((2 * j : Nat) : Int)) (by omega) (by omega) ?_
    refine Bin.add64 (c := ((2 * j + 1 : Nat) : Int)) (by omega) (by omega) ?_
    intro J hJ
    obtain ⟨c, hcd⟩ : ∃ c, c = kid n (at' (L.set j a)) j := ⟨_, rfl⟩
    have hkc := kid_cases n (at' (L.set j a)) j
    rw [← hcd] at hkc
    have hrest : J [.int .i64 (c : Int)] ((b6, Obj.cells (enc .i64 a).toArray 90 (0, 0)) :: (bh, Obj.cells #[.slice (some ⟨la, 0, none⟩) L.length (L.length + junk.length), .map (some mb)] 88 (0, 0)) :: (la, .cells (rows (encL .i64 L ++ junk)) 90 (0, 0)) :: (Cm ++ F)) := by
      refine hJ _ _ fun gs2 => ?_
      (repeat (first | refine Nil.ptr ?_ | refine FAddr.mk ?_ | refine Ld.mk (by repeat (first | exact List.Mem.head _ | apply List.Mem.tail)) rfl ?_ | refine LenS.mk ?_ | refine Bin.eql ?_ | refine Bin.neq ?_ | refine Bin.lss ?_ | refine Bin.leq ?_ | refine Bin.gtr ?_ | refine Bin.geq ?_ | refine Un.not ?_ | refine Ext.mk rfl ?_ | refine Pick.mk ?_ | refine Bin.ptrNil ?_ | refine Bin.mapNil ?_ | refine Bin.nilNil ?_ | refine Br.yes ?_ | refine Br.no ?_))
      refine Grp.or (!prec (at' L c) a) (fun h0 => ?_) rfl fun _ => ?_
      · have h0 : c < n := by simp at h0; omega
        (repeat (first | refine Nil.ptr ?_ | refine FAddr.mk ?_ | refine Ld.mk (by repeat (first | exact List.Mem.head _ | apply List.Mem.tail)) rfl ?_ | refine LenS.mk ?_ | refine Bin.eql ?_ | refine Bin.neq ?_ | refine Bin.lss ?_ | refine Bin.leq ?_ | refine Bin.gtr ?_ | refine Bin.geq ?_ | refine Un.not ?_ | refine Ext.mk rfl ?_ | refine Pick.mk ?_ | refine Bin.ptrNil ?_ | refine Bin.mapNil ?_ | refine Bin.nilNil ?_ | refine Br.yes ?_ | refine Br.no ?_))
        refine IAddr.nat (by omega) ?_
        refine LdA.row (l := encL .i64 L ++ junk) (by repeat (first | exact List.Mem.head _ | apply List.Mem.tail)) hall (encL_get (by omega) junk) ?_
        refine LdA.whole (r := enc .i64 a) (by repeat (first | exact List.Mem.head _ | apply List.Mem.tail)) rfl ?_
        refine CallQ.by (aheadI _ a _) ?_
        (repeat (first | refine Nil.ptr ?_ | refine FAddr.mk ?_ | refine Ld.mk (by repeat (first | exact List.Mem.head _ | apply List.Mem.tail)) rfl ?_ | refine LenS.mk ?_ | refine Bin.eql ?_ | refine Bin.neq ?_ | refine Bin.lss ?_ | refine Bin.leq ?_ | refine Bin.gtr ?_ | refine Bin.geq ?_ | refine Un.not ?_ | refine Ext.mk rfl ?_ | refine Pick.mk ?_ | refine Bin.ptrNil ?_ | refine Bin.mapNil ?_ | refine Bin.nilNil ?_ | refine Br.yes ?_ | refine Br.no ?_))
        exact ⟨by trivial, rfl⟩
      refine Br.mk (fun ht => ?_) (fun hf => ?_)
      · refine LdA.whole (r := enc .i64 a) (by repeat (first | exact List.Mem.head _ | apply List.Mem.tail)) rfl ?_
        refine CallF.at (Ent.swap3 [_] (_ :: _ :: Cm) F) (putI (.shut hall rfl rfl hm) (i := j) (by omega) a _) ?_
        rintro e H' ⟨C', rfl, rfl, ho'⟩
        refine ⟨_, Ent.swap3 C' [_] F, ?_⟩
        have hd := hc.done hOV (by omega)
        rw [hVj] at hd
        have hex := down_done hu (by
          rw [← hcd]
          by_cases h0 : n ≤ c
          · exact .inl h0
          · right
            rw [hVj, hVL c (by omega)]
            rcases Bool.or_eq_true_iff.1 ht with h | h
            · simp at h; omega
            · simpa using h)
        rw [← hlV] at hex
        exact ⟨_, _, _, _, by trivial, by trivial, ho', hp, hd, hex⟩
      · rw [Bool.or_eq_false_iff] at hf
        have h0 : c < n := by have := hf.1; simp at this; omega
        have hpr : prec (at' L c) a = true := by simpa using hf.2
        (repeat (first | refine Nil.ptr ?_ | refine FAddr.mk ?_ | refine Ld.mk (by repeat (first | exact List.Mem.head _ | apply List.Mem.tail)) rfl ?_ | refine LenS.mk ?_ | refine Bin.eql ?_ | refine Bin.neq ?_ | refine Bin.lss ?_ | refine Bin.leq ?_ | refine Bin.gtr ?_ | refine Bin.geq ?_ | refine Un.not ?_ | refine Ext.mk rfl ?_ | refine Pick.mk ?_ | refine Bin.ptrNil ?_ | refine Bin.mapNil ?_ | refine Bin.nilNil ?_ | refine Br.yes ?_ | refine Br.no ?_))
        refine IAddr.nat (by omega) ?_
        refine LdA.row (l := encL .i64 L ++ junk) (by repeat (first | exact List.Mem.head _ | apply List.Mem.tail)) hall (encL_get (by omega) junk) ?_
        refine CallF.at (Ent.swap3 [_] (_ :: _ :: Cm) F) (putI (.shut hall rfl rfl hm) (i := j) (by omega) (at' L c) _) ?_
        rintro e H' ⟨C', rfl, rfl, ho'⟩
        refine ⟨_, Ent.swap3 C' [_] F, ?_⟩
        have hcj : c ≠ j := by omega
        have hst := down_step hu (by rw [← hcd]; exact h0) (by rw [← hcd, hVj, hVL c hcj]; exact hpr)
        rw [← hcd] at hst
        have hcs := hc.step hOV (i := j) (q := c) (by omega) (by omega) hcj
        have hpp := (swap_perm (l := L.set j a) (i := j) (q := c) (by omega) (by omega) hcj).trans hp
        have hVV : (L.set j (at' L c)).set c a = ((L.set j a).set j (at' (L.set j a) c)).set c (at' (L.set j a) j) := (set_set_at a (by omega) (by omega) hcj).symm
        have hat : at' ((L.set j (at' L c)).set c a) = fset (fset (at' (L.set j a)) j (at' (L.set j a) c)) c (at' (L.set j a) j) := by
          rw [hVV, at_set _ (by simp; omega), at_set _ (by omega)]
        simp only [Kend]
        refine Back.mk ⟨c, _, _, C', rfl, rfl, ho', by simp [hLn], by omega, ?_, ?_, ?_⟩ ?_
        · rw [hVV]; exact hpp
        · rw [hat]; exact hst
        · rw [hVV]; rw [hVL c hcj] at hcs ⊢; exact hcs
        · simp only [Int.toNat_natCast]; omega
    refine Bin.add64 (c := ((2 * j + 1 + 1 : Nat) : Int)) (by omega) (by omega) ?_
    (repeat (first | refine Nil.ptr ?_ | refine FAddr.mk ?_ | refine Ld.mk (by repeat (first | exact List.Mem.head _ | apply List.Mem.tail)) rfl ?_ | refine LenS.mk ?_ | refine Bin.eql ?_ | refine Bin.neq ?_ | refine Bin.lss ?_ | refine Bin.leq ?_ | refine Bin.gtr ?_ | refine Bin.geq ?_ | refine Un.not ?_ | refine Ext.mk rfl ?_ | refine Pick.mk ?_ | refine Bin.ptrNil ?_ | refine Bin.mapNil ?_ | refine Bin.nilNil ?_ | refine Br.yes ?_ | refine Br.no ?_))
    refine Grp.and (prec (at' L (2 * j + 1 + 1)) (at' L (2 * j + 1))) (fun h0 => ?_) rfl fun _ => ?_
    · have h0 : 2 * j + 1 + 1 < n := by simp at h0; omega
      (repeat (first | refine Nil.ptr ?_ | refine FAddr.mk ?_ | refine Ld.mk (by repeat (first | exact List.Mem.head _ | apply List.Mem.tail)) rfl ?_ | refine LenS.mk ?_ | refine Bin.eql ?_ | refine Bin.neq ?_ | refine Bin.lss ?_ | refine Bin.leq ?_ | refine Bin.gtr ?_ | refine Bin.geq ?_ | refine Un.not ?_ | refine Ext.mk rfl ?_ | refine Pick.mk ?_ | refine Bin.ptrNil ?_ | refine Bin.mapNil ?_ | refine Bin.nilNil ?_ | refine Br.yes ?_ | refine Br.no ?_))
      refine Bin.add64 (c := ((2 * j + 1 + 1 : Nat) : Int)) (by omega) (by omega) ?_
      refine IAddr.nat (by omega) ?_
      refine LdA.row (l := encL .i64 L ++ junk) (by repeat (first | exact List.Mem.head _ | apply List.Mem.tail)) hall (encL_get (by omega) junk) ?_
      (repeat (first | refine Nil.ptr ?_ | refine FAddr.mk ?_ | refine Ld.mk (by repeat (first | exact List.Mem.head _ | apply List.Mem.tail)) rfl ?_ | refine LenS.mk ?_ | refine Bin.eql ?_ | refine Bin.neq ?_ | refine Bin.lss ?_ | refine Bin.leq ?_ | refine Bin.gtr ?_ | refine Bin.geq ?_ | refine Un.not ?_ | refine Ext.mk rfl ?_ | refine Pick.mk ?_ | refine Bin.ptrNil ?_ | refine Bin.mapNil ?_ | refine Bin.nilNil ?_ | refine Br.yes ?_ | refine Br.no ?_))
      refine IAddr.nat (by omega) ?_
      refine LdA.row (l := encL .i64 L ++ junk) (by repeat (first | exact List.Mem.head _ | apply List.Mem.tail)) hall (encL_get (by omega) junk) ?_
      exact CallQ.by (aheadI _ _ _) ⟨by trivial, rfl⟩
    have hkd : kid n (at' (L.set j a)) j = if (decide (2 * j + 1 + 1 < n) && prec (at' L (2 * j + 1 + 1)) (at' L (2 * j + 1))) = true then 2 * j + 1 + 1 else 2 * j + 1 := by
      unfold kid; rw [hVL _ (by omega), hVL _ (by omega)]
    have hdi : decide (((2 * j + 1 + 1 : Nat) : Int) < (L.length : Int)) = decide (2 * j + 1 + 1 < n) := by rw [hLn]; simp; omega
    rw [hdi]
    refine Br.mk (fun ht => ?_) (fun hf => ?_)
    · refine Bin.add64 (c := ((2 * j + 1 + 1 : Nat) : Int)) (by omega) (by omega) ?_
      rw [hkd, if_pos ht] at hcd
      rw [hcd] at hrest
      exact .mk hrest
    · rw [hkd, if_neg (by rw [hf]; simp)] at hcd
      rw [hcd] at hrest
      exact .mk hrest
  · rintro e H' ⟨x, l', f', C', rfl, rfl, h⟩
    exact ⟨_, .tail, l', f', C', rfl, rfl, h⟩
theorem downN {g : World} {h : Value} {l : List It} {f : Int → Option Nat} {C : Hp} (ho : HO .i64 95 42 h l f C) {i : Nat} (hi : i < l.length) (hmax : l.length < 4611686018427387904) (hu : Exc l.length (at' l) i) (hc : ConsX l f i) (hO : Once l) (F : Hp) :
    SCalls Try.prog g 46 #[h, .int .i64 (i : Int)] (C ++ F) (fun e H' => ∃ l' f' C', e = .returned (.tuple #[]) ∧ H' = C' ++ F ∧ HO .i64 95 42 h l' f' C' ∧ l'.Perm l ∧ Cons l' f' ∧ Ord l'.length (at' l')) := by
  obtain ⟨bh, la, mb, junk, Cm, rfl, rfl, hall, hm⟩ := ho.open (by omega)
  obtain ⟨n, hn⟩ : ∃ n, n = l.length := ⟨_, rfl⟩
  obtain ⟨a, ha⟩ : ∃ a, a = at' l i := ⟨_, rfl⟩
  simp only [List.cons_append]
  refine (L46_sound (R := fun e H' => ∃ x l' f' C', e = .returned (.tuple #[]) ∧ H' = x :: (C' ++ F) ∧ HO .i64 95 42 (.pointer (some ⟨bh, 0, none⟩)) l' f' C' ∧ l'.Perm l ∧ Cons l' f' ∧ Ord l'.length (at' l')) ?_).post ?_
  · unfold L46
    (repeat (first | refine Nil.ptr ?_ | refine FAddr.mk ?_ | refine Ld.mk (by repeat (first | exact List.Mem.head _ | apply List.Mem.tail)) rfl ?_ | refine LenS.mk ?_ | refine Bin.eql ?_ | refine Bin.neq ?_ | refine Bin.lss ?_ | refine Bin.leq ?_ | refine Bin.gtr ?_ | refine Bin.geq ?_ | refine Un.not ?_ | refine Ext.mk rfl ?_ | refine Pick.mk ?_ | refine Bin.ptrNil ?_ | refine Bin.mapNil ?_ | refine Bin.nilNil ?_ | refine Br.yes ?_ | refine Br.no ?_))
    refine IAddr.nat hi ?_
    refine LdA.row (l := encL .i64 l ++ junk) (by repeat (first | exact List.Mem.head _ | apply List.Mem.tail)) hall (encL_get hi junk) ?_
    intro b6 _
    refine St.whole (r := enc .i64 (at' l i)) (by repeat (first | exact Upd.head _ | apply Upd.tail)) rfl rfl (enc_one _ _) ?_
    rw [← ha]
    refine ⟨fun vs H => ∃ (j : Nat) (L : List It) (f : Int → Option Nat) (C : Hp), vs = [.int .i64 (j : Int)] ∧ H = (b6, Obj.cells (enc .i64 a).toArray 95 (0, 0)) :: (C ++ F) ∧ HO .i64 95 42 (.pointer (some ⟨bh, 0, none⟩)) L f C ∧ L.length = n ∧ j < n ∧
        (L.set j a).Perm l ∧ Exc n (at' (L.set j a)) j ∧ ConsX (L.set j a) f j,
      fun vs _ => match vs with | [.int _ j] => n - j.toNat | _ => 0, .mk ⟨i, l, f, _, rfl, rfl, ho, hn.symm, by omega, ?_, ?_, ?_⟩, ?_⟩
    · exact (by rw [ha, set_at hi])
    · rw [ha, set_at hi, hn]; exact hu
    · rw [ha, set_at hi]; exact hc
    rintro w H ⟨j, L, f, C, hw, rfl, ho, hLn, hj, hp, hu, hc⟩ gs
    simp only [List.cons.injEq, and_true] at hw
    subst hw
    obtain ⟨bh', la, mb, junk, Cm, hbh, rfl, hall, hm⟩ := ho.open (by omega)
    simp only [Value.pointer.injEq, Option.some.injEq, Addr.mk.injEq, and_true] at hbh
    subst hbh
    simp only [List.cons_append]
    have hOV : Once (L.set j a) := hO.perm hp
    have hlV : (L.set j a).length = n := by simp [hLn]
    have hVj : at' (L.set j a) j = a := by rw [at_set a (by omega)]; simp [fset]
    have hVL : ∀ c, c ≠ j → at' (L.set j a) c = at' L c := fun c h0 => by rw [at_set a (by omega)]; simp [fset, h0]
    refine Bin.mul64 (c := ((2 * j : Nat) : Int)) (by omega) (by omega) ?_
    refine Bin.add64 (c := ((2 * j + 1 : Nat) : Int)) (by omega) (by omega) ?_
    intro J hJ
    obtain ⟨c, hcd⟩ : ∃ c, c = kid n (at' (L.set j a)) j := ⟨_, rfl⟩
    have hkc := kid_cases n (at' (L.set j a)) j
    rw [← hcd] at hkc
    have hrest : J [.int .i64 (c : Int)] ((b6, Obj.cells (enc .i64 a).toArray 95 (0, 0)) :: (bh, Obj.cells #[.slice (some ⟨la, 0, none⟩) L.length (L.length + junk.length), .map (some mb)] 42 (0, 0)) :: (la, .cells (rows (encL .i64 L ++ junk)) 95 (0, 0)) :: (Cm ++ F)) := by
      refine hJ _ _ fun gs2 => ?_
      (repeat (first | refine Nil.ptr ?_ | refine FAddr.mk ?_ | refine Ld.mk (by repeat (first | exact List.Mem.head _ | apply List.Mem.tail)) rfl ?_ | refine LenS.mk ?_ | refine Bin.eql ?_ | refine Bin.neq ?_ | refine Bin.lss ?_ | refine Bin.leq ?_ | refine Bin.gtr ?_ | refine Bin.geq ?_ | refine Un.not ?_ | refine Ext.mk rfl ?_ | refine Pick.mk ?_ | refine Bin.ptrNil ?_ | refine Bin.mapNil ?_ | refine Bin.nilNil ?_ | refine Br.yes ?_ | refine Br.no ?_))
      refine Grp.or (!prec (at' L c) a) (fun h0 => ?_) rfl fun _ => ?_
      · have h0 : c < n := by simp at h0; omega
        (repeat (first | refine Nil.ptr ?_ | refine FAddr.mk ?_ | refine Ld.mk (by repeat (first | exact List.Mem.head _ | apply List.Mem.tail)) rfl ?_ | refine LenS.mk ?_ | refine Bin.eql ?_ | refine Bin.neq ?_ | refine Bin.lss ?_ | refine Bin.leq ?_ | refine Bin.gtr ?_ | refine Bin.geq ?_ | refine Un.not ?_ | refine Ext.mk rfl ?_ | refine Pick.mk ?_ | refine Bin.ptrNil ?_ | refine Bin.mapNil ?_ | refine Bin.nilNil ?_ | refine Br.yes ?_ | refine Br.no ?_))
        refine IAddr.nat (by omega) ?_
        refine LdA.row (l := encL .i64 L ++ junk) (by repeat (first | exact List.Mem.head _ | apply List.Mem.tail)) hall (encL_get (by omega) junk) ?_
        refine LdA.whole (r := enc .i64 a) (by repeat (first | exact List.Mem.head _ | apply List.Mem.tail)) rfl ?_
        refine CallQ.by (aheadN _ a _) ?_
        (repeat (first | refine Nil.ptr ?_ | refine FAddr.mk ?_ | refine Ld.mk (by repeat (first | exact List.Mem.head _ | apply List.Mem.tail)) rfl ?_ | refine LenS.mk ?_ | refine Bin.eql ?_ | refine Bin.neq ?_ | refine Bin.lss ?_ | refine Bin.leq ?_ | refine Bin.gtr ?_ | refine Bin.geq ?_ | refine Un.not ?_ | refine Ext.mk rfl ?_ | refine Pick.mk ?_ | refine Bin.ptrNil ?_ | refine Bin.mapNil ?_ | refine Bin.nilNil ?_ | refine Br.yes ?_ | refine Br.no ?_))
        exact ⟨by trivial, rfl⟩
      refine Br.mk (fun ht => ?_) (fun hf => ?_)
      · refine LdA.whole (r := enc .i64 a) (by repeat (first | exact List.Mem.head _ | apply List.Mem.tail)) rfl ?_
        refine CallF.at (Ent.swap3 [_] (_ :: _ :: Cm) F) (putN (.shut hall rfl rfl hm) (i := j) (by omega) a _) ?_
        rintro e H' ⟨C', rfl, rfl, ho'⟩
        refine ⟨_, Ent.swap3 C' [_] F, ?_⟩
        have hd := hc.done hOV (by omega)
        rw [hVj] at hd
        have hex := down_done hu (by
          rw [← hcd]
          by_cases h0 : n ≤ c
          · exact .inl h0
          · right
            rw [hVj, hVL c (by omega)]
            rcases Bool.or_eq_true_iff.1 ht with h | h
            · simp at h; omega
            · simpa using h)
        rw [← hlV] at hex
        exact ⟨_, _, _, _, by trivial, by trivial, ho', hp, hd, hex⟩
      · rw [Bool.or_eq_false_iff] at hf
        have h0 : c < n := by have := hf.1; simp at this; omega
        have hpr : prec (at' L c) a = true := by simpa using hf.2
        (repeat (first | refine Nil.ptr ?_ | refine FAddr.mk ?_ | refine Ld.mk (by repeat (first | exact List.Mem.head _ | apply List.Mem.tail)) rfl ?_ | refine LenS.mk ?_ | refine Bin.eql ?_ | refine Bin.neq ?_ | refine Bin.lss ?_ | refine Bin.leq ?_ | refine Bin.gtr ?_ | refine Bin.geq ?_ | refine Un.not ?_ | refine Ext.mk rfl ?_ | refine Pick.mk ?_ | refine Bin.ptrNil ?_ | refine Bin.mapNil ?_ | refine Bin.nilNil ?_ | refine Br.yes ?_ | refine Br.no ?_))
        refine IAddr.nat (by omega) ?_
        refine LdA.row (l := encL .i64 L ++ junk) (by repeat (first | exact List.Mem.head _ | apply List.Mem.tail)) hall (encL_get (by omega) junk) ?_
        refine CallF.at (Ent.swap3 [_] (_ :: _ :: Cm) F) (putN (.shut hall rfl rfl hm) (i := j) (by omega) (at' L c) _) ?_
        rintro e H' ⟨C', rfl, rfl, ho'⟩
        refine ⟨_, Ent.swap3 C' [_] F, ?_⟩
        have hcj : c ≠ j := by omega
        have hst := down_step hu (by rw [← hcd]; exact h0) (by rw [← hcd, hVj, hVL c hcj]; exact hpr)
        rw [← hcd] at hst
        have hcs := hc.step hOV (i := j) (q := c) (by omega) (by omega) hcj
        have hpp := (swap_perm (l := L.set j a) (i := j) (q := c) (by omega) (by omega) hcj).trans hp
        have hVV : (L.set j (at' L c)).set c a = ((L.set j a).set j (at' (L.set j a) c)).set c (at' (L.set j a) j) := (set_set_at a (by omega) (by omega) hcj).symm
        have hat : at' ((L.set j (at' L c)).set c a) = fset (fset (at' (L.set j a)) j (at' (L.set j a) c)) c (at' (L.set j a) j) := by
          rw [hVV, at_set _ (by simp; omega), at_set _ (by omega)]
        simp only [Kend]
        refine Back.mk ⟨c, _, _, C', rfl, rfl, ho', by simp [hLn], by omega, ?_, ?_, ?_⟩ ?_
        · rw [hVV]; exact hpp
        · rw [hat]; exact hst
        · rw [hVV]; rw [hVL c hcj] at hcs ⊢; exact hcs
        · simp only [Int.toNat_natCast]; omega
    refine Bin.add64 (c := ((2 * j + 1 + 1 : Nat) : Int)) (by omega) (by omega) ?_
    (repeat (first | refine Nil.ptr ?_ | refine FAddr.mk ?_ | refine Ld.mk (by repeat (first | exact List.Mem.head _ | apply List.Mem.tail)) rfl ?_ | refine LenS.mk ?_ | refine Bin.eql ?_ | refine Bin.neq ?_ | refine Bin.lss ?_ | refine Bin.leq ?_ | refine Bin.gtr ?_ | refine Bin.geq ?_ | refine Un.not ?_ | refine Ext.mk rfl ?_ | refine Pick.mk ?_ | refine Bin.ptrNil ?_ | refine Bin.mapNil ?_ | refine Bin.nilNil ?_ | refine Br.yes ?_ | refine Br.no ?_))
    refine Grp.and (prec (at' L (2 * j + 1 + 1)) (at' L (2 * j + 1))) (fun h0 => ?_) rfl fun _ => ?_
    · have h0 : 2 * j + 1 + 1 < n := by simp at h0; omega
      (repeat (first | refine Nil.ptr ?_ | refine FAddr.mk ?_ | refine Ld.mk (by repeat (first | exact List.Mem.head _ | apply List.Mem.tail)) rfl ?_ | refine LenS.mk ?_ | refine Bin.eql ?_ | refine Bin.neq ?_ | refine Bin.lss ?_ | refine Bin.leq ?_ | refine Bin.gtr ?_ | refine Bin.geq ?_ | refine Un.not ?_ | refine Ext.mk rfl ?_ | refine Pick.mk ?_ | refine Bin.ptrNil ?_ | refine Bin.mapNil ?_ | refine Bin.nilNil ?_ | refine Br.yes ?_ | refine Br.no ?_))
      refine Bin.add64 (c := ((2 * j + 1 + 1 : Nat) : Int)) (by omega) (by omega) ?_
      refine IAddr.nat (by omega) ?_
      refine LdA.row (l := encL .i64 L ++ junk) (by repeat (first | exact List.Mem.head _ | apply List.Mem.tail)) hall (encL_get (by omega) junk) ?_
      (repeat (first | refine Nil.ptr ?_ | refine FAddr.mk ?_ | refine Ld.mk (by repeat (first | exact List.Mem.head _ | apply List.Mem.tail)) rfl ?_ | refine LenS.mk ?_ | refine Bin.eql ?_ | refine Bin.neq ?_ | refine Bin.lss ?_ | refine Bin.leq ?_ | refine Bin.gtr ?_ | refine Bin.geq ?_ | refine Un.not ?_ | refine Ext.mk rfl ?_ | refine Pick.mk ?_ | refine Bin.ptrNil ?_ | refine Bin.mapNil ?_ | refine Bin.nilNil ?_ | refine Br.yes ?_ | refine Br.no ?_))
      refine IAddr.nat (by omega) ?_
      refine LdA.row (l := encL .i64 L ++ junk) (by repeat (first | exact List.Mem.head _ | apply List.Mem.tail)) hall (encL_get (by omega) junk) ?_
      exact CallQ.by (aheadN _ _ _) ⟨by trivial, rfl⟩
    have hkd : kid n (at' (L.set j a)) j = if (decide (2 * j + 1 + 1 < n) && prec (at' L (2 * j + 1 + 1)) (at' L (2 * j + 1))) = true then 2 * j + 1 + 1 else 2 * j + 1 := by
      unfold kid; rw [hVL _ (by omega), hVL _ (by omega)]
    have hdi : decide (((2 * j + 1 + 1 : Nat) : Int) < (L.length : Int)) = decide (2 * j + 1 + 1 < n) := by rw [hLn]; simp; omega
    rw [hdi]
    refine Br.mk (fun ht => ?_) (fun hf => ?_)
    · refine Bin.add64 (c := ((2 * j + 1 + 1 : Nat) : Int)) (by omega) (by omega) ?_
      rw [hkd, if_pos ht] at hcd
      rw [hcd] at hrest
      exact .mk hrest
    · rw [hkd, if_neg (by rw [hf]; simp)] at hcd
      rw [hcd] at hrest
      exact .mk hrest
  · rintro e H' ⟨x, l', f', C', rfl, rfl, h⟩
    exact ⟨_, .tail, l', f', C', rfl, rfl, h⟩
end Go.Proofs
