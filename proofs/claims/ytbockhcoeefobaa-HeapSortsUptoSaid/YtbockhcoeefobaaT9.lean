import Derived.Test.YtbockhcoeefobaaT8
import Derived.Test.YtbockhcoeefobaaSxN
import Derived.Test.YtbockhcoeefobaaRfA
set_option linter.unusedVariables false
set_option linter.unusedSimpArgs false
set_option maxRecDepth 100000
namespace Go.Proofs
open Go Go.Sx HpA
theorem sameG {g : World} (a b : Tg) (H : Hp) : CalmQ Try.prog g 47 #[.agg (encG a).toArray, .agg (encG b).toArray] H (.bool (sm a b)) := by
  refine L47_sound ?_
  unfold L47
  intro b1 _ b2 _
  (repeat (first | refine Nil.ptr ?_ | refine FAddr.mk ?_ | refine Ld.mk (by repeat (first | exact List.Mem.head _ | apply List.Mem.tail)) rfl ?_ | refine LenS.mk ?_ | refine Bin.eql ?_ | refine Bin.neq ?_ | refine Bin.lss ?_ | refine Bin.leq ?_ | refine Bin.gtr ?_ | refine Bin.geq ?_ | refine Un.not ?_ | refine Ext.mk rfl ?_ | refine Pick.mk ?_ | refine Bin.ptrNil ?_ | refine Bin.mapNil ?_ | refine Bin.nilNil ?_ | refine Br.yes ?_ | refine Br.no ?_))
  refine Grp.and (a.2.1 == b.2.1) (fun _ => ?_) rfl fun _ => ⟨rfl, .right (A := [_, _])⟩
  (repeat (first | refine Nil.ptr ?_ | refine FAddr.mk ?_ | refine Ld.mk (by repeat (first | exact List.Mem.head _ | apply List.Mem.tail)) rfl ?_ | refine LenS.mk ?_ | refine Bin.eql ?_ | refine Bin.neq ?_ | refine Bin.lss ?_ | refine Bin.leq ?_ | refine Bin.gtr ?_ | refine Bin.geq ?_ | refine Un.not ?_ | refine Ext.mk rfl ?_ | refine Pick.mk ?_ | refine Bin.ptrNil ?_ | refine Bin.mapNil ?_ | refine Bin.nilNil ?_ | refine Br.yes ?_ | refine Br.no ?_))
  refine Bin.eqlB ?_
  exact ⟨rfl, rfl⟩
theorem lessG {g : World} (a b : Tg) (H : Hp) : CalmQ Try.prog g 39 #[.agg (encG a).toArray, .agg (encG b).toArray] H (.bool (ls a b)) := by
  refine L39_sound ?_
  unfold L39
  intro b1 _ b2 _
  unfold ls
  (repeat (first | refine Nil.ptr ?_ | refine FAddr.mk ?_ | refine Ld.mk (by repeat (first | exact List.Mem.head _ | apply List.Mem.tail)) rfl ?_ | refine LenS.mk ?_ | refine Bin.eql ?_ | refine Bin.neq ?_ | refine Bin.lss ?_ | refine Bin.leq ?_ | refine Bin.gtr ?_ | refine Bin.geq ?_ | refine Un.not ?_ | refine Ext.mk rfl ?_ | refine Pick.mk ?_ | refine Bin.ptrNil ?_ | refine Bin.mapNil ?_ | refine Bin.nilNil ?_ | refine Br.yes ?_ | refine Br.no ?_))
  refine Br.mk (fun h => ?_) (fun h => ?_)
  · (repeat (first | refine Nil.ptr ?_ | refine FAddr.mk ?_ | refine Ld.mk (by repeat (first | exact List.Mem.head _ | apply List.Mem.tail)) rfl ?_ | refine LenS.mk ?_ | refine Bin.eql ?_ | refine Bin.neq ?_ | refine Bin.lss ?_ | refine Bin.leq ?_ | refine Bin.gtr ?_ | refine Bin.geq ?_ | refine Un.not ?_ | refine Ext.mk rfl ?_ | refine Pick.mk ?_ | refine Bin.ptrNil ?_ | refine Bin.mapNil ?_ | refine Bin.nilNil ?_ | refine Br.yes ?_ | refine Br.no ?_))
    exact ⟨by rw [if_pos h], .right (A := [_, _])⟩
  · rw [if_neg (by simp [h])]
    (repeat (first | refine Nil.ptr ?_ | refine FAddr.mk ?_ | refine Ld.mk (by repeat (first | exact List.Mem.head _ | apply List.Mem.tail)) rfl ?_ | refine LenS.mk ?_ | refine Bin.eql ?_ | refine Bin.neq ?_ | refine Bin.lss ?_ | refine Bin.leq ?_ | refine Bin.gtr ?_ | refine Bin.geq ?_ | refine Un.not ?_ | refine Ext.mk rfl ?_ | refine Pick.mk ?_ | refine Bin.ptrNil ?_ | refine Bin.mapNil ?_ | refine Bin.nilNil ?_ | refine Br.yes ?_ | refine Br.no ?_))
    (try refine Bin.neqB ?_)
    refine Br.mk (fun h' => ?_) (fun h' => ?_)
    · (repeat (first | refine Nil.ptr ?_ | refine FAddr.mk ?_ | refine Ld.mk (by repeat (first | exact List.Mem.head _ | apply List.Mem.tail)) rfl ?_ | refine LenS.mk ?_ | refine Bin.eql ?_ | refine Bin.neq ?_ | refine Bin.lss ?_ | refine Bin.leq ?_ | refine Bin.gtr ?_ | refine Bin.geq ?_ | refine Un.not ?_ | refine Ext.mk rfl ?_ | refine Pick.mk ?_ | refine Bin.ptrNil ?_ | refine Bin.mapNil ?_ | refine Bin.nilNil ?_ | refine Br.yes ?_ | refine Br.no ?_))
      exact ⟨by rw [if_pos (by simpa using h')]; rfl, .right (A := [_, _])⟩
    · (repeat (first | refine Nil.ptr ?_ | refine FAddr.mk ?_ | refine Ld.mk (by repeat (first | exact List.Mem.head _ | apply List.Mem.tail)) rfl ?_ | refine LenS.mk ?_ | refine Bin.eql ?_ | refine Bin.neq ?_ | refine Bin.lss ?_ | refine Bin.leq ?_ | refine Bin.gtr ?_ | refine Bin.geq ?_ | refine Un.not ?_ | refine Ext.mk rfl ?_ | refine Pick.mk ?_ | refine Bin.ptrNil ?_ | refine Bin.mapNil ?_ | refine Bin.nilNil ?_ | refine Br.yes ?_ | refine Br.no ?_))
      exact ⟨by rw [if_neg (by simpa using h')], .right (A := [_, _])⟩
theorem findG {g : World} {h : Value} {l : List Tg} {C : Hp} (ho : RO 46 52 h l C) (t : Tg) (hmax : l.length < 4398046511104) {H : Hp} (hC : ∀ x ∈ C, x ∈ H) :
    CalmQ Try.prog g 38 #[h, .agg (encG t).toArray] H (.int .i64 (fi l t)) := by
  obtain ⟨b, v, Cs, rfl, rfl, hs⟩ := ho
  refine L38_sound ?_
  unfold L38
  intro b1 _
  have hb : ∀ y, (b, Obj.cells #[v] 46 (0, 0)) ∈ y :: H := fun y => List.mem_cons_of_mem _ (hC _ (by simp))
  refine Nil.ptr (FAddr.mk (Ld.mk (hb _) rfl (hs.lenS ?_)))
  rw [encGs_length]
  refine ⟨fun vs H1 => ∃ i : Nat, vs = [.int .i64 i] ∧ H1 = (b1, .cells (encG t).toArray 52 (0, 0)) :: H ∧ i ≤ l.length ∧ ∀ j, (hj : j < i) → (hl : j < l.length) → sm l[j] t = false,
    fun vs _ => match vs with | [.int _ i] => l.length - i.toNat | _ => 0, .mk ⟨0, rfl, rfl, by omega, fun j hj => by omega⟩, ?_⟩
  rintro w H1 ⟨i, hv, rfl, hi, hno⟩ gs
  obtain rfl : w = .int .i64 i := by simpa using hv
  (repeat (first | refine Nil.ptr ?_ | refine FAddr.mk ?_ | refine Ld.mk (by repeat (first | exact List.Mem.head _ | apply List.Mem.tail)) rfl ?_ | refine LenS.mk ?_ | refine Bin.eql ?_ | refine Bin.neq ?_ | refine Bin.lss ?_ | refine Bin.leq ?_ | refine Bin.gtr ?_ | refine Bin.geq ?_ | refine Un.not ?_ | refine Ext.mk rfl ?_ | refine Pick.mk ?_ | refine Bin.ptrNil ?_ | refine Bin.mapNil ?_ | refine Bin.nilNil ?_ | refine Br.yes ?_ | refine Br.no ?_))
  refine Br.mk (fun h1 => ?_) (fun h1 => ?_)
  · have hil : i < l.length := by simpa using h1
    obtain ⟨b', junk, rfl, rfl, hall⟩ := hs.pos (by rw [encGs_length]; omega)
    refine Nil.ptr (FAddr.mk (Ld.mk (hb _) rfl ?_))
    refine IAddr.nat (by rw [encGs_length]; exact hil) ?_
    refine LdA.row (l := encGs l ++ junk) (List.mem_cons_of_mem _ (hC _ (.tail _ (.head _)))) hall (encGs_get hil junk) ?_
    refine LdA.whole (r := encG t) (by repeat (first | exact List.Mem.head _ | apply List.Mem.tail)) rfl ?_
    refine CallQ.by (sameG _ _ _) ?_
    refine Br.mk (fun h2 => ?_) (fun h2 => ?_)
    · exact ⟨by rw [fi_at hil (fun j hj => hno j hj (by omega)) h2], .tail⟩
    · refine Bin.add64 (c := ((i + 1 : Nat) : Int)) (by simp) (by omega) ?_
      refine .mk ⟨i + 1, rfl, rfl, by omega, fun j hj hl => ?_⟩ ?_
      · by_cases e : j = i
        · subst e; exact h2
        · exact hno j (by omega) hl
      · simp only [Int.toNat_natCast]; omega
  · have hil : i = l.length := by simp at h1; omega
    subst hil
    exact ⟨by rw [fi_none fun j hj => hno j hj hj], .tail⟩
theorem ro_one {TR TG : TypeId} {h : Value} {l : List Tg} {C : Hp} (ho : RO TR TG h l C) (hp : 0 < l.length) :
    ∃ b b' junk, h = .pointer (some ⟨b, 0, none⟩) ∧ C = [(b, .cells #[.slice (some ⟨b', 0, none⟩) l.length (l.length + junk.length)] TR (0, 0)), (b', .cells (rows (encGs l ++ junk)) TG (0, 0))] ∧ ∀ r ∈ encGs l ++ junk, r.length = 3 := by
  obtain ⟨b, v, Cs, rfl, rfl, hs⟩ := ho
  obtain ⟨b', junk, rfl, rfl, hall⟩ := hs.pos (by rw [encGs_length]; omega)
  exact ⟨b, b', junk, rfl, by rw [encGs_length], hall⟩
theorem refPush {g : World} {h : Value} {l : List Tg} {C : Hp} (ho : RO 46 52 h l C) (t : Tg) (hmax : l.length < 4398046511104) (F : Hp) :
    SCalls Try.prog g 17 #[h, .agg (encG t).toArray] (C ++ F) (fun e H' => ∃ l' C', H' = C' ++ F ∧ RO 46 52 h l' C' ∧
      (((∃ a ∈ l, sm a t = true) ∧ e = .returned (.int .i64 11) ∧ l' = l) ∨ ((∀ a ∈ l, sm a t = false) ∧ e = .returned (.int .i64 0) ∧ l' = l ++ [t]))) := by
  refine (L17_sound (R := fun e H' => ∃ H1, Ent H' H1 ∧ ∃ l' C', H1 = C' ++ F ∧ RO 46 52 h l' C' ∧
      (((∃ a ∈ l, sm a t = true) ∧ e = .returned (.int .i64 11) ∧ l' = l) ∨ ((∀ a ∈ l, sm a t = false) ∧ e = .returned (.int .i64 0) ∧ l' = l ++ [t]))) ?_).post fun e H' h => h
  unfold L17
  intro b1 _
  refine LdA.whole (r := encG t) (by repeat (first | exact List.Mem.head _ | apply List.Mem.tail)) rfl ?_
  refine CallF.pure (findG ho t hmax (fun x hx => by simp [hx])) ?_
  rcases fi_cases l t with ⟨hf, hno⟩ | ⟨i, hi, hf, h1⟩
  · rw [hf]
    (repeat (first | refine Nil.ptr ?_ | refine FAddr.mk ?_ | refine Ld.mk (by repeat (first | exact List.Mem.head _ | apply List.Mem.tail)) rfl ?_ | refine LenS.mk ?_ | refine Bin.eql ?_ | refine Bin.neq ?_ | refine Bin.lss ?_ | refine Bin.leq ?_ | refine Bin.gtr ?_ | refine Bin.geq ?_ | refine Un.not ?_ | refine Ext.mk rfl ?_ | refine Pick.mk ?_ | refine Bin.ptrNil ?_ | refine Bin.mapNil ?_ | refine Bin.nilNil ?_ | refine Br.yes ?_ | refine Br.no ?_))
    obtain ⟨b, v, Cs, rfl, rfl, hs⟩ := ho
    refine ⟨[(b1, _), (b, _)], .left (A := [_, _]), ?_⟩
    refine Nil.ptr (FAddr.mk (Ld.mk (by repeat (first | exact List.Mem.head _ | apply List.Mem.tail)) rfl ?_))
    refine LdA.whole (r := encG t) (by repeat (first | exact List.Mem.head _ | apply List.Mem.tail)) rfl ?_
    refine BuildSl.one (k := 3) (e := 52) (z := .agg #[.int .u64 0, .bool false, .int .i64 0]) (by kernel_rfl) (by kernel_rfl) (by kernel_rfl) (by decide) rfl fun xb => ?_
    refine ⟨.trans .tail (.left (A := [_, _])), ?_⟩
    refine hs.app' (A := [_, _, _]) (B := F) (r := encG t) (by repeat (first | exact List.Mem.head _ | apply List.Mem.tail)) rfl (by simp [encG, Value.oneCell']) ⟨[.int .u64 0, .bool false, .int .i64 0], rfl, rfl⟩ (by rw [encGs_length]; omega) (by rw [encGs_length]; omega) fun v' C' hs' => ?_
    refine ⟨.trans .tail (.left (A := [_, _])), ?_⟩
    refine Nil.ptr (FAddr.mk ?_)
    refine St.one (by repeat (first | exact Upd.head _ | apply Upd.tail)) (by obtain ⟨a, c, rfl⟩ := hs'.len; rfl) (by simp) rfl ?_
    refine ⟨(b, .cells #[v'] 46 (0, 0)) :: C' ++ F, .trans .tail .tail, l ++ [t], _, rfl, ⟨b, v', C', rfl, rfl, ?_⟩, .inr ⟨hno, rfl, rfl⟩⟩
    simpa [encGs] using hs'
  · rw [hf]
    (repeat (first | refine Nil.ptr ?_ | refine FAddr.mk ?_ | refine Ld.mk (by repeat (first | exact List.Mem.head _ | apply List.Mem.tail)) rfl ?_ | refine LenS.mk ?_ | refine Bin.eql ?_ | refine Bin.neq ?_ | refine Bin.lss ?_ | refine Bin.leq ?_ | refine Bin.gtr ?_ | refine Bin.geq ?_ | refine Un.not ?_ | refine Ext.mk rfl ?_ | refine Pick.mk ?_ | refine Bin.ptrNil ?_ | refine Bin.mapNil ?_ | refine Bin.nilNil ?_ | refine Br.yes ?_ | refine Br.no ?_))
    (try refine Br.yes' (b := decide ((0 : Int) ≤ (i : Int))) (decide_eq_true (by omega)) ?_)
    exact ⟨_, .tail, l, C, rfl, ho, .inl ⟨⟨_, List.getElem_mem hi, h1⟩, rfl, rfl⟩⟩
theorem refMove {g : World} {h : Value} {l : List Tg} {C : Hp} (ho : RO 46 52 h l C) (t : Tg) (hmax : l.length < 4398046511104) (F : Hp) :
    SCalls Try.prog g 19 #[h, .agg (encG t).toArray] (C ++ F) (fun e H' => ∃ l' C', H' = C' ++ F ∧ RO 46 52 h l' C' ∧
      (((∀ a ∈ l, sm a t = false) ∧ e = .returned (.int .i64 10) ∧ l' = l) ∨ (∃ i, ∃ hi : i < l.length, sm l[i] t = true ∧ e = .returned (.int .i64 0) ∧ l' = l.set i (l[i].1, l[i].2.1, t.2.2)))) := by
  refine (L19_sound (R := fun e H' => ∃ H1, Ent H' H1 ∧ ∃ l' C', H1 = C' ++ F ∧ RO 46 52 h l' C' ∧
      (((∀ a ∈ l, sm a t = false) ∧ e = .returned (.int .i64 10) ∧ l' = l) ∨ (∃ i, ∃ hi : i < l.length, sm l[i] t = true ∧ e = .returned (.int .i64 0) ∧ l' = l.set i (l[i].1, l[i].2.1, t.2.2)))) ?_).post fun e H' h => h
  unfold L19
  intro b1 _
  refine LdA.whole (r := encG t) (by repeat (first | exact List.Mem.head _ | apply List.Mem.tail)) rfl ?_
  refine CallF.pure (findG ho t hmax (fun x hx => by simp [hx])) ?_
  rcases fi_cases l t with ⟨hf, hno⟩ | ⟨i, hi, hf, h1⟩
  · rw [hf]
    (repeat (first | refine Nil.ptr ?_ | refine FAddr.mk ?_ | refine Ld.mk (by repeat (first | exact List.Mem.head _ | apply List.Mem.tail)) rfl ?_ | refine LenS.mk ?_ | refine Bin.eql ?_ | refine Bin.neq ?_ | refine Bin.lss ?_ | refine Bin.leq ?_ | refine Bin.gtr ?_ | refine Bin.geq ?_ | refine Un.not ?_ | refine Ext.mk rfl ?_ | refine Pick.mk ?_ | refine Bin.ptrNil ?_ | refine Bin.mapNil ?_ | refine Bin.nilNil ?_ | refine Br.yes ?_ | refine Br.no ?_))
    exact ⟨_, .tail, l, C, rfl, ho, .inl ⟨hno, rfl, rfl⟩⟩
  · rw [hf]
    (repeat (first | refine Nil.ptr ?_ | refine FAddr.mk ?_ | refine Ld.mk (by repeat (first | exact List.Mem.head _ | apply List.Mem.tail)) rfl ?_ | refine LenS.mk ?_ | refine Bin.eql ?_ | refine Bin.neq ?_ | refine Bin.lss ?_ | refine Bin.leq ?_ | refine Bin.gtr ?_ | refine Bin.geq ?_ | refine Un.not ?_ | refine Ext.mk rfl ?_ | refine Pick.mk ?_ | refine Bin.ptrNil ?_ | refine Bin.mapNil ?_ | refine Bin.nilNil ?_ | refine Br.yes ?_ | refine Br.no ?_))
    (try refine Br.no' (b := decide ((i : Int) < 0)) (decide_eq_false (by omega)) ?_)
    obtain ⟨b, b', junk, rfl, rfl, hall⟩ := ro_one ho (by omega)
    refine ⟨[(b1, _), (b, _)], .left (A := [_, _]), ?_⟩
    refine Nil.ptr (FAddr.mk (Ld.mk (by repeat (first | exact List.Mem.head _ | apply List.Mem.tail)) rfl ?_))
    refine FAddr.mk (Ld.mk (v := .int .i64 t.2.2) (by repeat (first | exact List.Mem.head _ | apply List.Mem.tail)) rfl ?_)
    refine IAddr.nat hi ?_
    (repeat (first | refine Nil.ptr ?_ | refine FAddr.mk ?_ | refine Ld.mk (by repeat (first | exact List.Mem.head _ | apply List.Mem.tail)) rfl ?_ | refine LenS.mk ?_ | refine Bin.eql ?_ | refine Bin.neq ?_ | refine Bin.lss ?_ | refine Bin.leq ?_ | refine Bin.gtr ?_ | refine Bin.geq ?_ | refine Un.not ?_ | refine Ext.mk rfl ?_ | refine Pick.mk ?_ | refine Bin.ptrNil ?_ | refine Bin.mapNil ?_ | refine Bin.nilNil ?_ | refine Br.yes ?_ | refine Br.no ?_))
    refine St.cell (l := encGs l ++ junk) (j := 2) (by repeat (first | exact Upd.head _ | apply Upd.tail)) hall (encGs_get hi junk) (by decide) rfl ?_
    have hset : (encGs l ++ junk).set i ((encG l[i]).set 2 (.int .i64 t.2.2)) = encGs (l.set i (l[i].1, l[i].2.1, t.2.2)) ++ junk := by
      rw [List.set_append_left _ _ (by rw [encGs_length]; exact hi)]
      simp [encGs, List.map_set, encG]
    rw [hset]
    refine ⟨_, .tail, l.set i (l[i].1, l[i].2.1, t.2.2), [_, _], rfl, ⟨b, _, [_], rfl, rfl, ?_⟩, .inr ⟨i, hi, h1, rfl, rfl⟩⟩
    refine SOwn.mk' (junk := junk) (fun r hr => ?_) (by rw [encGs_length]; simp) (by rw [encGs_length]; simp)
    rcases List.mem_append.1 hr with hr | hr
    · exact encGs_rows _ r hr
    · exact hall r (by simp [hr])
theorem refKey {g : World} {h : Value} {l : List Tg} {C : Hp} (ho : RO 46 52 h l C) (t : Tg) (hmax : l.length < 4398046511104) (F : Hp) :
    SCalls Try.prog g 21 #[h, .agg (encG t).toArray] (C ++ F) (fun e H' => H' = C ++ F ∧
      (((∀ a ∈ l, sm a t = false) ∧ e = .returned (.tuple #[.int .i64 0, .int .i64 10])) ∨ (∃ i, ∃ hi : i < l.length, sm l[i] t = true ∧ e = .returned (.tuple #[.int .i64 l[i].2.2, .int .i64 0])))) := by
  refine (L21_sound (R := fun e H' => ∃ H1, Ent H' H1 ∧ H1 = C ++ F ∧
      (((∀ a ∈ l, sm a t = false) ∧ e = .returned (.tuple #[.int .i64 0, .int .i64 10])) ∨ (∃ i, ∃ hi : i < l.length, sm l[i] t = true ∧ e = .returned (.tuple #[.int .i64 l[i].2.2, .int .i64 0])))) ?_).post fun e H' h => h
  unfold L21
  intro b1 _
  refine LdA.whole (r := encG t) (by repeat (first | exact List.Mem.head _ | apply List.Mem.tail)) rfl ?_
  refine CallF.pure (findG ho t hmax (fun x hx => by simp [hx])) ?_
  rcases fi_cases l t with ⟨hf, hno⟩ | ⟨i, hi, hf, h1⟩
  · rw [hf]
    (repeat (first | refine Nil.ptr ?_ | refine FAddr.mk ?_ | refine Ld.mk (by repeat (first | exact List.Mem.head _ | apply List.Mem.tail)) rfl ?_ | refine LenS.mk ?_ | refine Bin.eql ?_ | refine Bin.neq ?_ | refine Bin.lss ?_ | refine Bin.leq ?_ | refine Bin.gtr ?_ | refine Bin.geq ?_ | refine Un.not ?_ | refine Ext.mk rfl ?_ | refine Pick.mk ?_ | refine Bin.ptrNil ?_ | refine Bin.mapNil ?_ | refine Bin.nilNil ?_ | refine Br.yes ?_ | refine Br.no ?_))
    exact ⟨_, .tail, rfl, .inl ⟨hno, rfl⟩⟩
  · rw [hf]
    (repeat (first | refine Nil.ptr ?_ | refine FAddr.mk ?_ | refine Ld.mk (by repeat (first | exact List.Mem.head _ | apply List.Mem.tail)) rfl ?_ | refine LenS.mk ?_ | refine Bin.eql ?_ | refine Bin.neq ?_ | refine Bin.lss ?_ | refine Bin.leq ?_ | refine Bin.gtr ?_ | refine Bin.geq ?_ | refine Un.not ?_ | refine Ext.mk rfl ?_ | refine Pick.mk ?_ | refine Bin.ptrNil ?_ | refine Bin.mapNil ?_ | refine Bin.nilNil ?_ | refine Br.yes ?_ | refine Br.no ?_))
    (try refine Br.no' (b := decide ((i : Int) < 0)) (decide_eq_false (by omega)) ?_)
    obtain ⟨b, b', junk, rfl, rfl, hall⟩ := ro_one ho (by omega)
    refine Nil.ptr (FAddr.mk (Ld.mk (by repeat (first | exact List.Mem.head _ | apply List.Mem.tail)) rfl ?_))
    refine IAddr.nat hi ?_
    (repeat (first | refine Nil.ptr ?_ | refine FAddr.mk ?_ | refine Ld.mk (by repeat (first | exact List.Mem.head _ | apply List.Mem.tail)) rfl ?_ | refine LenS.mk ?_ | refine Bin.eql ?_ | refine Bin.neq ?_ | refine Bin.lss ?_ | refine Bin.leq ?_ | refine Bin.gtr ?_ | refine Bin.geq ?_ | refine Un.not ?_ | refine Ext.mk rfl ?_ | refine Pick.mk ?_ | refine Bin.ptrNil ?_ | refine Bin.mapNil ?_ | refine Bin.nilNil ?_ | refine Br.yes ?_ | refine Br.no ?_))
    refine Ld.row (l := encGs l ++ junk) (j := 2) (by repeat (first | exact List.Mem.head _ | apply List.Mem.tail)) hall (encGs_get hi junk) rfl ?_
    exact ⟨_, .tail, rfl, .inr ⟨i, hi, h1, rfl⟩⟩
end Go.Proofs
