import Derived.Test.YtlnfeedpfganpaaV1
import Derived.Test.YtlnfeedpfganpaaE3
import Derived.Test.YtlnfeedpfganpaaE4
set_option linter.unusedVariables false
set_option linter.unusedSimpArgs false
set_option maxRecDepth 100000
namespace Go.Proofs
open Go Go.Sx
theorem nAt_succ (x : Value) (r : List Value) (i : Nat) : nAt (x :: r) (i + 1) = nAt r i := by cases x <;> rfl
/-- the costs that the loop has looked at -/
def seenC (n : Nat) (L : List (List Nat)) (U a k : Nat) : List Nat := ((List.range k).filter fun v => !a.testBit v && U.testBit v).map fun v => Tab.lvl n L a v + Tab.B n (Tab.lvl n L) (Tab.setb a v true)
theorem seenC_all {n : Nat} {L : List (List Nat)} {U a : Nat} : seenC n L U a n = (Tab.missU n U a).map fun v => Tab.lvl n L a v + Tab.B n (Tab.lvl n L) (Tab.setb a v true) := by
  unfold seenC Tab.missU Tab.miss
  rw [List.filter_filter]
  congr 1
  apply List.filter_congr
  intro v _
  cases a.testBit v <;> cases U.testBit v <;> rfl
theorem seenC_step {n : Nat} {L : List (List Nat)} {U a k : Nat} : seenC n L U a (k + 1) = if a.testBit k = true ∨ U.testBit k = false then seenC n L U a k else seenC n L U a k ++ [Tab.lvl n L a k + Tab.B n (Tab.lvl n L) (Tab.setb a k true)] := by
  unfold seenC
  rw [List.range_succ, List.filter_append, List.map_append]
  cases h1 : a.testBit k <;> cases h2 : U.testBit k <;> simp [h1, h2]
def bestV (l : List Nat) : Value := if l = [] then .int .i64 (-1) else .int .i64 ((Tab.minOf l : Nat) : Int)
theorem bel_le (n : Nat) (c : Nat → Nat → Nat) (M : Nat) (hc : ∀ a v, c a v ≤ M) : ∀ f a, Tab.bel n c f a ≤ f * M
  | 0, a => by simp [Tab.bel]
  | f + 1, a => by
    rw [Tab.bel, Nat.succ_mul]
    by_cases h : Tab.miss n a = []
    · rw [h]; simp [Tab.minOf]
    · have := Tab.minOf_mem (l := (Tab.miss n a).map fun v => c a v + Tab.bel n c f (Tab.setb a v true)) (by simpa using h)
      obtain ⟨v, _, e⟩ := List.mem_map.1 this
      rw [← e]
      have h1 := hc a v
      have h2 := bel_le n c M hc f (Tab.setb a v true)
      omega
theorem B_small {lst : Value} {n : Nat} {L : List (List Nat)} {B : Hp} (h : PlanOK lst n L B) (a : Nat) : Tab.B n (Tab.lvl n L) a < 35184372088832 := by
  have h1 := bel_le n (Tab.lvl n L) 2199023255551 (fun a v => Nat.le_of_lt (lvl_le h a v)) n a
  have h2 : n * 2199023255551 ≤ 12 * 2199023255551 := Nat.mul_le_mul_right _ h.n12
  unfold Tab.B; omega
theorem and_full_set {a U n : Nat} (hU : U < 2 ^ n) (h : ∀ v, v < n → ¬ (a.testBit v = false ∧ U.testBit v = true)) : a &&& U = U := by
  apply Nat.eq_of_testBit_eq; intro k
  rw [Nat.testBit_and]
  by_cases hk : k < n
  · have := h k hk
    cases h1 : a.testBit k <;> cases h2 : U.testBit k <;> simp_all
  · have : U.testBit k = false := Nat.testBit_lt_two_pow (Nat.lt_of_lt_of_le hU (Nat.pow_le_pow_right (by decide) (by omega)))
    rw [this]; simp
theorem below_ok {lst : Value} {n : Nat} {L : List (List Nat)} {B : Hp} (h : PlanOK lst n L B) {bp bl bd : Nat} : ∀ (d a : Nat), (Tab.missU n (Tab.usedP n L) a).length ≤ d → a < 2 ^ n → ∀ H, PlanH bp bl bd lst n L (Tab.usedP n L) B H →
    Fc Try.prog 28 #[.pointer (some ⟨bp, 0, none⟩), .int .i64 (a : Int)] H (fun r H' => r = .int .i64 ((Tab.B n (Tab.lvl n L) a : Nat) : Int) ∧ PlanH bp bl bd lst n L (Tab.usedP n L) B H') := by
  have hU := Tab.usedP_lt n L
  have hn12 := h.n12
  have hp2 : 2 ^ n ≤ 2 ^ 12 := Nat.pow_le_pow_right (by decide) hn12
  have hUsed := Tab.used_ok h.frm (by omega)
  intro d
  induction d using Nat.strongRecOn with
  | _ d ih =>
    intro a hd ha H hp
    obtain ⟨es1, ck1, es2, ck2, rfl, hM⟩ := hp
    intro g
    refine L28_sound (R := FnR _) ?_
    unfold L28
    refine Nil.ptr ?_
    refine FAddr.mk (Ld.mk (by repeat (first | assumption | exact List.Mem.head _ | apply List.Mem.tail | apply List.mem_append_right)) rfl ?_)
    refine Bin.andN (by simp [lim]; omega) (by simp [lim]; omega) ?_
    refine Nil.ptr ?_
    refine FAddr.mk (Ld.mk (by repeat (first | assumption | exact List.Mem.head _ | apply List.Mem.tail | apply List.mem_append_right)) rfl ?_)
    have hBa : Tab.B n (Tab.lvl n L) a = Tab.B n (Tab.lvl n L) (a &&& Tab.usedP n L) := (Tab.B_and hUsed a).symm
    have hmU : Tab.missU n (Tab.usedP n L) (a &&& Tab.usedP n L) = Tab.missU n (Tab.usedP n L) a := Tab.missU_and _ _ _
    have haU : a &&& Tab.usedP n L < 2 ^ n := Nat.lt_of_le_of_lt Nat.and_le_left ha
    have hself : (a &&& Tab.usedP n L) &&& Tab.usedP n L = a &&& Tab.usedP n L := by rw [Nat.and_assoc, Nat.and_self]
    rw [hBa]
    rw [← hmU] at hd
    obtain ⟨a', ha'⟩ : ∃ a', a' = a &&& Tab.usedP n L := ⟨_, rfl⟩
    rw [← ha'] at haU hd hself ⊢
    clear hBa hmU ha ha'
    have hall := seenC_all (n := n) (L := L) (U := Tab.usedP n L) (a := a')
    have hrec : Tab.B n (Tab.lvl n L) a' = Tab.minOf (seenC n L (Tab.usedP n L) a' n) := by
      rw [hall]
      have := Tab.B_rec hUsed a'
      rw [hself] at this
      exact this
    refine Bin.eqN (Br.dec (fun h0 => ?_) (fun h0 => ?_))
    · refine FnR.here ⟨?_, es1, ck1, es2, ck2, rfl, hM⟩
      have : Tab.missU n (Tab.usedP n L) a' = [] := by
        rw [List.eq_nil_iff_forall_not_mem]
        intro v hv
        obtain ⟨_, h2, h3⟩ := Tab.mem_missU.1 hv
        rw [h0, h3] at h2; cases h2
      rw [hrec, hall, this]; rfl
    have hne : seenC n L (Tab.usedP n L) a' n ≠ [] := by
      rw [hall]
      intro e
      apply h0
      rw [← hself]
      refine and_full_set hU fun v hv hh => ?_
      have : v ∈ Tab.missU n (Tab.usedP n L) a' := Tab.mem_missU.2 ⟨hv, hh.1, hh.2⟩
      rw [List.map_eq_nil_iff.1 e] at this; simp at this
    refine Nil.ptr ?_
    refine FAddr.mk (Ld.mk (by repeat (first | assumption | exact List.Mem.head _ | apply List.Mem.tail | apply List.mem_append_right)) rfl ?_)
    obtain ⟨hlev, m2, hE2, hm2⟩ := hM
    cases hg : mget m2 a' with
    | some x =>
      have hx := mget_all (f := Tab.B n (Tab.lvl n L)) hm2 hg
      refine Ents.hit (ke := ki) (k := a') ki_law hE2 (by exact .tail _ (.tail _ (.head _))) hg fun y hy => ?_
      subst hy
      refine Ext.mk rfl (Ext.mk rfl (Br.yes (FnR.here ⟨?_, es1, ck1, es2, ck2, rfl, hlev, m2, hE2, hm2⟩)))
      rw [hx]; rfl
    | none =>
      refine Ents.miss (ke := ki) (k := a') ki_law hE2 (by exact .tail _ (.tail _ (.head _))) hg ?_
      refine Ext.mk rfl (Ext.mk rfl (Br.no (Nil.ptr ?_)))
      refine FAddr.mk (Ld.mk (by repeat (first | assumption | exact List.Mem.head _ | apply List.Mem.tail | apply List.mem_append_right)) rfl ?_)
      refine ⟨fun vs H => ∃ k : Nat, vs = [bestV (seenC n L (Tab.usedP n L) a' k), .int .i64 (k : Int)] ∧ k ≤ n ∧ PlanH bp bl bd lst n L (Tab.usedP n L) B H, fun vs _ => n - nAt vs 1,
        JE.mk ⟨0, rfl, Nat.zero_le _, es1, ck1, es2, ck2, rfl, hlev, m2, hE2, hm2⟩, ?_⟩
      clear hE2 hm2 hg hlev es1 ck1 es2 ck2 m2
      rintro w22 w23 H ⟨k, hv, hk, hp⟩ gs
      simp only [List.cons.injEq, and_true] at hv
      obtain ⟨rfl, rfl⟩ := hv
      refine Bin.ltN (Br.dec (fun hlt => ?_) (fun hlt => ?_))
      · intro J hJ
        have hp0 := hp
        obtain ⟨es1, ck1, es2, ck2, rfl, hM⟩ := hp
        refine Nil.ptr ?_
        refine FAddr.mk (Ld.mk (by repeat (first | assumption | exact List.Mem.head _ | apply List.Mem.tail | apply List.mem_append_right)) rfl ?_)
        refine ornot (by omega) (by omega) (by omega) ?_
        have hnext : ∀ l H, l = seenC n L (Tab.usedP n L) a' (k + 1) → PlanH bp bl bd lst n L (Tab.usedP n L) B H → J [bestV l] H := fun l H hl hp => hJ _ _ fun gs => by
          refine Bin.addN (b := 1) (by simp [lim]; omega) ?_
          exact Back.mk ⟨k + 1, by rw [hl], by omega, hp⟩ (by rw [nAt_succ, nAt_succ]; show n - (((k:Int)+1).toNat) < n - ((k:Int).toNat); omega)
        by_cases hc : a'.testBit k = true ∨ (Tab.usedP n L).testBit k = false
        · rw [decide_eq_true hc]
          refine Br.yes (JE.mk (hnext _ _ ?_ hp0))
          rw [seenC_step, if_pos hc]
        · rw [decide_eq_false hc]
          have hck : a'.testBit k = false ∧ (Tab.usedP n L).testBit k = true := by
            cases h1 : a'.testBit k <;> cases h2 : (Tab.usedP n L).testBit k <;> simp_all
          have hmem : k ∈ Tab.missU n (Tab.usedP n L) a' := Tab.mem_missU.2 ⟨hlt, hck.1, hck.2⟩
          refine Br.no (DR.self ?_)
          have hpk : 2 ^ k ≤ 2 ^ 12 := Nat.pow_le_pow_right (by decide) (by omega)
          refine Bin.shlN (a := 1) (by simp [IntKind.bits]; omega) (by rw [Nat.one_shiftLeft]; simp [lim]; omega) ?_
          rw [Nat.one_shiftLeft]
          refine Bin.orN (by simp [lim]; omega) (by simp [lim]; omega) ?_
          have eset : a' ||| 2 ^ k = Tab.setb a' k true := rfl
          rw [eset]
          refine CallF.fn .here (nodes_ok h hp0 haU hlt hck.1) ?_
          rintro r H1 ⟨rfl, hp1⟩
          have hlen : (Tab.missU n (Tab.usedP n L) (Tab.setb a' k true)).length < d := by
            have h1 : (Tab.missU n (Tab.usedP n L) (Tab.setb a' k true)).length + 1 = (Tab.missU n (Tab.usedP n L) a').length := by
              unfold Tab.missU Tab.miss
              rw [List.filter_filter, List.filter_filter]
              refine Tab.filter_drop _ _ k (List.range n) List.nodup_range (List.mem_range.2 hlt) (by simp [hck]) (by simp [Tab.testBit_setb]) fun y hy hne => ?_
              rw [Tab.setb_true_ne hne]
            omega
          refine CallF.fn .here (ih _ hlen (Tab.setb a' k true) (Nat.le_refl _) (Tab.setb_lt haU hlt) H1 hp1) ?_
          rintro r H2 ⟨rfl, hp2⟩
          have hb1 := lvl_le h a' k
          have hb2 := B_small h (Tab.setb a' k true)
          refine Bin.addN (by simp [lim]; omega) ?_
          have hstep := seenC_step (n := n) (L := L) (U := Tab.usedP n L) (a := a') (k := k)
          rw [if_neg hc] at hstep
          generalize Tab.lvl n L a' k + Tab.B n (Tab.lvl n L) (Tab.setb a' k true) = x at hstep
          unfold bestV
          by_cases hl : seenC n L (Tab.usedP n L) a' k = []
          · rw [if_pos hl]
            refine Bin.lss (Grp.mk true (fun e => by simp at e) (fun _ => rfl) fun gs => Br.yes (JE.mk ?_))
            have := hnext [x] _ (by rw [hstep, hl]; rfl) hp2
            simpa [bestV, Tab.minOf] using this
          · rw [if_neg hl]
            have hms := Tab.minOf_snoc (seenC n L (Tab.usedP n L) a' k) x
            rw [if_neg hl, ← hstep] at hms
            have hne1 : seenC n L (Tab.usedP n L) a' (k + 1) ≠ [] := by rw [hstep]; simp
            have hn1 := hnext _ H2 rfl hp2
            unfold bestV at hn1
            rw [if_neg hne1, hms] at hn1
            have hneg : decide (((Tab.minOf (seenC n L (Tab.usedP n L) a' k) : Nat) : Int) < 0) = false := decide_eq_false (by omega)
            by_cases hx : x < Tab.minOf (seenC n L (Tab.usedP n L) a' k)
            · rw [Nat.min_eq_right (by omega)] at hn1
              refine Bin.lss ?_
              rw [hneg]
              exact Grp.mk true (fun _ => Bin.ltN ⟨rfl, by rw [decide_eq_true hx]⟩) (fun e => by simp at e) fun gs => Br.yes (JE.mk hn1)
            · rw [Nat.min_eq_left (by omega)] at hn1
              refine Bin.lss ?_
              rw [hneg]
              exact Grp.mk false (fun _ => Bin.ltN ⟨rfl, by rw [decide_eq_false hx]⟩) (fun e => by simp at e) fun gs => Br.no (JE.mk hn1)
      · have : k = n := by omega
        subst this
        obtain ⟨es1, ck1, es2, ck2, rfl, hlev, m2, hE2, hm2⟩ := hp
        refine Nil.ptr ?_
        refine FAddr.mk (Ld.mk (by repeat (first | assumption | exact List.Mem.head _ | apply List.Mem.tail | apply List.mem_append_right)) rfl ?_)
        unfold bestV
        rw [if_neg hne, ← hrec]
        refine Ents.upd (ke := ki) (vr := vrN) (b := bd) (val := .int .i64 ((Tab.B k (Tab.lvl k L) a' : Nat) : Int)) (k := a') (x := Tab.B k (Tab.lvl k L) a') ki_law ki_bits hE2 rfl fun es' ck' hE' => ⟨_, .tail (.tail (.head _)), ?_⟩
        have hm2' : ∀ x ∈ mset m2 a' (Tab.B k (Tab.lvl k L) a'), x.2 = Tab.B k (Tab.lvl k L) x.1 := mset_all (f := Tab.B k (Tab.lvl k L)) hm2
        exact FnR.here ⟨rfl, es1, ck1, es', ck', rfl, hlev, _, hE', hm2'⟩

end Go.Proofs
set_option linter.unusedVariables false
set_option linter.unusedSimpArgs false
set_option maxRecDepth 100000
namespace Go.Proofs
open Go Go.Sx
/-- what exact.check leaves behind -/
def ChkQ (v : Value) (ts : List Tb) (B : Hp) (r : Value) (H : Hp) : Prop :=
  (OneN ts ∧ ∃ (bp bl bd n : Nat) (L : List (List Nat)) (N : Hp), ts = tbs n L ∧ (L = [] → n = 0) ∧ n ≤ 16 ∧ (∀ ws ∈ L, Tab.Frm n ws) ∧ r = .tuple #[.pointer (some ⟨bp, 0, none⟩), .int .i64 0] ∧ PlanH bp bl bd v n L (Tab.usedP n L) (N ++ B) H)
  ∨ (¬ OneN ts ∧ r = .tuple #[.pointer none, .int .i64 5])
theorem planM_empty (n : Nat) (L : List (List Nat)) : PlanM n L #[] 0 #[] 0 := ⟨⟨[], Ents.empty, by simp⟩, ⟨[], Ents.empty, by simp⟩⟩
theorem usedP_step {n : Nat} {L : List (List Nat)} {k : Nat} (h : k < L.length) : Tab.usedP n (L.take (k + 1)) = Tab.usedP n (L.take k) ||| Tab.supp n L[k] := by
  unfold Tab.usedP
  rw [List.take_add_one, List.getElem?_eq_getElem h, Option.toList_some, List.foldl_append]; rfl
theorem echeck_ok {B : Hp} {v : Value} {ts : List Tb} (ht : Tbls B v ts) (hmax : ts.length < 4398046511104) : Px Try.prog 26 #[v] B (ChkQ v ts B) := by
  obtain ⟨va, vc, vl, rfl⟩ : ∃ a c l, v = .slice a l c := by
    obtain ⟨rs, h1, _⟩ := ht
    obtain ⟨a, c, e, _⟩ := h1.shape
    exact ⟨a, c, _, e⟩
  intro g
  refine L26_sound (R := FnR _) ?_
  unfold L26
  intro b1 _ b2 _
  refine Build.mk (cs := [.slice va vl vc, .int .i64 0, .int .i64 0, .map (some b1), .map (some b2)]) (by kernel_rfl) ?_
  intro bp _
  generalize hvs : Value.slice va vl vc = vv at ht ⊢
  refine ht.lenS (Bin.eqN (b := 0) (Br.dec (fun h0 => ?_) (fun h0 => ?_)))
  · have hnil : ts = [] := List.eq_nil_of_length_eq_zero h0
    subst hnil
    refine ⟨_, _, rfl, Ent.cons Ent.swap, (by repeat (first | exact Grow.refl _ | apply Grow.cons | apply Grow.app)), Or.inl ⟨by simp [OneN], bp, b1, b2, 0, [], [], rfl, fun _ => rfl, by omega, by simp, rfl, _, _, _, _, ?_, planM_empty _ _⟩⟩
    subst hvs; rfl
  refine CallF.px (B := B) (.cons (.cons (.cons .here))) (pairs_ok ht hmax) ?_
  rintro r N ⟨s, rfl⟩
  refine Ext.mk rfl (Ext.mk rfl ?_)
  by_cases hO : OneN ts
  case neg =>
    rw [if_neg hO]
    exact Bin.neN (a := 5) (b := 0) (Br.dec (fun _ => PxR.mk (by repeat (first | exact Grow.refl _ | apply Grow.cons | apply Grow.app)) (.inr ⟨hO, rfl⟩)) (fun h => absurd (by decide) h))
  rw [if_pos hO]
  refine Bin.neN (a := 0) (b := 0) (Br.dec (fun h => absurd rfl h) (fun _ => ?_))
  obtain ⟨n, L, hn16, rfl, hne, hf⟩ := of_oneN hO (by intro e; rw [e] at h0; exact h0 rfl)
  rw [List.length_map] at hmax h0
  obtain ⟨w0, hw0⟩ : ∃ w0, L[0]? = some w0 := ⟨_, List.getElem?_eq_getElem (List.length_pos_iff.2 hne)⟩
  refine ht.ldN (i := 0) (t := ⟨n, w0⟩) (by rw [List.getElem?_map, hw0]; rfl) (fun _ h => by repeat (first | exact h | apply List.mem_cons_of_mem | apply List.mem_append_right)) ?_
  simp only
  refine Nil.ptr (FAddr.mk ?_)
  refine St.one (c := #[vv, .int .i64 0, .int .i64 0, .map (some b1), .map (some b2)]) (c' := #[vv, .int .i64 (n : Int), .int .i64 0, .map (some b1), .map (some b2)]) (H' := (bp, .cells #[vv, .int .i64 (n : Int), .int .i64 0, .map (some b1), .map (some b2)] 60 (0, 0)) :: (b2, .map #[] 0) :: (b1, .map #[] 0) :: (N ++ B)) (by subst hvs; exact .head _) rfl (by simp) rfl ?_
  refine ht.lenS ?_
  rw [List.length_map]
  refine ⟨fun vs H => ∃ (k : Nat) (N : Hp), vs = [.int .i64 (k : Int)] ∧ k ≤ L.length ∧ H = (bp, .cells #[vv, .int .i64 (n : Int), .int .i64 ((Tab.usedP n (L.take k) : Nat) : Int), .map (some b1), .map (some b2)] 60 (0, 0)) :: (b2, .map #[] 0) :: (b1, .map #[] 0) :: (N ++ B),
    fun vs _ => L.length - nAt vs 0, JE.mk ⟨0, N, rfl, by omega, rfl⟩, ?_⟩
  clear N
  rintro w H ⟨k, N, hv, hk, rfl⟩ gs
  simp only [List.cons.injEq, and_true] at hv
  subst hv
  refine Bin.ltN (Br.dec (fun hlt => ?_) (fun hlt => ?_))
  · have hg : (L.map fun ws => (⟨n, ws⟩ : Tb))[k]? = some ⟨n, L[k]⟩ := by rw [List.getElem?_map, List.getElem?_eq_getElem hlt]; rfl
    have hfk := hf L[k] (List.getElem_mem hlt)
    refine ht.ld hg (fun _ h => by repeat (first | exact h | apply List.mem_cons_of_mem | apply List.mem_append_right)) fun s hw => ?_
    intro b3 _
    refine St.whole (r := [.int .i64 (n : Int), s]) (by exact .head _) rfl rfl ?_ ?_
    · have := oneCell_words hw; simpa [Value.oneCell'] using this
    refine LdA.whole (r := [.int .i64 (n : Int), s]) (by exact .head _) rfl ?_
    refine CallF.rd (B := B) (.cons (.cons (.cons (.cons (.app .here))))) (support_ok (v := .agg (List.toArray [.int .i64 (n : Int), s])) (t := ⟨n, L[k]⟩) ⟨s, rfl, hw⟩) ?_
    rintro v rfl
    rw [if_pos (show TF ⟨(n : Int), L[k]⟩ from ⟨by simp, by simpa using hfk⟩)]
    refine Ext.mk rfl (Ext.mk rfl ?_)
    simp only [Int.toNat_natCast]
    have hp16 : 2 ^ n ≤ 2 ^ 16 := Nat.pow_le_pow_right (n := 2) (by decide) hn16
    have hsup : Tab.supp n L[k] < 2 ^ n := Tab.suppP_lt n L[k] n
    have hus := Tab.usedP_lt n (L.take k)
    refine Nil.ptr ?_
    refine FAddr.mk (Ld.mk (by repeat (first | assumption | exact List.Mem.head _ | apply List.Mem.tail | apply List.mem_append_right)) rfl ?_)
    refine ConvI.nat (by simp [lim]; omega) ?_
    refine Bin.orN (by simp [lim]; omega) (by simp [lim]; omega) ?_
    rw [← usedP_step hlt]
    refine Nil.ptr (FAddr.mk ?_)
    refine St.one (c := #[vv, .int .i64 (n : Int), .int .i64 ((Tab.usedP n (L.take k) : Nat) : Int), .map (some b1), .map (some b2)]) (c' := #[vv, .int .i64 (n : Int), .int .i64 ((Tab.usedP n (L.take (k + 1)) : Nat) : Int), .map (some b1), .map (some b2)]) (by repeat (first | exact Upd.head _ | apply Upd.tail | apply Upd.prepend)) rfl (by simp) rfl ?_
    refine Bin.addN (b := 1) (by simp [lim]; omega) ?_
    exact Back.of .tail ⟨k + 1, N, rfl, by omega, rfl⟩ (by simp [nAt]; omega)
  · have : k = L.length := by omega
    subst this
    rw [List.take_length]
    refine ⟨_, _, rfl, Ent.cons Ent.swap, (by repeat (first | exact Grow.refl _ | apply Grow.cons | apply Grow.app)), Or.inl ⟨hO, bp, b1, b2, n, L, N, rfl, fun e => absurd e hne, hn16, hf, rfl, _, _, _, _, rfl, planM_empty _ _⟩⟩

end Go.Proofs
set_option linter.unusedVariables false
set_option linter.unusedSimpArgs false
set_option maxRecDepth 100000
namespace Go.Proofs
open Go Go.Sx
theorem ord_find {n : Nat} {c : Nat → Nat → Nat} {f a v : Nat} (hv : v ∈ Tab.miss n a) (he : c a v + Tab.B n c (Tab.setb a v true) = Tab.B n c a) (hm : ∀ u ∈ Tab.miss n a, u < v → c a u + Tab.B n c (Tab.setb a u true) ≠ Tab.B n c a) :
    Tab.ord n c (f + 1) a = v :: Tab.ord n c f (Tab.setb a v true) := by
  obtain ⟨u, h1, h2, h3, h4⟩ := Tab.ord_step (c := c) (f := f) (List.ne_nil_of_mem hv)
  rcases Nat.lt_trichotomy u v with h | h | h
  · exact absurd h2 (hm u h1 h)
  · rw [h4, h]
  · exact absurd he (h3 v hv h)
theorem belowZ_ok {lst : Value} {n : Nat} {L : List (List Nat)} {B : Hp} {bp bl bd a : Nat} (ha : a < 4611686018427387904) {H : Hp} (hp : PlanH bp bl bd lst n L 0 B H) :
    Fc Try.prog 28 #[.pointer (some ⟨bp, 0, none⟩), .int .i64 (a : Int)] H (fun r H' => r = .int .i64 0 ∧ H' = H) := by
  obtain ⟨es1, ck1, es2, ck2, rfl, hM⟩ := hp
  intro g
  refine L28_sound (R := FnR _) ?_
  unfold L28
  refine Nil.ptr ?_
  refine FAddr.mk (Ld.mk (by repeat (first | assumption | exact List.Mem.head _ | apply List.Mem.tail | apply List.mem_append_right)) rfl ?_)
  refine Bin.andN (b := 0) (by simp [lim]; omega) (by simp [lim]) ?_
  refine Nil.ptr ?_
  refine FAddr.mk (Ld.mk (by repeat (first | assumption | exact List.Mem.head _ | apply List.Mem.tail | apply List.mem_append_right)) rfl ?_)
  exact Bin.eqN (b := 0) (Br.decT (by simp) (FnR.here ⟨rfl, rfl⟩))
/-- what exact.Best answers -/
def BestQ (ts : List Tb) (B : Hp) (r : Value) (H : Hp) : Prop :=
  (¬ OneN ts ∧ r = .tuple #[.int .i64 0, .slice none 0 0, .int .i64 5]) ∨
  (OneN ts ∧ ∃ (n : Nat) (L : List (List Nat)), ts = tbs n L ∧ (L = [] → n = 0) ∧ n ≤ 16 ∧ (∀ ws ∈ L, Tab.Frm n ws) ∧
    ((12 < n ∧ r = .tuple #[.int .i64 0, .slice none 0 0, .int .i64 6]) ∨
     (n ≤ 12 ∧ ∃ (s : Value) (C N : Hp), r = .tuple #[.int .i64 ((Tab.B n (Tab.lvl n L) 0 : Nat) : Int), s, .int .i64 0] ∧ IOwn 3 .i64 s (iw (Tab.ord n (Tab.lvl n L) n 0)) C ∧ H = C ++ (N ++ B))))
structure BSt (n : Nat) (c : Nat → Nat → Nat) (s : Value) (a : Nat) (l : List Nat) (C : Hp) : Prop where
  own : IOwn 3 .i64 s (iw l) C
  lt : a < 2 ^ n
  len : (Tab.miss n a).length + l.length = n
  pre : l ++ Tab.ord n c (n - l.length) a = Tab.ord n c n 0
theorem bit_eq0 {a v : Nat} : (a >>> v &&& 1 = 0) ↔ a.testBit v = false := by
  have := Nat.testBit_eq_decide_div_mod_eq (x := a) (i := v)
  rw [this, Nat.and_one_is_mod, Nat.shiftRight_eq_div_pow]
  simp
theorem best_ok {B : Hp} {v : Value} {ts : List Tb} (ht : Tbls B v ts) (hmax : ts.length < 33554432) : Px Try.prog 11 #[v] B (BestQ ts B) := by
  intro g
  refine L11_sound (R := FnR _) ?_
  unfold L11
  refine CallF.px .here (echeck_ok ht (by omega)) ?_
  rintro r N0 (⟨hO, bp, bl, bd, n, L, N, rfl, hn0, hn16, hf, rfl, hp⟩ | ⟨hO, rfl⟩)
  case inr => exact Ext.mk rfl (Ext.mk rfl (Bin.neN (a := 5) (b := 0) (Br.dec (fun _ => PxR.mk (by repeat (first | exact Grow.refl _ | apply Grow.cons | apply Grow.app)) (.inl ⟨hO, rfl⟩)) (fun h => absurd (by decide) h))))
  generalize N0 ++ B = H2 at hp ⊢
  clear N0
  rw [tbs_length] at hmax
  have hp0 := hp
  obtain ⟨es1, ck1, es2, ck2, rfl, hM⟩ := hp
  refine Ext.mk rfl (Ext.mk rfl (Bin.neN (a := 0) (b := 0) (Br.dec (fun h => absurd rfl h) (fun _ => ?_))))
  refine Nil.ptr ?_
  refine FAddr.mk (Ld.mk (by repeat (first | assumption | exact List.Mem.head _ | apply List.Mem.tail | apply List.mem_append_right)) rfl ?_)
  refine Bin.gtN (b := 12) (Br.dec (fun h12 => PxR.mk (by repeat (first | exact Grow.refl _ | apply Grow.cons | apply Grow.app)) (.inr ⟨hO, n, L, rfl, hn0, hn16, hf, .inl ⟨h12, rfl⟩⟩)) (fun h12 => ?_))
  clear hM
  have hn12 : n ≤ 12 := by omega
  have hOK : L ≠ [] → PlanOK v n L (N ++ B) := fun hne => ⟨ht.mono (fun _ h => by repeat (first | exact h | apply List.mem_cons_of_mem | apply List.mem_append_right)), hf, hne, hmax, hn12⟩
  have hp2 : 2 ^ n ≤ 2 ^ 12 := Nat.pow_le_pow_right (by decide) hn12
  have hm0 : (Tab.miss n 0).length = n := by
    have : Tab.miss n 0 = List.range n := by unfold Tab.miss; rw [List.filter_eq_self]; simp
    rw [this, List.length_range]
  refine ⟨fun vs H => ∃ (s : Value) (a : Nat) (l : List Nat) (C H1 : Hp), vs = [s, .int .i64 (a : Int)] ∧ BSt n (Tab.lvl n L) s a l C ∧ PlanH bp bl bd v n L (Tab.usedP n L) (N ++ B) H1 ∧ H = C ++ H1,
    fun vs _ => (Tab.miss n (nAt vs 1)).length, JE.mk ⟨_, 0, [], [], _, rfl, ⟨IOwn.nil, Nat.two_pow_pos n, by rw [hm0]; rfl, by simp⟩, hp0, rfl⟩, ?_⟩
  clear hp0 es1 ck1 es2 ck2
  rintro w14 w15 H ⟨s, a, l, C, H1, hv, hb, hp, rfl⟩ gs
  simp only [List.cons.injEq, and_true] at hv
  obtain ⟨rfl, rfl⟩ := hv
  have hp0 := hp
  obtain ⟨es1, ck1, es2, ck2, rfl, hM⟩ := hp
  refine hb.own.lenS ?_
  rw [iw_length]
  refine Nil.ptr ?_
  refine FAddr.mk (Ld.mk (by repeat (first | assumption | exact List.Mem.head _ | apply List.Mem.tail | apply List.mem_append_right)) rfl ?_)
  have hblen := hb.len
  refine Bin.ltN (Br.dec (fun hlt => ?_) (fun hlt => ?_))
  · have hmne : Tab.miss n a ≠ [] := by intro e; rw [e] at hblen; simp at hblen; omega
    have hne : L ≠ [] := fun e => by have := hn0 e; omega
    have hpl := hOK hne
    have hnf : n - l.length = n - l.length - 1 + 1 := by omega
    refine Nil.ptr ?_
    refine FAddr.mk (Ld.mk (by repeat (first | assumption | exact List.Mem.head _ | apply List.Mem.tail | apply List.mem_append_right)) rfl ?_)
    refine ⟨fun vs H => ∃ (k : Nat) (H1 : Hp), vs = [w14, .int .i64 (a : Int), .int .i64 (k : Int)] ∧ k ≤ n ∧ (∀ u ∈ Tab.miss n a, u < k → Tab.lvl n L a u + Tab.B n (Tab.lvl n L) (Tab.setb a u true) ≠ Tab.B n (Tab.lvl n L) a) ∧ PlanH bp bl bd v n L (Tab.usedP n L) (N ++ B) H1 ∧ H = C ++ H1,
      fun vs _ => n - nAt vs 2, JE.mk ⟨0, _, rfl, by omega, fun u _ h => by omega, hp0, rfl⟩, ?_⟩
    clear hM hp0
    rintro w28 w29 w30 H ⟨k, H1, hv, hk, hmin, hp, rfl⟩ gs
    simp only [List.cons.injEq, and_true] at hv
    obtain ⟨rfl, rfl, rfl⟩ := hv
    refine Bin.ltN (Br.dec (fun hlk => ?_) (fun hlk => ?_))
    · intro J hJ
      have hpk : 2 ^ k ≤ 2 ^ 12 := Nat.pow_le_pow_right (by decide) (by omega)
      have hno : ∀ H1, ¬ (a.testBit k = false ∧ Tab.lvl n L a k + Tab.B n (Tab.lvl n L) (Tab.setb a k true) = Tab.B n (Tab.lvl n L) a) → PlanH bp bl bd v n L (Tab.usedP n L) (N ++ B) H1 → J [.bool false] (C ++ H1) := fun H1 hx hp => hJ _ _ fun gs => by
        refine Br.no (Bin.addN (b := 1) (by simp [lim]; omega) ?_)
        refine Back.mk ⟨k + 1, H1, rfl, by omega, fun u hu hlu => ?_, hp, rfl⟩ (by rw [nAt_succ, nAt_succ, nAt_succ, nAt_succ]; show n - (((k:Int)+1).toNat) < n - ((k:Int).toNat); omega)
        by_cases e : u = k
        · subst e; exact fun h => hx ⟨(Tab.mem_miss.1 hu).2, h⟩
        · exact hmin u hu (by omega)
      refine DR.self ?_
      have ha62 : a < 4611686018427387904 := by have := hb.lt; omega
      refine Bin.shrN (by simp [lim]; omega) (Bin.andN (b := 1) (by simp [lim]; exact Nat.lt_of_le_of_lt (Nat.shiftRight_le _ _) (by omega)) (by decide) (Bin.eqN (b := 0) ?_))
      refine Br.dec (fun h0 => ?_) (fun h0 => JE.mk (hno H1 (fun h => h0 (bit_eq0.2 h.1)) hp))
      have hak := bit_eq0.1 h0
      refine Bin.shlN (a := 1) (by simp [IntKind.bits]; omega) (by rw [Nat.one_shiftLeft]; simp [lim]; omega) ?_
      rw [Nat.one_shiftLeft]
      refine Bin.orN (by simp [lim]; omega) (by simp [lim]; omega) ?_
      have eset : a ||| 2 ^ k = Tab.setb a k true := rfl
      rw [eset]
      intro F
      refine CallF.fn (.app .here) (nodes_ok hpl hp hb.lt hlk hak) ?_
      rintro r H2 ⟨rfl, hp2⟩
      intro F
      refine CallF.fn (.app .here) (below_ok hpl _ (Tab.setb a k true) (Nat.le_refl _) (Tab.setb_lt hb.lt hlk) H2 hp2) ?_
      rintro r H3 ⟨rfl, hp3⟩
      have hb1 := lvl_le hpl a k
      have hb2 := B_small hpl (Tab.setb a k true)
      refine Bin.addN (by simp [lim]; omega) ?_
      intro F
      refine CallF.fn (.app .here) (below_ok hpl _ a (Nat.le_refl _) hb.lt H3 hp3) ?_
      rintro r H4 ⟨rfl, hp4⟩
      refine Bin.eqN ?_
      by_cases he : Tab.lvl n L a k + Tab.B n (Tab.lvl n L) (Tab.setb a k true) = Tab.B n (Tab.lvl n L) a
      · rw [decide_eq_true he]
        have hmem : k ∈ Tab.miss n a := Tab.mem_miss.2 ⟨hlk, hak⟩
        have hof := ord_find (f := n - l.length - 1) hmem he hmin
        have hml := Tab.miss_set hmem
        refine Pick.mk (JE.mk (hJ _ _ fun gs => Br.yes ?_))
        refine BuildSl.int (e := 3) (by kernel_rfl) (by kernel_rfl) (by kernel_rfl) fun xb => ?_
        refine IOwn.app (A := [_]) hb.own (by exact .head _) (by simp; omega) (by simp; omega) fun v' C' ho => ?_
        refine Bin.shlN (a := 1) (by simp [IntKind.bits]; omega) (by rw [Nat.one_shiftLeft]; simp [lim]; omega) ?_
        rw [Nat.one_shiftLeft]
        refine Bin.orN (by simp [lim]; omega) (by simp [lim]; omega) ?_
        rw [eset]
        refine Back.of .right ⟨v', Tab.setb a k true, l ++ [k], C', H4, rfl, ⟨by simpa [iw] using ho, Tab.setb_lt hb.lt hlk, by simp; omega, ?_⟩, hp4, rfl⟩ (by rw [nAt_succ, nAt_succ]; show (Tab.miss n (Tab.setb a k true)).length < (Tab.miss n a).length; omega)
        have := hb.pre
        rw [hnf, hof] at this
        rw [List.length_append, List.length_singleton, Nat.sub_add_eq, List.append_assoc]
        exact this
      · rw [decide_eq_false he]
        exact Pick.mk (JE.mk (hno H4 (fun h => he h.2) hp4))
    · obtain ⟨u, h1, h2, _⟩ := Tab.ord_step (c := Tab.lvl n L) (f := 0) hmne
      exact absurd h2 (hmin u h1 (by have := (Tab.mem_miss.1 h1).1; omega))
  · have hll : l.length = n := by omega
    have hl : l = Tab.ord n (Tab.lvl n L) n 0 := by
      have := hb.pre
      rw [hll, Nat.sub_self] at this
      simpa [Tab.ord] using this
    have hown := hb.own
    rw [hl] at hown
    by_cases hne : L = []
    · have hn := hn0 hne
      subst hne
      subst hn
      refine CallF.fn (.app .here) (belowZ_ok (a := 0) (by omega) hp0) ?_
      rintro r H3 ⟨rfl, rfl⟩
      exact ⟨_, _, rfl, .refl _, (by repeat (first | exact Grow.refl _ | apply Grow.cons | apply Grow.app)), .inr ⟨hO, 0, [], rfl, hn0, hn16, hf, .inr ⟨hn12, _, C, (_ :: _ :: _ :: N), rfl, hown, rfl⟩⟩⟩
    · refine CallF.fn (.app .here) (below_ok (hOK hne) _ 0 (Nat.le_refl _) (Nat.two_pow_pos n) _ hp0) ?_
      rintro r H3 ⟨rfl, es3, ck3, es4, ck4, rfl, hM'⟩
      exact ⟨_, _, rfl, .refl _, (by repeat (first | exact Grow.refl _ | apply Grow.cons | apply Grow.app)), .inr ⟨hO, n, L, rfl, hn0, hn16, hf, .inr ⟨hn12, _, C, (_ :: _ :: _ :: N), rfl, hown, rfl⟩⟩⟩

end Go.Proofs
set_option linter.unusedVariables false
set_option linter.unusedSimpArgs false
set_option maxRecDepth 100000
namespace Go.Proofs
open Go Go.Sx
open HpA
abbrev HOi := HO .i64 94 92
abbrev HIi := HI .i64 94 92
theorem ahead_ok (a b : It) (B : Hp) : Rd Try.prog 64 #[.agg #[.int .i64 a.1, .int .i64 a.2], .agg #[.int .i64 b.1, .int .i64 b.2]] B (· = .bool (prec a b)) := by
  intro g
  refine L64_sound (R := FnR _) ?_
  unfold L64
  intro b1 _ b2 _
  (repeat (first | refine Nil.ptr ?_ | refine FAddr.mk ?_ | refine Ld.mk (by repeat (first | assumption | exact List.Mem.head _ | apply List.Mem.tail | apply List.mem_append_right)) rfl ?_ | refine LenS.mk ?_ | refine Bin.eql ?_ | refine Bin.neq ?_ | refine Bin.lss ?_ | refine Bin.leq ?_ | refine Bin.gtr ?_ | refine Bin.geq ?_ | refine Un.not ?_ | refine Ext.mk rfl ?_ | refine Pick.mk ?_ | refine Bin.ptrNil ?_ | refine Bin.mapNil ?_ | refine Bin.nilNil ?_ | refine Br.yes ?_ | refine Br.no ?_))
  refine Grp.or (a.2 == b.2 && decide (a.1 < b.1)) (fun _ => ?_) rfl fun _ => RdR.mk (.skip .tail) rfl
  (repeat (first | refine Nil.ptr ?_ | refine FAddr.mk ?_ | refine Ld.mk (by repeat (first | assumption | exact List.Mem.head _ | apply List.Mem.tail | apply List.mem_append_right)) rfl ?_ | refine LenS.mk ?_ | refine Bin.eql ?_ | refine Bin.neq ?_ | refine Bin.lss ?_ | refine Bin.leq ?_ | refine Bin.gtr ?_ | refine Bin.geq ?_ | refine Un.not ?_ | refine Ext.mk rfl ?_ | refine Pick.mk ?_ | refine Bin.ptrNil ?_ | refine Bin.mapNil ?_ | refine Bin.nilNil ?_ | refine Br.yes ?_ | refine Br.no ?_))
  refine Grp.and (decide (a.1 < b.1)) (fun _ => ?_) rfl fun _ => ⟨rfl, rfl⟩
  (repeat (first | refine Nil.ptr ?_ | refine FAddr.mk ?_ | refine Ld.mk (by repeat (first | assumption | exact List.Mem.head _ | apply List.Mem.tail | apply List.mem_append_right)) rfl ?_ | refine LenS.mk ?_ | refine Bin.eql ?_ | refine Bin.neq ?_ | refine Bin.lss ?_ | refine Bin.leq ?_ | refine Bin.gtr ?_ | refine Bin.geq ?_ | refine Un.not ?_ | refine Ext.mk rfl ?_ | refine Pick.mk ?_ | refine Bin.ptrNil ?_ | refine Bin.mapNil ?_ | refine Bin.nilNil ?_ | refine Br.yes ?_ | refine Br.no ?_))
  exact ⟨rfl, rfl⟩
theorem hput_ok {h : Value} {l : List It} {f : Int → Option Nat} {C : Hp} (ho : HOi h l f C) {i : Nat} (hi : i < l.length) (a : It) :
    Fc Try.prog 49 #[h, .int .i64 (i : Int), .agg #[.int .i64 a.1, .int .i64 a.2]] C (fun v C' => v = .tuple #[] ∧ HOi h (l.set i a) (upf f a.1 (some i)) C') := by
  obtain ⟨bh, la, mb, junk, Cm, rfl, rfl, hall, hm⟩ := ho.open (by omega)
  intro g
  refine L49_sound (R := FnR _) ?_
  unfold L49
  intro b1 _
  refine DR.self ?_
  (repeat (first | refine Nil.ptr ?_ | refine FAddr.mk ?_ | refine Ld.mk (by repeat (first | assumption | exact List.Mem.head _ | apply List.Mem.tail | apply List.mem_append_right)) rfl ?_ | refine LenS.mk ?_ | refine Bin.eql ?_ | refine Bin.neq ?_ | refine Bin.lss ?_ | refine Bin.leq ?_ | refine Bin.gtr ?_ | refine Bin.geq ?_ | refine Un.not ?_ | refine Ext.mk rfl ?_ | refine Pick.mk ?_ | refine Bin.ptrNil ?_ | refine Bin.mapNil ?_ | refine Bin.nilNil ?_ | refine Br.yes ?_ | refine Br.no ?_))
  refine LdA.whole (r := enc .i64 a) (by repeat (first | assumption | exact List.Mem.head _ | apply List.Mem.tail | apply List.mem_append_right)) rfl ?_
  refine IAddr.nat hi ?_
  refine St.row (l := encL .i64 l ++ junk) (by repeat (first | exact Upd.head _ | apply Upd.tail | apply Upd.prepend)) hall (by rw [List.length_append, encL_length]; omega) rfl (enc_one _ _) ?_
  refine DR.self ?_
  (repeat (first | refine Nil.ptr ?_ | refine FAddr.mk ?_ | refine Ld.mk (by repeat (first | assumption | exact List.Mem.head _ | apply List.Mem.tail | apply List.mem_append_right)) rfl ?_ | refine LenS.mk ?_ | refine Bin.eql ?_ | refine Bin.neq ?_ | refine Bin.lss ?_ | refine Bin.leq ?_ | refine Bin.gtr ?_ | refine Bin.geq ?_ | refine Un.not ?_ | refine Ext.mk rfl ?_ | refine Pick.mk ?_ | refine Bin.ptrNil ?_ | refine Bin.mapNil ?_ | refine Bin.nilNil ?_ | refine Br.yes ?_ | refine Br.no ?_))
  rw [← List.append_nil Cm]
  refine MOwn.upd (p := i) (A := [_, _, _]) (B := []) hm fun C' hm' => ?_
  refine ⟨_, _, rfl, .tail, rfl, ?_⟩
  rw [encL_set hi, List.append_nil]
  exact .shut (rows_two hall _ _) (by simp) (by simp) hm'
theorem hup_ok {h : Value} {l : List It} {f : Int → Option Nat} {C : Hp} (ho : HOi h l f C) {i : Nat} (hi : i < l.length) (hmax : l.length < 4611686018427387904) (hu : UpInv l.length (at' l) i) (hc : ConsX l f i) (hO : Once l) :
    Fc Try.prog 48 #[h, .int .i64 (i : Int)] C (fun v C' => v = .tuple #[] ∧ ∃ l' f' p, HOi h l' f' C' ∧ l'.Perm l ∧ Cons l' f' ∧ Exc l'.length (at' l') p ∧ p < l'.length ∧ at' l' p = at' l i ∧
      (ChildOK l.length (at' l) i → Ord l'.length (at' l'))) := by
  obtain ⟨bh, la, mb, junk, Cm, rfl, rfl, hall, hm⟩ := ho.open (by omega)
  obtain ⟨n, hn⟩ : ∃ n, n = l.length := ⟨_, rfl⟩
  obtain ⟨a, ha⟩ : ∃ a, a = at' l i := ⟨_, rfl⟩
  intro g
  refine L48_sound (R := FnR _) ?_
  unfold L48
  (repeat (first | refine Nil.ptr ?_ | refine FAddr.mk ?_ | refine Ld.mk (by repeat (first | assumption | exact List.Mem.head _ | apply List.Mem.tail | apply List.mem_append_right)) rfl ?_ | refine LenS.mk ?_ | refine Bin.eql ?_ | refine Bin.neq ?_ | refine Bin.lss ?_ | refine Bin.leq ?_ | refine Bin.gtr ?_ | refine Bin.geq ?_ | refine Un.not ?_ | refine Ext.mk rfl ?_ | refine Pick.mk ?_ | refine Bin.ptrNil ?_ | refine Bin.mapNil ?_ | refine Bin.nilNil ?_ | refine Br.yes ?_ | refine Br.no ?_))
  refine IAddr.nat hi ?_
  refine LdA.row (l := encL .i64 l ++ junk) (by repeat (first | assumption | exact List.Mem.head _ | apply List.Mem.tail | apply List.mem_append_right)) hall (encL_get hi junk) ?_
  intro b6 _
  refine St.whole (r := enc .i64 (at' l i)) (by repeat (first | exact Upd.head _ | apply Upd.tail | apply Upd.prepend)) rfl rfl (enc_one _ _) ?_
  rw [← ha]
  refine ⟨fun vs H => ∃ (j : Nat) (L : List It) (f : Int → Option Nat) (C : Hp), vs = [.int .i64 (j : Int)] ∧ H = (b6, Obj.cells (enc .i64 a).toArray 94 (0, 0)) :: C ∧ HOi (.pointer (some ⟨bh, 0, none⟩)) L f C ∧ L.length = n ∧ j < n ∧
      (L.set j a).Perm l ∧ UpInv n (at' (L.set j a)) j ∧ ConsX (L.set j a) f j ∧ (ChildOK n (at' l) i → ChildOK n (at' (L.set j a)) j),
    fun vs _ => nAt vs 0, .mk ⟨i, l, f, _, rfl, rfl, ho, hn.symm, by omega, ?_, ?_, ?_, ?_⟩, ?_⟩
  · exact (by rw [ha, set_at hi])
  · rw [ha, set_at hi, hn]; exact hu
  · rw [ha, set_at hi]; exact hc
  · rw [ha, set_at hi]; exact id
  rintro w H ⟨j, L, f, C, hw, rfl, ho, hLn, hj, hp, hu, hc, hch⟩ gs
  simp only [List.cons.injEq, and_true] at hw
  subst hw
  have ho0 := ho
  obtain ⟨bh', la, mb, junk, Cm, hbh, rfl, hall, hm⟩ := ho.open (by omega)
  simp only [Value.pointer.injEq, Option.some.injEq, Addr.mk.injEq, and_true] at hbh
  subst hbh
  have hOV : Once (L.set j a) := hO.perm hp
  have hlV : (L.set j a).length = n := by simp [hLn]
  have hVj : at' (L.set j a) j = a := by rw [at_set a (by omega)]; simp [fset]
  have hVq : 0 < j → at' (L.set j a) ((j - 1) / 2) = at' L ((j - 1) / 2) := fun h0 => by rw [at_set a (by omega)]; simp [fset, show ¬ ((j - 1) / 2 = j) from by omega]
  intro J hJ
  have hend : ¬ (0 < j ∧ prec a (at' L ((j - 1) / 2)) = true) → J [.bool false] ((b6, Obj.cells (enc .i64 a).toArray 94 (0, 0)) :: (bh, Obj.cells #[.slice (some ⟨la, 0, none⟩) L.length (L.length + junk.length), .map (some mb)] 92 (0, 0)) :: (la, .cells (rows (encL .i64 L ++ junk)) 94 (0, 0)) :: Cm) := fun hno => hJ _ _ fun gs => by
    refine Br.no ?_
    refine LdA.whole (r := enc .i64 a) (by repeat (first | assumption | exact List.Mem.head _ | apply List.Mem.tail | apply List.mem_append_right)) rfl ?_
    refine CallF.fn (.cons .here) (hput_ok ho0 (i := j) (by omega) a) ?_
    rintro v C' ⟨rfl, ho'⟩
    have hd := hc.done hOV (by omega)
    rw [hVj] at hd
    have hex := up_done hu (by
      by_cases h0 : j = 0
      · exact .inl h0
      · right
        rw [hVj, hVq (by omega)]
        cases h : prec a (at' L ((j - 1) / 2))
        · rfl
        · exact absurd ⟨by omega, h⟩ hno)
    rw [← hlV] at hex
    exact ⟨_, _, rfl, .tail, rfl, _, _, j, ho', hp, hd, hex, by omega, by rw [hVj, ha], fun hk => exc_child hex (by rw [hlV]; exact hch (by rw [hn]; exact hk))⟩
  refine DR.self ?_
  refine Bin.gtr (Br.dec (fun h0 => ?_) (fun h0 => JE.mk (hend (fun h => h0 (by omega)))))
  have h0 : 0 < j := by omega
  refine LdA.whole (r := enc .i64 a) (by repeat (first | assumption | exact List.Mem.head _ | apply List.Mem.tail | apply List.mem_append_right)) rfl ?_
  (repeat (first | refine Nil.ptr ?_ | refine FAddr.mk ?_ | refine Ld.mk (by repeat (first | assumption | exact List.Mem.head _ | apply List.Mem.tail | apply List.mem_append_right)) rfl ?_ | refine LenS.mk ?_ | refine Bin.eql ?_ | refine Bin.neq ?_ | refine Bin.lss ?_ | refine Bin.leq ?_ | refine Bin.gtr ?_ | refine Bin.geq ?_ | refine Un.not ?_ | refine Ext.mk rfl ?_ | refine Pick.mk ?_ | refine Bin.ptrNil ?_ | refine Bin.mapNil ?_ | refine Bin.nilNil ?_ | refine Br.yes ?_ | refine Br.no ?_))
  refine Bin.sub64 (c := ((j - 1 : Nat) : Int)) (by omega) (by omega) ?_
  refine Bin.quo64 (by decide) (quo2 j h0) (by omega) ?_
  refine IAddr.nat (by omega) ?_
  refine LdA.row (l := encL .i64 L ++ junk) (by repeat (first | assumption | exact List.Mem.head _ | apply List.Mem.tail | apply List.mem_append_right)) hall (encL_get (by omega) junk) ?_
  intro F
  refine CallF.rd .here (ahead_ok a _ _) ?_
  rintro v rfl
  refine ⟨.refl _, ?_⟩
  cases hpr : prec a (at' L ((j - 1) / 2)) with
  | false => exact Pick.mk (JE.mk (hend (fun h => by rw [hpr] at h; exact absurd h.2 (by decide))))
  | true =>
  refine Pick.mk (JE.mk (hJ _ _ fun gs => Br.yes ?_))
  (repeat (first | refine Nil.ptr ?_ | refine FAddr.mk ?_ | refine Ld.mk (by repeat (first | assumption | exact List.Mem.head _ | apply List.Mem.tail | apply List.mem_append_right)) rfl ?_ | refine LenS.mk ?_ | refine Bin.eql ?_ | refine Bin.neq ?_ | refine Bin.lss ?_ | refine Bin.leq ?_ | refine Bin.gtr ?_ | refine Bin.geq ?_ | refine Un.not ?_ | refine Ext.mk rfl ?_ | refine Pick.mk ?_ | refine Bin.ptrNil ?_ | refine Bin.mapNil ?_ | refine Bin.nilNil ?_ | refine Br.yes ?_ | refine Br.no ?_))
  refine Bin.sub64 (c := ((j - 1 : Nat) : Int)) (by omega) (by omega) ?_
  refine Bin.quo64 (by decide) (quo2 j h0) (by omega) ?_
  refine IAddr.nat (by omega) ?_
  refine LdA.row (l := encL .i64 L ++ junk) (by repeat (first | assumption | exact List.Mem.head _ | apply List.Mem.tail | apply List.mem_append_right)) hall (encL_get (by omega) junk) ?_
  refine CallF.fn (.cons .here) (hput_ok ho0 (i := j) (by omega) (at' L ((j - 1) / 2))) ?_
  rintro v C' ⟨rfl, ho'⟩
  refine Bin.sub64 (c := ((j - 1 : Nat) : Int)) (by omega) (by omega) ?_
  refine Bin.quo64 (by decide) (quo2 j h0) (by omega) ?_
  have hst := up_step h0 (by rw [← hlV] at hj; rw [hlV] at hj; exact hj) hu (by rw [hVj, hVq h0]; exact hpr)
  have hcs := hc.step hOV (i := j) (q := (j - 1) / 2) (by omega) (by omega) (by omega)
  have hpp := (swap_perm (l := L.set j a) (i := j) (q := (j - 1) / 2) (by omega) (by omega) (by omega)).trans hp
  have hVV : (L.set j (at' L ((j - 1) / 2))).set ((j - 1) / 2) a = ((L.set j a).set j (at' (L.set j a) ((j - 1) / 2))).set ((j - 1) / 2) (at' (L.set j a) j) := (set_set_at a (by omega) (by omega) (by omega)).symm
  have hat : at' ((L.set j (at' L ((j - 1) / 2))).set ((j - 1) / 2) a) = fset (fset (at' (L.set j a)) j (at' (L.set j a) ((j - 1) / 2))) ((j - 1) / 2) (at' (L.set j a) j) := by
    rw [hVV, at_set _ (by simp; omega), at_set _ (by omega)]
  refine Back.mk ⟨(j - 1) / 2, _, _, C', rfl, rfl, ho', by simp [hLn], by omega, ?_, ?_, ?_, fun _ => ?_⟩ ?_
  · rw [hVV]; exact hpp
  · rw [hat]; exact hst.1
  · rw [hVV]; rw [hVq h0] at hcs ⊢; exact hcs
  · rw [hat]; exact hst.2
  · simp only [nAt, Int.toNat_natCast]; omega

end Go.Proofs
set_option linter.unusedVariables false
set_option linter.unusedSimpArgs false
set_option maxRecDepth 100000
namespace Go.Proofs
open Go Go.Sx
open HpA
theorem hdown_ok {h : Value} {l : List It} {f : Int → Option Nat} {C : Hp} (ho : HOi h l f C) {i : Nat} (hi : i < l.length) (hmax : l.length < 4611686018427387904) (hu : Exc l.length (at' l) i) (hc : ConsX l f i) (hO : Once l) :
    Fc Try.prog 50 #[h, .int .i64 (i : Int)] C (fun v C' => v = .tuple #[] ∧ ∃ l' f', HOi h l' f' C' ∧ l'.Perm l ∧ Cons l' f' ∧ Ord l'.length (at' l')) := by
  obtain ⟨bh, la, mb, junk, Cm, rfl, rfl, hall, hm⟩ := ho.open (by omega)
  obtain ⟨n, hn⟩ : ∃ n, n = l.length := ⟨_, rfl⟩
  obtain ⟨a, ha⟩ : ∃ a, a = at' l i := ⟨_, rfl⟩
  intro g
  refine L50_sound (R := FnR _) ?_
  unfold L50
  (repeat (first | refine Nil.ptr ?_ | refine FAddr.mk ?_ | refine Ld.mk (by repeat (first | assumption | exact List.Mem.head _ | apply List.Mem.tail | apply List.mem_append_right)) rfl ?_ | refine LenS.mk ?_ | refine Bin.eql ?_ | refine Bin.neq ?_ | refine Bin.lss ?_ | refine Bin.leq ?_ | refine Bin.gtr ?_ | refine Bin.geq ?_ | refine Un.not ?_ | refine Ext.mk rfl ?_ | refine Pick.mk ?_ | refine Bin.ptrNil ?_ | refine Bin.mapNil ?_ | refine Bin.nilNil ?_ | refine Br.yes ?_ | refine Br.no ?_))
  refine IAddr.nat hi ?_
  refine LdA.row (l := encL .i64 l ++ junk) (by repeat (first | assumption | exact List.Mem.head _ | apply List.Mem.tail | apply List.mem_append_right)) hall (encL_get hi junk) ?_
  intro b6 _
  refine St.whole (r := enc .i64 (at' l i)) (by repeat (first | exact Upd.head _ | apply Upd.tail | apply Upd.prepend)) rfl rfl (enc_one _ _) ?_
  rw [← ha]
  refine ⟨fun vs H => ∃ (j : Nat) (L : List It) (f : Int → Option Nat) (C : Hp), vs = [.int .i64 (j : Int)] ∧ H = (b6, Obj.cells (enc .i64 a).toArray 94 (0, 0)) :: C ∧ HOi (.pointer (some ⟨bh, 0, none⟩)) L f C ∧ L.length = n ∧ j < n ∧
      (L.set j a).Perm l ∧ Exc n (at' (L.set j a)) j ∧ ConsX (L.set j a) f j,
    fun vs _ => n - nAt vs 0, .mk ⟨i, l, f, _, rfl, rfl, ho, hn.symm, by omega, ?_, ?_, ?_⟩, ?_⟩
  · exact (by rw [ha, set_at hi])
  · rw [ha, set_at hi, hn]; exact hu
  · rw [ha, set_at hi]; exact hc
  rintro w H ⟨j, L, f, C, hw, rfl, ho, hLn, hj, hp, hu, hc⟩ gs
  simp only [List.cons.injEq, and_true] at hw
  subst hw
  have ho0 := ho
  obtain ⟨bh', la, mb, junk, Cm, hbh, rfl, hall, hm⟩ := ho.open (by omega)
  simp only [Value.pointer.injEq, Option.some.injEq, Addr.mk.injEq, and_true] at hbh
  subst hbh
  have hOV : Once (L.set j a) := hO.perm hp
  have hlV : (L.set j a).length = n := by simp [hLn]
  have hVj : at' (L.set j a) j = a := by rw [at_set a (by omega)]; simp [fset]
  have hVL : ∀ c, c ≠ j → at' (L.set j a) c = at' L c := fun c h0 => by rw [at_set a (by omega)]; simp [fset, h0]
  refine Bin.mul64 (c := ((2 * j : Nat) : Int)) (by omega) (by omega) ?_
  refine Bin.add64 (c := ((2 * j + 1 : Nat) : Int)) (by omega) (by omega) ?_
  intro J hJ
  obtain ⟨c, hcd⟩ : ∃ c, c = kid n (at' (L.set j a)) j := ⟨_, rfl⟩
  have hkc := kid_cases n (at' (L.set j a)) j
  rw [← hcd] at hkc
  have hrest : J [.int .i64 (c : Int)] ((b6, Obj.cells (enc .i64 a).toArray 94 (0, 0)) :: (bh, Obj.cells #[.slice (some ⟨la, 0, none⟩) L.length (L.length + junk.length), .map (some mb)] 92 (0, 0)) :: (la, .cells (rows (encL .i64 L ++ junk)) 94 (0, 0)) :: Cm) := by
    refine hJ _ _ fun gs2 => ?_
    intro J2 hJ2
    have hstop : n ≤ c ∨ prec (at' L c) a = false → J2 [.bool true] ((b6, Obj.cells (enc .i64 a).toArray 94 (0, 0)) :: (bh, Obj.cells #[.slice (some ⟨la, 0, none⟩) L.length (L.length + junk.length), .map (some mb)] 92 (0, 0)) :: (la, .cells (rows (encL .i64 L ++ junk)) 94 (0, 0)) :: Cm) := fun hst => hJ2 _ _ fun gs => by
      refine Br.yes ?_
      refine LdA.whole (r := enc .i64 a) (by repeat (first | assumption | exact List.Mem.head _ | apply List.Mem.tail | apply List.mem_append_right)) rfl ?_
      refine CallF.fn (.cons .here) (hput_ok ho0 (i := j) (by omega) a) ?_
      rintro v C' ⟨rfl, ho'⟩
      have hd := hc.done hOV (by omega)
      rw [hVj] at hd
      have hex := down_done hu (by
        rw [← hcd]
        by_cases h0 : n ≤ c
        · exact .inl h0
        · right
          rw [hVj, hVL c (by omega)]
          rcases hst with h | h
          · omega
          · exact h)
      rw [← hlV] at hex
      exact ⟨_, _, rfl, .tail, rfl, _, _, ho', hp, hd, hex⟩
    refine DR.self ?_
    (repeat (first | refine Nil.ptr ?_ | refine FAddr.mk ?_ | refine Ld.mk (by repeat (first | assumption | exact List.Mem.head _ | apply List.Mem.tail | apply List.mem_append_right)) rfl ?_ | refine LenS.mk ?_ | refine Bin.eql ?_ | refine Bin.neq ?_ | refine Bin.lss ?_ | refine Bin.leq ?_ | refine Bin.gtr ?_ | refine Bin.geq ?_ | refine Un.not ?_ | refine Ext.mk rfl ?_ | refine Pick.mk ?_ | refine Bin.ptrNil ?_ | refine Bin.mapNil ?_ | refine Bin.nilNil ?_ | refine Br.yes ?_ | refine Br.no ?_))
    refine Br.dec (fun h0 => JE.mk (hstop (.inl (by omega)))) (fun h0 => ?_)
    have h0 : c < n := by omega
    (repeat (first | refine Nil.ptr ?_ | refine FAddr.mk ?_ | refine Ld.mk (by repeat (first | assumption | exact List.Mem.head _ | apply List.Mem.tail | apply List.mem_append_right)) rfl ?_ | refine LenS.mk ?_ | refine Bin.eql ?_ | refine Bin.neq ?_ | refine Bin.lss ?_ | refine Bin.leq ?_ | refine Bin.gtr ?_ | refine Bin.geq ?_ | refine Un.not ?_ | refine Ext.mk rfl ?_ | refine Pick.mk ?_ | refine Bin.ptrNil ?_ | refine Bin.mapNil ?_ | refine Bin.nilNil ?_ | refine Br.yes ?_ | refine Br.no ?_))
    refine IAddr.nat (by omega) ?_
    refine LdA.row (l := encL .i64 L ++ junk) (by repeat (first | assumption | exact List.Mem.head _ | apply List.Mem.tail | apply List.mem_append_right)) hall (encL_get (by omega) junk) ?_
    refine LdA.whole (r := enc .i64 a) (by repeat (first | assumption | exact List.Mem.head _ | apply List.Mem.tail | apply List.mem_append_right)) rfl ?_
    intro F
    refine CallF.rd .here (ahead_ok _ a _) ?_
    rintro v rfl
    refine ⟨.refl _, Un.not ?_⟩
    cases hpr : prec (at' L c) a with
    | false => exact Pick.mk (JE.mk (hstop (.inr hpr)))
    | true =>
    refine Pick.mk (JE.mk (hJ2 _ _ fun gs => Br.no ?_))
    (repeat (first | refine Nil.ptr ?_ | refine FAddr.mk ?_ | refine Ld.mk (by repeat (first | assumption | exact List.Mem.head _ | apply List.Mem.tail | apply List.mem_append_right)) rfl ?_ | refine LenS.mk ?_ | refine Bin.eql ?_ | refine Bin.neq ?_ | refine Bin.lss ?_ | refine Bin.leq ?_ | refine Bin.gtr ?_ | refine Bin.geq ?_ | refine Un.not ?_ | refine Ext.mk rfl ?_ | refine Pick.mk ?_ | refine Bin.ptrNil ?_ | refine Bin.mapNil ?_ | refine Bin.nilNil ?_ | refine Br.yes ?_ | refine Br.no ?_))
    refine IAddr.nat (by omega) ?_
    refine LdA.row (l := encL .i64 L ++ junk) (by repeat (first | assumption | exact List.Mem.head _ | apply List.Mem.tail | apply List.mem_append_right)) hall (encL_get (by omega) junk) ?_
    refine CallF.fn (.cons .here) (hput_ok ho0 (i := j) (by omega) (at' L c)) ?_
    rintro v C' ⟨rfl, ho'⟩
    have hcj : c ≠ j := by omega
    have hst := down_step hu (by rw [← hcd]; exact h0) (by rw [← hcd, hVj, hVL c hcj]; exact hpr)
    rw [← hcd] at hst
    have hcs := hc.step hOV (i := j) (q := c) (by omega) (by omega) hcj
    have hpp := (swap_perm (l := L.set j a) (i := j) (q := c) (by omega) (by omega) hcj).trans hp
    have hVV : (L.set j (at' L c)).set c a = ((L.set j a).set j (at' (L.set j a) c)).set c (at' (L.set j a) j) := (set_set_at a (by omega) (by omega) hcj).symm
    have hat : at' ((L.set j (at' L c)).set c a) = fset (fset (at' (L.set j a)) j (at' (L.set j a) c)) c (at' (L.set j a) j) := by
      rw [hVV, at_set _ (by simp; omega), at_set _ (by omega)]
    refine Back.mk ⟨c, _, _, C', rfl, rfl, ho', by simp [hLn], by omega, ?_, ?_, ?_⟩ ?_
    · rw [hVV]; exact hpp
    · rw [hat]; exact hst
    · rw [hVV]; rw [hVL c hcj] at hcs ⊢; exact hcs
    · simp only [nAt, Int.toNat_natCast]; omega
  intro J3 hJ3
  have hkd : kid n (at' (L.set j a)) j = if (decide (2 * j + 1 + 1 < n) && prec (at' L (2 * j + 1 + 1)) (at' L (2 * j + 1))) = true then 2 * j + 1 + 1 else 2 * j + 1 := by
    unfold kid; rw [hVL _ (by omega), hVL _ (by omega)]
  rw [hkd] at hcd
  have hno : ¬ (2 * j + 1 + 1 < n ∧ prec (at' L (2 * j + 1 + 1)) (at' L (2 * j + 1)) = true) → J3 [.bool false] ((b6, Obj.cells (enc .i64 a).toArray 94 (0, 0)) :: (bh, Obj.cells #[.slice (some ⟨la, 0, none⟩) L.length (L.length + junk.length), .map (some mb)] 92 (0, 0)) :: (la, .cells (rows (encL .i64 L ++ junk)) 94 (0, 0)) :: Cm) := fun hx => hJ3 _ _ fun gs => by
    rw [if_neg (by simpa using hx)] at hcd
    rw [hcd] at hrest
    exact Br.no (.mk hrest)
  refine DR.self ?_
  refine Bin.add64 (c := ((2 * j + 1 + 1 : Nat) : Int)) (by omega) (by omega) ?_
  (repeat (first | refine Nil.ptr ?_ | refine FAddr.mk ?_ | refine Ld.mk (by repeat (first | assumption | exact List.Mem.head _ | apply List.Mem.tail | apply List.mem_append_right)) rfl ?_ | refine LenS.mk ?_ | refine Bin.eql ?_ | refine Bin.neq ?_ | refine Bin.lss ?_ | refine Bin.leq ?_ | refine Bin.gtr ?_ | refine Bin.geq ?_ | refine Un.not ?_ | refine Ext.mk rfl ?_ | refine Pick.mk ?_ | refine Bin.ptrNil ?_ | refine Bin.mapNil ?_ | refine Bin.nilNil ?_ | refine Br.yes ?_ | refine Br.no ?_))
  refine Br.dec (fun h0 => ?_) (fun h0 => JE.mk (hno (fun h => h0 (by omega))))
  have h0 : 2 * j + 1 + 1 < n := by omega
  (repeat (first | refine Nil.ptr ?_ | refine FAddr.mk ?_ | refine Ld.mk (by repeat (first | assumption | exact List.Mem.head _ | apply List.Mem.tail | apply List.mem_append_right)) rfl ?_ | refine LenS.mk ?_ | refine Bin.eql ?_ | refine Bin.neq ?_ | refine Bin.lss ?_ | refine Bin.leq ?_ | refine Bin.gtr ?_ | refine Bin.geq ?_ | refine Un.not ?_ | refine Ext.mk rfl ?_ | refine Pick.mk ?_ | refine Bin.ptrNil ?_ | refine Bin.mapNil ?_ | refine Bin.nilNil ?_ | refine Br.yes ?_ | refine Br.no ?_))
  refine Bin.add64 (c := ((2 * j + 1 + 1 : Nat) : Int)) (by omega) (by omega) ?_
  refine IAddr.nat (by omega) ?_
  refine LdA.row (l := encL .i64 L ++ junk) (by repeat (first | assumption | exact List.Mem.head _ | apply List.Mem.tail | apply List.mem_append_right)) hall (encL_get (by omega) junk) ?_
  (repeat (first | refine Nil.ptr ?_ | refine FAddr.mk ?_ | refine Ld.mk (by repeat (first | assumption | exact List.Mem.head _ | apply List.Mem.tail | apply List.mem_append_right)) rfl ?_ | refine LenS.mk ?_ | refine Bin.eql ?_ | refine Bin.neq ?_ | refine Bin.lss ?_ | refine Bin.leq ?_ | refine Bin.gtr ?_ | refine Bin.geq ?_ | refine Un.not ?_ | refine Ext.mk rfl ?_ | refine Pick.mk ?_ | refine Bin.ptrNil ?_ | refine Bin.mapNil ?_ | refine Bin.nilNil ?_ | refine Br.yes ?_ | refine Br.no ?_))
  refine IAddr.nat (by omega) ?_
  refine LdA.row (l := encL .i64 L ++ junk) (by repeat (first | assumption | exact List.Mem.head _ | apply List.Mem.tail | apply List.mem_append_right)) hall (encL_get (by omega) junk) ?_
  intro F
  refine CallF.rd .here (ahead_ok _ _ _) ?_
  rintro v rfl
  refine ⟨.refl _, ?_⟩
  cases hpr : prec (at' L (2 * j + 1 + 1)) (at' L (2 * j + 1)) with
  | false => exact Pick.mk (JE.mk (hno (fun h => by rw [hpr] at h; exact absurd h.2 (by decide))))
  | true =>
  refine Pick.mk (JE.mk (hJ3 _ _ fun gs => Br.yes ?_))
  refine Bin.add64 (c := ((2 * j + 1 + 1 : Nat) : Int)) (by omega) (by omega) ?_
  rw [if_pos (by simp [h0, hpr])] at hcd
  rw [hcd] at hrest
  exact .mk hrest

end Go.Proofs
set_option linter.unusedVariables false
set_option linter.unusedSimpArgs false
set_option maxRecDepth 100000
namespace Go.Proofs
open Go Go.Sx
open HpA
theorem hnew_ok (B : Hp) : Fc Try.prog 32 #[] B (fun v H => ∃ b C, v = .pointer (some ⟨b, 0, none⟩) ∧ H = C ++ B ∧ HIi (.pointer (some ⟨b, 0, none⟩)) [] C) := by
  intro g
  refine L32_sound (R := FnR _) ?_
  unfold L32
  refine Build.mk (cs := [.slice none 0 0, .map none]) (by kernel_rfl) ?_
  intro b _
  exact ⟨_, _, rfl, .refl _, b, [_], rfl, rfl, fun _ => none, ⟨b, _, _, [], [], rfl, rfl, SOwn.nil _ _, .inl ⟨rfl, rfl, rfl⟩, fun _ => rfl⟩, ⟨fun j hj => by simp at hj, fun _ _ => rfl⟩, fun j _ hj => by simp at hj, by simp [Once]⟩
theorem hkey_ok {h : Value} {l : List It} {C : Hp} (hi : HIi h l C) (x : Int) :
    Rd Try.prog 35 #[h, .int .i64 x] C (fun v => (x ∉ l.map Prod.fst ∧ v = .tuple #[.int .i64 0, .int .i64 10]) ∨ ∃ k, (x, k) ∈ l ∧ v = .tuple #[.int .i64 k, .int .i64 0]) := by
  obtain ⟨f, ho, hc, _, _⟩ := hi
  intro g
  refine L35_sound (R := FnR _) ?_
  unfold L35
  rcases cons_get hc (x := x) with ⟨h1, h2⟩ | ⟨i, hi, h1, h2⟩
  · obtain ⟨bh, sv, mv, Cs, Cm, rfl, rfl, hs, hm, hne⟩ := ho
    (repeat (first | refine Nil.ptr ?_ | refine FAddr.mk ?_ | refine Ld.mk (by repeat (first | assumption | exact List.Mem.head _ | apply List.Mem.tail | apply List.mem_append_right)) rfl ?_ | refine LenS.mk ?_ | refine Bin.eql ?_ | refine Bin.neq ?_ | refine Bin.lss ?_ | refine Bin.leq ?_ | refine Bin.gtr ?_ | refine Bin.geq ?_ | refine Un.not ?_ | refine Ext.mk rfl ?_ | refine Pick.mk ?_ | refine Bin.ptrNil ?_ | refine Bin.mapNil ?_ | refine Bin.nilNil ?_ | refine Br.yes ?_ | refine Br.no ?_))
    refine hm.look_none (fun _ h => by repeat (first | exact h | apply List.mem_cons_of_mem | apply List.mem_append_right)) h2 ?_
    (repeat (first | refine Nil.ptr ?_ | refine FAddr.mk ?_ | refine Ld.mk (by repeat (first | assumption | exact List.Mem.head _ | apply List.Mem.tail | apply List.mem_append_right)) rfl ?_ | refine LenS.mk ?_ | refine Bin.eql ?_ | refine Bin.neq ?_ | refine Bin.lss ?_ | refine Bin.leq ?_ | refine Bin.gtr ?_ | refine Bin.geq ?_ | refine Un.not ?_ | refine Ext.mk rfl ?_ | refine Pick.mk ?_ | refine Bin.ptrNil ?_ | refine Bin.mapNil ?_ | refine Bin.nilNil ?_ | refine Br.yes ?_ | refine Br.no ?_))
    exact RdR.mk (.refl _) (.inl ⟨h1, rfl⟩)
  · obtain ⟨bh, la, mb, junk, Cm, rfl, rfl, hall, hm⟩ := ho.open (by omega)
    (repeat (first | refine Nil.ptr ?_ | refine FAddr.mk ?_ | refine Ld.mk (by repeat (first | assumption | exact List.Mem.head _ | apply List.Mem.tail | apply List.mem_append_right)) rfl ?_ | refine LenS.mk ?_ | refine Bin.eql ?_ | refine Bin.neq ?_ | refine Bin.lss ?_ | refine Bin.leq ?_ | refine Bin.gtr ?_ | refine Bin.geq ?_ | refine Un.not ?_ | refine Ext.mk rfl ?_ | refine Pick.mk ?_ | refine Bin.ptrNil ?_ | refine Bin.mapNil ?_ | refine Bin.nilNil ?_ | refine Br.yes ?_ | refine Br.no ?_))
    refine hm.look_some (fun _ h => by repeat (first | exact h | apply List.mem_cons_of_mem | apply List.mem_append_right)) h2 ?_
    (repeat (first | refine Nil.ptr ?_ | refine FAddr.mk ?_ | refine Ld.mk (by repeat (first | assumption | exact List.Mem.head _ | apply List.Mem.tail | apply List.mem_append_right)) rfl ?_ | refine LenS.mk ?_ | refine Bin.eql ?_ | refine Bin.neq ?_ | refine Bin.lss ?_ | refine Bin.leq ?_ | refine Bin.gtr ?_ | refine Bin.geq ?_ | refine Un.not ?_ | refine Ext.mk rfl ?_ | refine Pick.mk ?_ | refine Bin.ptrNil ?_ | refine Bin.mapNil ?_ | refine Bin.nilNil ?_ | refine Br.yes ?_ | refine Br.no ?_))
    refine IAddr.nat hi ?_
    (repeat (first | refine Nil.ptr ?_ | refine FAddr.mk ?_ | refine Ld.mk (by repeat (first | assumption | exact List.Mem.head _ | apply List.Mem.tail | apply List.mem_append_right)) rfl ?_ | refine LenS.mk ?_ | refine Bin.eql ?_ | refine Bin.neq ?_ | refine Bin.lss ?_ | refine Bin.leq ?_ | refine Bin.gtr ?_ | refine Bin.geq ?_ | refine Un.not ?_ | refine Ext.mk rfl ?_ | refine Pick.mk ?_ | refine Bin.ptrNil ?_ | refine Bin.mapNil ?_ | refine Bin.nilNil ?_ | refine Br.yes ?_ | refine Br.no ?_))
    refine Ld.row (l := encL .i64 l ++ junk) (j := 1) (by repeat (first | assumption | exact List.Mem.head _ | apply List.Mem.tail | apply List.mem_append_right)) hall (encL_get hi junk) rfl ?_
    refine RdR.mk (.refl _) (.inr ⟨_, ?_, rfl⟩)
    have := at_some hi
    rw [← h1]; exact List.mem_of_getElem? this
theorem hpush_ok {h : Value} {l : List It} {C : Hp} (hi : HIi h l C) (hmax : l.length < 4398046511104) (x k : Int) :
    Fc Try.prog 33 #[h, .int .i64 x, .int .i64 k] C (fun v C' => ∃ l', HIi h l' C' ∧
      ((x ∈ l.map Prod.fst ∧ v = .int .i64 11 ∧ l' = l) ∨ (x ∉ l.map Prod.fst ∧ v = .int .i64 0 ∧ l'.Perm ((x, k) :: l)))) := by
  have hi0 := hi
  obtain ⟨f, ho, hc, hO, h1⟩ := hi
  have ho0 := ho
  obtain ⟨bh, sv, mv, Cs, Cm, rfl, rfl, hs, hm, hne⟩ := ho
  intro g
  refine L33_sound (R := FnR _) ?_
  unfold L33
  (repeat (first | refine Nil.ptr ?_ | refine FAddr.mk ?_ | refine Ld.mk (by repeat (first | assumption | exact List.Mem.head _ | apply List.Mem.tail | apply List.mem_append_right)) rfl ?_ | refine LenS.mk ?_ | refine Bin.eql ?_ | refine Bin.neq ?_ | refine Bin.lss ?_ | refine Bin.leq ?_ | refine Bin.gtr ?_ | refine Bin.geq ?_ | refine Un.not ?_ | refine Ext.mk rfl ?_ | refine Pick.mk ?_ | refine Bin.ptrNil ?_ | refine Bin.mapNil ?_ | refine Bin.nilNil ?_ | refine Br.yes ?_ | refine Br.no ?_))
  rcases cons_get hc (x := x) with ⟨hx, hf⟩ | ⟨i, hi, hx, hf⟩
  · refine hm.look_none (fun _ h => by repeat (first | exact h | apply List.mem_cons_of_mem | apply List.mem_append_right)) hf ?_
    (repeat (first | refine Nil.ptr ?_ | refine FAddr.mk ?_ | refine Ld.mk (by repeat (first | assumption | exact List.Mem.head _ | apply List.Mem.tail | apply List.mem_append_right)) rfl ?_ | refine LenS.mk ?_ | refine Bin.eql ?_ | refine Bin.neq ?_ | refine Bin.lss ?_ | refine Bin.leq ?_ | refine Bin.gtr ?_ | refine Bin.geq ?_ | refine Un.not ?_ | refine Ext.mk rfl ?_ | refine Pick.mk ?_ | refine Bin.ptrNil ?_ | refine Bin.mapNil ?_ | refine Bin.nilNil ?_ | refine Br.yes ?_ | refine Br.no ?_))
    intro J hJ
    obtain ⟨hp1, hp2, hp3, hp4⟩ := push_pre (a := (x, k)) hc hO h1 hx
    have hrest : ∀ mb Cm', MOwn .i64 idx (.map (some mb)) f Cm' → J [] ((bh, Obj.cells #[sv, .map (some mb)] 92 (0, 0)) :: (Cs ++ Cm')) := by
      intro mb Cm' hm'
      refine hJ _ fun gs => ?_
      (repeat (first | refine Nil.ptr ?_ | refine FAddr.mk ?_ | refine Ld.mk (by repeat (first | assumption | exact List.Mem.head _ | apply List.Mem.tail | apply List.mem_append_right)) rfl ?_ | refine LenS.mk ?_ | refine Bin.eql ?_ | refine Bin.neq ?_ | refine Bin.lss ?_ | refine Bin.leq ?_ | refine Bin.gtr ?_ | refine Bin.geq ?_ | refine Un.not ?_ | refine Ext.mk rfl ?_ | refine Pick.mk ?_ | refine Bin.ptrNil ?_ | refine Bin.mapNil ?_ | refine Bin.nilNil ?_ | refine Br.yes ?_ | refine Br.no ?_))
      refine Build.mk (cs := enc .i64 (x, k)) (by kernel_rfl) ?_
      refine BuildSl.one (k := 2) (e := 94) (z := .agg #[.int .i64 0, .int .i64 0]) (by kernel_rfl) (by kernel_rfl) (by kernel_rfl) (by decide) rfl fun xb => ?_
      refine hs.app' (A := [_, _]) (B := Cm') (r := enc .i64 (x, k)) (by repeat (first | assumption | exact List.Mem.head _ | apply List.Mem.tail | apply List.mem_append_right)) rfl (enc_one _ _) ⟨[.int .i64 0, .int .i64 0], rfl, rfl⟩ (by rw [encL_length]; omega) (by rw [encL_length]; omega) fun v' C' hs' => ?_
      (repeat (first | refine Nil.ptr ?_ | refine FAddr.mk ?_ | refine Ld.mk (by repeat (first | assumption | exact List.Mem.head _ | apply List.Mem.tail | apply List.mem_append_right)) rfl ?_ | refine LenS.mk ?_ | refine Bin.eql ?_ | refine Bin.neq ?_ | refine Bin.lss ?_ | refine Bin.leq ?_ | refine Bin.gtr ?_ | refine Bin.geq ?_ | refine Un.not ?_ | refine Ext.mk rfl ?_ | refine Pick.mk ?_ | refine Bin.ptrNil ?_ | refine Bin.mapNil ?_ | refine Bin.nilNil ?_ | refine Br.yes ?_ | refine Br.no ?_))
      refine St.one (by repeat (first | exact Upd.head _ | apply Upd.tail | apply Upd.prepend)) (by obtain ⟨a, c, rfl⟩ := hs'.len; rfl) (by simp) rfl ?_
      (repeat (first | refine Nil.ptr ?_ | refine FAddr.mk ?_ | refine Ld.mk (by repeat (first | assumption | exact List.Mem.head _ | apply List.Mem.tail | apply List.mem_append_right)) rfl ?_ | refine LenS.mk ?_ | refine Bin.eql ?_ | refine Bin.neq ?_ | refine Bin.lss ?_ | refine Bin.leq ?_ | refine Bin.gtr ?_ | refine Bin.geq ?_ | refine Un.not ?_ | refine Ext.mk rfl ?_ | refine Pick.mk ?_ | refine Bin.ptrNil ?_ | refine Bin.mapNil ?_ | refine Bin.nilNil ?_ | refine Br.yes ?_ | refine Br.no ?_))
      refine hs'.lenS ?_
      refine Bin.sub64 (c := ((l.length : Nat) : Int)) (by rw [List.length_append, encL_length]; simp) (by omega) ?_
      have hs2 : SOwn 94 2 v' (encL .i64 (l ++ [(x, k)])) C' := by simpa [encL] using hs'
      have ho' : HOi (.pointer (some ⟨bh, 0, none⟩)) (l ++ [(x, k)]) f ((bh, Obj.cells #[v', .map (some mb)] 92 (0, 0)) :: (C' ++ Cm')) :=
        ⟨bh, _, _, C', Cm', rfl, rfl, hs2, hm', fun h => by simp at h⟩
      refine CallF.pre (.tail) ?_
      refine CallF.fn .here (hup_ok ho' (i := l.length) (by simp) (by simp; omega) hp1 hp2 hp3) ?_
      rintro v C'' ⟨rfl, l', f', p, ho2, hperm, hc2, hex, hp, hat, hord⟩
      refine ⟨_, _, rfl, .refl _, l', ⟨f', ho2, hc2, hord hp4, hp3.perm hperm⟩, .inr ⟨hx, rfl, hperm.trans ?_⟩⟩
      exact List.perm_append_comm (l₁ := l) (l₂ := [(x, k)])
    (repeat (first | refine Nil.ptr ?_ | refine FAddr.mk ?_ | refine Ld.mk (by repeat (first | assumption | exact List.Mem.head _ | apply List.Mem.tail | apply List.mem_append_right)) rfl ?_ | refine LenS.mk ?_ | refine Bin.eql ?_ | refine Bin.neq ?_ | refine Bin.lss ?_ | refine Bin.leq ?_ | refine Bin.gtr ?_ | refine Bin.geq ?_ | refine Un.not ?_ | refine Ext.mk rfl ?_ | refine Pick.mk ?_ | refine Bin.ptrNil ?_ | refine Bin.mapNil ?_ | refine Bin.nilNil ?_ | refine Br.yes ?_ | refine Br.no ?_))
    rcases hm with ⟨rfl, rfl, hfn⟩ | ⟨mb, m, ck, rfl, h2⟩
    · (repeat (first | refine Nil.ptr ?_ | refine FAddr.mk ?_ | refine Ld.mk (by repeat (first | assumption | exact List.Mem.head _ | apply List.Mem.tail | apply List.mem_append_right)) rfl ?_ | refine LenS.mk ?_ | refine Bin.eql ?_ | refine Bin.neq ?_ | refine Bin.lss ?_ | refine Bin.leq ?_ | refine Bin.gtr ?_ | refine Bin.geq ?_ | refine Un.not ?_ | refine Ext.mk rfl ?_ | refine Pick.mk ?_ | refine Bin.ptrNil ?_ | refine Bin.mapNil ?_ | refine Bin.nilNil ?_ | refine Br.yes ?_ | refine Br.no ?_))
      intro mb _
      (repeat (first | refine Nil.ptr ?_ | refine FAddr.mk ?_ | refine Ld.mk (by repeat (first | assumption | exact List.Mem.head _ | apply List.Mem.tail | apply List.mem_append_right)) rfl ?_ | refine LenS.mk ?_ | refine Bin.eql ?_ | refine Bin.neq ?_ | refine Bin.lss ?_ | refine Bin.leq ?_ | refine Bin.gtr ?_ | refine Bin.geq ?_ | refine Un.not ?_ | refine Ext.mk rfl ?_ | refine Pick.mk ?_ | refine Bin.ptrNil ?_ | refine Bin.mapNil ?_ | refine Bin.nilNil ?_ | refine Br.yes ?_ | refine Br.no ?_))
      refine St.one (by repeat (first | exact Upd.head _ | apply Upd.tail | apply Upd.prepend)) rfl (by simp) rfl ?_
      refine JE.of ?_ (hrest mb _ (by rw [hfn]; exact MOwn.made mb))
      simp only [List.append_nil]
      refine .perm ?_
      refine (List.Perm.swap _ _ _).trans (.cons _ ?_)
      exact List.perm_append_comm (l₁ := [_])
    · (repeat (first | refine Nil.ptr ?_ | refine FAddr.mk ?_ | refine Ld.mk (by repeat (first | assumption | exact List.Mem.head _ | apply List.Mem.tail | apply List.mem_append_right)) rfl ?_ | refine LenS.mk ?_ | refine Bin.eql ?_ | refine Bin.neq ?_ | refine Bin.lss ?_ | refine Bin.leq ?_ | refine Bin.gtr ?_ | refine Bin.geq ?_ | refine Un.not ?_ | refine Ext.mk rfl ?_ | refine Pick.mk ?_ | refine Bin.ptrNil ?_ | refine Bin.mapNil ?_ | refine Bin.nilNil ?_ | refine Br.yes ?_ | refine Br.no ?_))
      refine JE.mk ?_
      exact hrest mb Cm (.inr ⟨mb, m, ck, rfl, h2⟩)
  · refine hm.look_some (fun _ h => by repeat (first | exact h | apply List.mem_cons_of_mem | apply List.mem_append_right)) hf ?_
    (repeat (first | refine Nil.ptr ?_ | refine FAddr.mk ?_ | refine Ld.mk (by repeat (first | assumption | exact List.Mem.head _ | apply List.Mem.tail | apply List.mem_append_right)) rfl ?_ | refine LenS.mk ?_ | refine Bin.eql ?_ | refine Bin.neq ?_ | refine Bin.lss ?_ | refine Bin.leq ?_ | refine Bin.gtr ?_ | refine Bin.geq ?_ | refine Un.not ?_ | refine Ext.mk rfl ?_ | refine Pick.mk ?_ | refine Bin.ptrNil ?_ | refine Bin.mapNil ?_ | refine Bin.nilNil ?_ | refine Br.yes ?_ | refine Br.no ?_))
    refine ⟨_, _, rfl, .refl _, l, hi0, .inl ⟨?_, rfl, rfl⟩⟩
    rw [mem_things]; exact ⟨i, hi, hx⟩
theorem hmove_ok {h : Value} {l : List It} {C : Hp} (hi : HIi h l C) (hmax : l.length < 4398046511104) (x k : Int) :
    Fc Try.prog 36 #[h, .int .i64 x, .int .i64 k] C (fun v C' => ∃ l', HIi h l' C' ∧
      ((x ∉ l.map Prod.fst ∧ v = .int .i64 10 ∧ l' = l) ∨ (∃ k0 r, l.Perm ((x, k0) :: r) ∧ l'.Perm ((x, k) :: r) ∧ v = .int .i64 0))) := by
  have hi0 := hi
  obtain ⟨f, ho, hc, hO, h1⟩ := hi
  intro g
  refine L36_sound (R := FnR _) ?_
  unfold L36
  rcases cons_get hc (x := x) with ⟨hx, hf⟩ | ⟨i, hi, hx, hf⟩
  · obtain ⟨bh, sv, mv, Cs, Cm, rfl, rfl, hs, hm, hne⟩ := ho
    (repeat (first | refine Nil.ptr ?_ | refine FAddr.mk ?_ | refine Ld.mk (by repeat (first | assumption | exact List.Mem.head _ | apply List.Mem.tail | apply List.mem_append_right)) rfl ?_ | refine LenS.mk ?_ | refine Bin.eql ?_ | refine Bin.neq ?_ | refine Bin.lss ?_ | refine Bin.leq ?_ | refine Bin.gtr ?_ | refine Bin.geq ?_ | refine Un.not ?_ | refine Ext.mk rfl ?_ | refine Pick.mk ?_ | refine Bin.ptrNil ?_ | refine Bin.mapNil ?_ | refine Bin.nilNil ?_ | refine Br.yes ?_ | refine Br.no ?_))
    refine hm.look_none (fun _ h => by repeat (first | exact h | apply List.mem_cons_of_mem | apply List.mem_append_right)) hf ?_
    (repeat (first | refine Nil.ptr ?_ | refine FAddr.mk ?_ | refine Ld.mk (by repeat (first | assumption | exact List.Mem.head _ | apply List.Mem.tail | apply List.mem_append_right)) rfl ?_ | refine LenS.mk ?_ | refine Bin.eql ?_ | refine Bin.neq ?_ | refine Bin.lss ?_ | refine Bin.leq ?_ | refine Bin.gtr ?_ | refine Bin.geq ?_ | refine Un.not ?_ | refine Ext.mk rfl ?_ | refine Pick.mk ?_ | refine Bin.ptrNil ?_ | refine Bin.mapNil ?_ | refine Bin.nilNil ?_ | refine Br.yes ?_ | refine Br.no ?_))
    exact ⟨_, _, rfl, .refl _, l, hi0, .inl ⟨hx, rfl, rfl⟩⟩
  · obtain ⟨bh, la, mb, junk, Cm, rfl, rfl, hall, hm⟩ := ho.open (by omega)
    (repeat (first | refine Nil.ptr ?_ | refine FAddr.mk ?_ | refine Ld.mk (by repeat (first | assumption | exact List.Mem.head _ | apply List.Mem.tail | apply List.mem_append_right)) rfl ?_ | refine LenS.mk ?_ | refine Bin.eql ?_ | refine Bin.neq ?_ | refine Bin.lss ?_ | refine Bin.leq ?_ | refine Bin.gtr ?_ | refine Bin.geq ?_ | refine Un.not ?_ | refine Ext.mk rfl ?_ | refine Pick.mk ?_ | refine Bin.ptrNil ?_ | refine Bin.mapNil ?_ | refine Bin.nilNil ?_ | refine Br.yes ?_ | refine Br.no ?_))
    refine hm.look_some (fun _ h => by repeat (first | exact h | apply List.mem_cons_of_mem | apply List.mem_append_right)) hf ?_
    (repeat (first | refine Nil.ptr ?_ | refine FAddr.mk ?_ | refine Ld.mk (by repeat (first | assumption | exact List.Mem.head _ | apply List.Mem.tail | apply List.mem_append_right)) rfl ?_ | refine LenS.mk ?_ | refine Bin.eql ?_ | refine Bin.neq ?_ | refine Bin.lss ?_ | refine Bin.leq ?_ | refine Bin.gtr ?_ | refine Bin.geq ?_ | refine Un.not ?_ | refine Ext.mk rfl ?_ | refine Pick.mk ?_ | refine Bin.ptrNil ?_ | refine Bin.mapNil ?_ | refine Bin.nilNil ?_ | refine Br.yes ?_ | refine Br.no ?_))
    refine IAddr.nat hi ?_
    (repeat (first | refine Nil.ptr ?_ | refine FAddr.mk ?_ | refine Ld.mk (by repeat (first | assumption | exact List.Mem.head _ | apply List.Mem.tail | apply List.mem_append_right)) rfl ?_ | refine LenS.mk ?_ | refine Bin.eql ?_ | refine Bin.neq ?_ | refine Bin.lss ?_ | refine Bin.leq ?_ | refine Bin.gtr ?_ | refine Bin.geq ?_ | refine Un.not ?_ | refine Ext.mk rfl ?_ | refine Pick.mk ?_ | refine Bin.ptrNil ?_ | refine Bin.mapNil ?_ | refine Bin.nilNil ?_ | refine Br.yes ?_ | refine Br.no ?_))
    refine St.cell (l := encL .i64 l ++ junk) (j := 1) (by repeat (first | exact Upd.head _ | apply Upd.tail | apply Upd.prepend)) hall (encL_get hi junk) (by decide) rfl ?_
    obtain ⟨p1, p2, p3⟩ := move_pre hc hO h1 hi k
    have hset : (encL .i64 l ++ junk).set i ((enc .i64 (at' l i)).set 1 (.int .i64 k)) = encL .i64 (l.set i ((at' l i).1, k)) ++ junk := by
      rw [← encL_set hi]; rfl
    rw [hset]
    obtain ⟨r, hr1, hr2⟩ := perm_at hi ((at' l i).1, k)
    have ho' : HOi (.pointer (some ⟨bh, 0, none⟩)) (l.set i ((at' l i).1, k)) f ((bh, Obj.cells #[.slice (some ⟨la, 0, none⟩) l.length (l.length + junk.length), .map (some mb)] 92 (0, 0)) :: (la, .cells (rows (encL .i64 (l.set i ((at' l i).1, k)) ++ junk)) 94 (0, 0)) :: Cm) :=
      .shut (rows_two hall _ _) (by simp) (by simp) hm
    refine CallF.fn .here (hup_ok ho' (i := i) (by simpa using hi) (by simp; omega) p1 p2 p3) ?_
    rintro v C' ⟨rfl, l', f', p, ho2, hperm, hc2, hex, hp, hat, _⟩
    have hO2 := p3.perm hperm
    have hlen := hperm.length_eq
    simp only [List.length_set] at hlen
    obtain ⟨bh', la', mb', junk', Cm', hbh, rfl, hall', hm'⟩ := ho2.open (by omega)
    simp only [Value.pointer.injEq, Option.some.injEq, Addr.mk.injEq, and_true] at hbh
    subst hbh
    have hfx : f' x = some p := by
      have := hc2.1 p hp
      rw [hat, at_set _ hi] at this
      simp only [fset, if_true] at this
      rw [← hx]; exact this
    (repeat (first | refine Nil.ptr ?_ | refine FAddr.mk ?_ | refine Ld.mk (by repeat (first | assumption | exact List.Mem.head _ | apply List.Mem.tail | apply List.mem_append_right)) rfl ?_ | refine LenS.mk ?_ | refine Bin.eql ?_ | refine Bin.neq ?_ | refine Bin.lss ?_ | refine Bin.leq ?_ | refine Bin.gtr ?_ | refine Bin.geq ?_ | refine Un.not ?_ | refine Ext.mk rfl ?_ | refine Pick.mk ?_ | refine Bin.ptrNil ?_ | refine Bin.mapNil ?_ | refine Bin.nilNil ?_ | refine Br.yes ?_ | refine Br.no ?_))
    refine hm'.look_some (fun _ h => by repeat (first | exact h | apply List.mem_cons_of_mem | apply List.mem_append_right)) hfx ?_
    refine CallF.fn .here (hdown_ok (.shut hall' rfl rfl hm') (i := p) hp (by omega) hex (hc2.x p) hO2) ?_
    rintro v C2 ⟨rfl, l2, f2, ho3, hperm2, hc3, hord⟩
    refine ⟨_, _, rfl, .refl _, l2, ⟨f2, ho3, hc3, hord, hO2.perm hperm2⟩, .inr ⟨(at' l i).2, r, ?_, ?_, rfl⟩⟩
    · rw [← hx]; exact hr1
    · rw [← hx]; exact hperm2.trans (hperm.trans hr2)

end Go.Proofs
set_option linter.unusedVariables false
set_option linter.unusedSimpArgs false
set_option maxRecDepth 100000
namespace Go.Proofs
open Go Go.Sx
open HpA
theorem hpop_ok {h : Value} {l : List It} {C : Hp} (hi : HIi h l C) (hmax : l.length < 4398046511104) :
    Fc Try.prog 34 #[h] C (fun v C' => ∃ l', HIi h l' C' ∧
      ((l = [] ∧ v = .tuple #[.int .i64 0, .int .i64 0, .int .i64 10] ∧ l' = l) ∨ (∃ a, l.Perm (a :: l') ∧ (∀ b ∈ l, prec b a = false) ∧ v = .tuple #[.int .i64 a.1, .int .i64 a.2, .int .i64 0]))) := by
  have hi0 := hi
  obtain ⟨f, ho, hc, hO, h1⟩ := hi
  by_cases hl : l = []
  · subst hl
    intro g
    refine L34_sound (R := FnR _) ?_
    unfold L34
    obtain ⟨bh, sv, mv, Cs, Cm, rfl, rfl, hs, hm, hne⟩ := ho
    (repeat (first | refine Nil.ptr ?_ | refine FAddr.mk ?_ | refine Ld.mk (by repeat (first | assumption | exact List.Mem.head _ | apply List.Mem.tail | apply List.mem_append_right)) rfl ?_ | refine LenS.mk ?_ | refine Bin.eql ?_ | refine Bin.neq ?_ | refine Bin.lss ?_ | refine Bin.leq ?_ | refine Bin.gtr ?_ | refine Bin.geq ?_ | refine Un.not ?_ | refine Ext.mk rfl ?_ | refine Pick.mk ?_ | refine Bin.ptrNil ?_ | refine Bin.mapNil ?_ | refine Bin.nilNil ?_ | refine Br.yes ?_ | refine Br.no ?_))
    refine Grp.or true (fun _ => ?_) rfl fun _ => ?_
    · (repeat (first | refine Nil.ptr ?_ | refine FAddr.mk ?_ | refine Ld.mk (by repeat (first | assumption | exact List.Mem.head _ | apply List.Mem.tail | apply List.mem_append_right)) rfl ?_ | refine LenS.mk ?_ | refine Bin.eql ?_ | refine Bin.neq ?_ | refine Bin.lss ?_ | refine Bin.leq ?_ | refine Bin.gtr ?_ | refine Bin.geq ?_ | refine Un.not ?_ | refine Ext.mk rfl ?_ | refine Pick.mk ?_ | refine Bin.ptrNil ?_ | refine Bin.mapNil ?_ | refine Bin.nilNil ?_ | refine Br.yes ?_ | refine Br.no ?_))
      refine hs.lenS ?_
      (repeat (first | refine Nil.ptr ?_ | refine FAddr.mk ?_ | refine Ld.mk (by repeat (first | assumption | exact List.Mem.head _ | apply List.Mem.tail | apply List.mem_append_right)) rfl ?_ | refine LenS.mk ?_ | refine Bin.eql ?_ | refine Bin.neq ?_ | refine Bin.lss ?_ | refine Bin.leq ?_ | refine Bin.gtr ?_ | refine Bin.geq ?_ | refine Un.not ?_ | refine Ext.mk rfl ?_ | refine Pick.mk ?_ | refine Bin.ptrNil ?_ | refine Bin.mapNil ?_ | refine Bin.nilNil ?_ | refine Br.yes ?_ | refine Br.no ?_))
      exact ⟨rfl, rfl⟩
    · (repeat (first | refine Nil.ptr ?_ | refine FAddr.mk ?_ | refine Ld.mk (by repeat (first | assumption | exact List.Mem.head _ | apply List.Mem.tail | apply List.mem_append_right)) rfl ?_ | refine LenS.mk ?_ | refine Bin.eql ?_ | refine Bin.neq ?_ | refine Bin.lss ?_ | refine Bin.leq ?_ | refine Bin.gtr ?_ | refine Bin.geq ?_ | refine Un.not ?_ | refine Ext.mk rfl ?_ | refine Pick.mk ?_ | refine Bin.ptrNil ?_ | refine Bin.mapNil ?_ | refine Bin.nilNil ?_ | refine Br.yes ?_ | refine Br.no ?_))
      exact ⟨_, _, rfl, .refl _, [], hi0, .inl ⟨rfl, rfl, rfl⟩⟩
  · obtain ⟨n, hn⟩ : ∃ n, l.length = n + 1 := ⟨l.length - 1, by have := List.length_pos_iff.2 hl; omega⟩
    have hmin : ∀ b ∈ l, prec b (at' l 0) = false := fun b hb => by
      obtain ⟨j, hj, e⟩ := List.mem_iff_getElem.1 hb
      have := ord_min hO j hj
      rwa [show at' l j = b by simp [at', List.getD, hj, e]] at this
    intro g
    refine L34_sound (R := FnR _) ?_
    obtain ⟨bh, la, mb, junk, Cm, rfl, rfl, hall, hm⟩ := ho.open (by omega)
    unfold L34
    (repeat (first | refine Nil.ptr ?_ | refine FAddr.mk ?_ | refine Ld.mk (by repeat (first | assumption | exact List.Mem.head _ | apply List.Mem.tail | apply List.mem_append_right)) rfl ?_ | refine LenS.mk ?_ | refine Bin.eql ?_ | refine Bin.neq ?_ | refine Bin.lss ?_ | refine Bin.leq ?_ | refine Bin.gtr ?_ | refine Bin.geq ?_ | refine Un.not ?_ | refine Ext.mk rfl ?_ | refine Pick.mk ?_ | refine Bin.ptrNil ?_ | refine Bin.mapNil ?_ | refine Bin.nilNil ?_ | refine Br.yes ?_ | refine Br.no ?_))
    refine Grp.or false (fun _ => ?_) rfl fun _ => ?_
    · (repeat (first | refine Nil.ptr ?_ | refine FAddr.mk ?_ | refine Ld.mk (by repeat (first | assumption | exact List.Mem.head _ | apply List.Mem.tail | apply List.mem_append_right)) rfl ?_ | refine LenS.mk ?_ | refine Bin.eql ?_ | refine Bin.neq ?_ | refine Bin.lss ?_ | refine Bin.leq ?_ | refine Bin.gtr ?_ | refine Bin.geq ?_ | refine Un.not ?_ | refine Ext.mk rfl ?_ | refine Pick.mk ?_ | refine Bin.ptrNil ?_ | refine Bin.mapNil ?_ | refine Bin.nilNil ?_ | refine Br.yes ?_ | refine Br.no ?_))
      exact ⟨rfl, by rw [hn]; simp; omega⟩
    (repeat (first | refine Nil.ptr ?_ | refine FAddr.mk ?_ | refine Ld.mk (by repeat (first | assumption | exact List.Mem.head _ | apply List.Mem.tail | apply List.mem_append_right)) rfl ?_ | refine LenS.mk ?_ | refine Bin.eql ?_ | refine Bin.neq ?_ | refine Bin.lss ?_ | refine Bin.leq ?_ | refine Bin.gtr ?_ | refine Bin.geq ?_ | refine Un.not ?_ | refine Ext.mk rfl ?_ | refine Pick.mk ?_ | refine Bin.ptrNil ?_ | refine Bin.mapNil ?_ | refine Bin.nilNil ?_ | refine Br.yes ?_ | refine Br.no ?_))
    refine IAddr.of 0 rfl (by omega) ?_
    refine LdA.row (l := encL .i64 l ++ junk) (by repeat (first | assumption | exact List.Mem.head _ | apply List.Mem.tail | apply List.mem_append_right)) hall (encL_get (by omega) junk) ?_
    intro b14 _
    refine St.whole (r := enc .i64 (at' l 0)) (by repeat (first | exact Upd.head _ | apply Upd.tail | apply Upd.prepend)) rfl rfl (enc_one _ _) ?_
    (repeat (first | refine Nil.ptr ?_ | refine FAddr.mk ?_ | refine Ld.mk (by repeat (first | assumption | exact List.Mem.head _ | apply List.Mem.tail | apply List.mem_append_right)) rfl ?_ | refine LenS.mk ?_ | refine Bin.eql ?_ | refine Bin.neq ?_ | refine Bin.lss ?_ | refine Bin.leq ?_ | refine Bin.gtr ?_ | refine Bin.geq ?_ | refine Un.not ?_ | refine Ext.mk rfl ?_ | refine Pick.mk ?_ | refine Bin.ptrNil ?_ | refine Bin.mapNil ?_ | refine Bin.nilNil ?_ | refine Br.yes ?_ | refine Br.no ?_))
    refine Bin.sub64 (c := (n : Int)) (by rw [hn]; simp) (by omega) ?_
    (repeat (first | refine Nil.ptr ?_ | refine FAddr.mk ?_ | refine Ld.mk (by repeat (first | assumption | exact List.Mem.head _ | apply List.Mem.tail | apply List.mem_append_right)) rfl ?_ | refine LenS.mk ?_ | refine Bin.eql ?_ | refine Bin.neq ?_ | refine Bin.lss ?_ | refine Bin.leq ?_ | refine Bin.gtr ?_ | refine Bin.geq ?_ | refine Un.not ?_ | refine Ext.mk rfl ?_ | refine Pick.mk ?_ | refine Bin.ptrNil ?_ | refine Bin.mapNil ?_ | refine Bin.nilNil ?_ | refine Br.yes ?_ | refine Br.no ?_))
    refine IAddr.nat (by omega) ?_
    refine LdA.row (l := encL .i64 l ++ junk) (by repeat (first | assumption | exact List.Mem.head _ | apply List.Mem.tail | apply List.mem_append_right)) hall (encL_get (by omega) junk) ?_
    intro b27 _
    refine St.whole (r := enc .i64 (at' l n)) (by repeat (first | exact Upd.head _ | apply Upd.tail | apply Upd.prepend)) rfl rfl (enc_one _ _) ?_
    (repeat (first | refine Nil.ptr ?_ | refine FAddr.mk ?_ | refine Ld.mk (by repeat (first | assumption | exact List.Mem.head _ | apply List.Mem.tail | apply List.mem_append_right)) rfl ?_ | refine LenS.mk ?_ | refine Bin.eql ?_ | refine Bin.neq ?_ | refine Bin.lss ?_ | refine Bin.leq ?_ | refine Bin.gtr ?_ | refine Bin.geq ?_ | refine Un.not ?_ | refine Ext.mk rfl ?_ | refine Pick.mk ?_ | refine Bin.ptrNil ?_ | refine Bin.mapNil ?_ | refine Bin.nilNil ?_ | refine Br.yes ?_ | refine Br.no ?_))
    refine SliceE.upto (h := n) (by omega) ?_
    (repeat (first | refine Nil.ptr ?_ | refine FAddr.mk ?_ | refine Ld.mk (by repeat (first | assumption | exact List.Mem.head _ | apply List.Mem.tail | apply List.mem_append_right)) rfl ?_ | refine LenS.mk ?_ | refine Bin.eql ?_ | refine Bin.neq ?_ | refine Bin.lss ?_ | refine Bin.leq ?_ | refine Bin.gtr ?_ | refine Bin.geq ?_ | refine Un.not ?_ | refine Ext.mk rfl ?_ | refine Pick.mk ?_ | refine Bin.ptrNil ?_ | refine Bin.mapNil ?_ | refine Bin.nilNil ?_ | refine Br.yes ?_ | refine Br.no ?_))
    refine St.one (by repeat (first | exact Upd.head _ | apply Upd.tail | apply Upd.prepend)) rfl (by simp) rfl ?_
    refine DR.self ?_
    (repeat (first | refine Nil.ptr ?_ | refine FAddr.mk ?_ | refine Ld.mk (by repeat (first | assumption | exact List.Mem.head _ | apply List.Mem.tail | apply List.mem_append_right)) rfl ?_ | refine LenS.mk ?_ | refine Bin.eql ?_ | refine Bin.neq ?_ | refine Bin.lss ?_ | refine Bin.leq ?_ | refine Bin.gtr ?_ | refine Bin.geq ?_ | refine Un.not ?_ | refine Ext.mk rfl ?_ | refine Pick.mk ?_ | refine Bin.ptrNil ?_ | refine Bin.mapNil ?_ | refine Bin.nilNil ?_ | refine Br.yes ?_ | refine Br.no ?_))
    rw [← List.append_nil Cm]
    refine MOwn.del (A := [_, _, _, _]) (B := []) hm fun Cm' hm' => ?_
    rw [List.append_nil]
    have hrows : encL .i64 l ++ junk = encL .i64 (l.take n) ++ (enc .i64 (at' l n) :: junk) := by
      have e : l = l.take n ++ [at' l n] := by
        have h2 : l.drop n = [at' l n] := by
          rw [List.drop_eq_getElem_cons (by omega), List.drop_eq_nil_of_le (by omega)]
          simp [hn, at', List.getD]
        have := (List.take_append_drop n l).symm
        rw [h2] at this; exact this
      conv => lhs; rw [e]
      simp [encL]
    have hall' : ∀ r ∈ encL .i64 (l.take n) ++ (enc .i64 (at' l n) :: junk), r.length = 2 := by rw [← hrows]; exact hall
    intro J hJ
    have hlt : (l.take n).length = n := by simp [hn]
    have hrest : ∀ l' C', HIi (.pointer (some ⟨bh, 0, none⟩)) l' C' → l.Perm (at' l 0 :: l') → J [] ((b27, Obj.cells (enc .i64 (at' l n)).toArray 94 (0, 0)) :: (b14, Obj.cells (enc .i64 (at' l 0)).toArray 94 (0, 0)) :: C') := by
      intro l' C' hi' hp'
      refine hJ _ fun gs => ?_
      (repeat (first | refine Nil.ptr ?_ | refine FAddr.mk ?_ | refine Ld.mk (by repeat (first | assumption | exact List.Mem.head _ | apply List.Mem.tail | apply List.mem_append_right)) rfl ?_ | refine LenS.mk ?_ | refine Bin.eql ?_ | refine Bin.neq ?_ | refine Bin.lss ?_ | refine Bin.leq ?_ | refine Bin.gtr ?_ | refine Bin.geq ?_ | refine Un.not ?_ | refine Ext.mk rfl ?_ | refine Pick.mk ?_ | refine Bin.ptrNil ?_ | refine Bin.mapNil ?_ | refine Bin.nilNil ?_ | refine Br.yes ?_ | refine Br.no ?_))
      exact ⟨_, _, rfl, .skip .tail, l', hi', .inr ⟨_, hp', hmin, rfl⟩⟩
    (repeat (first | refine Nil.ptr ?_ | refine FAddr.mk ?_ | refine Ld.mk (by repeat (first | assumption | exact List.Mem.head _ | apply List.Mem.tail | apply List.mem_append_right)) rfl ?_ | refine LenS.mk ?_ | refine Bin.eql ?_ | refine Bin.neq ?_ | refine Bin.lss ?_ | refine Bin.leq ?_ | refine Bin.gtr ?_ | refine Bin.geq ?_ | refine Un.not ?_ | refine Ext.mk rfl ?_ | refine Pick.mk ?_ | refine Bin.ptrNil ?_ | refine Bin.mapNil ?_ | refine Bin.nilNil ?_ | refine Br.yes ?_ | refine Br.no ?_))
    have ho1 : HOi (.pointer (some ⟨bh, 0, none⟩)) (l.take n) (upf f (at' l 0).1 none) ((bh, Obj.cells #[.slice (some ⟨la, 0, none⟩) n (l.length + junk.length), .map (some mb)] 92 (0, 0)) :: (la, .cells (rows (encL .i64 l ++ junk)) 94 (0, 0)) :: Cm') := by
      rw [hrows]
      exact .shut hall' hlt.symm (by simp [hn]; omega) hm'
    refine Br.mk (fun h0 => ?_) (fun h0 => ?_)
    · have h0 : 0 < n := by simpa using h0
      obtain ⟨_, q1, q2, q3, q4⟩ := pop_pre hc hO h1 hn h0
      refine LdA.whole (r := enc .i64 (at' l n)) (by repeat (first | assumption | exact List.Mem.head _ | apply List.Mem.tail | apply List.mem_append_right)) rfl ?_
      refine CallF.fn (.cons (.cons .here)) (hput_ok ho1 (i := 0) (by omega) (at' l n)) ?_
      rintro v C2 ⟨rfl, ho2⟩
      have hcx : ConsX ((l.take n).set 0 (at' l n)) (upf (upf f (at' l 0).1 none) (at' l n).1 (some 0)) 0 := by
        refine ⟨fun j hj hj0 => ?_, fun x hx => ?_⟩
        · unfold upf
          rw [if_neg]
          · exact q4.1 j hj hj0
          · intro e
            have h00 : at' ((l.take n).set 0 (at' l n)) 0 = at' l n := by rw [at_set _ (by omega)]; simp [fset]
            exact hj0 (q3.inj hj (by simp; omega) (by rw [e, h00]))
        · unfold upf
          rw [if_neg]
          · exact q4.2 x hx
          · intro e
            refine hx (mem_things.2 ⟨0, by simp; omega, ?_⟩)
            rw [at_set _ (by omega)]; simp [fset, e]
      refine CallF.fn (.cons (.cons .here)) (hdown_ok ho2 (i := 0) (by simp; omega) (by simp; omega) (by simpa [hn] using q2) hcx q3) ?_
      rintro v C3 ⟨rfl, l3, f3, ho3, hperm3, hc3, hord3⟩
      exact JE.mk (hrest l3 C3 ⟨f3, ho3, hc3, hord3, q3.perm hperm3⟩ ((hperm3.cons (at' l 0)).trans q1).symm)
    · have h0 : n = 0 := by simp at h0; omega
      subst h0
      refine JE.mk (hrest (l.take 0) _ ⟨_, ho1, ⟨fun j hj => by simp at hj, fun x _ => ?_⟩, fun j _ hj => by simp at hj, by simp [Once]⟩ ?_)
      · unfold upf
        split
        · rfl
        · rename_i hne
          refine hc.2 x fun hm => hne ?_
          obtain ⟨j, hj, e⟩ := mem_things.1 hm
          rw [show j = 0 by omega] at e; exact e.symm
      · match l, hn with
        | [a], _ => exact .refl _

end Go.Proofs
set_option linter.unusedVariables false
set_option linter.unusedSimpArgs false
set_option maxRecDepth 100000
namespace Go.Proofs
open Go Go.Sx
/-- r is the number of places that x takes -/
def IsLen (x r : Nat) : Prop := x < 2 ^ r ∧ (r = 0 ∨ 2 ^ (r - 1) ≤ x)
theorem IsLen.gt {x r n : Nat} (h : IsLen x r) : n < r ↔ 2 ^ n ≤ x := by
  constructor
  · intro hn
    rcases h.2 with h2 | h2
    · omega
    · exact Nat.le_trans (Nat.pow_le_pow_right (by decide) (by omega)) h2
  · intro hn
    have := Nat.lt_of_le_of_lt hn h.1
    exact (Nat.pow_lt_pow_iff_right (by decide)).1 this
theorem IsLen.up {x s t : Nat} (h : IsLen (x >>> s) t) (h0 : s = 0 ∨ x >>> s ≠ 0) : IsLen x (s + t) := by
  rw [Nat.shiftRight_eq_div_pow] at h h0
  have hp := Nat.two_pow_pos s
  refine ⟨?_, ?_⟩
  · have := h.1
    rw [Nat.div_lt_iff_lt_mul hp] at this
    rw [Nat.pow_add, Nat.mul_comm]; exact this
  · rcases h.2 with h2 | h2
    · subst h2
      have := h.1
      rcases h0 with h0 | h0
      · exact .inl (by omega)
      · rw [Nat.pow_zero] at this; exact absurd (Nat.lt_one_iff.1 this) h0
    · by_cases ht : t = 0
      · subst ht
        rcases h0 with h0 | h0
        · exact .inl (by omega)
        · have := h.1; rw [Nat.pow_zero] at this; exact absurd (Nat.lt_one_iff.1 this) h0
      · right
        have := (Nat.le_div_iff_mul_le hp).1 h2
        rw [show s + t - 1 = (t - 1) + s by omega, Nat.pow_add]; exact this
theorem len8_ok : ∀ y : Fin 256, ∃ b : UInt8, (ByteArray.mk #[0, 1, 2, 2, 3, 3, 3, 3, 4, 4, 4, 4, 4, 4, 4, 4, 5, 5, 5, 5, 5, 5, 5, 5, 5, 5, 5, 5, 5, 5, 5, 5, 6, 6, 6, 6, 6, 6, 6, 6, 6, 6, 6, 6, 6, 6, 6, 6, 6, 6, 6, 6, 6, 6, 6, 6, 6, 6, 6, 6, 6, 6, 6, 6, 7, 7, 7, 7, 7, 7, 7, 7, 7, 7, 7, 7, 7, 7, 7, 7, 7, 7, 7, 7, 7, 7, 7, 7, 7, 7, 7, 7, 7, 7, 7, 7, 7, 7, 7, 7, 7, 7, 7, 7, 7, 7, 7, 7, 7, 7, 7, 7, 7, 7, 7, 7, 7, 7, 7, 7, 7, 7, 7, 7, 7, 7, 7, 7, 8, 8, 8, 8, 8, 8, 8, 8, 8, 8, 8, 8, 8, 8, 8, 8, 8, 8, 8, 8, 8, 8, 8, 8, 8, 8, 8, 8, 8, 8, 8, 8, 8, 8, 8, 8, 8, 8, 8, 8, 8, 8, 8, 8, 8, 8, 8, 8, 8, 8, 8, 8, 8, 8, 8, 8, 8, 8, 8, 8, 8, 8, 8, 8, 8, 8, 8, 8, 8, 8, 8, 8, 8, 8, 8, 8, 8, 8, 8, 8, 8, 8, 8, 8, 8, 8, 8, 8, 8, 8, 8, 8, 8, 8, 8, 8, 8, 8, 8, 8, 8, 8, 8, 8, 8, 8, 8, 8, 8, 8, 8, 8, 8, 8, 8, 8, 8, 8, 8, 8, 8, 8, 8, 8, 8, 8, 8, 8])[y.1]? = some b ∧ (y.1 < 2 ^ b.toNat ∧ (b.toNat = 0 ∨ 2 ^ (b.toNat - 1) ≤ y.1)) := by
  have h : ∀ y : Fin 256, (match (ByteArray.mk #[0, 1, 2, 2, 3, 3, 3, 3, 4, 4, 4, 4, 4, 4, 4, 4, 5, 5, 5, 5, 5, 5, 5, 5, 5, 5, 5, 5, 5, 5, 5, 5, 6, 6, 6, 6, 6, 6, 6, 6, 6, 6, 6, 6, 6, 6, 6, 6, 6, 6, 6, 6, 6, 6, 6, 6, 6, 6, 6, 6, 6, 6, 6, 6, 7, 7, 7, 7, 7, 7, 7, 7, 7, 7, 7, 7, 7, 7, 7, 7, 7, 7, 7, 7, 7, 7, 7, 7, 7, 7, 7, 7, 7, 7, 7, 7, 7, 7, 7, 7, 7, 7, 7, 7, 7, 7, 7, 7, 7, 7, 7, 7, 7, 7, 7, 7, 7, 7, 7, 7, 7, 7, 7, 7, 7, 7, 7, 7, 8, 8, 8, 8, 8, 8, 8, 8, 8, 8, 8, 8, 8, 8, 8, 8, 8, 8, 8, 8, 8, 8, 8, 8, 8, 8, 8, 8, 8, 8, 8, 8, 8, 8, 8, 8, 8, 8, 8, 8, 8, 8, 8, 8, 8, 8, 8, 8, 8, 8, 8, 8, 8, 8, 8, 8, 8, 8, 8, 8, 8, 8, 8, 8, 8, 8, 8, 8, 8, 8, 8, 8, 8, 8, 8, 8, 8, 8, 8, 8, 8, 8, 8, 8, 8, 8, 8, 8, 8, 8, 8, 8, 8, 8, 8, 8, 8, 8, 8, 8, 8, 8, 8, 8, 8, 8, 8, 8, 8, 8, 8, 8, 8, 8, 8, 8, 8, 8, 8, 8, 8, 8, 8, 8, 8, 8, 8, 8])[y.1]? with | some b => decide (y.1 < 2 ^ b.toNat ∧ (b.toNat = 0 ∨ 2 ^ (b.toNat - 1) ≤ y.1)) | none => false) = true := by decide +kernel
  intro y
  have := h y
  split at this
  · rename_i b hb
    exact ⟨b, hb, by simpa using this⟩
  · cases this
theorem len64_ok {x : Nat} (hx : x < 18446744073709551616) (B : Hp) : Rd Try.prog 31 #[.int .u64 (x : Int)] B (fun v => ∃ r : Nat, IsLen x r ∧ v = .int .i64 (r : Int)) := by
  intro g
  refine L31_sound (R := FnR _) ?_
  unfold L31
  intro J1 hJ1
  have h1 : ∀ s, s ≤ 32 → x >>> s < 4294967296 → (s = 0 ∨ x >>> s ≠ 0) → J1 [.int .u64 ((x >>> s : Nat) : Int), .int .i64 (s : Int)] B := by
    intro s hs hlt h0
    refine hJ1 _ _ _ fun gs => ?_
    intro J2 hJ2
    have h2 : ∀ s, s ≤ 48 → x >>> s < 65536 → (s = 0 ∨ x >>> s ≠ 0) → J2 [.int .u64 ((x >>> s : Nat) : Int), .int .i64 (s : Int)] B := by
      intro s hs hlt h0
      refine hJ2 _ _ _ fun gs => ?_
      intro J3 hJ3
      have h3 : ∀ s, s ≤ 56 → x >>> s < 256 → (s = 0 ∨ x >>> s ≠ 0) → J3 [.int .u64 ((x >>> s : Nat) : Int), .int .i64 (s : Int)] B := by
        intro s hs hlt h0
        refine hJ3 _ _ _ fun gs => ?_
        refine ConvI.nat (show x >>> s < 256 from hlt) ?_
        obtain ⟨b, hb, hl⟩ := len8_ok ⟨x >>> s, hlt⟩
        refine ⟨_, _, _, b, rfl, rfl, Int.natCast_nonneg _, by rw [Int.toNat_natCast]; exact hb, ?_⟩
        have hbl : b.toNat < 256 := b.toNat_lt
        refine ConvI.nat (by simp [lim]; omega) ?_
        refine Bin.addN (by simp [lim]; omega) ?_
        exact RdR.mk (.refl _) ⟨s + b.toNat, IsLen.up (t := b.toNat) hl h0, rfl⟩
      refine Bin.geN (b := 256) (Br.dec (fun hge => ?_) (fun hge => JE.mk (h3 s (by omega) (by omega) h0)))
      refine Bin.shrN (b := 8) (by simp only [lim]; omega) ?_
      refine Bin.addN (b := 8) (by simp [lim]; omega) ?_
      rw [← Nat.shiftRight_add]
      have e : x >>> (s + 8) = x >>> s / 256 := by rw [Nat.shiftRight_add, Nat.shiftRight_eq_div_pow (x >>> s) 8]
      exact JE.mk (h3 (s + 8) (by omega) (by omega) (.inr (by omega)))
    refine Bin.geN (b := 65536) (Br.dec (fun hge => ?_) (fun hge => JE.mk (h2 s (by omega) (by omega) h0)))
    refine Bin.shrN (b := 16) (by simp only [lim]; omega) ?_
    refine Bin.addN (b := 16) (by simp [lim]; omega) ?_
    rw [← Nat.shiftRight_add]
    have e : x >>> (s + 16) = x >>> s / 65536 := by rw [Nat.shiftRight_add, Nat.shiftRight_eq_div_pow (x >>> s) 16]
    exact JE.mk (h2 (s + 16) (by omega) (by omega) (.inr (by omega)))
  refine Bin.geN (b := 4294967296) (Br.dec (fun hge => ?_) (fun hge => JE.mk (h1 0 (by omega) (by simp; omega) (.inl rfl))))
  refine Bin.shrN (b := 32) (by simp only [lim]; exact hx) ?_
  have e : x >>> 32 = x / 4294967296 := by rw [Nat.shiftRight_eq_div_pow]
  exact JE.mk (h1 32 (by omega) (by omega) (.inr (by omega)))

end Go.Proofs
set_option linter.unusedVariables false
set_option linter.unusedSimpArgs false
set_option maxRecDepth 100000
namespace Go.Proofs
open Go Go.Sx
open HpA
theorem W_small {lst : Value} {n : Nat} {L : List (List Nat)} {B : Hp} (h : PlanOK lst n L B) (a : Nat) : Tab.W n (Tab.lvl n L) a < 35184372088832 := by
  have h1 := Tab.par_le n (Tab.lvl n L) 2199023255551 (fun a v => Nat.le_of_lt (lvl_le h a v)) n a
  have h2 : n * 2199023255551 ≤ 12 * 2199023255551 := Nat.mul_le_mul_right _ h.n12
  unfold Tab.W; omega
/-- what exact.Within answers -/
def WithinQ (ts : List Tb) (A : Nat) (r : Value) : Prop :=
  (¬ OneN ts ∧ r = .tuple #[.int .i64 0, .int .i64 5]) ∨
  (OneN ts ∧ ∃ (n : Nat) (L : List (List Nat)), ts = tbs n L ∧ (L = [] → n = 0) ∧ n ≤ 16 ∧ (∀ ws ∈ L, Tab.Frm n ws) ∧
    ((2 ^ n ≤ A ∧ r = .tuple #[.int .i64 0, .int .i64 2]) ∨ (A < 2 ^ n ∧ 12 < n ∧ r = .tuple #[.int .i64 0, .int .i64 6]) ∨
     (A < 2 ^ n ∧ n ≤ 12 ∧ r = .tuple #[.int .i64 ((Tab.W n (Tab.lvl n L) A + Tab.B n (Tab.lvl n L) A : Nat) : Int), .int .i64 0])))
def szM (N : Nat) : Hp → Nat
  | (_, .map es _) :: _ => N - es.size
  | _ => 0
theorem within_ok {B : Hp} {v : Value} {ts : List Tb} (ht : Tbls B v ts) (hmax : ts.length < 33554432) {A : Nat} (hA : A < 18446744073709551616) : Px Try.prog 15 #[v, .int .u64 (A : Int)] B (fun r _ => WithinQ ts A r) := by
  intro g
  refine L15_sound (R := FnR _) ?_
  unfold L15
  refine CallF.px .here (echeck_ok ht (by omega)) ?_
  rintro r N0 (⟨hO, bp, bl, bd, n, L, N, rfl, hn0, hn16, hf, rfl, hp⟩ | ⟨hO, rfl⟩)
  case inr => exact Ext.mk rfl (Ext.mk rfl (Bin.neN (a := 5) (b := 0) (Br.dec (fun _ => PxR.mk (by repeat (first | exact Grow.refl _ | apply Grow.cons | apply Grow.app)) (.inl ⟨hO, rfl⟩)) (fun h => absurd (by decide) h))))
  generalize N0 ++ B = H2 at hp ⊢
  clear N0
  rw [tbs_length] at hmax
  have hp0 := hp
  obtain ⟨es1, ck1, es2, ck2, rfl, hM⟩ := hp
  refine Ext.mk rfl (Ext.mk rfl (Bin.neN (a := 0) (b := 0) (Br.dec (fun h => absurd rfl h) (fun _ => ?_))))
  refine DR.self (Nil.ptr ?_)
  refine FAddr.mk (Ld.mk (by repeat (first | assumption | exact List.Mem.head _ | apply List.Mem.tail | apply List.mem_append_right)) rfl ?_)
  refine CallF.rd .here (len64_ok hA _) ?_
  rintro v ⟨r, hr, rfl⟩
  refine ⟨.refl _, ?_⟩
  refine Bin.gtN (Br.dec (fun hgt => PxR.mk (by repeat (first | exact Grow.refl _ | apply Grow.cons | apply Grow.app)) (.inr ⟨hO, n, L, rfl, hn0, hn16, hf, .inl ⟨hr.gt.1 hgt, rfl⟩⟩)) (fun hgt => ?_))
  have hAn : A < 2 ^ n := by
    have : ¬ (2 ^ n ≤ A) := fun h => hgt (hr.gt.2 h)
    omega
  refine Nil.ptr ?_
  refine FAddr.mk (Ld.mk (by repeat (first | assumption | exact List.Mem.head _ | apply List.Mem.tail | apply List.mem_append_right)) rfl ?_)
  refine Bin.gtN (b := 12) (Br.dec (fun h12 => PxR.mk (by repeat (first | exact Grow.refl _ | apply Grow.cons | apply Grow.app)) (.inr ⟨hO, n, L, rfl, hn0, hn16, hf, .inr (.inl ⟨hAn, h12, rfl⟩)⟩)) (fun h12 => ?_))
  clear hM
  have hn12 : n ≤ 12 := by omega
  have hOK : L ≠ [] → PlanOK v n L (N ++ B) := fun hne => ⟨ht.mono (fun _ h => by repeat (first | exact h | apply List.mem_cons_of_mem | apply List.mem_append_right)), hf, hne, hmax, hn12⟩
  have hp2 : 2 ^ n ≤ 2 ^ 12 := Nat.pow_le_pow_right (by decide) hn12
  have hUlt := Tab.usedP_lt n L
  refine Nil.ptr ?_
  refine FAddr.mk (Ld.mk (by repeat (first | assumption | exact List.Mem.head _ | apply List.Mem.tail | apply List.mem_append_right)) rfl ?_)
  refine ConvI.nat (by simp only [lim]; omega) ?_
  refine Bin.andN (by simp only [lim]; omega) (by simp only [lim]; omega) ?_
  obtain ⟨T, hTd⟩ : ∃ T, T = A &&& Tab.usedP n L := ⟨_, rfl⟩
  rw [← hTd]
  have hT : T < 2 ^ n := by rw [hTd]; exact Nat.lt_of_le_of_lt Nat.and_le_left hAn
  refine CallF.fn .here (hnew_ok _) ?_
  rintro v2 H ⟨bh, C0, rfl, rfl, hh0⟩
  refine CallF.fn .left (hpush_ok hh0 (by simp) 0 0) ?_
  rintro v2 C1 ⟨l1, hh1, hpu⟩
  have hl1 : l1.Perm [Tab.nn 0 0] := by
    rcases hpu with ⟨h, _⟩ | ⟨_, _, h⟩
    · simp at h
    · exact h
  clear hpu hh0
  intro bm hbm; clear hbm
  refine ⟨fun vs H => ∃ (m : List (Nat × Nat)) (es : Array MapEntry) (ck : Nat) (l : List It) (C H1 : Hp), vs = [] ∧ H = (bm, .map es ck) :: (C ++ H1) ∧ Ents ki vrN es ck m ∧ (∀ x ∈ m, x.2 = 1) ∧ HIi (.pointer (some ⟨bh, 0, none⟩)) l C ∧
      PlanH bp bl bd v n L (Tab.usedP n L) (N ++ B) H1 ∧ ∃ s, Tab.Dij n (Tab.lvl n L) T (m.map Prod.fst) l s n,
    fun _ H => szM (2 ^ n) H, JE.mk ⟨[], #[], 0, l1, C1, _, rfl, rfl, Ents.empty, by simp, hh1, hp0, 0, Tab.Dij.start hT hl1 0⟩, ?_⟩
  clear hp0 hh1 hl1 es1 ck1 es2 ck2 C1 l1
  rintro H ⟨m, es, ck, l, C, H1, _, rfl, hE, hm1, hh, hp, s0, hd⟩ gs
  have honce : Once l := by obtain ⟨_, _, _, _, h⟩ := hh; exact h
  have hll := hd.llen hT honce
  refine CallF.fn (.cons .left) (hpop_ok hh (by omega)) ?_
  rintro r C1 ⟨l1, hh1, hpop⟩
  rcases hpop with ⟨rfl, _⟩ | ⟨a, hperm, hmin, rfl⟩
  · obtain ⟨_, _, h, _⟩ := hd.low hT _ T rfl (by rw [Nat.and_self]) hd.top
    simp at h
  obtain ⟨S, rfl, hST, hSD, hnext⟩ := hd.pop hT hperm hmin honce
  have hSn : S < 2 ^ n := Nat.lt_of_le_of_lt (Tab.sub_le hST) hT
  refine Ext.mk rfl (Ext.mk rfl (Ext.mk rfl ?_))
  refine ConvI.nat (by simp [lim]; omega) ?_
  simp only [Tab.nn]
  refine Bin.eqN (Br.dec (fun hSe => ?_) (fun hSe => ?_))
  · have hfin : ∀ k H', H' = ((bm, Obj.map es ck) :: (C1 ++ H1) : Hp) ∨ True → k = Tab.B n (Tab.lvl n L) T → WithinQ (tbs n L) A (.tuple #[.int .i64 ((Tab.W n (Tab.lvl n L) T + k : Nat) : Int), .int .i64 0]) := fun k H' _ hk => by
      refine .inr ⟨hO, n, L, rfl, hn0, hn16, hf, .inr (.inr ⟨hAn, hn12, ?_⟩)⟩
      have hUsed := Tab.used_ok hf (by omega)
      rw [hk, hTd, Tab.W_and hUsed, Tab.B_and hUsed]
    by_cases hne : L = []
    · have hn := hn0 hne
      subst hne
      subst hn
      have hT0 : T = 0 := by omega
      subst hT0
      obtain rfl : S = 0 := hSe
      refine CallF.fn (.cons (.app .here)) (belowZ_ok (a := 0) (by omega) hp) ?_
      rintro r H3 ⟨rfl, rfl⟩
      have hW0 : Tab.W 0 (Tab.lvl 0 []) 0 = 0 := Tab.W_zero
      have hB0 : Tab.B 0 (Tab.lvl 0 []) 0 = 0 := rfl
      rw [hW0]
      refine Bin.addN (a := 0) (b := 0) (by simp [lim]) ?_
      have hq := hfin 0 [] (.inr trivial) hB0.symm
      rw [hW0] at hq
      obtain ⟨es3, ck3, es4, ck4, rfl, _⟩ := hp
      exact PxR.mk (by repeat (first | exact Grow.refl _ | apply Grow.cons | apply Grow.app)) hq
    · obtain rfl : S = T := hSe
      refine CallF.fn (.cons (.app .here)) (below_ok (hOK hne) _ S (Nat.le_refl _) hT _ hp) ?_
      rintro r H3 ⟨rfl, es3, ck3, es4, ck4, rfl, _⟩
      have hb1 := W_small (hOK hne) S
      have hb2 := B_small (hOK hne) S
      refine Bin.addN (by simp [lim]; omega) ?_
      exact PxR.mk (by repeat (first | exact Grow.refl _ | apply Grow.cons | apply Grow.app)) (hfin _ [] (.inr trivial) rfl)
  have hd1 := hnext hSe
  clear hnext hd hh hmin hperm
  refine Ents.upd (ke := ki) (vr := vrN) (b := bm) (k := S) (x := 1) ki_law ki_bits hE rfl fun es' ck' hE' => ⟨_, .head _, ?_⟩
  have hms : mset m S 1 = m ++ [(S, 1)] := by unfold mset; rw [if_neg hSD]
  rw [hms] at hE'
  have hpm : (S :: m.map Prod.fst).Perm ((m ++ [(S, 1)]).map Prod.fst) := by rw [List.map_append]; exact List.perm_append_comm (l₁ := [S])
  have hd2 := hd1.perm hpm
  have hm1' : ∀ x ∈ m ++ [(S, 1)], x.2 = 1 := fun x hx => by
    rcases List.mem_append.1 hx with h | h
    · exact hm1 x h
    · simp at h; rw [h]
  have hmeas : 2 ^ n - es'.size < 2 ^ n - es.size := by
    have h1 := hE'.len
    have h2 := hE.len
    have h3 := hd2.dlen hT
    simp only [List.length_append, List.length_singleton, List.length_map] at h1 h3
    omega
  generalize m ++ [(S, 1)] = m' at hE' hpm hd2 hm1'
  have hSD' : S ∈ m'.map Prod.fst := hpm.mem_iff.1 (.head _)
  clear hms hd1 hm1 hSD hpm hE
  have hp0 := hp
  obtain ⟨es1, ck1, es2, ck2, rfl, hM⟩ := hp
  refine Nil.ptr ?_
  refine FAddr.mk (Ld.mk (by repeat (first | assumption | exact List.Mem.head _ | apply List.Mem.tail | apply List.mem_append_right)) rfl ?_)
  refine ⟨fun vs H => ∃ (i : Nat) (l : List It) (C H1 : Hp), vs = [.int .i64 (i : Int)] ∧ i ≤ n ∧ H = (bm, .map es' ck') :: (C ++ H1) ∧ HIi (.pointer (some ⟨bh, 0, none⟩)) l C ∧
      PlanH bp bl bd v n L (Tab.usedP n L) (N ++ B) H1 ∧ Tab.Dij n (Tab.lvl n L) T (m'.map Prod.fst) l S i,
    fun vs _ => n - nAt vs 0, JE.mk ⟨0, l1, C1, _, rfl, Nat.zero_le _, rfl, hh1, hp0, hd2⟩, ?_⟩
  clear hp0 hM hd2 hh1 honce hll l1 C1
  rintro w H ⟨i, l, C, H1, hv, hin, rfl, hh, hp, hd⟩ gs
  simp only [List.cons.injEq, and_true] at hv
  subst hv
  refine Bin.ltN (Br.dec (fun hlt => ?_) (fun hlt => ?_))
  · intro J hJ
    have hne : L ≠ [] := fun e => by have := hn0 e; omega
    have hpl := hOK hne
    have hpk : 2 ^ i ≤ 2 ^ 12 := Nat.pow_le_pow_right (by decide) (by omega)
    have hgo : ∀ l C H1, HIi (.pointer (some ⟨bh, 0, none⟩)) l C → PlanH bp bl bd v n L (Tab.usedP n L) (N ++ B) H1 → Tab.Dij n (Tab.lvl n L) T (m'.map Prod.fst) l S (i + 1) → J [] ((bm, .map es' ck') :: (C ++ H1)) := fun l C H1 q1 q2 q3 => hJ _ fun gs => by
      refine Bin.addN (b := 1) (by simp [lim]; omega) ?_
      exact Back.mk ⟨i + 1, l, C, H1, rfl, by omega, rfl, q1, q2, q3⟩ (by simp only [nAt]; omega)
    refine Bin.shlN (a := 1) (by simp [IntKind.bits]; omega) (by rw [Nat.one_shiftLeft]; simp [lim]; omega) ?_
    rw [Nat.one_shiftLeft]
    refine Bin.orN (by simp [lim]; omega) (by simp [lim]; omega) ?_
    have eset : S ||| 2 ^ i = Tab.setb S i true := rfl
    rw [eset]
    refine Bin.eqN ?_
    have hskip : (T.testBit i = false ∨ S.testBit i = true ∨ Tab.setb S i true ∈ m'.map Prod.fst) → JE J [] ((bm, .map es' ck') :: (C ++ H1)) := fun hx => JE.mk (hgo l C H1 hh hp (hd.skip hx))
    by_cases hSi : S.testBit i = true
    · have e1 : Tab.setb S i true = S := by have := Tab.setb_self S i; rwa [hSi] at this
      rw [e1, decide_eq_true rfl]
      refine Grp.mk true (fun e => by simp at e) (fun _ => rfl) fun gs => Grp.mk true (fun e => by simp at e) (fun _ => rfl) fun gs => Br.yes (hskip (.inr (.inl hSi)))
    have hSi' : S.testBit i = false := by simpa using hSi
    have hne1 : ¬ (Tab.setb S i true = S) := fun e => hSi (by rw [← e, Tab.testBit_setb]; simp)
    rw [decide_eq_false hne1]
    refine Grp.mk (!T.testBit i) (fun _ => ?_) (fun e => by simp at e) fun gs => ?_
    · refine Bin.shrN (by simp only [lim]; omega) (Bin.andN (b := 1) (by simp only [lim]; exact Nat.lt_of_le_of_lt (Nat.shiftRight_le _ _) (by omega)) (by simp [lim]) (Bin.eqN (b := 0) ?_))
      refine ⟨by trivial, ?_⟩
      cases hb : T.testBit i with
      | false => rw [decide_eq_true (bit_eq0.2 hb)]; rfl
      | true => rw [decide_eq_false (fun h => by rw [bit_eq0.1 h] at hb; cases hb)]; rfl
    cases hTi : T.testBit i with
    | false => exact Grp.mk true (fun e => by simp at e) (fun _ => rfl) fun gs => Br.yes (hskip (.inl hTi))
    | true =>
    by_cases hDn : Tab.setb S i true ∈ m'.map Prod.fst
    · refine Grp.mk true (fun _ => ?_) (fun e => by simp at e) fun gs => Br.yes (hskip (.inr (.inr hDn)))
      obtain ⟨x, hx1, hx2⟩ := List.mem_map.1 hDn
      refine Ents.hit (ke := ki) (vr := vrN) (k := Tab.setb S i true) (x := 1) ki_law hE' (.head _) ((mget_mem hE'.nd).2 (by have := hm1' x hx1; rw [← hx2, ← this]; exact hx1)) fun y hy => ?_
      subst hy
      refine Bin.gtN (b := 0) ?_
      exact ⟨by trivial, rfl⟩
    refine Grp.mk false (fun _ => ?_) (fun e => by simp at e) fun gs => Br.no ?_
    · refine Ents.miss (ke := ki) (vr := vrN) (k := Tab.setb S i true) ki_law hE' (.head _) (mget_none.2 hDn) ?_
      refine Bin.gtN (a := 0) (b := 0) ?_
      exact ⟨by trivial, rfl⟩
    have hb1 := lvl_le hpl S i
    have hb2 := W_small hpl S
    have hnxt : Tab.setb S i true < 2 ^ n := Tab.setb_lt hSn hlt
    refine CallF.fn (.cons (.app .here)) (nodes_ok hpl hp hSn hlt hSi') ?_
    rintro r H2 ⟨rfl, hp2⟩
    refine Bin.addN (by simp [lim]; omega) ?_
    refine CallF.rd (.cons .left) (hkey_ok hh _) ?_
    have honce : Once l := by obtain ⟨_, _, _, _, h⟩ := hh; exact h
    have hll := hd.llen hT honce
    rintro r (⟨hno, rfl⟩ | ⟨k, hk, rfl⟩)
    · refine Ext.mk rfl (Ext.mk rfl (Bin.neN (a := 10) (b := 0) (Br.decT (by decide) ?_)))
      refine CallF.fn (.cons .left) (hpush_ok hh (by omega) _ _) ?_
      rintro r C2 ⟨l2, hh2, ⟨h, _⟩ | ⟨_, rfl, hperm⟩⟩
      · exact absurd h hno
      · exact JE.mk (hgo l2 C2 H2 hh2 hp2 (hd.push hlt hSi' hTi hST hDn hperm))
    · obtain ⟨S', k', hkk, _, _, _⟩ := hd.items _ hk
      simp only [Tab.nn, Prod.mk.injEq] at hkk
      obtain ⟨hk1, rfl⟩ := hkk
      refine Ext.mk rfl (Ext.mk rfl (Bin.neN (a := 0) (b := 0) (Br.decF (by simp) ?_)))
      refine Bin.ltN (Br.dec (fun hlt2 => ?_) (fun hlt2 => ?_))
      · refine CallF.fn (.cons .left) (hmove_ok hh (by omega) _ _) ?_
        rintro r C2 ⟨l2, hh2, ⟨h, _⟩ | ⟨k0, r0, hq1, hq2, rfl⟩⟩
        · exact absurd (List.mem_map.2 ⟨_, hk, rfl⟩) h
        · have hk0 : k0 = (k' : Int) := by
            have ho2 := honce.perm hq1.symm
            unfold Once at ho2
            rw [List.map_cons, List.nodup_cons] at ho2
            rcases List.mem_cons.1 (hq1.mem_iff.1 hk) with e | e
            · simp only [Prod.mk.injEq, true_and] at e; exact e.symm
            · exact absurd (List.mem_map.2 ⟨_, e, rfl⟩) ho2.1
          exact JE.mk (hgo l2 C2 H2 hh2 hp2 (hd.move hlt hSi' hTi hST hDn hq1 (by rw [hk0]; omega) hq2))
      · exact JE.mk (hgo l C H2 hh hp2 (hd.keep (k := k') hk (by omega)))
  · obtain rfl : i = n := by omega
    exact Back.mk ⟨m', es', ck', l, C, H1, rfl, rfl, hE', hm1', hh, hp, S, hd⟩ hmeas

end Go.Proofs
set_option linter.unusedVariables false
set_option linter.unusedSimpArgs false
set_option maxRecDepth 100000
namespace Go.Proofs
open Go Go.Sx
theorem Bin.remN {kd : IntKind} {a b : Nat} {k : Value → Prop} (hb : b ≠ 0) (h : k (.int kd ((a % b : Nat) : Int))) : Bin .num .rem (.int kd a) (.int kd b) k :=
  Bin.rem64 (by omega) rfl (by have : ((a : Int)).tmod (b : Int) = ((a % b : Nat) : Int) := rfl; rw [this]; exact h)
theorem shr_mod {a v : Nat} : (a >>> v % 2 = 1 ↔ a.testBit v = true) ∧ (a >>> v % 2 = 0 ↔ a.testBit v = false) := by
  have := Nat.testBit_eq_decide_div_mod_eq (x := a) (i := v)
  rw [this, Nat.shiftRight_eq_div_pow]
  have : a / 2 ^ v % 2 < 2 := Nat.mod_lt _ (by decide)
  constructor <;> simp
theorem MkSliceC.vals {T : TypeId} {z : Value} {kl : IntKind} {bytes n : Nat} {K : Mk → Prop} (hz : z.cells = #[z]) (hmax : n ≤ 9223372036854775807) (hb : n * bytes ≤ 281474976710656)
    (h : K (.cells (List.replicate n z).toArray T (0, 0), fun b => .slice (some ⟨b, 0, none⟩) n n)) : MkSliceC T 1 bytes z (.int kl n) (.int kl n) K := by
  refine ⟨kl, kl, n, n, rfl, rfl, Nat.le_refl _, by omega, hb, ?_⟩
  have : madeCells z.cells (n * 1) = (List.replicate n z).toArray := by
    rw [hz]
    apply Array.ext
    · simp [madeCells]
    · intro i h1 h2
      simp [madeCells, Nat.mod_one]
  rw [this]; exact h
def RowOK (C : Hp) (n : Nat) (c : Nat → Nat → Nat) (a : Nat) (u : Value) : Prop := ∃ row : List Nat, Ints .i64 C u (iw row) ∧ ∀ v, v < n → a.testBit v = false → row[v]? = some (c a v)
def LevC (n : Nat) (c : Nat → Nat → Nat) (C : Hp) (lv : List Value) (j : Nat) : Prop := lv.length = 2 ^ n ∧ ∀ a, j ≤ a → a + 1 < 2 ^ n → ∃ u, lv[a]? = some u ∧ RowOK C n c a u
def BelC (n : Nat) (c : Nat → Nat → Nat) (bl : List Nat) (j : Nat) : Prop := bl.length = 2 ^ n ∧ ∀ a, j ≤ a → a < 2 ^ n → bl[a]? = some (Tab.B n c a)
theorem RowOK.mono {C C' : Hp} {n : Nat} {c : Nat → Nat → Nat} {a : Nat} {u : Value} (h : RowOK C n c a u) (hs : ∀ x ∈ C, x ∈ C') : RowOK C' n c a u := let ⟨row, h1, h2⟩ := h; ⟨row, h1.mono hs, h2⟩
theorem LevC.mono {C C' : Hp} {n j : Nat} {c : Nat → Nat → Nat} {lv : List Value} (h : LevC n c C lv j) (hs : ∀ x ∈ C, x ∈ C') : LevC n c C' lv j := ⟨h.1, fun a h1 h2 => let ⟨u, h3, h4⟩ := h.2 a h1 h2; ⟨u, h3, h4.mono hs⟩⟩
/-- what costs answers -/
def CostR (n : Nat) (c : Nat → Nat → Nat) (r : Value) (H : Hp) : Prop :=
  ∃ b6 b8 bl lv, r = .tuple #[.slice (some ⟨b6, 0, none⟩) (2 ^ n) (2 ^ n), .slice (some ⟨b8, 0, none⟩) (2 ^ n) (2 ^ n)] ∧ (b6, Obj.cells (icells .i64 (iw bl)) 3 (0, 0)) ∈ H ∧ (b8, Obj.cells lv.toArray 25 (0, 0)) ∈ H ∧ LevC n c H lv 0 ∧ BelC n c bl 0
theorem miss_top (n : Nat) : Tab.miss n (2 ^ n - 1) = [] := by
  rw [List.eq_nil_iff_forall_not_mem]
  intro v hv
  obtain ⟨h1, h2⟩ := Tab.mem_miss.1 hv
  rw [Nat.testBit_two_pow_sub_one] at h2
  simp at h2; omega
theorem miss_ne {n a : Nat} (h : a + 1 < 2 ^ n) : Tab.miss n a ≠ [] := by
  intro e
  have : a = 2 ^ n - 1 := by
    apply Nat.eq_of_testBit_eq; intro k
    rw [Nat.testBit_two_pow_sub_one]
    by_cases hk : k < n
    · rw [decide_eq_true hk]
      cases hb : a.testBit k with
      | true => rfl
      | false => have : k ∈ Tab.miss n a := Tab.mem_miss.2 ⟨hk, hb⟩; rw [e] at this; simp at this
    · rw [decide_eq_false hk]
      exact Nat.testBit_lt_two_pow (Nat.lt_of_lt_of_le (by omega) (Nat.pow_le_pow_right (by decide) (Nat.le_of_not_lt hk)))
  omega
/-- the costs over the first places -/
def seenA (n : Nat) (c : Nat → Nat → Nat) (a k : Nat) : List Nat := ((List.range k).filter fun v => !a.testBit v).map fun v => c a v + Tab.B n c (Tab.setb a v true)
theorem seenA_all {n : Nat} {c : Nat → Nat → Nat} {a : Nat} : Tab.minOf (seenA n c a n) = Tab.B n c a := (Tab.B_step n c a).symm
theorem seenA_step {n : Nat} {c : Nat → Nat → Nat} {a k : Nat} : seenA n c a (k + 1) = if a.testBit k = true then seenA n c a k else seenA n c a k ++ [c a k + Tab.B n c (Tab.setb a k true)] := by
  unfold seenA
  rw [List.range_succ, List.filter_append, List.map_append]
  cases h1 : a.testBit k <;> simp [h1]
theorem seenA_ne {n : Nat} {c : Nat → Nat → Nat} {a : Nat} (h : Tab.miss n a ≠ []) : seenA n c a n ≠ [] := by
  unfold seenA
  intro e; exact h (List.map_eq_nil_iff.1 e)
theorem costs_ok {lst : Value} {n : Nat} {L : List (List Nat)} {B : Hp} (ht : Tbls B lst (tbs n L)) (hf : ∀ ws ∈ L, Tab.Frm n ws) (hn0 : L = [] → n = 0) (hmax : L.length < 33554432) (hn12 : n ≤ 12) :
    Px Try.prog 30 #[lst, .int .i64 (n : Int)] B (CostR n (Tab.lvl n L)) := by
  intro g
  refine L30_sound (R := FnR _) ?_
  unfold L30
  have hp2 : 2 ^ n ≤ 2 ^ 12 := Nat.pow_le_pow_right (by decide) hn12
  have hp0 := Nat.two_pow_pos n
  have hOK : L ≠ [] → PlanOK lst n L B := fun hne => ⟨ht, hf, hne, hmax, hn12⟩
  refine DR.self ?_
  have hsh : ∀ {K : Value → Prop}, K (.int .i64 ((2 ^ n : Nat) : Int)) → Bin .num .shl (.int .i64 1) (.int .i64 (n : Int)) K := fun hK =>
    Bin.shlN (a := 1) (by simp [IntKind.bits]; omega) (by rw [Nat.one_shiftLeft]; simp [lim]; omega) (by rw [Nat.one_shiftLeft]; exact hK)
  refine hsh (hsh ?_)
  refine MkSliceC.vals rfl (by omega) (by omega) ?_
  intro F
  refine MkSlice.ints (by omega) (by omega) fun b6 => ?_
  intro b8 _
  refine hsh ?_
  refine Bin.sub64 (c := ((2 ^ n - 1 : Nat) : Int) - 1) (by omega) (by omega) ?_
  refine ⟨fun vs H => ∃ (j : Nat) (bl : List Nat) (lv : List Value) (C : Hp), vs = [.int .i64 ((j : Int) - 1)] ∧ j + 1 ≤ 2 ^ n ∧ H = (b8, .cells lv.toArray 25 (0, 0)) :: (b6, .cells (icells .i64 (iw bl)) 3 (0, 0)) :: (C ++ B) ∧
      LevC n (Tab.lvl n L) C lv j ∧ BelC n (Tab.lvl n L) bl j,
    fun vs _ => match vs with | [.int _ q] => (q + 1).toNat | _ => 0, JE.mk ⟨2 ^ n - 1, List.replicate (2 ^ n) 0, List.replicate (2 ^ n) (.slice none 0 0), [], rfl, by omega, by simp [iw], ⟨by simp, fun a h1 h2 => by omega⟩, ⟨by simp, fun a h1 h2 => ?_⟩⟩, ?_⟩
  · obtain rfl : a = 2 ^ n - 1 := by omega
    rw [List.getElem?_replicate, if_pos h2, Tab.B_nil (miss_top n)]
  rintro w H ⟨j, bl, lv, C, hv, hj, rfl, hlev, hbel⟩ gs
  simp only [List.cons.injEq, and_true] at hv
  subst hv
  refine Bin.geq (Br.dec (fun h0 => ?_) (fun h0 => ?_))
  · obtain ⟨a, rfl⟩ : ∃ a, j = a + 1 := ⟨j - 1, by omega⟩
    have ea : (((a + 1 : Nat) : Int) - 1) = (a : Int) := by omega
    rw [ea]
    have hn1 : n ≠ 0 := fun e => by subst e; omega
    have hne : L ≠ [] := fun e => hn1 (hn0 e)
    have hpl := hOK hne
    have haN : a < 2 ^ n := by omega
    refine MkSlice.ints (by omega) (by omega) fun bv => ?_
    refine IAddr.nat haN ?_
    refine St.one (c := lv.toArray) (c' := (lv.set a (.slice (some ⟨bv, 0, none⟩) n n)).toArray) (by repeat (first | exact Upd.head _ | apply Upd.tail | apply Upd.prepend)) rfl (by simp [hlev.1]; omega) (by simp) ?_
    refine ⟨fun vs H => ∃ (k : Nat) (row : List Nat), vs = [bestV (seenA n (Tab.lvl n L) a k), .int .i64 (k : Int)] ∧ k ≤ n ∧ H = (bv, .cells (icells .i64 (iw row)) 3 (0, 0)) :: (b8, .cells (lv.set a (.slice (some ⟨bv, 0, none⟩) n n)).toArray 25 (0, 0)) :: (b6, .cells (icells .i64 (iw bl)) 3 (0, 0)) :: (C ++ B) ∧
        row.length = n ∧ ∀ v, v < k → a.testBit v = false → row[v]? = some (Tab.lvl n L a v),
      fun vs _ => n - nAt vs 1, JE.mk ⟨0, List.replicate n 0, rfl, Nat.zero_le _, by simp [iw], by simp, fun v hv => by omega⟩, ?_⟩
    rintro w26 w27 H ⟨k, row, hv, hk, rfl, hrl, hrow⟩ gs
    simp only [List.cons.injEq, and_true] at hv
    obtain ⟨rfl, rfl⟩ := hv
    refine Bin.ltN (Br.dec (fun hlt => ?_) (fun hlt => ?_))
    · intro J hJ
      have hgo : ∀ l row, l = seenA n (Tab.lvl n L) a (k + 1) → row.length = n → (∀ v, v < k + 1 → a.testBit v = false → row[v]? = some (Tab.lvl n L a v)) → J [bestV l] ((bv, .cells (icells .i64 (iw row)) 3 (0, 0)) :: (b8, .cells (lv.set a (.slice (some ⟨bv, 0, none⟩) n n)).toArray 25 (0, 0)) :: (b6, .cells (icells .i64 (iw bl)) 3 (0, 0)) :: (C ++ B)) := fun l row hl h1 h2 => hJ _ _ fun gs => by
        refine Bin.addN (b := 1) (by simp [lim]; omega) ?_
        exact Back.mk ⟨k + 1, row, by rw [hl], by omega, rfl, h1, h2⟩ (by rw [nAt_succ, nAt_succ]; show n - (((k:Int)+1).toNat) < n - ((k:Int).toNat); omega)
      refine Bin.shrN (by simp [lim]; omega) (Bin.remN (b := 2) (by decide) (Bin.eqN (b := 1) ?_))
      have hpk : 2 ^ k ≤ 2 ^ 12 := Nat.pow_le_pow_right (by decide) (by omega)
      refine Br.dec (fun h1 => JE.mk (hgo _ row ?_ hrl ?_)) (fun h1 => ?_)
      · rw [seenA_step, if_pos (shr_mod.1.1 h1)]
      · intro v hv hb
        by_cases e : v = k
        · subst e; rw [shr_mod.1.1 h1] at hb; cases hb
        · exact hrow v (by omega) hb
      have hak : a.testBit k = false := by
        cases h : a.testBit k
        · rfl
        · exact absurd (shr_mod.1.2 h) h1
      refine ConvI.nat (by simp only [lim]; omega) ?_
      refine CallF.rd (B := B) (.cons (.cons (.cons (.app .here)))) (rlevel_ok ht hf hne hmax haN hlt hak) ?_
      rintro v rfl
      refine Ext.mk rfl (Ext.mk rfl ?_)
      refine IAddr.nat haN ?_
      refine Ld.mk (v := .slice (some ⟨bv, 0, none⟩) n n) (by exact .tail _ (.head _)) (by simp [hlev.1, haN]) ?_
      refine IAddr.nat hlt ?_
      refine St.ints (l := iw row) (by exact .head _) (by simp; omega) ?_
      have e : (iw row).set k ((Tab.lvl n L a k : Nat) : Int) = iw (row.set k (Tab.lvl n L a k)) := by simp [iw, List.map_set]
      rw [e]
      have hrow' : ∀ v, v < k + 1 → a.testBit v = false → (row.set k (Tab.lvl n L a k))[v]? = some (Tab.lvl n L a v) := fun v hv hb => by
        rw [List.getElem?_set]
        by_cases e : k = v
        · subst e; simp [hrl, hlt]
        · rw [if_neg e]; exact hrow v (by omega) hb
      have hset := Tab.setb_add hak
      have hslt := Tab.setb_lt (b := true) haN hlt
      have hbget := hbel.2 (Tab.setb a k true) (by have := Nat.two_pow_pos k; omega) hslt
      have hb1 := lvl_le hpl a k
      have hb2 := B_small hpl (Tab.setb a k true)
      have hstep := seenA_step (n := n) (c := Tab.lvl n L) (a := a) (k := k)
      rw [if_neg (by rw [hak]; decide)] at hstep
      have hsh2 : ∀ {K : Value → Prop}, K (.int .i64 ((2 ^ k : Nat) : Int)) → Bin .num .shl (.int .i64 1) (.int .i64 (k : Int)) K := fun hK =>
        Bin.shlN (a := 1) (by simp [IntKind.bits]; omega) (by rw [Nat.one_shiftLeft]; simp [lim]; omega) (by rw [Nat.one_shiftLeft]; exact hK)
      have hread : ∀ {row' : List Nat} {K : Value → Prop}, K (.int .i64 ((Tab.lvl n L a k + Tab.B n (Tab.lvl n L) (Tab.setb a k true) : Nat) : Int)) → Bin .num .shl (.int .i64 1) (.int .i64 (k : Int)) fun v48 => Bin .num .add (.int .i64 (a : Int)) v48 fun v49 => IAddr 1 (.slice (some ⟨b6, 0, none⟩) (2 ^ n) (2 ^ n)) v49 fun v50 =>
          Ld ((bv, .cells (icells .i64 (iw row')) 3 (0, 0)) :: (b8, .cells (lv.set a (.slice (some ⟨bv, 0, none⟩) n n)).toArray 25 (0, 0)) :: (b6, .cells (icells .i64 (iw bl)) 3 (0, 0)) :: (C ++ B)) v50 fun v51 => Bin .num .add (.int .i64 ((Tab.lvl n L a k : Nat) : Int)) v51 K := fun hK => by
        refine hsh2 ?_
        refine Bin.addN (by simp [lim]; omega) ?_
        rw [← hset]
        refine IAddr.nat hslt ?_
        refine Ld.mk (v := .int .i64 ((Tab.B n (Tab.lvl n L) (Tab.setb a k true) : Nat) : Int)) (by exact .tail _ (.tail _ (.head _))) (by simp [icells, iw, hbget]) ?_
        exact Bin.addN (by simp [lim]; omega) hK
      generalize Tab.lvl n L a k + Tab.B n (Tab.lvl n L) (Tab.setb a k true) = x at hstep hread
      by_cases hl : seenA n (Tab.lvl n L) a k = []
      · have hb : bestV (seenA n (Tab.lvl n L) a k) = .int .i64 (-1) := by unfold bestV; rw [if_pos hl]
        rw [hb]
        refine Bin.lss (Grp.mk true (fun e => by simp at e) (fun _ => rfl) fun gs => Br.yes ?_)
        refine hread (JE.mk ?_)
        have := hgo [x] _ (by rw [hstep, hl]; rfl) (by simp [hrl]) hrow'
        simpa [bestV, Tab.minOf] using this
      · have hb : bestV (seenA n (Tab.lvl n L) a k) = .int .i64 ((Tab.minOf (seenA n (Tab.lvl n L) a k) : Nat) : Int) := by unfold bestV; rw [if_neg hl]
        rw [hb]
        have hms := Tab.minOf_snoc (seenA n (Tab.lvl n L) a k) x
        rw [if_neg hl, ← hstep] at hms
        have hne1 : seenA n (Tab.lvl n L) a (k + 1) ≠ [] := by rw [hstep]; simp
        have hn1 := hgo _ _ rfl (by simp [hrl]) hrow'
        unfold bestV at hn1
        rw [if_neg hne1, hms] at hn1
        have hneg : decide (((Tab.minOf (seenA n (Tab.lvl n L) a k) : Nat) : Int) < 0) = false := decide_eq_false (by omega)
        refine Bin.lss ?_
        rw [hneg]
        by_cases hx : x < Tab.minOf (seenA n (Tab.lvl n L) a k)
        · rw [Nat.min_eq_right (by omega)] at hn1
          refine Grp.mk true (fun _ => hread (Bin.ltN ?_)) (fun e => by simp at e) fun gs => Br.yes (hread (JE.mk hn1))
          exact ⟨by trivial, by rw [decide_eq_true hx]⟩
        · rw [Nat.min_eq_left (by omega)] at hn1
          refine Grp.mk false (fun _ => hread (Bin.ltN ?_)) (fun e => by simp at e) fun gs => Br.no (JE.mk hn1)
          exact ⟨by trivial, by rw [decide_eq_false hx]⟩
    · obtain rfl : k = n := by omega
      have hmne := miss_ne (n := k) (a := a) (by omega)
      have hb : bestV (seenA k (Tab.lvl k L) a k) = .int .i64 ((Tab.B k (Tab.lvl k L) a : Nat) : Int) := by unfold bestV; rw [if_neg (seenA_ne hmne), seenA_all]
      rw [hb]
      refine IAddr.nat haN ?_
      refine St.ints (l := iw bl) (by repeat (first | exact Upd.head _ | apply Upd.tail | apply Upd.prepend)) (by simp [hbel.1]; omega) ?_
      have e : (iw bl).set a ((Tab.B k (Tab.lvl k L) a : Nat) : Int) = iw (bl.set a (Tab.B k (Tab.lvl k L) a)) := by simp [iw, List.map_set]
      rw [e]
      refine Bin.sub64 (c := (a : Int) - 1) rfl (by omega) ?_
      refine Back.of (.perm ((List.Perm.swap _ _ _).trans (.cons _ (.swap _ _ _)))) ⟨a, bl.set a (Tab.B k (Tab.lvl k L) a), lv.set a (.slice (some ⟨bv, 0, none⟩) k k), (bv, .cells (icells .i64 (iw row)) 3 (0, 0)) :: C, rfl, by omega, rfl, ⟨by simp [hlev.1], fun a' h1 h2 => ?_⟩, ⟨by simp [hbel.1], fun a' h1 h2 => ?_⟩⟩ (by simp only; omega)
      · rw [List.getElem?_set]
        by_cases e : a = a'
        · subst e
          rw [if_pos rfl, if_pos (by rw [hlev.1]; exact haN)]
          refine ⟨_, rfl, row, ?_, hrow⟩
          have := Ints.block (kd := .i64) (B := (bv, .cells (icells .i64 (iw row)) 3 (0, 0)) :: C) (l := iw row) (cap := k) (.head _) (by simp [hrl])
          rwa [iw_length, hrl] at this
        · rw [if_neg e]
          obtain ⟨u, h3, h4⟩ := hlev.2 a' (by omega) h2
          exact ⟨u, h3, h4.mono (fun _ h => by repeat (first | exact h | apply List.mem_cons_of_mem | apply List.mem_append_right))⟩
      · rw [List.getElem?_set]
        by_cases e : a = a'
        · subst e; rw [if_pos rfl, if_pos (by rw [hbel.1]; exact haN)]
        · rw [if_neg e]; exact hbel.2 a' (by omega) h2
  · have hj0 : j = 0 := by omega
    subst hj0
    exact PxR.mk (by repeat (first | exact Grow.refl _ | apply Grow.cons | apply Grow.app)) ⟨b6, b8, bl, lv, rfl, by exact .tail _ (.head _), .head _, hlev.mono (fun _ h => .tail _ (.tail _ (List.mem_append_left _ h))), hbel⟩

end Go.Proofs
set_option linter.unusedVariables false
set_option linter.unusedSimpArgs false
set_option maxRecDepth 100000
namespace Go.Proofs
open Go Go.Sx
def seenP (n : Nat) (c : Nat → Nat → Nat) (s k : Nat) : List Nat := ((List.range k).filter fun v => s.testBit v).map fun v => c (Tab.setb s v false) v + Tab.W n c (Tab.setb s v false)
theorem seenP_all {n : Nat} {c : Nat → Nat → Nat} {s : Nat} : Tab.minOf (seenP n c s n) = Tab.W n c s := (Tab.W_step n c s).symm
theorem seenP_step {n : Nat} {c : Nat → Nat → Nat} {s k : Nat} : seenP n c s (k + 1) = if s.testBit k = false then seenP n c s k else seenP n c s k ++ [c (Tab.setb s k false) k + Tab.W n c (Tab.setb s k false)] := by
  unfold seenP
  rw [List.range_succ, List.filter_append, List.map_append]
  cases h1 : s.testBit k <;> simp [h1]
theorem has_ne {n s : Nat} (h : s < 2 ^ n) (h0 : s ≠ 0) : Tab.has n s ≠ [] := by
  intro e
  apply h0
  apply Nat.eq_of_testBit_eq; intro k
  rw [Nat.zero_testBit]
  by_cases hk : k < n
  · cases hb : s.testBit k with
    | false => rfl
    | true => have : k ∈ Tab.has n s := Tab.mem_has.2 ⟨hk, hb⟩; rw [e] at this; simp at this
  · exact Nat.testBit_lt_two_pow (Nat.lt_of_lt_of_le h (Nat.pow_le_pow_right (by decide) (Nat.le_of_not_lt hk)))
theorem part_ok {lst : Value} {n : Nat} {L : List (List Nat)} {B : Hp} (ht : Tbls B lst (tbs n L)) (hf : ∀ ws ∈ L, Tab.Frm n ws) (hn0 : L = [] → n = 0) (hmax : L.length < 33554432) (hn12 : n ≤ 12) : ∀ (d s : Nat), (Tab.has n s).length ≤ d → s < 2 ^ n →
    Rd Try.prog 37 #[lst, .int .i64 (n : Int), .int .i64 (s : Int)] B (· = .int .i64 ((Tab.W n (Tab.lvl n L) s : Nat) : Int)) := by
  have hp2 : 2 ^ n ≤ 2 ^ 12 := Nat.pow_le_pow_right (by decide) hn12
  have hOK : L ≠ [] → PlanOK lst n L B := fun hne => ⟨ht, hf, hne, hmax, hn12⟩
  intro d
  induction d using Nat.strongRecOn with
  | _ d ih =>
    intro s hd hs
    intro g
    refine L37_sound (R := FnR _) ?_
    unfold L37
    refine Bin.eqN (b := 0) (Br.dec (fun h0 => ?_) (fun h0 => ?_))
    · subst h0
      refine RdR.mk (.refl _) ?_
      rw [Tab.W_zero]; rfl
    have hn1 : n ≠ 0 := fun e => by subst e; omega
    have hne : L ≠ [] := fun e => hn1 (hn0 e)
    have hpl := hOK hne
    refine ⟨fun vs H => ∃ k : Nat, vs = [bestV (seenP n (Tab.lvl n L) s k), .int .i64 (k : Int)] ∧ k ≤ n ∧ H = B, fun vs _ => n - nAt vs 1, JE.mk ⟨0, rfl, Nat.zero_le _, rfl⟩, ?_⟩
    rintro w6 w7 H ⟨k, hv, hk, rfl⟩ gs
    simp only [List.cons.injEq, and_true] at hv
    obtain ⟨rfl, rfl⟩ := hv
    refine Bin.ltN (Br.dec (fun hlt => ?_) (fun hlt => ?_))
    · intro J hJ
      have hgo : ∀ l, l = seenP n (Tab.lvl n L) s (k + 1) → J [bestV l] H := fun l hl => hJ _ _ fun gs => by
        refine Bin.addN (b := 1) (by simp [lim]; omega) ?_
        exact Back.mk ⟨k + 1, by rw [hl], by omega, rfl⟩ (by rw [nAt_succ, nAt_succ]; show n - (((k:Int)+1).toNat) < n - ((k:Int).toNat); omega)
      refine Bin.shrN (by simp [lim]; omega) (Bin.remN (b := 2) (by decide) (Bin.eqN (b := 0) ?_))
      have hpk : 2 ^ k ≤ 2 ^ 12 := Nat.pow_le_pow_right (by decide) (by omega)
      refine Br.dec (fun h1 => JE.mk (hgo _ ?_)) (fun h1 => ?_)
      · rw [seenP_step, if_pos (shr_mod.2.1 h1)]
      have hsk : s.testBit k = true := by
        cases h : s.testBit k
        · exact absurd (shr_mod.2.2 h) h1
        · rfl
      have hsub := Tab.setb_sub hsk
      have hle : 2 ^ k ≤ s := Nat.ge_two_pow_of_testBit hsk
      have hslt : Tab.setb s k false < 2 ^ n := by have := Nat.two_pow_pos k; omega
      have hlen := Tab.has_set (Tab.mem_has.2 ⟨hlt, hsk⟩)
      have hsh2 : ∀ {K : Value → Prop}, K (.int .i64 ((2 ^ k : Nat) : Int)) → Bin .num .shl (.int .i64 1) (.int .i64 (k : Int)) K := fun hK =>
        Bin.shlN (a := 1) (by simp [IntKind.bits]; omega) (by rw [Nat.one_shiftLeft]; simp [lim]; omega) (by rw [Nat.one_shiftLeft]; exact hK)
      refine hsh2 (Bin.sub64 (c := ((Tab.setb s k false : Nat) : Int)) (by omega) (by omega) ?_)
      refine ConvI.nat (by simp only [lim]; omega) ?_
      refine CallF.rd .here (rlevel_ok ht hf hne hmax hslt hlt (by rw [Tab.testBit_setb]; simp)) ?_
      rintro v rfl
      refine Ext.mk rfl (Ext.mk rfl ?_)
      refine hsh2 (Bin.sub64 (c := ((Tab.setb s k false : Nat) : Int)) (by omega) (by omega) ?_)
      refine CallF.rd .here (ih (Tab.has n (Tab.setb s k false)).length (by omega) (Tab.setb s k false) (Nat.le_refl _) hslt) ?_
      rintro v rfl
      have hb1 := lvl_le hpl (Tab.setb s k false) k
      have hb2 := W_small hpl (Tab.setb s k false)
      refine Bin.addN (by simp [lim]; omega) ?_
      have hstep := seenP_step (n := n) (c := Tab.lvl n L) (s := s) (k := k)
      rw [if_neg (by rw [hsk]; decide)] at hstep
      generalize Tab.lvl n L (Tab.setb s k false) k + Tab.W n (Tab.lvl n L) (Tab.setb s k false) = x at hstep
      by_cases hl : seenP n (Tab.lvl n L) s k = []
      · have hb : bestV (seenP n (Tab.lvl n L) s k) = .int .i64 (-1) := by unfold bestV; rw [if_pos hl]
        rw [hb]
        refine Bin.lss (Grp.mk true (fun e => by simp at e) (fun _ => rfl) fun gs => Br.yes (JE.mk ?_))
        have := hgo [x] (by rw [hstep, hl]; rfl)
        simpa [bestV, Tab.minOf] using this
      · have hb : bestV (seenP n (Tab.lvl n L) s k) = .int .i64 ((Tab.minOf (seenP n (Tab.lvl n L) s k) : Nat) : Int) := by unfold bestV; rw [if_neg hl]
        rw [hb]
        have hms := Tab.minOf_snoc (seenP n (Tab.lvl n L) s k) x
        rw [if_neg hl, ← hstep] at hms
        have hne1 : seenP n (Tab.lvl n L) s (k + 1) ≠ [] := by rw [hstep]; simp
        have hn1 := hgo _ rfl
        unfold bestV at hn1
        rw [if_neg hne1, hms] at hn1
        have hneg : decide (((Tab.minOf (seenP n (Tab.lvl n L) s k) : Nat) : Int) < 0) = false := decide_eq_false (by omega)
        refine Bin.lss ?_
        rw [hneg]
        by_cases hx : x < Tab.minOf (seenP n (Tab.lvl n L) s k)
        · rw [Nat.min_eq_right (by omega)] at hn1
          refine Grp.mk true (fun _ => Bin.ltN ?_) (fun e => by simp at e) fun gs => Br.yes (JE.mk hn1)
          exact ⟨by trivial, by rw [decide_eq_true hx]⟩
        · rw [Nat.min_eq_left (by omega)] at hn1
          refine Grp.mk false (fun _ => Bin.ltN ?_) (fun e => by simp at e) fun gs => Br.no (JE.mk hn1)
          exact ⟨by trivial, by rw [decide_eq_false hx]⟩
    · obtain rfl : k = n := by omega
      refine RdR.mk (.refl _) ?_
      unfold bestV
      rw [if_neg, seenP_all]
      intro e
      exact has_ne hs h0 (List.map_eq_nil_iff.1 e)

end Go.Proofs
set_option linter.unusedVariables false
set_option linter.unusedSimpArgs false
set_option maxRecDepth 100000
namespace Go.Proofs
open Go Go.Sx
theorem one_n {ts : List Tb} (hO : OneN ts) : ∃ (n : Nat) (L : List (List Nat)), ts = tbs n L ∧ (L = [] → n = 0) ∧ n ≤ 16 ∧ (∀ ws ∈ L, Tab.Frm n ws) ∧ (ts.head?.map Tb.n).getD 0 = (n : Int) := by
  by_cases h : ts = []
  · subst h; exact ⟨0, [], rfl, fun _ => rfl, by omega, by simp, rfl⟩
  · obtain ⟨n, L, hn16, rfl, hne, hf⟩ := of_oneN hO h
    refine ⟨n, L, rfl, fun e => absurd e hne, hn16, hf, ?_⟩
    cases L with
    | nil => exact absurd rfl hne
    | cons x r => rfl
theorem docWithin_ok {B : Hp} {v : Value} {ts : List Tb} (ht : Tbls B v ts) (hmax : ts.length < 33554432) {A : Nat} (hA : A < 18446744073709551616) : Px Try.prog 16 #[v, .int .u64 (A : Int)] B (fun r _ => WithinQ ts A r) := by
  intro g
  refine L16_sound (R := FnR _) ?_
  unfold L16
  refine CallF.rd .here (rcheck19_ok ht (by omega)) ?_
  rintro r rfl
  by_cases hO : OneN ts
  case neg =>
    rw [if_neg hO]
    exact Ext.mk rfl (Ext.mk rfl (Bin.neN (a := 5) (b := 0) (Br.dec (fun _ => PxR.mk (by repeat (first | exact Grow.refl _ | apply Grow.cons | apply Grow.app)) (.inl ⟨hO, rfl⟩)) (fun h => absurd (by decide) h))))
  rw [if_pos hO]
  obtain ⟨n, L, rfl, hn0, hn16, hf, hn⟩ := one_n hO
  rw [hn]
  rw [tbs_length] at hmax
  refine Ext.mk rfl (Ext.mk rfl (Bin.neN (a := 0) (b := 0) (Br.dec (fun h => absurd rfl h) (fun _ => ?_))))
  have hp0 := Nat.two_pow_pos n
  refine Bin.shrN (by simp only [lim]; exact hA) (Bin.gtN (b := 0) (Br.dec (fun h => ?_) (fun h => ?_)))
  · rw [Nat.shiftRight_eq_div_pow] at h
    have : 2 ^ n ≤ A := by
      have := (Nat.le_div_iff_mul_le hp0).1 h
      simpa using this
    exact PxR.mk (by repeat (first | exact Grow.refl _ | apply Grow.cons | apply Grow.app)) (.inr ⟨hO, n, L, rfl, hn0, hn16, hf, .inl ⟨this, rfl⟩⟩)
  rw [Nat.shiftRight_eq_div_pow] at h
  have hAn : A < 2 ^ n := by
    have h0 : A / 2 ^ n = 0 := Nat.eq_zero_of_not_pos h
    exact (Nat.div_eq_zero_iff_lt hp0).1 h0
  refine Bin.gtN (b := 12) (Br.dec (fun h12 => PxR.mk (by repeat (first | exact Grow.refl _ | apply Grow.cons | apply Grow.app)) (.inr ⟨hO, n, L, rfl, hn0, hn16, hf, .inr (.inl ⟨hAn, h12, rfl⟩)⟩)) (fun h12 => ?_))
  have hn12 : n ≤ 12 := by omega
  have hp2 : 2 ^ n ≤ 2 ^ 12 := Nat.pow_le_pow_right (by decide) hn12
  refine CallF.px .here (costs_ok ht hf hn0 hmax hn12) ?_
  rintro r N ⟨b6, b8, bl, lv, rfl, hb6, hb8, hlev, hbel⟩
  refine Ext.mk rfl (Ext.mk rfl (DR.self ?_))
  refine ConvI.nat (by simp [lim]; omega) ?_
  refine IAddr.nat hAn ?_
  have hbA := hbel.2 A (Nat.zero_le _) hAn
  refine Ld.mk (v := .int .i64 ((Tab.B n (Tab.lvl n L) A : Nat) : Int)) hb6 (by simp [icells, iw, hbA]) ?_
  refine CallF.rd .here (part_ok (ht.mono (fun _ h => by repeat (first | exact h | apply List.mem_cons_of_mem | apply List.mem_append_right))) hf hn0 hmax hn12 _ A (Nat.le_refl _) hAn) ?_
  rintro v rfl
  refine ⟨.refl _, ?_⟩
  have hsm : Tab.W n (Tab.lvl n L) A < 35184372088832 ∧ Tab.B n (Tab.lvl n L) A < 35184372088832 := by
    by_cases hne : L = []
    · have hn' := hn0 hne
      subst hne; subst hn'
      obtain rfl : A = 0 := by omega
      refine ⟨?_, ?_⟩
      · rw [Tab.W_zero]; omega
      · show (0 : Nat) < _; omega
    · have hpl : PlanOK v n L B := ⟨ht, hf, hne, hmax, hn12⟩
      exact ⟨W_small hpl A, B_small hpl A⟩
  refine Bin.addN (by simp [lim]; omega) ?_
  exact PxR.mk (by repeat (first | exact Grow.refl _ | apply Grow.cons | apply Grow.app)) (.inr ⟨hO, n, L, rfl, hn0, hn16, hf, .inr (.inr ⟨hAn, hn12, rfl⟩)⟩)
theorem docBest_ok {B : Hp} {v : Value} {ts : List Tb} (ht : Tbls B v ts) (hmax : ts.length < 33554432) : Px Try.prog 13 #[v] B (BestQ ts B) := by
  intro g
  refine L13_sound (R := FnR _) ?_
  unfold L13
  refine CallF.rd .here (rcheck19_ok ht (by omega)) ?_
  rintro r rfl
  by_cases hO : OneN ts
  case neg =>
    rw [if_neg hO]
    exact Ext.mk rfl (Ext.mk rfl (Bin.neN (a := 5) (b := 0) (Br.dec (fun _ => PxR.mk (by repeat (first | exact Grow.refl _ | apply Grow.cons | apply Grow.app)) (.inl ⟨hO, rfl⟩)) (fun h => absurd (by decide) h))))
  rw [if_pos hO]
  obtain ⟨n, L, rfl, hn0, hn16, hf, hn⟩ := one_n hO
  rw [hn]
  rw [tbs_length] at hmax
  refine Ext.mk rfl (Ext.mk rfl (Bin.neN (a := 0) (b := 0) (Br.dec (fun h => absurd rfl h) (fun _ => ?_))))
  have hp0 := Nat.two_pow_pos n
  refine Bin.gtN (b := 12) (Br.dec (fun h12 => PxR.mk (by repeat (first | exact Grow.refl _ | apply Grow.cons | apply Grow.app)) (.inr ⟨hO, n, L, rfl, hn0, hn16, hf, .inl ⟨h12, rfl⟩⟩)) (fun h12 => ?_))
  have hn12 : n ≤ 12 := by omega
  have hp2 : 2 ^ n ≤ 2 ^ 12 := Nat.pow_le_pow_right (by decide) hn12
  refine CallF.px .here (costs_ok ht hf hn0 hmax hn12) ?_
  rintro r N ⟨b6, b8, bl, lv, rfl, hb6, hb8, hlev, hbel⟩
  refine Ext.mk rfl (Ext.mk rfl ?_)
  have hOK : L ≠ [] → PlanOK v n L B := fun hne => ⟨ht, hf, hne, hmax, hn12⟩
  have hm0 : (Tab.miss n 0).length = n := by
    have : Tab.miss n 0 = List.range n := by unfold Tab.miss; rw [List.filter_eq_self]; simp
    rw [this, List.length_range]
  refine ⟨fun vs H => ∃ (s : Value) (a : Nat) (l : List Nat) (C : Hp), vs = [s, .int .i64 (a : Int)] ∧ BSt n (Tab.lvl n L) s a l C ∧ H = C ++ (N ++ B),
    fun vs _ => (Tab.miss n (nAt vs 1)).length, JE.mk ⟨_, 0, [], [], rfl, ⟨IOwn.nil, Nat.two_pow_pos n, by rw [hm0]; rfl, by simp⟩, rfl⟩, ?_⟩
  rintro w14 w15 H ⟨s, a, l, C, hv, hb, rfl⟩ gs
  simp only [List.cons.injEq, and_true] at hv
  obtain ⟨rfl, rfl⟩ := hv
  have hblen := hb.len
  have hblt := hb.lt
  have hmC : ∀ x ∈ N ++ B, x ∈ C ++ (N ++ B) := fun _ h => List.mem_append_right _ h
  refine Bin.shlN (a := 1) (by simp [IntKind.bits]; omega) (by rw [Nat.one_shiftLeft]; simp [lim]; omega) ?_
  rw [Nat.one_shiftLeft]
  refine Bin.sub64 (c := ((2 ^ n - 1 : Nat) : Int)) (by omega) (by omega) ?_
  refine Bin.ltN (Br.dec (fun hlt => ?_) (fun hlt => ?_))
  · have hmne : Tab.miss n a ≠ [] := miss_ne (by omega)
    have hn1 : n ≠ 0 := fun e => by subst e; omega
    have hne : L ≠ [] := fun e => hn1 (hn0 e)
    have hpl := hOK hne
    have hll : l.length < n := by have := List.length_pos_iff.2 hmne; omega
    have hnf : n - l.length = n - l.length - 1 + 1 := by omega
    refine ⟨fun vs H => ∃ (k : Nat), vs = [w14, .int .i64 (a : Int), .int .i64 (k : Int)] ∧ k ≤ n ∧ (∀ u ∈ Tab.miss n a, u < k → Tab.lvl n L a u + Tab.B n (Tab.lvl n L) (Tab.setb a u true) ≠ Tab.B n (Tab.lvl n L) a) ∧ H = C ++ (N ++ B),
      fun vs _ => n - nAt vs 2, JE.mk ⟨0, rfl, by omega, fun u _ h => by omega, rfl⟩, ?_⟩
    rintro w28 w29 w30 H ⟨k, hv, hk, hmin, rfl⟩ gs
    simp only [List.cons.injEq, and_true] at hv
    obtain ⟨rfl, rfl, rfl⟩ := hv
    refine Bin.ltN (Br.dec (fun hlk => ?_) (fun hlk => ?_))
    · have hpk : 2 ^ k ≤ 2 ^ 12 := Nat.pow_le_pow_right (by decide) (by omega)
      have hsh2 : ∀ {K : Value → Prop}, K (.int .i64 ((2 ^ k : Nat) : Int)) → Bin .num .shl (.int .i64 1) (.int .i64 (k : Int)) K := fun hK =>
        Bin.shlN (a := 1) (by simp [IntKind.bits]; omega) (by rw [Nat.one_shiftLeft]; simp [lim]; omega) (by rw [Nat.one_shiftLeft]; exact hK)
      have hno : ¬ (a.testBit k = false ∧ Tab.lvl n L a k + Tab.B n (Tab.lvl n L) (Tab.setb a k true) = Tab.B n (Tab.lvl n L) a) → ∀ (u : Nat), u ∈ Tab.miss n a → u < k + 1 → Tab.lvl n L a u + Tab.B n (Tab.lvl n L) (Tab.setb a u true) ≠ Tab.B n (Tab.lvl n L) a := fun hx u hu hlu => by
        by_cases e : u = k
        · subst e; exact fun h => hx ⟨(Tab.mem_miss.1 hu).2, h⟩
        · exact hmin u hu (by omega)
      refine Bin.shrN (by simp [lim]; omega) (Bin.remN (b := 2) (by decide) (Bin.eqN (b := 0) ?_))
      by_cases hak : a.testBit k = true
      · rw [decide_eq_false (fun h => by rw [shr_mod.2.1 h] at hak; cases hak)]
        refine Grp.mk false (fun e => by simp at e) (fun _ => rfl) fun gs => Br.no ?_
        refine Bin.addN (b := 1) (by simp [lim]; omega) ?_
        refine Back.mk ⟨k + 1, rfl, by omega, hno (fun h => by rw [hak] at h; cases h.1), rfl⟩ (by rw [nAt_succ, nAt_succ, nAt_succ, nAt_succ]; show n - (((k:Int)+1).toNat) < n - ((k:Int).toNat); omega)
      have hak : a.testBit k = false := by simpa using hak
      rw [decide_eq_true (shr_mod.2.2 hak)]
      have hmem : k ∈ Tab.miss n a := Tab.mem_miss.2 ⟨hlk, hak⟩
      have hset := Tab.setb_add hak
      have hslt := Tab.setb_lt (b := true) hblt hlk
      have hb1 := lvl_le hpl a k
      have hb2 := B_small hpl (Tab.setb a k true)
      obtain ⟨u, hu1, row, hu2, hu3⟩ := hlev.2 a (Nat.zero_le _) (by omega)
      have hga := hbel.2 a (Nat.zero_le _) hblt
      have hgs := hbel.2 (Tab.setb a k true) (Nat.zero_le _) hslt
      refine Grp.mk (decide (Tab.lvl n L a k + Tab.B n (Tab.lvl n L) (Tab.setb a k true) = Tab.B n (Tab.lvl n L) a)) (fun _ => ?_) (fun e => by simp at e) fun gs => ?_
      · refine IAddr.nat hblt ?_
        refine Ld.mk (v := u) (hmC _ hb8) (by simp [hu1]) ?_
        refine Ints.ld hu2 (iw_get (hu3 k hlk hak)) hmC ?_
        refine hsh2 ?_
        refine Bin.addN (by simp [lim]; omega) ?_
        rw [← hset]
        refine IAddr.nat hslt ?_
        refine Ld.mk (v := .int .i64 ((Tab.B n (Tab.lvl n L) (Tab.setb a k true) : Nat) : Int)) (hmC _ hb6) (by simp [icells, iw, hgs]) ?_
        refine Bin.addN (by simp [lim]; omega) ?_
        refine IAddr.nat hblt ?_
        refine Ld.mk (v := .int .i64 ((Tab.B n (Tab.lvl n L) a : Nat) : Int)) (hmC _ hb6) (by simp [icells, iw, hga]) ?_
        refine Bin.eqN ?_
        exact ⟨by trivial, rfl⟩
      · refine Br.dec (fun he => ?_) (fun he => ?_)
        · have hof := ord_find (f := n - l.length - 1) hmem he hmin
          have hml := Tab.miss_set hmem
          refine BuildSl.int (e := 3) (by kernel_rfl) (by kernel_rfl) (by kernel_rfl) fun xb => ?_
          refine IOwn.app (A := [_]) hb.own (by exact .head _) (by simp; omega) (by simp; omega) fun v' C' ho => ?_
          refine hsh2 ?_
          refine Bin.addN (by simp [lim]; omega) ?_
          rw [← hset]
          refine Back.of .right ⟨v', Tab.setb a k true, l ++ [k], C', rfl, ⟨by simpa [iw] using ho, hslt, by simp; omega, ?_⟩, rfl⟩ (by rw [nAt_succ, nAt_succ]; show (Tab.miss n (Tab.setb a k true)).length < (Tab.miss n a).length; omega)
          have := hb.pre
          rw [hnf, hof] at this
          rw [List.length_append, List.length_singleton, Nat.sub_add_eq, List.append_assoc]
          exact this
        · refine Bin.addN (b := 1) (by simp [lim]; omega) ?_
          refine Back.mk ⟨k + 1, rfl, by omega, hno (fun h => he h.2), rfl⟩ (by rw [nAt_succ, nAt_succ, nAt_succ, nAt_succ]; show n - (((k:Int)+1).toNat) < n - ((k:Int).toNat); omega)
    · obtain ⟨u, h1, h2, _⟩ := Tab.ord_step (c := Tab.lvl n L) (f := 0) hmne
      exact absurd h2 (hmin u h1 (by have := (Tab.mem_miss.1 h1).1; omega))
  · have ha : a = 2 ^ n - 1 := by omega
    have hll : l.length = n := by rw [ha, miss_top] at hblen; simpa using hblen
    have hl : l = Tab.ord n (Tab.lvl n L) n 0 := by
      have := hb.pre
      rw [hll, Nat.sub_self] at this
      simpa [Tab.ord] using this
    have hown := hb.own
    rw [hl] at hown
    have hg0 := hbel.2 0 (Nat.zero_le _) hp0
    refine IAddr.of 0 rfl (by omega) ?_
    refine Ld.mk (v := .int .i64 ((Tab.B n (Tab.lvl n L) 0 : Nat) : Int)) (hmC _ hb6) (by simp [icells, iw, hg0]) ?_
    exact ⟨_, _, rfl, .refl _, (by repeat (first | exact Grow.refl _ | apply Grow.cons | apply Grow.app)), .inr ⟨hO, n, L, rfl, hn0, hn16, hf, .inr ⟨hn12, _, C, N, rfl, hown, rfl⟩⟩⟩

end Go.Proofs
