import Derived.Test.YtlnfeedpfganpaaV2
import Derived.Test.YtlnfeedpfganpaaE4
set_option linter.unusedVariables false
set_option linter.unusedSimpArgs false
set_option maxRecDepth 100000
namespace Go.Proofs
open Go Go.Sx
/-- small enough to be copied -/
def TFit (ts : List Tb) : Prop := ts.length < 4398046511104 ∧ ∀ t ∈ ts, t.ws.length * 8 ≤ 140737488351232
theorem choice_ok (B : Hp) : Px Try.prog 17 #[] B (fun r H => Tbl H r ⟨3, [216]⟩) := by
  intro g
  refine L17_sound (R := FnR _) ?_
  unfold L17
  intro b1 _
  refine BuildSl.int (e := 33) (by kernel_rfl) (by kernel_rfl) (by kernel_rfl) fun b2 => ?_
  refine Build.mk (cs := [.int .i64 3, .slice (some ⟨b2, 0, none⟩) 1 1]) (by kernel_rfl) ?_
  refine St.whole (r := [.int .i64 3, .slice (some ⟨b2, 0, none⟩) 1 1]) (by repeat (first | exact Upd.head _ | apply Upd.tail | apply Upd.prepend)) rfl rfl (by simp [Value.oneCell']) ?_
  refine LdA.whole (r := [.int .i64 3, .slice (some ⟨b2, 0, none⟩) 1 1]) (by repeat (first | assumption | exact List.Mem.head _ | apply List.Mem.tail | apply List.mem_append_right)) rfl ?_
  refine PxR.mk (by repeat (first | exact Grow.refl _ | apply Grow.cons | apply Grow.app)) ⟨_, rfl, Words.block (ws := [216]) (.head _) (by simp) (by simp)⟩
theorem order_ok {B : Hp} {v1 v2 : Value} {a b : List Int} (h1 : Ints .i64 B v1 a) (h2 : Ints .i64 B v2 b) (hmax : a.length < 2 ^ 62) : Rd Try.prog 14 #[v1, v2] B (· = .bool (decide (a = b))) := by
  intro g
  refine L14_sound (R := FnR _) ?_
  unfold L14
  refine h1.lenS (h2.lenS ?_)
  refine Bin.neN (Br.dec (fun h => ?_) (fun h => ?_))
  · exact RdR.mk (.refl _) (by rw [decide_eq_false (fun e => h (by rw [e]))])
  · refine h1.lenS ?_
    have hlen : a.length = b.length := by omega
    refine ⟨fun vs H => H = B ∧ ∃ j : Nat, vs = [.int .i64 (j : Int)] ∧ j ≤ a.length ∧ ∀ i, i < j → a[i]? = b[i]?, fun vs _ => a.length - nAt vs 0, JE.mk ⟨rfl, 0, rfl, by omega, by omega⟩, ?_⟩
    rintro w H ⟨rfl, j, hv, hj, hall⟩ gs
    simp only [List.cons.injEq, and_true] at hv
    subst hv
    refine Bin.ltN (Br.dec (fun hlt => ?_) (fun hlt => ?_))
    · have ga : a[j]? = some a[j] := List.getElem?_eq_getElem hlt
      have gb : b[j]? = some b[j] := List.getElem?_eq_getElem (by omega)
      refine h1.ld ga (fun _ h => h) (h2.ld gb (fun _ h => h) ?_)
      refine Bin.neq (Br.mk (fun hne => ?_) (fun heq => ?_))
      · refine RdR.mk (.refl _) ?_
        rw [decide_eq_false]
        intro e
        have h3 := congrArg (fun l : List Int => l[j]?) e
        simp only [ga, gb, Option.some.injEq] at h3
        simp [h3] at hne
      · refine Bin.addN (b := 1) (by simp [lim]; omega) ?_
        refine Back.mk ⟨rfl, j + 1, rfl, by omega, fun i hi => ?_⟩ (by simp [nAt]; omega)
        by_cases e : i = j
        · subst e; rw [ga, gb]; exact congrArg some (by simpa using heq)
        · exact hall i (by omega)
    · have : j = a.length := by omega
      subst this
      refine RdR.mk (.refl _) ?_
      rw [decide_eq_true]
      apply List.ext_getElem?
      intro i
      by_cases hi : i < a.length
      · exact hall i hi
      · rw [List.getElem?_eq_none (by omega), List.getElem?_eq_none (by omega)]
theorem few_ok {B : Hp} {v : Value} {ts : List Tb} (ht : Tbls B v ts) (hmax : ts.length < 2 ^ 62) : Rd Try.prog 10 #[v] B (fun r => ∃ b, r = .bool b ∧ (b = true → ts.length ≤ 12)) := by
  intro g
  refine L10_sound (R := FnR _) ?_
  unfold L10
  refine ht.lenS ?_
  refine ⟨fun vs H => H = B ∧ ∃ j : Nat, vs = [.int .i64 (j : Int)] ∧ j ≤ ts.length, fun vs _ => ts.length - nAt vs 0, JE.mk ⟨rfl, 0, rfl, by omega⟩, ?_⟩
  rintro w H ⟨rfl, j, hv, hj⟩ gs
  simp only [List.cons.injEq, and_true] at hv
  subst hv
  refine Bin.ltN (Br.dec (fun hlt => ?_) (fun hlt => ?_))
  · have hg : ts[j]? = some ts[j] := List.getElem?_eq_getElem hlt
    refine ht.ld hg (fun _ h => h) fun s hw => ?_
    intro b2 _
    refine St.whole (r := [.int .i64 ts[j].n, s]) (by exact .head _) rfl rfl (by have := oneCell_words hw; simpa [Value.oneCell'] using this) ?_
    refine LdA.whole (r := [.int .i64 ts[j].n, s]) (by exact .head _) rfl ?_
    refine CallF.rd (B := H) (.cons .here) (rform_ok (v := .agg (List.toArray [.int .i64 ts[j].n, s])) (t := ts[j]) ⟨s, rfl, hw⟩) ?_
    rintro v rfl
    have hno : Bin .num .add (.int .i64 (j : Int)) (.int .i64 1) fun v26 => Back (fun vs H' => H' = H ∧ ∃ j : Nat, vs = [.int .i64 (j : Int)] ∧ j ≤ ts.length) (fun vs _ => ts.length - nAt vs 0) [v26] ((b2, .cells (List.toArray [.int .i64 ts[j].n, s]) 42 (0, 0)) :: H) [.int .i64 (j : Int)] H := by
      refine Bin.addN (b := 1) (by simp [lim]; omega) ?_
      exact Back.of .tail ⟨rfl, j + 1, rfl, by omega⟩ (by simp [nAt]; omega)
    by_cases hT : TF ts[j]
    · rw [decide_eq_true hT]
      refine Grp.mk (decide (7 < ts[j].n)) (fun _ => ?_) (fun e => by simp at e) fun gs => ?_
      · refine FAddr.mk (Ld.mk (by repeat (first | assumption | exact List.Mem.head _ | apply List.Mem.tail | apply List.mem_append_right)) rfl ?_)
        exact Bin.gtr ⟨rfl, rfl⟩
      by_cases h7 : 7 < ts[j].n
      · rw [decide_eq_true h7]
        refine Grp.mk (decide (ts[j].n ≤ 12)) (fun _ => ?_) (fun e => by simp at e) fun gs => ?_
        · refine FAddr.mk (Ld.mk (by repeat (first | assumption | exact List.Mem.head _ | apply List.Mem.tail | apply List.mem_append_right)) rfl ?_)
          exact Bin.leq ⟨rfl, rfl⟩
        refine Br.dec (fun _ => RdR.mk .tail ⟨false, rfl, fun e => by cases e⟩) (fun _ => hno)
      · rw [decide_eq_false h7]
        exact Grp.mk false (fun e => by simp at e) (fun _ => rfl) fun gs => Br.no hno
    · rw [decide_eq_false hT]
      exact Grp.mk false (fun e => by simp at e) (fun _ => rfl) fun gs => Grp.mk false (fun e => by simp at e) (fun _ => rfl) fun gs => Br.no hno
  · refine ht.lenS (Bin.leN (b := 12) (RdR.mk (.refl _) ⟨_, rfl, fun e => by simpa using e⟩))

end Go.Proofs
set_option linter.unusedVariables false
set_option linter.unusedSimpArgs false
set_option maxRecDepth 100000
namespace Go.Proofs
open Go Go.Sx
theorem perm_front {α : Type} (A : List α) (x : α) (C N B : List α) : ((A ++ [x]) ++ (C ++ (N ++ B))).Perm (x :: (C ++ ((A ++ N) ++ B))) := by
  have h1 : ((A ++ [x]) ++ (C ++ (N ++ B))).Perm ((x :: A) ++ (C ++ (N ++ B))) := List.Perm.append_right _ (List.perm_append_singleton x A)
  refine h1.trans (.cons _ ?_)
  have h2 := List.perm_append_comm_assoc A C (N ++ B)
  refine h2.trans ?_
  rw [List.append_assoc A N B]
theorem twins_ok {B : Hp} {v : Value} {ts : List Tb} (ht : Tbls B v ts) (hfit : TFit ts) : Px Try.prog 12 #[v] B (fun r H => Tbls H r ts) := by
  intro g
  refine L12_sound (R := FnR _) ?_
  unfold L12
  have hmax := hfit.1
  refine ht.lenS ?_
  refine ⟨fun vs H => ∃ (j : Nat) (s : Value) (C N : Hp), vs = [s, .int .i64 (j : Int)] ∧ j ≤ ts.length ∧ TOwn 42 s (ts.take j) C (N ++ B) ∧ H = C ++ (N ++ B), fun vs _ => ts.length - nAt vs 1, JE.mk ⟨0, _, [], [], rfl, by omega, TOwn.nil, rfl⟩, ?_⟩
  rintro w6 w7 H ⟨j, s, C, N, hv, hj, hown, rfl⟩ gs
  simp only [List.cons.injEq, and_true] at hv
  obtain ⟨rfl, rfl⟩ := hv
  have hmC : ∀ x ∈ B, x ∈ C ++ (N ++ B) := fun _ h => List.mem_append_right _ (List.mem_append_right _ h)
  refine Bin.ltN (Br.dec (fun hlt => ?_) (fun hlt => ?_))
  · have hg : ts[j]? = some ts[j] := List.getElem?_eq_getElem hlt
    have hfj := hfit.2 ts[j] (List.getElem_mem hlt)
    refine ht.ld hg hmC fun sw hw => ?_
    have hws : Ints .u64 B sw (iw ts[j].ws) := hw.1
    intro b2 _
    refine St.whole (r := [.int .i64 ts[j].n, sw]) (by exact .head _) rfl rfl (by have := oneCell_words hw; simpa [Value.oneCell'] using this) ?_
    refine DR.of (R := (b2, .cells (List.toArray [.int .i64 ts[j].n, sw]) 42 (0, 0)) :: (N ++ B)) (.cons .right) ?_
    refine FAddr.mk (Ld.mk (by repeat (first | assumption | exact List.Mem.head _ | apply List.Mem.tail | apply List.mem_append_right)) rfl ?_)
    refine FAddr.mk (Ld.mk (by repeat (first | assumption | exact List.Mem.head _ | apply List.Mem.tail | apply List.mem_append_right)) rfl ?_)
    refine BuildSl.none (e := 33) (k := 1) (z := .int .u64 0) (by kernel_rfl) (by kernel_rfl) (by kernel_rfl) fun b3 => ?_
    refine ⟨.skip (.cons .right), ?_⟩
    refine IOwn.apps (A := []) (C := [_]) (l := []) (.inr ⟨b3, [], rfl, rfl, by simp⟩) (hws.mono fun _ h => .tail _ (.tail _ (hmC _ h))) (by simp; omega) (by simp; omega) fun s' C' ho => ?_
    refine ⟨by rw [List.nil_append]; exact .trans .right (.cons .right), ?_⟩
    have hol : ∃ a c, s' = .slice a ts[j].ws.length c := by obtain ⟨a, c, e⟩ := SOwn.len ho; exact ⟨a, c, by simpa using e⟩
    obtain ⟨a', c', rfl⟩ := hol
    refine Build.mk (cs := [.int .i64 ts[j].n, .slice a' ts[j].ws.length c']) (by kernel_rfl) ?_
    refine buildOne fun b4 => ?_
    refine ⟨.skip (by rw [List.nil_append]; exact .trans .right (.cons .right)), ?_⟩
    have hw' : Words (C' ++ (N ++ B)) (.slice a' ts[j].ws.length c') ts[j].ws := ⟨(by have := ho.ints; rw [List.nil_append] at this; exact this.mono fun _ h => List.mem_append_left _ h), hw.2⟩
    have hown' : TOwn 42 w6 (ts.take j) C (C' ++ (N ++ B)) := hown.mono fun _ h => List.mem_append_right _ h
    have e : ∀ x y : Nat × Obj, x :: ([] ++ (C' ++ (y :: (C ++ (N ++ B))))) = (x :: (C' ++ [y])) ++ (C ++ (N ++ B)) := fun x y => by simp
    rw [e]
    refine hown'.app (t := ts[j]) (by exact .head _) hw' (by rw [List.length_take]; omega) fun v' C'' ho' => ?_
    refine ⟨.skip (.trans (.perm (perm_front C' _ C'' N B)) ?_), ?_⟩
    · exact .cons (.trans .right (by rw [List.append_assoc]; exact .right))
    · refine Bin.addN (b := 1) (by simp [lim]; omega) ?_
      have et : ts.take j ++ [ts[j]] = ts.take (j + 1) := by rw [List.take_succ_eq_append_getElem hlt]
      rw [et] at ho'
      exact Back.of (.skip (.trans (.perm (perm_front C' _ C'' N B)) .tail)) ⟨j + 1, v', C'', C' ++ N, rfl, by omega, by rw [List.append_assoc]; exact ho', rfl⟩ (by rw [nAt_succ, nAt_succ]; show ts.length - (((j:Int)+1).toNat) < ts.length - ((j:Int).toNat); omega)
  · obtain rfl : j = ts.length := by omega
    rw [List.take_length] at hown
    exact PxR.mk (by repeat (first | exact Grow.refl _ | apply Grow.cons | apply Grow.app)) (hown.tbls (fun _ h => List.mem_append_left _ h) (fun _ h => List.mem_append_right _ h))

end Go.Proofs
set_option linter.unusedVariables false
set_option linter.unusedSimpArgs false
set_option maxRecDepth 100000
namespace Go.Proofs
open Go Go.Sx
theorem aw1 : Tab.B 3 (Tab.lvl 3 [[216]]) 0 = 3 := by decide +kernel
theorem aw2 : Tab.ord 3 (Tab.lvl 3 [[216]]) 3 0 = [0, 1, 2] := by decide +kernel
theorem aw3 : Tab.W 3 (Tab.lvl 3 [[216]]) 4 + Tab.B 3 (Tab.lvl 3 [[216]]) 4 = 4 := by decide +kernel
theorem tbs_inj {n m : Nat} {L M : List (List Nat)} (h : tbs n L = tbs m M) (hn : L = [] → n = 0) (hm : M = [] → m = 0) : n = m ∧ L = M := by
  have e : ∀ k (X : List (List Nat)), (tbs k X).map Tb.ws = X := fun k X => by
    unfold tbs; rw [List.map_map]
    have : (Tb.ws ∘ fun ws => (⟨k, ws⟩ : Tb)) = id := rfl
    rw [this, List.map_id]
  have hL : L = M := by rw [← e n L, h, e]
  subst hL
  refine ⟨?_, rfl⟩
  cases L with
  | nil => rw [hn rfl, hm rfl]
  | cons x r =>
    simp only [tbs, List.map_cons, List.cons.injEq, Tb.mk.injEq, and_true] at h
    omega
/-- what two lists of the same tables have to do with one another -/
theorem best_of {n : Nat} {L : List (List Nat)} {B H : Hp} {r : Value} (hn : L = [] → n = 0) (hO : OneN (tbs n L)) (hn12 : n ≤ 12) (h : BestQ (tbs n L) B r H) :
    ∃ (s : Value) (C N : Hp), r = .tuple #[.int .i64 ((Tab.B n (Tab.lvl n L) 0 : Nat) : Int), s, .int .i64 0] ∧ IOwn 3 .i64 s (iw (Tab.ord n (Tab.lvl n L) n 0)) C ∧ H = C ++ (N ++ B) := by
  rcases h with ⟨h, _⟩ | ⟨_, m, M, e, hm, _, _, h⟩
  · exact absurd hO h
  · obtain ⟨rfl, rfl⟩ := tbs_inj e hn hm
    rcases h with ⟨h, _⟩ | ⟨_, h⟩
    · omega
    · exact h
theorem within_of {n A : Nat} {L : List (List Nat)} {r : Value} (hn : L = [] → n = 0) (hO : OneN (tbs n L)) (hn12 : n ≤ 12) (hA : A < 2 ^ n) (h : WithinQ (tbs n L) A r) :
    r = .tuple #[.int .i64 ((Tab.W n (Tab.lvl n L) A + Tab.B n (Tab.lvl n L) A : Nat) : Int), .int .i64 0] := by
  rcases h with ⟨h, _⟩ | ⟨_, m, M, e, hm, _, _, h⟩
  · exact absurd hO h
  · obtain ⟨rfl, rfl⟩ := tbs_inj e hn hm
    rcases h with ⟨h, _⟩ | ⟨_, h, _⟩ | ⟨_, _, h⟩
    · omega
    · omega
    · exact h
theorem ord_len (n : Nat) (c : Nat → Nat → Nat) : ∀ f a, (Tab.ord n c f a).length ≤ f
  | 0, a => by simp [Tab.ord]
  | f + 1, a => by
    rw [Tab.ord]
    split
    · have := ord_len n c f
      rename_i v _
      have := this (Tab.setb a v true)
      simp; exact this
    · simp
theorem awake_ok (B : Hp) : Px Try.prog 9 #[] B (fun r _ => r = .bool true) := by
  intro g
  refine L9_sound (R := FnR _) ?_
  unfold L9
  have hch : OneN (tbs 3 [[216]]) := by decide +kernel
  refine CallF.px .here (choice_ok B) ?_
  rintro v N ⟨s, rfl, hw⟩
  refine buildOne fun b2 => ?_
  have ht : Tbls ((b2, .cells #[.int .i64 3, s] 42 (0, 0)) :: (N ++ B)) (.slice (some ⟨b2, 0, none⟩) 1 1) (tbs 3 [[216]]) := Tbls.one (cap := 0) (t := ⟨3, [216]⟩) (.head _) (hw.mono (fun _ h => by repeat (first | exact h | apply List.mem_cons_of_mem | apply List.mem_append_right)))
  refine CallF.px .here (best_ok ht (by simp [tbs])) ?_
  rintro r N2 hb
  obtain ⟨so, C, N3, rfl, ho, hH⟩ := best_of (by simp) hch (by omega) hb
  rw [aw2] at ho
  rw [aw1]
  refine Ext.mk rfl (Ext.mk rfl (Ext.mk rfl ?_))
  rw [hH]
  clear hb hH N2
  refine CallF.px .here (choice_ok _) ?_
  rintro v N4 ⟨s2, rfl, hw2⟩
  refine buildOne fun b5 => ?_
  refine CallF.px .here (within_ok (A := 4) (ts := tbs 3 [[216]]) (Tbls.one (cap := 0) (t := ⟨3, [216]⟩) (.head _) (hw2.mono (fun _ h => by repeat (first | exact h | apply List.mem_cons_of_mem | apply List.mem_append_right)))) (by simp [tbs]) (by omega)) ?_
  rintro r N5 hq
  rw [within_of (by simp) hch (by omega) (by omega) hq, aw3]
  refine Ext.mk rfl (Ext.mk rfl ?_)
  intro J hJ
  refine Bin.eqN (a := 3) (b := 3) (Split.go (by decide) ?_)
  refine BuildSl.ints3 (e := 3) (by kernel_rfl) (by kernel_rfl) (by kernel_rfl) fun b6 => ?_
  refine CallF.rd .here (order_ok (a := iw [0, 1, 2]) (b := [0, 1, 2]) (ho.ints.mono fun _ h => .tail _ (List.mem_append_right _ (.tail _ (List.mem_append_right _ (List.mem_append_left _ h))))) (Ints.block (l := [0, 1, 2]) (.head _) (by simp)) (by simp)) ?_
  rintro v rfl
  refine Pick.mk (Split.go rfl ?_)
  refine Bin.eqN (a := 0) (b := 0) (Pick.mk (Split.go rfl ?_))
  refine Bin.eqN (a := 4) (b := 4) (Pick.mk (Split.go rfl ?_))
  refine Bin.eqN (a := 0) (b := 0) (Pick.mk (JE.mk (hJ _ _ fun gs => ?_)))
  exact PxR.mk (by repeat (first | exact Grow.refl _ | apply Grow.cons | apply Grow.app)) rfl

end Go.Proofs
set_option linter.unusedVariables false
set_option linter.unusedSimpArgs false
set_option maxRecDepth 100000
namespace Go.Proofs
open Go Go.Sx
theorem bests_law {B : Hp} {v : Value} {ts : List Tb} (ht : Tbls B v ts) (hfit : TFit ts) : Px Try.prog 3 #[v] B (fun r _ => r = .bool true) := by
  intro g
  refine L3_sound (R := FnR _) ?_
  unfold L3
  refine CallF.px .here (awake_ok B) ?_
  rintro v N rfl
  refine Un.not (Br.no ?_)
  refine CallF.rd .here (few_ok (ht.mono (fun _ h => by repeat (first | exact h | apply List.mem_cons_of_mem | apply List.mem_append_right))) (by have := hfit.1; omega)) ?_
  rintro v ⟨b, rfl, hb⟩
  cases b with
  | false => exact Un.not (Br.yes (PxR.mk (by repeat (first | exact Grow.refl _ | apply Grow.cons | apply Grow.app)) rfl))
  | true =>
  have h12 := hb rfl
  refine Un.not (Br.no ?_)
  refine CallF.px .here (twins_ok (ht.mono (fun _ h => by repeat (first | exact h | apply List.mem_cons_of_mem | apply List.mem_append_right))) hfit) ?_
  intro v2 N2 ht2
  refine CallF.px .here (best_ok ht2 (by omega)) ?_
  intro r N3 hq1
  have hfin : ∀ H : Hp, Grow B H → FnR (fun v H => Grow B H ∧ v = .bool true) (.returned (.bool true)) H := fun H hg => PxR.mk hg rfl
  have hnil : ∀ {H' : Hp}, Ints .i64 H' (.slice none 0 0) [] := Ints.nil
  rcases hq1 with ⟨hO, rfl⟩ | ⟨hO, n, L, rfl, hn0, hn16, hf, hq1⟩
  · refine Ext.mk rfl (Ext.mk rfl (Ext.mk rfl ?_))
    refine CallF.px .here (docBest_ok (ht.mono (fun _ h => by repeat (first | exact h | apply List.mem_cons_of_mem | apply List.mem_append_right))) (by omega)) ?_
    rintro r N4 (⟨_, rfl⟩ | ⟨h, _⟩)
    case inr => exact absurd h hO
    refine Ext.mk rfl (Ext.mk rfl (Ext.mk rfl ?_))
    intro J hJ
    refine Bin.eqN (a := 0) (b := 0) (Split.go (by decide) ?_)
    refine CallF.rd .here (order_ok hnil hnil (by simp)) ?_
    rintro v rfl
    refine Pick.mk (Split.go rfl ?_)
    exact Bin.eqN (a := 5) (b := 5) (Pick.mk (JE.mk (hJ _ _ fun gs => hfin _ (by repeat (first | exact Grow.refl _ | apply Grow.cons | apply Grow.app)))))
  · rcases hq1 with ⟨h13, rfl⟩ | ⟨h12', s1, C1, N1, rfl, ho1, hH1⟩
    · refine Ext.mk rfl (Ext.mk rfl (Ext.mk rfl ?_))
      refine CallF.px .here (docBest_ok (ht.mono (fun _ h => by repeat (first | exact h | apply List.mem_cons_of_mem | apply List.mem_append_right))) (by omega)) ?_
      rintro r N4 (⟨h, _⟩ | ⟨_, m, M, e, hm0, _, _, hq2⟩)
      · exact absurd hO h
      obtain ⟨rfl, rfl⟩ := tbs_inj e hn0 hm0
      rcases hq2 with ⟨_, rfl⟩ | ⟨h, _⟩
      case inr => omega
      refine Ext.mk rfl (Ext.mk rfl (Ext.mk rfl ?_))
      intro J hJ
      refine Bin.eqN (a := 0) (b := 0) (Split.go (by decide) ?_)
      refine CallF.rd .here (order_ok hnil hnil (by simp)) ?_
      rintro v rfl
      refine Pick.mk (Split.go rfl ?_)
      exact Bin.eqN (a := 6) (b := 6) (Pick.mk (JE.mk (hJ _ _ fun gs => hfin _ (by repeat (first | exact Grow.refl _ | apply Grow.cons | apply Grow.app)))))
    · refine Ext.mk rfl (Ext.mk rfl (Ext.mk rfl ?_))
      rw [hH1]
      refine CallF.px .here (docBest_ok (ts := tbs n L) (ht.mono (fun _ h => by repeat (first | exact h | apply List.mem_cons_of_mem | apply List.mem_append_right))) (by omega)) ?_
      intro r N4 hq2
      obtain ⟨s2, C2, N5, rfl, ho2, hH2⟩ := best_of hn0 hO h12' hq2
      refine Ext.mk rfl (Ext.mk rfl (Ext.mk rfl ?_))
      rw [hH2]
      intro J hJ
      refine Bin.eqN (Split.go (decide_eq_true rfl) ?_)
      have hl := ord_len n (Tab.lvl n L) n 0
      refine CallF.rd .here (order_ok (ho1.ints.mono fun _ h => List.mem_append_right _ (List.mem_append_right _ (List.mem_append_left _ h))) (ho2.ints.mono fun _ h => List.mem_append_left _ h) (by simp [iw]; omega)) ?_
      rintro v rfl
      rw [decide_eq_true rfl]
      refine Pick.mk (Split.go rfl ?_)
      exact Bin.eqN (a := 0) (b := 0) (Pick.mk (JE.mk (hJ _ _ fun gs => hfin _ (by repeat (first | exact Grow.refl _ | apply Grow.cons | apply Grow.app)))))
theorem withinQ_det {ts : List Tb} {A : Nat} {r : Value} (h : WithinQ ts A r) : (∃ (x e : Nat), r = .tuple #[.int .i64 (x : Int), .int .i64 (e : Int)]) ∧ ∀ r2, WithinQ ts A r2 → r2 = r := by
  rcases h with ⟨hO, rfl⟩ | ⟨hO, n, L, rfl, hn0, hn16, hf, hq1⟩
  · refine ⟨⟨0, 5, rfl⟩, ?_⟩
    rintro r2 (⟨_, rfl⟩ | ⟨h, _⟩)
    · rfl
    · exact absurd h hO
  · have hd : ∀ r2, WithinQ (tbs n L) A r2 → ((2 ^ n ≤ A ∧ r2 = .tuple #[.int .i64 0, .int .i64 2]) ∨ (A < 2 ^ n ∧ 12 < n ∧ r2 = .tuple #[.int .i64 0, .int .i64 6]) ∨
     (A < 2 ^ n ∧ n ≤ 12 ∧ r2 = .tuple #[.int .i64 ((Tab.W n (Tab.lvl n L) A + Tab.B n (Tab.lvl n L) A : Nat) : Int), .int .i64 0])) := by
      rintro r2 (⟨h, _⟩ | ⟨_, m, M, e, hm0, _, _, hq2⟩)
      · exact absurd hO h
      · obtain ⟨rfl, rfl⟩ := tbs_inj e hn0 hm0
        exact hq2
    rcases hq1 with ⟨h1, rfl⟩ | ⟨h1, h2, rfl⟩ | ⟨h1, h2, rfl⟩
    · refine ⟨⟨0, 2, rfl⟩, fun r2 h => ?_⟩
      rcases hd r2 h with ⟨h3, rfl⟩ | ⟨h3, h4, rfl⟩ | ⟨h3, h4, rfl⟩ <;> first | rfl | omega
    · refine ⟨⟨0, 6, rfl⟩, fun r2 h => ?_⟩
      rcases hd r2 h with ⟨h3, rfl⟩ | ⟨h3, h4, rfl⟩ | ⟨h3, h4, rfl⟩ <;> first | rfl | omega
    · refine ⟨⟨_, 0, rfl⟩, fun r2 h => ?_⟩
      rcases hd r2 h with ⟨h3, rfl⟩ | ⟨h3, h4, rfl⟩ | ⟨h3, h4, rfl⟩ <;> first | rfl | omega
theorem withins_law {B : Hp} {v : Value} {ts : List Tb} (ht : Tbls B v ts) (hfit : TFit ts) {A : Nat} (hA : A < 18446744073709551616) : Px Try.prog 4 #[v, .int .u64 (A : Int)] B (fun r _ => r = .bool true) := by
  intro g
  refine L4_sound (R := FnR _) ?_
  unfold L4
  refine CallF.px .here (awake_ok B) ?_
  rintro v N rfl
  refine Un.not (Br.no ?_)
  refine CallF.rd .here (few_ok (ht.mono (fun _ h => by repeat (first | exact h | apply List.mem_cons_of_mem | apply List.mem_append_right))) (by have := hfit.1; omega)) ?_
  rintro v ⟨b, rfl, hb⟩
  cases b with
  | false => exact Un.not (Br.yes (PxR.mk (by repeat (first | exact Grow.refl _ | apply Grow.cons | apply Grow.app)) rfl))
  | true =>
  have h12 := hb rfl
  refine Un.not (Br.no ?_)
  refine CallF.px .here (twins_ok (ht.mono (fun _ h => by repeat (first | exact h | apply List.mem_cons_of_mem | apply List.mem_append_right))) hfit) ?_
  intro v2 N2 ht2
  refine CallF.px .here (within_ok ht2 (by omega) hA) ?_
  intro r N3 hq1
  obtain ⟨⟨x, e, rfl⟩, hdet⟩ := withinQ_det hq1
  refine Ext.mk rfl (Ext.mk rfl ?_)
  refine CallF.px .here (docWithin_ok (ht.mono (fun _ h => by repeat (first | exact h | apply List.mem_cons_of_mem | apply List.mem_append_right))) (by omega) hA) ?_
  intro r2 N5 hq2
  obtain rfl := hdet r2 hq2
  refine Ext.mk rfl (Ext.mk rfl ?_)
  refine Bin.eqN (Grp.mk true (fun _ => Bin.eqN ?_) (fun e => by simp at e) fun gs => PxR.mk (by repeat (first | exact Grow.refl _ | apply Grow.cons | apply Grow.app)) rfl)
  exact ⟨by trivial, by rw [decide_eq_true rfl]⟩

end Go.Proofs
set_option linter.unusedVariables false
set_option linter.unusedSimpArgs false
set_option maxRecDepth 100000
namespace Go.Proofs
open Go Go.Sx
section
open Go.ChangeShapes Go.WideShapes Go.Deep
variable {H : Type} {enc : TypeId × Value → H} {W : World} {base : Nat} {spare : Nat → Bool} {held : Bool}
theorem iw_of {l : List Int} (h : ∀ n ∈ l, (Lit.int .u64 n).wf = true) : ∃ ws : List Nat, iw ws = l ∧ ∀ w ∈ ws, w < 18446744073709551616 := by
  induction l with
  | nil => exact ⟨[], rfl, by simp⟩
  | cons n r ih =>
    obtain ⟨ws, h1, h2⟩ := ih fun m hm => h m (by simp [hm])
    have := bounds_u64 (h n (by simp))
    refine ⟨n.toNat :: ws, ?_, fun w hw => ?_⟩
    · simp only [iw, List.map_cons] at h1 ⊢
      rw [h1]; congr 1; omega
    · rcases List.mem_cons.1 hw with rfl | hw
      · omega
      · exact h2 w hw
theorem tbl_of {fuel : Nat} {cs : List Value} {y : DataW H × List MemPlace} (hl : cs.length = 2) (h : DataW.trod enc Try.prog W base spare held fuel 42 cs = some y) :
    ∃ t : Tb, TRow (whole W) cs t ∧ ((∀ n ∈ y.1.weights Try.prog 42, n ≤ reachBytes) → t.ws.length * 8 ≤ 140737488351232) := by
  obtain ⟨xs, n, _, hy, _, hx, hf⟩ := DataW.trod_struct Try.underlying42 h
  match cs, hl with
  | [c0, c1], _ =>
    have hx2 : xs.length = 2 := hx
    have k3 : Try.prog.cellsOf 3 = 1 := by kernel_rfl
    have k40 : Try.prog.cellsOf 40 = 1 := by kernel_rfl
    have k33 : Try.prog.cellsOf 33 = 1 := by kernel_rfl
    have g0 : DataW.trod enc Try.prog W base spare held n 3 (List.take (Try.prog.cellsOf 3) [c0, c1]) = xs[0]? := hf 0 _ rfl
    have g1 : DataW.trod enc Try.prog W base spare held n 40 (List.take (Try.prog.cellsOf 40) [c1]) = xs[1]? := hf 1 _ rfl
    rw [k3, List.getElem?_eq_getElem (by omega)] at g0
    rw [k40, List.getElem?_eq_getElem (by omega)] at g1
    simp only [List.take_succ_cons, List.take_zero] at g0 g1
    obtain ⟨n0, e0, _, _⟩ := DataW.trod_int Try.underlying3 g0
    obtain ⟨v, l, e1, hi, hwf, hw⟩ := trod_ints Try.underlying40 Try.underlying33 k33 g1
    simp only [List.cons.injEq, and_true] at e0 e1
    subst e0; subst e1
    obtain ⟨ws, rfl, hlt⟩ := iw_of hwf
    refine ⟨⟨n0, ws⟩, ⟨c1, rfl, hi, hlt⟩, fun hall => ?_⟩
    rcases hw with ⟨h1, _⟩ | ⟨es, sp, h1, h2⟩
    · have : ws = [] := by simpa [iw] using h1
      subst this; simp
    · have hm : (es.length + sp.length) * Try.prog.bytesOf 33 ∈ y.1.weights Try.prog 42 := by
        rw [hy]
        match xs, hx2 with
        | [x0, x1], _ =>
          simp only [List.getElem_cons_succ, List.getElem_cons_zero] at h1
          simp only [List.map_cons, List.map_nil, h1, DataW.weights, Try.underlying42]
          refine List.mem_append_right _ ?_
          exact List.mem_append_left _ (by rw [DataW.weights, Try.underlying40]; exact List.mem_cons_self ..)
      have := hall _ hm
      rw [show Try.prog.bytesOf 33 = 8 by kernel_rfl] at this
      have h3 : reachBytes = 140737488351232 := rfl
      rw [iw_length] at h2
      simp only at this ⊢
      omega
theorem weightsAll_mem {P : Program} {e : TypeId} : ∀ {ds : List (DataW H)} {i : Nat} {d : DataW H}, ds[i]? = some d → ∀ n ∈ d.weights P e, n ∈ DataW.weightsAll P e ds
  | d0 :: r, 0, d, h, n, hn => by
    simp only [List.getElem?_cons_zero, Option.some.injEq] at h; subst h
    rw [DataW.weightsAll]; exact List.mem_append_left _ hn
  | d0 :: r, i + 1, d, h, n, hn => by
    rw [DataW.weightsAll]; exact List.mem_append_right _ (weightsAll_mem (by simpa using h) n hn)
  | [], i, d, h, n, hn => by simp at h
theorem tbls_of {v : Value} {d : DataW H} {ps : List MemPlace} (h : DataW.Trod enc Try.prog W base spare held 22 v d ps) (hv : ∃ a n c, v = .slice a n c) :
    ∃ ts, Tbls (whole W) v ts ∧ ((∀ n ∈ d.weights Try.prog 22, n ≤ reachBytes) → TFit ts) := by
  obtain ⟨fuel, hf⟩ := h
  obtain ⟨v', rs, hcs, hsl, hx, hr⟩ := trod_rows Try.underlying22 (k := 2) (by kernel_rfl) (by decide) hf
  have hvv : v' = v := by
    obtain ⟨a, n, c, rfl⟩ := hv
    simpa [Value.cells] using hcs.symm
  subst hvv
  have hex : ∀ (rs : List (List Value)) (j : Nat), (∀ r ∈ rs, r.length = 2) → (∀ (i : Nat) (r : List Value), rs[i]? = some r → ∃ (fuel : Nat) (y : DataW H × List MemPlace) (es sp : List (DataW H)), DataW.trod enc Try.prog W base spare held fuel 42 r = some y ∧ d = .slice es sp ∧ es[i + j]? = some y.1) →
      ∃ ts : List Tb, ts.length = rs.length ∧ ∀ (i : Nat) (r : List Value) (t : Tb), rs[i]? = some r → ts[i]? = some t → TRow (whole W) r t ∧ ((∀ n ∈ d.weights Try.prog 22, n ≤ reachBytes) → t.ws.length * 8 ≤ 140737488351232) := by
    intro rs
    induction rs with
    | nil => intro j _ _; exact ⟨[], rfl, by simp⟩
    | cons r rest ih =>
      intro j hall hr
      obtain ⟨ts, h1, h2⟩ := ih (j + 1) (fun r h => hall r (by simp [h])) fun i r' hi => by
        have := hr (i + 1) r' (by simpa using hi)
        rwa [show i + 1 + j = i + (j + 1) by omega] at this
      obtain ⟨f, y, es, sp, h3, h4, h5⟩ := hr 0 r rfl
      obtain ⟨t, h6, h7⟩ := tbl_of (hall r (by simp)) h3
      refine ⟨t :: ts, by simp [h1], fun i r' t' g1 g2 => ?_⟩
      cases i with
      | zero =>
        simp only [List.getElem?_cons_zero, Option.some.injEq] at g1 g2
        subst g1; subst g2
        refine ⟨h6, fun hall => h7 fun n hn => hall n ?_⟩
        rw [h4, DataW.weights, Try.underlying22]
        exact .tail _ (List.mem_append_left _ (weightsAll_mem h5 n hn))
      | succ i => exact h2 i r' t' (by simpa using g1) (by simpa using g2)
  obtain ⟨ts, h1, h2⟩ := hex rs 0 hsl.1 hr
  refine ⟨ts, ⟨rs, hsl, h1.symm, fun i r x g1 g2 => (h2 i r x g1 g2).1⟩, fun hall => ⟨?_, fun t ht => ?_⟩⟩
  · rcases hx with ⟨h3, _⟩ | ⟨es, sp, h3, h4⟩
    · subst h3; have := h1; simp at this; subst this; simp
    · simp only at h3
      have := hall ((es.length + sp.length) * Try.prog.bytesOf 42) (by rw [h3, DataW.weights, Try.underlying22]; exact List.mem_cons_self ..)
      rw [show Try.prog.bytesOf 42 = 32 by kernel_rfl] at this
      have h5 := reachBytes_lt
      omega
  · obtain ⟨i, hi, e⟩ := List.mem_iff_getElem.1 ht
    have hir : i < rs.length := by omega
    exact (h2 i _ t (List.getElem?_eq_getElem hir) (by rw [List.getElem?_eq_getElem hi, e])).2 hall
end

end Go.Proofs
