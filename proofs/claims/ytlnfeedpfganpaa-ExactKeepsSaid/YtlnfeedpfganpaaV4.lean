import Derived.Test.YtlnfeedpfganpaaV3
import Derived.Test.YtlnfeedpfganpaaE4
set_option linter.unusedVariables false
set_option linter.unusedSimpArgs false
set_option maxRecDepth 100000
namespace Go.Proofs
open Go Go.Sx
section
open Go.ChangeShapes Go.WideShapes Go.Deep
variable {H : Type} {enc : TypeId × Value → H} {W : World} {base : Nat} {spare : Nat → Bool} {held : Bool}
/-- an argument that is a list of ints -/
theorem list_of {v : Value} {d : DataW H} {ps : List MemPlace} (h : DataW.Trod enc Try.prog W base spare held 25 v d ps) (hv : ∃ a n c, v = .slice a n c) :
    ∃ l, Ints .i64 (whole W) v l ∧ (∀ x ∈ l, -9223372036854775808 ≤ x ∧ x ≤ 9223372036854775807) ∧ ((∀ n ∈ d.weights Try.prog 25, n ≤ reachBytes) → l.length * 8 ≤ 140737488351232) := by
  obtain ⟨fuel, hf⟩ := h
  have k3 : Try.prog.cellsOf 3 = 1 := by kernel_rfl
  obtain ⟨v', l, hcs, hi, hwf, hw⟩ := trod_ints Try.underlying25 Try.underlying3 k3 hf
  have hvv : v' = v := by
    obtain ⟨a, n, c, rfl⟩ := hv
    simpa [Value.cells] using hcs.symm
  subst hvv
  refine ⟨l, hi, fun x hx => bounds_i64 (hwf x hx), fun hall => ?_⟩
  rcases hw with ⟨h1, _⟩ | ⟨es, sp, h1, h2⟩
  · subst h1; simp
  · simp only at h1
    have := hall ((es.length + sp.length) * Try.prog.bytesOf 3) (by rw [h1, DataW.weights, Try.underlying25]; exact List.mem_cons_self ..)
    rw [show Try.prog.bytesOf 3 = 8 by kernel_rfl] at this
    have h3 : reachBytes = 140737488351232 := rfl
    omega
end
/-- does a list of ints stand ahead of another? -/
def aheadI : List Int → List Int → Bool
  | [], [] => false
  | [], _ :: _ => true
  | _ :: _, [] => false
  | x :: a, y :: b => if x = y then aheadI a b else decide (x < y)
theorem aheadI_iw : ∀ a b : List Nat, aheadI (iw a) (iw b) = Tab.aheadN a b
  | [], [] => rfl
  | [], _ :: _ => rfl
  | _ :: _, [] => rfl
  | x :: a, y :: b => by
    show (if (x : Int) = (y : Int) then aheadI (iw a) (iw b) else decide ((x : Int) < (y : Int))) = if x = y then Tab.aheadN a b else decide (x < y)
    rw [aheadI_iw a b]
    by_cases e : x = y
    · rw [if_pos e, if_pos (by omega)]
    · rw [if_neg e, if_neg (by omega), decide_eq_decide]; omega
theorem aheadI_end : ∀ a b : List Int, a = [] ∨ b = [] → aheadI a b = decide (a.length < b.length)
  | [], [], _ => rfl
  | [], _ :: _, _ => by simp [aheadI]
  | _ :: _, [], _ => by simp [aheadI]
  | _ :: _, _ :: _, h => by simp at h
theorem lahead_ok {B : Hp} {v1 v2 : Value} {a b : List Int} (h1 : Ints .i64 B v1 a) (h2 : Ints .i64 B v2 b) (hmax : a.length < 2 ^ 62) : Rd Try.prog 23 #[v1, v2] B (· = .bool (aheadI a b)) := by
  intro g
  refine L23_sound (R := FnR _) ?_
  unfold L23
  refine ⟨fun vs H => H = B ∧ ∃ j : Nat, vs = [.int .i64 (j : Int)] ∧ j ≤ a.length ∧ j ≤ b.length ∧ aheadI a b = aheadI (a.drop j) (b.drop j), fun vs _ => a.length - nAt vs 0, JE.mk ⟨rfl, 0, rfl, by omega, by omega, rfl⟩, ?_⟩
  rintro w H ⟨rfl, j, hv, hj1, hj2, hall⟩ gs
  simp only [List.cons.injEq, and_true] at hv
  subst hv
  refine h1.lenS ?_
  refine Bin.ltN (Grp.and (decide (j < b.length)) (fun _ => h2.lenS (Bin.ltN ⟨rfl, rfl⟩)) rfl fun gs => ?_)
  by_cases hc : j < a.length ∧ j < b.length
  · obtain ⟨c1, c2⟩ := hc
    rw [decide_eq_true c1, decide_eq_true c2]
    refine Br.yes ?_
    have ga : a[j]? = some a[j] := List.getElem?_eq_getElem c1
    have gb : b[j]? = some b[j] := List.getElem?_eq_getElem c2
    have hd : aheadI a b = if a[j] = b[j] then aheadI (a.drop (j + 1)) (b.drop (j + 1)) else decide (a[j] < b[j]) := by
      rw [hall, List.drop_eq_getElem_cons c1, List.drop_eq_getElem_cons c2]; rfl
    refine h1.ld ga (fun _ h => h) (h2.ld gb (fun _ h => h) ?_)
    refine Bin.neD (Br.dec (fun hne => ?_) (fun heq => ?_))
    · refine h1.ld ga (fun _ h => h) (h2.ld gb (fun _ h => h) (Bin.lss ?_))
      refine RdR.mk (.refl _) ?_
      rw [hd, if_neg hne]
    · refine Bin.addN (b := 1) (by simp [lim]; omega) ?_
      refine Back.mk ⟨rfl, j + 1, rfl, by omega, by omega, ?_⟩ (by rw [nAt, nAt]; show a.length - (((j:Int)+1).toNat) < a.length - ((j:Int).toNat); omega)
      rw [hd, if_pos (by simpa using heq)]
  · have hb : (decide (j < a.length) && decide (j < b.length)) = false := by
      rw [Bool.and_eq_false_iff, decide_eq_false_iff_not, decide_eq_false_iff_not]; omega
    rw [hb]
    refine Br.no ?_
    refine h1.lenS (h2.lenS (Bin.ltN ?_))
    refine RdR.mk (.refl _) ?_
    rw [hall, aheadI_end _ _ (by
      rcases Nat.lt_or_ge j a.length with h | h
      · exact .inr (List.drop_eq_nil_iff.2 (by omega))
      · exact .inl (List.drop_eq_nil_iff.2 h))]
    congr 1
    rw [List.length_drop, List.length_drop, decide_eq_decide]; omega
/-- so many members -/
def popc (a : Nat) : Nat := (Tab.has 6 a).length
theorem popc_step : ∀ a : Fin 64, 0 < a.1 → a.1 &&& (a.1 - 1) < a.1 ∧ popc (a.1 &&& (a.1 - 1)) + 1 = popc a.1 := by decide +kernel
theorem popc_has : ∀ (n : Fin 7) (a : Fin 64), a.1 < 2 ^ n.1 → (Tab.has n.1 a.1).length = popc a.1 := by decide +kernel
theorem popc_zero : popc 0 = 0 := by decide
theorem popc_le (a : Nat) : popc a ≤ 6 := Tab.has_le 6 a
theorem members_ok {A : Nat} (hA : A < 64) (B : Hp) : Rd Try.prog 24 #[.int .u64 (A : Int)] B (· = .int .i64 ((popc A : Nat) : Int)) := by
  intro g
  refine L24_sound (R := FnR _) ?_
  unfold L24
  refine ⟨fun vs H => H = B ∧ ∃ a k : Nat, vs = [.int .u64 (a : Int), .int .i64 (k : Int)] ∧ a < 64 ∧ k + popc a = popc A, fun vs _ => nAt vs 0, JE.mk ⟨rfl, A, 0, rfl, hA, by omega⟩, ?_⟩
  rintro w5 w6 H ⟨rfl, a, k, hv, ha, hk⟩ gs
  simp only [List.cons.injEq, and_true] at hv
  obtain ⟨rfl, rfl⟩ := hv
  refine Bin.gtN (b := 0) (Br.dec (fun h0 => ?_) (fun h0 => ?_))
  · obtain ⟨s1, s2⟩ := popc_step ⟨a, ha⟩ h0
    simp only at s1 s2
    have := popc_le A
    refine Bin.addN (b := 1) (by simp [lim]; omega) ?_
    refine Bin.subN (b := 1) (by simp [lim]; omega) (by omega) ?_
    refine Bin.andN (by simp [lim]; omega) (by simp [lim]; omega) ?_
    refine Back.mk ⟨rfl, a &&& (a - 1), k + 1, rfl, by omega, by omega⟩ (by simp [nAt]; omega)
  · obtain rfl : a = 0 := by omega
    rw [popc_zero] at hk
    exact RdR.mk (.refl _) (by rw [← hk, Nat.add_zero])
theorem good_ok {B : Hp} {v : Value} {ts : List Tb} {most : Nat} (ht : Tbls B v ts) (hmax : ts.length < 2 ^ 62) : Rd Try.prog 19 #[v, .int .i64 (most : Int)] B
    (fun r => ∃ b, r = .bool b ∧ (b = true → ∃ (n : Nat) (L : List (List Nat)), ts = tbs n L ∧ L ≠ [] ∧ L.length ≤ 12 ∧ n ≤ most ∧ n ≤ 16 ∧ ∀ ws ∈ L, Tab.Frm n ws)) := by
  intro g
  refine L19_sound (R := FnR _) ?_
  unfold L19
  refine ht.lenS ?_
  refine ⟨fun vs H => H = B ∧ ∃ j : Nat, vs = [.int .i64 (j : Int)] ∧ j ≤ ts.length ∧ ∀ (i : Nat) (t : Tb), i < j → ts[i]? = some t → (TF t ∧ some t.n = ts.head?.map Tb.n) ∧ t.n ≤ (most : Int), fun vs _ => ts.length - nAt vs 0, JE.mk ⟨rfl, 0, rfl, by omega, fun i t h => by omega⟩, ?_⟩
  rintro w H ⟨rfl, j, hv, hj, hall⟩ gs
  simp only [List.cons.injEq, and_true] at hv
  subst hv
  refine Bin.ltN (Br.dec (fun hlt => ?_) (fun hlt => ?_))
  · have hg : ts[j]? = some ts[j] := List.getElem?_eq_getElem hlt
    have hg0 : ts[0]? = some ts[0] := List.getElem?_eq_getElem (by omega)
    have hhead : ts.head?.map Tb.n = some ts[0].n := by rw [List.head?_eq_getElem?, hg0]; rfl
    refine ht.ld hg (fun _ h => h) fun s hw => ?_
    intro b2 _
    refine St.whole (r := [.int .i64 ts[j].n, s]) (by exact .head _) rfl rfl (by have := oneCell_words hw; simpa [Value.oneCell'] using this) ?_
    intro J hJ
    have hbad : JE J [.bool true] ((b2, .cells (List.toArray [.int .i64 ts[j].n, s]) 42 (0, 0)) :: H) := JE.mk (hJ _ _ fun gs => Br.yes (RdR.mk .tail ⟨false, rfl, fun e => by cases e⟩))
    refine DR.self ?_
    refine LdA.whole (r := [.int .i64 ts[j].n, s]) (by exact .head _) rfl ?_
    intro F
    refine CallF.rd (B := H) (.cons .here) (rform_ok (v := .agg (List.toArray [.int .i64 ts[j].n, s])) (t := ts[j]) ⟨s, rfl, hw⟩) ?_
    rintro v rfl
    refine ⟨.refl _, ?_⟩
    by_cases hT : TF ts[j]
    · rw [decide_eq_true hT]
      refine Un.not (Br.no ?_)
      refine FAddr.mk (Ld.mk (by repeat (first | assumption | exact List.Mem.head _ | apply List.Mem.tail | apply List.mem_append_right)) rfl ?_)
      refine ht.ldN hg0 (fun _ h => .tail _ h) ?_
      refine Bin.neD (Pick.mk ?_)
      by_cases hne : ts[j].n = ts[0].n
      · rw [decide_eq_false (by simpa using hne)]
        refine Br.no ?_
        refine FAddr.mk (Ld.mk (by repeat (first | assumption | exact List.Mem.head _ | apply List.Mem.tail | apply List.mem_append_right)) rfl ?_)
        refine Bin.gtr (Pick.mk (JE.mk (hJ _ _ fun gs => ?_)))
        by_cases hm : (most : Int) < ts[j].n
        · rw [decide_eq_true hm]
          exact Br.yes (RdR.mk .tail ⟨false, rfl, fun e => by cases e⟩)
        · rw [decide_eq_false hm]
          refine Br.no (Bin.addN (b := 1) (by simp [lim]; omega) ?_)
          refine Back.of .tail ⟨rfl, j + 1, rfl, by omega, fun i t hi hti => ?_⟩ (by simp [nAt]; omega)
          by_cases e : i = j
          · subst e
            rw [hg] at hti; cases hti
            exact ⟨⟨hT, by rw [hhead, hne]⟩, by omega⟩
          · exact hall i t (by omega) hti
      · rw [decide_eq_true (by simpa using hne)]
        exact Br.yes hbad
    · rw [decide_eq_false hT]
      exact Un.not (Br.yes hbad)
  · obtain rfl : j = ts.length := by omega
    refine ht.lenS (Bin.gtN (b := 0) (Grp.and (decide (ts.length ≤ 12)) (fun _ => ht.lenS (Bin.leN (b := 12) ⟨rfl, rfl⟩)) rfl fun gs => ?_))
    refine RdR.mk (.refl _) ⟨_, rfl, fun e => ?_⟩
    rw [Bool.and_eq_true, decide_eq_true_iff, decide_eq_true_iff] at e
    have hne : ts ≠ [] := List.length_pos_iff.1 e.1
    have hO : OneN ts := fun t ht => by
      obtain ⟨i, hi, rfl⟩ := List.mem_iff_getElem.1 ht
      exact (hall i _ hi (List.getElem?_eq_getElem hi)).1
    obtain ⟨n, L, hn, rfl, hL, hf⟩ := of_oneN hO hne
    have hmo : n ≤ most := by
      have := (hall 0 ⟨n, L[0]'(List.length_pos_iff.2 hL)⟩ e.1 (by rw [List.getElem?_map, List.getElem?_eq_getElem (List.length_pos_iff.2 hL)]; rfl)).2
      simp only at this; omega
    exact ⟨n, L, rfl, hL, by simpa using e.2, hmo, hn, hf⟩

end Go.Proofs
set_option linter.unusedVariables false
set_option linter.unusedSimpArgs false
set_option maxRecDepth 100000
namespace Go.Proofs
open Go Go.Sx
/-- unlike numbers below n -/
def PP (n : Nat) (l : List Int) : Prop := ∃ p : List Nat, l = iw p ∧ p.Nodup ∧ ∀ v ∈ p, v < n
/-- the first j are unlike and below n; they are marked -/
def SeenI (n : Nat) (l : List Int) (j : Nat) (sb : List Bool) : Prop := ∃ p : List Nat, l.take j = iw p ∧ p.Nodup ∧ (∀ v ∈ p, v < n) ∧ sb = (List.range n).map fun u => decide (u ∈ p)
theorem SeenI.start (n : Nat) (l : List Int) : SeenI n l 0 (List.replicate n false) := by
  refine ⟨[], rfl, by simp, by simp, ?_⟩
  apply List.ext_getElem (by simp)
  intro i h1 h2; simp
theorem SeenI.len {n j : Nat} {l : List Int} {sb : List Bool} (h : SeenI n l j sb) : sb.length = n := by obtain ⟨p, _, _, _, rfl⟩ := h; simp
theorem take_succ_get {l : List Int} {j : Nat} {x : Int} (hx : l[j]? = some x) : l.take (j + 1) = l.take j ++ [x] := by
  have hlt := (List.getElem?_eq_some_iff.1 hx).1
  rw [List.take_succ_eq_append_getElem hlt]
  congr 2
  exact (List.getElem?_eq_some_iff.1 hx).2
theorem SeenI.get {n j : Nat} {l : List Int} {sb : List Bool} (h : SeenI n l j sb) {u : Nat} (hu : u < n) : ∃ b, sb[u]? = some b ∧ (b = true ↔ (u : Int) ∈ l.take j) := by
  obtain ⟨p, hp, _, _, rfl⟩ := h
  refine ⟨decide (u ∈ p), by simp [hu], ?_⟩
  rw [hp, decide_eq_true_iff]
  constructor
  · exact fun h => List.mem_map.2 ⟨u, h, rfl⟩
  · intro h
    obtain ⟨w, hw, e⟩ := List.mem_map.1 h
    have : w = u := Int.ofNat.inj e
    rwa [← this]
theorem SeenI.step {n j u : Nat} {l : List Int} {sb : List Bool} (h : SeenI n l j sb) (hx : l[j]? = some (u : Int)) (hu : u < n) (hs : (u : Int) ∉ l.take j) : SeenI n l (j + 1) (sb.set u true) := by
  obtain ⟨p, hp, hd, hlt, rfl⟩ := h
  have hup : u ∉ p := fun h => hs (by rw [hp]; exact List.mem_map.2 ⟨u, h, rfl⟩)
  refine ⟨p ++ [u], by rw [take_succ_get hx, hp]; simp [iw], ?_, ?_, ?_⟩
  · rw [List.nodup_append]
    refine ⟨hd, by simp, fun a ha b hb => ?_⟩
    simp at hb; subst hb
    rintro rfl; exact hup ha
  · intro v hv
    rcases List.mem_append.1 hv with hv | hv
    · exact hlt v hv
    · simp at hv; subst hv; exact hu
  · apply List.ext_getElem (by simp)
    intro i h1 h2
    simp only [List.length_set, List.length_map, List.length_range] at h1
    rw [List.getElem_set]
    split
    · rename_i e; subst e; simp
    · rename_i e
      simp only [List.getElem_map, List.getElem_range, List.mem_append, List.mem_singleton]
      rw [decide_eq_decide]
      constructor
      · exact .inl
      · rintro (h | h)
        · exact h
        · exact absurd h.symm e
theorem SeenI.bad {n j : Nat} {l : List Int} {x : Int} (hx : l[j]? = some x) (h : x < 0 ∨ (n : Int) ≤ x ∨ x ∈ l.take j) : ¬ PP n l := by
  rintro ⟨p, rfl, hd, hlt⟩
  have hj := (List.getElem?_eq_some_iff.1 hx).1
  rw [iw_length] at hj
  have hpj : p[j]? = some p[j] := List.getElem?_eq_getElem hj
  have hxe : x = (p[j] : Int) := by rw [iw_get hpj] at hx; exact (Option.some.inj hx).symm
  have h2 := hlt _ (List.getElem_mem hj)
  rcases h with h | h | h
  · omega
  · omega
  · unfold iw at h
    rw [← List.map_take, List.mem_map] at h
    obtain ⟨w, hw, e⟩ := h
    have hwe : w = p[j] := by rw [hxe] at e; exact Int.ofNat.inj e
    subst hwe
    obtain ⟨i, hi, hie⟩ := List.mem_iff_getElem.1 hw
    rw [List.getElem_take] at hie
    rw [List.length_take] at hi
    have := (List.getElem_inj hd).1 hie
    omega
theorem SeenI.done {n : Nat} {l : List Int} {sb : List Bool} (h : SeenI n l l.length sb) : PP n l := by
  obtain ⟨p, hp, hd, hlt, _⟩ := h
  rw [List.take_length] at hp
  exact ⟨p, hp, hd, hlt⟩
theorem pcheck_ok {B : Hp} {v : Value} {l : List Int} (h : Ints .i64 B v l) (hmax : l.length ≤ 281474976710656) : Rd Try.prog 55 #[v] B
    (fun r => ∃ e : Nat, r = .int .i64 (e : Int) ∧ (e = 4 ↔ ¬ PP l.length l)) := by
  intro g
  refine L55_sound (R := FnR _) ?_
  unfold L55
  refine h.lenS ?_
  refine MkSlice.bools hmax fun b => ?_
  refine h.lenS ?_
  refine ⟨fun vs H => ∃ (j : Nat) (sb : List Bool), vs = [.int .i64 (j : Int)] ∧ j ≤ l.length ∧ SeenI l.length l j sb ∧ H = (b, .cells (bcells sb) 4 (0, 0)) :: B, fun vs _ => l.length - nAt vs 0, JE.mk ⟨0, _, rfl, by omega, SeenI.start _ _, rfl⟩, ?_⟩
  rintro w H ⟨j, sb, hv, hj, hS, rfl⟩ gs
  simp only [List.cons.injEq, and_true] at hv
  subst hv
  have hslen := hS.len
  refine Bin.ltN (Br.dec (fun hlt => ?_) (fun hlt => ?_))
  · have hg : l[j]? = some l[j] := List.getElem?_eq_getElem hlt
    refine h.ld hg (fun _ h => by repeat (first | exact h | apply List.mem_cons_of_mem | apply List.mem_append_right)) ?_
    have hbad : (l[j] < 0 ∨ (l.length : Int) ≤ l[j] ∨ l[j] ∈ l.take j) → FnR (fun v H => H = B ∧ ∃ e : Nat, v = .int .i64 (e : Int) ∧ (e = 4 ↔ ¬ PP l.length l)) (.returned (.int .i64 4)) ((b, .cells (bcells sb) 4 (0, 0)) :: B) := fun hx => RdR.mk .tail ⟨4, rfl, by simp [SeenI.bad hg hx]⟩
    refine Bin.lss (Grp.or (decide ((l.length : Int) ≤ l[j])) (fun _ => h.lenS (Bin.geq ⟨rfl, rfl⟩)) rfl fun gs => ?_)
    by_cases hr : l[j] < 0 ∨ (l.length : Int) ≤ l[j]
    · have hb : (decide (l[j] < 0) || decide ((l.length : Int) ≤ l[j])) = true := by
        rw [Bool.or_eq_true, decide_eq_true_iff, decide_eq_true_iff]; exact hr
      rw [hb]
      refine Grp.or true (fun e => by cases e) rfl fun gs => Br.yes (hbad ?_)
      rcases hr with h | h
      · exact .inl h
      · exact .inr (.inl h)
    · have hb : (decide (l[j] < 0) || decide ((l.length : Int) ≤ l[j])) = false := by
        rw [Bool.or_eq_false_iff, decide_eq_false_iff_not, decide_eq_false_iff_not]; omega
      rw [hb]
      obtain ⟨u, hu⟩ : ∃ u : Nat, l[j] = (u : Int) := ⟨l[j].toNat, by omega⟩
      rw [hu] at hg hbad ⊢
      have hul : u < l.length := by omega
      obtain ⟨sv, hsv, hsm⟩ := hS.get hul
      have hB : Bools ((b, .cells (bcells sb) 4 (0, 0)) :: B) (.slice (some ⟨b, 0, none⟩) l.length l.length) sb := by
        have := Bools.block (B := (b, .cells (bcells sb) 4 (0, 0)) :: B) (cap := l.length) (.head _) (by omega)
        rw [hslen] at this; exact this
      refine Grp.or sv (fun _ => hB.ld hsv (fun _ h => h) ⟨rfl, rfl⟩) rfl fun gs => ?_
      rw [Bool.false_or]
      cases sv with
      | true => exact Br.yes (hbad (.inr (.inr (hsm.1 rfl))))
      | false =>
        have hns : (u : Int) ∉ l.take j := fun h => by have := hsm.2 h; cases this
        refine Br.no (IAddr.nat hul ?_)
        refine St.bools (l := sb) (x := true) (.head _) (by omega) ?_
        refine Bin.addN (b := 1) (by simp [lim]; omega) ?_
        exact Back.mk ⟨j + 1, sb.set u true, rfl, by omega, hS.step hg hul hns, rfl⟩ (by simp [nAt]; omega)
  · obtain rfl : j = l.length := by omega
    refine h.lenS (Bin.gtN (b := 64) (Br.dec (fun _ => ?_) (fun _ => ?_)))
    · exact RdR.mk .tail ⟨13, rfl, by simp [hS.done]⟩
    · exact RdR.mk .tail ⟨0, rfl, by simp [hS.done]⟩
theorem PP.pm {n : Nat} {l : List Int} (h : PP n l) (hl : l.length = n) : ∃ p, l = iw p ∧ Tab.Pm n p := by
  obtain ⟨p, rfl, hd, hlt⟩ := h
  exact ⟨p, rfl, hd, by simpa using hl, hlt⟩
theorem pm_pp {n : Nat} {p : List Nat} (h : Tab.Pm n p) : PP (iw p).length (iw p) := ⟨p, rfl, h.nd, by rw [iw_length, h.len]; exact h.lt⟩
theorem pm_ord {n : Nat} {p : List Nat} (h : Tab.Pm n p) : Tab.IsOrd n 0 p := ⟨h.nd, fun v => by
  rw [Tab.miss_zero, List.mem_range]; exact ⟨fun hv => h.lt v hv, fun hv => h.sur hv⟩⟩
theorem ord_pm {n : Nat} {p : List Nat} (h : Tab.IsOrd n 0 p) : Tab.Pm n p := ⟨h.nd, h.len, fun v hv => (Tab.mem_miss.1 ((h.mem v).1 hv)).1⟩
/-- each level's nodes, bounded -/
theorem lvl_small {n : Nat} {L : List (List Nat)} (hn : n ≤ 16) (hl : L.length < 33554432) (a v : Nat) : Tab.lvl n L a v < 2199023255552 := by
  have h1 := Tab.st_length n L a n
  have h2 : (Tab.lvl n L a v) ≤ (Tab.st n L a n).length := List.length_filter_le _ _
  have h3 : 2 ^ n ≤ 2 ^ 16 := Nat.pow_le_pow_right (by decide) hn
  have h4 : 2 ^ n * L.length ≤ 2 ^ 16 * L.length := Nat.mul_le_mul_right _ h3
  omega
theorem cst_small {n : Nat} {L : List (List Nat)} (hn : n ≤ 16) (hl : L.length < 33554432) : ∀ (o : List Nat) (a : Nat), Tab.cst (Tab.lvl n L) a o ≤ o.length * 2199023255552
  | [], a => by simp [Tab.cst]
  | v :: o, a => by
    have h1 := cst_small hn hl o (Tab.setb a v true)
    have h2 := lvl_small hn hl a v
    rw [Tab.cst, List.length_cons, Nat.add_mul]; omega
theorem setl_snoc (a : Nat) (o : List Nat) (v : Nat) : Tab.setl a (o ++ [v]) = Tab.setb (Tab.setl a o) v true := by rw [Tab.setl_append]; rfl
theorem prof_snoc (c : Nat → Nat → Nat) (a : Nat) (o : List Nat) (v : Nat) : Tab.prof c a (o ++ [v]) = Tab.prof c a o ++ [c (Tab.setl a o) v] := by rw [Tab.prof_append]; rfl
theorem pm_take {n k : Nat} {p : List Nat} (h : Tab.Pm n p) (hk : k < n) : ∃ v, p[k]? = some v ∧ v < n ∧ p.take (k + 1) = p.take k ++ [v] ∧ (Tab.setl 0 (p.take k)).testBit v = false := by
  have hk' : k < p.length := by rw [h.len]; exact hk
  refine ⟨p[k], List.getElem?_eq_getElem hk', h.lt _ (List.getElem_mem hk'), by rw [List.take_succ_eq_append_getElem hk'], ?_⟩
  rw [Tab.testBit_setl, Nat.zero_testBit, Bool.false_or, decide_eq_false_iff_not]
  intro hm
  obtain ⟨i, hi, hie⟩ := List.mem_iff_getElem.1 hm
  rw [List.getElem_take] at hie
  rw [List.length_take] at hi
  have := (List.getElem_inj h.nd).1 hie
  omega
/-- what shape.Profile answers -/
theorem profile_ok {B : Hp} {v ov : Value} {n : Nat} {L : List (List Nat)} {l : List Int} (ht : Tbls B v (tbs n L)) (hf : ∀ ws ∈ L, Tab.Frm n ws) (hne : L ≠ []) (hmax : L.length < 33554432) (ho : Ints .i64 B ov l) (hl : l.length ≤ 281474976710656) :
    Px Try.prog 42 #[v, ov] B (fun r H => (¬ (PP n l ∧ l.length = n) ∧ r = .tuple #[.slice none 0 0, .int .i64 4]) ∨ ∃ p s, l = iw p ∧ Tab.Pm n p ∧ r = .tuple #[s, .int .i64 0] ∧ Ints .i64 H s (iw (Tab.prof (Tab.lvl n L) 0 p))) := by
  obtain ⟨w0, hw0⟩ : ∃ w0, L[0]? = some w0 := ⟨_, List.getElem?_eq_getElem (List.length_pos_iff.2 hne)⟩
  have hn16 : n ≤ 16 := (hf w0 (List.mem_of_getElem? hw0)).n16
  have hpos : 0 < L.length := List.length_pos_iff.2 hne
  intro g
  refine L42_sound (R := FnR _) ?_
  unfold L42
  refine CallF.rd .here (scheck1_ok ht (by simp [tbs]; omega)) ?_
  rintro v rfl
  rw [decide_eq_true (show OneN (tbs n L) from oneN_map hf)]
  refine Un.not (Br.no ?_)
  intro J hJ
  refine ht.lenS ?_
  rw [tbs_length]
  refine Bin.gtN (b := 0) (Split.go (decide_eq_true hpos) ?_)
  refine ho.lenS ?_
  refine ht.ldN (i := 0) (t := ⟨n, w0⟩) (tbs_get hw0) (fun _ h => h) ?_
  refine Bin.neN (Pick.mk ?_)
  by_cases hln : l.length = n
  case neg =>
    rw [decide_eq_true hln]
    refine Split.past rfl (Pick.mk (JE.mk (hJ _ _ fun gs => Br.yes ?_)))
    exact PxR.mk (by repeat (first | exact Grow.refl _ | apply Grow.cons | apply Grow.app)) (.inl ⟨fun h => hln h.2, rfl⟩)
  rw [decide_eq_false (by simpa using hln)]
  refine Split.go rfl ?_
  refine CallF.rd .here (pcheck_ok ho hl) ?_
  rintro r ⟨e, rfl, he⟩
  refine Bin.eqN (b := 4) (Pick.mk (JE.mk (hJ _ _ fun gs => ?_)))
  by_cases he4 : e = 4
  · rw [decide_eq_true he4]
    refine Br.yes (PxR.mk (by repeat (first | exact Grow.refl _ | apply Grow.cons | apply Grow.app)) (.inl ⟨fun h => he.1 he4 ?_, rfl⟩))
    rw [hln]; exact h.1
  rw [decide_eq_false he4]
  refine Br.no ?_
  have hPP : PP n l := by
    have := mt he.2 he4
    rw [hln] at this; exact Classical.not_not.1 this
  obtain ⟨p, rfl, hp⟩ := hPP.pm hln
  refine ho.lenS (Bin.gtN (b := 16) (Br.decF (by rw [hln]; omega) ?_))
  refine CallF.fn .here (of_set_ok ht rfl hf (by omega)) ?_
  rintro r H ⟨b, es, ck, m, N, rfl, rfl, hE, hm⟩
  refine ho.lenS ?_
  rw [hln]
  have hbound : ∀ a, ∀ m : List (List UInt8 × List Nat), (m.map Prod.snd).Nodup → (∀ x, x ∈ m.map Prod.snd ↔ x ∈ Tab.st n L a n) → m.length < 4611686018427387904 := by
    intro a m hnd hmem
    have h1 := (Tab.perm_of_same hnd (Tab.st_nodup n L a n) hmem).length_eq
    have h2 := Tab.st_length n L a n
    have h3 : 2 ^ n ≤ 2 ^ 16 := Nat.pow_le_pow_right (by decide) (by omega)
    have h4 : 2 ^ n * L.length ≤ 2 ^ 16 * L.length := Nat.mul_le_mul_right _ h3
    rw [List.length_map] at h1
    omega
  have hst0 : ∀ x, x ∈ Tab.st n L 0 n ↔ x ∈ L := fun x => by
    rw [Tab.st_sts, show Tab.has n 0 = [] by simp [Tab.has]]; exact Tab.mem_unlike
  refine ⟨fun vs H => ∃ (k : Nat) (s : Value) (C : Hp) (b : Nat) (es : Array MapEntry) (ck : Nat) (m : List (List UInt8 × List Nat)) (N : Hp), vs = [s, .map (some b), .int .i64 (k : Int)] ∧ k ≤ n ∧ IOwn 3 .i64 s (iw (Tab.prof (Tab.lvl n L) 0 (p.take k))) C ∧ TEnts n (N ++ B) es ck m ∧ (∀ x, x ∈ m.map Prod.snd ↔ x ∈ Tab.st n L (Tab.setl 0 (p.take k)) n) ∧ H = C ++ ((b, .map es ck) :: (N ++ B)),
    fun vs _ => n - nAt vs 2, JE.mk ⟨0, _, [], b, es, ck, m, N, rfl, by omega, IOwn.nil, hE, fun x => (hm x).trans (hst0 x).symm, rfl⟩, ?_⟩
  clear hm hE
  rintro w17 w18 w19 H ⟨k, s, C, b, es, ck, m, N, hv, hk, hown, hE, hm, rfl⟩ gs
  simp only [List.cons.injEq, and_true] at hv
  obtain ⟨rfl, rfl, rfl⟩ := hv
  refine Bin.ltN (Br.dec (fun hlt => ?_) (fun hlt => ?_))
  · obtain ⟨u, hu1, hu2, hu3, hu4⟩ := pm_take hp hlt
    refine ho.ld (iw_get hu1) (fun _ h => List.mem_append_right _ (.tail _ (List.mem_append_right _ h))) ?_
    have hE2 := hE.mono (B' := (b, Obj.map es ck) :: (N ++ B)) (fun _ h => by repeat (first | exact h | apply List.mem_cons_of_mem | apply List.mem_append_right))
    refine CallF.fn (.app .here) (given_ok (.head _) hE2 hu2 (hbound _ m hE.nodup hm)) ?_
    rintro r H' ⟨b', es', ck', m', N', rfl, rfl, hE', hm'⟩
    refine Ext.mk rfl (Ext.mk rfl ?_)
    refine BuildSl.int (e := 3) (by kernel_rfl) (by kernel_rfl) (by kernel_rfl) fun xb => ?_
    have hlen : (iw (Tab.prof (Tab.lvl n L) 0 (p.take k))).length ≤ 16 := by rw [iw_length, Tab.prof_len, List.length_take]; omega
    refine IOwn.app (A := [_]) hown (by exact .head _) (by omega) (by omega) fun v' C' ho' => ?_
    refine Bin.addN (b := 1) (by simp [lim]; omega) ?_
    have hcnt : (Tab.nodes n (m.map Prod.snd) u).length = Tab.lvl n L (Tab.setl 0 (p.take k)) u := Tab.nodes_same hE.nodup (Tab.st_nodup n L _ n) hm u
    refine Back.of (.skip (.refl _)) ⟨k + 1, v', C', b', es', ck', m', N' ++ (b, .map es ck) :: N, rfl, by omega, ?_, by rw [List.append_assoc]; exact hE', fun x => ?_, by rw [List.append_assoc]; rfl⟩ (by rw [nAt_succ, nAt_succ, nAt_succ, nAt_succ]; show n - (((k:Int)+1).toNat) < n - ((k:Int).toNat); omega)
    · rw [hu3, prof_snoc, ← hcnt]
      simpa [iw] using ho'
    · rw [hm', hu3, setl_snoc]
      have hnx := Tab.st_next hn16 hf (a := Tab.setl 0 (p.take k)) hu2 hu4 x
      rw [hnx, Tab.mem_given]
      constructor
      · rintro ⟨t, h1, h2⟩; exact ⟨t, (hm t).1 h1, h2⟩
      · rintro ⟨t, h1, h2⟩; exact ⟨t, (hm t).2 h1, h2⟩
  · have : k = n := by omega
    subst this
    have hpt : p.take k = p := by rw [List.take_of_length_le]; rw [hp.len]; exact Nat.le_refl _
    rw [hpt] at hown
    exact PxR.mk (by repeat (first | exact Grow.refl _ | apply Grow.cons | apply Grow.app)) (.inr ⟨p, w17, rfl, hp, rfl, hown.ints.mono fun _ h => List.mem_append_left _ h⟩)
theorem sum_take_succ {l : List Nat} {k x : Nat} (h : l[k]? = some x) : (l.take (k + 1)).sum = (l.take k).sum + x := by
  have hlt := (List.getElem?_eq_some_iff.1 h).1
  rw [List.take_succ_eq_append_getElem hlt, List.sum_append, (List.getElem?_eq_some_iff.1 h).2]; simp
theorem size_ok {B : Hp} {v ov : Value} {n : Nat} {L : List (List Nat)} {l : List Int} (ht : Tbls B v (tbs n L)) (hf : ∀ ws ∈ L, Tab.Frm n ws) (hne : L ≠ []) (hmax : L.length < 33554432) (ho : Ints .i64 B ov l) (hl : l.length ≤ 281474976710656) :
    Px Try.prog 22 #[v, ov] B (fun r _ => (¬ (PP n l ∧ l.length = n) ∧ r = .tuple #[.int .i64 0, .int .i64 4]) ∨ ∃ p, l = iw p ∧ Tab.Pm n p ∧ r = .tuple #[.int .i64 ((Tab.cst (Tab.lvl n L) 0 p : Nat) : Int), .int .i64 0]) := by
  obtain ⟨w0, hw0⟩ : ∃ w0, L[0]? = some w0 := ⟨_, List.getElem?_eq_getElem (List.length_pos_iff.2 hne)⟩
  have hn16 : n ≤ 16 := (hf w0 (List.mem_of_getElem? hw0)).n16
  intro g
  refine L22_sound (R := FnR _) ?_
  unfold L22
  refine CallF.px .here (profile_ok ht hf hne hmax ho hl) ?_
  have hrest : ∀ (s : Value) (q : List Nat) (e : Nat) (H : Hp) (Q : Value → Prop), Ints .i64 H s (iw q) → q.length < 1000 → q.sum < 1152921504606846976 → Grow B H → Q (.tuple #[.int .i64 ((q.sum : Nat) : Int), .int .i64 (e : Int)]) →
      LenS s fun v5 => ∃ (I6 : List Value → Hp → Prop) (m7 : List Value → Hp → Nat), JE I6 [(Value.int .i64 0), (Value.int .i64 0)] H ∧ ∀ w10 w11 : Value, ∀ H9 : Hp, I6 [w10, w11] H9 → ∀ gs8 : Fr,
        Bin .num .lss w11 v5 fun v12 => Br v12 (IAddr 1 s w11 fun v13 => Ld H9 v13 fun v14 => Bin .num .add w10 v14 fun v15 => Bin .num .add w11 (Value.int .i64 1) fun v16 => Back I6 m7 [v15, v16] H9 [w10, w11] H9)
          (FnR (fun v H => Grow B H ∧ Q v) (.returned (.tuple #[w10, .int .i64 (e : Int)])) H9) := by
    intro s q e H Q hi hq hs hg hQ
    refine hi.lenS ?_
    rw [iw_length]
    refine ⟨fun vs H' => H' = H ∧ ∃ k : Nat, vs = [.int .i64 (((q.take k).sum : Nat) : Int), .int .i64 (k : Int)] ∧ k ≤ q.length, fun vs _ => q.length - nAt vs 1, JE.mk ⟨rfl, 0, rfl, by omega⟩, ?_⟩
    rintro w10 w11 H ⟨rfl, k, hv, hk⟩ gs
    simp only [List.cons.injEq, and_true] at hv
    obtain ⟨rfl, rfl⟩ := hv
    refine Bin.ltN (Br.dec (fun hlt => ?_) (fun hlt => ?_))
    · have hg : q[k]? = some q[k] := List.getElem?_eq_getElem hlt
      refine hi.ld (iw_get hg) (fun _ h => h) ?_
      have hst := sum_take_succ hg
      have hle : (q.take (k + 1)).sum ≤ q.sum := by
        have : q.sum = (q.take (k + 1)).sum + (q.drop (k + 1)).sum := by rw [← List.sum_append, List.take_append_drop]
        omega
      refine Bin.addN (by simp only [lim]; omega) ?_
      rw [← hst]
      refine Bin.addN (b := 1) (by simp [lim]; omega) ?_
      exact Back.mk ⟨rfl, k + 1, rfl, by omega⟩ (by rw [nAt_succ, nAt_succ]; show q.length - (((k:Int)+1).toNat) < q.length - ((k:Int).toNat); omega)
    · obtain rfl : k = q.length := by omega
      rw [List.take_length]
      exact PxR.mk hg hQ
  rintro r N (⟨h, rfl⟩ | ⟨p, s, rfl, hp, rfl, hi⟩)
  · exact Ext.mk rfl (Ext.mk rfl (hrest (.slice none 0 0) [] 4 _ _ Ints.nil (by simp) (by simp) (by repeat (first | exact Grow.refl _ | apply Grow.cons | apply Grow.app)) (.inl ⟨h, rfl⟩)))
  · have hcs := cst_small hn16 hmax p 0
    rw [hp.len] at hcs
    have h16 : n * 2199023255552 ≤ 16 * 2199023255552 := Nat.mul_le_mul_right _ hn16
    refine Ext.mk rfl (Ext.mk rfl (hrest s _ 0 _ _ hi (by rw [Tab.prof_len, hp.len]; omega) (by rw [Tab.prof_sum]; omega) (by repeat (first | exact Grow.refl _ | apply Grow.cons | apply Grow.app)) (.inr ⟨p, rfl, hp, ?_⟩)))
    rw [Tab.prof_sum]; rfl

end Go.Proofs
set_option linter.unusedVariables false
set_option linter.unusedSimpArgs false
set_option maxRecDepth 100000
namespace Go.Proofs
open Go Go.Sx
theorem iw_inj {a b : List Nat} (h : iw a = iw b) : a = b := by
  induction a generalizing b with
  | nil => cases b with
    | nil => rfl
    | cons y b => simp [iw] at h
  | cons x a ih => cases b with
    | nil => simp [iw] at h
    | cons y b =>
      simp only [iw, List.map_cons, List.cons.injEq] at h
      rw [ih h.2, Int.ofNat.inj h.1]
/-- 'append([]int{}, x...)' -/
theorem copyInts {H : Hp} {x : Value} {l : List Int} {K : Value → Hp → Prop} (hx : Ints .i64 H x l) (hl : l.length * 8 ≤ 140737488355328) (hk : ∀ v C, Ints .i64 (C ++ H) v l → K v (C ++ H)) :
    BuildSl Try.prog 25 0 [] H fun v16 H17 => App Try.prog 3 1 8 (Value.int .i64 0) H17 v16 x K := by
  refine BuildSl.none (e := 3) (k := 1) (z := .int .i64 0) (by kernel_rfl) (by kernel_rfl) (by kernel_rfl) fun b3 => ?_
  refine IOwn.apps (A := []) (C := [_]) (l := []) (.inr ⟨b3, [], rfl, rfl, by simp⟩) (hx.mono (fun _ h => by repeat (first | exact h | apply List.mem_cons_of_mem | apply List.mem_append_right))) (by simp; omega) (by simp; omega) fun s' C' ho => ?_
  have := ho.ints
  rw [List.nil_append] at this
  rw [List.nil_append]
  exact hk _ _ (this.mono fun _ h => List.mem_append_left _ h)
theorem noless_law {B : Hp} {v ov : Value} {ts : List Tb} {l : List Int} (ht : Tbls B v ts) (hfit : TFit ts) (ho : Ints .i64 B ov l) (hl : l.length * 8 ≤ 140737488351232) : Px Try.prog 7 #[v, ov] B (fun r _ => r = .bool true) := by
  intro g
  refine L7_sound (R := FnR _) ?_
  unfold L7
  refine CallF.px .here (awake_ok B) ?_
  rintro _ N rfl
  refine Un.not (Br.no ?_)
  refine CallF.rd .here (good_ok (most := 9) (ht.mono (fun _ h => by repeat (first | exact h | apply List.mem_cons_of_mem | apply List.mem_append_right))) (by have := hfit.1; omega)) ?_
  rintro _ ⟨b, rfl, hb⟩
  cases b with
  | false => exact Un.not (Br.yes (PxR.mk (by repeat (first | exact Grow.refl _ | apply Grow.cons | apply Grow.app)) rfl))
  | true =>
  obtain ⟨n, L, rfl, hne, hl12, hn9, hn16, hf⟩ := hb rfl
  refine Un.not (Br.no ?_)
  have hO : OneN (tbs n L) := oneN_map hf
  have hn0 : L = [] → n = 0 := fun e => absurd e hne
  refine CallF.px .here (twins_ok (ht.mono (fun _ h => by repeat (first | exact h | apply List.mem_cons_of_mem | apply List.mem_append_right))) hfit) ?_
  intro v2 N2 ht2
  refine CallF.px .here (best_ok ht2 (by rw [tbs_length]; omega)) ?_
  intro r N3 hq1
  obtain ⟨s1, C1, N1, rfl, ho1, hH1⟩ := best_of hn0 hO (by omega) hq1
  refine Ext.mk rfl (Ext.mk rfl (Ext.mk rfl ?_))
  rw [hH1]
  clear hq1 hH1
  obtain ⟨hord, hcst⟩ := Tab.ord_ok (n := n) (c := Tab.lvl n L) n 0 (Tab.miss_le n 0)
  refine CallF.px .here (twins_ok (ht.mono (fun _ h => by repeat (first | exact h | apply List.mem_cons_of_mem | apply List.mem_append_right))) hfit) ?_
  intro v3 N4 ht3
  have hi1 : ∀ {X : Hp}, Ints .i64 (X ++ (C1 ++ (N1 ++ (N2 ++ (N ++ B))))) s1 (iw (Tab.ord n (Tab.lvl n L) n 0)) := ho1.ints.mono fun _ h => List.mem_append_right _ (List.mem_append_left _ h)
  refine copyInts hi1 (by rw [iw_length, hord.len]; omega) fun v4 C4 hi4 => ?_
  refine CallF.px .here (size_ok (ht3.mono (fun _ h => by repeat (first | exact h | apply List.mem_cons_of_mem | apply List.mem_append_right))) hf hne (by omega) hi4 (by rw [iw_length, hord.len]; omega)) ?_
  rintro r N5 (⟨h, _⟩ | ⟨p, hp, _, rfl⟩)
  · exact absurd ⟨(by have := pm_pp (ord_pm hord); rw [iw_length, hord.len] at this; exact this), by rw [iw_length, hord.len]⟩ h
  obtain rfl := iw_inj hp
  rw [hcst]
  refine Ext.mk rfl (Ext.mk rfl ?_)
  refine Bin.neN (a := 0) (b := 0) (Grp.or false (fun _ => Bin.neN (a := 0) (b := 0) ⟨rfl, rfl⟩) rfl fun gs => ?_)
  refine Grp.or false (fun _ => Bin.neN ⟨rfl, by simp⟩) rfl fun gs => ?_
  obtain ⟨w0, hw0⟩ : ∃ w0, L[0]? = some w0 := ⟨_, List.getElem?_eq_getElem (List.length_pos_iff.2 hne)⟩
  refine Grp.or false (fun _ => ?_) rfl fun gs => ?_
  · refine (ho1.ints (C := C1)).lenS ?_
    refine ht.ldN (i := 0) (t := ⟨n, w0⟩) (tbs_get hw0) (fun _ h => by repeat (first | exact h | apply List.mem_cons_of_mem | apply List.mem_append_right)) ?_
    rw [iw_length, hord.len]
    exact Bin.neN ⟨rfl, by simp⟩
  refine Br.no ?_
  refine CallF.px .here (twins_ok (ht.mono (fun _ h => by repeat (first | exact h | apply List.mem_cons_of_mem | apply List.mem_append_right))) hfit) ?_
  intro v5 N6 ht5
  refine copyInts (ho.mono (fun _ h => by repeat (first | exact h | apply List.mem_cons_of_mem | apply List.mem_append_right))) (by omega) fun v6 C6 hi6 => ?_
  refine CallF.px .here (size_ok (ht5.mono (fun _ h => by repeat (first | exact h | apply List.mem_cons_of_mem | apply List.mem_append_right))) hf hne (by omega) hi6 (by omega)) ?_
  rintro r N7 (⟨h, rfl⟩ | ⟨q, rfl, hq, rfl⟩)
  · refine Ext.mk rfl (Ext.mk rfl (Bin.neN (a := 4) (b := 0) (Br.decT (by decide) ?_)))
    exact PxR.mk (by repeat (first | exact Grow.refl _ | apply Grow.cons | apply Grow.app)) rfl
  refine Ext.mk rfl (Ext.mk rfl (Bin.neN (a := 0) (b := 0) (Br.decF (by decide) ?_)))
  intro J hJ
  have hq1 := pm_ord hq
  have hle := Tab.B_le_cst (c := Tab.lvl n L) q 0 hq1
  refine Bin.geN (Split.go (decide_eq_true hle) ?_)
  refine CallF.rd .here (lahead_ok (ho.mono (fun _ h => by repeat (first | exact h | apply List.mem_cons_of_mem | apply List.mem_append_right))) (ho1.ints.mono fun _ h => ?_) (by omega)) ?_
  · exact List.mem_append_right _ (List.mem_append_right _ (List.mem_append_right _ (List.mem_append_right _ (List.mem_append_right _ (List.mem_append_right _ (List.mem_append_left _ h))))))
  rintro _ rfl
  have hfin : J [.bool true] (N7 ++ (C6 ++ (N6 ++ (N5 ++ (C4 ++ (N4 ++ (C1 ++ (N1 ++ (N2 ++ (N ++ B)))))))))) := hJ _ _ fun gs => PxR.mk (by repeat (first | exact Grow.refl _ | apply Grow.cons | apply Grow.app)) rfl
  rw [aheadI_iw]
  cases hah : Tab.aheadN q (Tab.ord n (Tab.lvl n L) n 0) with
  | true =>
    refine Split.go rfl (Bin.eqN ?_)
    have hne2 : ¬ Tab.cst (Tab.lvl n L) 0 q = Tab.B n (Tab.lvl n L) 0 := fun e => by
      have := Tab.ord_first n 0 q hq1 (Tab.miss_le n 0) e
      rw [this] at hah; cases hah
    rw [decide_eq_false hne2]
    exact Pick.mk (Un.not (Pick.mk (JE.mk hfin)))
  | false => exact Split.past rfl (Pick.mk (Un.not (Pick.mk (JE.mk hfin))))

end Go.Proofs
set_option linter.unusedVariables false
set_option linter.unusedSimpArgs false
set_option maxRecDepth 100000
namespace Go.Proofs
open Go Go.Sx
theorem sl_cut {k j : Nat} {B : Hp} {v : Value} {rs : List (List Value)} {kd : IntKind} {K : Value → Prop} (h : Sl k B v rs) (hj : j ≤ rs.length) (hK : ∀ v', Sl k B v' (rs.take j) → (∃ a c, v' = .slice a j c) → K v') : SliceE k v none (some (.int kd (j : Int))) K := by
  obtain ⟨h0, h⟩ := h
  have hlen : (rs.take j).length = j := by rw [List.length_take]; omega
  have h0' : ∀ r ∈ rs.take j, r.length = k := fun r hr => h0 r (List.mem_of_mem_take hr)
  rcases h with ⟨a, cap, rfl, rfl⟩ | ⟨b, o, cap, c, T, fz, rfl, h2, h3, h4, h5⟩
  · obtain rfl : j = 0 := by simpa using hj
    exact SliceE.upto (Nat.zero_le _) (hK _ ⟨by simp, .inl ⟨a, cap, rfl, by simp⟩⟩ ⟨_, _, rfl⟩)
  · refine SliceE.upto (by omega) (hK _ ⟨h0', .inr ⟨b, o, cap, c, T, fz, by rw [hlen], by omega, h3, ?_, fun i r hr j' v hv => ?_⟩⟩ ⟨_, _, rfl⟩)
    · rw [hlen]
      have : j * k ≤ rs.length * k := Nat.mul_le_mul_right _ hj
      omega
    · refine h5 i r ?_ j' v hv
      rw [List.getElem?_take] at hr
      split at hr
      · exact hr
      · cases hr
theorem ints_cut {j : Nat} {B : Hp} {v : Value} {l : List Int} {kd kd' : IntKind} {K : Value → Prop} (h : Ints kd B v l) (hj : j ≤ l.length) (hK : ∀ v', Ints kd B v' (l.take j) → K v') : SliceE 1 v none (some (.int kd' (j : Int))) K :=
  sl_cut h (by simpa using hj) fun v' h' _ => hK v' (by unfold Ints; rw [List.map_take]; exact h')
/-- the least so far: of the sets below a of kk members -/
def LeastI (f : Nat → Nat) (kk a : Nat) (lv : Int) : Prop :=
  (lv = -1 ∧ ∀ b, b < a → popc b ≠ kk) ∨ ∃ m : Nat, lv = m ∧ (∀ b, b < a → popc b = kk → m ≤ f b) ∧ ∃ b, b < a ∧ popc b = kk ∧ m = f b
theorem LeastI.skip {f : Nat → Nat} {kk a : Nat} {lv : Int} (h : LeastI f kk a lv) (hk : popc a ≠ kk) : LeastI f kk (a + 1) lv := by
  rcases h with ⟨h1, h2⟩ | ⟨m, h1, h2, b, h3, h4, h5⟩
  · refine .inl ⟨h1, fun b hb => ?_⟩
    by_cases e : b = a
    · subst e; exact hk
    · exact h2 b (by omega)
  · refine .inr ⟨m, h1, fun b hb hbk => ?_, b, by omega, h4, h5⟩
    by_cases e : b = a
    · subst e; exact absurd hbk hk
    · exact h2 b (by omega) hbk
theorem LeastI.take {f : Nat → Nat} {kk a : Nat} {lv : Int} (h : LeastI f kk a lv) (hk : popc a = kk) (hl : lv < 0 ∨ (f a : Int) < lv) : LeastI f kk (a + 1) (f a : Int) := by
  refine .inr ⟨f a, rfl, fun b hb hbk => ?_, a, by omega, hk, rfl⟩
  by_cases e : b = a
  · subst e; exact Nat.le_refl _
  · rcases h with ⟨h1, h2⟩ | ⟨m, h1, h2, _⟩
    · exact absurd hbk (h2 b (by omega))
    · have := h2 b (by omega) hbk
      rcases hl with hl | hl <;> omega
theorem LeastI.keep {f : Nat → Nat} {kk a : Nat} {lv : Int} (h : LeastI f kk a lv) (hl : ¬ (lv < 0 ∨ (f a : Int) < lv)) : LeastI f kk (a + 1) lv := by
  rcases h with ⟨h1, _⟩ | ⟨m, h1, h2, b, h3, h4, h5⟩
  · exact absurd (.inl (by omega)) hl
  · refine .inr ⟨m, h1, fun b hb hbk => ?_, b, by omega, h4, h5⟩
    by_cases e : b = a
    · subst e; omega
    · exact h2 b (by omega) hbk
theorem popc_of {n a : Nat} (hn : n ≤ 6) (ha : a < 2 ^ n) : (Tab.has n a).length = popc a ∧ a < 64 := by
  have h1 : 2 ^ n ≤ 2 ^ 6 := Nat.pow_le_pow_right (by decide) hn
  exact ⟨popc_has ⟨n, by omega⟩ ⟨a, by omega⟩ ha, by omega⟩
theorem splits_law {B : Hp} {v ov : Value} {ts : List Tb} {l : List Int} {kk : Int} (ht : Tbls B v ts) (hfit : TFit ts) (ho : Ints .i64 B ov l) (hl : l.length * 8 ≤ 140737488351232) : Px Try.prog 8 #[v, .int .i64 kk, ov] B (fun r _ => r = .bool true) := by
  intro g
  refine L8_sound (R := FnR _) ?_
  unfold L8
  refine CallF.px .here (awake_ok B) ?_
  rintro _ N rfl
  refine Un.not (Br.no ?_)
  refine CallF.rd .here (good_ok (most := 6) (ht.mono (fun _ h => by repeat (first | exact h | apply List.mem_cons_of_mem | apply List.mem_append_right))) (by have := hfit.1; omega)) ?_
  rintro _ ⟨b, rfl, hb⟩
  cases b with
  | false => exact Un.not (Br.yes (PxR.mk (by repeat (first | exact Grow.refl _ | apply Grow.cons | apply Grow.app)) rfl))
  | true =>
  obtain ⟨n, L, rfl, hne, hl12, hn6, hn16, hf⟩ := hb rfl
  clear hb
  refine Un.not (Br.no ?_)
  have hO : OneN (tbs n L) := oneN_map hf
  have hn0 : L = [] → n = 0 := fun e => absurd e hne
  have hmx : (tbs n L).length < 33554432 := by rw [tbs_length]; omega
  obtain ⟨w0, hw0⟩ : ∃ w0, L[0]? = some w0 := ⟨_, List.getElem?_eq_getElem (List.length_pos_iff.2 hne)⟩
  have hp6 : 2 ^ n ≤ 2 ^ 6 := Nat.pow_le_pow_right (by decide) hn6
  refine ht.ldN (i := 0) (t := ⟨n, w0⟩) (tbs_get hw0) (fun _ h => by repeat (first | exact h | apply List.mem_cons_of_mem | apply List.mem_append_right)) ?_
  refine CallF.px .here (twins_ok (ht.mono (fun _ h => by repeat (first | exact h | apply List.mem_cons_of_mem | apply List.mem_append_right))) hfit) ?_
  intro v2 N2 ht2
  refine CallF.px .here (best_ok ht2 hmx) ?_
  intro r N3 hq1
  obtain ⟨s1, C1, N1, rfl, ho1, hH1⟩ := best_of hn0 hO (by omega) hq1
  refine Ext.mk rfl (Ext.mk rfl (Ext.mk rfl ?_))
  rw [hH1]
  clear hq1 hH1
  refine CallF.px .here (twins_ok (ht.mono (fun _ h => by repeat (first | exact h | apply List.mem_cons_of_mem | apply List.mem_append_right))) hfit) ?_
  intro v3 N4 ht3
  refine CallF.px .here (within_ok (A := 0) ht3 hmx (by omega)) ?_
  intro r N5 hq
  obtain rfl := within_of hn0 hO (by omega) (Nat.two_pow_pos n) hq
  refine Ext.mk rfl (Ext.mk rfl (DR.self ?_))
  refine Bin.shlN (a := 1) (by simp [IntKind.bits]; omega) (by rw [Nat.one_shiftLeft]; simp [lim]; omega) ?_
  rw [Nat.one_shiftLeft]
  have hpos := Nat.two_pow_pos n
  refine Bin.subN (b := 1) (by simp [lim]; omega) (by omega) ?_
  refine CallF.px .here (twins_ok (ht.mono (fun _ h => by repeat (first | exact h | apply List.mem_cons_of_mem | apply List.mem_append_right))) hfit) ?_
  intro v6 N6 ht6
  refine ⟨.right, ?_⟩
  refine CallF.px .here (within_ok (A := 2 ^ n - 1) ht6 hmx (by omega)) ?_
  intro r N7 hq7
  obtain rfl := within_of hn0 hO (by omega) (by omega) hq7
  refine ⟨.skips .right, Ext.mk rfl (Ext.mk rfl ?_)⟩
  rw [Tab.WB_zero, Tab.WB_full]
  refine Bin.neN (a := 0) (b := 0) (Grp.or false (fun _ => Bin.neN (a := 0) (b := 0) ⟨rfl, rfl⟩) rfl fun gs => ?_)
  refine Grp.or false (fun _ => Bin.neN (a := 0) (b := 0) ⟨rfl, rfl⟩) rfl fun gs => ?_
  refine Grp.or false (fun _ => Bin.neN ⟨rfl, by simp⟩) rfl fun gs => ?_
  refine Grp.or false (fun _ => Bin.neN ⟨rfl, by simp⟩) rfl fun gs => ?_
  refine Br.no ?_
  intro J hJ
  have hmain : ∀ kk : Nat, kk ≤ n → JE J [.int .i64 (kk : Int)] (N7 ++ (N6 ++ (N5 ++ (N4 ++ (C1 ++ (N1 ++ (N2 ++ (N ++ B)))))))) := by
    clear hq hq7 ht2 ht3 ht6
    intro kk hkk
    refine JE.of (H' := B) (by exact .skips (.skips (.skips (.skips (.skips (.skips (.skips .right))))))) (hJ _ _ fun gs => ?_)
    refine ⟨fun vs H => H = B ∧ ∃ (a : Nat) (lv : Int), vs = [.int .i64 lv, .int .u64 (a : Int)] ∧ a ≤ 2 ^ n ∧ LeastI (fun a => Tab.W n (Tab.lvl n L) a + Tab.B n (Tab.lvl n L) a) kk a lv, fun vs _ => 2 ^ n - nAt vs 1, JE.mk ⟨rfl, 0, -1, rfl, by omega, .inl ⟨rfl, fun b h => by omega⟩⟩, ?_⟩
    rintro w53 w54 H ⟨rfl, a, lv, hv, ha, hI⟩ gs
    simp only [List.cons.injEq, and_true] at hv
    obtain ⟨rfl, rfl⟩ := hv
    refine Bin.shlN (a := 1) (by simp [IntKind.bits]; omega) (by rw [Nat.one_shiftLeft]; simp [lim]; omega) ?_
    rw [Nat.one_shiftLeft]
    refine Bin.ltN (Br.dec (fun hlt => ?_) (fun hlt => ?_))
    · intro J2 hJ2
      obtain ⟨hpop, ha64⟩ := popc_of hn6 hlt
      have hback : ∀ (lv' : Int) (H' : Hp), Ent H' H → LeastI (fun a => Tab.W n (Tab.lvl n L) a + Tab.B n (Tab.lvl n L) a) kk (a + 1) lv' → JE J2 [.int .i64 lv'] H' := fun lv' H' he hI' => JE.mk (hJ2 _ _ fun gs => by
        refine Bin.addN (b := 1) (by simp [lim]; omega) ?_
        refine Back.of he ⟨rfl, a + 1, lv', rfl, by omega, hI'⟩ (by rw [nAt_succ, nAt_succ]; show 2 ^ n - (((a:Int)+1).toNat) < 2 ^ n - ((a:Int).toNat); omega))
      refine CallF.rd .here (members_ok ha64 H) ?_
      rintro _ rfl
      refine Bin.neN (Br.dec (fun hpk => hback lv _ (.refl _) (hI.skip hpk)) (fun hpk => ?_))
      have hpk' : popc a = kk := Classical.not_not.1 hpk
      refine CallF.px .here (twins_ok ht hfit) ?_
      intro v8 N8 ht8
      refine CallF.px .here (within_ok (A := a) ht8 hmx (by omega)) ?_
      intro r N9 hq9
      obtain rfl := within_of hn0 hO (by omega) hlt hq9
      refine Ext.mk rfl (Ext.mk rfl ?_)
      have hge := Tab.WB_ge (c := Tab.lvl n L) _ a rfl hlt
      refine Bin.neN (a := 0) (b := 0) (Grp.or false (fun _ => Bin.ltN ⟨rfl, by rw [decide_eq_false (Nat.not_lt.2 hge)]⟩) rfl fun gs => ?_)
      refine Br.no ?_
      refine Bin.lss (Grp.or (decide (((Tab.W n (Tab.lvl n L) a + Tab.B n (Tab.lvl n L) a : Nat) : Int) < lv)) (fun _ => Bin.lss ⟨rfl, rfl⟩) rfl fun gs => ?_)
      refine Br.mk (fun hb => ?_) (fun hb => ?_)
      · rw [Bool.or_eq_true, decide_eq_true_iff, decide_eq_true_iff] at hb
        exact hback _ _ (.skips .right) (hI.take hpk' hb)
      · rw [Bool.or_eq_false_iff, decide_eq_false_iff_not, decide_eq_false_iff_not] at hb
        exact hback _ _ (.skips .right) (hI.keep (fun h => by rcases h with h | h; exact hb.1 h; exact hb.2 h))
    · obtain rfl : a = 2 ^ n := by omega
      have hlv : lv = ((Tab.B n (Tab.lvl n L) 0 : Nat) : Int) := by
        obtain ⟨b, hb1, hb2, hb3⟩ := Tab.WB_some (n := n) (c := Tab.lvl n L) kk hkk
        rw [(popc_of hn6 hb1).1] at hb2
        rcases hI with ⟨_, h2⟩ | ⟨m, h1, h2, b', h3, h4, h5⟩
        · exact absurd hb2 (h2 b hb1)
        · have e1 := h2 b hb1 hb2
          have e2 := Tab.WB_ge (c := Tab.lvl n L) _ b' rfl h3
          simp only at e1 h5
          rw [hb3] at e1
          rw [h1]; congr 1; omega
      rw [hlv]
      refine Bin.neN (Br.decF (fun h => h rfl) ?_)
      refine CallF.px .here (twins_ok ht hfit) ?_
      intro v8 N8 ht8
      refine copyInts (ho.mono (fun _ h => by repeat (first | exact h | apply List.mem_cons_of_mem | apply List.mem_append_right))) (by omega) fun v9 C9 hi9 => ?_
      refine CallF.px .here (size_ok (ht8.mono (fun _ h => by repeat (first | exact h | apply List.mem_cons_of_mem | apply List.mem_append_right))) hf hne (by omega) hi9 (by omega)) ?_
      rintro r N10 (⟨h, rfl⟩ | ⟨q, rfl, hq, rfl⟩)
      · refine Ext.mk rfl (Ext.mk rfl (Bin.neN (a := 4) (b := 0) (Br.decT (by decide) ?_)))
        exact PxR.mk (by repeat (first | exact Grow.refl _ | apply Grow.cons | apply Grow.app)) rfl
      refine Ext.mk rfl (Ext.mk rfl (Bin.neN (a := 0) (b := 0) (Br.decF (by decide) ?_)))
      refine ints_cut ho (j := kk) (by rw [iw_length, hq.len]; exact hkk) fun v10 hi10 => ?_
      rw [show (iw q).take kk = iw (q.take kk) by simp [iw, List.map_take]] at hi10
      refine hi10.lenS ?_
      have hqk : (q.take kk).length = kk := by rw [List.length_take, hq.len]; omega
      rw [iw_length, hqk]
      refine ⟨fun vs H' => H' = H ∧ ∃ j : Nat, vs = [.int .u64 ((Tab.setl 0 (q.take j) : Nat) : Int), .int .i64 (j : Int)] ∧ j ≤ kk, fun vs _ => kk - nAt vs 1, JE.of (H' := H) (by exact .skips (.skips .right)) ⟨rfl, 0, rfl, by omega⟩, ?_⟩
      rintro w99 w100 H' ⟨rfl, j, hv, hj⟩ gs
      simp only [List.cons.injEq, and_true] at hv
      obtain ⟨rfl, rfl⟩ := hv
      have hsub : ∀ j, ∀ u ∈ q.take j, u < n := fun j u hu => hq.lt u (List.mem_of_mem_take hu)
      have hsl : ∀ j, Tab.setl 0 (q.take j) < 2 ^ n := fun j => Tab.setl_lt (hsub j) 0 hpos
      refine Bin.ltN (Br.dec (fun hjl => ?_) (fun hjl => ?_))
      · obtain ⟨u, hu1, hu2, hu3, hu4⟩ := pm_take hq (k := j) (by omega)
        have hg : (q.take kk)[j]? = some u := by rw [List.getElem?_take, if_pos hjl]; exact hu1
        refine hi10.ld (iw_get hg) (fun _ h => h) ?_
        have hpu : 2 ^ u ≤ 2 ^ 6 := Nat.pow_le_pow_right (by decide) (by omega)
        refine Bin.shlN (a := 1) (by simp [IntKind.bits]; omega) (by rw [Nat.one_shiftLeft]; simp [lim]; omega) ?_
        rw [Nat.one_shiftLeft]
        have := hsl j
        refine Bin.orN (by simp [lim]; omega) (by simp [lim]; omega) ?_
        refine Bin.addN (b := 1) (by simp [lim]; omega) ?_
        refine Back.mk ⟨rfl, j + 1, ?_, by omega⟩ (by rw [nAt_succ, nAt_succ]; show kk - (((j:Int)+1).toNat) < kk - ((j:Int).toNat); omega)
        rw [hu3, setl_snoc]; rfl
      · obtain rfl : j = kk := by omega
        refine CallF.px .here (twins_ok ht hfit) ?_
        intro v11 N11 ht11
        have hs := hsl j
        refine CallF.px .here (within_ok (A := Tab.setl 0 (q.take j)) ht11 hmx (by omega)) ?_
        intro r N12 hq12
        obtain rfl := within_of hn0 hO (by omega) hs hq12
        have htop := Tab.WB_top (c := Tab.lvl n L) (pm_ord hq) j
        refine Ext.mk rfl (Ext.mk rfl (Bin.eqN (a := 0) (b := 0) (Grp.and true (fun _ => Bin.leN ⟨rfl, by rw [decide_eq_true htop]⟩) rfl fun gs => ?_)))
        exact PxR.mk (by repeat (first | exact Grow.refl _ | apply Grow.cons | apply Grow.app)) rfl
  refine Bin.lss (Grp.or (decide ((n : Int) < kk)) (fun _ => Bin.gtr ⟨rfl, rfl⟩) rfl fun gs => ?_)
  refine Br.mk (fun hb => ?_) (fun hb => ?_)
  · refine Bin.divN (b := 2) (by simp [lim]; omega) (by decide) ?_
    exact hmain _ (Nat.div_le_self _ _)
  · rw [Bool.or_eq_false_iff, decide_eq_false_iff_not, decide_eq_false_iff_not] at hb
    obtain ⟨k', rfl⟩ : ∃ k' : Nat, kk = (k' : Int) := ⟨kk.toNat, by omega⟩
    exact hmain k' (by omega)

end Go.Proofs
set_option linter.unusedVariables false
set_option linter.unusedSimpArgs false
set_option maxRecDepth 100000
namespace Go.Proofs
open Go Go.Sx
theorem BuildSlC.one {P : Program} {t e k : Nat} {z : Value} {r : List Value} {K : Mk → Prop} (h1 : P.underlying t = some (.slice e)) (h2 : sizeD P e = some k) (h3 : zeroD P e = some z) (hk : 0 < k ∧ k ≤ 16777216) (hr : r.length = k)
    (h : K (.cells r.toArray e (0, 0), fun b => .slice (some ⟨b, 0, none⟩) 1 1)) : BuildSlC P t 1 [(0, .agg r.toArray)] K := by
  obtain ⟨cs, e', n, z', q1, q2, q3, q4, q5, q6⟩ := BuildSl.one (P := P) (H := []) (K := fun _ H' => ∃ b, H' = [(b, Obj.cells r.toArray e (0, 0))]) h1 h2 h3 hk hr (fun b => ⟨b, rfl⟩)
  refine ⟨cs, e', n, z', q1, q2, q3, q4, q5, ?_⟩
  obtain ⟨b, hb⟩ := q6 0 (by simp)
  simp only [List.cons.injEq, Prod.mk.injEq, Obj.cells.injEq, and_true] at hb
  obtain ⟨_, rfl, rfl⟩ := hb
  exact h
theorem buildOneC {s : Value} {n : Int} {K : Mk → Prop} (h : K (.cells #[.int .i64 n, s] 42 (0, 0), fun b => .slice (some ⟨b, 0, none⟩) 1 1)) :
    BuildSlC Try.prog 22 1 [(0, .agg #[.int .i64 n, s])] K :=
  BuildSlC.one (r := [.int .i64 n, s]) (e := 42) (k := 2) (z := .agg #[.int .i64 0, .slice none 0 0]) (by kernel_rfl) (by kernel_rfl) (by kernel_rfl) (by decide) rfl h
theorem laid_own {n : Nat} (hn : n ≤ 16) {fv : Value} {f : FuncId} {first cap : Array Value} (hfv : fv = .func (.func f) first cap) (hcl : callable Try.prog f = true) {F : Nat → Nat} (hF : ∀ i, i < Tab.wN n → F i < 18446744073709551616) {B : Hp}
    (hc : ∀ i : Nat, i < Tab.wN n → Rd Try.prog f (first ++ #[.int .i64 (i : Int)] ++ cap) B (· = .int .u64 ((F i : Nat) : Int))) :
    Fc Try.prog 39 #[.int .i64 (n : Int), fv] B (fun v H => ∃ bw N, v = .agg #[.int .i64 (n : Int), .slice (some ⟨bw, 0, none⟩) (Tab.wN n) (Tab.wN n)] ∧
      H = (bw, .cells (icells .u64 (iw (Tab.lay n F))) 33 (0, 0)) :: (N ++ B)) := by
  intro g
  have hwl := Tab.wN_le hn
  refine L39_sound (R := FnR _) ?_
  unfold L39
  intro b1 _
  refine CallF.rd (.cons .here) (words_ok hn B) ?_
  rintro v rfl
  refine MkSlice.ints (bytesW hn).1 (bytesW hn).2 fun bw => ?_
  refine Build.mk (cs := [.int .i64 (n : Int), .slice (some ⟨bw, 0, none⟩) (Tab.wN n) (Tab.wN n)]) (by kernel_rfl) ?_
  intro b8 _
  refine St.whole (r := [.int .i64 (n : Int), .slice (some ⟨bw, 0, none⟩) (Tab.wN n) (Tab.wN n)]) (by exact Upd.head _) rfl rfl (by simp [Value.oneCell']) ?_
  refine FAddr.mk (Ld.mk (by repeat (first | assumption | exact List.Mem.head _ | apply List.Mem.tail | apply List.mem_append_right)) rfl ?_)
  refine LenS.mk ?_
  rw [range_zero (G := fun i => F i &&& Tab.fullN n)]
  refine ⟨fun vs H => ∃ i : Nat, vs = [.int .i64 (i : Int)] ∧ i ≤ Tab.wN n ∧ H = (b8, .cells (List.toArray [.int .i64 (n : Int), .slice (some ⟨bw, 0, none⟩) (Tab.wN n) (Tab.wN n)]) 42 (0, 0)) ::
      (bw, .cells (icells .u64 (iw ((List.range (Tab.wN n)).map fun k => if k < i then F k &&& Tab.fullN n else 0))) 33 (0, 0)) :: (b1, .cells #[.int .i64 0, .slice none 0 0] 42 (0, 0)) :: B,
    fun vs _ => Tab.wN n - nAt vs 0, JE.mk ⟨0, rfl, by omega, rfl⟩, ?_⟩
  rintro w H ⟨i, hv, hi, rfl⟩ gs
  simp only [List.cons.injEq, and_true] at hv
  subst hv
  refine Bin.ltN (Br.dec (fun hlt => ?_) (fun hlt => ?_))
  · refine DR.self ?_
    refine FAddr.mk (Ld.mk (by repeat (first | assumption | exact List.Mem.head _ | apply List.Mem.tail | apply List.mem_append_right)) rfl ?_)
    refine CallV.of hfv hcl ?_
    refine CallF.rd (.cons (.cons (.cons .here))) (hc i hlt) ?_
    rintro v rfl
    refine ⟨.refl _, ?_⟩
    refine CallF.rd (.cons (.cons (.cons .here))) (full_ok hn B) ?_
    rintro v rfl
    refine ⟨.refl _, ?_⟩
    refine Bin.andN (by simpa [lim] using hF i hlt) (by simpa [lim] using Tab.fullN_lt n) ?_
    refine IAddr.nat hlt ?_
    refine St.ints (l := iw _) (by exact .tail (.head _)) (by simpa using hlt) ?_
    refine Bin.addN (b := 1) (by simp [lim]; omega) ?_
    rw [range_set hlt]
    exact Back.mk ⟨i + 1, rfl, by omega, rfl⟩ (by simp [nAt]; omega)
  · have : i = Tab.wN n := by omega
    subst this
    rw [range_done]
    refine LdA.whole (r := [.int .i64 (n : Int), .slice (some ⟨bw, 0, none⟩) (Tab.wN n) (Tab.wN n)]) (by exact List.Mem.head _) rfl ?_
    refine St.whole (r := [.int .i64 (n : Int), .slice (some ⟨bw, 0, none⟩) (Tab.wN n) (Tab.wN n)]) (by exact .tail (.tail (.head _))) rfl rfl (by simp [Value.oneCell']) ?_
    refine LdA.whole (r := [.int .i64 (n : Int), .slice (some ⟨bw, 0, none⟩) (Tab.wN n) (Tab.wN n)]) (by exact .tail _ (.tail _ (.head _))) rfl ?_
    exact FnR.mk Ent.swap ⟨bw, [(b8, _), (b1, _)], rfl, rfl⟩
/-- truth.Not -/
theorem not1_ok {B : Hp} {pa s : Value} {n i : Nat} {ws : List Nat} (ha : At B pa [.int .i64 (n : Int), s]) (hw : Words B s ws) (hi : i < ws.length) :
    Rd Try.prog 40 #[.int .i64 (i : Int), pa] B (· = .int .u64 ((18446744073709551615 - ws.getD i 0 : Nat) : Int)) := by
  intro g
  refine L40_sound (R := FnR _) ?_
  unfold L40
  have hg : ws[i]? = some (ws.getD i 0) := by rw [List.getD_eq_getElem?_getD, List.getElem?_eq_getElem hi]; rfl
  refine FAddr.at ha fun q hq => Ld.at hq (fun _ h => h) ?_
  refine hw.1.ld (iw_get hg) (fun _ h => h) ?_
  exact Un.xorU (hw.2 _ (List.mem_of_getElem? hg)) (RdR.mk (.refl _) rfl)
theorem tnot_ok {B : Hp} {v : Value} {n : Nat} {ws : List Nat} (ht : Tbl B v ⟨n, ws⟩) (hf : Tab.Frm n ws) :
    Px Try.prog 20 #[v] B (fun r H => ∃ s, r = .tuple #[.agg #[.int .i64 (n : Int), s], .int .i64 0] ∧ Words H s (Tab.neg n ws)) := by
  obtain ⟨s, rfl, hw⟩ := ht
  intro g
  refine L20_sound (R := FnR _) ?_
  unfold L20
  intro b1 _ b3 _
  refine LdA.whole (r := [.int .i64 (n : Int), s]) (by exact .tail _ (.head _)) rfl ?_
  refine buildOne fun b6 => ?_
  refine CallF.rd .here (formone_ok (t := ⟨n, ws⟩) (by exact List.Mem.head _) (hw.mono (fun _ h => by repeat (first | exact h | apply List.mem_cons_of_mem | apply List.mem_append_right)))) ?_
  rintro v rfl
  rw [decide_eq_true (show TF ⟨(n : Int), ws⟩ from ⟨by simp, by simpa using hf⟩)]
  refine Un.not (Br.no ?_)
  refine FAddr.mk (Ld.mk (by repeat (first | assumption | exact List.Mem.head _ | apply List.Mem.tail | apply List.mem_append_right)) rfl ?_)
  refine CallF.px (.cons (.cons .here)) (laid_ok hf.n16 rfl (by kernel_rfl) (F := fun i => 18446744073709551615 - ws.getD i 0) (fun i hi => by omega) (fun i hi => ?_)) ?_
  · exact not1_ok (At.block (l := [.int .i64 (n : Int), s]) (by repeat (first | assumption | exact List.Mem.head _ | apply List.Mem.tail | apply List.mem_append_right))) (hw.mono (fun _ h => by repeat (first | exact h | apply List.mem_cons_of_mem | apply List.mem_append_right))) (by rw [hf.len]; exact hi)
  rintro v N ⟨s', rfl, hw'⟩
  refine St.whole (r := [.int .i64 (n : Int), s']) (by repeat (first | exact Upd.head _ | apply Upd.tail | apply Upd.prepend)) rfl rfl ?_ ?_
  · have := oneCell_words hw'; simpa [Value.oneCell'] using this
  refine LdA.whole (r := [.int .i64 (n : Int), s']) (by repeat (first | assumption | exact List.Mem.head _ | apply List.Mem.tail | apply List.mem_append_right)) rfl ?_
  exact PxR.mk (by repeat (first | exact Grow.refl _ | apply Grow.cons | apply Grow.app)) ⟨s', rfl, hw'.mono (fun _ h => by repeat (first | exact h | apply List.mem_cons_of_mem | apply List.mem_append_right))⟩
/-- truth.Renamed -/
theorem ren1_ok {B : Hp} {i : Nat} : Rd Try.prog 41 #[.int .i64 (i : Int)] B (· = .int .u64 ((0 : Nat) : Int)) := by
  intro g
  refine L41_sound (R := FnR _) ?_
  unfold L41
  exact RdR.mk (.refl _) rfl
theorem Upd.in {b : Nat} {o o' : Obj} {H : Hp} (h : (b, o) ∈ H) : ∃ H', Upd b o o' H H' := by
  induction H with
  | nil => simp at h
  | cons x R ih =>
    by_cases e : x = (b, o)
    · subst e; exact ⟨_, .head _⟩
    · rcases List.mem_cons.1 h with h | h
      · exact absurd h.symm e
      · obtain ⟨H', u⟩ := ih h; exact ⟨_, .tail u⟩
theorem iw_set (l : List Nat) (i w : Nat) : iw (l.set i w) = (iw l).set i (w : Int) := by simp [iw, List.map_set]
theorem renamed_ok {B : Hp} {v pv : Value} {n : Nat} {ws : List Nat} {l : List Int} (ht : Tbl B v ⟨n, ws⟩) (hf : Tab.Frm n ws) (hi : Ints .i64 B pv l) (hl : l.length ≤ 281474976710656) :
    Px Try.prog 21 #[v, pv] B (fun r H => (¬ (PP n l ∧ l.length = n) ∧ r = .tuple #[.agg #[.int .i64 0, .slice none 0 0], .int .i64 4]) ∨
      ∃ p s, l = iw p ∧ Tab.Pm n p ∧ r = .tuple #[.agg #[.int .i64 (n : Int), s], .int .i64 0] ∧ Words H s (Tab.ren n p ws)) := by
  obtain ⟨s, rfl, hw⟩ := ht
  have hn16 := hf.n16
  have hwl := Tab.wN_le hn16
  intro g
  refine L21_sound (R := FnR _) ?_
  unfold L21
  intro b1 _ b3 _
  refine LdA.whole (r := [.int .i64 (n : Int), s]) (by exact .tail _ (.head _)) rfl ?_
  refine buildOne fun b6 => ?_
  refine CallF.rd .here (formone_ok (t := ⟨n, ws⟩) (by exact List.Mem.head _) (hw.mono (fun _ h => by repeat (first | exact h | apply List.mem_cons_of_mem | apply List.mem_append_right)))) ?_
  rintro v rfl
  rw [decide_eq_true (show TF ⟨(n : Int), ws⟩ from ⟨by simp, by simpa using hf⟩)]
  refine Un.not (Br.no ?_)
  refine FAddr.mk (Ld.mk (by repeat (first | assumption | exact List.Mem.head _ | apply List.Mem.tail | apply List.mem_append_right)) rfl ?_)
  refine MkSlice.bools (by omega) fun bs => ?_
  refine hi.lenS ?_
  refine ⟨fun vs H => ∃ (j : Nat) (sb : List Bool), vs = [.int .i64 (j : Int)] ∧ j ≤ l.length ∧ SeenI n l j sb ∧ H = (bs, .cells (bcells sb) 4 (0, 0)) :: (b6, .cells #[.int .i64 (n : Int), s] 42 (0, 0)) :: (b3, .cells #[.int .i64 0, .slice none 0 0] 42 (0, 0)) :: (b1, .cells (Value.cells (.agg #[.int .i64 (n : Int), s])) 42 (0, 0)) :: B,
    fun vs _ => l.length - nAt vs 0, JE.mk ⟨0, _, rfl, by omega, SeenI.start _ _, rfl⟩, ?_⟩
  rintro w H ⟨j, sb, hv, hj, hS, rfl⟩ gs
  simp only [List.cons.injEq, and_true] at hv
  subst hv
  have hslen := hS.len
  have hb1 : At ((bs, .cells (bcells sb) 4 (0, 0)) :: (b6, .cells #[.int .i64 (n : Int), s] 42 (0, 0)) :: (b3, .cells #[.int .i64 0, .slice none 0 0] 42 (0, 0)) :: (b1, .cells (Value.cells (.agg #[.int .i64 (n : Int), s])) 42 (0, 0)) :: B) (.pointer (some ⟨b1, 0, none⟩)) [.int .i64 (n : Int), s] := At.block (l := [.int .i64 (n : Int), s]) (by repeat (first | assumption | exact List.Mem.head _ | apply List.Mem.tail | apply List.mem_append_right))
  have herr : ∀ K : Prop, ¬ (PP n l ∧ l.length = n) → Build Try.prog 42 [] fun v37 => St 2 ((bs, .cells (bcells sb) 4 (0, 0)) :: (b6, .cells #[.int .i64 (n : Int), s] 42 (0, 0)) :: (b3, .cells #[.int .i64 0, .slice none 0 0] 42 (0, 0)) :: (b1, .cells (Value.cells (.agg #[.int .i64 (n : Int), s])) 42 (0, 0)) :: B) (.pointer (some ⟨b3, 0, none⟩)) v37 fun H38 => LdA 2 H38 (.pointer (some ⟨b3, 0, none⟩)) fun v39 =>
      FnR (fun r H => Grow B H ∧ ((¬ (PP n l ∧ l.length = n) ∧ r = .tuple #[.agg #[.int .i64 0, .slice none 0 0], .int .i64 4]) ∨ ∃ p s, l = iw p ∧ Tab.Pm n p ∧ r = .tuple #[.agg #[.int .i64 (n : Int), s], .int .i64 0] ∧ Words H s (Tab.ren n p ws))) (.returned (.tuple #[v39, .int .i64 4])) H38 := by
    intro _ h
    refine Build.mk (cs := [.int .i64 0, .slice none 0 0]) (by kernel_rfl) ?_
    refine St.whole (r := [.int .i64 0, .slice none 0 0]) (by repeat (first | exact Upd.head _ | apply Upd.tail | apply Upd.prepend)) rfl rfl (by simp [Value.oneCell']) ?_
    refine LdA.whole (r := [.int .i64 0, .slice none 0 0]) (by repeat (first | assumption | exact List.Mem.head _ | apply List.Mem.tail | apply List.mem_append_right)) rfl ?_
    exact PxR.mk (by repeat (first | exact Grow.refl _ | apply Grow.cons | apply Grow.app)) (.inl ⟨h, rfl⟩)
  refine Bin.ltN (Br.dec (fun hlt => ?_) (fun hlt => ?_))
  · have hg : l[j]? = some l[j] := List.getElem?_eq_getElem hlt
    refine hi.ld hg (fun _ h => by repeat (first | exact h | apply List.mem_cons_of_mem | apply List.mem_append_right)) ?_
    have hbad : (l[j] < 0 ∨ (n : Int) ≤ l[j] ∨ l[j] ∈ l.take j) → ¬ (PP n l ∧ l.length = n) := fun hx h => SeenI.bad hg hx h.1
    refine Bin.lss (Grp.or (decide ((n : Int) ≤ l[j])) (fun _ => ?_) rfl fun gs => ?_)
    · refine FAddr.at hb1 fun q hq => Ld.at hq (fun _ h => h) ?_
      exact Bin.geq ⟨rfl, rfl⟩
    by_cases hr : l[j] < 0 ∨ (n : Int) ≤ l[j]
    · have hb : (decide (l[j] < 0) || decide ((n : Int) ≤ l[j])) = true := by
        rw [Bool.or_eq_true, decide_eq_true_iff, decide_eq_true_iff]; exact hr
      rw [hb]
      refine Grp.or true (fun e => by cases e) rfl fun gs => Br.yes (herr True (hbad ?_))
      rcases hr with h | h
      · exact .inl h
      · exact .inr (.inl h)
    · have hb : (decide (l[j] < 0) || decide ((n : Int) ≤ l[j])) = false := by
        rw [Bool.or_eq_false_iff, decide_eq_false_iff_not, decide_eq_false_iff_not]; omega
      rw [hb]
      obtain ⟨u, hu⟩ : ∃ u : Nat, l[j] = (u : Int) := ⟨l[j].toNat, by omega⟩
      rw [hu] at hg hbad ⊢
      have hul : u < n := by omega
      obtain ⟨sv, hsv, hsm⟩ := hS.get hul
      have hB : ∀ X : Hp, Bools ((bs, .cells (bcells sb) 4 (0, 0)) :: X) (.slice (some ⟨bs, 0, none⟩) n n) sb := by
        intro X
        have := Bools.block (B := (bs, .cells (bcells sb) 4 (0, 0)) :: X) (cap := n) (.head _) (by omega)
        rw [hslen] at this; exact this
      refine Grp.or sv (fun _ => (hB _).ld hsv (fun _ h => h) ⟨rfl, rfl⟩) rfl fun gs => ?_
      rw [Bool.false_or]
      cases sv with
      | true => exact Br.yes (herr True (hbad (.inr (.inr (hsm.1 rfl)))))
      | false =>
        have hns : (u : Int) ∉ l.take j := fun h => by have := hsm.2 h; cases this
        refine Br.no (IAddr.nat hul ?_)
        refine St.bools (l := sb) (x := true) (.head _) (by omega) ?_
        refine Bin.addN (b := 1) (by simp [lim]; omega) ?_
        exact Back.mk ⟨j + 1, sb.set u true, rfl, by omega, hS.step hg hul hns, rfl⟩ (by simp [nAt]; omega)
  · obtain rfl : j = l.length := by omega
    refine hi.lenS ?_
    refine FAddr.at hb1 fun q hq => Ld.at hq (fun _ h => h) ?_
    refine Bin.neN (Br.dec (fun hne => herr True fun h => hne h.2) (fun heq => ?_))
    have hln : l.length = n := by omega
    obtain ⟨p, rfl, hp⟩ := hS.done.pm hln
    refine FAddr.at hb1 fun q hq => Ld.at hq (fun _ h => h) ?_
    refine CallF.fn .here (laid_own hn16 rfl (by kernel_rfl) (F := fun _ => 0) (fun i hi => by decide) (fun i hi => ren1_ok)) ?_
    rintro r H ⟨bw, N, rfl, rfl⟩
    have hb1' := hb1.mono (B' := N ++ ((bs, .cells (bcells sb) 4 (0, 0)) :: (b6, .cells #[.int .i64 (n : Int), s] 42 (0, 0)) :: (b3, .cells #[.int .i64 0, .slice none 0 0] 42 (0, 0)) :: (b1, .cells (Value.cells (.agg #[.int .i64 (n : Int), s])) 42 (0, 0)) :: B)) (fun _ h => by repeat (first | exact h | apply List.mem_cons_of_mem | apply List.mem_append_right))
    have hi' := hi.mono (B' := N ++ ((bs, .cells (bcells sb) 4 (0, 0)) :: (b6, .cells #[.int .i64 (n : Int), s] 42 (0, 0)) :: (b3, .cells #[.int .i64 0, .slice none 0 0] 42 (0, 0)) :: (b1, .cells (Value.cells (.agg #[.int .i64 (n : Int), s])) 42 (0, 0)) :: B)) (fun _ h => by repeat (first | exact h | apply List.mem_cons_of_mem | apply List.mem_append_right))
    have hw' := hw.mono (B' := N ++ ((bs, .cells (bcells sb) 4 (0, 0)) :: (b6, .cells #[.int .i64 (n : Int), s] 42 (0, 0)) :: (b3, .cells #[.int .i64 0, .slice none 0 0] 42 (0, 0)) :: (b1, .cells (Value.cells (.agg #[.int .i64 (n : Int), s])) 42 (0, 0)) :: B)) (fun _ h => by repeat (first | exact h | apply List.mem_cons_of_mem | apply List.mem_append_right))
    have hfin : ∀ t, Words ((bw, .cells (icells .u64 (iw t)) 33 (0, 0)) :: B) (.slice (some ⟨bw, 0, none⟩) (Tab.wN n) (Tab.wN n)) (Tab.ren n p ws) → ∀ b54, LdA 2 ((b54, .cells (List.toArray [.int .i64 (n : Int), .slice (some ⟨bw, 0, none⟩) (Tab.wN n) (Tab.wN n)]) 42 (0, 0)) :: (bw, .cells (icells .u64 (iw t)) 33 (0, 0)) :: (N ++ ((bs, .cells (bcells sb) 4 (0, 0)) :: (b6, .cells #[.int .i64 (n : Int), s] 42 (0, 0)) :: (b3, .cells #[.int .i64 0, .slice none 0 0] 42 (0, 0)) :: (b1, .cells (Value.cells (.agg #[.int .i64 (n : Int), s])) 42 (0, 0)) :: B))) (.pointer (some ⟨b54, 0, none⟩)) fun v101 =>
        St 2 ((b54, .cells (List.toArray [.int .i64 (n : Int), .slice (some ⟨bw, 0, none⟩) (Tab.wN n) (Tab.wN n)]) 42 (0, 0)) :: (bw, .cells (icells .u64 (iw t)) 33 (0, 0)) :: (N ++ ((bs, .cells (bcells sb) 4 (0, 0)) :: (b6, .cells #[.int .i64 (n : Int), s] 42 (0, 0)) :: (b3, .cells #[.int .i64 0, .slice none 0 0] 42 (0, 0)) :: (b1, .cells (Value.cells (.agg #[.int .i64 (n : Int), s])) 42 (0, 0)) :: B))) (.pointer (some ⟨b3, 0, none⟩)) v101 fun H102 => LdA 2 H102 (.pointer (some ⟨b3, 0, none⟩)) fun v103 =>
        FnR (fun r H => Grow B H ∧ ((¬ (PP n (iw p) ∧ (iw p).length = n) ∧ r = .tuple #[.agg #[.int .i64 0, .slice none 0 0], .int .i64 4]) ∨ ∃ q s, iw p = iw q ∧ Tab.Pm n q ∧ r = .tuple #[.agg #[.int .i64 (n : Int), s], .int .i64 0] ∧ Words H s (Tab.ren n q ws))) (.returned (.tuple #[v103, .int .i64 0])) H102 := by
      intro t ht b54
      refine LdA.whole (r := [.int .i64 (n : Int), .slice (some ⟨bw, 0, none⟩) (Tab.wN n) (Tab.wN n)]) (by exact .head _) rfl ?_
      refine St.whole (r := [.int .i64 (n : Int), .slice (some ⟨bw, 0, none⟩) (Tab.wN n) (Tab.wN n)]) (by repeat (first | exact Upd.head _ | apply Upd.tail | apply Upd.prepend)) rfl rfl (by simp [Value.oneCell']) ?_
      refine LdA.whole (r := [.int .i64 (n : Int), .slice (some ⟨bw, 0, none⟩) (Tab.wN n) (Tab.wN n)]) (by repeat (first | assumption | exact List.Mem.head _ | apply List.Mem.tail | apply List.mem_append_right)) rfl ?_
      refine PxR.mk (by repeat (first | exact Grow.refl _ | apply Grow.cons | apply Grow.app)) (.inr ⟨p, _, rfl, hp, rfl, ht.mono fun x hx => ?_⟩)
      rcases List.mem_cons.1 hx with rfl | hx
      · exact .tail _ (.head _)
      · exact .tail _ (.tail _ (List.mem_append_right _ (.tail _ (.tail _ (.tail _ (.tail _ hx))))))
    have hR0 : Grow B (N ++ ((bs, .cells (bcells sb) 4 (0, 0)) :: (b6, .cells #[.int .i64 (n : Int), s] 42 (0, 0)) :: (b3, .cells #[.int .i64 0, .slice none 0 0] 42 (0, 0)) :: (b1, .cells (Value.cells (.agg #[.int .i64 (n : Int), s])) 42 (0, 0)) :: B)) := (by repeat (first | exact Grow.refl _ | apply Grow.cons | apply Grow.app))
    generalize hR : N ++ ((bs, .cells (bcells sb) 4 (0, 0)) :: (b6, .cells #[.int .i64 (n : Int), s] 42 (0, 0)) :: (b3, .cells #[.int .i64 0, .slice none 0 0] 42 (0, 0)) :: (b1, .cells (Value.cells (.agg #[.int .i64 (n : Int), s])) 42 (0, 0)) :: B) = R at hfin hb1' hi' hw' hR0 ⊢
    clear hb1 hi hw hR herr hslen
    intro b54 _
    refine St.whole (r := [.int .i64 (n : Int), .slice (some ⟨bw, 0, none⟩) (Tab.wN n) (Tab.wN n)]) (by exact Upd.head _) rfl rfl (by simp [Value.oneCell']) ?_
    refine FAddr.at (hb1'.mono (B' := (b54, _) :: (bw, _) :: R) (fun _ h => by repeat (first | exact h | apply List.mem_cons_of_mem | apply List.mem_append_right))) fun q hq => Ld.at hq (fun _ h => h) ?_
    have h2n : 2 ^ n ≤ 65536 := Nat.pow_le_pow_right (n := 2) (by decide) hn16
    refine Bin.shlN (a := 1) (b := n) (by simp [IntKind.bits]; omega) (by rw [Nat.one_shiftLeft]; simp only [lim]; omega) ?_
    rw [Nat.one_shiftLeft]
    refine ⟨fun vs H => ∃ (k : Nat) (t : List Nat), vs = [.int .i64 (k : Int)] ∧ k ≤ 2 ^ n ∧ Tab.RenT n p ws k t ∧ H = (b54, .cells (List.toArray [.int .i64 (n : Int), .slice (some ⟨bw, 0, none⟩) (Tab.wN n) (Tab.wN n)]) 42 (0, 0)) :: (bw, .cells (icells .u64 (iw t)) 33 (0, 0)) :: R,
      fun vs _ => 2 ^ n - nAt vs 0, JE.mk ⟨0, _, rfl, Nat.zero_le _, Tab.RenT.start hn16 p ws, rfl⟩, ?_⟩
    rintro w64 H ⟨k, t, hv, hk, hT, rfl⟩ gs
    simp only [List.cons.injEq, and_true] at hv
    subst hv
    have htl := hT.frm.len
    refine Bin.ltN (Br.dec (fun hlt => ?_) (fun hlt => ?_))
    · refine (hi'.mono (B' := (b54, Obj.cells (List.toArray [.int .i64 (n : Int), .slice (some ⟨bw, 0, none⟩) (Tab.wN n) (Tab.wN n)]) 42 (0, 0)) :: (bw, .cells (icells .u64 (iw t)) 33 (0, 0)) :: R) (fun _ h => by repeat (first | exact h | apply List.mem_cons_of_mem | apply List.mem_append_right))).lenS ?_
      rw [hln]
      refine ⟨fun vs H => ∃ m : Nat, vs = [.int .i64 ((Tab.imgk (Tab.pn p) k m : Nat) : Int), .int .i64 (m : Int)] ∧ m ≤ n ∧ H = (b54, .cells (List.toArray [.int .i64 (n : Int), .slice (some ⟨bw, 0, none⟩) (Tab.wN n) (Tab.wN n)]) 42 (0, 0)) :: (bw, .cells (icells .u64 (iw t)) 33 (0, 0)) :: R,
        fun vs _ => n - nAt vs 1, JE.mk ⟨0, rfl, by omega, rfl⟩, ?_⟩
      rintro w71 w72 H ⟨m, hv, hm, rfl⟩ gs
      simp only [List.cons.injEq, and_true] at hv
      obtain ⟨rfl, rfl⟩ := hv
      have hik := Tab.img_lt hp k m hm
      refine Bin.ltN (Br.dec (fun hmlt => ?_) (fun hmlt => ?_))
      · have hpm := hp.get hmlt
        have hpl := hp.pi.1 m hmlt
        refine hi'.ld (iw_get hpm) (fun _ h => by repeat (first | exact h | apply List.mem_cons_of_mem | apply List.mem_append_right)) ?_
        refine Bin.shrN (by simp [lim]; omega) ?_
        have hs1 := Nat.shiftRight_le k m
        refine Bin.andN (b := 1) (by simp only [lim]; omega) (by simp [lim]) ?_
        have hs2 : (k >>> m &&& 1) <<< Tab.pn p m < 2 ^ n := by
          have := Tab.img_lt hp k (m + 1) hmlt
          rw [Tab.imgk_succ] at this
          exact Nat.lt_of_le_of_lt Nat.right_le_or this
        refine Bin.shlN (by simp [IntKind.bits]; omega) (by simp only [lim]; omega) ?_
        refine Bin.orN (by simp only [lim]; omega) (by simp only [lim]; omega) ?_
        refine Bin.addN (b := 1) (by simp [lim]; omega) ?_
        rw [← Tab.imgk_succ]
        exact Back.mk ⟨m + 1, rfl, hmlt, rfl⟩ (by rw [nAt_succ, nAt_succ]; show n - (((m:Int)+1).toNat) < n - ((m:Int).toNat); omega)
      · obtain rfl : m = n := by omega
        have hstep := hT.step hp hlt
        rw [show Tab.img m (Tab.pn p) k = Tab.imgk (Tab.pn p) k m from rfl] at hstep
        have hiw := Tab.lt_words hik
        have hkw := Tab.lt_words hlt
        generalize Tab.imgk (Tab.pn p) k m = i at hik hstep hiw ⊢
        refine DR.self ?_
        refine FAddr.mk (Ld.mk (by repeat (first | assumption | exact List.Mem.head _ | apply List.Mem.tail | apply List.mem_append_right)) rfl ?_)
        refine Bin.divN (b := 64) (by simp [lim]; omega) (by decide) ?_
        refine IAddr.nat hiw ?_
        have hgt : t[i / 64]? = some (t.getD (i / 64) 0) := by rw [List.getD_eq_getElem?_getD, List.getElem?_eq_getElem (by rw [htl]; exact hiw)]; rfl
        have hgw : ws[k / 64]? = some (ws.getD (k / 64) 0) := by rw [List.getD_eq_getElem?_getD, List.getElem?_eq_getElem (by rw [hf.len]; exact hkw)]; rfl
        refine Ld.mk (v := .int .u64 ((t.getD (i / 64) 0 : Nat) : Int)) (by exact .tail _ (.head _)) ?_ ?_
        · simp only [icells, Nat.zero_add, Nat.mul_one, List.getElem?_toArray, List.getElem?_map, iw_get hgt, Option.map_some]
        have htlt := hT.frm.lt (List.mem_of_getElem? hgt)
        have hwlt := hf.lt (List.mem_of_getElem? hgw)
        refine FAddr.at (hb1'.mono (B' := (b54, _) :: (bw, _) :: R) (fun _ h => by repeat (first | exact h | apply List.mem_cons_of_mem | apply List.mem_append_right))) fun q hq => Ld.at hq (fun _ h => h) ?_
        refine Bin.divN (b := 64) (by simp [lim]; omega) (by decide) ?_
        refine hw'.1.ld (iw_get hgw) (fun _ h => by repeat (first | exact h | apply List.mem_cons_of_mem | apply List.mem_append_right)) ?_
        refine Bin.modN (b := 64) (by decide) ?_
        refine Bin.shrN (by simpa [lim] using hwlt) ?_
        have hs1 := Nat.shiftRight_le (ws.getD (k / 64) 0) (k % 64)
        refine Bin.andN (b := 1) (by simp only [lim]; omega) (by simp [lim]) ?_
        refine Bin.modN (b := 64) (by decide) ?_
        have hi64 : i % 64 < 64 := Nat.mod_lt _ (by decide)
        have hb1s : (ws.getD (k / 64) 0 >>> (k % 64) &&& 1) <<< (i % 64) < 18446744073709551616 := by
          have h1 : ws.getD (k / 64) 0 >>> (k % 64) &&& 1 ≤ 1 := Nat.and_le_right
          rw [Nat.shiftLeft_eq]
          have h2 : 2 ^ (i % 64) < 18446744073709551616 := Nat.pow_lt_pow_right (a := 2) (n := 64) (by decide) hi64
          exact Nat.lt_of_le_of_lt (Nat.mul_le_mul_right _ h1) (by omega)
        refine Bin.shlN (by simp [IntKind.bits]; omega) (by simpa only [lim] using hb1s) ?_
        refine Bin.orN (by simpa [lim] using htlt) (by simpa only [lim] using hb1s) ?_
        refine IAddr.nat hiw ?_
        refine St.ints (l := iw t) (x := ((t.getD (i / 64) 0 ||| ((ws.getD (k / 64) 0 >>> (k % 64) &&& 1) <<< (i % 64)) : Nat) : Int)) (H' := (b54, .cells (List.toArray [.int .i64 (m : Int), .slice (some ⟨bw, 0, none⟩) (Tab.wN m) (Tab.wN m)]) 42 (0, 0)) :: (bw, .cells (icells .u64 (iw (t.set (i / 64) (t.getD (i / 64) 0 ||| ((ws.getD (k / 64) 0 >>> (k % 64) &&& 1) <<< (i % 64)))))) 33 (0, 0)) :: R) (by rw [iw_set]; exact .tail (.head _)) (by rw [iw_length, htl]; exact hiw) ?_
        refine Bin.addN (b := 1) (by simp [lim]; omega) ?_
        exact Back.mk ⟨k + 1, _, rfl, by omega, hstep, rfl⟩ (by simp [nAt]; omega)
    · obtain rfl : k = 2 ^ n := by omega
      have := hT.done hp
      refine hfin t ?_ b54
      rw [← this]
      have h2 := Words.block (b := bw) (cap := Tab.wN n) (ws := t) (T := 33) (fz := (0, 0)) (B := (bw, .cells (icells .u64 (iw t)) 33 (0, 0)) :: B) (.head _) (by omega) (fun w hw => hT.frm.lt hw)
      rw [htl] at h2; exact h2

end Go.Proofs
set_option linter.unusedVariables false
set_option linter.unusedSimpArgs false
set_option maxRecDepth 100000
namespace Go.Proofs
open Go Go.Sx
theorem tbs_snocf {n : Nat} {f : List Nat → List Nat} {L : List (List Nat)} {j : Nat} (hj : j < L.length) : tbs n ((L.take j).map f) ++ [⟨(n : Int), f L[j]⟩] = tbs n ((L.take (j + 1)).map f) := by
  rw [List.take_succ_eq_append_getElem hj, List.map_append]
  simp [tbs]
theorem frm_neg {n : Nat} (hn : n ≤ 16) {L : List (List Nat)} : ∀ ws ∈ L.map (Tab.neg n), Tab.Frm n ws := fun ws h => by
  obtain ⟨t, _, rfl⟩ := List.mem_map.1 h; exact Tab.frm_lay hn _
theorem frm_ren {n : Nat} (hn : n ≤ 16) {p : List Nat} {L : List (List Nat)} : ∀ ws ∈ L.map (Tab.ren n p), Tab.Frm n ws := fun ws h => by
  obtain ⟨t, _, rfl⟩ := List.mem_map.1 h; exact Tab.frm_lay hn _
theorem perm_q {α : Type} (C3 C1 C2 R : List α) (x y : α) : (C3 ++ (x :: y :: (C1 ++ (C2 ++ R)))).Perm (C1 ++ (C2 ++ (C3 ++ (x :: y :: R)))) := by
  have h1 := List.perm_append_comm_assoc (C3 ++ [x, y]) C1 (C2 ++ R)
  have h2 := (List.perm_append_comm_assoc (C3 ++ [x, y]) C2 R).append_left C1
  have := h1.trans h2
  simpa [List.append_assoc] using this
theorem iw_toNat (p : List Nat) : (iw p).map Int.toNat = p := by
  unfold iw; rw [List.map_map]
  have : (Int.toNat ∘ (Nat.cast : Nat → Int)) = id := by funext x; simp
  rw [this, List.map_id]
theorem renames_law {B : Hp} {v ov : Value} {ts : List Tb} {l : List Int} (ht : Tbls B v ts) (hfit : TFit ts) (ho : Ints .i64 B ov l) (hl : l.length * 8 ≤ 140737488351232) : Px Try.prog 6 #[v, ov] B (fun r _ => r = .bool true) := by
  intro g
  refine L6_sound (R := FnR _) ?_
  unfold L6
  refine CallF.px .here (awake_ok B) ?_
  rintro _ N rfl
  refine Un.not (Br.no ?_)
  refine CallF.rd .here (good_ok (most := 8) (ht.mono (fun _ h => by repeat (first | exact h | apply List.mem_cons_of_mem | apply List.mem_append_right))) (by have := hfit.1; omega)) ?_
  rintro _ ⟨b, rfl, hb⟩
  cases b with
  | false => exact Un.not (Br.yes (PxR.mk (by repeat (first | exact Grow.refl _ | apply Grow.cons | apply Grow.app)) rfl))
  | true =>
  obtain ⟨n, L, rfl, hne, hl12, hn9, hn16, hf⟩ := hb rfl
  refine Un.not (Br.no ?_)
  have hO : OneN (tbs n L) := oneN_map hf
  have hn0 : L = [] → n = 0 := fun e => absurd e hne
  refine ht.lenS ?_
  rw [tbs_length]
  refine ⟨fun vs H => ∃ (j : Nat) (s1 s2 : Value) (C1 C2 M : Hp), vs = [s1, s2, .int .i64 (j : Int)] ∧ j ≤ L.length ∧ Grow B M ∧ (0 < j → ∃ p, l = iw p ∧ Tab.Pm n p) ∧
      TOwn 42 s1 (tbs n ((L.take j).map (Tab.neg n))) C1 M ∧ TOwn 42 s2 (tbs n ((L.take j).map (Tab.ren n (l.map Int.toNat)))) C2 M ∧ H = C1 ++ (C2 ++ M),
    fun vs _ => L.length - nAt vs 2, JE.mk ⟨0, _, _, [], [], N ++ B, rfl, by omega, (by repeat (first | exact Grow.refl _ | apply Grow.cons | apply Grow.app)), by omega, TOwn.nil, TOwn.nil, rfl⟩, ?_⟩
  rintro w12 w13 w14 H ⟨j, s1, s2, C1, C2, M, hv, hj, hM, hp, ho1, ho2, rfl⟩ gs
  simp only [List.cons.injEq, and_true] at hv
  obtain ⟨rfl, rfl, rfl⟩ := hv
  refine Bin.ltN (Br.dec (fun hlt => ?_) (fun hlt => ?_))
  · have hg : (tbs n L)[j]? = some ⟨(n : Int), L[j]⟩ := tbs_get (List.getElem?_eq_getElem hlt)
    have hfj := hf _ (List.getElem_mem hlt)
    refine ht.ld hg (fun x hx => List.mem_append_right _ (List.mem_append_right _ (hM.sub x hx))) fun sw hw => ?_
    intro b18 _
    refine St.whole (r := [.int .i64 (n : Int), sw]) (by exact .head _) rfl rfl (by have := oneCell_words hw; simpa [Value.oneCell'] using this) ?_
    refine LdA.whole (r := [.int .i64 (n : Int), sw]) (by exact .head _) rfl ?_
    refine CallF.px (.cons (.app (.app .here))) (tnot_ok (v := .agg (List.toArray [.int .i64 (n : Int), sw])) ⟨sw, rfl, hw.mono hM.sub⟩ hfj) ?_
    rintro r N1 ⟨t1, rfl, hw1⟩
    refine Ext.mk rfl (Ext.mk rfl ?_)
    intro b26 _
    refine St.whole (r := [.int .i64 (n : Int), t1]) (by exact .head _) rfl rfl (by have := oneCell_words hw1; simpa [Value.oneCell'] using this) ?_
    refine DR.of (R := (b26, .cells (List.toArray [.int .i64 (n : Int), t1]) 42 (0, 0)) :: (b18, .cells (List.toArray [.int .i64 (n : Int), sw]) 42 (0, 0)) :: (N1 ++ M)) (by repeat (first | exact Ent.refl _ | apply Ent.cons | apply Ent.skip | apply Ent.prep | apply Ent.skips)) ?_
    refine LdA.whole (r := [.int .i64 (n : Int), sw]) (by exact .tail _ (.head _)) rfl ?_
    intro _
    refine BuildSl.none (e := 3) (k := 1) (z := .int .i64 0) (by kernel_rfl) (by kernel_rfl) (by kernel_rfl) fun b32 => ?_
    refine ⟨(by repeat (first | exact Ent.refl _ | apply Ent.cons | apply Ent.skip | apply Ent.prep | apply Ent.skips)), ?_⟩
    intro _
    refine IOwn.apps (A := []) (C := [_]) (l := []) (.inr ⟨b32, [], rfl, rfl, by simp⟩) (ho.mono fun x hx => .tail _ (.tail _ (.tail _ (List.mem_append_right _ (List.mem_append_right _ (List.mem_append_right _ (hM.sub x hx))))))) (by simp; omega) (by simp; omega) fun s' C3 ho3 => ?_
    rw [List.nil_append] at ho3
    rw [List.nil_append]
    refine ⟨(by repeat (first | exact Ent.refl _ | apply Ent.cons | apply Ent.skip | apply Ent.prep | apply Ent.skips)), ?_⟩
    intro _
    refine CallF.pre (H' := C1 ++ (C2 ++ (C3 ++ ((b26, .cells (List.toArray [.int .i64 (n : Int), t1]) 42 (0, 0)) :: (b18, .cells (List.toArray [.int .i64 (n : Int), sw]) 42 (0, 0)) :: (N1 ++ M))))) (.perm ?_) ?_
    · exact perm_q C3 C1 C2 (N1 ++ M) _ _
    refine CallF.px (.app (.app .here)) (renamed_ok (v := .agg (List.toArray [.int .i64 (n : Int), sw])) ⟨sw, rfl, hw.mono fun x hx => ?_⟩ hfj (ho3.ints.mono fun _ h => List.mem_append_left _ h) (by omega)) ?_
    · exact List.mem_append_right _ (.tail _ (.tail _ (List.mem_append_right _ (hM.sub x hx))))
    rintro r N2 (⟨_, rfl⟩ | ⟨p, t2, rfl, hp2, rfl, hw2⟩)
    · refine ⟨(by repeat (first | exact Ent.refl _ | apply Ent.cons | apply Ent.skip | apply Ent.prep | apply Ent.skips)), ?_⟩
      refine Ext.mk rfl (Ext.mk rfl ?_)
      intro b44 _ _
      refine St.whole (r := [.int .i64 0, .slice none 0 0]) (by exact .head _) rfl rfl (by simp [Value.oneCell']) ?_
      refine ⟨(by repeat (first | exact Ent.refl _ | apply Ent.cons | apply Ent.skip | apply Ent.prep | apply Ent.skips)), ?_⟩
      refine Bin.neN (a := 0) (b := 0) (Br.decF (by decide) ?_)
      refine Bin.neN (a := 4) (b := 0) (Br.decT (by decide) ?_)
      refine Bin.eqN (a := 4) (b := 4) ?_
      exact PxR.mk (by repeat (first | exact hM | apply Grow.cons | apply Grow.app)) rfl
    · refine ⟨(by repeat (first | exact Ent.refl _ | apply Ent.cons | apply Ent.skip | apply Ent.prep | apply Ent.skips)), ?_⟩
      refine Ext.mk rfl (Ext.mk rfl ?_)
      intro b44 _ _
      refine St.whole (r := [.int .i64 (n : Int), t2]) (by exact .head _) rfl rfl (by have := oneCell_words hw2; simpa [Value.oneCell'] using this) ?_
      refine ⟨(by repeat (first | exact Ent.refl _ | apply Ent.cons | apply Ent.skip | apply Ent.prep | apply Ent.skips)), ?_⟩
      refine Bin.neN (a := 0) (b := 0) (Br.decF (by decide) ?_)
      refine Bin.neN (a := 0) (b := 0) (Br.decF (by decide) ?_)
      have hM' : Grow B (N2 ++ (C3 ++ ((b26, .cells (List.toArray [.int .i64 (n : Int), t1]) 42 (0, 0)) :: (b18, .cells (List.toArray [.int .i64 (n : Int), sw]) 42 (0, 0)) :: (N1 ++ M)))) := by repeat (first | exact hM | apply Grow.cons | apply Grow.app)
      have hw1' : Words (N2 ++ (C3 ++ ((b26, .cells (List.toArray [.int .i64 (n : Int), t1]) 42 (0, 0)) :: (b18, .cells (List.toArray [.int .i64 (n : Int), sw]) 42 (0, 0)) :: (N1 ++ M)))) t1 (Tab.neg n L[j]) := hw1.mono (fun _ h => by repeat (first | exact h | apply List.mem_cons_of_mem | apply List.mem_append_right))
      have hsub : ∀ x ∈ M, x ∈ (N2 ++ (C3 ++ ((b26, .cells (List.toArray [.int .i64 (n : Int), t1]) 42 (0, 0)) :: (b18, .cells (List.toArray [.int .i64 (n : Int), sw]) 42 (0, 0)) :: (N1 ++ M)))) := (fun _ h => by repeat (first | exact h | apply List.mem_cons_of_mem | apply List.mem_append_right))
      have ho1' := ho1.mono hsub
      have ho2' := ho2.mono hsub
      rw [iw_toNat] at ho2'
      refine DR.of (R := (b44, .cells (List.toArray [.int .i64 (n : Int), t2]) 42 (0, 0)) :: (N2 ++ (C3 ++ ((b26, .cells (List.toArray [.int .i64 (n : Int), t1]) 42 (0, 0)) :: (b18, .cells (List.toArray [.int .i64 (n : Int), sw]) 42 (0, 0)) :: (N1 ++ M))))) (by repeat (first | exact Ent.refl _ | apply Ent.cons | apply Ent.skip | apply Ent.prep | apply Ent.skips)) ?_
      refine LdA.whole (r := [.int .i64 (n : Int), t1]) (by repeat (first | assumption | exact List.Mem.head _ | apply List.Mem.tail | apply List.mem_append_right)) rfl ?_
      refine LdA.whole (r := [.int .i64 (n : Int), t2]) (by exact .head _) rfl ?_
      generalize hMM : N2 ++ (C3 ++ ((b26, .cells (List.toArray [.int .i64 (n : Int), t1]) 42 (0, 0)) :: (b18, .cells (List.toArray [.int .i64 (n : Int), sw]) 42 (0, 0)) :: (N1 ++ M))) = M' at hM' hw1' hw2 hsub ho1' ho2' ⊢
      refine buildOneC ?_
      intro _
      refine buildOne fun b56 => ?_
      refine ⟨(by repeat (first | exact Ent.refl _ | apply Ent.cons | apply Ent.skip | apply Ent.prep | apply Ent.skips)), ?_⟩
      intro _
      refine TOwn.app (t := ⟨n, Tab.neg n L[j]⟩) (A := [_, _]) (B := C2 ++ M') ho1' (xT := 42) (fz := (0, 0)) (by exact .head _) hw1' (by simp [tbs]; omega) fun v61 C1' ho1'' => ?_
      refine ⟨(by repeat (first | exact Ent.refl _ | apply Ent.cons | apply Ent.skip | apply Ent.prep | apply Ent.skips)), ?_⟩
      intro b63 _ _
      refine TOwn.app (t := ⟨n, Tab.ren n p L[j]⟩) (A := _ :: _ :: _ :: C1') (B := M') ho2' (xT := 42) (fz := (0, 0)) (by exact .head _) hw2 (by simp [tbs]; omega) fun v68 C2' ho2'' => ?_
      refine ⟨?_, ?_⟩
      · exact .skip (.skip (.cons (.skips (.skips (.refl _)))))
      refine Bin.addN (b := 1) (by simp [lim]; omega) ?_
      rw [tbs_snocf hlt] at ho1'' ho2''
      refine Back.of (.skip (.skip (.skip (.refl _)))) ⟨j + 1, v61, v68, C1', C2', M', rfl, by omega, hM', fun _ => ⟨p, rfl, hp2⟩, ho1'', by rw [iw_toNat]; exact ho2'', rfl⟩ (by rw [nAt_succ, nAt_succ, nAt_succ, nAt_succ]; show L.length - (((j:Int)+1).toNat) < L.length - ((j:Int).toNat); omega)
  · obtain rfl : j = L.length := by omega
    rw [List.take_length] at ho1 ho2
    obtain ⟨p, rfl, hpp⟩ := hp (List.length_pos_iff.2 hne)
    rw [iw_toNat] at ho2
    have hMs := hM.sub
    refine CallF.px .here (twins_ok (ht.mono fun x hx => List.mem_append_right _ (List.mem_append_right _ (hMs x hx))) hfit) ?_
    intro v2 N2 ht2
    refine CallF.px .here (best_ok ht2 (by rw [tbs_length]; omega)) ?_
    intro r N3 hq1
    obtain ⟨b1, D1, E1, rfl, hb1, hH1⟩ := best_of hn0 hO (by omega) hq1
    refine Ext.mk rfl (Ext.mk rfl (Ext.mk rfl ?_))
    rw [hH1]
    clear hq1 hH1
    have hneg : ∀ ws ∈ L.map (Tab.neg n), Tab.Frm n ws := frm_neg hn16
    have hren : ∀ ws ∈ L.map (Tab.ren n p), Tab.Frm n ws := frm_ren hn16
    have hne1 : L.map (Tab.neg n) = [] → n = 0 := fun e => absurd (List.map_eq_nil_iff.1 e) hne
    have hne2 : L.map (Tab.ren n p) = [] → n = 0 := fun e => absurd (List.map_eq_nil_iff.1 e) hne
    have hB1 : Tab.B n (Tab.lvl n (L.map (Tab.neg n))) 0 = Tab.B n (Tab.lvl n L) 0 := Tab.B_congr (fun a v hv => Tab.lvl_neg hn16 hf a v hv) 0
    have hB2 : Tab.ord n (Tab.lvl n (L.map (Tab.neg n))) n 0 = Tab.ord n (Tab.lvl n L) n 0 := Tab.ord_congr (fun a v hv => Tab.lvl_neg hn16 hf a v hv) n 0
    have hB3 : Tab.B n (Tab.lvl n (L.map (Tab.ren n p))) 0 = Tab.B n (Tab.lvl n L) 0 := Tab.B_names (Tab.trn_ren hn16 hpp) hn16 hf
    refine CallF.px .here (best_ok (ho1.tbls (fun x hx => ?_) (fun x hx => ?_)) (by rw [tbs_length, List.length_map]; omega)) ?_
    · exact List.mem_append_right _ (List.mem_append_right _ (List.mem_append_right _ (List.mem_append_left _ hx)))
    · exact List.mem_append_right _ (List.mem_append_right _ (List.mem_append_right _ (List.mem_append_right _ (List.mem_append_right _ hx))))
    intro r N4 hq2
    obtain ⟨b2, D2, E2, rfl, hb2, hH2⟩ := best_of hne1 (oneN_map hneg) (by omega) hq2
    refine Ext.mk rfl (Ext.mk rfl (Ext.mk rfl ?_))
    rw [hH2, hB1]
    rw [hB2] at hb2
    clear hq2 hH2
    refine CallF.px .here (best_ok (ho2.tbls (fun x hx => ?_) (fun x hx => ?_)) (by rw [tbs_length, List.length_map]; omega)) ?_
    · exact List.mem_append_right _ (List.mem_append_right _ (List.mem_append_right _ (List.mem_append_right _ (List.mem_append_right _ (List.mem_append_right _ (List.mem_append_left _ hx))))))
    · exact List.mem_append_right _ (List.mem_append_right _ (List.mem_append_right _ (List.mem_append_right _ (List.mem_append_right _ (List.mem_append_right _ (List.mem_append_right _ hx))))))
    intro r N5 hq3
    obtain ⟨b3, D3, E3, rfl, hb3, hH3⟩ := best_of hne2 (oneN_map hren) (by omega) hq3
    refine Ext.mk rfl (Ext.mk rfl (Ext.mk rfl ?_))
    rw [hH3, hB3]
    clear hq3 hH3
    obtain ⟨hord, _⟩ := Tab.ord_ok (n := n) (c := Tab.lvl n L) n 0 (Tab.miss_le n 0)
    obtain ⟨hord3, _⟩ := Tab.ord_ok (n := n) (c := Tab.lvl n (L.map (Tab.ren n p))) n 0 (Tab.miss_le n 0)
    intro J hJ
    refine Bin.eqN (a := 0) (b := 0) (Split.go (by decide) ?_)
    refine Bin.eqN (a := 0) (b := 0) (Pick.mk (Split.go rfl ?_))
    refine Bin.eqN (a := 0) (b := 0) (Pick.mk (Split.go rfl ?_))
    refine Bin.eqN (Pick.mk (Split.go (decide_eq_true rfl) ?_))
    refine CallF.rd .here (order_ok (hb1.ints.mono fun x hx => ?_) (hb2.ints.mono fun x hx => ?_) (by rw [iw_length, hord.len]; omega)) ?_
    · exact List.mem_append_right _ (List.mem_append_right _ (List.mem_append_right _ (List.mem_append_right _ (List.mem_append_left _ hx))))
    · exact List.mem_append_right _ (List.mem_append_right _ (List.mem_append_left _ hx))
    rintro _ rfl
    rw [decide_eq_true rfl]
    refine Pick.mk (Split.go rfl ?_)
    refine Bin.eqN (Pick.mk (Split.go (decide_eq_true rfl) ?_))
    refine hb3.lenS (hb1.lenS ?_)
    rw [iw_length, iw_length, hord.len, hord3.len]
    refine Bin.eqN (Pick.mk (JE.mk (hJ _ _ fun gs => ?_)))
    exact PxR.mk (by repeat (first | exact hM | apply Grow.cons | apply Grow.app)) (by simp)

end Go.Proofs
