import Derived.Test.YtlnfeedpfganpaaT1
import Derived.Test.YtlnfeedpfganpaaE3
set_option linter.unusedVariables false
set_option linter.unusedSimpArgs false
set_option maxRecDepth 100000
namespace Go.Proofs
open Go Go.Sx
theorem words_ok {n : Nat} (hn : n ≤ 16) (B : Hp) : Rd Try.prog 52 #[.int .i64 (n : Int)] B (· = .int .i64 ((Tab.wN n : Nat) : Int)) := by
  intro g
  refine L52_sound (R := FnR _) ?_
  unfold L52
  have h1 : 1 <<< n ≤ 65536 := by rw [Nat.one_shiftLeft]; exact Nat.pow_le_pow_right (n := 2) (by decide) hn
  refine Bin.shlN (a := 1) (b := n) (by simp [IntKind.bits]; omega) (by simp [lim]; omega) ?_
  refine Bin.shrN (b := 6) (by simp [lim]; omega) ?_
  refine ⟨_, _, _, rfl, rfl, ?_⟩
  refine RdR.mk (.refl _) ?_
  have : 1 <<< n >>> 6 = 2 ^ n / 64 := by rw [Nat.one_shiftLeft, Nat.shiftRight_eq_div_pow]
  rw [this]
  congr 1
  unfold Tab.wN
  rw [Nat.max_def]
  split <;> split <;> omega
theorem full_ok {n : Nat} (hn : n ≤ 16) (B : Hp) : Rd Try.prog 53 #[.int .i64 (n : Int)] B (· = .int .u64 ((Tab.fullN n : Nat) : Int)) := by
  intro g
  refine L53_sound (R := FnR _) ?_
  unfold L53
  refine Bin.geN (a := n) (b := 6) (Br.dec (fun h => ?_) (fun h => ?_))
  · exact RdR.mk (.refl _) (by unfold Tab.fullN; rw [if_pos h]; rfl)
  · have h1 : 2 ^ n ≤ 32 := Nat.pow_le_pow_right (n := 2) (by decide) (by omega : n ≤ 5)
    have h2 : 2 ^ 2 ^ n ≤ 2 ^ 32 := Nat.pow_le_pow_right (by decide) h1
    have h3 := Nat.two_pow_pos (2 ^ n)
    refine Bin.shlU (a := 1) (b := n) ?_
    rw [Nat.one_shiftLeft, Nat.mod_eq_of_lt (by omega)]
    refine Bin.shlU (a := 1) ?_
    rw [Nat.one_shiftLeft, Nat.mod_eq_of_lt (by omega)]
    refine Bin.subN (b := 1) (by simp [lim]; omega) (by omega) ?_
    exact RdR.mk (.refl _) (by unfold Tab.fullN; rw [if_neg h])
theorem last_full {n : Nat} {ws : List Nat} (hn : n ≤ 16) (hl : ws.length = Tab.wN n) (hw : ∀ w ∈ ws, w < 18446744073709551616) {w : Nat} (hg : ws[ws.length - 1]? = some w) :
    (andn w (Tab.fullN n) = 0) ↔ Tab.Frm n ws := by
  have key : ∀ w, w < 18446744073709551616 → (andn w (Tab.fullN n) = 0 ↔ w ≤ Tab.fullN n) := by
    intro w hw
    constructor
    · intro h
      have : w &&& Tab.fullN n = w := by
        apply Nat.eq_of_testBit_eq; intro j
        have := congrArg (fun x => x.testBit j) h
        simp only [testBit_andn, Nat.zero_testBit] at this
        rw [Nat.testBit_and]
        cases h1 : w.testBit j <;> cases h2 : (Tab.fullN n).testBit j <;> simp_all
      rw [← this]; exact Nat.and_le_right
    · intro h
      have := Tab.and_full h
      unfold andn; rw [this, Nat.xor_self]
  constructor
  · intro h
    refine ⟨hn, hl, fun u hu => ?_⟩
    by_cases h6 : 6 ≤ n
    · unfold Tab.fullN; rw [if_pos h6]; have := hw u hu; omega
    · have h1 : ws.length = 1 := by rw [hl, Tab.wN_lt (by omega)]
      obtain ⟨x, rfl⟩ := List.length_eq_one_iff.1 h1
      simp at hg hu
      subst hg; subst hu
      exact (key _ (hw _ (by simp))).1 h
  · intro h
    exact (key w (hw w (List.mem_of_getElem? hg))).2 (h.full w (List.mem_of_getElem? hg))
theorem form1_ok {B : Hp} {v : Value} {t : Tb} (ht : Tbl B v t) : Rd Try.prog 51 #[v] B (· = .bool (decide (TF t))) := by
  obtain ⟨tn, ws⟩ := t
  obtain ⟨s, rfl, hs, hw⟩ := ht
  simp only at hs hw ⊢
  intro g
  refine L51_sound (R := FnR _) ?_
  unfold L51
  intro b1 _ J hJ
  have hno : ¬ TF ⟨tn, ws⟩ → JE J [.bool true] ((b1, .cells (Value.cells (.agg #[.int .i64 tn, s])) 42 (0, 0)) :: B) := fun h =>
    JE.mk (hJ _ _ fun gs => Br.yes (RdR.mk .tail (by rw [decide_eq_false h])))
  refine DR.self ?_
  refine FAddr.mk (Ld.mk (by repeat (first | assumption | exact List.Mem.head _ | apply List.Mem.tail | apply List.mem_append_right)) rfl ?_)
  refine Bin.lss (Br.dec (fun h0 => hno fun h => by have := h.1; simp only at this; omega) (fun h0 => ?_))
  obtain ⟨n, rfl⟩ : ∃ n : Nat, tn = n := ⟨tn.toNat, by omega⟩
  have hTF : TF ⟨(n : Int), ws⟩ ↔ Tab.Frm n ws := by unfold TF; simp
  refine FAddr.mk (Ld.mk (by repeat (first | assumption | exact List.Mem.head _ | apply List.Mem.tail | apply List.mem_append_right)) rfl ?_)
  refine Bin.gtN (b := 16) (Pick.mk (Br.dec (fun h1 => hno fun h => by have := (hTF.1 h).n16; omega) (fun h1 => ?_)))
  refine FAddr.mk (Ld.mk (by repeat (first | assumption | exact List.Mem.head _ | apply List.Mem.tail | apply List.mem_append_right)) rfl ?_)
  refine hs.lenS ?_
  refine FAddr.mk (Ld.mk (by repeat (first | assumption | exact List.Mem.head _ | apply List.Mem.tail | apply List.mem_append_right)) rfl ?_)
  intro F
  refine CallF.rd (.cons .here) (words_ok (by omega) B) ?_
  rintro v rfl
  refine ⟨(by repeat (first | exact Ent.refl _ | apply Ent.cons | apply Ent.skip | apply Ent.prep | apply Ent.skips)), ?_⟩
  rw [iw_length]
  refine Bin.neN (Pick.mk ?_)
  simp only [cond_false]
  by_cases hl : ws.length = Tab.wN n
  case neg => rw [show decide (ws.length ≠ Tab.wN n) = true by simp [hl]]; exact hno fun h => hl (hTF.1 h).len
  rw [show decide (ws.length ≠ Tab.wN n) = false by simp [hl]]
  refine JE.mk (hJ _ _ fun gs => Br.no ?_)
  have hpos := Tab.wN_pos n
  obtain ⟨w, hg⟩ : ∃ w, ws[ws.length - 1]? = some w := ⟨_, List.getElem?_eq_getElem (by omega)⟩
  refine DR.self ?_
  refine FAddr.mk (Ld.mk (by repeat (first | assumption | exact List.Mem.head _ | apply List.Mem.tail | apply List.mem_append_right)) rfl ?_)
  refine FAddr.mk (Ld.mk (by repeat (first | assumption | exact List.Mem.head _ | apply List.Mem.tail | apply List.mem_append_right)) rfl ?_)
  refine hs.lenS ?_
  rw [iw_length]
  refine Bin.subN (b := 1) (by have := Tab.wN_le (n := n) (by omega); simp [lim]; omega) (by omega) ?_
  refine hs.ld (iw_get hg) (fun _ h => by repeat (first | exact h | apply List.mem_cons_of_mem | apply List.mem_append_right)) ?_
  refine FAddr.mk (Ld.mk (by repeat (first | assumption | exact List.Mem.head _ | apply List.Mem.tail | apply List.mem_append_right)) rfl ?_)
  refine CallF.rd (.cons .here) (full_ok (by omega) B) ?_
  rintro v rfl
  refine ⟨(by repeat (first | exact Ent.refl _ | apply Ent.cons | apply Ent.skip | apply Ent.prep | apply Ent.skips)), ?_⟩
  refine Bin.andnN (by have := hw w (List.mem_of_getElem? hg); simpa [lim] using this) (by have := Tab.fullN_lt n; simpa [lim] using this) ?_
  refine Bin.eqN (b := 0) ?_
  refine RdR.mk .tail ?_
  congr 1
  exact decide_eq_decide.2 ((last_full (by omega) hl hw hg).trans hTF.symm)

end Go.Proofs
set_option linter.unusedVariables false
set_option linter.unusedSimpArgs false
set_option maxRecDepth 100000
namespace Go.Proofs
open Go Go.Sx
theorem formv_ok {B : Hp} {v : Value} {ts : List Tb} (ht : Tbls B v ts) (hmax : ts.length < 2 ^ 62) : Rd Try.prog 38 #[v] B (· = .bool (decide (∀ t ∈ ts, TF t ∧ some t.n = ts.head?.map Tb.n))) := by
  intro g
  refine L38_sound (R := FnR _) ?_
  unfold L38
  refine ht.lenS ?_
  refine ⟨fun vs H => Grow B H ∧ ∃ k : Nat, vs = [.int .i64 (k : Int)] ∧ k ≤ ts.length ∧ ∀ i t, i < k → ts[i]? = some t → TF t ∧ some t.n = ts.head?.map Tb.n, fun vs _ => ts.length - nAt vs 0, JE.mk ⟨.refl _, 0, rfl, by omega, by omega⟩, ?_⟩
  rintro w H ⟨hg, k, hv, hk, hall⟩ gs
  simp only [List.cons.injEq, and_true] at hv
  subst hv
  refine Bin.ltN (Br.dec (fun hlt => ?_) (fun hlt => ?_))
  · obtain ⟨t, htk⟩ : ∃ t, ts[k]? = some t := ⟨_, List.getElem?_eq_getElem hlt⟩
    obtain ⟨t0, ht0⟩ : ∃ t, ts[0]? = some t := ⟨_, List.getElem?_eq_getElem (by omega)⟩
    have hh : ts.head?.map Tb.n = some t0.n := by rw [List.head?_eq_getElem?, ht0]; rfl
    have htB := ht.mono hg.sub
    refine htB.ld htk (fun _ h => h) fun s hs => ?_
    intro b1 _
    refine St.whole (r := [.int .i64 t.n, s]) (by exact Upd.head _) rfl rfl ?_ ?_
    · obtain ⟨a, c, rfl, _⟩ := hs.1.shape; simp [Value.oneCell']
    intro J hJ
    have hno : ∀ H', Grow B H' → ¬ (TF t ∧ some t.n = ts.head?.map Tb.n) → JE J [.bool true] H' := fun H' hg' h =>
      JE.mk (hJ _ _ fun gs => Br.yes (RdR.mk hg'.ent (by rw [decide_eq_false]; exact fun hh => h (hh t (List.mem_of_getElem? htk)))))
    have hg2 : Grow B ((b1, Obj.cells (List.toArray [.int .i64 t.n, s]) 42 (0, 0)) :: H) := .cons hg
    refine DR.self ?_
    refine LdA.whole (r := [.int .i64 t.n, s]) (by exact List.Mem.head _) rfl ?_
    intro F
    refine CallF.rd (B := H) (.cons .here) (form1_ok ⟨s, rfl, hs⟩) ?_
    rintro v rfl
    refine ⟨.refl _, Un.not ?_⟩
    by_cases hT : TF t
    case neg => rw [decide_eq_false hT]; exact Br.yes (hno _ hg2 fun h => hT h.1)
    rw [decide_eq_true hT]
    refine Br.no ?_
    refine FAddr.mk (Ld.mk (by repeat (first | assumption | exact List.Mem.head _ | apply List.Mem.tail | apply List.mem_append_right)) rfl ?_)
    refine htB.ldN ht0 (fun _ h => by repeat (first | exact h | apply List.mem_cons_of_mem | apply List.mem_append_right)) ?_
    refine Bin.neD (Pick.mk ?_)
    simp only [cond_false]
    by_cases hn : t.n = t0.n
    case neg => rw [decide_eq_true hn]; exact hno _ hg2 fun h => hn (by have := h.2; rw [hh] at this; simpa using this)
    rw [decide_eq_false (by simpa using hn)]
    refine JE.mk (hJ _ _ fun gs => Br.no ?_)
    refine Bin.addN (b := 1) (by simp [lim]; omega) ?_
    refine Back.mk ⟨hg2, k + 1, rfl, by omega, fun i u hi hu => ?_⟩ (by simp [nAt]; omega)
    by_cases e : i = k
    · subst e; rw [htk] at hu; cases hu; exact ⟨hT, by rw [hh, hn]⟩
    · exact hall i u (by omega) hu
  · refine RdR.mk hg.ent ?_
    rw [decide_eq_true]
    intro t htm
    obtain ⟨i, hi, rfl⟩ := List.mem_iff_getElem.1 htm
    exact hall i _ (by omega) (List.getElem?_eq_getElem hi)
/-- of one table -/
theorem formone_ok {B : Hp} {b : Nat} {t : Tb} {s : Value} {T : TypeId} {fz : Nat × Nat} (hm : (b, Obj.cells #[.int .i64 t.n, s] T fz) ∈ B) (hw : Words B s t.ws) :
    Rd Try.prog 38 #[.slice (some ⟨b, 0, none⟩) 1 1] B (· = .bool (decide (TF t))) :=
  (formv_ok (Tbls.one (cap := 0) hm hw) (by simp)).mono fun v H ⟨h1, h2⟩ => ⟨h1, by rw [h2]; congr 1; simp⟩
theorem oneCell_words {B : Hp} {s : Value} {ws : List Nat} (h : Words B s ws) : s.oneCell' = true := by obtain ⟨a, c, rfl, _⟩ := h.1.shape; rfl
theorem buildOne {B : Hp} {s : Value} {n : Int} {K : Value → Hp → Prop} (h : ∀ b, K (.slice (some ⟨b, 0, none⟩) 1 1) ((b, .cells #[.int .i64 n, s] 42 (0, 0)) :: B)) :
    BuildSl Try.prog 22 1 [(0, .agg #[.int .i64 n, s])] B K :=
  BuildSl.one (r := [.int .i64 n, s]) (e := 42) (k := 2) (z := .agg #[.int .i64 0, .slice none 0 0]) (by kernel_rfl) (by kernel_rfl) (by kernel_rfl) (by decide) rfl h
theorem of_ok {B : Hp} {v : Value} {t : Tb} (ht : Tbl B v t) (u : Int) : Rd Try.prog 73 #[v, .int .i64 u] B (· = .int .i64 (if TF t then (if 0 ≤ u ∧ u < t.n then 0 else 2) else 5)) := by
  obtain ⟨s, rfl, hw⟩ := ht
  intro g
  refine L73_sound (R := FnR _) ?_
  unfold L73
  intro b1 _
  refine LdA.whole (r := [.int .i64 t.n, s]) (by exact List.Mem.head _) rfl ?_
  refine buildOne fun b2 => ?_
  refine CallF.rd .here (formone_ok (by exact List.Mem.head _) (hw.mono (fun _ h => by repeat (first | exact h | apply List.mem_cons_of_mem | apply List.mem_append_right)))) ?_
  rintro v rfl
  refine Un.not ?_
  by_cases hT : TF t
  · rw [decide_eq_true hT, if_pos hT]
    refine Br.no (Bin.lss ?_)
    refine Grp.or (decide (t.n ≤ u)) (fun h => ?_) rfl ?_
    · refine FAddr.mk (Ld.mk (by repeat (first | assumption | exact List.Mem.head _ | apply List.Mem.tail | apply List.mem_append_right)) rfl ?_)
      exact Bin.geq ⟨rfl, rfl⟩
    · intro gs
      have hor : (decide (u < 0) || decide (t.n ≤ u)) = decide (¬ (0 ≤ u ∧ u < t.n)) := by
        by_cases h1 : u < 0 <;> by_cases h2 : t.n ≤ u <;> simp [h1, h2] <;> omega
      rw [hor]
      refine Br.dec (fun h => ?_) (fun h => ?_)
      · exact RdR.mk (by repeat (first | exact Ent.refl _ | apply Ent.cons | apply Ent.skip | apply Ent.prep | apply Ent.skips)) (by rw [if_neg h])
      · exact RdR.mk (by repeat (first | exact Ent.refl _ | apply Ent.cons | apply Ent.skip | apply Ent.prep | apply Ent.skips)) (by rw [if_pos (Classical.not_not.1 h)])
  · rw [decide_eq_false hT, if_neg hT]
    exact Br.yes (RdR.mk (by repeat (first | exact Ent.refl _ | apply Ent.cons | apply Ent.skip | apply Ent.prep | apply Ent.skips)) rfl)
theorem column_ok {u i : Nat} (hu : u < 64) (hi : i < 18446744073709551616) (hi2 : i < 9223372036854775808) (B : Hp) : Rd Try.prog 69 #[.int .i64 (u : Int), .int .i64 (i : Int)] B
    (· = .int .u64 ((if 6 ≤ u then (if (i >>> (u - 6)).testBit 0 then 18446744073709551615 else 0) else Tab.mask u : Nat) : Int)) := by
  intro g
  refine L69_sound (R := FnR _) ?_
  unfold L69
  refine Bin.geN (a := u) (b := 6) (Br.dec (fun h => ?_) (fun h => ?_))
  · refine ConvI.nat (by simpa [lim] using hi) ?_
    refine Bin.subN (b := 6) (by simp [lim]; omega) h ?_
    refine Bin.shrN (by simpa [lim] using hi) ?_
    have hs : i >>> (u - 6) < 18446744073709551616 := Nat.lt_of_le_of_lt (Nat.shiftRight_le _ _) hi
    refine Bin.andN (b := 1) (by simpa [lim] using hs) (by decide) ?_
    refine Un.negU (by rw [Tab.and_one_eq]; split <;> decide) ?_
    refine RdR.mk (.refl _) ?_
    rw [if_pos h, Tab.and_one_eq]
    split <;> rfl
  · refine ⟨fun vs H => H = B ∧ ∃ j : Nat, vs = [.int .u64 ((Tab.colP u j : Nat) : Int), .int .i64 (j : Int)] ∧ j ≤ 64, fun vs _ => 64 - nAt vs 1, JE.mk ⟨rfl, 0, rfl, by omega⟩, ?_⟩
    rintro w1 w2 H ⟨rfl, j, hv, hj⟩ gs
    simp only [List.cons.injEq, and_true] at hv
    obtain ⟨rfl, rfl⟩ := hv
    refine Bin.ltN (b := 64) (Br.dec (fun hlt => ?_) (fun hlt => ?_))
    · refine Bin.shrN (by simp [lim]; omega) ?_
      have hs : j >>> u < 64 := Nat.lt_of_le_of_lt (Nat.shiftRight_le _ _) hlt
      refine Bin.andN (b := 1) (by simp [lim]; omega) (by decide) ?_
      have h1 : j >>> u &&& 1 ≤ 1 := by rw [Tab.and_one_eq]; split <;> decide
      refine ConvI.nat (by simp [lim]; omega) ?_
      refine Bin.shlU ?_
      have h2 : ((j >>> u &&& 1) <<< j) < 18446744073709551616 := by
        rw [Nat.shiftLeft_eq]
        calc _ ≤ 1 * 2 ^ j := Nat.mul_le_mul_right _ h1
          _ < 2 ^ 64 := by rw [Nat.one_mul]; exact Nat.pow_lt_pow_right (by decide) hlt
      rw [Nat.mod_eq_of_lt h2]
      have h3 : Tab.colP u j < 18446744073709551616 := Nat.lt_of_lt_of_le (Tab.colP_lt u j) (Nat.pow_le_pow_right (n := 2) (by decide) hj)
      refine Bin.orN (by simpa [lim] using h3) (by simpa [lim] using h2) ?_
      refine Bin.addN (b := 1) (by simp [lim]; omega) ?_
      exact Back.mk ⟨rfl, j + 1, rfl, by omega⟩ (by simp [nAt]; omega)
    · have : j = 64 := by omega
      subst this
      exact RdR.mk (.refl _) (by rw [if_neg h]; rfl)
theorem equal_ok {B : Hp} {v1 v2 : Value} {a b : List Nat} (h1 : Words B v1 a) (h2 : Words B v2 b) (hmax : a.length < 2 ^ 62) : Rd Try.prog 58 #[v1, v2] B (· = .bool (decide (a = b))) := by
  intro g
  refine L58_sound (R := FnR _) ?_
  unfold L58
  refine h1.1.lenS (h2.1.lenS ?_)
  simp only [iw_length]
  refine Bin.neN (Br.dec (fun h => ?_) (fun h => ?_))
  · exact RdR.mk (.refl _) (by rw [decide_eq_false (fun e => h (by rw [e]))])
  · refine h1.1.lenS ?_
    simp only [iw_length]
    have hlen : a.length = b.length := by omega
    refine ⟨fun vs H => H = B ∧ ∃ j : Nat, vs = [.int .i64 (j : Int)] ∧ j ≤ a.length ∧ ∀ i, i < j → a[i]? = b[i]?, fun vs _ => a.length - nAt vs 0, JE.mk ⟨rfl, 0, rfl, by omega, by omega⟩, ?_⟩
    rintro w H ⟨rfl, j, hv, hj, hall⟩ gs
    simp only [List.cons.injEq, and_true] at hv
    subst hv
    refine Bin.ltN (Br.dec (fun hlt => ?_) (fun hlt => ?_))
    · have ga : a[j]? = some a[j] := List.getElem?_eq_getElem hlt
      have gb : b[j]? = some b[j] := List.getElem?_eq_getElem (by omega)
      refine h1.1.ld (iw_get ga) (fun _ h => h) ?_
      refine h2.1.ld (iw_get gb) (fun _ h => h) ?_
      refine Bin.neN (Br.dec (fun hne => ?_) (fun hne => ?_))
      · exact RdR.mk (.refl _) (by rw [decide_eq_false]; rintro rfl; exact hne rfl)
      · refine Bin.addN (b := 1) (by simp [lim]; omega) ?_
        refine Back.mk ⟨rfl, j + 1, rfl, by omega, fun i hi => ?_⟩ (by simp [nAt]; omega)
        by_cases e : i = j
        · subst e; rw [ga, gb]; simp; omega
        · exact hall i (by omega)
    · refine RdR.mk (.refl _) ?_
      rw [decide_eq_true]
      apply List.ext_getElem? 
      intro i
      by_cases hi : i < a.length
      · exact hall i (by omega)
      · rw [List.getElem?_eq_none (by omega), List.getElem?_eq_none (by omega)]

end Go.Proofs
set_option linter.unusedVariables false
set_option linter.unusedSimpArgs false
set_option maxRecDepth 100000
namespace Go.Proofs
open Go Go.Sx
theorem bytesW {n : Nat} (hn : n ≤ 16) : Tab.wN n ≤ 9223372036854775807 ∧ Tab.wN n * 8 ≤ 281474976710656 := by have := Tab.wN_le hn; omega
theorem range_set {G : Nat → Nat} {W i : Nat} (hi : i < W) : (iw ((List.range W).map fun k => if k < i then G k else 0)).set i ((G i : Nat) : Int) = iw ((List.range W).map fun k => if k < i + 1 then G k else 0) := by
  apply List.ext_getElem?
  intro j
  unfold iw
  by_cases e : i = j
  · subst e; simp [hi]
  · rw [List.getElem?_set_ne e]
    by_cases hj : j < W
    · simp only [List.getElem?_map, List.getElem?_range hj, Option.map_some]
      by_cases h2 : j < i
      · rw [if_pos h2, if_pos (by omega)]
      · rw [if_neg h2, if_neg (by omega)]
    · rw [List.getElem?_eq_none (by simp; omega), List.getElem?_eq_none (by simp; omega)]
theorem range_zero {G : Nat → Nat} {W : Nat} : List.replicate W (0 : Int) = iw ((List.range W).map fun k => if k < 0 then G k else 0) := by
  apply List.ext_getElem?
  intro j
  unfold iw
  by_cases hj : j < W
  · simp [hj]
  · rw [List.getElem?_eq_none (by simp; omega), List.getElem?_eq_none (by simp; omega)]
theorem range_done {G : Nat → Nat} {W : Nat} : ((List.range W).map fun k => if k < W then G k else 0) = (List.range W).map G := by
  apply List.map_congr_left
  intro k hk
  rw [if_pos (List.mem_range.1 hk)]
theorem laid_ok {n : Nat} (hn : n ≤ 16) {fv : Value} {f : FuncId} {first cap : Array Value} (hfv : fv = .func (.func f) first cap) (hcl : callable Try.prog f = true) {F : Nat → Nat} (hF : ∀ i, i < Tab.wN n → F i < 18446744073709551616) {B : Hp}
    (hc : ∀ i : Nat, i < Tab.wN n → Rd Try.prog f (first ++ #[.int .i64 (i : Int)] ++ cap) B (· = .int .u64 ((F i : Nat) : Int))) :
    Px Try.prog 39 #[.int .i64 (n : Int), fv] B (fun v H => Tbl H v ⟨n, (List.range (Tab.wN n)).map fun i => F i &&& Tab.fullN n⟩) := by
  intro g
  have hwl := Tab.wN_le hn
  refine L39_sound (R := FnR _) ?_
  unfold L39
  intro b1 _
  refine CallF.rd (.cons .here) (words_ok hn B) ?_
  rintro v rfl
  refine MkSlice.ints (bytesW hn).1 (bytesW hn).2 fun bw => ?_
  refine Build.mk (cs := [.int .i64 (n : Int), .slice (some ⟨bw, 0, none⟩) (Tab.wN n) (Tab.wN n)]) (by kernel_rfl) ?_
  intro b8 _
  refine St.whole (r := [.int .i64 (n : Int), .slice (some ⟨bw, 0, none⟩) (Tab.wN n) (Tab.wN n)]) (by exact Upd.head _) rfl rfl (by simp [Value.oneCell']) ?_
  refine FAddr.mk (Ld.mk (by repeat (first | assumption | exact List.Mem.head _ | apply List.Mem.tail | apply List.mem_append_right)) rfl ?_)
  refine LenS.mk ?_
  rw [range_zero (G := fun i => F i &&& Tab.fullN n)]
  refine ⟨fun vs H => ∃ i : Nat, vs = [.int .i64 (i : Int)] ∧ i ≤ Tab.wN n ∧ H = (b8, .cells (List.toArray [.int .i64 (n : Int), .slice (some ⟨bw, 0, none⟩) (Tab.wN n) (Tab.wN n)]) 42 (0, 0)) ::
      (bw, .cells (icells .u64 (iw ((List.range (Tab.wN n)).map fun k => if k < i then F k &&& Tab.fullN n else 0))) 33 (0, 0)) :: (b1, .cells #[.int .i64 0, .slice none 0 0] 42 (0, 0)) :: B,
    fun vs _ => Tab.wN n - nAt vs 0, JE.mk ⟨0, rfl, by omega, rfl⟩, ?_⟩
  rintro w H ⟨i, hv, hi, rfl⟩ gs
  simp only [List.cons.injEq, and_true] at hv
  subst hv
  refine Bin.ltN (Br.dec (fun hlt => ?_) (fun hlt => ?_))
  · refine DR.self ?_
    refine FAddr.mk (Ld.mk (by repeat (first | assumption | exact List.Mem.head _ | apply List.Mem.tail | apply List.mem_append_right)) rfl ?_)
    refine CallV.of hfv hcl ?_
    refine CallF.rd (.cons (.cons (.cons .here))) (hc i hlt) ?_
    rintro v rfl
    refine ⟨.refl _, ?_⟩
    refine CallF.rd (.cons (.cons (.cons .here))) (full_ok hn B) ?_
    rintro v rfl
    refine ⟨.refl _, ?_⟩
    refine Bin.andN (by simpa [lim] using hF i hlt) (by simpa [lim] using Tab.fullN_lt n) ?_
    refine IAddr.nat hlt ?_
    refine St.ints (l := iw _) (by exact .tail (.head _)) (by simpa using hlt) ?_
    refine Bin.addN (b := 1) (by simp [lim]; omega) ?_
    rw [range_set hlt]
    exact Back.mk ⟨i + 1, rfl, by omega, rfl⟩ (by simp [nAt]; omega)
  · have : i = Tab.wN n := by omega
    subst this
    rw [range_done]
    refine LdA.whole (r := [.int .i64 (n : Int), .slice (some ⟨bw, 0, none⟩) (Tab.wN n) (Tab.wN n)]) (by exact List.Mem.head _) rfl ?_
    refine St.whole (r := [.int .i64 (n : Int), .slice (some ⟨bw, 0, none⟩) (Tab.wN n) (Tab.wN n)]) (by exact .tail (.tail (.head _))) rfl rfl (by simp [Value.oneCell']) ?_
    refine LdA.whole (r := [.int .i64 (n : Int), .slice (some ⟨bw, 0, none⟩) (Tab.wN n) (Tab.wN n)]) (by exact .tail _ (.tail _ (.head _))) rfl ?_
    refine PxR.mk (by repeat (first | exact Grow.refl _ | apply Grow.cons | apply Grow.app)) ⟨_, rfl, ?_⟩
    have := Words.block (b := bw) (cap := Tab.wN n) (ws := (List.range (Tab.wN n)).map fun i => F i &&& Tab.fullN n) (T := 33) (fz := (0, 0)) (B := (b8, .cells (List.toArray [.int .i64 (n : Int), .slice (some ⟨bw, 0, none⟩) (Tab.wN n) (Tab.wN n)]) 42 (0, 0)) ::
      (bw, .cells (icells .u64 (iw ((List.range (Tab.wN n)).map fun i => F i &&& Tab.fullN n))) 33 (0, 0)) :: (b1, .cells (List.toArray [.int .i64 (n : Int), .slice (some ⟨bw, 0, none⟩) (Tab.wN n) (Tab.wN n)]) 42 (0, 0)) :: B) (by exact .tail _ (.head _)) (by simp) (fun w hw => by
        obtain ⟨k, _, rfl⟩ := List.mem_map.1 hw
        exact Nat.lt_of_le_of_lt Nat.and_le_right (Tab.fullN_lt n))
    simpa using this
theorem half1_ok {B : Hp} {pv pb pa s : Value} {u n i : Nat} {c : Bool} {ws : List Nat} (hv : At B pv [.int .i64 (u : Int)]) (hb : At B pb [.bool c]) (ha : At B pa [.int .i64 (n : Int), s]) (hw : Words B s ws) (hf : Tab.Frm n ws) (hu : u < n) (hi : i < Tab.wN n) :
    Rd Try.prog 68 #[.int .i64 (i : Int), pv, pb, pa] B (· = .int .u64 ((Tab.halfW ws u c i : Nat) : Int)) := by
  intro g
  have hn := hf.n16
  have hwl := Tab.wN_le hn
  refine L68_sound (R := FnR _) ?_
  unfold L68
  refine Ld.at hv (fun _ h => h) ?_
  refine Bin.geN (a := u) (b := 6) (Br.dec (fun h6 => ?_) (fun h6 => ?_))
  · have hp : 2 ^ (u - 6) ≤ 1024 := Nat.pow_le_pow_right (n := 2) (by decide) (by omega : u - 6 ≤ 10)
    refine Ld.at hv (fun _ h => h) ?_
    refine Bin.subN (b := 6) (by simp [lim]; omega) h6 ?_
    refine Bin.shlN (a := 1) (by simp [IntKind.bits]; omega) (by rw [Nat.one_shiftLeft]; simp [lim]; omega) ?_
    rw [Nat.one_shiftLeft]
    refine Bin.andnN (by simp [lim]; omega) (by simp [lim]; omega) ?_
    have hand := andn_le i (2 ^ (u - 6))
    intro J hJ
    have hset : Tab.setb i (u - 6) c < Tab.wN n := by
      rw [Tab.wN_ge (by omega)] at hi ⊢
      exact Tab.setb_lt hi (by omega)
    have hfin : JE J [.int .i64 ((Tab.setb i (u - 6) c : Nat) : Int)] B := by
      refine JE.mk (hJ _ _ fun gs => ?_)
      refine FAddr.at ha fun q hq => Ld.at hq (fun _ h => h) ?_
      have hg : ws[Tab.setb i (u - 6) c]? = some (ws.getD (Tab.setb i (u - 6) c) 0) := by rw [List.getElem?_eq_getElem (by rw [hf.len]; exact hset), List.getD_eq_getElem?_getD, List.getElem?_eq_getElem (by rw [hf.len]; exact hset)]; rfl
      refine hw.1.ld (iw_get hg) (fun _ h => h) ?_
      exact RdR.mk (.refl _) (by unfold Tab.halfW; rw [if_pos h6])
    refine Ld.at hb (fun _ h => h) ?_
    cases c
    · exact Br.no hfin
    · refine Br.yes ?_
      refine Ld.at hv (fun _ h => h) ?_
      refine Bin.subN (b := 6) (by simp [lim]; omega) h6 ?_
      refine Bin.shlN (a := 1) (by simp [IntKind.bits]; omega) (by rw [Nat.one_shiftLeft]; simp [lim]; omega) ?_
      rw [Nat.one_shiftLeft]
      refine Bin.orN (by simp [lim]; omega) (by simp [lim]; omega) ?_
      have e : andn i (2 ^ (u - 6)) ||| 2 ^ (u - 6) = Tab.setb i (u - 6) true := by
        apply Nat.eq_of_testBit_eq; intro k
        rw [Nat.testBit_or, testBit_andn, Tab.testBit_setb, Nat.testBit_two_pow]
        by_cases e : k = u - 6
        · simp [e]
        · simp [e, Ne.symm e]
      rw [e]; exact hfin
  · have hp : 2 ^ u ≤ 32 := Nat.pow_le_pow_right (n := 2) (by decide) (by omega : u ≤ 5)
    have hg : ws[i]? = some (ws.getD i 0) := by rw [List.getElem?_eq_getElem (by rw [hf.len]; exact hi), List.getD_eq_getElem?_getD, List.getElem?_eq_getElem (by rw [hf.len]; exact hi)]; rfl
    have hwi := hw.2 _ (List.mem_of_getElem? hg)
    have hm := Tab.mask_lt u
    refine DR.self ?_
    refine Ld.at hv (fun _ h => h) (Ld.at hv (fun _ h => h) ?_)
    refine Bin.shlN (a := 1) (b := u) (by simp [IntKind.bits]; omega) (by rw [Nat.one_shiftLeft]; simp [lim]; omega) ?_
    rw [Nat.one_shiftLeft]
    refine CallF.rd .here (column_ok (u := u) (i := 0) (by omega) (by omega) (by omega) B) ?_
    rintro v rfl
    rw [if_neg h6]
    refine ⟨.refl _, ?_⟩
    refine Ld.at hb (fun _ h => h) ?_
    cases c
    · refine Br.no ?_
      refine FAddr.at ha fun q hq => Ld.at hq (fun _ h => h) ?_
      refine hw.1.ld (iw_get hg) (fun _ h => h) ?_
      refine Bin.andnN (by simpa [lim] using hwi) (by simpa [lim] using hm) ?_
      refine Bin.shlU ?_
      have := andn_le (ws.getD i 0) (Tab.mask u)
      refine Bin.orN (by simp only [lim]; omega) (by simp only [lim]; omega) ?_
      exact RdR.mk (.refl _) (by unfold Tab.halfW; rw [if_neg h6]; rfl)
    · refine Br.yes ?_
      refine FAddr.at ha fun q hq => Ld.at hq (fun _ h => h) ?_
      refine hw.1.ld (iw_get hg) (fun _ h => h) ?_
      refine Bin.andN (by simpa [lim] using hwi) (by simpa [lim] using hm) ?_
      have h1 : ws.getD i 0 &&& Tab.mask u ≤ ws.getD i 0 := Nat.and_le_left
      refine Bin.shrN (by simp only [lim]; omega) ?_
      have h2 := Nat.shiftRight_le (ws.getD i 0 &&& Tab.mask u) (2 ^ u)
      refine Bin.orN (by simp only [lim]; omega) (by simp only [lim]; omega) ?_
      exact RdR.mk (.refl _) (by unfold Tab.halfW; rw [if_neg h6]; rfl)
theorem half_ok {B : Hp} {v : Value} {n u : Nat} {ws : List Nat} {c : Bool} (ht : Tbl B v ⟨n, ws⟩) (hf : Tab.Frm n ws) (hu : u < n) :
    Px Try.prog 59 #[v, .int .i64 (u : Int), .bool c] B (fun v H => Tbl H v ⟨n, Tab.cof n ws u c⟩) := by
  obtain ⟨s, rfl, hw⟩ := ht
  intro g
  refine L59_sound (R := FnR _) ?_
  unfold L59
  intro b1 _ b3 _ b5 _ b7 _
  refine FAddr.mk (Ld.mk (by repeat (first | assumption | exact List.Mem.head _ | apply List.Mem.tail | apply List.mem_append_right)) rfl ?_)
  refine CallF.px (.cons .here) (laid_ok hf.n16 rfl (by kernel_rfl) (F := fun i => Tab.halfW ws u c i) (fun i hi => ?_) (fun i hi => ?_)) ?_
  · unfold Tab.halfW
    split
    · by_cases h : Tab.setb i (u - 6) c < ws.length
      · rw [List.getD_eq_getElem?_getD, List.getElem?_eq_getElem h]; exact hf.lt (List.getElem_mem h)
      · rw [List.getD_eq_getElem?_getD, List.getElem?_eq_none (by omega)]; decide
    · have hg : ws.getD i 0 < 2 ^ 64 := by rw [List.getD_eq_getElem?_getD, List.getElem?_eq_getElem (by rw [hf.len]; exact hi)]; exact hf.lt (List.getElem_mem _)
      split
      · refine Nat.or_lt_two_pow (n := 64) (Nat.lt_of_le_of_lt Nat.and_le_left hg) (Nat.lt_of_le_of_lt (Nat.shiftRight_le _ _) (Nat.lt_of_le_of_lt Nat.and_le_left hg))
      · exact Nat.or_lt_two_pow (n := 64) (Nat.lt_of_le_of_lt (andn_le _ _) hg) (Nat.mod_lt _ (by decide))
  · exact half1_ok (At.block (l := [.int .i64 (u : Int)]) (by repeat (first | assumption | exact List.Mem.head _ | apply List.Mem.tail | apply List.mem_append_right))) (At.block (l := [.bool c]) (by repeat (first | assumption | exact List.Mem.head _ | apply List.Mem.tail | apply List.mem_append_right))) (At.block (l := [.int .i64 (n : Int), s]) (by repeat (first | assumption | exact List.Mem.head _ | apply List.Mem.tail | apply List.mem_append_right))) (hw.mono (fun _ h => by repeat (first | exact h | apply List.mem_cons_of_mem | apply List.mem_append_right))) hf hu hi
  · rintro v N ⟨s', rfl, hw'⟩
    refine St.whole (r := [.int .i64 (n : Int), s']) (by exact .head _) rfl rfl ?_ ?_
    · have := oneCell_words hw'; simpa [Value.oneCell'] using this
    refine LdA.whole (r := [.int .i64 (n : Int), s']) (by exact .head _) rfl ?_
    exact PxR.mk (by repeat (first | exact Grow.refl _ | apply Grow.cons | apply Grow.app)) ⟨s', rfl, hw'.mono (fun _ h => by repeat (first | exact h | apply List.mem_cons_of_mem | apply List.mem_append_right))⟩

end Go.Proofs
set_option linter.unusedVariables false
set_option linter.unusedSimpArgs false
set_option maxRecDepth 100000
namespace Go.Proofs
open Go Go.Sx
theorem tcof_ok {B : Hp} {v : Value} {n u : Nat} {ws : List Nat} {c : Bool} (ht : Tbl B v ⟨n, ws⟩) (hf : Tab.Frm n ws) (hu : u < n) :
    Px Try.prog 66 #[v, .int .i64 (u : Int), .bool c] B (fun r H => ∃ v', r = .tuple #[v', .int .i64 0] ∧ Tbl H v' ⟨n, Tab.cof n ws u c⟩) := by
  obtain ⟨s, rfl, hw⟩ := ht
  intro g
  refine L66_sound (R := FnR _) ?_
  unfold L66
  intro b1 _ b3 _
  refine LdA.whole (r := [.int .i64 (n : Int), s]) (by exact .tail _ (.head _)) rfl ?_
  refine CallF.rd .here (of_ok (t := ⟨n, ws⟩) ⟨s, rfl, hw.mono (fun _ h => by repeat (first | exact h | apply List.mem_cons_of_mem | apply List.mem_append_right))⟩ (u : Int)) ?_
  rintro v rfl
  rw [if_pos (show TF ⟨(n : Int), ws⟩ from ⟨by simp, by simpa using hf⟩), if_pos ⟨by omega, by simp only; omega⟩]
  refine Bin.neD (Br.decF (by simp) ?_)
  refine LdA.whole (r := [.int .i64 (n : Int), s]) (by exact .tail _ (.head _)) rfl ?_
  refine CallF.px (.cons .here) (half_ok (v := .agg (List.toArray [.int .i64 (n : Int), s])) ⟨s, rfl, hw.mono (fun _ h => by repeat (first | exact h | apply List.mem_cons_of_mem | apply List.mem_append_right))⟩ hf hu) ?_
  rintro v N ⟨s', rfl, hw'⟩
  refine St.whole (r := [.int .i64 (n : Int), s']) (by exact .head _) rfl rfl ?_ ?_
  · have := oneCell_words hw'; simpa [Value.oneCell'] using this
  refine LdA.whole (r := [.int .i64 (n : Int), s']) (by exact .head _) rfl ?_
  exact PxR.mk (by repeat (first | exact Grow.refl _ | apply Grow.cons | apply Grow.app)) ⟨_, rfl, s', rfl, hw'.mono (fun _ h => by repeat (first | exact h | apply List.mem_cons_of_mem | apply List.mem_append_right))⟩
theorem shr_byte {w i : Nat} (hw : w < 18446744073709551616) : w >>> (8 * i) < 18446744073709551616 := Nat.lt_of_le_of_lt (Nat.shiftRight_le _ _) hw
theorem bytesW_take {w j : Nat} (hj : j < 8) : ((List.range (j + 1)).map fun i => UInt8.ofNat (w >>> (8 * i))) = ((List.range j).map fun i => UInt8.ofNat (w >>> (8 * i))) ++ [UInt8.ofNat (w >>> (8 * j))] := by
  rw [List.range_succ, List.map_append]; rfl
theorem brow_snoc (l : List UInt8) (n : Nat) : brow (l ++ [UInt8.ofNat n]) = brow l ++ [[Value.int .u8 ((n % 256 : Nat) : Int)]] := by
  simp [brow]
theorem key_ok {B : Hp} {v : Value} {t : Tb} (ht : Tbl B v t) (hl : t.ws.length ≤ 4294967296) : Rd Try.prog 67 #[v] B (· = strV (Tab.keyB t.ws)) := by
  obtain ⟨s, rfl, hw⟩ := ht
  intro g
  refine L67_sound (R := FnR _) ?_
  unfold L67
  intro b1 _
  refine FAddr.mk (Ld.mk (by repeat (first | assumption | exact List.Mem.head _ | apply List.Mem.tail | apply List.mem_append_right)) rfl ?_)
  refine hw.1.lenS ?_
  rw [iw_length]
  refine ⟨fun vs H => ∃ (k : Nat) (v : Value) (C : Hp), vs = [v, .int .i64 (k : Int)] ∧ k ≤ t.ws.length ∧ H = C ++ B ∧ SOwn 5 1 v (brow (Tab.keyB (t.ws.take k))) C, fun vs _ => t.ws.length - nAt vs 1,
    JE.of (.tail) ⟨0, _, [], rfl, by omega, rfl, SOwn.nil _ _⟩, ?_⟩
  rintro w6 w7 H ⟨k, v, C, hv, hk, rfl, ho⟩ gs
  simp only [List.cons.injEq, and_true] at hv
  obtain ⟨rfl, rfl⟩ := hv
  refine Bin.ltN (Br.dec (fun hlt => ?_) (fun hlt => ?_))
  · have hg : t.ws[k]? = some t.ws[k] := List.getElem?_eq_getElem hlt
    have hwk := hw.2 _ (List.getElem_mem hlt)
    refine hw.1.ld (iw_get hg) (fun _ h => by repeat (first | exact h | apply List.mem_cons_of_mem | apply List.mem_append_right)) ?_
    have hlen : (brow (Tab.keyB (t.ws.take k))).length = 8 * k := by simp only [brow, List.length_map, Tab.keyB_length, List.length_take]; omega
    refine ⟨fun vs H => ∃ (j : Nat) (v : Value) (C : Hp), vs = [v, .int .i64 (j : Int)] ∧ j ≤ 8 ∧ H = C ++ B ∧ SOwn 5 1 v (brow (Tab.keyB (t.ws.take k) ++ (List.range j).map fun i => UInt8.ofNat (t.ws[k] >>> (8 * i)))) C, fun vs _ => 8 - nAt vs 1,
      JE.mk ⟨0, _, C, rfl, by omega, rfl, by simpa using ho⟩, ?_⟩
    rintro w8 w9 H ⟨j, v, C, hv, hj, rfl, ho⟩ gs
    simp only [List.cons.injEq, and_true] at hv
    obtain ⟨rfl, rfl⟩ := hv
    refine Bin.ltN (b := 8) (Br.dec (fun h8 => ?_) (fun h8 => ?_))
    · refine Bin.mulN (a := 8) (by simp [lim]; omega) ?_
      refine Bin.shrN (by simpa [lim] using hwk) ?_
      refine ConvI.cut8 ?_
      refine BuildSl.int (e := 5) (by kernel_rfl) (by kernel_rfl) (by kernel_rfl) fun xb => ?_
      refine ho.app' (A := [_]) (r := [Value.int .u8 (((t.ws[k] >>> (8 * j)) % 256 : Nat) : Int)]) (by exact .head _) rfl (by simp [Value.oneCell']) ⟨[.int .u8 0], rfl, rfl⟩ (by simp only [brow, List.length_map, List.length_append, List.length_range] at hlen ⊢; omega) (by simp only [brow, List.length_map, List.length_append, List.length_range] at hlen ⊢; omega) fun v' C' ho' => ?_
      refine Bin.addN (b := 1) (by simp [lim]; omega) ?_
      refine Back.of .tail ⟨j + 1, _, C', rfl, by omega, rfl, ?_⟩ (by simp [nAt]; omega)
      rw [bytesW_take h8, ← List.append_assoc, brow_snoc]; exact ho'
    · have : j = 8 := by omega
      subst this
      refine Bin.addN (b := 1) (by simp [lim]; omega) ?_
      refine Back.mk ⟨k + 1, _, C, rfl, by omega, rfl, ?_⟩ (by simp [nAt]; omega)
      rw [List.take_succ_eq_append_getElem hlt, Tab.keyB, List.flatMap_append]
      simpa [Tab.keyB, Tab.bytesW] using ho
  · have : k = t.ws.length := by omega
    subst this
    rw [List.take_length] at ho
    refine BytesS.own ho (fun _ h => List.mem_append_left _ h) ?_
    exact RdR.mk .right rfl
theorem frm_len {n : Nat} {ws : List Nat} (h : Tab.Frm n ws) : ws.length ≤ 4294967296 := by have := h.len; have := Tab.wN_le h.n16; omega
theorem add_ok {B : Hp} {b n : Nat} {es : Array MapEntry} {ck : Nat} {m : List (List UInt8 × List Nat)} {v : Value} {ws : List Nat} (hE : TEnts n B es ck m) (ht : Tbl B v ⟨n, ws⟩) (hf : Tab.Frm n ws) :
    Fc Try.prog 65 #[.map (some b), v] ((b, .map es ck) :: B) (fun _ H => ∃ es' ck' N, H = (b, .map es' ck') :: (N ++ B) ∧ TEnts n (N ++ B) es' ck' (tset m ws)) := by
  obtain ⟨s, rfl, hw⟩ := ht
  intro g
  refine L65_sound (R := FnR _) ?_
  unfold L65
  intro b1 _
  refine DR.self ?_
  refine LdA.whole (r := [.int .i64 (n : Int), s]) (by exact .head _) rfl ?_
  refine LdA.whole (r := [.int .i64 (n : Int), s]) (by exact .head _) rfl ?_
  refine CallF.rd (.cons (.cons .here)) (key_ok (t := ⟨n, ws⟩) ⟨s, rfl, hw⟩ (frm_len hf)) ?_
  rintro v rfl
  refine ⟨.refl _, ?_⟩
  refine hE.upd (b := b) ⟨s, rfl, hw⟩ hf fun es' ck' hE' => ⟨_, .tail (.head _), ?_⟩
  exact FnR.mk (H'' := (b, .map es' ck') :: ([] ++ B)) .tail ⟨es', ck', [], rfl, hE'⟩
theorem of_set_ok {B : Hp} {v : Value} {n : Nat} {ts : List Tb} {L : List (List Nat)} (ht : Tbls B v ts) (hL : ts = L.map fun ws => ⟨n, ws⟩) (hf : ∀ ws ∈ L, Tab.Frm n ws) (hmax : L.length < 4611686018427387904) :
    Fc Try.prog 56 #[v] B (fun r H => ∃ b es ck m N, r = .map (some b) ∧ H = (b, .map es ck) :: (N ++ B) ∧ TEnts n (N ++ B) es ck m ∧ ∀ x, x ∈ m.map Prod.snd ↔ x ∈ L) := by
  have hlen : ts.length = L.length := by rw [hL]; simp
  intro g
  refine L56_sound (R := FnR _) ?_
  unfold L56
  intro b _
  refine ht.lenS ?_
  rw [hlen]
  refine ⟨fun vs H => ∃ (k : Nat) (es : Array MapEntry) (ck : Nat) (m : List (List UInt8 × List Nat)) (N : Hp), vs = [.int .i64 (k : Int)] ∧ k ≤ L.length ∧ H = (b, .map es ck) :: (N ++ B) ∧ TEnts n (N ++ B) es ck m ∧ ∀ x, x ∈ m.map Prod.snd ↔ x ∈ L.take k,
    fun vs _ => L.length - nAt vs 0, JE.mk ⟨0, _, _, [], [], rfl, by omega, rfl, TEnts.empty _ _, by simp⟩, ?_⟩
  rintro w H ⟨k, es, ck, m, N, hv, hk, rfl, hE, hm⟩ gs
  simp only [List.cons.injEq, and_true] at hv
  subst hv
  refine Bin.ltN (Br.dec (fun hlt => ?_) (fun hlt => ?_))
  · have hg : ts[k]? = some ⟨n, L[k]⟩ := by rw [hL, List.getElem?_map, List.getElem?_eq_getElem hlt]; rfl
    have hfk := hf L[k] (List.getElem_mem hlt)
    refine ht.ld hg (fun _ h => by repeat (first | exact h | apply List.mem_cons_of_mem | apply List.mem_append_right)) fun s hw => ?_
    intro b2 _
    refine St.whole (r := [.int .i64 (n : Int), s]) (by exact .head _) rfl rfl ?_ ?_
    · have := oneCell_words hw; simpa [Value.oneCell'] using this
    refine LdA.whole (r := [.int .i64 (n : Int), s]) (by exact .head _) rfl ?_
    refine CallF.fn (.cons .here) (add_ok hE ⟨s, rfl, hw.mono (fun _ h => by repeat (first | exact h | apply List.mem_cons_of_mem | apply List.mem_append_right))⟩ hfk) ?_
    rintro r C' ⟨es', ck', N', rfl, hE'⟩
    refine Bin.addN (b := 1) (by simp [lim]; omega) ?_
    refine Back.of .tail ⟨k + 1, es', ck', tset m L[k], N' ++ N, rfl, by omega, by rw [List.append_assoc], by rw [List.append_assoc]; exact hE', fun x => ?_⟩ (by simp [nAt]; omega)
    rw [tset_same hE.2 hfk, hm, List.take_succ_eq_append_getElem hlt, List.mem_append, List.mem_singleton]
  · have : k = L.length := by omega
    subst this
    rw [List.take_length] at hm
    exact FnR.here ⟨b, es, ck, m, N, rfl, rfl, hE, hm⟩
theorem given_ok {B : Hp} {bm n u : Nat} {es : Array MapEntry} {ck : Nat} {m : List (List UInt8 × List Nat)} (hm : (bm, Obj.map es ck) ∈ B) (hE : TEnts n B es ck m) (hu : u < n) (hmax : m.length < 4611686018427387904) :
    Fc Try.prog 57 #[.map (some bm), .int .i64 (u : Int)] B (fun r H => ∃ b' es' ck' m' N, r = .tuple #[.map (some b'), .int .i64 ((Tab.nodes n (m.map Prod.snd) u).length : Int)] ∧ H = (b', .map es' ck') :: (N ++ B) ∧ TEnts n (N ++ B) es' ck' m' ∧
      ∀ x, x ∈ m'.map Prod.snd ↔ ∃ t ∈ m.map Prod.snd, ∃ c, x = Tab.cof n t u c) := by
  intro g
  refine L57_sound (R := FnR _) ?_
  unfold L57
  intro b' _
  refine .inr ⟨bm, es, ck, rfl, .tail _ hm, fun bi _ => ?_⟩
  refine ⟨fun vs H => ∃ (es' : Array MapEntry) (ck' : Nat) (m' : List (List UInt8 × List Nat)) (seen : Array Nat) (N : Hp) (D : List (List Nat)), vs = [.int .i64 ((Tab.nodes n D u).length : Int)] ∧
      H = (bi, .mapIter (some bm) ck seen ck) :: (b', .map es' ck') :: (N ++ B) ∧ TEnts n (N ++ B) es' ck' m' ∧ (m.map Prod.snd).Perm (D ++ (unseen es m seen).map Prod.snd) ∧ ∀ x, x ∈ m'.map Prod.snd ↔ ∃ t ∈ D, ∃ c, x = Tab.cof n t u c,
    fun vs H => match H with | (_, .mapIter _ _ seen _) :: _ => (unseen es m seen).length | _ => 0, JE.mk ⟨_, _, [], _, [], [], rfl, rfl, TEnts.empty _ _, ?_, by simp⟩, ?_⟩
  · rw [unseen_all hE.1]; simp
  rintro w H ⟨es', ck', m', seen, N, D, hv, rfl, hE', hperm, hmem⟩ gs
  simp only [List.cons.injEq, and_true] at hv
  subst hv
  have hbm : ∀ {X : Hp}, (bm, Obj.map es ck) ∈ X ++ B := List.mem_append_right _ hm
  refine hE.1.next (.tail _ (.tail _ hbm)) (.head _) (fun e x seen' he hkey hval hstep hback hfind => ⟨_, .head _, ?_⟩) (fun hnil => ?_)
  · obtain ⟨bs, ws⟩ := x
    simp only at hval hkey
    refine Ext.mk rfl (Br.yes ?_)
    refine ⟨bi, bm, ck, seen', e.born, ck, es, e, rfl, .head _, hback, .tail _ (.tail _ hbm), hfind, ?_⟩
    refine Ext.mk rfl ?_
    have hx : (bs, ws) ∈ m := by
      have h := hstep.mem_iff.2 (List.mem_cons_self (a := (bs, ws)))
      unfold unseen at h
      obtain ⟨p, hp, hp2⟩ := List.mem_map.1 h
      rw [← hp2]
      exact (List.of_mem_zip (List.mem_filter.1 hp).1).2
    obtain ⟨hbs, hf⟩ := hE.2 _ hx
    simp only at hbs hf
    obtain ⟨s, hes, hw⟩ := hval
    rw [hes]
    have hone := oneCell_words hw
    intro b1 _
    refine St.whole (r := [.int .i64 (n : Int), s]) (by exact .head _) rfl rfl (by simpa [Value.oneCell'] using hone) ?_
    refine LdA.whole (r := [.int .i64 (n : Int), s]) (by exact .head _) rfl ?_
    refine CallF.px (B := N ++ B) (.cons (.cons (.cons .here))) (tcof_ok (n := n) (ws := ws) ⟨s, rfl, hw.mono (fun _ h => by repeat (first | exact h | apply List.mem_cons_of_mem | apply List.mem_append_right))⟩ hf hu) ?_
    rintro r N1 ⟨v1, rfl, s1, rfl, hw1⟩
    have hone1 := oneCell_words hw1
    refine Ext.mk rfl (Ext.mk rfl ?_)
    intro b2 _
    refine St.whole (r := [.int .i64 (n : Int), s1]) (by exact .head _) rfl rfl (by simpa [Value.oneCell'] using hone1) ?_
    refine LdA.whole (r := [.int .i64 (n : Int), s]) (by exact .tail _ (.head _)) rfl ?_
    refine CallF.px (B := N1 ++ (N ++ B)) (.cons (.cons (.cons (.cons .here)))) (tcof_ok (n := n) (ws := ws) ⟨s, rfl, hw.mono (fun _ h => by repeat (first | exact h | apply List.mem_cons_of_mem | apply List.mem_append_right))⟩ hf hu) ?_
    rintro r N2 ⟨v2, rfl, s2, rfl, hw2⟩
    have hone2 := oneCell_words hw2
    refine Ext.mk rfl (Ext.mk rfl ?_)
    intro b3 _
    refine St.whole (r := [.int .i64 (n : Int), s2]) (by exact .head _) rfl rfl (by simpa [Value.oneCell'] using hone2) ?_
    refine DR.self ?_
    refine LdA.whole (r := [.int .i64 (n : Int), s1]) (by exact .tail _ (.head _)) rfl ?_
    refine LdA.whole (r := [.int .i64 (n : Int), s2]) (by exact .head _) rfl ?_
    have f1 := Tab.frm_cof (v := u) (ws := ws) (b := false) hf.n16
    have f2 := Tab.frm_cof (v := u) (ws := ws) (b := true) hf.n16
    refine CallF.rd (B := N2 ++ (N1 ++ (N ++ B))) (.cons (.cons (.cons (.cons (.cons .here))))) (key_ok (t := ⟨n, Tab.cof n ws u false⟩) ⟨s1, rfl, hw1.mono (fun _ h => by repeat (first | exact h | apply List.mem_cons_of_mem | apply List.mem_append_right))⟩ (frm_len f1)) ?_
    rintro v rfl
    refine ⟨.refl _, ?_⟩
    refine CallF.rd (B := N2 ++ (N1 ++ (N ++ B))) (.cons (.cons (.cons (.cons (.cons .here))))) (key_ok (t := ⟨n, Tab.cof n ws u true⟩) ⟨s2, rfl, hw2⟩ (frm_len f2)) ?_
    rintro v rfl
    refine ⟨.refl _, ?_⟩
    intro J hJ
    have hdep : (Tab.keyB (Tab.cof n ws u false) ≠ Tab.keyB (Tab.cof n ws u true)) ↔ Tab.dep n ws u = true := by
      simp only [Tab.dep, ne_eq, decide_eq_true_eq]
      exact not_congr ⟨fun h => f1.key_inj f2 h, fun h => by rw [h]⟩
    have hfin : JE J [.int .i64 ((Tab.nodes n (D ++ [ws]) u).length : Int)] ((b3, .cells (List.toArray [.int .i64 (n : Int), s2]) 42 (0, 0)) :: (b2, .cells (List.toArray [.int .i64 (n : Int), s1]) 42 (0, 0)) ::
        (b1, .cells (List.toArray [.int .i64 (n : Int), s]) 42 (0, 0)) :: (bi, .mapIter (some bm) ck seen' ck) :: (b', .map es' ck') :: (N2 ++ (N1 ++ (N ++ B)))) := by
      refine JE.mk (hJ _ _ fun gs => ?_)
      refine DR.of (R := (b3, .cells (List.toArray [.int .i64 (n : Int), s2]) 42 (0, 0)) :: (b2, .cells (List.toArray [.int .i64 (n : Int), s1]) 42 (0, 0)) :: []) ?_ ?_
      · exact .cons (.cons (fun g w h => (Own.left (B := _) (A := []) h)))
      refine LdA.whole (r := [.int .i64 (n : Int), s1]) (by exact .tail _ (.head _)) rfl ?_
      refine LdA.whole (r := [.int .i64 (n : Int), s2]) (by exact .head _) rfl ?_
      have hE2 := hE'.mono (B' := N2 ++ (N1 ++ (N ++ B))) (fun _ h => by repeat (first | exact h | apply List.mem_cons_of_mem | apply List.mem_append_right))
      refine hE2.upd (b := b') (ws := Tab.cof n ws u false) ⟨s1, rfl, hw1.mono (fun _ h => by repeat (first | exact h | apply List.mem_cons_of_mem | apply List.mem_append_right))⟩ f1 fun es2 ck2 hE3 => ⟨_, .tail (.tail (.tail (.tail (.head _)))), ?_⟩
      refine ⟨.cons (.cons (fun g w h => (Own.left (B := _) (A := []) h))), ?_⟩
      refine hE3.upd (b := b') (ws := Tab.cof n ws u true) ⟨s2, rfl, hw2⟩ f2 fun es3 ck3 hE4 => ⟨_, .tail (.tail (.tail (.tail (.head _)))), ?_⟩
      refine Back.of (H' := (bi, .mapIter (some bm) ck seen' ck) :: (b', .map es3 ck3) :: ((N2 ++ (N1 ++ N)) ++ B)) ?_ ⟨es3, ck3, tset (tset m' (Tab.cof n ws u false)) (Tab.cof n ws u true), seen', N2 ++ (N1 ++ N), D ++ [ws], rfl, rfl, ?_, ?_, fun x => ?_⟩ ?_
      · refine .skip (.skip (.skip (.cons (.cons ?_))))
        intro g w h; rw [List.append_assoc, List.append_assoc]; exact h
      · rw [List.append_assoc, List.append_assoc]; exact hE4
      · refine hperm.trans ?_
        refine (List.Perm.append_left D (hstep.map Prod.snd)).trans ?_
        simp only [List.map_cons, List.append_assoc, List.cons_append, List.nil_append]
        exact .refl _
      · rw [tset_same hE3.2 f2, tset_same hE2.2 f1, hmem]
        constructor
        · rintro ((⟨t, ht, c, rfl⟩ | rfl) | rfl)
          · exact ⟨t, by simp [ht], c, rfl⟩
          · exact ⟨ws, by simp, _, rfl⟩
          · exact ⟨ws, by simp, _, rfl⟩
        · rintro ⟨t, ht, c, rfl⟩
          rcases List.mem_append.1 ht with ht | ht
          · exact .inl (.inl ⟨t, ht, c, rfl⟩)
          · simp at ht; subst ht
            cases c
            · exact .inl (.inr rfl)
            · exact .inr rfl
      · have := hstep.length_eq
        simp only [List.length_cons] at this ⊢
        omega
    refine Bin.strNe (Br.dec (fun h => ?_) (fun h => ?_))
    · refine Bin.addN (b := 1) ?_ ?_
      · have h1 := hperm.length_eq
        simp only [List.length_map, List.length_append] at h1
        have h2 : (Tab.nodes n D u).length ≤ D.length := List.length_filter_le _ _
        simp [lim]; omega
      · have : (Tab.nodes n (D ++ [ws]) u).length = (Tab.nodes n D u).length + 1 := by
          simp [Tab.nodes, List.filter_append, hdep.1 h]
        rw [this] at hfin; exact hfin
    · have : (Tab.nodes n (D ++ [ws]) u).length = (Tab.nodes n D u).length := by
        have hd : Tab.dep n ws u = false := by cases hh : Tab.dep n ws u; rfl; exact absurd (hdep.2 hh) h
        simp [Tab.nodes, List.filter_append, hd]
      rw [this] at hfin; exact hfin
  · refine Ext.mk rfl (Br.no ?_)
    rw [hnil] at hperm
    simp only [List.map_nil, List.append_nil] at hperm
    refine FnR.mk (H'' := (b', .map es' ck') :: (N ++ B)) .tail ⟨b', es', ck', m', N, ?_, rfl, hE', fun x => ?_⟩
    · rw [Tab.nodes_perm hperm]
    · rw [hmem]
      constructor
      · rintro ⟨t, ht, h⟩; exact ⟨t, hperm.mem_iff.2 ht, h⟩
      · rintro ⟨t, ht, h⟩; exact ⟨t, hperm.mem_iff.1 ht, h⟩

end Go.Proofs
set_option linter.unusedVariables false
set_option linter.unusedSimpArgs false
set_option maxRecDepth 100000
namespace Go.Proofs
open Go Go.Sx
theorem scheck_ok {B : Hp} {v : Value} {ts : List Tb} (ht : Tbls B v ts) (hmax : ts.length < 2 ^ 62) : Rd Try.prog 54 #[v] B (· = .bool (decide (∀ t ∈ ts, TF t ∧ some t.n = ts.head?.map Tb.n))) := by
  intro g
  refine L54_sound (R := FnR _) ?_
  unfold L54
  refine ht.lenS ?_
  refine ⟨fun vs H => Grow B H ∧ ∃ k : Nat, vs = [.int .i64 (k : Int)] ∧ k ≤ ts.length ∧ ∀ i t, i < k → ts[i]? = some t → TF t ∧ some t.n = ts.head?.map Tb.n, fun vs _ => ts.length - nAt vs 0, JE.mk ⟨.refl _, 0, rfl, by omega, by omega⟩, ?_⟩
  rintro w H ⟨hg, k, hv, hk, hall⟩ gs
  simp only [List.cons.injEq, and_true] at hv
  subst hv
  refine Bin.ltN (Br.dec (fun hlt => ?_) (fun hlt => ?_))
  · obtain ⟨t, htk⟩ : ∃ t, ts[k]? = some t := ⟨_, List.getElem?_eq_getElem hlt⟩
    obtain ⟨t0, ht0⟩ : ∃ t, ts[0]? = some t := ⟨_, List.getElem?_eq_getElem (by omega)⟩
    have hh : ts.head?.map Tb.n = some t0.n := by rw [List.head?_eq_getElem?, ht0]; rfl
    have htB := ht.mono hg.sub
    refine htB.ld htk (fun _ h => h) fun s hs => ?_
    intro b1 _
    refine St.whole (r := [.int .i64 t.n, s]) (by exact Upd.head _) rfl rfl ?_ ?_
    · obtain ⟨a, c, rfl, _⟩ := hs.1.shape; simp [Value.oneCell']
    intro J hJ
    have hno : ∀ H', Grow B H' → ¬ (TF t ∧ some t.n = ts.head?.map Tb.n) → JE J [.bool true] H' := fun H' hg' h =>
      JE.mk (hJ _ _ fun gs => Br.yes (RdR.mk hg'.ent (by rw [decide_eq_false]; exact fun hh => h (hh t (List.mem_of_getElem? htk)))))
    have hg2 : Grow B ((b1, Obj.cells (List.toArray [.int .i64 t.n, s]) 42 (0, 0)) :: H) := .cons hg
    refine DR.self ?_
    refine LdA.whole (r := [.int .i64 t.n, s]) (by exact List.Mem.head _) rfl ?_
    intro F
    refine CallF.rd (B := H) (.cons .here) (form1_ok ⟨s, rfl, hs⟩) ?_
    rintro v rfl
    refine ⟨.refl _, Un.not ?_⟩
    by_cases hT : TF t
    case neg => rw [decide_eq_false hT]; exact Br.yes (hno _ hg2 fun h => hT h.1)
    rw [decide_eq_true hT]
    refine Br.no ?_
    refine FAddr.mk (Ld.mk (by repeat (first | assumption | exact List.Mem.head _ | apply List.Mem.tail | apply List.mem_append_right)) rfl ?_)
    refine htB.ldN ht0 (fun _ h => by repeat (first | exact h | apply List.mem_cons_of_mem | apply List.mem_append_right)) ?_
    refine Bin.neD (Pick.mk ?_)
    simp only [cond_false]
    by_cases hn : t.n = t0.n
    case neg => rw [decide_eq_true hn]; exact hno _ hg2 fun h => hn (by have := h.2; rw [hh] at this; simpa using this)
    rw [decide_eq_false (by simpa using hn)]
    refine JE.mk (hJ _ _ fun gs => Br.no ?_)
    refine Bin.addN (b := 1) (by simp [lim]; omega) ?_
    refine Back.mk ⟨hg2, k + 1, rfl, by omega, fun i u hi hu => ?_⟩ (by simp [nAt]; omega)
    by_cases e : i = k
    · subst e; rw [htk] at hu; cases hu; exact ⟨hT, by rw [hh, hn]⟩
    · exact hall i u (by omega) hu
  · refine RdR.mk hg.ent ?_
    rw [decide_eq_true]
    intro t htm
    obtain ⟨i, hi, rfl⟩ := List.mem_iff_getElem.1 htm
    exact hall i _ (by omega) (List.getElem?_eq_getElem hi)
/-- tables in form, of one N -/
def OneN (ts : List Tb) : Prop := ∀ t ∈ ts, TF t ∧ some t.n = ts.head?.map Tb.n
instance (ts : List Tb) : Decidable (OneN ts) := by unfold OneN; infer_instance
theorem scheck1_ok {B : Hp} {v : Value} {ts : List Tb} (ht : Tbls B v ts) (hmax : ts.length < 2 ^ 62) : Rd Try.prog 54 #[v] B (· = .bool (decide (OneN ts))) := scheck_ok ht hmax
theorem oneN_map {n : Nat} {L : List (List Nat)} (hf : ∀ ws ∈ L, Tab.Frm n ws) : OneN (L.map fun ws => ⟨n, ws⟩) := by
  intro t ht
  obtain ⟨ws, hws, rfl⟩ := List.mem_map.1 ht
  refine ⟨⟨by simp, by simpa using hf ws hws⟩, ?_⟩
  cases L with
  | nil => simp at hws
  | cons a b => rfl
theorem of_oneN {ts : List Tb} (h : OneN ts) (hne : ts ≠ []) : ∃ (n : Nat) (L : List (List Nat)), n ≤ 16 ∧ ts = L.map (fun ws => ⟨n, ws⟩) ∧ L ≠ [] ∧ ∀ ws ∈ L, Tab.Frm n ws := by
  cases ts with
  | nil => exact absurd rfl hne
  | cons t r =>
    have ht := (h t (by simp)).1
    have hn : ∀ u ∈ t :: r, u.n = t.n := fun u hu => by have := (h u hu).2; simpa using this
    refine ⟨t.n.toNat, (t :: r).map Tb.ws, ht.2.n16, ?_, by simp, fun ws hws => ?_⟩
    · rw [List.map_map]
      conv => lhs; rw [← List.map_id (t :: r)]
      apply List.map_congr_left
      intro u hu
      have h1 := hn u hu
      have h2 := ht.1
      obtain ⟨un, uw⟩ := u
      simp only [Function.comp, id] at h1 ⊢
      congr 1; omega
    · obtain ⟨u, hu, rfl⟩ := List.mem_map.1 hws
      have := (h u hu).1.2
      rwa [hn u hu] at this
theorem level_ok {B : Hp} {v : Value} {n u A : Nat} {L : List (List Nat)} (ht : Tbls B v (L.map fun ws => ⟨n, ws⟩)) (hf : ∀ ws ∈ L, Tab.Frm n ws) (hne : L ≠ []) (hmax : L.length < 4398046511104) (hA : A < 2 ^ n) (hu : u < n) (hAu : A.testBit u = false) :
    Rd Try.prog 46 #[v, .int .u64 (A : Int), .int .i64 (u : Int)] B (· = .tuple #[.int .i64 ((Tab.lvl n L A u : Nat) : Int), .int .i64 0]) := by
  obtain ⟨w0, hw0⟩ : ∃ w0, L[0]? = some w0 := ⟨_, List.getElem?_eq_getElem (List.length_pos_iff.2 hne)⟩
  have hn16 : n ≤ 16 := (hf w0 (List.mem_of_getElem? hw0)).n16
  have hA16 : A < 65536 := Nat.lt_of_lt_of_le hA (Nat.pow_le_pow_right (n := 2) (by decide) hn16)
  intro g
  refine L46_sound (R := FnR _) ?_
  unfold L46
  refine CallF.rd .here (scheck1_ok ht (by simp; omega)) ?_
  rintro v rfl
  rw [decide_eq_true (oneN_map hf)]
  refine Un.not (Br.no ?_)
  intro J hJ
  refine ht.lenS ?_
  rw [List.length_map]
  have hpos : 0 < L.length := List.length_pos_iff.2 hne
  refine Bin.gtN (b := 0) (Br.decT hpos ?_)
  refine ht.ldN (i := 0) (t := ⟨n, w0⟩) (by rw [List.getElem?_map, hw0]; rfl) (fun _ h => h) ?_
  refine JE.mk (hJ _ _ fun gs => ?_)
  simp only
  refine Bin.lss (Grp.or (decide (n ≤ u)) (fun _ => ?_) rfl fun gs => ?_)
  · exact Bin.geN ⟨trivial, rfl⟩
  rw [show (decide ((u : Int) < 0) || decide (n ≤ u)) = false by simp; omega]
  refine Grp.or (decide (A >>> n ≠ 0)) (fun _ => ?_) rfl fun gs => ?_
  · refine Bin.shrN (by simp [lim]; omega) ?_
    exact Bin.neN (b := 0) ⟨trivial, rfl⟩
  rw [show (false || decide (A >>> n ≠ 0)) = false by rw [Nat.shiftRight_eq_div_pow, Nat.div_eq_of_lt hA]; rfl]
  refine Br.no ?_
  have hshl : ∀ k, A >>> k < 18446744073709551616 := fun k => Nat.lt_of_le_of_lt (Nat.shiftRight_le _ _) (by omega)
  refine Bin.shrN (by simp [lim]; omega) (Bin.andN (b := 1) (by simpa [lim] using hshl u) (by decide) (Bin.eqN (b := 1) ?_))
  refine Br.decF (by rw [Tab.bit_one, hAu]; simp) ?_
  refine CallF.fn .here (of_set_ok ht rfl hf (by omega)) ?_
  rintro r H ⟨b, es, ck, m, N, rfl, rfl, hE, hm⟩
  have hbound : ∀ k, k ≤ n → ∀ m : List (List UInt8 × List Nat), (m.map Prod.snd).Nodup → (∀ x, x ∈ m.map Prod.snd ↔ x ∈ Tab.st n L A k) → m.length < 4611686018427387904 := by
    intro k hk m hnd hmem
    have h1 := (Tab.perm_of_same hnd (Tab.st_nodup n L A k) hmem).length_eq
    have h2 := Tab.st_length n L A k
    have h3 : 2 ^ k ≤ 2 ^ 16 := Nat.pow_le_pow_right (by decide) (by omega)
    have h4 : 2 ^ k * L.length ≤ 2 ^ 16 * L.length := Nat.mul_le_mul_right _ h3
    rw [List.length_map] at h1
    omega
  refine ⟨fun vs H => ∃ (k : Nat) (b : Nat) (es : Array MapEntry) (ck : Nat) (m : List (List UInt8 × List Nat)) (N : Hp), vs = [.map (some b), .int .i64 (k : Int)] ∧ k ≤ n ∧ H = (b, .map es ck) :: (N ++ B) ∧ TEnts n (N ++ B) es ck m ∧ ∀ x, x ∈ m.map Prod.snd ↔ x ∈ Tab.st n L A k,
    fun vs _ => n - nAt vs 1, JE.mk ⟨0, b, es, ck, m, N, rfl, by omega, rfl, hE, fun x => by rw [hm]; exact Tab.mem_unlike.symm⟩, ?_⟩
  clear hm hE
  rintro w25 w26 H ⟨k, b, es, ck, m, N, hv, hk, rfl, hE, hm⟩ gs
  simp only [List.cons.injEq, and_true] at hv
  obtain ⟨rfl, rfl⟩ := hv
  have hE2 := hE.mono (B' := (b, Obj.map es ck) :: (N ++ B)) (fun _ h => by repeat (first | exact h | apply List.mem_cons_of_mem | apply List.mem_append_right))
  refine Bin.ltN (Br.dec (fun hlt => ?_) (fun hlt => ?_))
  · intro J hJ
    refine Bin.shrN (by simp [lim]; omega) (Bin.andN (b := 1) (by simpa [lim] using hshl k) (by decide) (Bin.eqN (b := 1) ?_))
    refine Br.dec (fun h => ?_) (fun h => ?_)
    · have hb := (Tab.bit_one A k).1 h
      refine CallF.fn .here (given_ok (.head _) hE2 hlt (hbound k hk m hE.nodup hm)) ?_
      rintro r H ⟨b', es', ck', m', N', rfl, rfl, hE', hm'⟩
      refine Ext.mk rfl (Ext.mk rfl (JE.mk (hJ _ _ fun gs => ?_)))
      refine Bin.addN (b := 1) (by simp [lim]; omega) ?_
      refine Back.mk ⟨k + 1, b', es', ck', m', N' ++ (b, .map es ck) :: N, rfl, by omega, by rw [List.append_assoc]; rfl, by rw [List.append_assoc]; exact hE', fun x => ?_⟩ (by simp [nAt]; omega)
      rw [hm', Tab.st, if_pos hb, Tab.mem_given]
      constructor
      · rintro ⟨t, h1, h2⟩; exact ⟨t, (hm t).1 h1, h2⟩
      · rintro ⟨t, h1, h2⟩; exact ⟨t, (hm t).2 h1, h2⟩
    · have hb : A.testBit k = false := by cases hh : A.testBit k; rfl; exact absurd ((Tab.bit_one A k).2 hh) h
      refine JE.mk (hJ _ _ fun gs => ?_)
      refine Bin.addN (b := 1) (by simp [lim]; omega) ?_
      refine Back.mk ⟨k + 1, b, es, ck, m, N, rfl, by omega, rfl, hE, fun x => ?_⟩ (by simp [nAt]; omega)
      rw [hm, Tab.st, hb]; simp
  · have : k = n := by omega
    subst this
    refine CallF.fn .here (given_ok (.head _) hE2 hu (hbound k hk m hE.nodup hm)) ?_
    rintro r H ⟨b', es', ck', m', N', rfl, rfl, hE', hm'⟩
    refine Ext.mk rfl (Ext.mk rfl ?_)
    refine RdR.mk ?_ ?_
    · exact .skip (.skips (.skip .right))
    · have := Tab.nodes_perm (n := k) (v := u) (Tab.perm_of_same hE.nodup (Tab.st_nodup k L A k) hm)
      unfold Tab.lvl; rw [← this]; rfl
theorem support_ok {B : Hp} {v : Value} {t : Tb} (ht : Tbl B v t) : Rd Try.prog 45 #[v] B (· = .tuple (if TF t then #[.int .u64 ((Tab.supp t.n.toNat t.ws : Nat) : Int), .int .i64 0] else #[.int .u64 0, .int .i64 5])) := by
  obtain ⟨tn, ws⟩ := t
  obtain ⟨s, rfl, hw⟩ := ht
  simp only at hw ⊢
  intro g
  refine L45_sound (R := FnR _) ?_
  unfold L45
  intro b1 _
  refine LdA.whole (r := [.int .i64 tn, s]) (by exact .head _) rfl ?_
  refine buildOne fun b2 => ?_
  refine CallF.rd .here (formone_ok (t := ⟨tn, ws⟩) (by exact .head _) (hw.mono (fun _ h => by repeat (first | exact h | apply List.mem_cons_of_mem | apply List.mem_append_right)))) ?_
  rintro v rfl
  refine Un.not ?_
  by_cases hT : TF ⟨tn, ws⟩
  case neg =>
    rw [decide_eq_false hT, if_neg hT]
    exact Br.yes (RdR.mk (by repeat (first | exact Ent.refl _ | apply Ent.cons | apply Ent.skip | apply Ent.prep | apply Ent.skips)) rfl)
  rw [decide_eq_true hT, if_pos hT]
  refine Br.no ?_
  obtain ⟨n, rfl⟩ : ∃ n : Nat, tn = n := ⟨tn.toNat, by have := hT.1; simp only at this; omega⟩
  have hf : Tab.Frm n ws := by have := hT.2; simpa using this
  refine FAddr.mk (Ld.mk (by repeat (first | assumption | exact List.Mem.head _ | apply List.Mem.tail | apply List.mem_append_right)) rfl ?_)
  refine ⟨fun vs H => ∃ (k : Nat) (N : Hp), vs = [.int .u64 ((Tab.suppP n ws k : Nat) : Int), .int .i64 (k : Int)] ∧ k ≤ n ∧ H = (b1, .cells (Value.cells (.agg #[.int .i64 (n : Int), s])) 42 (0, 0)) :: (N ++ B),
    fun vs _ => n - nAt vs 1, JE.of .tail ⟨0, [], rfl, by omega, rfl⟩, ?_⟩
  rintro w15 w16 H ⟨k, N, hv, hk, rfl⟩ gs
  simp only [List.cons.injEq, and_true] at hv
  obtain ⟨rfl, rfl⟩ := hv
  have hn16 := hf.n16
  have hsl := Tab.suppP_lt n ws k
  have hs64 : Tab.suppP n ws k < 65536 := Nat.lt_of_lt_of_le hsl (Nat.pow_le_pow_right (n := 2) (by decide) (by omega : k ≤ 16))
  refine Bin.ltN (Br.dec (fun hlt => ?_) (fun hlt => ?_))
  · intro J hJ
    refine DR.self ?_
    refine LdA.whole (r := [.int .i64 (n : Int), s]) (by exact .head _) rfl (LdA.whole (r := [.int .i64 (n : Int), s]) (by exact .head _) rfl ?_)
    refine CallF.px (B := N ++ B) (.cons .here) (half_ok (v := .agg (List.toArray [.int .i64 (n : Int), s])) ⟨s, rfl, hw.mono (fun _ h => by repeat (first | exact h | apply List.mem_cons_of_mem | apply List.mem_append_right))⟩ hf hlt) ?_
    rintro v N1 ⟨s1, rfl, hw1⟩
    refine ⟨.cons .right, Fld.mk rfl ?_⟩
    refine CallF.px (B := N1 ++ (N ++ B)) (.cons .here) (half_ok (v := .agg (List.toArray [.int .i64 (n : Int), s])) ⟨s, rfl, hw.mono (fun _ h => by repeat (first | exact h | apply List.mem_cons_of_mem | apply List.mem_append_right))⟩ hf hlt) ?_
    rintro v N2 ⟨s2, rfl, hw2⟩
    refine ⟨.cons (.skips .right), Fld.mk rfl ?_⟩
    refine CallF.rd (B := N2 ++ (N1 ++ (N ++ B))) (.cons .here) (equal_ok (hw1.mono (fun _ h => by repeat (first | exact h | apply List.mem_cons_of_mem | apply List.mem_append_right))) hw2 (by have := frm_len (Tab.frm_cof (v := k) (ws := ws) (b := false) hf.n16); simp only; omega)) ?_
    rintro v rfl
    refine ⟨.cons (.skips .right), Un.not ?_⟩
    have hfin : JE J [.int .u64 ((Tab.suppP n ws (k + 1) : Nat) : Int)] ((b1, .cells (Value.cells (.agg #[.int .i64 (n : Int), s])) 42 (0, 0)) :: (N2 ++ (N1 ++ (N ++ B)))) := by
      refine JE.mk (hJ _ _ fun gs => ?_)
      refine Bin.addN (b := 1) (by simp [lim]; omega) ?_
      exact Back.mk ⟨k + 1, N2 ++ (N1 ++ N), rfl, by omega, by rw [List.append_assoc, List.append_assoc]⟩ (by simp [nAt]; omega)
    rw [Tab.suppP] at hfin
    by_cases hd : Tab.dep n ws k = true
    · rw [if_pos hd] at hfin
      have : Tab.cof n ws k false ≠ Tab.cof n ws k true := by simpa [Tab.dep] using hd
      rw [decide_eq_false this]
      refine Br.yes ?_
      refine Bin.shlU (a := 1) ?_
      have h2 : 2 ^ k < 65536 := Nat.lt_of_lt_of_le (Nat.pow_lt_pow_right (n := 16) (by decide) (by omega)) (by decide)
      rw [Nat.one_shiftLeft, Nat.mod_eq_of_lt (by omega)]
      exact Bin.orN (by simp [lim]; omega) (by simp [lim]; omega) hfin
    · rw [if_neg hd] at hfin
      have : Tab.cof n ws k false = Tab.cof n ws k true := by simpa [Tab.dep] using hd
      rw [decide_eq_true this]
      exact Br.no hfin
  · have : k = n := by omega
    subst this
    refine RdR.mk (.skip .right) ?_
    simp [Tab.supp]
theorem pairs_ok {B : Hp} {v : Value} {ts : List Tb} (ht : Tbls B v ts) (hmax : ts.length < 4398046511104) : Px Try.prog 44 #[v] B (fun r _ => ∃ s, r = .tuple #[s, .int .i64 (if OneN ts then 0 else 5)]) := by
  intro g
  refine L44_sound (R := FnR _) ?_
  unfold L44
  refine CallF.rd .here (scheck1_ok ht (by omega)) ?_
  rintro v rfl
  refine Un.not ?_
  by_cases hO : OneN ts
  case neg => rw [decide_eq_false hO, if_neg hO]; exact Br.yes (PxR.mk (.refl _) ⟨_, rfl⟩)
  rw [decide_eq_true hO, if_pos hO]
  refine Br.no (ht.lenS (Bin.eqN (b := 0) (Br.dec (fun h0 => PxR.mk (.refl _) ⟨_, rfl⟩) (fun h0 => ?_))))
  obtain ⟨n, L, hn16, rfl, hne, hf⟩ := of_oneN hO (by intro e; rw [e] at h0; exact h0 rfl)
  rw [List.length_map] at hmax
  obtain ⟨w0, hw0⟩ : ∃ w0, L[0]? = some w0 := ⟨_, List.getElem?_eq_getElem (List.length_pos_iff.2 hne)⟩
  refine ht.ldN (i := 0) (t := ⟨n, w0⟩) (by rw [List.getElem?_map, hw0]; rfl) (fun _ h => h) ?_
  simp only
  refine MkSlice.ints (by omega) (by omega) fun bw => ?_
  refine ht.lenS ?_
  refine ⟨fun vs H => ∃ (k : Nat) (l : List Nat), vs = [.int .i64 (k : Int)] ∧ k ≤ L.length ∧ H = (bw, .cells (icells .u64 (iw l)) 33 (0, 0)) :: B ∧ l.length = n ∧ ∀ w ∈ l, w < 18446744073709551616,
    fun vs _ => L.length - nAt vs 0, JE.mk ⟨0, List.replicate n 0, rfl, by omega, by simp [iw], by simp, fun w hw => by rw [List.eq_of_mem_replicate hw]; decide⟩, ?_⟩
  rintro w H ⟨k, l, hv, hk, rfl, hl, hlw⟩ gs
  simp only [List.cons.injEq, and_true] at hv
  subst hv
  rw [List.length_map]
  refine Bin.ltN (Br.dec (fun hlt => ?_) (fun hlt => ?_))
  · have hg : (L.map fun ws => (⟨n, ws⟩ : Tb))[k]? = some ⟨n, L[k]⟩ := by rw [List.getElem?_map, List.getElem?_eq_getElem hlt]; rfl
    have hfk := hf L[k] (List.getElem_mem hlt)
    refine ht.ld hg (fun _ h => by repeat (first | exact h | apply List.mem_cons_of_mem | apply List.mem_append_right)) fun s hw => ?_
    intro b2 _
    refine St.whole (r := [.int .i64 (n : Int), s]) (by exact .head _) rfl rfl ?_ ?_
    · have := oneCell_words hw; simpa [Value.oneCell'] using this
    refine LdA.whole (r := [.int .i64 (n : Int), s]) (by exact .head _) rfl ?_
    refine CallF.rd (B := B) (.cons (.cons .here)) (support_ok (v := .agg (List.toArray [.int .i64 (n : Int), s])) (t := ⟨n, L[k]⟩) ⟨s, rfl, hw⟩) ?_
    rintro v rfl
    rw [if_pos (show TF ⟨(n : Int), L[k]⟩ from ⟨by simp, by simpa using hfk⟩)]
    refine Ext.mk rfl (Ext.mk rfl (LenS.mk ?_))
    simp only [Int.toNat_natCast]
    have hsup : Tab.supp n L[k] < 65536 := Nat.lt_of_lt_of_le (Tab.suppP_lt n L[k] n) (Nat.pow_le_pow_right (n := 2) (by decide) hn16)
    refine ⟨fun vs H => ∃ (j : Nat) (l : List Nat), vs = [.int .i64 (j : Int)] ∧ j ≤ n ∧ H = (bw, .cells (icells .u64 (iw l)) 33 (0, 0)) :: B ∧ l.length = n ∧ ∀ w ∈ l, w < 18446744073709551616,
      fun vs _ => n - nAt vs 0, JE.of .tail ⟨0, l, rfl, by omega, rfl, hl, hlw⟩, ?_⟩
    rintro w H ⟨j, l, hv, hj, rfl, hl, hlw⟩ gs
    simp only [List.cons.injEq, and_true] at hv
    subst hv
    refine Bin.ltN (Br.dec (fun hj2 => ?_) (fun hj2 => ?_))
    · intro J hJ
      have hfin : ∀ l : List Nat, l.length = n → (∀ w ∈ l, w < 18446744073709551616) → JE J [] ((bw, .cells (icells .u64 (iw l)) 33 (0, 0)) :: B) := fun l hl hlw => by
        refine JE.mk (hJ _ fun gs => ?_)
        refine Bin.addN (b := 1) (by simp [lim]; omega) ?_
        exact Back.mk ⟨j + 1, l, rfl, by omega, rfl, hl, hlw⟩ (by simp [nAt]; omega)
      have hsh : Tab.supp n L[k] >>> j < 65536 := Nat.lt_of_le_of_lt (Nat.shiftRight_le _ _) hsup
      refine Bin.shrN (by simp [lim]; omega) (Bin.andN (b := 1) (by simp [lim]; omega) (by decide) (Bin.eqN (b := 1) ?_))
      refine Br.dec (fun h => ?_) (fun h => hfin l hl hlw)
      refine DR.self ?_
      have hgj : l[j]? = some l[j] := List.getElem?_eq_getElem (by omega)
      have hlj := hlw _ (List.getElem_mem (show j < l.length by omega))
      refine IAddr.nat hj2 ?_
      refine Ld.mk (v := .int .u64 (l[j] : Int)) (by exact .head _) (by simp [icells, iw, hgj]) ?_
      refine Bin.shlU (a := 1) ?_
      have h2 : 2 ^ j < 65536 := Nat.lt_of_lt_of_le (Nat.pow_lt_pow_right (n := 16) (by decide) (by omega)) (by decide)
      rw [Nat.one_shiftLeft, Nat.mod_eq_of_lt (by omega)]
      refine Bin.andnN (by simp [lim]; omega) (by simp [lim]; omega) ?_
      have h3 := andn_le (Tab.supp n L[k]) (2 ^ j)
      refine Bin.orN (by simp only [lim]; exact hlj) (by simp only [lim]; omega) ?_
      refine IAddr.nat hj2 ?_
      refine St.ints (l := iw l) (by exact .head _) (by simp; omega) ?_
      have e : (iw l).set j ((l[j] ||| andn (Tab.supp n L[k]) (2 ^ j) : Nat) : Int) = iw (l.set j (l[j] ||| andn (Tab.supp n L[k]) (2 ^ j))) := by simp [iw, List.map_set]
      rw [e]
      refine hfin _ (by simp [hl]) fun w hw => ?_
      rcases List.mem_or_eq_of_mem_set hw with hw | rfl
      · exact hlw w hw
      · exact Nat.or_lt_two_pow (n := 64) hlj (by omega)
    · refine Bin.addN (b := 1) (by simp [lim]; omega) ?_
      exact Back.mk ⟨k + 1, l, rfl, by omega, rfl, hl, hlw⟩ (by simp [nAt]; omega)
  · exact PxR.mk (by repeat (first | exact Grow.refl _ | apply Grow.cons | apply Grow.app)) ⟨_, rfl⟩

end Go.Proofs
set_option linter.unusedVariables false
set_option linter.unusedSimpArgs false
set_option maxRecDepth 100000
namespace Go.Proofs
open Go Go.Sx
theorem rwords_ok {n : Nat} (hn : n ≤ 16) (B : Hp) : Rd Try.prog 43 #[.int .i64 (n : Int)] B (· = .int .i64 ((Tab.wN n : Nat) : Int)) := by
  intro g
  refine L43_sound (R := FnR _) ?_
  unfold L43
  refine Bin.leN (b := 6) (Br.dec (fun h => ?_) (fun h => ?_))
  · exact RdR.mk (.refl _) (by rw [Tab.wN_lt (by omega)]; rfl)
  · refine Bin.subN (b := 6) (by simp [lim]; omega) (by omega) ?_
    have hp : 2 ^ (n - 6) ≤ 1024 := Nat.pow_le_pow_right (n := 2) (by decide) (by omega : n - 6 ≤ 10)
    refine Bin.shlN (a := 1) (by simp [IntKind.bits]; omega) (by rw [Nat.one_shiftLeft]; simp [lim]; omega) ?_
    exact RdR.mk (.refl _) (by rw [Nat.one_shiftLeft, Tab.wN_ge (by omega)])
theorem rform_ok {B : Hp} {v : Value} {t : Tb} (ht : Tbl B v t) : Rd Try.prog 25 #[v] B (· = .bool (decide (TF t))) := by
  obtain ⟨tn, ws⟩ := t
  obtain ⟨s, rfl, hs, hw⟩ := ht
  simp only at hs hw ⊢
  intro g
  refine L25_sound (R := FnR _) ?_
  unfold L25
  intro b1 _ J hJ
  have hno : ¬ TF ⟨tn, ws⟩ → JE J [.bool true] ((b1, .cells (Value.cells (.agg #[.int .i64 tn, s])) 42 (0, 0)) :: B) := fun h =>
    JE.mk (hJ _ _ fun gs => Br.yes (RdR.mk .tail (by rw [decide_eq_false h])))
  refine DR.self ?_
  refine FAddr.mk (Ld.mk (by repeat (first | assumption | exact List.Mem.head _ | apply List.Mem.tail | apply List.mem_append_right)) rfl ?_)
  refine Bin.lss (Br.dec (fun h0 => hno fun h => by have := h.1; simp only at this; omega) (fun h0 => ?_))
  obtain ⟨n, rfl⟩ : ∃ n : Nat, tn = n := ⟨tn.toNat, by omega⟩
  have hTF : TF ⟨(n : Int), ws⟩ ↔ Tab.Frm n ws := by unfold TF; simp
  refine FAddr.mk (Ld.mk (by repeat (first | assumption | exact List.Mem.head _ | apply List.Mem.tail | apply List.mem_append_right)) rfl ?_)
  refine Bin.gtN (b := 16) (Pick.mk (Br.dec (fun h1 => hno fun h => by have := (hTF.1 h).n16; omega) (fun h1 => ?_)))
  refine FAddr.mk (Ld.mk (by repeat (first | assumption | exact List.Mem.head _ | apply List.Mem.tail | apply List.mem_append_right)) rfl ?_)
  refine hs.lenS ?_
  refine FAddr.mk (Ld.mk (by repeat (first | assumption | exact List.Mem.head _ | apply List.Mem.tail | apply List.mem_append_right)) rfl ?_)
  intro F
  refine CallF.rd (.cons .here) (rwords_ok (by omega) B) ?_
  rintro v rfl
  refine ⟨(by repeat (first | exact Ent.refl _ | apply Ent.cons | apply Ent.skip | apply Ent.prep | apply Ent.skips)), ?_⟩
  rw [iw_length]
  refine Bin.neN (Pick.mk ?_)
  simp only [cond_false]
  by_cases hl : ws.length = Tab.wN n
  case neg => rw [show decide (ws.length ≠ Tab.wN n) = true by simp [hl]]; exact hno fun h => hl (hTF.1 h).len
  rw [show decide (ws.length ≠ Tab.wN n) = false by simp [hl]]
  refine JE.mk (hJ _ _ fun gs => Br.no ?_)
  refine FAddr.mk (Ld.mk (by repeat (first | assumption | exact List.Mem.head _ | apply List.Mem.tail | apply List.mem_append_right)) rfl ?_)
  refine Bin.geN (b := 6) ?_
  have hpos := Tab.wN_pos n
  obtain ⟨w, hg⟩ : ∃ w, ws[0]? = some w := ⟨_, List.getElem?_eq_getElem (by omega)⟩
  have hwl := hw w (List.mem_of_getElem? hg)
  refine Grp.or (decide (w >>> (2 ^ n) = 0)) (fun h6 => ?_) rfl fun gs => ?_
  · have h6' : ¬ 6 ≤ n := by simpa using h6
    have h1 : 2 ^ n ≤ 32 := Nat.pow_le_pow_right (n := 2) (by decide) (by omega : n ≤ 5)
    refine FAddr.mk (Ld.mk (by repeat (first | assumption | exact List.Mem.head _ | apply List.Mem.tail | apply List.mem_append_right)) rfl ?_)
    refine hs.ld (iw_get hg) (fun _ h => by repeat (first | exact h | apply List.mem_cons_of_mem | apply List.mem_append_right)) ?_
    refine FAddr.mk (Ld.mk (by repeat (first | assumption | exact List.Mem.head _ | apply List.Mem.tail | apply List.mem_append_right)) rfl ?_)
    refine Bin.shlU (a := 1) ?_
    rw [Nat.one_shiftLeft, Nat.mod_eq_of_lt (by omega)]
    refine Bin.shrN (by simpa [lim] using hwl) ?_
    exact Bin.eqN (b := 0) ⟨rfl, rfl⟩
  · refine RdR.mk .tail ?_
    congr 1
    rw [← Bool.decide_or]
    refine decide_eq_decide.2 (hTF.trans ?_).symm
    constructor
    · intro h
      by_cases h6 : 6 ≤ n
      · exact .inl h6
      · refine .inr ?_
        have := h.full w (List.mem_of_getElem? hg)
        unfold Tab.fullN at this
        rw [if_neg h6] at this
        have hp := Nat.two_pow_pos (2 ^ n)
        rw [Nat.shiftRight_eq_div_pow]; exact Nat.div_eq_of_lt (by omega)
    · intro h
      refine ⟨by omega, hl, fun u hu => ?_⟩
      by_cases h6 : 6 ≤ n
      · unfold Tab.fullN; rw [if_pos h6]; have := hw u hu; omega
      · have h1 : ws.length = 1 := by rw [hl, Tab.wN_lt (by omega)]
        obtain ⟨x, rfl⟩ := List.length_eq_one_iff.1 h1
        simp at hg hu
        subst hg; subst hu
        rcases h with h | h
        · exact absurd h h6
        · rw [Nat.shiftRight_eq_div_pow] at h
          unfold Tab.fullN; rw [if_neg h6]
          have hp := Nat.two_pow_pos (2 ^ n)
          have := (Nat.div_eq_zero_iff_lt hp).1 h
          omega
theorem same_ok {B : Hp} {v1 v2 : Value} {a b : Tb} (h1 : Tbl B v1 a) (h2 : Tbl B v2 b) (hmax : a.ws.length < 2 ^ 62) : Rd Try.prog 18 #[v1, v2] B (· = .bool (decide (a = b))) := by
  obtain ⟨na, wa⟩ := a
  obtain ⟨nb, wb⟩ := b
  obtain ⟨s1, rfl, hs1, hw1⟩ := h1
  obtain ⟨s2, rfl, hs2, hw2⟩ := h2
  simp only at hs1 hs2 hw1 hw2 hmax ⊢
  intro g
  refine L18_sound (R := FnR _) ?_
  unfold L18
  intro b1 _ b3 _
  refine FAddr.mk (Ld.mk (by repeat (first | assumption | exact List.Mem.head _ | apply List.Mem.tail | apply List.mem_append_right)) rfl ?_)
  refine FAddr.mk (Ld.mk (by repeat (first | assumption | exact List.Mem.head _ | apply List.Mem.tail | apply List.mem_append_right)) rfl ?_)
  refine Bin.neD ?_
  refine Grp.or (decide (wa.length ≠ wb.length)) (fun _ => ?_) rfl fun gs => ?_
  · refine FAddr.mk (Ld.mk (by repeat (first | assumption | exact List.Mem.head _ | apply List.Mem.tail | apply List.mem_append_right)) rfl ?_)
    refine hs1.lenS ?_
    refine FAddr.mk (Ld.mk (by repeat (first | assumption | exact List.Mem.head _ | apply List.Mem.tail | apply List.mem_append_right)) rfl ?_)
    refine hs2.lenS ?_
    rw [iw_length, iw_length]
    exact Bin.neN ⟨rfl, rfl⟩
  rw [← Bool.decide_or]
  refine Br.dec (fun h => ?_) (fun h => ?_)
  · refine RdR.mk (by repeat (first | exact Ent.refl _ | apply Ent.cons | apply Ent.skip | apply Ent.prep | apply Ent.skips)) ?_
    rw [decide_eq_false]
    rintro e
    simp only [Tb.mk.injEq] at e
    rcases h with h | h
    · exact h e.1
    · exact h (by rw [e.2])
  · have hn : na = nb := Classical.byContradiction fun e => h (.inl e)
    have hl : wa.length = wb.length := Classical.byContradiction fun e => h (.inr e)
    refine ⟨fun vs H => ∃ j : Nat, vs = [.int .i64 (j : Int)] ∧ H = (b3, .cells (Value.cells (.agg #[.int .i64 nb, s2])) 42 (0, 0)) :: (b1, .cells (Value.cells (.agg #[.int .i64 na, s1])) 42 (0, 0)) :: B ∧ j ≤ wa.length ∧ ∀ i, i < j → wa[i]? = wb[i]?,
      fun vs _ => wa.length - nAt vs 0, JE.mk ⟨0, rfl, rfl, by omega, by omega⟩, ?_⟩
    rintro w H ⟨j, hv, rfl, hj, hall⟩ gs
    simp only [List.cons.injEq, and_true] at hv
    subst hv
    refine FAddr.mk (Ld.mk (by repeat (first | assumption | exact List.Mem.head _ | apply List.Mem.tail | apply List.mem_append_right)) rfl ?_)
    refine hs1.lenS ?_
    rw [iw_length]
    refine Bin.ltN (Br.dec (fun hlt => ?_) (fun hlt => ?_))
    · have ga : wa[j]? = some wa[j] := List.getElem?_eq_getElem hlt
      have gb : wb[j]? = some wb[j] := List.getElem?_eq_getElem (by omega)
      refine FAddr.mk (Ld.mk (by repeat (first | assumption | exact List.Mem.head _ | apply List.Mem.tail | apply List.mem_append_right)) rfl ?_)
      refine hs1.ld (iw_get ga) (fun _ h => by repeat (first | exact h | apply List.mem_cons_of_mem | apply List.mem_append_right)) ?_
      refine FAddr.mk (Ld.mk (by repeat (first | assumption | exact List.Mem.head _ | apply List.Mem.tail | apply List.mem_append_right)) rfl ?_)
      refine hs2.ld (iw_get gb) (fun _ h => by repeat (first | exact h | apply List.mem_cons_of_mem | apply List.mem_append_right)) ?_
      refine Bin.neN (Br.dec (fun hne => ?_) (fun hne => ?_))
      · refine RdR.mk (by repeat (first | exact Ent.refl _ | apply Ent.cons | apply Ent.skip | apply Ent.prep | apply Ent.skips)) ?_
        rw [decide_eq_false]
        rintro e
        simp only [Tb.mk.injEq] at e
        obtain ⟨_, rfl⟩ := e
        exact hne rfl
      · refine Bin.addN (b := 1) (by simp [lim]; omega) ?_
        refine Back.mk ⟨j + 1, rfl, rfl, by omega, fun i hi => ?_⟩ (by simp [nAt]; omega)
        by_cases e : i = j
        · subst e; rw [ga, gb]; simp; omega
        · exact hall i (by omega)
    · refine RdR.mk (by repeat (first | exact Ent.refl _ | apply Ent.cons | apply Ent.skip | apply Ent.prep | apply Ent.skips)) ?_
      rw [decide_eq_true]
      simp only [Tb.mk.injEq]
      refine ⟨hn, List.ext_getElem? fun i => ?_⟩
      by_cases hi : i < wa.length
      · exact hall i (by omega)
      · rw [List.getElem?_eq_none (by omega), List.getElem?_eq_none (by omega)]
/-- bools in a block -/
def bcells (l : List Bool) : Array Value := (l.map Value.bool).toArray
theorem bcells_set (l : List Bool) (i : Nat) (b : Bool) : (bcells l).setIfInBounds i (.bool b) = bcells (l.set i b) := by simp [bcells, List.map_set]
theorem made_bools (n : Nat) : madeCells (Value.cells (.bool false)) (n * 1) = bcells (List.replicate n false) := by
  apply Array.ext
  · simp [madeCells, bcells]
  · intro i h1 h2
    simp [madeCells, bcells, Value.cells, Nat.mod_one]
def Bools (B : Hp) (v : Value) (l : List Bool) : Prop := Sl 1 B v (l.map fun b => [Value.bool b])
theorem Bools.block {B : Hp} {b cap : Nat} {l : List Bool} {T : TypeId} {fz : Nat × Nat} (hm : (b, Obj.cells (bcells l) T fz) ∈ B) (hc : l.length ≤ cap) : Bools B (.slice (some ⟨b, 0, none⟩) l.length cap) l := by
  refine ⟨fun r hr => by obtain ⟨b, _, rfl⟩ := List.mem_map.1 hr; rfl, .inr ⟨b, 0, cap, _, T, fz, by simp, by simpa using hc, hm, by simp [bcells], fun i r hi j v hj => ?_⟩⟩
  rw [List.getElem?_map] at hi
  cases hl : l[i]? with
  | none => rw [hl] at hi; simp at hi
  | some n =>
    rw [hl] at hi
    simp only [Option.map_some, Option.some.injEq] at hi
    subst hi
    cases j with
    | zero =>
      simp only [List.getElem?_cons_zero, Option.some.injEq] at hj
      subst hj
      simp [bcells, hl]
    | succ j => simp at hj
theorem Bools.mono {B B' : Hp} {v : Value} {l : List Bool} (h : Bools B v l) (hs : ∀ x ∈ B, x ∈ B') : Bools B' v l := Sl.mono h hs
theorem Bools.lenS {B : Hp} {v : Value} {l : List Bool} (h : Bools B v l) {K : Value → Prop} (hk : K (.int .i64 l.length)) : LenS v K := Sl.lenS h (by simpa using hk)
theorem Bools.ld {kd : IntKind} {B H : Hp} {v : Value} {l : List Bool} (h : Bools B v l) {i : Nat} {b : Bool} (hi : l[i]? = some b) (hs : ∀ x ∈ B, x ∈ H) {K : Value → Prop} (hk : K (.bool b)) : IAddr 1 v (.int kd (i : Int)) (fun p => Ld H p K) :=
  IAddr.sl h (by rw [List.getElem?_map, hi]; rfl) fun p hp => Ld.at hp hs hk
theorem MkSlice.bools {H : Hp} {T : TypeId} {kl : IntKind} {n : Nat} {K : Value → Hp → Prop} (hmax : n ≤ 281474976710656)
    (h : ∀ b, K (.slice (some ⟨b, 0, none⟩) n n) ((b, .cells (bcells (List.replicate n false)) T (0, 0)) :: H)) : MkSlice T 1 1 (.bool false) H (.int kl n) (.int kl n) K :=
  ⟨kl, kl, n, n, rfl, rfl, Nat.le_refl _, by omega, by omega, fun b _ => by rw [made_bools]; exact h b⟩
theorem St.bools {H : Hp} {b i : Nat} {l : List Bool} {x : Bool} {T : TypeId} {H' : Hp} {K : Hp → Prop} (hu : Upd b (.cells (bcells l) T (0, 0)) (.cells (bcells (l.set i x)) T (0, 0)) H H') (hi : i < l.length) (h : K H') :
    St 1 H (.pointer (some ⟨b, 0 + i * 1, none⟩)) (.bool x) K :=
  St.one (c := bcells l) (c' := bcells (l.set i x)) hu rfl (by simpa [bcells] using hi) (by rw [Nat.zero_add, Nat.mul_one]; exact bcells_set l i x) h
def fillAt (n : Nat) (bs : List Bool) (k : Nat) : List Nat := (List.range (Tab.wN n)).map fun i => Tab.wordP bs i (min 64 (k - 64 * i))
theorem fillAt_lt {n : Nat} {bs : List Bool} {k : Nat} : ∀ w ∈ fillAt n bs k, w < 18446744073709551616 := fun w hw => by
  obtain ⟨i, _, rfl⟩ := List.mem_map.1 hw
  exact Nat.lt_of_lt_of_le (Tab.wordP_lt bs i _) (Nat.pow_le_pow_right (n := 2) (by decide) (by omega : min 64 (k - 64 * i) ≤ 64))
theorem fillAt_skip {n k : Nat} {bs : List Bool} (h : bs.getD k false = false) : fillAt n bs (k + 1) = fillAt n bs k := by
  apply List.map_congr_left
  intro i _
  by_cases hi : 64 * i ≤ k ∧ k < 64 * i + 64
  · rw [show min 64 (k + 1 - 64 * i) = (k - 64 * i) + 1 by omega, show min 64 (k - 64 * i) = k - 64 * i by omega, Tab.wordP, show 64 * i + (k - 64 * i) = k by omega, h]; simp
  · rw [show min 64 (k + 1 - 64 * i) = min 64 (k - 64 * i) by omega]
theorem fillAt_set {n k : Nat} {bs : List Bool} (h : bs.getD k false = true) (hk : k / 64 < Tab.wN n) : (fillAt n bs k)[k / 64]? = some (Tab.wordP bs (k / 64) (k % 64)) ∧ (fillAt n bs k).set (k / 64) (Tab.wordP bs (k / 64) (k % 64) + 2 ^ (k % 64)) = fillAt n bs (k + 1) := by
  have e : min 64 (k - 64 * (k / 64)) = k % 64 := by omega
  refine ⟨by simp [fillAt, hk, e], ?_⟩
  apply List.ext_getElem?
  intro j
  by_cases hj : j = k / 64
  · subst hj
    rw [List.getElem?_set_self (by simp [fillAt, hk])]
    simp only [fillAt, List.getElem?_map, List.getElem?_range hk, Option.map_some, Option.some.injEq]
    rw [show min 64 (k + 1 - 64 * (k / 64)) = k % 64 + 1 by omega]
    exact Tab.wordP_add (by rw [show 64 * (k / 64) + k % 64 = k by omega]; exact h)
  · rw [List.getElem?_set_ne (Ne.symm hj)]
    by_cases hlt : j < Tab.wN n
    · simp only [fillAt, List.getElem?_map, List.getElem?_range hlt, Option.map_some, Option.some.injEq]
      rw [show min 64 (k + 1 - 64 * j) = min 64 (k - 64 * j) by omega]
    · rw [List.getElem?_eq_none (by simp [fillAt]; omega), List.getElem?_eq_none (by simp [fillAt]; omega)]
theorem fill_ok {n : Nat} (hn : n ≤ 16) {B : Hp} {v : Value} {bs : List Bool} (hb : Bools B v bs) (hl : bs.length ≤ 64 * Tab.wN n) (hn' : bs.length ≤ 64 * Tab.wN n) :
    Px Try.prog 75 #[.int .i64 (n : Int), v] B (fun v H => Tbl H v ⟨n, Tab.fillW n (bs)⟩) := by
  intro g
  have hwl := Tab.wN_le hn
  refine L75_sound (R := FnR _) ?_
  unfold L75
  intro b1 _
  refine CallF.rd (.cons .here) (rwords_ok hn B) ?_
  rintro v rfl
  refine MkSlice.ints (bytesW hn).1 (bytesW hn).2 fun bw => ?_
  refine Build.mk (cs := [.int .i64 (n : Int), .slice (some ⟨bw, 0, none⟩) (Tab.wN n) (Tab.wN n)]) (by kernel_rfl) ?_
  intro b8 _
  refine St.whole (r := [.int .i64 (n : Int), .slice (some ⟨bw, 0, none⟩) (Tab.wN n) (Tab.wN n)]) (by exact Upd.head _) rfl rfl (by simp [Value.oneCell']) ?_
  refine ⟨fun vs H => ∃ k : Nat, vs = [.int .i64 (k : Int)] ∧ k ≤ bs.length ∧ H = (b8, .cells (List.toArray [.int .i64 (n : Int), .slice (some ⟨bw, 0, none⟩) (Tab.wN n) (Tab.wN n)]) 42 (0, 0)) ::
      (bw, .cells (icells .u64 (iw (fillAt n bs k))) 33 (0, 0)) :: (b1, .cells #[.int .i64 0, .slice none 0 0] 42 (0, 0)) :: B,
    fun vs _ => bs.length - nAt vs 0, JE.mk ⟨0, rfl, by omega, ?_⟩, ?_⟩
  · have : List.replicate (Tab.wN n) (0 : Int) = iw (fillAt n bs 0) := by
      apply List.ext_getElem?
      intro j
      unfold iw fillAt
      by_cases hj : j < Tab.wN n
      · simp [hj, Tab.wordP]
      · rw [List.getElem?_eq_none (by simp; omega), List.getElem?_eq_none (by simp; omega)]
    rw [this]
  rintro w H ⟨k, hv, hk, rfl⟩ gs
  simp only [List.cons.injEq, and_true] at hv
  subst hv
  refine hb.lenS (Bin.ltN (Br.dec (fun hlt => ?_) (fun hlt => ?_)))
  · intro J hJ
    have hg : bs[k]? = some bs[k] := List.getElem?_eq_getElem hlt
    have hgd : bs.getD k false = bs[k] := by rw [List.getD_eq_getElem?_getD, hg]; rfl
    refine hb.ld hg (fun _ h => by repeat (first | exact h | apply List.mem_cons_of_mem | apply List.mem_append_right)) ?_
    cases hbk : bs[k]
    · refine Br.no (JE.mk (hJ _ fun gs => ?_))
      refine Bin.addN (b := 1) (by simp [lim]; omega) ?_
      exact Back.mk ⟨k + 1, rfl, by omega, by rw [fillAt_skip (by rw [hgd, hbk])]⟩ (by simp [nAt]; omega)
    · obtain ⟨f1, f2⟩ := fillAt_set (n := n) (k := k) (bs := bs) (by rw [hgd, hbk]) (by omega)
      refine Br.yes (DR.self ?_)
      refine FAddr.mk (Ld.mk (by repeat (first | assumption | exact List.Mem.head _ | apply List.Mem.tail | apply List.mem_append_right)) rfl ?_)
      refine Bin.divN (b := 64) (by simp [lim]; omega) (by decide) ?_
      have hlen : (fillAt n bs k).length = Tab.wN n := by simp [fillAt]
      refine IAddr.nat (by omega) ?_
      refine Ld.mk (v := .int .u64 ((Tab.wordP bs (k / 64) (k % 64) : Nat) : Int)) (by exact .tail _ (.head _)) ?_ ?_
      · simp only [icells, Nat.zero_add, Nat.mul_one, List.getElem?_toArray, List.getElem?_map, iw_get f1, Option.map_some]
      refine Bin.modN (b := 64) (by decide) ?_
      refine Bin.shlU (a := 1) ?_
      have h2 : 2 ^ (k % 64) < 18446744073709551616 := Nat.pow_lt_pow_right (a := 2) (n := 64) (by decide) (Nat.mod_lt _ (by decide))
      rw [Nat.one_shiftLeft, Nat.mod_eq_of_lt h2]
      have h3 := Tab.wordP_lt bs (k / 64) (k % 64 + 1)
      have h4 : 2 ^ (k % 64 + 1) ≤ 18446744073709551616 := Nat.pow_le_pow_right (n := 2) (by decide) (by have := Nat.mod_lt k (by decide : 64 > 0); omega : k % 64 + 1 ≤ 64)
      rw [← Tab.wordP_add (by rw [show 64 * (k / 64) + k % 64 = k by omega, hgd, hbk])] at h3
      refine Bin.addN (by simp only [lim]; omega) ?_
      refine IAddr.nat (by omega) ?_
      refine St.ints (l := iw (fillAt n bs k)) (by exact .tail (.head _)) (by simp; omega) ?_
      have e : (iw (fillAt n bs k)).set (k / 64) ((Tab.wordP bs (k / 64) (k % 64) + 2 ^ (k % 64) : Nat) : Int) = iw (fillAt n bs (k + 1)) := by rw [← f2]; simp [iw, List.map_set]
      rw [e]
      refine JE.mk (hJ _ fun gs => ?_)
      refine Bin.addN (b := 1) (by simp [lim]; omega) ?_
      exact Back.mk ⟨k + 1, rfl, by omega, rfl⟩ (by simp [nAt]; omega)
  · have : k = bs.length := by omega
    subst this
    have hfin : fillAt n bs bs.length = Tab.fillW n bs := by
      apply List.map_congr_left
      intro i _
      apply Nat.eq_of_testBit_eq; intro j
      rw [Tab.testBit_wordP, Tab.testBit_wordP]
      by_cases h1 : 64 * i + j < bs.length
      · by_cases h2 : j < 64
        · rw [show decide (j < min 64 (bs.length - 64 * i)) = true by simp; omega, show decide (j < 64) = true by simpa using h2]
        · rw [show decide (j < min 64 (bs.length - 64 * i)) = false by simp; omega, show decide (j < 64) = false by simpa using h2]
      · have : bs.getD (64 * i + j) false = false := by rw [List.getD_eq_getElem?_getD, List.getElem?_eq_none (by omega)]; rfl
        rw [this]; simp
    rw [hfin]
    refine LdA.whole (r := [.int .i64 (n : Int), .slice (some ⟨bw, 0, none⟩) (Tab.wN n) (Tab.wN n)]) (by exact List.Mem.head _) rfl ?_
    refine St.whole (r := [.int .i64 (n : Int), .slice (some ⟨bw, 0, none⟩) (Tab.wN n) (Tab.wN n)]) (by exact .tail (.tail (.head _))) rfl rfl (by simp [Value.oneCell']) ?_
    refine LdA.whole (r := [.int .i64 (n : Int), .slice (some ⟨bw, 0, none⟩) (Tab.wN n) (Tab.wN n)]) (by exact .tail _ (.tail _ (.head _))) rfl ?_
    refine PxR.mk (by repeat (first | exact Grow.refl _ | apply Grow.cons | apply Grow.app)) ⟨_, rfl, ?_⟩
    have hlt : ∀ w ∈ Tab.fillW n bs, w < 18446744073709551616 := by rw [← hfin]; exact fillAt_lt
    have := Words.block (b := bw) (cap := Tab.wN n) (ws := Tab.fillW n bs) (T := 33) (fz := (0, 0)) (B := (b8, .cells (List.toArray [.int .i64 (n : Int), .slice (some ⟨bw, 0, none⟩) (Tab.wN n) (Tab.wN n)]) 42 (0, 0)) ::
      (bw, .cells (icells .u64 (iw (Tab.fillW n bs))) 33 (0, 0)) :: (b1, .cells (List.toArray [.int .i64 (n : Int), .slice (some ⟨bw, 0, none⟩) (Tab.wN n) (Tab.wN n)]) 42 (0, 0)) :: B) (by exact .tail _ (.head _)) (by simp [Tab.fillW]) hlt
    simpa [Tab.fillW] using this

end Go.Proofs
set_option linter.unusedVariables false
set_option linter.unusedSimpArgs false
set_option maxRecDepth 100000
namespace Go.Proofs
open Go Go.Sx
def varB (n v : Nat) : List Bool := (List.range (2 ^ n)).map fun x => x.testBit v
theorem varset {W v i : Nat} (hi : i < W) : ((List.range W).map fun k => if k < i then k.testBit v else false).set i (i.testBit v) = (List.range W).map fun k => if k < i + 1 then k.testBit v else false := by
  apply List.ext_getElem?
  intro j
  by_cases e : i = j
  · subst e; simp [hi]
  · rw [List.getElem?_set_ne e]
    by_cases hj : j < W
    · simp only [List.getElem?_map, List.getElem?_range hj, Option.map_some]
      by_cases h2 : j < i
      · rw [if_pos h2, if_pos (by omega)]
      · rw [if_neg h2, if_neg (by omega)]
    · rw [List.getElem?_eq_none (by simp; omega), List.getElem?_eq_none (by simp; omega)]
theorem pow_words {n : Nat} : 2 ^ n ≤ 64 * Tab.wN n := by
  by_cases h : 6 ≤ n
  · rw [Tab.wN_ge h]
    have : 2 ^ n = 64 * 2 ^ (n - 6) := by rw [show (64 : Nat) = 2 ^ 6 by rfl, ← Nat.pow_add]; congr 1; omega
    omega
  · have h1 : 2 ^ n ≤ 32 := Nat.pow_le_pow_right (n := 2) (by decide) (by omega : n ≤ 5)
    have := Tab.wN_pos n; omega
theorem var_ok {n v : Nat} (hn : n ≤ 16) (hv : v < 64) (B : Hp) : Px Try.prog 74 #[.int .i64 (n : Int), .int .i64 (v : Int)] B (fun r H => Tbl H r ⟨n, Tab.fillW n (varB n v)⟩) := by
  intro g
  have hp : 2 ^ n ≤ 65536 := Nat.pow_le_pow_right (n := 2) (by decide) hn
  refine L74_sound (R := FnR _) ?_
  unfold L74
  intro b1 _
  refine Bin.shlN (a := 1) (by simp [IntKind.bits]; omega) (by rw [Nat.one_shiftLeft]; simp [lim]; omega) ?_
  rw [Nat.one_shiftLeft]
  refine MkSlice.bools (by omega) fun b2 => ?_
  have e0 : List.replicate (2 ^ n) false = (List.range (2 ^ n)).map fun k => if k < 0 then k.testBit v else false := by
    apply List.ext_getElem?
    intro j
    by_cases hj : j < 2 ^ n
    · simp [hj]
    · rw [List.getElem?_eq_none (by simp; omega), List.getElem?_eq_none (by simp; omega)]
  rw [e0]
  refine ⟨fun vs H => ∃ k : Nat, vs = [.int .i64 (k : Int)] ∧ k ≤ 2 ^ n ∧ H = (b1, .cells #[.int .i64 0, .slice none 0 0] 42 (0, 0)) :: (b2, .cells (bcells ((List.range (2 ^ n)).map fun j => if j < k then j.testBit v else false)) 4 (0, 0)) :: B,
    fun vs _ => 2 ^ n - nAt vs 0, JE.of .swap ⟨0, rfl, Nat.zero_le _, rfl⟩, ?_⟩
  rintro w H ⟨k, hv, hk, rfl⟩ gs
  simp only [List.cons.injEq, and_true] at hv
  subst hv
  refine LenS.mk (Bin.ltN (Br.dec (fun hlt => ?_) (fun hlt => ?_)))
  · refine Bin.shrN (by simp [lim]; omega) (Bin.modN (b := 2) (by decide) (Bin.eqN (b := 1) ?_))
    have e1 : decide ((k >>> v) % 2 = 1) = k.testBit v := by
      cases hb : k.testBit v
      · rw [decide_eq_false]; rw [Tab.bit_mod, hb]; simp
      · rw [decide_eq_true]; rw [Tab.bit_mod, hb]
    rw [e1]
    refine IAddr.nat hlt ?_
    refine St.bools (l := (List.range (2 ^ n)).map fun j => if j < k then j.testBit v else false) (by exact .tail (.head _)) (by simpa using hlt) ?_
    rw [varset hlt]
    refine Bin.addN (b := 1) (by simp [lim]; omega) ?_
    exact Back.mk ⟨k + 1, rfl, by omega, rfl⟩ (by simp [nAt]; omega)
  · have : k = 2 ^ n := by omega
    subst this
    have e2 : ((List.range (2 ^ n)).map fun j => if j < 2 ^ n then j.testBit v else false) = varB n v := List.map_congr_left fun k hk => by rw [if_pos (List.mem_range.1 hk)]
    rw [e2]
    have hlen : (varB n v).length = 2 ^ n := by simp [varB]
    have hB := Bools.block (b := b2) (cap := 2 ^ n) (l := varB n v) (T := 4) (fz := (0, 0)) (B := (b2, .cells (bcells (varB n v)) 4 (0, 0)) :: B) (.head _) (by omega)
    rw [hlen] at hB
    refine CallF.px (.cons .here) (fill_ok hn hB (by rw [hlen]; exact pow_words) (by rw [hlen]; exact pow_words)) ?_
    rintro r N ⟨s, rfl, hw⟩
    have hone := oneCell_words hw
    refine St.whole (r := [.int .i64 (n : Int), s]) (by exact .head _) rfl rfl (by simpa [Value.oneCell'] using hone) ?_
    refine LdA.whole (r := [.int .i64 (n : Int), s]) (by exact .head _) rfl ?_
    exact PxR.mk (by repeat (first | exact Grow.refl _ | apply Grow.cons | apply Grow.app)) ⟨s, rfl, hw.mono (fun _ h => by repeat (first | exact h | apply List.mem_cons_of_mem | apply List.mem_append_right))⟩
theorem var6_ok {v : Nat} (hv : v < 6) (B : Hp) : Px Try.prog 74 #[.int .i64 6, .int .i64 (v : Int)] B (fun r H => Tbl H r ⟨6, [Tab.mask v]⟩) :=
  (var_ok (n := 6) (by decide) (by omega) B).mono fun r H ⟨h1, h2⟩ => ⟨h1, by
    have e : Tab.fillW 6 (varB 6 v) = [Tab.mask v] := by
      have : Tab.wN 6 = 1 := rfl
      simp only [Tab.fillW, this, List.range_one, List.map_cons, List.map_nil, List.cons.injEq, and_true]
      exact Tab.mask_fill v
    rw [e] at h2; exact h2⟩
theorem cofset {n u i : Nat} {ws : List Nat} {c : Bool} (hf : Tab.Frm n ws) (hu : u < n) (hi : i < Tab.wN n) :
    (iw ((List.range (Tab.wN n)).map fun k => if k < i then Tab.halfW ws u c k &&& Tab.fullN n else 0)).set i ((Tab.halfW ws u c i : Nat) : Int) = iw ((List.range (Tab.wN n)).map fun k => if k < i + 1 then Tab.halfW ws u c k &&& Tab.fullN n else 0) := by
  have := range_set (G := fun k => Tab.halfW ws u c k &&& Tab.fullN n) hi
  rw [Tab.halfW_full hf hu hi] at this
  exact this
/-- the heap of Cof in its loops -/
def cofH (b15 bw b3 b1 n u i : Nat) (s : Value) (ws : List Nat) (c : Bool) (B : Hp) : Hp :=
  (b15, .cells (List.toArray [.int .i64 (n : Int), .slice (some ⟨bw, 0, none⟩) (Tab.wN n) (Tab.wN n)]) 42 (0, 0)) ::
        (bw, .cells (icells .u64 (iw ((List.range (Tab.wN n)).map fun k => if k < i then Tab.halfW ws u c k &&& Tab.fullN n else 0))) 33 (0, 0)) :: (b3, .cells #[.int .i64 0, .slice none 0 0] 42 (0, 0)) :: (b1, .cells (Value.cells (.agg #[.int .i64 (n : Int), s])) 42 (0, 0)) :: B
theorem rcof_ok {B : Hp} {v : Value} {n u : Nat} {ws : List Nat} {c : Bool} (ht : Tbl B v ⟨n, ws⟩) (hf : Tab.Frm n ws) (hu : u < n) :
    Px Try.prog 71 #[v, .int .i64 (u : Int), .bool c] B (fun v H => Tbl H v ⟨n, Tab.cof n ws u c⟩) := by
  obtain ⟨s, rfl, hs, hw⟩ := ht
  simp only at hs hw
  have hn := hf.n16
  have hwl := Tab.wN_le hn
  have hwsl := hf.len
  have hgs : ∀ j, j < Tab.wN n → ws[j]? = some (ws.getD j 0) := fun j hj => by rw [List.getElem?_eq_getElem (by omega), List.getD_eq_getElem?_getD, List.getElem?_eq_getElem (by omega)]; rfl
  have hgl : ∀ j, j < Tab.wN n → ws.getD j 0 < 18446744073709551616 := fun j hj => hw _ (List.mem_of_getElem? (hgs j hj))
  intro g
  refine L71_sound (R := FnR _) ?_
  unfold L71
  intro b1 _ b3 _
  refine DR.self ?_
  refine FAddr.mk (Ld.mk (by repeat (first | assumption | exact List.Mem.head _ | apply List.Mem.tail | apply List.mem_append_right)) rfl ?_)
  refine FAddr.mk (Ld.mk (by repeat (first | assumption | exact List.Mem.head _ | apply List.Mem.tail | apply List.mem_append_right)) rfl ?_)
  refine hs.lenS ?_
  rw [iw_length, hf.len]
  intro F
  refine MkSlice.ints (bytesW hn).1 (bytesW hn).2 fun bw => ⟨.tail, ?_⟩
  refine Build.mk (cs := [.int .i64 (n : Int), .slice (some ⟨bw, 0, none⟩) (Tab.wN n) (Tab.wN n)]) (by kernel_rfl) ?_
  intro b15 _ F
  refine St.whole (r := [.int .i64 (n : Int), .slice (some ⟨bw, 0, none⟩) (Tab.wN n) (Tab.wN n)]) (by exact Upd.head _) rfl rfl (by simp [Value.oneCell']) ?_
  rw [range_zero (G := fun k => Tab.halfW ws u c k &&& Tab.fullN n)]
  have hend : ∀ N : Hp, FnR (fun v H => Grow B H ∧ Tbl H v ⟨n, Tab.cof n ws u c⟩) (.returned (.agg (List.toArray [.int .i64 (n : Int), .slice (some ⟨bw, 0, none⟩) (Tab.wN n) (Tab.wN n)])))
      (N ++ (bw, .cells (icells .u64 (iw (Tab.cof n ws u c))) 33 (0, 0)) :: B) := fun N => by
    refine PxR.mk (by repeat (first | exact Grow.refl _ | apply Grow.cons | apply Grow.app)) ⟨_, rfl, ?_⟩
    have := Words.block (b := bw) (cap := Tab.wN n) (ws := Tab.cof n ws u c) (T := 33) (fz := (0, 0)) (B := N ++ (bw, .cells (icells .u64 (iw (Tab.cof n ws u c))) 33 (0, 0)) :: B) (by exact List.mem_append_right _ (.head _)) (by simp [Tab.cof]) (fun w hw => (Tab.frm_cof hn).lt hw)
    simpa [Tab.cof] using this
  have hlast : ∀ N : Hp, LdA 2 (cofH b15 bw b3 b1 n u (Tab.wN n) s ws c (N ++ B)) (.pointer (some ⟨b15, 0, none⟩)) fun v50 => St 2 (cofH b15 bw b3 b1 n u (Tab.wN n) s ws c (N ++ B)) (.pointer (some ⟨b3, 0, none⟩)) v50 fun H51 =>
      LdA 2 H51 (.pointer (some ⟨b3, 0, none⟩)) fun v52 => FnR (fun v H => Grow B H ∧ Tbl H v ⟨n, Tab.cof n ws u c⟩) (.returned v52) H51 := fun N => by
    unfold cofH
    rw [range_done]
    refine LdA.whole (r := [.int .i64 (n : Int), .slice (some ⟨bw, 0, none⟩) (Tab.wN n) (Tab.wN n)]) (by exact List.Mem.head _) rfl ?_
    refine St.whole (r := [.int .i64 (n : Int), .slice (some ⟨bw, 0, none⟩) (Tab.wN n) (Tab.wN n)]) (by exact .tail (.tail (.head _))) rfl rfl (by simp [Value.oneCell']) ?_
    refine LdA.whole (r := [.int .i64 (n : Int), .slice (some ⟨bw, 0, none⟩) (Tab.wN n) (Tab.wN n)]) (by exact .tail _ (.tail _ (.head _))) rfl ?_
    obtain ⟨v, H, h1, h2, h3⟩ := hend []
    exact ⟨v, H, h1, .skip (Ent.trans (.cons (.skip (.skip .right))) h2), h3⟩
  refine Bin.geN (a := u) (b := 6) (Br.dec (fun h6 => ?_) (fun h6 => ?_))
  · have hp : 2 ^ (u - 6) ≤ 1024 := Nat.pow_le_pow_right (n := 2) (by decide) (by omega : u - 6 ≤ 10)
    have hp0 := Nat.two_pow_pos (u - 6)
    refine Bin.subN (b := 6) (by simp [lim]; omega) h6 ?_
    refine Bin.shlN (a := 1) (by simp [IntKind.bits]; omega) (by rw [Nat.one_shiftLeft]; simp [lim]; omega) ?_
    rw [Nat.one_shiftLeft]
    refine ⟨fun vs H => ∃ i : Nat, vs = [.int .i64 (i : Int)] ∧ i ≤ Tab.wN n ∧ H = cofH b15 bw b3 b1 n u i s ws c ([] ++ B), fun vs _ => Tab.wN n - nAt vs 0, JE.mk ⟨0, rfl, Nat.zero_le _, rfl⟩, ?_⟩
    rintro w H ⟨i, hv, hi, rfl⟩ gs
    simp only [List.cons.injEq, and_true] at hv
    subst hv
    by_cases hlt : i < Tab.wN n
    · unfold cofH
      refine FAddr.mk (Ld.mk (by repeat (first | assumption | exact List.Mem.head _ | apply List.Mem.tail | apply List.mem_append_right)) rfl ?_)
      refine hs.lenS ?_
      rw [iw_length, hf.len]
      refine Bin.ltN (Br.decT hlt ?_)
      obtain ⟨sd1, sd2⟩ := Tab.setb_div i (u - 6)
      have hq : i / 2 ^ (u - 6) ≤ i := Nat.div_le_self _ _
      have hm : i / 2 ^ (u - 6) % 2 * 2 ^ (u - 6) ≤ i := by
        have h1 := Nat.div_add_mod i (2 ^ (u - 6))
        have h2 : i / 2 ^ (u - 6) % 2 * 2 ^ (u - 6) ≤ 2 ^ (u - 6) * (i / 2 ^ (u - 6)) := by rw [Nat.mul_comm]; exact Nat.mul_le_mul_left _ (Nat.mod_le _ _)
        omega
      refine Bin.divN (by simp [lim]; omega) (by omega) (Bin.modN (b := 2) (by decide) ?_)
      refine Bin.mulN (by simp only [lim]; omega) (Bin.subN (by simp [lim]; omega) hm ?_)
      have hset : Tab.setb i (u - 6) c < Tab.wN n := by
        rw [Tab.wN_ge (by omega)] at hlt ⊢
        exact Tab.setb_lt hlt (by omega)
      intro J hJ
      have hfin : JE J [.int .i64 ((Tab.setb i (u - 6) c : Nat) : Int)] (cofH b15 bw b3 b1 n u i s ws c ([] ++ B)) := by
        refine JE.mk (hJ _ _ fun gs => ?_)
        unfold cofH
        refine DR.self ?_
        refine FAddr.mk (Ld.mk (by repeat (first | assumption | exact List.Mem.head _ | apply List.Mem.tail | apply List.mem_append_right)) rfl ?_)
        refine FAddr.mk (Ld.mk (by repeat (first | assumption | exact List.Mem.head _ | apply List.Mem.tail | apply List.mem_append_right)) rfl ?_)
        refine hs.ld (iw_get (hgs _ hset)) (fun _ h => by repeat (first | exact h | apply List.mem_cons_of_mem | apply List.mem_append_right)) ?_
        refine IAddr.nat hlt ?_
        refine St.ints (l := iw _) (by exact .tail (.head _)) (by simpa using hlt) ?_
        have e : Tab.halfW ws u c i = ws.getD (Tab.setb i (u - 6) c) 0 := by unfold Tab.halfW; rw [if_pos h6]
        rw [← e, cofset hf hu hlt]
        refine Bin.addN (b := 1) (by simp [lim]; omega) ?_
        exact Back.mk ⟨i + 1, rfl, by omega, rfl⟩ (by simp [nAt]; omega)
      unfold cofH at hfin
      cases c
      · refine Br.no ?_
        rw [sd1]; exact hfin
      · refine Br.yes ?_
        refine Bin.addN (by simp only [lim]; omega) ?_
        rw [sd2]; exact hfin
    · have : i = Tab.wN n := by omega
      subst this
      have := hlast []
      unfold cofH at this ⊢
      refine FAddr.mk (Ld.mk (by repeat (first | assumption | exact List.Mem.head _ | apply List.Mem.tail | apply List.mem_append_right)) rfl ?_)
      refine hs.lenS ?_
      rw [iw_length, hf.len]
      exact Bin.ltN (Br.decF hlt this)
  · have hp : 2 ^ u ≤ 32 := Nat.pow_le_pow_right (n := 2) (by decide) (by omega : u ≤ 5)
    have hm := Tab.mask_lt u
    refine CallF.px (B := B) (.cons (.cons (.cons (.cons .here)))) (var6_ok (by omega) B) ?_
    rintro r N ⟨sm, rfl, hsm, _⟩
    refine Fld.mk rfl ?_
    refine hsm.ld (i := 0) (n := (Tab.mask u : Int)) rfl (fun _ h => by repeat (first | exact h | apply List.mem_cons_of_mem | apply List.mem_append_right)) ?_
    refine ⟨fun vs H => ∃ i : Nat, vs = [.int .i64 (i : Int)] ∧ i ≤ Tab.wN n ∧ H = cofH b15 bw b3 b1 n u i s ws c (N ++ B), fun vs _ => Tab.wN n - nAt vs 0, JE.mk ⟨0, rfl, Nat.zero_le _, rfl⟩, ?_⟩
    rintro w H ⟨i, hv, hi, rfl⟩ gs
    simp only [List.cons.injEq, and_true] at hv
    subst hv
    by_cases hlt : i < Tab.wN n
    · have hback : ∀ J : List Value → Hp → Prop, J [] (cofH b15 bw b3 b1 n u (i + 1) s ws c (N ++ B)) → JE J [] ((b15, .cells (List.toArray [.int .i64 (n : Int), .slice (some ⟨bw, 0, none⟩) (Tab.wN n) (Tab.wN n)]) 42 (0, 0)) ::
        (bw, .cells (icells .u64 ((iw ((List.range (Tab.wN n)).map fun k => if k < i then Tab.halfW ws u c k &&& Tab.fullN n else 0)).set i ((Tab.halfW ws u c i : Nat) : Int))) 33 (0, 0)) :: (b3, .cells #[.int .i64 0, .slice none 0 0] 42 (0, 0)) :: (b1, .cells (Value.cells (.agg #[.int .i64 (n : Int), s])) 42 (0, 0)) :: (N ++ B)) := fun J hJ => by
        rw [cofset hf hu hlt]; exact JE.mk hJ
      unfold cofH
      refine FAddr.mk (Ld.mk (by repeat (first | assumption | exact List.Mem.head _ | apply List.Mem.tail | apply List.mem_append_right)) rfl ?_)
      refine hs.lenS ?_
      rw [iw_length, hf.len]
      refine Bin.ltN (Br.decT hlt ?_)
      intro J hJ
      have hwi := hgl i hlt
      have hfin := hback J (hJ _ fun gs => by
        refine Bin.addN (b := 1) (by simp [lim]; omega) ?_
        exact Back.mk ⟨i + 1, rfl, by omega, rfl⟩ (by simp [nAt]; omega))
      cases c
      · refine Br.no ?_
        refine FAddr.mk (Ld.mk (by repeat (first | assumption | exact List.Mem.head _ | apply List.Mem.tail | apply List.mem_append_right)) rfl ?_)
        refine hs.ld (iw_get (hgs i hlt)) (fun _ h => by repeat (first | exact h | apply List.mem_cons_of_mem | apply List.mem_append_right)) ?_
        refine Bin.andnN (by simpa [lim] using hwi) (by simpa [lim] using hm) ?_
        refine DR.self ?_
        refine FAddr.mk (Ld.mk (by repeat (first | assumption | exact List.Mem.head _ | apply List.Mem.tail | apply List.mem_append_right)) rfl ?_)
        refine Bin.shlU (a := 1) ?_
        rw [Nat.one_shiftLeft, Nat.mod_eq_of_lt (by omega)]
        refine Bin.shlU ?_
        have := andn_le (ws.getD i 0) (Tab.mask u)
        refine Bin.orN (by simp only [lim]; omega) (by simp only [lim]; omega) ?_
        refine IAddr.nat hlt ?_
        refine St.ints (l := iw _) (by exact .tail (.head _)) (by simpa using hlt) ?_
        have e : Tab.halfW ws u false i = andn (ws.getD i 0) (Tab.mask u) ||| (andn (ws.getD i 0) (Tab.mask u) <<< 2 ^ u) % 18446744073709551616 := by unfold Tab.halfW; rw [if_neg h6]; rfl
        rw [← e]; exact hfin
      · refine Br.yes ?_
        refine FAddr.mk (Ld.mk (by repeat (first | assumption | exact List.Mem.head _ | apply List.Mem.tail | apply List.mem_append_right)) rfl ?_)
        refine hs.ld (iw_get (hgs i hlt)) (fun _ h => by repeat (first | exact h | apply List.mem_cons_of_mem | apply List.mem_append_right)) ?_
        refine Bin.andN (by simpa [lim] using hwi) (by simpa [lim] using hm) ?_
        have h1 : ws.getD i 0 &&& Tab.mask u ≤ ws.getD i 0 := Nat.and_le_left
        refine DR.self ?_
        refine FAddr.mk (Ld.mk (by repeat (first | assumption | exact List.Mem.head _ | apply List.Mem.tail | apply List.mem_append_right)) rfl ?_)
        refine Bin.shlU (a := 1) ?_
        rw [Nat.one_shiftLeft, Nat.mod_eq_of_lt (by omega)]
        refine Bin.shrN (by simp only [lim]; omega) ?_
        have h2 := Nat.shiftRight_le (ws.getD i 0 &&& Tab.mask u) (2 ^ u)
        refine Bin.orN (by simp only [lim]; omega) (by simp only [lim]; omega) ?_
        refine IAddr.nat hlt ?_
        refine St.ints (l := iw _) (by exact .tail (.head _)) (by simpa using hlt) ?_
        have e : Tab.halfW ws u true i = (ws.getD i 0 &&& Tab.mask u) ||| (ws.getD i 0 &&& Tab.mask u) >>> 2 ^ u := by unfold Tab.halfW; rw [if_neg h6]; rfl
        rw [← e]; exact hfin
    · have : i = Tab.wN n := by omega
      subst this
      have := hlast N
      unfold cofH at this ⊢
      refine FAddr.mk (Ld.mk (by repeat (first | assumption | exact List.Mem.head _ | apply List.Mem.tail | apply List.mem_append_right)) rfl ?_)
      refine hs.lenS ?_
      rw [iw_length, hf.len]
      exact Bin.ltN (Br.decF hlt this)
theorem depends_ok {B : Hp} {v : Value} {n u : Nat} {ws : List Nat} (ht : Tbl B v ⟨n, ws⟩) (hf : Tab.Frm n ws) (hu : u < n) :
    Rd Try.prog 72 #[v, .int .i64 (u : Int)] B (· = .bool (Tab.dep n ws u)) := by
  obtain ⟨s, rfl, hw⟩ := ht
  intro g
  refine L72_sound (R := FnR _) ?_
  unfold L72
  intro b1 _
  refine DR.self ?_
  refine LdA.whole (r := [.int .i64 (n : Int), s]) (by exact .head _) rfl (LdA.whole (r := [.int .i64 (n : Int), s]) (by exact .head _) rfl ?_)
  refine CallF.px (.cons .here) (rcof_ok (v := .agg (List.toArray [.int .i64 (n : Int), s])) (n := n) (ws := ws) ⟨s, rfl, hw⟩ hf hu) ?_
  rintro v N h1
  refine ⟨.cons .right, ?_⟩
  refine CallF.px (B := N ++ B) (.cons .here) (rcof_ok (v := .agg (List.toArray [.int .i64 (n : Int), s])) (n := n) (ws := ws) ⟨s, rfl, hw.mono (fun _ h => by repeat (first | exact h | apply List.mem_cons_of_mem | apply List.mem_append_right))⟩ hf hu) ?_
  rintro v N' h2
  refine ⟨.cons (.skips .right), ?_⟩
  have f1 := frm_len (Tab.frm_cof (v := u) (ws := ws) (b := false) hf.n16)
  refine CallF.rd (B := N' ++ (N ++ B)) (.cons .here) (same_ok (h1.mono (fun _ h => by repeat (first | exact h | apply List.mem_cons_of_mem | apply List.mem_append_right))) h2 (by simp only; omega)) ?_
  rintro v rfl
  refine ⟨.cons (.skips .right), Un.not ?_⟩
  refine RdR.mk (.skip (.skips .right)) ?_
  congr 1
  simp [Tab.dep]

end Go.Proofs
set_option linter.unusedVariables false
set_option linter.unusedSimpArgs false
set_option maxRecDepth 100000
namespace Go.Proofs
open Go Go.Sx
def tbs (n : Nat) (L : List (List Nat)) : List Tb := L.map fun ws => ⟨n, ws⟩
theorem tbs_length (n : Nat) (L : List (List Nat)) : (tbs n L).length = L.length := by simp [tbs]
theorem tbs_get {n : Nat} {L : List (List Nat)} {i : Nat} {ws : List Nat} (h : L[i]? = some ws) : (tbs n L)[i]? = some ⟨n, ws⟩ := by simp [tbs, h]
theorem tbs_snoc (n : Nat) (L : List (List Nat)) (ws : List Nat) : tbs n L ++ [⟨n, ws⟩] = tbs n (L ++ [ws]) := by simp [tbs]
theorem in_ok {B : Hp} {v1 v2 : Value} {n : Nat} {L : List (List Nat)} {ws : List Nat} (hL : Tbls B v1 (tbs n L)) (hf : ∀ t ∈ L, Tab.Frm n t) (ht : Tbl B v2 ⟨n, ws⟩) (hws : ws.length ≤ 4294967296) (hmax : L.length < 4611686018427387904) :
    Rd Try.prog 70 #[v1, v2] B (· = .bool (decide (ws ∈ L))) := by
  obtain ⟨s, rfl, hw⟩ := ht
  intro g
  refine L70_sound (R := FnR _) ?_
  unfold L70
  intro b1 _
  refine hL.lenS ?_
  rw [tbs_length]
  refine ⟨fun vs H => ∃ (k : Nat) (N : Hp), vs = [.int .i64 (k : Int)] ∧ k ≤ L.length ∧ H = N ++ ((b1, .cells (Value.cells (.agg #[.int .i64 (n : Int), s])) 42 (0, 0)) :: B) ∧ ws ∉ L.take k, fun vs _ => L.length - nAt vs 0, JE.mk ⟨0, [], rfl, by omega, rfl, by simp⟩, ?_⟩
  rintro w H ⟨k, N, hv, hk, rfl, hno⟩ gs
  simp only [List.cons.injEq, and_true] at hv
  subst hv
  refine Bin.ltN (Br.dec (fun hlt => ?_) (fun hlt => ?_))
  · have hg : L[k]? = some L[k] := List.getElem?_eq_getElem hlt
    have hfk := hf L[k] (List.getElem_mem hlt)
    refine hL.ld (tbs_get hg) (fun _ h => by repeat (first | exact h | apply List.mem_cons_of_mem | apply List.mem_append_right)) fun s' hw' => ?_
    have hone := oneCell_words hw'
    intro b2 _
    refine St.whole (r := [.int .i64 (n : Int), s']) (by exact .head _) rfl rfl (by simpa [Value.oneCell'] using hone) ?_
    refine LdA.whole (r := [.int .i64 (n : Int), s]) (by repeat (first | assumption | exact List.Mem.head _ | apply List.Mem.tail | apply List.mem_append_right)) rfl ?_
    refine LdA.whole (r := [.int .i64 (n : Int), s']) (by exact .head _) rfl ?_
    refine CallF.rd .here (same_ok (v1 := .agg (List.toArray [.int .i64 (n : Int), s])) (v2 := .agg (List.toArray [.int .i64 (n : Int), s'])) (a := ⟨n, ws⟩) (b := ⟨n, L[k]⟩) ⟨s, rfl, hw.mono (fun _ h => by repeat (first | exact h | apply List.mem_cons_of_mem | apply List.mem_append_right))⟩ ⟨s', rfl, hw'.mono (fun _ h => by repeat (first | exact h | apply List.mem_cons_of_mem | apply List.mem_append_right))⟩ ?_) ?_
    · simp only; omega
    rintro v rfl
    simp only [Tb.mk.injEq, true_and]
    refine Br.dec (fun h => ?_) (fun h => ?_)
    · exact RdR.mk (.skip (.skips .tail)) (by rw [decide_eq_true]; rw [h]; exact List.getElem_mem hlt)
    · refine Bin.addN (b := 1) (by simp [lim]; omega) ?_
      refine Back.mk ⟨k + 1, _ :: N, rfl, by omega, rfl, ?_⟩ (by simp [nAt]; omega)
      rw [List.take_succ_eq_append_getElem hlt, List.mem_append, List.mem_singleton]
      rintro (h1 | h1)
      · exact hno h1
      · exact h h1
  · have : k = L.length := by omega
    subst this
    rw [List.take_length] at hno
    exact RdR.mk (.skips .tail) (by rw [decide_eq_false hno])
/-- the state of the loops that build a list: the list so far, in memory of its own, ahead of what is there -/
def LSt (n : Nat) (B : Hp) (v : Value) (l : List (List Nat)) (H : Hp) : Prop := ∃ C N, H = C ++ (N ++ B) ∧ TOwn 42 v (tbs n l) C (N ++ B)
theorem LSt.nil (n : Nat) (B : Hp) : LSt n B (.slice none 0 0) [] B := ⟨[], [], rfl, TOwn.nil⟩
theorem LSt.done {n : Nat} {B : Hp} {v : Value} {l : List (List Nat)} {H : Hp} (h : LSt n B v l H) : Grow B H ∧ Tbls H v (tbs n l) := by
  obtain ⟨C, N, rfl, ho⟩ := h
  exact ⟨.app (.app (.refl _)), ho.tbls (fun x hx => List.mem_append_left _ hx) (fun x hx => List.mem_append_right _ hx)⟩
theorem Tab.take_unlike {L : List (List Nat)} {k : Nat} (hlt : k < L.length) : Tab.unlike (L.take (k + 1)) = Tab.add (Tab.unlike (L.take k)) L[k] := by
  rw [List.take_succ_eq_append_getElem hlt, Tab.unlike, List.foldl_append]; rfl
theorem unlike_le (L : List (List Nat)) : (Tab.unlike L).length ≤ L.length := by
  have := Tab.foldl_add_length (fun a l => Tab.add l a) 1 (fun a l => Tab.add_length l a) L []
  simpa [Tab.unlike] using this
theorem runlike_ok {B : Hp} {v : Value} {n : Nat} {L : List (List Nat)} (hL : Tbls B v (tbs n L)) (hf : ∀ t ∈ L, Tab.Frm n t) (hmax : L.length < 4398046511103) :
    Px Try.prog 61 #[v] B (fun r H => Tbls H r (tbs n (Tab.unlike L))) := by
  intro g
  refine L61_sound (R := FnR _) ?_
  unfold L61
  refine hL.lenS ?_
  rw [tbs_length]
  refine ⟨fun vs H => ∃ (k : Nat) (v : Value), vs = [v, .int .i64 (k : Int)] ∧ k ≤ L.length ∧ LSt n B v (Tab.unlike (L.take k)) H, fun vs _ => L.length - nAt vs 1, JE.mk ⟨0, _, rfl, by omega, LSt.nil n B⟩, ?_⟩
  rintro w6 w7 H ⟨k, v, hv, hk, hst⟩ gs
  simp only [List.cons.injEq, and_true] at hv
  obtain ⟨rfl, rfl⟩ := hv
  refine Bin.ltN (Br.dec (fun hlt => ?_) (fun hlt => ?_))
  · intro J hJ
    have hJ' : ∀ v H, LSt n B v (Tab.unlike (L.take (k + 1))) H → J [v] H := fun v H h => hJ _ _ fun gs => by
      refine Bin.addN (b := 1) (by simp [lim]; omega) ?_
      exact Back.mk ⟨k + 1, v, rfl, by omega, h⟩ (by simp [nAt]; omega)
    obtain ⟨C, N, rfl, ho⟩ := hst
    have hg : L[k]? = some L[k] := List.getElem?_eq_getElem hlt
    have hfk := hf L[k] (List.getElem_mem hlt)
    have hul := unlike_le (L.take k)
    simp only [List.length_take] at hul
    refine hL.ld (tbs_get hg) (fun x hx => List.mem_append_right _ (List.mem_append_right _ hx)) fun s' hw' => ?_
    have hone := oneCell_words hw'
    intro b2 _
    refine St.whole (r := [.int .i64 (n : Int), s']) (by exact .head _) rfl rfl (by simpa [Value.oneCell'] using hone) ?_
    refine LdA.whole (r := [.int .i64 (n : Int), s']) (by exact .head _) rfl ?_
    refine CallF.rd (B := C ++ (N ++ B)) (.cons .here) (in_ok (v2 := .agg (List.toArray [.int .i64 (n : Int), s'])) (n := n) (L := Tab.unlike (L.take k)) (ws := L[k]) (ho.tbls (fun x hx => List.mem_append_left _ hx) (fun x hx => List.mem_append_right _ hx)) (fun t ht => hf t (List.mem_of_mem_take (Tab.mem_unlike.1 ht))) ⟨s', rfl, hw'.mono (fun _ h => by repeat (first | exact h | apply List.mem_cons_of_mem | apply List.mem_append_right))⟩ (frm_len hfk) (by omega)) ?_
    rintro v rfl
    refine Un.not ?_
    rw [Tab.take_unlike hlt, Tab.add] at hJ'
    by_cases hin : L[k] ∈ Tab.unlike (L.take k)
    · rw [decide_eq_true hin]
      rw [if_pos hin] at hJ'
      exact Br.no (JE.of .tail (hJ' _ _ ⟨C, N, rfl, ho⟩))
    · rw [decide_eq_false hin]
      rw [if_neg hin] at hJ'
      refine Br.yes ?_
      refine LdA.whole (r := [.int .i64 (n : Int), s']) (by exact .head _) rfl ?_
      refine buildOne fun xb => ?_
      refine ho.app (A := [_, _]) (t := ⟨n, L[k]⟩) (s := s') (by exact .head _) (hw'.mono (fun _ h => by repeat (first | exact h | apply List.mem_cons_of_mem | apply List.mem_append_right))) (by rw [tbs_length]; omega) fun v' C' ho' => ?_
      rw [tbs_snoc] at ho'
      exact JE.of (.skip .tail) (hJ' _ _ ⟨C', N, rfl, ho'⟩)
  · have : k = L.length := by omega
    subst this
    rw [List.take_length] at hst
    obtain ⟨h1, h2⟩ := hst.done
    exact PxR.mk h1 h2
theorem nodes_take {n u k : Nat} {L : List (List Nat)} (hlt : k < L.length) : Tab.nodes n (L.take (k + 1)) u = if Tab.dep n L[k] u then Tab.nodes n (L.take k) u ++ [L[k]] else Tab.nodes n (L.take k) u := by
  rw [List.take_succ_eq_append_getElem hlt, Tab.nodes, List.filter_append]
  cases h : Tab.dep n L[k] u <;> simp [Tab.nodes, h]
theorem rnodes_ok {B : Hp} {v : Value} {n u : Nat} {L : List (List Nat)} (hL : Tbls B v (tbs n L)) (hf : ∀ t ∈ L, Tab.Frm n t) (hu : u < n) (hmax : L.length < 4398046511103) :
    Px Try.prog 63 #[v, .int .i64 (u : Int)] B (fun r H => Tbls H r (tbs n (Tab.nodes n L u))) := by
  intro g
  refine L63_sound (R := FnR _) ?_
  unfold L63
  refine hL.lenS ?_
  rw [tbs_length]
  refine ⟨fun vs H => ∃ (k : Nat) (v : Value), vs = [v, .int .i64 (k : Int)] ∧ k ≤ L.length ∧ LSt n B v (Tab.nodes n (L.take k) u) H, fun vs _ => L.length - nAt vs 1, JE.mk ⟨0, _, rfl, by omega, LSt.nil n B⟩, ?_⟩
  rintro w6 w7 H ⟨k, v, hv, hk, hst⟩ gs
  simp only [List.cons.injEq, and_true] at hv
  obtain ⟨rfl, rfl⟩ := hv
  refine Bin.ltN (Br.dec (fun hlt => ?_) (fun hlt => ?_))
  · intro J hJ
    have hJ' : ∀ v H, LSt n B v (Tab.nodes n (L.take (k + 1)) u) H → J [v] H := fun v H h => hJ _ _ fun gs => by
      refine Bin.addN (b := 1) (by simp [lim]; omega) ?_
      exact Back.mk ⟨k + 1, v, rfl, by omega, h⟩ (by simp [nAt]; omega)
    obtain ⟨C, N, rfl, ho⟩ := hst
    have hg : L[k]? = some L[k] := List.getElem?_eq_getElem hlt
    have hfk := hf L[k] (List.getElem_mem hlt)
    have hul : (Tab.nodes n (L.take k) u).length ≤ (L.take k).length := List.length_filter_le _ _
    simp only [List.length_take] at hul
    refine hL.ld (tbs_get hg) (fun x hx => List.mem_append_right _ (List.mem_append_right _ hx)) fun s' hw' => ?_
    have hone := oneCell_words hw'
    intro b2 _
    refine St.whole (r := [.int .i64 (n : Int), s']) (by exact .head _) rfl rfl (by simpa [Value.oneCell'] using hone) ?_
    refine LdA.whole (r := [.int .i64 (n : Int), s']) (by exact .head _) rfl ?_
    refine CallF.rd (B := C ++ (N ++ B)) (.cons .here) (depends_ok (v := .agg (List.toArray [.int .i64 (n : Int), s'])) (n := n) (ws := L[k]) ⟨s', rfl, hw'.mono (fun _ h => by repeat (first | exact h | apply List.mem_cons_of_mem | apply List.mem_append_right))⟩ hfk hu) ?_
    rintro v rfl
    rw [nodes_take hlt] at hJ'
    cases hd : Tab.dep n L[k] u <;> rw [hd] at hJ' <;> simp only [Bool.false_eq_true, if_false, if_true] at hJ'
    · exact Br.no (JE.of .tail (hJ' _ _ ⟨C, N, rfl, ho⟩))
    · refine Br.yes ?_
      refine LdA.whole (r := [.int .i64 (n : Int), s']) (by exact .head _) rfl ?_
      refine buildOne fun xb => ?_
      refine ho.app (A := [_, _]) (t := ⟨n, L[k]⟩) (s := s') (by exact .head _) (hw'.mono (fun _ h => by repeat (first | exact h | apply List.mem_cons_of_mem | apply List.mem_append_right))) (by rw [tbs_length]; omega) fun v' C' ho' => ?_
      rw [tbs_snoc] at ho'
      exact JE.of (.skip .tail) (hJ' _ _ ⟨C', N, rfl, ho'⟩)
  · have : k = L.length := by omega
    subst this
    rw [List.take_length] at hst
    obtain ⟨h1, h2⟩ := hst.done
    exact PxR.mk h1 h2
theorem given_take {n u k : Nat} {L : List (List Nat)} (hlt : k < L.length) : Tab.given n (L.take (k + 1)) u = Tab.add (Tab.add (Tab.given n (L.take k) u) (Tab.cof n L[k] u false)) (Tab.cof n L[k] u true) := by
  rw [List.take_succ_eq_append_getElem hlt, Tab.given, List.foldl_append]; rfl
theorem given_le (n u : Nat) (L : List (List Nat)) : (Tab.given n L u).length ≤ 2 * L.length := by
  have h := Tab.foldl_add_length (fun t acc => Tab.add (Tab.add acc (Tab.cof n t u false)) (Tab.cof n t u true)) 2 (fun a l => by have h1 := Tab.add_length (Tab.add l (Tab.cof n a u false)) (Tab.cof n a u true); have h2 := Tab.add_length l (Tab.cof n a u false); omega) L []
  simpa [Tab.given] using h
theorem rgiven_ok {B : Hp} {v : Value} {n u : Nat} {L : List (List Nat)} (hL : Tbls B v (tbs n L)) (hf : ∀ t ∈ L, Tab.Frm n t) (hn : n ≤ 16) (hu : u < n) (hmax : L.length < 2199023255551) :
    Px Try.prog 62 #[v, .int .i64 (u : Int)] B (fun r H => Tbls H r (tbs n (Tab.given n L u))) := by
  intro g
  refine L62_sound (R := FnR _) ?_
  unfold L62
  refine hL.lenS ?_
  rw [tbs_length]
  refine ⟨fun vs H => ∃ (k : Nat) (v : Value), vs = [v, .int .i64 (k : Int)] ∧ k ≤ L.length ∧ LSt n B v (Tab.given n (L.take k) u) H, fun vs _ => L.length - nAt vs 1, JE.mk ⟨0, _, rfl, by omega, LSt.nil n B⟩, ?_⟩
  rintro w6 w7 H ⟨k, v, hv, hk, hst⟩ gs
  simp only [List.cons.injEq, and_true] at hv
  obtain ⟨rfl, rfl⟩ := hv
  refine Bin.ltN (Br.dec (fun hlt => ?_) (fun hlt => ?_))
  · intro J hJ
    have hJ' : ∀ v H, LSt n B v (Tab.given n (L.take (k + 1)) u) H → J [v] H := fun v H h => hJ _ _ fun gs => by
      refine Bin.addN (b := 1) (by simp [lim]; omega) ?_
      exact Back.mk ⟨k + 1, v, rfl, by omega, h⟩ (by simp [nAt]; omega)
    obtain ⟨C, N, rfl, ho⟩ := hst
    have hg : L[k]? = some L[k] := List.getElem?_eq_getElem hlt
    have hfk := hf L[k] (List.getElem_mem hlt)
    have hul := given_le n u (L.take k)
    simp only [List.length_take] at hul
    have fg : ∀ t ∈ Tab.given n (L.take k) u, Tab.Frm n t := fun t ht => by obtain ⟨_, _, _, rfl⟩ := Tab.mem_given.1 ht; exact Tab.frm_cof hn
    have f1 := Tab.frm_cof (v := u) (ws := L[k]) (b := false) hn
    have f2 := Tab.frm_cof (v := u) (ws := L[k]) (b := true) hn
    rw [given_take hlt] at hJ'
    refine hL.ld (tbs_get hg) (fun x hx => List.mem_append_right _ (List.mem_append_right _ hx)) fun s' hw' => ?_
    have hone := oneCell_words hw'
    intro b2 _
    refine St.whole (r := [.int .i64 (n : Int), s']) (by exact .head _) rfl rfl (by simpa [Value.oneCell'] using hone) ?_
    refine DR.self ?_
    refine LdA.whole (r := [.int .i64 (n : Int), s']) (by exact .head _) rfl (LdA.whole (r := [.int .i64 (n : Int), s']) (by exact .head _) rfl ?_)
    intro F
    refine CallF.px (B := N ++ B) (.cons (.app .here)) (rcof_ok (v := .agg (List.toArray [.int .i64 (n : Int), s'])) (n := n) (ws := L[k]) ⟨s', rfl, hw'.mono (fun _ h => by repeat (first | exact h | apply List.mem_cons_of_mem | apply List.mem_append_right))⟩ hfk hu) ?_
    rintro v N1 ⟨s1, rfl, hw1⟩
    refine ⟨.cons (.prep .right _), ?_⟩
    intro F
    refine CallF.px (B := N1 ++ (N ++ B)) (.cons (.app .here)) (rcof_ok (v := .agg (List.toArray [.int .i64 (n : Int), s'])) (n := n) (ws := L[k]) ⟨s', rfl, hw'.mono (fun _ h => by repeat (first | exact h | apply List.mem_cons_of_mem | apply List.mem_append_right))⟩ hfk hu) ?_
    rintro v N2 ⟨s2, rfl, hw2⟩
    refine ⟨.cons (.prep (.skips .right) _), ?_⟩
    have hone1 := oneCell_words hw1
    have hone2 := oneCell_words hw2
    intro b28 _ b30 _ F
    refine St.whole (r := [.int .i64 (n : Int), s1]) (by exact .tail (.head _)) rfl rfl (by simpa [Value.oneCell'] using hone1) ?_
    refine ⟨.skip (.skip (.cons (.prep (.skips .right) _))), ?_⟩
    intro F
    refine St.whole (r := [.int .i64 (n : Int), s2]) (by exact .head _) rfl rfl (by simpa [Value.oneCell'] using hone2) ?_
    have ho2 := ho.mono (B' := N2 ++ (N1 ++ (N ++ B))) (fun _ h => by repeat (first | exact h | apply List.mem_cons_of_mem | apply List.mem_append_right))
    intro J2 hJ2
    -- the second one
    have hJ2' : ∀ v C l, TOwn 42 v (tbs n l) C (N2 ++ (N1 ++ (N ++ B))) → l = Tab.add (Tab.given n (L.take k) u) (Tab.cof n L[k] u false) →
        J2 [v] ((b30, .cells (List.toArray [.int .i64 (n : Int), s2]) 42 (0, 0)) :: (C ++ (N2 ++ (N1 ++ (N ++ B))))) := fun v C l ho hl => hJ2 _ _ fun gs => by
      have hll := Tab.add_length (Tab.given n (L.take k) u) (Tab.cof n L[k] u false)
      rw [← hl] at hll
      have fl : ∀ t ∈ l, Tab.Frm n t := fun t ht => by rw [hl] at ht; rcases Tab.mem_add.1 ht with h | rfl; exact fg t h; exact f1
      refine LdA.whole (r := [.int .i64 (n : Int), s2]) (by exact .head _) rfl ?_
      refine CallF.rd (B := C ++ (N2 ++ (N1 ++ (N ++ B)))) (.cons .here) (in_ok (v2 := .agg (List.toArray [.int .i64 (n : Int), s2])) (n := n) (L := l) (ws := Tab.cof n L[k] u true) (ho.tbls (fun x hx => List.mem_append_left _ hx) (fun x hx => List.mem_append_right _ hx)) fl ⟨s2, rfl, hw2.mono (fun _ h => by repeat (first | exact h | apply List.mem_cons_of_mem | apply List.mem_append_right))⟩ (frm_len f2) (by omega)) ?_
      rintro r rfl
      refine Un.not ?_
      rw [← hl, Tab.add] at hJ'
      by_cases hin : Tab.cof n L[k] u true ∈ l
      · rw [decide_eq_true hin]
        rw [if_pos hin] at hJ'
        refine Br.no (JE.of .tail (hJ' _ _ ⟨C, N2 ++ (N1 ++ N), ?_, ?_⟩))
        · rw [List.append_assoc, List.append_assoc]
        · rw [List.append_assoc, List.append_assoc]; exact ho
      · rw [decide_eq_false hin]
        rw [if_neg hin] at hJ'
        refine Br.yes ?_
        refine LdA.whole (r := [.int .i64 (n : Int), s2]) (by exact .head _) rfl ?_
        refine buildOne fun xb => ?_
        refine ho.app (A := [_, _]) (t := ⟨n, Tab.cof n L[k] u true⟩) (s := s2) (by exact .head _) hw2 (by rw [tbs_length]; omega) fun v' C' ho' => ?_
        rw [tbs_snoc] at ho'
        refine JE.of (.skip .tail) (hJ' _ _ ⟨C', N2 ++ (N1 ++ N), ?_, ?_⟩)
        · rw [List.append_assoc, List.append_assoc]; rfl
        · rw [List.append_assoc, List.append_assoc]; exact ho'
    refine LdA.whole (r := [.int .i64 (n : Int), s1]) (by exact .tail _ (.head _)) rfl ?_
    refine CallF.rd (B := C ++ (N2 ++ (N1 ++ (N ++ B)))) (.cons (.cons (.cons .here))) (in_ok (v2 := .agg (List.toArray [.int .i64 (n : Int), s1])) (n := n) (L := Tab.given n (L.take k) u) (ws := Tab.cof n L[k] u false) (ho2.tbls (fun x hx => List.mem_append_left _ hx) (fun x hx => List.mem_append_right _ hx)) fg ⟨s1, rfl, hw1.mono (fun _ h => by repeat (first | exact h | apply List.mem_cons_of_mem | apply List.mem_append_right))⟩ (frm_len f1) (by omega)) ?_
    rintro r rfl
    refine Un.not ?_
    by_cases hin : Tab.cof n L[k] u false ∈ Tab.given n (L.take k) u
    · rw [decide_eq_true hin]
      exact Br.no (JE.of (.cons (.skip .tail)) (hJ2' _ C _ ho2 (by rw [Tab.add, if_pos hin])))
    · rw [decide_eq_false hin]
      refine Br.yes ?_
      refine LdA.whole (r := [.int .i64 (n : Int), s1]) (by exact .tail _ (.head _)) rfl ?_
      refine buildOne fun xb => ?_
      refine ho2.app (A := [_, _, _, _]) (t := ⟨n, Tab.cof n L[k] u false⟩) (s := s1) (by exact .head _) (hw1.mono (fun _ h => by repeat (first | exact h | apply List.mem_cons_of_mem | apply List.mem_append_right))) (by rw [tbs_length]; omega) fun v' C' ho' => ?_
      rw [tbs_snoc] at ho'
      exact JE.of (.skip (.cons (.skip .tail))) (hJ2' _ C' _ ho' (by rw [Tab.add, if_neg hin]))
  · have : k = L.length := by omega
    subst this
    rw [List.take_length] at hst
    obtain ⟨h1, h2⟩ := hst.done
    exact PxR.mk h1 h2
theorem rcheck_ok {B : Hp} {v : Value} {ts : List Tb} {n0 : Int} (ht : Tbls B v ts) (hmax : ts.length < 2 ^ 62) :
    Rd Try.prog 60 #[v, .int .i64 n0] B (· = .tuple (if OneN ts then #[.int .i64 ((ts.head?.map Tb.n).getD n0), .int .i64 0] else #[.int .i64 0, .int .i64 5])) := by
  intro g
  refine L60_sound (R := FnR _) ?_
  unfold L60
  refine ht.lenS ?_
  refine ⟨fun vs H => Grow B H ∧ ∃ k : Nat, vs = [.int .i64 (if k = 0 then n0 else (ts.head?.map Tb.n).getD n0), .int .i64 (k : Int)] ∧ k ≤ ts.length ∧ ∀ i t, i < k → ts[i]? = some t → TF t ∧ some t.n = ts.head?.map Tb.n, fun vs _ => ts.length - nAt vs 1, JE.mk ⟨.refl _, 0, rfl, by omega, by omega⟩, ?_⟩
  rintro w6 w7 H ⟨hg, k, hv, hk, hall⟩ gs
  simp only [List.cons.injEq, and_true] at hv
  obtain ⟨rfl, rfl⟩ := hv
  refine Bin.ltN (Br.dec (fun hlt => ?_) (fun hlt => ?_))
  · obtain ⟨t, htk⟩ : ∃ t, ts[k]? = some t := ⟨_, List.getElem?_eq_getElem hlt⟩
    obtain ⟨t0, ht0⟩ : ∃ t, ts[0]? = some t := ⟨_, List.getElem?_eq_getElem (by omega)⟩
    have hh : ts.head?.map Tb.n = some t0.n := by rw [List.head?_eq_getElem?, ht0]; rfl
    have htB := ht.mono hg.sub
    refine htB.ld htk (fun _ h => h) fun s hs => ?_
    intro b1 _
    refine St.whole (r := [.int .i64 t.n, s]) (by exact Upd.head _) rfl rfl ?_ ?_
    · obtain ⟨a, c, rfl, _⟩ := hs.1.shape; simp [Value.oneCell']
    intro J hJ
    have hno : ∀ H', Grow B H' → ¬ (TF t ∧ some t.n = ts.head?.map Tb.n) → JE J [.bool true] H' := fun H' hg' h =>
      JE.mk (hJ _ _ fun gs => Br.yes (RdR.mk hg'.ent (by rw [if_neg]; exact fun hh => h (hh t (List.mem_of_getElem? htk)))))
    have hg2 : Grow B ((b1, Obj.cells (List.toArray [.int .i64 t.n, s]) 42 (0, 0)) :: H) := .cons hg
    refine DR.self ?_
    refine LdA.whole (r := [.int .i64 t.n, s]) (by exact List.Mem.head _) rfl ?_
    intro F
    refine CallF.rd (B := H) (.cons .here) (rform_ok ⟨s, rfl, hs⟩) ?_
    rintro v rfl
    refine ⟨.refl _, Un.not ?_⟩
    by_cases hT : TF t
    case neg => rw [decide_eq_false hT]; exact Br.yes (hno _ hg2 fun h => hT h.1)
    rw [decide_eq_true hT]
    refine Br.no ?_
    refine FAddr.mk (Ld.mk (by repeat (first | assumption | exact List.Mem.head _ | apply List.Mem.tail | apply List.mem_append_right)) rfl ?_)
    refine htB.ldN ht0 (fun _ h => by repeat (first | exact h | apply List.mem_cons_of_mem | apply List.mem_append_right)) ?_
    refine Bin.neD (Pick.mk ?_)
    simp only [cond_false]
    by_cases hn : t.n = t0.n
    case neg => rw [decide_eq_true hn]; exact hno _ hg2 fun h => hn (by have := h.2; rw [hh] at this; simpa using this)
    rw [decide_eq_false (by simpa using hn)]
    refine JE.mk (hJ _ _ fun gs => Br.no ?_)
    refine FAddr.mk (Ld.mk (by repeat (first | assumption | exact List.Mem.head _ | apply List.Mem.tail | apply List.mem_append_right)) rfl ?_)
    refine Bin.addN (b := 1) (by simp [lim]; omega) ?_
    refine Back.mk ⟨hg2, k + 1, ?_, by omega, fun i u hi hu => ?_⟩ (by simp [nAt]; omega)
    · rw [if_neg (by omega), hh, hn]; rfl
    by_cases e : i = k
    · subst e; rw [htk] at hu; cases hu; exact ⟨hT, by rw [hh, hn]⟩
    · exact hall i u (by omega) hu
  · refine RdR.mk hg.ent ?_
    have hk' : k = ts.length := by omega
    have hO : OneN ts := fun t htm => by
      obtain ⟨i, hi, rfl⟩ := List.mem_iff_getElem.1 htm
      exact hall i _ (by omega) (List.getElem?_eq_getElem hi)
    rw [if_pos hO]
    by_cases h0 : k = 0
    · rw [if_pos h0]
      have : ts = [] := List.length_eq_zero_iff.1 (by omega)
      subst this; rfl
    · rw [if_neg h0]
theorem st_small {n A : Nat} {L : List (List Nat)} (hn : n ≤ 16) (hl : L.length < 33554432) {k : Nat} (hk : k ≤ n) : (Tab.st n L A k).length < 2199023255551 := by
  have h2 := Tab.st_length n L A k
  have h3 : 2 ^ k ≤ 2 ^ 16 := Nat.pow_le_pow_right (by decide) (by omega)
  have h4 : 2 ^ k * L.length ≤ 2 ^ 16 * L.length := Nat.mul_le_mul_right _ h3
  omega
theorem rlevel_ok {B : Hp} {v : Value} {n u A : Nat} {L : List (List Nat)} (ht : Tbls B v (tbs n L)) (hf : ∀ ws ∈ L, Tab.Frm n ws) (hne : L ≠ []) (hmax : L.length < 33554432) (hA : A < 2 ^ n) (hu : u < n) (hAu : A.testBit u = false) :
    Rd Try.prog 47 #[v, .int .u64 (A : Int), .int .i64 (u : Int)] B (· = .tuple #[.int .i64 ((Tab.lvl n L A u : Nat) : Int), .int .i64 0]) := by
  obtain ⟨w0, hw0⟩ : ∃ w0, L[0]? = some w0 := ⟨_, List.getElem?_eq_getElem (List.length_pos_iff.2 hne)⟩
  have hn16 : n ≤ 16 := (hf w0 (List.mem_of_getElem? hw0)).n16
  have hA16 : A < 65536 := Nat.lt_of_lt_of_le hA (Nat.pow_le_pow_right (n := 2) (by decide) hn16)
  have hhead : ((tbs n L).head?.map Tb.n).getD 16 = n := by cases L with | nil => exact absurd rfl hne | cons a b => rfl
  intro g
  refine L47_sound (R := FnR _) ?_
  unfold L47
  refine CallF.rd .here (rcheck_ok ht (by rw [tbs_length]; omega)) ?_
  rintro v rfl
  rw [if_pos (show OneN (tbs n L) from oneN_map hf), hhead]
  refine Ext.mk rfl (Ext.mk rfl (Bin.neD (Br.decF (by simp) ?_)))
  refine Bin.lss (Grp.or (decide (n ≤ u)) (fun _ => ?_) rfl fun gs => ?_)
  · exact Bin.geN ⟨rfl, rfl⟩
  rw [show (decide ((u : Int) < 0) || decide (n ≤ u)) = false by simp; omega]
  refine Grp.or (decide (0 < A >>> n)) (fun _ => ?_) rfl fun gs => ?_
  · refine Bin.shrN (by simp [lim]; omega) ?_
    exact Bin.gtN (b := 0) ⟨rfl, rfl⟩
  rw [show (false || decide (0 < A >>> n)) = false by rw [Nat.shiftRight_eq_div_pow, Nat.div_eq_of_lt hA]; rfl]
  refine Br.no ?_
  have hshl : ∀ k, A >>> k < 18446744073709551616 := fun k => Nat.lt_of_le_of_lt (Nat.shiftRight_le _ _) (by omega)
  refine Bin.shrN (by simp [lim]; omega) (Bin.modN (b := 2) (by decide) (Bin.eqN (b := 1) ?_))
  refine Br.decF (by rw [Tab.bit_mod, hAu]; simp) ?_
  refine CallF.px .here (runlike_ok ht hf (by omega)) ?_
  rintro r N hr
  refine ⟨fun vs H => ∃ (k : Nat) (v : Value) (N : Hp), vs = [v, .int .i64 (k : Int)] ∧ k ≤ n ∧ H = N ++ B ∧ Tbls (N ++ B) v (tbs n (Tab.st n L A k)),
    fun vs _ => n - nAt vs 1, JE.mk ⟨0, _, N, rfl, by omega, rfl, hr⟩, ?_⟩
  clear hr
  rintro w23 w24 H ⟨k, v, N, hv, hk, rfl, hr⟩ gs
  simp only [List.cons.injEq, and_true] at hv
  obtain ⟨rfl, rfl⟩ := hv
  have hfk := Tab.st_frm (A := A) hf hn16 k
  have hsk := st_small (A := A) (L := L) hn16 (by omega) hk
  refine Bin.ltN (Br.dec (fun hlt => ?_) (fun hlt => ?_))
  · intro J hJ
    refine Bin.shrN (by simp [lim]; omega) (Bin.modN (b := 2) (by decide) (Bin.eqN (b := 1) ?_))
    refine Br.dec (fun h => ?_) (fun h => ?_)
    · have hb := (Tab.bit_mod A k).1 h
      refine CallF.px .here (rgiven_ok hr hfk hn16 hlt hsk) ?_
      rintro r N' hr'
      refine JE.mk (hJ _ _ fun gs => ?_)
      refine Bin.addN (b := 1) (by simp [lim]; omega) ?_
      refine Back.mk ⟨k + 1, _, N' ++ N, rfl, by omega, by rw [List.append_assoc], ?_⟩ (by simp [nAt]; omega)
      rw [List.append_assoc, Tab.st, if_pos hb]; exact hr'
    · have hb : A.testBit k = false := by cases hh : A.testBit k; rfl; exact absurd ((Tab.bit_mod A k).2 hh) h
      refine JE.mk (hJ _ _ fun gs => ?_)
      refine Bin.addN (b := 1) (by simp [lim]; omega) ?_
      refine Back.mk ⟨k + 1, _, N, rfl, by omega, rfl, ?_⟩ (by simp [nAt]; omega)
      rw [Tab.st, hb]; simpa using hr
  · have : k = n := by omega
    subst this
    refine CallF.px .here (rnodes_ok hr hfk hu (by omega)) ?_
    rintro r N' hr'
    refine hr'.lenS ?_
    rw [tbs_length]
    exact RdR.mk (.skips .right) rfl

end Go.Proofs
set_option linter.unusedVariables false
set_option linter.unusedSimpArgs false
set_option maxRecDepth 100000
namespace Go.Proofs
open Go Go.Sx
theorem rcheck19_ok {B : Hp} {v : Value} {ts : List Tb}  (ht : Tbls B v ts) (hmax : ts.length < 2 ^ 62) :
    Rd Try.prog 29 #[v] B (· = .tuple (if OneN ts then #[.int .i64 ((ts.head?.map Tb.n).getD 0), .int .i64 0] else #[.int .i64 0, .int .i64 5])) := by
  intro g
  refine L29_sound (R := FnR _) ?_
  unfold L29
  refine ht.lenS ?_
  refine ⟨fun vs H => Grow B H ∧ ∃ k : Nat, vs = [.int .i64 (if k = 0 then 0 else (ts.head?.map Tb.n).getD 0), .int .i64 (k : Int)] ∧ k ≤ ts.length ∧ ∀ i t, i < k → ts[i]? = some t → TF t ∧ some t.n = ts.head?.map Tb.n, fun vs _ => ts.length - nAt vs 1, JE.mk ⟨.refl _, 0, rfl, by omega, by omega⟩, ?_⟩
  rintro w6 w7 H ⟨hg, k, hv, hk, hall⟩ gs
  simp only [List.cons.injEq, and_true] at hv
  obtain ⟨rfl, rfl⟩ := hv
  refine Bin.ltN (Br.dec (fun hlt => ?_) (fun hlt => ?_))
  · obtain ⟨t, htk⟩ : ∃ t, ts[k]? = some t := ⟨_, List.getElem?_eq_getElem hlt⟩
    obtain ⟨t0, ht0⟩ : ∃ t, ts[0]? = some t := ⟨_, List.getElem?_eq_getElem (by omega)⟩
    have hh : ts.head?.map Tb.n = some t0.n := by rw [List.head?_eq_getElem?, ht0]; rfl
    have htB := ht.mono hg.sub
    refine htB.ld htk (fun _ h => h) fun s hs => ?_
    intro b1 _
    refine St.whole (r := [.int .i64 t.n, s]) (by exact Upd.head _) rfl rfl ?_ ?_
    · obtain ⟨a, c, rfl, _⟩ := hs.1.shape; simp [Value.oneCell']
    intro J hJ
    have hno : ∀ H', Grow B H' → ¬ (TF t ∧ some t.n = ts.head?.map Tb.n) → JE J [.bool true] H' := fun H' hg' h =>
      JE.mk (hJ _ _ fun gs => Br.yes (RdR.mk hg'.ent (by rw [if_neg]; exact fun hh => h (hh t (List.mem_of_getElem? htk)))))
    have hg2 : Grow B ((b1, Obj.cells (List.toArray [.int .i64 t.n, s]) 42 (0, 0)) :: H) := .cons hg
    refine DR.self ?_
    refine LdA.whole (r := [.int .i64 t.n, s]) (by exact List.Mem.head _) rfl ?_
    intro F
    refine CallF.rd (B := H) (.cons .here) (rform_ok ⟨s, rfl, hs⟩) ?_
    rintro v rfl
    refine ⟨.refl _, Un.not ?_⟩
    by_cases hT : TF t
    case neg => rw [decide_eq_false hT]; exact Br.yes (hno _ hg2 fun h => hT h.1)
    rw [decide_eq_true hT]
    refine Br.no ?_
    refine FAddr.mk (Ld.mk (by repeat (first | assumption | exact List.Mem.head _ | apply List.Mem.tail | apply List.mem_append_right)) rfl ?_)
    refine htB.ldN ht0 (fun _ h => by repeat (first | exact h | apply List.mem_cons_of_mem | apply List.mem_append_right)) ?_
    refine Bin.neD (Pick.mk ?_)
    simp only [cond_false]
    by_cases hn : t.n = t0.n
    case neg => rw [decide_eq_true hn]; exact hno _ hg2 fun h => hn (by have := h.2; rw [hh] at this; simpa using this)
    rw [decide_eq_false (by simpa using hn)]
    refine JE.mk (hJ _ _ fun gs => Br.no ?_)
    refine FAddr.mk (Ld.mk (by repeat (first | assumption | exact List.Mem.head _ | apply List.Mem.tail | apply List.mem_append_right)) rfl ?_)
    refine Bin.addN (b := 1) (by simp [lim]; omega) ?_
    refine Back.mk ⟨hg2, k + 1, ?_, by omega, fun i u hi hu => ?_⟩ (by simp [nAt]; omega)
    · rw [if_neg (by omega), hh, hn]; rfl
    by_cases e : i = k
    · subst e; rw [htk] at hu; cases hu; exact ⟨hT, by rw [hh, hn]⟩
    · exact hall i u (by omega) hu
  · refine RdR.mk hg.ent ?_
    have hk' : k = ts.length := by omega
    have hO : OneN ts := fun t htm => by
      obtain ⟨i, hi, rfl⟩ := List.mem_iff_getElem.1 htm
      exact hall i _ (by omega) (List.getElem?_eq_getElem hi)
    rw [if_pos hO]
    by_cases h0 : k = 0
    · rw [if_pos h0]
      have : ts = [] := List.length_eq_zero_iff.1 (by omega)
      subst this; rfl
    · rw [if_neg h0]
def kp (x : Nat × Nat) : Value := .agg (icells .i64 [(x.1 : Int), (x.2 : Int)])
def ki (x : Nat) : Value := .int .i64 (x : Int)
theorem ki_law (a b : Nat) : Instr.sameNow (.int .i64) (ki a) (ki b) = some (decide (a = b)) := by
  simp only [Instr.sameNow, ki, if_true, Option.some.injEq]
  rw [Bool.eq_iff_iff]; simp; omega
theorem ki_bits (a : Nat) : Instr.sameBits 10000 (ki a) (ki a) = true := by simp [Instr.sameBits, ki]
theorem kp_eq (a b : Nat × Nat) : EqV Try.prog 86 (kp a) (kp b) (decide (a = b)) := by
  have := EqV.array (P := Try.prog) (t := 86) (e := 3) (q := .i64) (n := 2) (by kernel_rfl) (by kernel_rfl) (by kernel_rfl) [(a.1 : Int), (a.2 : Int)] [(b.1 : Int), (b.2 : Int)] rfl rfl
  have e : decide ([(a.1 : Int), (a.2 : Int)] = [(b.1 : Int), (b.2 : Int)]) = decide (a = b) := by
    rw [decide_eq_decide]
    obtain ⟨a1, a2⟩ := a; obtain ⟨b1, b2⟩ := b
    simp; omega
  rw [e] at this; exact this
theorem kp_chk (a : Nat × Nat) : ChkV Try.prog 86 (kp a) := ChkV.array (P := Try.prog) (t := 86) (e := 3) (q := .i64) (n := 2) (by kernel_rfl) (by kernel_rfl) (by kernel_rfl) _ rfl
theorem sameBits_ints (n : Nat) (q : IntKind) (l : List Int) : Instr.sameBits (n + 1 + 1) (.agg (icells q l)) (.agg (icells q l)) = true := by
  simp only [Instr.sameBits, icells, beq_self_eq_true, Bool.true_and, List.all_eq_true]
  intro x hx
  obtain ⟨a, b⟩ := x
  have h := List.of_mem_zip hx
  have e : a = b := by
    rw [List.zip_eq_zip_take_min] at hx
    obtain ⟨i, hi, he⟩ := List.mem_iff_getElem.1 hx
    simp at he
    exact he.1.symm.trans he.2
  subst e
  have := h.1
  simp only [List.toList_toArray, List.mem_map] at this
  obtain ⟨y, _, rfl⟩ := this
  simp [Instr.sameBits]
theorem kp_bits (a : Nat × Nat) : Instr.sameBits 10000 (kp a) (kp a) = true := sameBits_ints 9998 _ _
abbrev vrN (v : Value) (x : Nat) : Prop := v = .int .i64 (x : Int)
structure PlanM (n : Nat) (L : List (List Nat)) (es1 : Array MapEntry) (ck1 : Nat) (es2 : Array MapEntry) (ck2 : Nat) : Prop where
  lev : ∃ m, Ents kp vrN es1 ck1 m ∧ ∀ x ∈ m, x.2 = Tab.lvl n L x.1.1 x.1.2
  dow : ∃ m, Ents ki vrN es2 ck2 m ∧ ∀ x ∈ m, x.2 = Tab.B n (Tab.lvl n L) x.1
/-- a plan -/
def PlanH (bp bl bd : Nat) (lst : Value) (n : Nat) (L : List (List Nat)) (U : Nat) (B H : Hp) : Prop :=
  ∃ es1 ck1 es2 ck2, H = (bp, .cells #[lst, .int .i64 (n : Int), .int .i64 (U : Int), .map (some bl), .map (some bd)] 60 (0, 0)) :: (bl, .map es1 ck1) :: (bd, .map es2 ck2) :: B ∧ PlanM n L es1 ck1 es2 ck2
theorem mset_all {κ : Type} [DecidableEq κ] {f : κ → Nat} {m : List (κ × Nat)} {k : κ} (h : ∀ x ∈ m, x.2 = f x.1) : ∀ x ∈ mset m k (f k), x.2 = f x.1 := by
  intro x hx
  unfold mset at hx
  split at hx
  · obtain ⟨y, hy, rfl⟩ := List.mem_map.1 hx
    split
    · rfl
    · exact h y hy
  · rcases List.mem_append.1 hx with hx | hx
    · exact h x hx
    · simp at hx; subst hx; rfl
theorem mget_all {κ : Type} [DecidableEq κ] {f : κ → Nat} {m : List (κ × Nat)} {k : κ} {x : Nat} (h : ∀ x ∈ m, x.2 = f x.1) (hk : mget m k = some x) : x = f k := by
  unfold mget at hk
  obtain ⟨y, hy, rfl⟩ := Option.map_eq_some_iff.1 hk
  have h1 := List.find?_some hy
  have h2 := h y (List.mem_of_find?_eq_some hy)
  simp only [decide_eq_true_eq] at h1
  rw [h2, h1]
structure PlanOK (lst : Value) (n : Nat) (L : List (List Nat)) (B : Hp) : Prop where
  tb : Tbls B lst (tbs n L)
  frm : ∀ ws ∈ L, Tab.Frm n ws
  ne : L ≠ []
  small : L.length < 33554432
  n12 : n ≤ 12
theorem lvl_le {lst : Value} {n : Nat} {L : List (List Nat)} {B : Hp} (h : PlanOK lst n L B) (a v : Nat) : Tab.lvl n L a v < 2199023255551 := by
  have h1 : Tab.lvl n L a v ≤ (Tab.st n L a n).length := List.length_filter_le _ _
  have h2 := st_small (n := n) (A := a) (L := L) (by have := h.n12; omega) h.small (Nat.le_refl n)
  omega
theorem nodes_ok {lst : Value} {n : Nat} {L : List (List Nat)} {B : Hp} (h : PlanOK lst n L B) {bp bl bd a v : Nat} {H : Hp} (hp : PlanH bp bl bd lst n L (Tab.usedP n L) B H) (ha : a < 2 ^ n) (hv : v < n) (hav : a.testBit v = false) :
    Fc Try.prog 27 #[.pointer (some ⟨bp, 0, none⟩), .int .i64 (a : Int), .int .i64 (v : Int)] H (fun r H' => r = .int .i64 ((Tab.lvl n L a v : Nat) : Int) ∧ PlanH bp bl bd lst n L (Tab.usedP n L) B H') := by
  obtain ⟨es1, ck1, es2, ck2, rfl, hM⟩ := hp
  have hU := Tab.usedP_lt n L
  have hn12 := h.n12
  have hp2 : 2 ^ n ≤ 2 ^ 12 := Nat.pow_le_pow_right (by decide) hn12
  have hUsed := Tab.used_ok h.frm (by omega)
  have hsU : Tab.usedP n L >>> v ≤ Tab.usedP n L := Nat.shiftRight_le _ _
  intro g
  refine L27_sound (R := FnR _) ?_
  unfold L27
  refine Nil.ptr ?_
  refine FAddr.mk (Ld.mk (by repeat (first | assumption | exact List.Mem.head _ | apply List.Mem.tail | apply List.mem_append_right)) rfl ?_)
  refine Bin.shrN (by simp [lim]; omega) (Bin.andN (b := 1) (by simp [lim]; omega) (by decide) (Bin.eqN (b := 0) ?_))
  have hbit : Tab.usedP n L >>> v &&& 1 = 0 ↔ (Tab.usedP n L).testBit v = false := by
    rw [Tab.and_one_eq, Nat.testBit_shiftRight, Nat.add_zero]; cases (Tab.usedP n L).testBit v <;> simp
  refine Br.dec (fun h0 => ?_) (fun h0 => ?_)
  · refine FnR.here ⟨?_, es1, ck1, es2, ck2, rfl, hM⟩
    rw [hUsed.zero a v hv hav (hbit.1 h0)]; rfl
  have hUv : (Tab.usedP n L).testBit v = true := by cases hh : (Tab.usedP n L).testBit v; exact absurd (hbit.2 hh) h0; rfl
  refine Nil.ptr ?_
  refine FAddr.mk (Ld.mk (by repeat (first | assumption | exact List.Mem.head _ | apply List.Mem.tail | apply List.mem_append_right)) rfl ?_)
  refine Bin.andN (by simp [lim]; omega) (by simp [lim]; omega) ?_
  have hlv : Tab.lvl n L a v = Tab.lvl n L (a &&& Tab.usedP n L) v := hUsed.mask a v hv hav
  have hband : (a &&& Tab.usedP n L).testBit v = false := by rw [Nat.testBit_and, hav]; rfl
  have haU : a &&& Tab.usedP n L < 2 ^ n := Nat.lt_of_le_of_lt Nat.and_le_left ha
  rw [hlv]
  obtain ⟨a', ha'⟩ : ∃ a', a' = a &&& Tab.usedP n L := ⟨_, rfl⟩
  rw [← ha'] at hband haU ⊢
  refine Build.two (q := .i64) (e := 3) (by kernel_rfl) (by kernel_rfl) (by kernel_rfl) ?_
  rw [show icells .i64 [(a' : Int), (v : Int)] = List.toArray [.int .i64 (a' : Int), .int .i64 (v : Int)] from rfl]
  intro b12 _
  refine St.whole (r := [.int .i64 (a' : Int), .int .i64 (v : Int)]) (by exact .head _) rfl rfl (by simp [Value.oneCell']) ?_
  refine Nil.ptr ?_
  refine FAddr.mk (Ld.mk (by repeat (first | assumption | exact List.Mem.head _ | apply List.Mem.tail | apply List.mem_append_right)) rfl ?_)
  refine LdA.whole (r := [.int .i64 (a' : Int), .int .i64 (v : Int)]) (by exact .head _) rfl ?_
  obtain ⟨⟨m1, hE1, hm1⟩, hdow⟩ := hM
  have hret : ∀ J : List Value → Hp → Prop, (∀ w25 : Value, ∀ H24 : Hp, (∀ gs23 : Fr, FnR (fun r H' => r = .int .i64 ((Tab.lvl n L a' v : Nat) : Int) ∧ PlanH bp bl bd lst n L (Tab.usedP n L) B H') (.returned w25) H24) → J [w25] H24) →
      ∀ es1' ck1', PlanM n L es1' ck1' es2 ck2 → J [.int .i64 ((Tab.lvl n L a' v : Nat) : Int)] ((bp, .cells #[lst, .int .i64 (n : Int), .int .i64 ((Tab.usedP n L : Nat) : Int), .map (some bl), .map (some bd)] 60 (0, 0)) :: (bl, .map es1' ck1') :: (bd, .map es2 ck2) :: B) :=
    fun J hJ es1' ck1' hM => hJ _ _ fun gs => FnR.here ⟨rfl, es1', ck1', es2, ck2, rfl, hM⟩
  cases hg : mget m1 (a', v) with
  | some x =>
    have hx := mget_all (f := fun k => Tab.lvl n L k.1 k.2) hm1 hg
    simp only at hx
    refine Ents.hitS (ke := kp) (k := (a', v)) kp_eq kp_chk hE1 (by exact .tail _ (.tail _ (.head _))) hg fun y hy => ?_
    subst hy
    refine Ext.mk rfl (Ext.mk rfl ?_)
    intro J hJ
    refine Un.not (Br.no (JE.of .tail ?_))
    rw [hx]
    exact hret J hJ _ _ ⟨⟨m1, hE1, hm1⟩, hdow⟩
  | none =>
    refine Ents.missS (ke := kp) (k := (a', v)) kp_eq kp_chk hE1 (by exact .tail _ (.tail _ (.head _))) hg ?_
    refine Ext.mk rfl (Ext.mk rfl ?_)
    intro J hJ
    refine Un.not (Br.yes ?_)
    refine DR.self ?_
    refine Nil.ptr ?_
    refine FAddr.mk (Ld.mk (by repeat (first | assumption | exact List.Mem.head _ | apply List.Mem.tail | apply List.mem_append_right)) rfl ?_)
    refine ⟨b12, 0, .i64, 0, rfl, rfl, by decide, by decide, ?_⟩
    refine Ld.mk (v := .int .i64 (a' : Int)) (by exact .head _) rfl ?_
    refine ConvI.nat (by simp [lim]; omega) ?_
    refine CallF.rd (B := B) (.cons (.cons (.cons (.cons .here)))) (level_ok (n := n) (L := L) h.tb h.frm h.ne (by have := h.small; omega) haU hv hband) ?_
    rintro r rfl
    refine ⟨.refl _, Ext.mk rfl (Ext.mk rfl ?_)⟩
    refine DR.of (R := (b12, .cells (List.toArray [.int .i64 (a' : Int), .int .i64 (v : Int)]) 86 (0, 0)) :: (bp, .cells #[lst, .int .i64 (n : Int), .int .i64 ((Tab.usedP n L : Nat) : Int), .map (some bl), .map (some bd)] 60 (0, 0)) :: []) (.cons (.cons (fun g w h => (Own.left (B := _) (A := []) h)))) ?_
    refine Nil.ptr ?_
    refine FAddr.mk (Ld.mk (by repeat (first | assumption | exact List.Mem.head _ | apply List.Mem.tail | apply List.mem_append_right)) rfl ?_)
    refine LdA.whole (r := [.int .i64 (a' : Int), .int .i64 (v : Int)]) (by exact .head _) rfl ?_
    refine Ents.updS (ke := kp) (vr := vrN) (b := bl) (val := .int .i64 ((Tab.lvl n L a' v : Nat) : Int)) (k := (a', v)) (x := Tab.lvl n L a' v) kp_eq kp_chk kp_bits hE1 rfl fun es' ck' hE' => ⟨_, .tail (.tail (.head _)), ?_⟩
    have hm1' : ∀ x ∈ mset m1 (a', v) (Tab.lvl n L a' v), x.2 = Tab.lvl n L x.1.1 x.1.2 := mset_all (f := fun k : Nat × Nat => Tab.lvl n L k.1 k.2) (k := (a', v)) hm1
    have hM' : PlanM n L es' ck' es2 ck2 := ⟨⟨mset m1 (a', v) (Tab.lvl n L a' v), hE', hm1'⟩, hdow⟩
    exact JE.of .tail (hret J hJ es' ck' hM')

end Go.Proofs
