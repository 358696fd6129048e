import Derived.Test.YtilnmikgcbcmcaaGreatF5
set_option linter.unusedVariables false
set_option linter.unusedSimpArgs false
set_option linter.unusedSectionVars false
set_option maxRecDepth 100000
namespace Go.Proofs
open Go Go.Sx
open Bdd
def hiM (m j : Nat) : Nat := (m >>> j) <<< j
theorem hiM_bit (m j i : Nat) : (hiM m j).testBit i = (decide (j ≤ i) && m.testBit i) := by
  unfold hiM
  rw [Nat.testBit_shiftLeft, Nat.testBit_shiftRight]
  by_cases h : j ≤ i
  · simp [h]
  · simp [h]
theorem hiM_zero (m : Nat) : hiM m 0 = m := by simp [hiM]
theorem hiM_none {m j : Nat} (h : ∀ i, m.testBit i = true → i < j) : hiM m j = 0 := by
  apply Nat.eq_of_testBit_eq; intro i
  rw [hiM_bit, Nat.zero_testBit]
  by_cases h1 : j ≤ i
  · cases h2 : m.testBit i
    · simp
    · have := h i h2; omega
  · simp [h1]
theorem cube_zero (o : Nat) : cube 0 o = fun _ => true := by
  funext x; rw [cube_iff]; intro i h; simp at h
structure Lits (kp n : Nat) (K : Kd) (S : Nat → Bdd.Fn) (C : Hp) (r m o : Nat) : Prop where
  ks : KSt kp K S (List.range n) (List.range n) [] C
  n : K.n = n
  cap : K.cap = 400
  live : Bdd.live K.N r
  is : S r = cube m o
  hold : ∀ s, K.hold s = if s = r ∧ 2 ≤ r then 1 else 0
section
variable {kp n r m o : Nat} {K : Kd} {S : Nat → Bdd.Fn} {C : Hp}
theorem Lits.const (h : Lits kp n K S C r m o) : r < 2 → m = 0 ∧ r = 1 := fun hr => by
  have hint := h.ks.ok.mid.int
  have hm : m = 0 := by
    refine Nat.eq_of_testBit_eq fun i => ?_
    rw [Nat.zero_testBit]
    cases hb : m.testBit i with
    | false => rfl
    | true =>
      obtain ⟨x, hx⟩ := (cube_hangs (o := o)).2 hb
      rw [← h.is] at hx
      have : r = 0 ∨ r = 1 := by omega
      rcases this with rfl | rfl
      · exact (hx (by rw [hint.zero, hint.zero])).elim
      · exact (hx (by rw [hint.one, hint.one])).elim
  refine ⟨hm, ?_⟩
  have : r = 0 ∨ r = 1 := by omega
  rcases this with rfl | rfl
  · have := congrFun h.is 0
    rw [hint.zero, hm, cube_zero] at this
    cases this
  · rfl
theorem Lits.held (h : Lits kp n K S C r m o) (g : Bdd.Fn) : K.held S g ↔ m ≠ 0 ∧ g = cube m o := by
  constructor
  · rintro ⟨s, hs, rfl⟩
    have hs' : K.hold s ≠ 0 := hs
    rw [h.hold] at hs'
    by_cases e : s = r ∧ 2 ≤ r
    · obtain ⟨rfl, h2⟩ := e
      refine ⟨fun hm => ?_, h.is⟩
      have hint := h.ks.ok.mid.int
      have := h.ks.ok.wf.same h.ks.ok.lv hint h.live (.inl (show 1 < 2 by omega)) fun x => by rw [h.is, hm, cube_zero, hint.one]
      omega
    · rw [if_neg e] at hs'; exact absurd rfl hs'
  · rintro ⟨hm, rfl⟩
    have h2 : 2 ≤ r := Nat.le_of_not_lt fun hr => hm (h.const hr).1
    exact ⟨r, by show K.hold r ≠ 0; rw [h.hold, if_pos ⟨rfl, h2⟩]; decide, h.is.symm⟩
theorem Lits.size (h : Lits kp n K S C r m o) {ord : List Nat} (hp : ord.Perm (List.range n)) :
    ksz K S ord = ((List.range n).filter fun v => m.testBit v).length ∧ ∀ l, l + 1 < n → usz K.n ord l (K.held S) ≤ 2 * n := by
  have := cube_flat (n := n) h.held (by simp) List.nodup_range hp
  unfold ksz
  rw [h.n]
  exact this
theorem Lits.flat (h : Lits kp n K S C r m o) (hn : n ≤ 64) : Bdd.Alike (rm K S) (flat n ((List.range n).filter fun v => m.testBit v).length) (fun ord => ord.Perm (List.range n)) := by
  refine ⟨h.n, fun ord hp => (h.size hp).1, fun ord l hp hl => ?_, fun ord l hp hl => ?_⟩
  · have hl' : l + 1 < n := by have : l + 1 < K.n := hl; rwa [h.n] at this
    refine rm_fit.2 ?_
    unfold kfit
    have := (h.size hp).2 l hl'
    rw [h.cap]; omega
  · have hl' : l + 1 < n := by have : l + 1 < K.n := hl; rwa [h.n] at this
    exact (swp_perm (by rw [(perm_lt hp).1]; exact hl')).trans hp
theorem Lits.used (h : Lits kp n K S C r m o) (hn : n ≤ 64) : K.used ≤ 66 := by
  have h1 := kst_size h.ks
  have h2 := (h.size (.refl _)).1
  have h3 := List.length_filter_le (fun v => m.testBit v) (List.range n)
  rw [List.length_range] at h3
  omega
theorem lits_new {C : Hp} (hn : 1 ≤ n ∧ n ≤ 64) (h : KSt kp (K0 n 400) S0 (List.range n) (List.range n) [] C) : Lits kp n (K0 n 400) S0 C 1 0 o := by
  refine ⟨h, rfl, rfl, .inl (by omega), ?_, fun s => by rw [K0_hold, if_neg (by omega)]⟩
  rw [cube_zero]; rfl
theorem lits_step (h : Lits kp n K S C r m o) (hn : n ≤ 64) {u lo hi : Nat} (hu : u < n) (hm : ∀ i, m.testBit i = true → u < i) {m' : Nat} (hm' : ∀ i, m'.testBit i = (decide (i = u) || m.testBit i)) (hlh : (o.testBit u = true ∧ lo = 0 ∧ hi = r) ∨ (o.testBit u = false ∧ lo = r ∧ hi = 0)) :
    Fc Tryz.prog 11 #[ptr kp, .int .i64 (u : Int), u32 lo, u32 hi] C (fun w C' => ∃ r' K' S', w = .tuple #[u32 r', .int .i64 0] ∧ KSt kp K' S' (List.range n) (List.range n) [] C' ∧
      (∀ C2 K2, Fewer K' K2 r → KSt kp K2 S' (List.range n) (List.range n) [] C2 → Lits kp n K2 S' C2 r' m' o) ∧ (2 ≤ r → K'.hold r ≠ 0) ∧ r < 4294967296) := by
  have hint := h.ks.ok.mid.int
  have hb := h.ks.ok.below h.ks.od (l := u + 1) h.live (by rw [h.n]; omega) fun j hj => by
    have e : (List.range n).getD j 0 = j := lv_range (by omega)
    rw [e, h.is, cube_hangs]
    intro hh
    have := hm j hh; omega
  have hd0 : dep K.n (lv (List.range n)) K.N 0 = n := by rw [dep_none (h.ks.ok.wf.const (by omega)), h.n]
  have hlu : lv (List.range n) u = u := lv_range hu
  have l0 : Bdd.live K.N 0 := .inl (by omega)
  have hlt : lv (List.range n) u < dep K.n (lv (List.range n)) K.N lo ∧ lv (List.range n) u < dep K.n (lv (List.range n)) K.N hi := by
    rw [hlu]
    rcases hlh with ⟨_, rfl, rfl⟩ | ⟨_, rfl, rfl⟩
    · exact ⟨by rw [hd0]; exact hu, hb⟩
    · exact ⟨hb, by rw [hd0]; exact hu⟩
  have hll : Bdd.live K.N lo ∧ Bdd.live K.N hi := by
    rcases hlh with ⟨_, rfl, rfl⟩ | ⟨_, rfl, rfl⟩
    · exact ⟨l0, h.live⟩
    · exact ⟨h.live, l0⟩
  have hrl := h.ks.live_lt h.live
  have hite : Bdd.ite S ⟨u, lo, hi⟩ = cube m' o := by
    funext x
    rw [Bool.eq_iff_iff, cube_iff]
    have e0 : ∀ i, (m'.testBit i = true → x.testBit i = o.testBit i) ↔ ((i = u → x.testBit u = o.testBit u) ∧ (m.testBit i = true → x.testBit i = o.testBit i)) := fun i => by
      rw [hm', Bool.or_eq_true, decide_eq_true_iff]
      constructor
      · intro q; exact ⟨fun e => by have := q (.inl e); rwa [e] at this, fun e => q (.inr e)⟩
      · rintro ⟨q1, q2⟩ (e | e)
        · rw [e]; exact q1 e
        · exact q2 e
    have e1 : (∀ i, m'.testBit i = true → x.testBit i = o.testBit i) ↔ (x.testBit u = o.testBit u ∧ cube m o x = true) := by
      rw [cube_iff]
      constructor
      · intro q; exact ⟨((e0 u).1 (q u)).1 rfl, fun i => ((e0 i).1 (q i)).2⟩
      · rintro ⟨q1, q2⟩ i; exact (e0 i).2 ⟨fun _ => q1, q2 i⟩
    rw [e1, ← h.is]
    unfold Bdd.ite
    rcases hlh with ⟨ho, rfl, rfl⟩ | ⟨ho, rfl, rfl⟩
    · rw [ho]
      cases hx : x.testBit u <;> simp [hint.zero]
    · rw [ho]
      cases hx : x.testBit u <;> simp [hint.zero]
  refine (make_ok h.ks (v := u) (by rw [h.n]; exact hu) hll.1 hll.2 (.inr hlt)).mono ?_
  rintro w C' (⟨r', K', S', rfl, hK', mk⟩ | ⟨q, _, _, _, h2, hfull, _⟩ | ⟨_, _, hcap, _, _⟩)
  rotate_left
  · rw [h.hold] at hfull; split at hfull <;> omega
  · have := h.used hn
    rw [h.cap] at hcap; omega
  have hK'r : 2 ≤ r → K'.hold r ≠ 0 := fun h2 => by
    have a := h.hold r
    rw [if_pos ⟨rfl, h2⟩] at a
    have b := mk.hold r
    split at b <;> omega
  refine ⟨r', K', S', rfl, hK', fun C2 K2 hf hK2 => ?_, hK'r, by omega⟩
  have hrr : 2 ≤ r → r' ≠ r := fun h2 e => by
    have a := mk.is
    rw [e, mk.fn r h.live, h.is, hite] at a
    have h5 : hangs (cube m' o) u := cube_hangs.2 (by rw [hm']; simp)
    rw [← a, cube_hangs] at h5
    exact absurd (hm u h5) (Nat.lt_irrefl _)
  have hold2 : ∀ s, K2.hold s = if s = r' ∧ 2 ≤ r' then 1 else 0 := fun s => by
    rw [hf.hold, mk.hold, h.hold]
    by_cases c1 : s = r ∧ 2 ≤ r
    · have c2 : ¬ (s = r' ∧ 2 ≤ r') := fun c => hrr c1.2 (c.1.symm.trans c1.1)
      rw [if_pos c1, if_neg c2, if_pos c1, if_neg c2]
    · rw [if_neg c1, if_neg c1]
  refine ⟨hK2, by rw [hf.n, mk.n, h.n], by rw [hf.cap, mk.cap, h.cap], ?_, by rw [mk.is, hite], hold2⟩
  by_cases h2 : r' < 2
  · exact .inl h2
  · exact .inr (hK2.ok.mid.held r' (by rw [hold2, if_pos ⟨rfl, by omega⟩]; decide))
theorem at_eval {ord tr : List Nat} {C' : Hp} (h : Lits kp n K S C r m o) (hA : At kp K S ord tr C') {v : Nat} (hv : v < 18446744073709551616) : Rd Tryz.prog 36 #[ptr kp, u32 r, .int .u64 (v : Int)] C' (· = .tuple #[.bool (cube m o v), .bool true]) := by
  obtain ⟨K', S', lev', hK, hk⟩ := hA
  have hf : S' r = cube m o := by
    by_cases h2 : r < 2
    · obtain ⟨rfl, rfl⟩ := h.const h2
      rw [cube_zero]; exact funext hK.ok.mid.int.one
    · rw [hk.fn r (by rw [h.hold, if_pos ⟨rfl, by omega⟩]; decide), h.is]
  have hl : Bdd.live K'.N r := by
    by_cases h2 : r < 2
    · exact .inl h2
    · exact .inr (hK.ok.mid.held r (by rw [hk.hold, h.hold, if_pos ⟨rfl, by omega⟩]; decide))
  refine (eval_ok hK hl hv).mono ?_
  rintro v H ⟨rfl, rfl⟩
  exact ⟨rfl, by rw [hf]⟩
end
end Go.Proofs
set_option maxRecDepth 100000
namespace Go.Proofs
open Go Go.Sx
open Bdd
theorem dec_bit0 (a k : Nat) : decide ((a >>> k) % 2 = 0) = !a.testBit k := by
  have h := dec_bit a k
  cases hb : a.testBit k
  · rw [hb] at h
    have := of_decide_eq_false h
    exact decide_eq_true (by omega)
  · rw [hb] at h
    have := of_decide_eq_true h
    exact decide_eq_false (by omega)
theorem mask_lt {m n : Nat} (hn : n ≤ 64) (h : ∀ i, m.testBit i = true → i < n) : m < 18446744073709551616 := by
  refine Nat.lt_of_lt_of_le (m := 2 ^ n) ?_ (Nat.pow_le_pow_right (n := 2) (by decide) hn)
  exact Nat.lt_pow_two_of_testBit m fun i hi => by
    cases hb : m.testBit i
    · rfl
    · have := h i hb; omega
theorem hiM_step {m u : Nat} : ∀ i, (hiM m u).testBit i = ((decide (i = u) && m.testBit u) || (hiM m (u + 1)).testBit i) := fun i => by
  rw [hiM_bit, hiM_bit]
  by_cases e : i = u
  · subst e; simp
  · have : decide (u ≤ i) = decide (u + 1 ≤ i) := decide_eq_decide.2 (by omega)
    rw [this]; simp [e]
theorem Bin.half {x : Int} {k : Value → Prop} (hx : -9223372036854775808 ≤ x ∧ x ≤ 9223372036854775807) (h : ∀ y : Int, (0 ≤ x → y = x / 2) → k (.int .i64 y)) : Bin .num .quo (.int .i64 x) (.int .i64 2) k := by
  by_cases h0 : 0 ≤ x
  · have e : x.tdiv 2 = x / 2 := Int.tdiv_eq_ediv_of_nonneg h0
    exact Bin.quo64 (c := x / 2) (by decide) e (by omega) (h _ fun _ => rfl)
  · obtain ⟨y, rfl⟩ : ∃ y : Int, x = -y := ⟨-x, by omega⟩
    have e : (-y).tdiv 2 = -(y / 2) := by rw [Int.neg_tdiv, Int.tdiv_eq_ediv_of_nonneg (by omega)]
    exact Bin.quo64 (c := -(y / 2)) (by decide) e (by omega) (h _ fun h => absurd h h0)
section
variable {kp n r m o : Nat} {K : Kd} {S : Nat → Bdd.Fn} {C : Hp}
theorem wide_to (h : Lits kp n K S C r m o) (hn : n ≤ 64) (v l : Int) :
    Fc Tryz.prog 33 #[ptr kp, .int .i64 v, .int .i64 l] C (fun w C' => ∃ (c e : Int) (ord tr : List Nat), w = .tuple #[.int .i64 c, .int .i64 e] ∧ (e = 0 ↔ (0 ≤ v ∧ v < n ∧ 0 ≤ l ∧ l < n)) ∧ ord.Perm (List.range n) ∧ tr.length ≤ 128 ∧ At kp K S ord tr C') := by
  have hA : At kp K S (List.range n) [] C := h.ks.at'
  have hKn := h.n
  by_cases hl : l < 0 ∨ (n : Int) ≤ l
  · refine (to_arg hA v (l := l) (by rw [hKn]; exact hl)).mono ?_
    rintro w H ⟨rfl, rfl⟩
    exact ⟨0, 1, _, _, rfl, by omega, .refl _, by simp, hA⟩
  · obtain ⟨l, rfl⟩ : ∃ k : Nat, l = k := ⟨l.toNat, by omega⟩
    by_cases hv : v < 0 ∨ (n : Int) ≤ v
    · refine (to_var hA (v := v) (l := l) (by rw [hKn]; exact hv) (by omega)).mono ?_
      rintro w H ⟨rfl, rfl⟩
      exact ⟨0, 2, _, _, rfl, by omega, .refl _, by simp, hA⟩
    · obtain ⟨v, rfl⟩ : ∃ k : Nat, v = k := ⟨v.toNat, by omega⟩
      refine (to_ok hA (v := v) (l := l) (by omega) (by omega) (by simp)).mono ?_
      rintro w H ⟨p, hp, he, hM⟩
      have hls : ∀ x ∈ road p l, x + 1 < K.n := fun x hx => road_mem hp (by omega) hx
      have hc := (h.flat hn).can (ls := road p l) hls (.refl _)
      have hrl := road_len p l
      rcases hM with ⟨_, rfl, h'⟩ | ⟨h0, _, _⟩
      · exact ⟨_, 0, _, _, rfl, by omega, swps_perm (by rw [List.length_range, ← hKn]; exact hls), by rw [List.nil_append]; omega, h'⟩
      · rw [hc.1, flat_can] at h0; cases h0
theorem wide_order (h : Lits kp n K S C r m o) (hn : n ≤ 64) {ord tr : List Nat} {C' Y : Hp} (hA : At kp K S ord tr C') (hp : ord.Perm (List.range n)) (ht : tr.length ≤ 128) {v : Value} {to : List Int} (hI : Ints .i64 Y v to) (hmax : to.length ≤ 70368744177664) :
    Fc Tryz.prog 34 #[ptr kp, v] (Y ++ C') (fun w H => ∃ (c e : Int) (ord2 tr2 : List Nat) (C2 : Hp), w = .tuple #[.int .i64 c, .int .i64 e] ∧ H = Y ++ C2 ∧ (e = 0 ↔ (allIn to ∧ to.length ≤ 64 ∧ to.length = n)) ∧ (e = 0 → iw ord2 = to) ∧ ord2.Perm (List.range n) ∧ At kp K S ord2 tr2 C2) := by
  have hKn := h.n
  by_cases hb : allIn to ∧ to.length ≤ 64 ∧ to.length = K.n
  · obtain ⟨q, rfl, hq⟩ := allIn_nat hb.1
    rw [hb.2.2] at hq
    have hq' : q.Perm (List.range n) := by rw [← hKn]; exact hq
    refine (order_ok hA hI (by rw [hKn]; exact hp) hq (by omega)).mono ?_
    rintro w H ⟨C2, rfl, hM⟩
    obtain ⟨h1, h2⟩ := path_ok (hq'.nodup_iff.2 List.nodup_range) (hp.trans hq'.symm)
    have hol : ord.length = n := by rw [hp.length_eq, List.length_range]
    have hc := (h.flat hn).can (ls := path ord q) (fun x hx => by have := h2 x hx; have e : (rm K S).n = K.n := rfl; omega) hp
    rcases hM with ⟨_, rfl, h'⟩ | ⟨h0, _, _⟩
    · rw [h1] at h'
      exact ⟨_, 0, q, _, C2, rfl, rfl, by rw [hKn] at hb; exact ⟨fun _ => hb, fun _ => rfl⟩, fun _ => rfl, hq', h'⟩
    · rw [hc.1, flat_can] at h0; cases h0
  · refine (order_bad hA hI hmax hb).mono ?_
    rintro w H ⟨rfl, rfl⟩
    exact ⟨0, 4, ord, tr, C', rfl, rfl, by rw [hKn] at hb; exact ⟨fun h => absurd h (by decide), fun h => absurd h hb⟩, fun h => absurd h (by decide), hp, hA⟩
end
theorem m_wide_ok {Y : Hp} {v1 v2 v5 : Value} {n v l : Int} {lits to : List Int} {pl : List Nat} (h1 : Ints .i64 Y v1 lits) (h2 : Ints .i64 Y v2 to) (h5 : Ints .u64 Y v5 (iw pl)) (hb1 : ∀ x ∈ lits, -9223372036854775808 ≤ x ∧ x ≤ 9223372036854775807)
    (hl1 : lits.length * 8 ≤ 140737488351232) (hl2 : to.length * 8 ≤ 140737488351232) (hl5 : pl.length * 8 ≤ 140737488351232) (hpl : ∀ x ∈ pl, x < 18446744073709551616) :
    Rd Tryz.prog 6 #[.int .i64 n, v1, v2, .int .i64 v, .int .i64 l, v5] Y (· = .bool true) := by
  intro g
  refine L6_sound (R := FnR _) ?_
  unfold L6
  refine CallF.rd .here (m_awake_ok Y) ?_
  rintro w rfl
  refine Un.not (Br.no ?_)
  refine Bin.lss ?_
  refine Grp.or (decide (64 < n)) (fun _ => Bin.gtr ⟨rfl, rfl⟩) (by simp) fun gs => ?_
  rw [← Bool.decide_or]
  refine Br.dec (fun hbad => RdR.mk (.refl _) rfl) (fun hn => ?_)
  obtain ⟨n, rfl⟩ : ∃ k : Nat, n = k := ⟨n.toNat, by omega⟩
  refine CallF.fn (args := #[.int .i64 (n : Int), .int .i64 ((400 : Nat) : Int)]) hnew (new_ok (n := n) (cap := 400) (by omega) (by decide)) ?_
  rintro w C ⟨kp, rfl, hK0⟩
  refine Ext.mk rfl (Ext.mk rfl ?_)
  refine Bin.neD ?_
  refine Grp.or false (fun _ => Bin.ptrNil ⟨rfl, rfl⟩) rfl fun gs => Br.no ?_
  refine h1.lenS ?_
  refine ⟨fun vs H => ∃ (m o i : Nat), vs = [.int .u64 (m : Int), .int .u64 (o : Int), .int .i64 (i : Int)] ∧ H = C ++ Y ∧ i ≤ lits.length ∧ (∀ j, m.testBit j = true → j < n) ∧ ∀ j, o.testBit j = true → m.testBit j = true, fun vs _ => lits.length - nAt vs 2, JE.mk ⟨0, 0, 0, rfl, rfl, Nat.zero_le _, by simp, by simp⟩, ?_⟩
  rintro w21 w22 w23 H ⟨m, o, i, hv, rfl, hi, hm, ho⟩ gs
  simp only [List.cons.injEq, and_true] at hv
  obtain ⟨rfl, rfl, rfl⟩ := hv
  have hmlt := mask_lt (by omega) hm
  have holt := mask_lt (n := n) (by omega) fun j hj => hm j (ho j hj)
  refine Bin.ltN (Br.dec (fun hlt => ?_) (fun hlt => ?_))
  · intro J hJ
    have fin : ∀ m' o' : Nat, (∀ j, m'.testBit j = true → j < n) → (∀ j, o'.testBit j = true → m'.testBit j = true) → J [.int .u64 (m' : Int), .int .u64 (o' : Int)] (C ++ Y) := fun m' o' hm' ho' => hJ _ _ _ fun gs => by
      refine Bin.addN (b := 1) (by simp [lim]; omega) ?_
      exact Back.of (.refl _) ⟨m', o', i + 1, rfl, rfl, hlt, hm', ho'⟩ (by simp only [nAt]; omega)
    refine h1.ld (List.getElem?_eq_getElem hlt) (fun _ h => List.mem_append_right _ h) ?_
    have hx0 := hb1 _ (List.getElem_mem hlt)
    generalize lits[i] = x at *
    refine Bin.half hx0 fun y hy => ?_
    refine Bin.lss ?_
    refine Grp.or (decide ((n : Int) ≤ y)) (fun _ => Bin.geq ⟨rfl, rfl⟩) (by simp) fun gs => ?_
    rw [← Bool.decide_or]
    refine Br.dec (fun hx => JE.mk (fin m o hm ho)) (fun hx => ?_)
    obtain ⟨x, rfl⟩ : ∃ k : Nat, x = k := ⟨x.toNat, by omega⟩
    have hy' := hy (by omega)
    obtain ⟨u, rfl⟩ : ∃ k : Nat, y = k := ⟨y.toNat, by omega⟩
    have hun : u < n := by omega
    have hu64 : 2 ^ u < 18446744073709551616 := Nat.lt_of_le_of_lt (Nat.pow_le_pow_right (n := 2) (by decide) (show u ≤ 63 by omega)) (by decide)
    refine Bin.shlN (a := 1) (by simp [IntKind.bits]; omega) (by rw [Nat.one_shiftLeft]; simpa [lim] using hu64) ?_
    rw [Nat.one_shiftLeft]
    refine Bin.orN (by simpa [lim] using hmlt) (by simpa [lim] using hu64) ?_
    refine Bin.shlN (a := 1) (by simp [IntKind.bits]; omega) (by rw [Nat.one_shiftLeft]; simpa [lim] using hu64) ?_
    rw [Nat.one_shiftLeft]
    refine Bin.andnN (by simpa [lim] using holt) (by simpa [lim] using hu64) ?_
    refine Bin.modN (b := 2) (by decide) ?_
    refine ConvI.nat (by simp [lim]; omega) ?_
    have hsh : (x % 2) <<< u < 18446744073709551616 := by
      rw [Nat.shiftLeft_eq]
      have : x % 2 * 2 ^ u ≤ 1 * 2 ^ u := Nat.mul_le_mul_right _ (by omega)
      omega
    refine Bin.shlN (by simp [IntKind.bits]; omega) (by simpa [lim] using hsh) ?_
    have ha := andn_le o (2 ^ u)
    refine Bin.orN (by simp only [lim]; omega) (by simpa [lim] using hsh) ?_
    have hbit : ∀ j, ((x % 2) <<< u).testBit j = true → j = u := fun j hj => by
      rw [Nat.testBit_shiftLeft, Bool.and_eq_true, decide_eq_true_iff] at hj
      have : j - u = 0 := by
        refine Classical.byContradiction fun h0 => ?_
        have : (x % 2).testBit (j - u) = false := Nat.testBit_lt_two_pow (Nat.lt_of_lt_of_le (show x % 2 < 2 ^ 1 by omega) (Nat.pow_le_pow_right (n := 2) (by decide) (by omega)))
        rw [this] at hj; cases hj.2
      omega
    refine JE.mk (fin _ _ (fun j hj => ?_) fun j hj => ?_)
    · rw [Nat.testBit_or, Bool.or_eq_true, Nat.testBit_two_pow, decide_eq_true_iff] at hj
      rcases hj with hj | hj
      · exact hm j hj
      · omega
    · rw [Nat.testBit_or, Bool.or_eq_true, testBit_andn, Bool.and_eq_true] at hj
      rw [Nat.testBit_or, Bool.or_eq_true, Nat.testBit_two_pow, decide_eq_true_iff]
      rcases hj with hj | hj
      · exact .inl (ho j hj.1)
      · exact .inr (hbit j hj).symm
  refine Bin.sub64 (c := (n : Int) - 1) rfl (by omega) ?_
  refine ⟨fun vs H => ∃ (r j : Nat) (K : Kd) (S : Nat → Bdd.Fn) (C' : Hp), vs = [u32 r, .int .i64 ((j : Int) - 1)] ∧ H = C' ++ Y ∧ j ≤ n ∧ Lits kp n K S C' r (hiM m j) o, fun vs _ => match vs with | [_, .int _ q] => (q + 1).toNat | _ => 0, JE.mk ⟨1, n, _, _, C, rfl, rfl, Nat.le_refl _, by rw [hiM_none hm]; exact lits_new (by omega) hK0⟩, ?_⟩
  rintro w51 w52 H ⟨r, j, K, S, C', hv, rfl, hj, hLi⟩ gs
  simp only [List.cons.injEq, and_true] at hv
  obtain ⟨rfl, rfl⟩ := hv
  refine Bin.geq (Br.dec (fun hge => ?_) (fun hge => ?_))
  · obtain ⟨u, rfl⟩ : ∃ u, j = u + 1 := ⟨j - 1, by omega⟩
    intro J hJ
    have eu : (((u + 1 : Nat) : Int) - 1) = (u : Int) := by omega
    rw [eu]
    have fin : ∀ (r' : Nat) K' S' C2, Lits kp n K' S' C2 r' (hiM m u) o → J [u32 r'] (C2 ++ Y) := fun r' K' S' C2 h' => hJ _ _ fun gs => by
      refine Bin.sub64 (c := (u : Int) - 1) (by omega) (by omega) ?_
      exact Back.of (.refl _) ⟨r', u, K', S', C2, rfl, rfl, by omega, h'⟩ (by dsimp only; omega)
    refine Bin.shrN (by simpa [lim] using hmlt) (Bin.modN (b := 2) (by decide) (Bin.eqN (b := 0) ?_))
    rw [dec_bit0]
    refine Br.mk (fun hb => ?_) (fun hb => ?_)
    · have hb' : m.testBit u = false := by simpa using hb
      have e : hiM m (u + 1) = hiM m u := by
        apply Nat.eq_of_testBit_eq; intro i
        rw [hiM_step (m := m) (u := u), hb', Bool.and_false, Bool.false_or]
      rw [e] at hLi
      exact JE.mk (fin r K S C' hLi)
    · have hb' : m.testBit u = true := by simpa using hb
      intro J62 hJ62
      have fin62 : ∀ lo hi : Nat, ((o.testBit u = true ∧ lo = 0 ∧ hi = r) ∨ (o.testBit u = false ∧ lo = r ∧ hi = 0)) → J62 [u32 lo, u32 hi] (C' ++ Y) := fun lo hi hlh => hJ62 _ _ _ fun gs => by
        refine CallF.fn (args := #[ptr kp, .int .i64 (u : Int), u32 lo, u32 hi]) .left (lits_step hLi (by omega) (u := u) (lo := lo) (hi := hi) (by omega) (fun i hi => ?_) (m' := hiM m u) (fun i => by rw [hiM_step, hb', Bool.and_true]) hlh) ?_
        · rw [hiM_bit, Bool.and_eq_true, decide_eq_true_iff] at hi; omega
        rintro w C2 ⟨r', K2, S2, rfl, hK2, hfin, hr, hr32⟩
        refine Ext.mk rfl (Ext.mk rfl ?_)
        intro J57 hJ57
        refine Bin.neD (Split.go (by decide) ?_)
        refine CallF.fn .left (drop_ok hK2 (r := r) hr32 hr) ?_
        rintro w C3 ⟨rfl, K3, hK3, hf3⟩
        refine Bin.neD (Pick.mk (JE.mk (hJ57 _ _ fun gs => Br.no ?_)))
        exact JE.mk (fin r' K3 S2 C3 (hfin C3 K3 hf3 hK3))
      refine Bin.shrN (by simpa [lim] using holt) (Bin.modN (b := 2) (by decide) (Bin.eqN (b := 0) ?_))
      rw [dec_bit0]
      refine Br.mk (fun hc => JE.mk (fin62 r 0 (.inr ⟨by simpa using hc, rfl, rfl⟩))) (fun hc => JE.mk (fin62 0 r (.inl ⟨by simpa using hc, rfl, rfl⟩)))
  obtain rfl : j = 0 := by omega
  rw [hiM_zero] at hLi
  have hA0 : At kp K S (List.range n) [] C' := hLi.ks.at'
  have hKn := hLi.n
  refine CallF.rd .left (at_live hA0) ?_
  rintro w rfl
  refine CallF.fn .left (wide_to hLi (by omega) v l) ?_
  rintro w C1 ⟨c1, e1, ord1, tr1, rfl, he1, hp1, ht1, hA1⟩
  refine Ext.mk rfl (Ext.mk rfl ?_)
  refine Bin.geq ?_
  refine Grp.and (decide (v < (n : Int))) (fun _ => Bin.lss ⟨rfl, rfl⟩) (by simp) fun gs => ?_
  rw [← Bool.decide_and]
  refine Grp.and (decide (0 ≤ l)) (fun _ => Bin.geq ⟨rfl, rfl⟩) (by simp) fun gs => ?_
  rw [← Bool.decide_and]
  refine Grp.and (decide (l < (n : Int))) (fun _ => Bin.lss ⟨rfl, rfl⟩) (by simp) fun gs => ?_
  rw [← Bool.decide_and]
  refine Bin.eqD (Bin.neqB ?_)
  have eD : decide (((0 ≤ v ∧ v < (n : Int)) ∧ 0 ≤ l) ∧ l < (n : Int)) = decide (e1 = 0) := decide_eq_decide.2 ⟨fun h => he1.2 ⟨h.1.1.1, h.1.1.2, h.1.2, h.2⟩, fun h => let ⟨a, b, c, d⟩ := he1.1 h; ⟨⟨⟨a, b⟩, c⟩, d⟩⟩
  rw [eD, beq_self_eq_true]
  refine Br.no ?_
  refine CallF.pre (H' := Y ++ C1) (.perm List.perm_append_comm) ?_
  refine CallF.fn .here (wide_order hLi (by omega) hA1 hp1 ht1 h2 (by omega)) ?_
  rintro w H ⟨c2, e2, ord2, tr2, C2, rfl, rfl, he2, heq2, hp2, hA2⟩
  refine Ext.mk rfl (Ext.mk rfl ?_)
  intro J106 hJ106
  have fin106 : J106 [.bool false] (Y ++ C2) := by
    refine hJ106 _ _ fun gs => Br.no ?_
    clear hJ106
    refine CallF.rd (.app .here) (at_live hA2) ?_
    rintro w rfl
    rw [(hLi.size hp2).1, (hLi.size (.refl _)).1]
    refine Bin.neN (Br.decF (fun h => h rfl) ?_)
    refine Bin.xorN (by simpa [lim] using holt) (by simpa [lim] using hmlt) ?_
    refine BuildSl.ints3 (e := 29) (kd := .u64) (x := (o : Int)) (y := ((o ^^^ m : Nat) : Int)) (z := ((0 : Nat) : Int)) (by kernel_rfl) (by kernel_rfl) (by kernel_rfl) fun bx => ?_
    have hmade := IOwn.made (T := 29) (kd := .u64) (b := bx) (iw [o, o ^^^ m, 0])
    refine IOwn.appsH (C := [(bx, .cells (icells .u64 (iw [o, o ^^^ m, 0])) 29 (0, 0))]) (c := fun X => X ++ (Y ++ C2)) hmade .left (h5.mono fun _ h => List.mem_append_right _ (List.mem_append_left _ h)) (by rw [iw_length, iw_length]; simp; omega) (by rw [iw_length, iw_length]; simp; omega) fun v' N2 ho2 => ?_
    rw [← iw_append] at ho2
    have hpl2 : ∀ x ∈ [o, o ^^^ m, 0] ++ pl, x < 18446744073709551616 := fun x hx => by
      rcases List.mem_append.1 hx with hx | hx
      · simp at hx; rcases hx with rfl | rfl | rfl
        · exact holt
        · exact Nat.xor_lt_two_pow (n := 64) holt hmlt
        · decide
      · exact hpl x hx
    have hlen2 : ([o, o ^^^ m, 0] ++ pl).length ≤ 17592186043907 := by simp; omega
    generalize [o, o ^^^ m, 0] ++ pl = pl2 at *
    refine ho2.lenS ?_
    rw [iw_length]
    refine ⟨fun vs H => ∃ i : Nat, vs = [.int .i64 (i : Int)] ∧ i ≤ pl2.length ∧ H = N2 ++ (Y ++ C2), fun vs _ => pl2.length - nAt vs 0, JE.mk ⟨0, rfl, Nat.zero_le _, rfl⟩, ?_⟩
    rintro w127 H ⟨i, hv, hi, rfl⟩ gs
    simp only [List.cons.injEq, and_true] at hv
    subst hv
    refine Bin.ltN (Br.dec (fun hlt => ?_) (fun hlt => ?_))
    · have hxi : (iw pl2)[i]? = some ((pl2[i] : Nat) : Int) := by rw [iw_get (List.getElem?_eq_getElem hlt)]
      have hx := hpl2 _ (List.getElem_mem hlt)
      refine ho2.ld hxi (fun _ h => List.mem_append_left _ h) ?_
      refine CallF.rd (B := C2) (.app (.app .here)) (at_eval hLi hA2 hx) ?_
      rintro w rfl
      refine Ext.mk rfl (Ext.mk rfl ?_)
      refine Un.not ?_
      refine Grp.or false (fun _ => ?_) rfl fun gs => Br.no ?_
      · refine Bin.andN (by simpa [lim] using hx) (by simpa [lim] using hmlt) ?_
        refine Bin.eqN ?_
        refine Bin.neqB ⟨rfl, ?_⟩
        have eo : o &&& m = o := by
          apply Nat.eq_of_testBit_eq; intro j
          rw [Nat.testBit_and]
          cases hb : o.testBit j
          · rfl
          · rw [ho j hb]; rfl
        unfold cube
        rw [eo]; simp
      · refine Bin.addN (b := 1) (by simp [lim]; omega) ?_
        exact Back.of (.refl _) ⟨i + 1, rfl, hlt, rfl⟩ (by simp only [nAt]; omega)
    · exact RdR.mk (.skips .left) rfl
  have order_part : ∀ {K0 : List PanicEntry → Hp → Prop} (h0 : e2 = 0), CallF Tryz.prog g 13 #[ptr kp] (Y ++ C2) (fun v149 H150 => CallF Tryz.prog g 19 #[v149, v2] H150 (fun v151 H152 => Un .not v151 fun v153 => Pick (.bool true) v153 (.bool false) fun v154 => Pick (.bool false) (.bool true) v154 fun v155 => JE J106 [v155] H152) K0) K0 := fun {K0} h0 => by
    refine CallF.fn (.app .here) (at_order hA2) ?_
    rintro w H ⟨No, rfl, hO⟩
    have hO' := hO.ints
    rw [heq2 h0] at hO'
    refine CallF.rd .here (isame_ok (hO'.mono fun _ h => List.mem_append_right _ (List.mem_append_left _ h)) (h2.mono fun _ h => List.mem_append_left _ h) (by omega)) ?_
    rintro w rfl
    rw [decide_eq_true rfl]
    exact Un.not (Pick.mk (Pick.mk (JE.of (.prep .right _) fin106)))
  refine CallF.rd .left (docCheck_ok h2 (by omega)) ?_
  rintro w (⟨rfl, ha, hl⟩ | ⟨rfl, _, hl⟩ | ⟨rfl, hno⟩)
  · refine Bin.eqD (Split.go (by decide) (h2.lenS (Bin.eqN (Pick.mk ?_))))
    refine Bin.eqD (Bin.neqB ?_)
    have eD2 : decide (to.length = n) = decide (e2 = 0) := decide_eq_decide.2 ⟨fun h => he2.2 ⟨ha, hl, h⟩, fun h => (he2.1 h).2.2⟩
    show Split (.bool (!(decide (to.length = n) == decide (e2 = 0)))) _ _ _
    rw [eD2, beq_self_eq_true]
    refine Split.go rfl (Bin.eqD ?_)
    by_cases h0 : e2 = 0
    · rw [decide_eq_true h0]
      exact Split.go rfl (order_part h0)
    · rw [decide_eq_false h0]
      exact Split.past rfl (Pick.mk (Pick.mk (JE.mk fin106)))
  · have h0 : ¬ e2 = 0 := fun h => by have := (he2.1 h).2.1; omega
    refine Bin.eqD (Split.past (by decide) (Pick.mk ?_))
    refine Bin.eqD (Bin.neqB ?_)
    rw [decide_eq_false h0]
    refine Split.go rfl (Bin.eqD ?_)
    rw [decide_eq_false h0]
    exact Split.past rfl (Pick.mk (Pick.mk (JE.mk fin106)))
  · have h0 : ¬ e2 = 0 := fun h => hno (he2.1 h).1
    refine Bin.eqD (Split.past (by decide) (Pick.mk ?_))
    refine Bin.eqD (Bin.neqB ?_)
    rw [decide_eq_false h0]
    refine Split.go rfl (Bin.eqD ?_)
    rw [decide_eq_false h0]
    exact Split.past rfl (Pick.mk (Pick.mk (JE.mk fin106)))
end Go.Proofs
