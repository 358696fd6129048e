import Derived.Test.YtilnmikgcbcmcaaGreatE6
set_option linter.unusedVariables false
set_option linter.unusedSimpArgs false
set_option linter.unusedSectionVars false
set_option maxRecDepth 100000
namespace Go.Proofs
open Go Go.Sx
open Bdd
def hiM (m j : Nat) : Nat := (m >>> j) <<< j
theorem hiM_bit (m j i : Nat) : (hiM m j).testBit i = (decide (j ≤ i) && m.testBit i) := by
  unfold hiM
  rw [Nat.testBit_shiftLeft, Nat.testBit_shiftRight]
  by_cases h : j ≤ i
  · simp [h]
  · simp [h]
theorem hiM_zero (m : Nat) : hiM m 0 = m := by simp [hiM]
theorem hiM_none {m j : Nat} (h : ∀ i, m.testBit i = true → i < j) : hiM m j = 0 := by
  apply Nat.eq_of_testBit_eq; intro i
  rw [hiM_bit, Nat.zero_testBit]
  by_cases h1 : j ≤ i
  · cases h2 : m.testBit i
    · simp
    · have := h i h2; omega
  · simp [h1]
theorem cube_zero (o : Nat) : cube 0 o = fun _ => true := by
  funext x; rw [cube_iff]; intro i h; simp at h
structure Lits (kp n : Nat) (K : Kd) (S : Nat → Bdd.Fn) (C : Hp) (r m o : Nat) : Prop where
  ks : KSt kp K S (List.range n) (List.range n) [] C
  n : K.n = n
  cap : K.cap = 400
  live : Bdd.live K.N r
  is : S r = cube m o
  hold : ∀ s, K.hold s = if s = r ∧ 2 ≤ r then 1 else 0
section
variable {kp n r m o : Nat} {K : Kd} {S : Nat → Bdd.Fn} {C : Hp}
theorem Lits.const (h : Lits kp n K S C r m o) : r < 2 → m = 0 ∧ r = 1 := fun hr => by
  have hint := h.ks.ok.mid.int
  have hm : m = 0 := by
    refine Nat.eq_of_testBit_eq fun i => ?_
    rw [Nat.zero_testBit]
    cases hb : m.testBit i with
    | false => rfl
    | true =>
      obtain ⟨x, hx⟩ := (cube_hangs (o := o)).2 hb
      rw [← h.is] at hx
      have : r = 0 ∨ r = 1 := by omega
      rcases this with rfl | rfl
      · exact (hx (by rw [hint.zero, hint.zero])).elim
      · exact (hx (by rw [hint.one, hint.one])).elim
  refine ⟨hm, ?_⟩
  have : r = 0 ∨ r = 1 := by omega
  rcases this with rfl | rfl
  · have := congrFun h.is 0
    rw [hint.zero, hm, cube_zero] at this
    cases this
  · rfl
theorem Lits.held (h : Lits kp n K S C r m o) (g : Bdd.Fn) : K.held S g ↔ m ≠ 0 ∧ g = cube m o := by
  constructor
  · rintro ⟨s, hs, rfl⟩
    have hs' : K.hold s ≠ 0 := hs
    rw [h.hold] at hs'
    by_cases e : s = r ∧ 2 ≤ r
    · obtain ⟨rfl, h2⟩ := e
      refine ⟨fun hm => ?_, h.is⟩
      have hint := h.ks.ok.mid.int
      have := h.ks.ok.wf.same h.ks.ok.lv hint h.live (.inl (show 1 < 2 by omega)) fun x => by rw [h.is, hm, cube_zero, hint.one]
      omega
    · rw [if_neg e] at hs'; exact absurd rfl hs'
  · rintro ⟨hm, rfl⟩
    have h2 : 2 ≤ r := Nat.le_of_not_lt fun hr => hm (h.const hr).1
    exact ⟨r, by show K.hold r ≠ 0; rw [h.hold, if_pos ⟨rfl, h2⟩]; decide, h.is.symm⟩
theorem Lits.size (h : Lits kp n K S C r m o) {ord : List Nat} (hp : ord.Perm (List.range n)) :
    ksz K S ord = ((List.range n).filter fun v => m.testBit v).length ∧ ∀ l, l + 1 < n → usz K.n ord l (K.held S) ≤ 2 * n := by
  have := cube_flat (n := n) h.held (by simp) List.nodup_range hp
  unfold ksz
  rw [h.n]
  exact this
theorem Lits.flat (h : Lits kp n K S C r m o) (hn : n ≤ 64) : Bdd.Alike (rm K S) (flat n ((List.range n).filter fun v => m.testBit v).length) (fun ord => ord.Perm (List.range n)) := by
  refine ⟨h.n, fun ord hp => (h.size hp).1, fun ord l hp hl => ?_, fun ord l hp hl => ?_⟩
  · have hl' : l + 1 < n := by have : l + 1 < K.n := hl; rwa [h.n] at this
    refine rm_fit.2 ?_
    unfold kfit
    have := (h.size hp).2 l hl'
    rw [h.cap]; omega
  · have hl' : l + 1 < n := by have : l + 1 < K.n := hl; rwa [h.n] at this
    exact (swp_perm (by rw [(perm_lt hp).1]; exact hl')).trans hp
theorem Lits.used (h : Lits kp n K S C r m o) (hn : n ≤ 64) : K.used ≤ 66 := by
  have h1 := kst_size h.ks
  have h2 := (h.size (.refl _)).1
  have h3 := List.length_filter_le (fun v => m.testBit v) (List.range n)
  rw [List.length_range] at h3
  omega
theorem lits_new {C : Hp} (hn : 1 ≤ n ∧ n ≤ 64) (h : KSt kp (K0 n 400) S0 (List.range n) (List.range n) [] C) : Lits kp n (K0 n 400) S0 C 1 0 o := by
  refine ⟨h, rfl, rfl, .inl (by omega), ?_, fun s => by rw [K0_hold, if_neg (by omega)]⟩
  rw [cube_zero]; rfl
theorem lits_step (h : Lits kp n K S C r m o) (hn : n ≤ 64) {u lo hi : Nat} (hu : u < n) (hm : ∀ i, m.testBit i = true → u < i) {m' : Nat} (hm' : ∀ i, m'.testBit i = (decide (i = u) || m.testBit i)) (hlh : (o.testBit u = true ∧ lo = 0 ∧ hi = r) ∨ (o.testBit u = false ∧ lo = r ∧ hi = 0)) :
    Fc Tryz.prog 11 #[ptr kp, .int .i64 (u : Int), u32 lo, u32 hi] C (fun w C' => ∃ r' K' S', w = .tuple #[u32 r', .int .i64 0] ∧ KSt kp K' S' (List.range n) (List.range n) [] C' ∧
      (∀ C2 K2, Fewer K' K2 r → KSt kp K2 S' (List.range n) (List.range n) [] C2 → Lits kp n K2 S' C2 r' m' o) ∧ (2 ≤ r → K'.hold r ≠ 0) ∧ r < 4294967296) := by
  have hint := h.ks.ok.mid.int
  have hb := h.ks.ok.below h.ks.od (l := u + 1) h.live (by rw [h.n]; omega) fun j hj => by
    have e : (List.range n).getD j 0 = j := lv_range (by omega)
    rw [e, h.is, cube_hangs]
    intro hh
    have := hm j hh; omega
  have hd0 : dep K.n (lv (List.range n)) K.N 0 = n := by rw [dep_none (h.ks.ok.wf.const (by omega)), h.n]
  have hlu : lv (List.range n) u = u := lv_range hu
  have l0 : Bdd.live K.N 0 := .inl (by omega)
  have hlt : lv (List.range n) u < dep K.n (lv (List.range n)) K.N lo ∧ lv (List.range n) u < dep K.n (lv (List.range n)) K.N hi := by
    rw [hlu]
    rcases hlh with ⟨_, rfl, rfl⟩ | ⟨_, rfl, rfl⟩
    · exact ⟨by rw [hd0]; exact hu, hb⟩
    · exact ⟨hb, by rw [hd0]; exact hu⟩
  have hll : Bdd.live K.N lo ∧ Bdd.live K.N hi := by
    rcases hlh with ⟨_, rfl, rfl⟩ | ⟨_, rfl, rfl⟩
    · exact ⟨l0, h.live⟩
    · exact ⟨h.live, l0⟩
  have hrl := h.ks.live_lt h.live
  have hite : Bdd.ite S ⟨u, lo, hi⟩ = cube m' o := by
    funext x
    rw [Bool.eq_iff_iff, cube_iff]
    have e0 : ∀ i, (m'.testBit i = true → x.testBit i = o.testBit i) ↔ ((i = u → x.testBit u = o.testBit u) ∧ (m.testBit i = true → x.testBit i = o.testBit i)) := fun i => by
      rw [hm', Bool.or_eq_true, decide_eq_true_iff]
      constructor
      · intro q; exact ⟨fun e => by have := q (.inl e); rwa [e] at this, fun e => q (.inr e)⟩
      · rintro ⟨q1, q2⟩ (e | e)
        · rw [e]; exact q1 e
        · exact q2 e
    have e1 : (∀ i, m'.testBit i = true → x.testBit i = o.testBit i) ↔ (x.testBit u = o.testBit u ∧ cube m o x = true) := by
      rw [cube_iff]
      constructor
      · intro q; exact ⟨((e0 u).1 (q u)).1 rfl, fun i => ((e0 i).1 (q i)).2⟩
      · rintro ⟨q1, q2⟩ i; exact (e0 i).2 ⟨fun _ => q1, q2 i⟩
    rw [e1, ← h.is]
    unfold Bdd.ite
    rcases hlh with ⟨ho, rfl, rfl⟩ | ⟨ho, rfl, rfl⟩
    · rw [ho]
      cases hx : x.testBit u <;> simp [hint.zero]
    · rw [ho]
      cases hx : x.testBit u <;> simp [hint.zero]
  refine (make_ok h.ks (v := u) (by rw [h.n]; exact hu) hll.1 hll.2 (.inr hlt)).mono ?_
  rintro w C' (⟨r', K', S', rfl, hK', mk⟩ | ⟨q, _, _, _, h2, hfull, _⟩ | ⟨_, _, hcap, _, _⟩)
  rotate_left
  · rw [h.hold] at hfull; split at hfull <;> omega
  · have := h.used hn
    rw [h.cap] at hcap; omega
  have hK'r : 2 ≤ r → K'.hold r ≠ 0 := fun h2 => by
    have a := h.hold r
    rw [if_pos ⟨rfl, h2⟩] at a
    have b := mk.hold r
    split at b <;> omega
  refine ⟨r', K', S', rfl, hK', fun C2 K2 hf hK2 => ?_, hK'r, by omega⟩
  have hrr : 2 ≤ r → r' ≠ r := fun h2 e => by
    have a := mk.is
    rw [e, mk.fn r h.live, h.is, hite] at a
    have h5 : hangs (cube m' o) u := cube_hangs.2 (by rw [hm']; simp)
    rw [← a, cube_hangs] at h5
    exact absurd (hm u h5) (Nat.lt_irrefl _)
  have hold2 : ∀ s, K2.hold s = if s = r' ∧ 2 ≤ r' then 1 else 0 := fun s => by
    rw [hf.hold, mk.hold, h.hold]
    by_cases c1 : s = r ∧ 2 ≤ r
    · have c2 : ¬ (s = r' ∧ 2 ≤ r') := fun c => hrr c1.2 (c.1.symm.trans c1.1)
      rw [if_pos c1, if_neg c2, if_pos c1, if_neg c2]
    · rw [if_neg c1, if_neg c1]
  refine ⟨hK2, by rw [hf.n, mk.n, h.n], by rw [hf.cap, mk.cap, h.cap], ?_, by rw [mk.is, hite], hold2⟩
  by_cases h2 : r' < 2
  · exact .inl h2
  · exact .inr (hK2.ok.mid.held r' (by rw [hold2, if_pos ⟨rfl, by omega⟩]; decide))
theorem at_eval {ord tr : List Nat} {C' : Hp} (h : Lits kp n K S C r m o) (hA : At kp K S ord tr C') {v : Nat} (hv : v < 18446744073709551616) : Rd Tryz.prog 20 #[ptr kp, u32 r, .int .u64 (v : Int)] C' (· = .tuple #[.bool (cube m o v), .bool true]) := by
  obtain ⟨K', S', lev', hK, hk⟩ := hA
  have hf : S' r = cube m o := by
    by_cases h2 : r < 2
    · obtain ⟨rfl, rfl⟩ := h.const h2
      rw [cube_zero]; exact funext hK.ok.mid.int.one
    · rw [hk.fn r (by rw [h.hold, if_pos ⟨rfl, by omega⟩]; decide), h.is]
  have hl : Bdd.live K'.N r := by
    by_cases h2 : r < 2
    · exact .inl h2
    · exact .inr (hK.ok.mid.held r (by rw [hk.hold, h.hold, if_pos ⟨rfl, by omega⟩]; decide))
  refine (eval_ok hK hl hv).mono ?_
  rintro v H ⟨rfl, rfl⟩
  exact ⟨rfl, by rw [hf]⟩
end
def fac : Nat → Nat
  | 0 => 1
  | k + 1 => fac k * (k + 1)
theorem fact_ok {w : Nat} (hw : 2 ≤ w ∧ w ≤ 4) (B : Hp) : Rd Tryz.prog 18 #[.int .i64 (w : Int)] B (· = .int .i64 (((chg w).length + 1 : Nat) : Int)) := by
  intro g
  refine L18_sound (R := FnR _) ?_
  unfold L18
  refine ⟨fun vs H => ∃ i : Nat, vs = [.int .i64 ((fac i : Nat) : Int), .int .i64 ((i + 1 : Nat) : Int)] ∧ H = B ∧ 1 ≤ i ∧ i ≤ w, fun vs _ => w + 1 - nAt vs 1, JE.mk ⟨1, rfl, rfl, by omega, by omega⟩, ?_⟩
  rintro w5 w6 H ⟨i, hv, rfl, h1, h2⟩ gs
  simp only [List.cons.injEq, and_true] at hv
  obtain ⟨rfl, rfl⟩ := hv
  have hf : fac i ≤ 24 := by
    have : i = 1 ∨ i = 2 ∨ i = 3 ∨ i = 4 := by omega
    rcases this with rfl | rfl | rfl | rfl <;> decide
  refine Bin.leN (Br.dec (fun hle => ?_) (fun hle => ?_))
  · refine Bin.mulN ?_ ?_
    · have : fac i * (i + 1) ≤ 24 * 5 := Nat.mul_le_mul hf (by omega)
      simp [lim]; omega
    refine Bin.addN (b := 1) (by simp [lim]; omega) ?_
    exact Back.of (.refl _) ⟨i + 1, rfl, rfl, by omega, by omega⟩ (by simp only [nAt]; omega)
  · obtain rfl : i = w := by omega
    refine RdR.mk (.refl _) ?_
    have : i = 2 ∨ i = 3 ∨ i = 4 := by omega
    rcases this with rfl | rfl | rfl <;> rfl
end Go.Proofs
set_option maxRecDepth 100000
namespace Go.Proofs
open Go Go.Sx
open Bdd
theorem mask_lt {m n : Nat} (hn : n ≤ 64) (h : ∀ i, m.testBit i = true → i < n) : m < 18446744073709551616 := by
  refine Nat.lt_of_lt_of_le (m := 2 ^ n) ?_ (Nat.pow_le_pow_right (n := 2) (by decide) hn)
  exact Nat.lt_pow_two_of_testBit m fun i hi => by
    cases hb : m.testBit i
    · rfl
    · have := h i hb; omega
theorem hiM_step {m u : Nat} : ∀ i, (hiM m u).testBit i = ((decide (i = u) && m.testBit u) || (hiM m (u + 1)).testBit i) := fun i => by
  rw [hiM_bit, hiM_bit]
  by_cases e : i = u
  · subst e; simp
  · have : decide (u ≤ i) = decide (u + 1 ≤ i) := decide_eq_decide.2 (by omega)
    rw [this]; simp [e]
theorem wide_ok {Y : Hp} {v1 v4 : Value} {n w l : Int} {lits : List Int} {pl : List Nat} (h1 : Ints .i64 Y v1 lits) (h4 : Ints .u64 Y v4 (iw pl)) (hl1 : lits.length * 8 ≤ 140737488351232) (hl4 : pl.length * 8 ≤ 140737488351232) (hpl : ∀ x ∈ pl, x < 18446744073709551616) :
    Rd Tryz.prog 3 #[.int .i64 n, v1, .int .i64 w, .int .i64 l, v4] Y (· = .bool true) := by
  intro g
  refine L3_sound (R := FnR _) ?_
  unfold L3
  refine CallF.rd .here (awake_ok Y) ?_
  rintro v rfl
  refine Un.not (Br.no ?_)
  refine Bin.lss ?_
  refine Grp.or (decide (64 < n)) (fun _ => Bin.gtr ⟨rfl, rfl⟩) (by simp) fun gs => ?_
  rw [← Bool.decide_or]
  refine Br.dec (fun hbad => RdR.mk (.refl _) rfl) (fun hn => ?_)
  obtain ⟨n, rfl⟩ : ∃ k : Nat, n = k := ⟨n.toNat, by omega⟩
  refine CallF.fn (args := #[.int .i64 (n : Int), .int .i64 ((400 : Nat) : Int)]) hnew (new_ok (n := n) (cap := 400) (by omega) (by decide)) ?_
  rintro v C ⟨kp, rfl, hK0⟩
  refine Ext.mk rfl (Ext.mk rfl ?_)
  refine Bin.neD ?_
  refine Grp.or false (fun _ => Bin.ptrNil ⟨rfl, rfl⟩) rfl fun gs => Br.no ?_
  refine h1.lenS ?_
  refine ⟨fun vs H => ∃ (m i : Nat), vs = [.int .u64 (m : Int), .int .i64 (i : Int)] ∧ H = C ++ Y ∧ i ≤ lits.length ∧ ∀ j, m.testBit j = true → j < n, fun vs _ => lits.length - nAt vs 1, JE.mk ⟨0, 0, rfl, rfl, Nat.zero_le _, by simp⟩, ?_⟩
  rintro w21 w22 H ⟨m, i, hv, rfl, hi, hm⟩ gs
  simp only [List.cons.injEq, and_true] at hv
  obtain ⟨rfl, rfl⟩ := hv
  have hmlt := mask_lt (by omega) hm
  refine Bin.ltN (Br.dec (fun hlt => ?_) (fun hlt => ?_))
  · intro J hJ
    have fin : ∀ m' : Nat, (∀ j, m'.testBit j = true → j < n) → J [.int .u64 (m' : Int)] (C ++ Y) := fun m' hm' => hJ _ _ fun gs => by
      refine Bin.addN (b := 1) (by simp [lim]; omega) ?_
      exact Back.of (.refl _) ⟨m', i + 1, rfl, rfl, hlt, hm'⟩ (by simp only [nAt]; omega)
    refine h1.ld (List.getElem?_eq_getElem hlt) (fun _ h => List.mem_append_right _ h) ?_
    generalize lits[i] = x
    refine Bin.geq ?_
    refine Grp.and (decide (x < (n : Int))) (fun _ => Bin.lss ⟨rfl, rfl⟩) (by simp) fun gs => ?_
    rw [← Bool.decide_and]
    refine Br.dec (fun hx => ?_) (fun hx => JE.mk (fin m hm))
    obtain ⟨x, rfl⟩ : ∃ k : Nat, x = k := ⟨x.toNat, by omega⟩
    have hx64 : 2 ^ x < 18446744073709551616 := Nat.lt_of_le_of_lt (Nat.pow_le_pow_right (n := 2) (by decide) (show x ≤ 63 by omega)) (by decide)
    refine Bin.shlN (a := 1) (by simp [IntKind.bits]; omega) (by rw [Nat.one_shiftLeft]; simpa [lim] using hx64) ?_
    rw [Nat.one_shiftLeft]
    refine Bin.orN (by simpa [lim] using hmlt) (by simpa [lim] using hx64) ?_
    refine JE.mk (fin _ fun j hj => ?_)
    rw [Nat.testBit_or, Bool.or_eq_true, Nat.testBit_two_pow, decide_eq_true_iff] at hj
    rcases hj with hj | hj
    · exact hm j hj
    · omega
  refine Bin.sub64 (c := (n : Int) - 1) rfl (by omega) ?_
  refine ⟨fun vs H => ∃ (r j : Nat) (K : Kd) (S : Nat → Bdd.Fn) (C' : Hp), vs = [u32 r, .int .i64 ((j : Int) - 1)] ∧ H = C' ++ Y ∧ j ≤ n ∧ Lits kp n K S C' r (hiM m j) m, fun vs _ => match vs with | [_, .int _ q] => (q + 1).toNat | _ => 0, JE.mk ⟨1, n, _, _, C, rfl, rfl, Nat.le_refl _, by rw [hiM_none hm]; exact lits_new (by omega) hK0⟩, ?_⟩
  rintro w42 w43 H ⟨r, j, K, S, C', hv, rfl, hj, hLi⟩ gs
  simp only [List.cons.injEq, and_true] at hv
  obtain ⟨rfl, rfl⟩ := hv
  refine Bin.geq (Br.dec (fun hge => ?_) (fun hge => ?_))
  · obtain ⟨u, rfl⟩ : ∃ u, j = u + 1 := ⟨j - 1, by omega⟩
    intro J hJ
    have eu : (((u + 1 : Nat) : Int) - 1) = (u : Int) := by omega
    rw [eu]
    have fin : ∀ (r' : Nat) K' S' C2, Lits kp n K' S' C2 r' (hiM m u) m → J [u32 r'] (C2 ++ Y) := fun r' K' S' C2 h' => hJ _ _ fun gs => by
      refine Bin.sub64 (c := (u : Int) - 1) (by omega) (by omega) ?_
      exact Back.of (.refl _) ⟨r', u, K', S', C2, rfl, rfl, by omega, h'⟩ (by dsimp only; omega)
    refine Bin.shrN (by simpa [lim] using hmlt) (Bin.modN (b := 2) (by decide) (Bin.eqN (b := 1) ?_))
    rw [dec_bit]
    refine Br.mk (fun hb => ?_) (fun hb => ?_)
    · refine CallF.fn (args := #[ptr kp, .int .i64 (u : Int), u32 0, u32 r]) .left (lits_step hLi (by omega) (u := u) (lo := 0) (hi := r) (by omega) (fun i hi => ?_) (m' := hiM m u) (fun i => by rw [hiM_step, hb, Bool.and_true]) (.inl ⟨hb, rfl, rfl⟩)) ?_
      · rw [hiM_bit, Bool.and_eq_true, decide_eq_true_iff] at hi; omega
      rintro v C2 ⟨r', K2, S2, rfl, hK2, hfin, hr, hr32⟩
      refine Ext.mk rfl (Ext.mk rfl ?_)
      intro J57 hJ57
      refine Bin.neD (Split.go (by decide) ?_)
      refine CallF.fn .left (drop_ok hK2 (r := r) hr32 hr) ?_
      rintro v C3 ⟨rfl, K3, hK3, hf3⟩
      refine Bin.neD (Pick.mk (JE.mk (hJ57 _ _ fun gs => Br.no ?_)))
      exact JE.mk (fin r' K3 S2 C3 (hfin C3 K3 hf3 hK3))
    · have e : hiM m (u + 1) = hiM m u := by
        apply Nat.eq_of_testBit_eq; intro i
        rw [hiM_step (m := m) (u := u), hb, Bool.and_false, Bool.false_or]
      rw [e] at hLi
      exact JE.mk (fin r K S C' hLi)
  obtain rfl : j = 0 := by omega
  rw [hiM_zero] at hLi
  have hA0 : At kp K S (List.range n) [] C' := hLi.ks.at'
  have hflat := hLi.flat (by omega)
  have hKn := hLi.n
  have hsz := (hLi.size (.refl _)).1
  generalize hs : ((List.range n).filter fun v => m.testBit v).length = s at *
  have hs64 : s ≤ 64 := by
    have := List.length_filter_le (fun v => m.testBit v) (List.range n)
    rw [List.length_range] at this; omega
  refine CallF.fn .left (at_order hA0) ?_
  rintro v67 H ⟨N, rfl, ho⟩
  rw [List.append_assoc]
  refine CallF.rd (.app .left) (at_live hA0) ?_
  rintro v rfl
  rw [hsz]
  refine CallF.rd (.app .left) (at_trail hA0) ?_
  rintro v rfl
  by_cases hbad : w < 2 ∨ 4 < w ∨ l < 0 ∨ (n : Int) - w < l
  · refine CallF.rd (B := C') (.app .left) (one_arg hA0 (by rw [hKn]; exact hbad)) ?_
    rintro v rfl
    refine Ext.mk rfl (Ext.mk rfl ?_)
    intro b77 _
    refine St.whole (r := [.int .i64 ((0 : Nat) : Int), .int .i64 ((0 : Nat) : Int), .int .i64 ((0 : Nat) : Int), .bool false]) (by exact .head _) rfl rfl (rep_one 0 0 0) ?_
    refine Bin.lss ?_
    refine Grp.or (decide (4 < w)) (fun _ => Bin.gtr ⟨rfl, rfl⟩) (by simp) fun gs => ?_
    rw [← Bool.decide_or]
    refine Grp.or (decide (l < 0)) (fun _ => Bin.lss ⟨rfl, rfl⟩) (by simp) fun gs => ?_
    rw [← Bool.decide_or]
    refine Grp.or (decide ((n : Int) - w < l)) (fun h => ?_) (by simp) fun gs => ?_
    · have h' := of_decide_eq_false h
      refine Bin.sub64 (c := (n : Int) - w) rfl (by omega) ?_
      exact Bin.gtr ⟨rfl, rfl⟩
    rw [← Bool.decide_or]
    refine Br.decT (by omega) ?_
    refine Bin.eqD ?_
    refine Grp.and true (fun _ => ?_) rfl fun gs => ?_
    · refine LdA.whole (r := [.int .i64 ((0 : Nat) : Int), .int .i64 ((0 : Nat) : Int), .int .i64 ((0 : Nat) : Int), .bool false]) (by exact .head _) rfl ?_
      refine Build.mk (cs := [.int .i64 ((0 : Nat) : Int), .int .i64 ((0 : Nat) : Int), .int .i64 ((0 : Nat) : Int), .bool false]) (by kernel_rfl) ?_
      exact repEq (neq := false) (x := .tmp 128) (y := .tmp 129) (by kernel_rfl) (a1 := 0) (a2 := 0) (a3 := 0) (b1 := 0) (b2 := 0) (b3 := 0) rfl rfl ⟨rfl, rfl⟩
    · exact RdR.mk (.skip (.skips .right)) rfl
  · obtain ⟨w, rfl⟩ : ∃ k : Nat, w = k := ⟨w.toNat, by omega⟩
    obtain ⟨p, rfl⟩ : ∃ k : Nat, l = k := ⟨l.toNat, by omega⟩
    have hw : 2 ≤ w ∧ w ≤ 4 := by omega
    have hcl := chg_len w
    refine CallF.fn (.app .left) (one_c hA0 hflat (.refl _) (w := w) (p := p) (a := s) (b := s) (cnt := 2 * (chg w).length) (pth := []) (ord' := List.range n) hw (by omega) (by simp) (flat_visit n s w p _) rfl rfl rfl) ?_
    rintro v C1 ⟨rfl, hA1⟩
    refine Ext.mk rfl (Ext.mk rfl ?_)
    intro b77 _
    refine St.whole (r := [.int .i64 (s : Int), .int .i64 (s : Int), .int .i64 ((2 * (chg w).length : Nat) : Int), .bool false]) (by exact .head _) rfl rfl (rep_one s s _) ?_
    refine Bin.lss ?_
    refine Grp.or (decide ((4 : Int) < w)) (fun _ => Bin.gtr ⟨rfl, rfl⟩) (by simp) fun gs => ?_
    rw [← Bool.decide_or]
    refine Grp.or (decide ((p : Int) < 0)) (fun _ => Bin.lss ⟨rfl, rfl⟩) (by simp) fun gs => ?_
    rw [← Bool.decide_or]
    refine Grp.or (decide ((n : Int) - w < p)) (fun h => ?_) (by simp) fun gs => ?_
    · refine Bin.sub64 (c := (n : Int) - w) rfl (by omega) ?_
      exact Bin.gtr ⟨rfl, rfl⟩
    rw [← Bool.decide_or]
    refine Br.decF (by omega) ?_
    have hnm : n + 1 - w = n - w + 1 := by omega
    have hpass : (flat n s).pass w (List.range n) = ([], (n - w + 1) * (2 * (chg w).length)) := by
      unfold Rm.pass
      rw [show (flat n s).n = n from rfl, flat_all, hnm]
    refine CallF.fn (.cons (.app .left)) (all_c hA1 hflat (.refl _) (w := w) (a := s) (b := s) (cnt := (n - w + 1) * (2 * (chg w).length)) (pth := []) (ord' := List.range n) hw (by omega) (by simp) hpass rfl rfl rfl) ?_
    rintro v C2 ⟨rfl, hA2⟩
    refine Ext.mk rfl (Ext.mk rfl ?_)
    intro b101 _
    refine St.whole (r := [.int .i64 (s : Int), .int .i64 (s : Int), .int .i64 (((n - w + 1) * (2 * (chg w).length) : Nat) : Int), .bool false]) (by exact .head _) rfl rfl (rep_one s s _) ?_
    refine CallF.rd .here (fact_ok hw _) ?_
    rintro v rfl
    refine Bin.subN (b := 1) (by simp [lim]; omega) (by omega) ?_
    rw [Nat.add_sub_cancel]
    refine Bin.mulN (a := 2) (by simp [lim]; omega) ?_
    refine Build.mk (cs := [.int .i64 (s : Int), .int .i64 (s : Int), .int .i64 ((2 * (chg w).length : Nat) : Int), .bool false]) (by kernel_rfl) ?_
    intro b109 _
    refine St.whole (r := [.int .i64 (s : Int), .int .i64 (s : Int), .int .i64 ((2 * (chg w).length : Nat) : Int), .bool false]) (by exact .head _) rfl rfl (rep_one s s _) ?_
    intro J112 hJ112
    have fin112 : J112 [.bool false] (C2 ++ Y) := by
      refine hJ112 _ _ fun gs => Br.no ?_
      clear hJ112
      refine BuildSl.ints3 (e := 29) (kd := .u64) (x := (m : Int)) (y := ((0 : Nat) : Int)) (z := ((9223372036854775807 : Nat) : Int)) (by kernel_rfl) (by kernel_rfl) (by kernel_rfl) fun bx => ?_
      have hmade := IOwn.made (T := 29) (kd := .u64) (b := bx) (iw [m, 0, 9223372036854775807])
      refine IOwn.appsH (C := [(bx, .cells (icells .u64 (iw [m, 0, 9223372036854775807])) 29 (0, 0))]) (c := fun X => X ++ (C2 ++ Y)) hmade .left (h4.mono fun _ h => List.mem_append_right _ (List.mem_append_right _ h)) (by rw [iw_length, iw_length]; simp; omega) (by rw [iw_length, iw_length]; simp; omega) fun v' N2 ho2 => ?_
      rw [← iw_append] at ho2
      have hpl2 : ∀ x ∈ [m, 0, 9223372036854775807] ++ pl, x < 18446744073709551616 := fun x hx => by
        rcases List.mem_append.1 hx with hx | hx
        · simp at hx; rcases hx with rfl | rfl | rfl
          · exact hmlt
          · decide
          · decide
        · exact hpl x hx
      have hlen2 : ([m, 0, 9223372036854775807] ++ pl).length ≤ 17592186043907 := by simp; omega
      generalize [m, 0, 9223372036854775807] ++ pl = pl2 at *
      refine ho2.lenS ?_
      rw [iw_length]
      refine ⟨fun vs H => ∃ i : Nat, vs = [.int .i64 (i : Int)] ∧ i ≤ pl2.length ∧ H = N2 ++ (C2 ++ Y), fun vs _ => pl2.length - nAt vs 0, JE.mk ⟨0, rfl, Nat.zero_le _, rfl⟩, ?_⟩
      rintro w127 H ⟨i, hv, hi, rfl⟩ gs
      simp only [List.cons.injEq, and_true] at hv
      subst hv
      refine Bin.ltN (Br.dec (fun hlt => ?_) (fun hlt => ?_))
      · have hxi : (iw pl2)[i]? = some ((pl2[i] : Nat) : Int) := by rw [iw_get (List.getElem?_eq_getElem hlt)]
        have hx := hpl2 _ (List.getElem_mem hlt)
        refine ho2.ld hxi (fun _ h => List.mem_append_left _ h) ?_
        refine CallF.rd (B := C2) (.app .left) (at_eval hLi hA2 hx) ?_
        rintro v rfl
        refine Ext.mk rfl (Ext.mk rfl ?_)
        refine Un.not ?_
        refine Grp.or false (fun _ => ?_) rfl fun gs => Br.no ?_
        · refine Bin.andN (by simpa [lim] using hx) (by simpa [lim] using hmlt) ?_
          refine Bin.eqN ?_
          refine Bin.neqB ⟨rfl, ?_⟩
          unfold cube
          rw [Nat.and_self]; simp
        · refine Bin.addN (b := 1) (by simp [lim]; omega) ?_
          exact Back.of (.refl _) ⟨i + 1, rfl, hlt, rfl⟩ (by simp only [nAt]; omega)
      · exact RdR.mk (.skips .right) rfl
    refine Bin.neD (Split.go (by decide) ?_)
    refine Bin.neD (Pick.mk (Split.go (by decide) ?_))
    refine LdA.whole (r := [.int .i64 (s : Int), .int .i64 (s : Int), .int .i64 ((2 * (chg w).length : Nat) : Int), .bool false]) (by exact .tail _ (.tail _ (.head _))) rfl ?_
    refine LdA.whole (r := [.int .i64 (s : Int), .int .i64 (s : Int), .int .i64 ((2 * (chg w).length : Nat) : Int), .bool false]) (by exact .head _) rfl ?_
    refine repEq (neq := true) (x := .tmp 152) (y := .tmp 153) (by kernel_rfl) (a1 := s) (a2 := s) (a3 := 2 * (chg w).length) (b1 := s) (b2 := s) (b3 := 2 * (chg w).length) rfl rfl ?_
    rw [decide_eq_true rfl, decide_eq_true rfl]
    refine Pick.mk (Split.go (by decide) ?_)
    refine FAddr.mk (Ld.mk (v := .int .i64 (((n - w + 1) * (2 * (chg w).length) : Nat) : Int)) (by exact .tail _ (.head _)) rfl ?_)
    refine Bin.subN (by simp [lim]; omega) (by omega) ?_
    refine Bin.addN (b := 1) (by simp [lim]; omega) ?_
    refine FAddr.mk (Ld.mk (v := .int .i64 ((2 * (chg w).length : Nat) : Int)) (by exact .head _) rfl ?_)
    have hmul : (n - w + 1) * (2 * (chg w).length) ≤ 64 * 46 := Nat.mul_le_mul (by omega) (by omega)
    refine Bin.mulN (by simp [lim]; omega) ?_
    refine Bin.neN ?_
    rw [decide_eq_false (fun h => h rfl)]
    refine Pick.mk (Split.go rfl ?_)
    refine FAddr.mk (Ld.mk (v := .int .i64 (s : Int)) (by exact .tail _ (.head _)) rfl ?_)
    refine Bin.neN ?_
    rw [decide_eq_false (fun h => h rfl)]
    refine Pick.mk (Split.go rfl ?_)
    refine CallF.fn (.cons (.cons (.cons (.app .left)))) (at_order hA2) ?_
    rintro v162 H ⟨N3, rfl, ho3⟩
    refine CallF.rd .here (isame_ok (ho.ints.mono fun _ h => .tail _ (.tail _ (.tail _ (List.mem_append_left _ h)))) (ho3.ints.mono fun _ h => .tail _ (.tail _ (.tail _ (List.mem_append_right _ (List.mem_append_left _ (List.mem_append_left _ h)))))) (by rw [iw_length]; simp; omega)) ?_
    rintro v rfl
    rw [decide_eq_true rfl]
    refine Un.not (Pick.mk (Split.go rfl ?_))
    rw [List.append_assoc]
    refine CallF.rd (B := C2) (.cons (.cons (.cons (.app (.app .left))))) (at_trail hA2) ?_
    rintro v rfl
    refine Bin.neN ?_
    rw [decide_eq_false (fun h => h rfl)]
    exact Pick.mk (JE.of (.skip (.skip (.skip (.skips .right)))) fin112)
end Go.Proofs
