import Derived.Test.YtilnmikgcbcmcaaGreatF4
import Derived.Test.YtilnmikgcbcmcaaGreatF2
import Derived.Deep.Slices
import Derived.SizedLaws
set_option linter.unusedVariables false
set_option linter.unusedSimpArgs false
set_option linter.unusedSectionVars false
set_option maxRecDepth 100000
namespace Go.Proofs
open Go Go.Sx
open Bdd
def At (kp : Nat) (K : Kd) (S : Nat → Bdd.Fn) (ord tr : List Nat) (C : Hp) : Prop := ∃ K' S' lev', KSt kp K' S' ord lev' tr C ∧ Kept K S K' S'
noncomputable def ksz (K : Kd) (S : Nat → Bdd.Fn) (ord : List Nat) : Nat := sz K.n ord (K.held S)
def kfit (K : Kd) (S : Nat → Bdd.Fn) (ord : List Nat) (l : Nat) : Prop := usz K.n ord l (K.held S) + 2 ≤ K.cap
section
variable {kp : Nat} {K : Kd} {S : Nat → Bdd.Fn} {ord tr : List Nat} {C : Hp}
theorem KSt.at' {lev : List Nat} (h : KSt kp K S ord lev tr C) : At kp K S ord tr C := ⟨K, S, lev, h, .refl _ _⟩
theorem kst_size {lev : List Nat} (h : KSt kp K S ord lev tr C) : K.used = ksz K S ord + 2 := by
  have h1 := sz_eq (h.ok.size h.od)
  have h2 := h.ok.mid.room
  unfold ksz
  omega
theorem kept_ksz {K' : Kd} {S' : Nat → Bdd.Fn} (h : Kept K S K' S') (ord : List Nat) : ksz K' S' ord = ksz K S ord := by
  unfold ksz; rw [h.n]; exact sz_congr h.held
theorem kept_kfit {K' : Kd} {S' : Nat → Bdd.Fn} (h : Kept K S K' S') (ord : List Nat) (l : Nat) : kfit K' S' ord l ↔ kfit K S ord l := by
  unfold kfit; rw [h.n, h.cap, usz_congr h.held]
theorem At.len (h : At kp K S ord tr C) : ord.length = K.n := by
  obtain ⟨K', S', lev', h, hk⟩ := h
  rw [← hk.n]; exact h.od.len
theorem At.n64 (h : At kp K S ord tr C) : K.n ≤ 64 := by
  obtain ⟨K', S', lev', h, hk⟩ := h
  obtain ⟨b, _, hO⟩ := h.rep
  rw [← hk.n]; exact hO.n64
theorem at_live (h : At kp K S ord tr C) : Rd Tryz.prog 14 #[ptr kp] C (· = .int .i64 ((ksz K S ord : Nat) : Int)) := by
  obtain ⟨K', S', lev', h, hk⟩ := h
  have hs := kst_size h
  have hc := h.ok.mid.cap
  refine (klive_n h.rep (by omega) (by omega)).mono ?_
  rintro v H ⟨rfl, rfl⟩
  exact ⟨rfl, by rw [hs, kept_ksz hk]; rfl⟩
theorem at_trail (h : At kp K S ord tr C) : Rd Tryz.prog 15 #[ptr kp] C (· = .int .i64 ((tr.length : Nat) : Int)) := by
  obtain ⟨K', S', lev', h, hk⟩ := h
  exact ktrail_ok h.rep
theorem at_vars (h : At kp K S ord tr C) : Rd Tryz.prog 56 #[ptr kp] C (· = .int .i64 ((K.n : Nat) : Int)) := by
  obtain ⟨K', S', lev', h, hk⟩ := h
  rw [← hk.n]; exact kvars_ok h.rep
theorem at_order (h : At kp K S ord tr C) : Fc Tryz.prog 13 #[ptr kp] C (fun r H => ∃ N, H = N ++ C ∧ IOwn 3 .i64 r (iw ord) N) := by
  obtain ⟨K', S', lev', h, hk⟩ := h
  exact korder_ok h.rep
theorem at_exch (h : At kp K S ord tr C) {l : Nat} (hl : l + 1 < K.n) (htr : tr.length < 1099511627776) (hf : kfit K S ord l) : Fc Tryz.prog 28 #[ptr kp, .int .i64 (l : Int)] C (fun r C' => r = .int .i64 0 ∧ At kp K S (swp ord l) (tr ++ [l]) C') := by
  obtain ⟨K', S', lev', h, hk⟩ := h
  refine (exch_ok h (by rw [hk.n]; exact hl) htr).mono ?_
  rintro v C' (⟨_, rfl, K2, S2, lev2, h2, hk2⟩ | ⟨hno, _, _⟩)
  · exact ⟨rfl, K2, S2, lev2, h2, hk.trans hk2⟩
  · have := (kept_kfit hk ord l).2 hf
    unfold kfit at this; omega
theorem at_exch_no (h : At kp K S ord tr C) {l : Nat} (hl : l + 1 < K.n) (htr : tr.length < 1099511627776) (hf : ¬ kfit K S ord l) : Rd Tryz.prog 28 #[ptr kp, .int .i64 (l : Int)] C (· = .int .i64 9) := by
  obtain ⟨K', S', lev', h, hk⟩ := h
  refine (exch_ok h (by rw [hk.n]; exact hl) htr).mono ?_
  rintro v C' (⟨hyes, _⟩ | ⟨hno, rfl, rfl⟩)
  · exact absurd ((kept_kfit hk ord l).1 hyes) hf
  · exact ⟨rfl, rfl⟩
theorem at_undo {l : Nat} (h : At kp K S ord (tr ++ [l]) C) (htr : tr.length < 1099511627776) : Fc Tryz.prog 29 #[ptr kp] C (fun r C' => r = .tuple #[.int .i64 (l : Int), .int .i64 0] ∧ At kp K S (swp ord l) tr C') := by
  obtain ⟨K', S', lev', h, hk⟩ := h
  refine (undo_ok h htr).mono ?_
  rintro v C' ⟨rfl, _, K2, S2, lev2, h2, hk2⟩
  exact ⟨rfl, K2, S2, lev2, h2, hk.trans hk2⟩
theorem back_ok {path : List Nat} (h : At kp K S (swps ord path) (tr ++ path) C) (hp : ∀ l ∈ path, l + 1 < K.n) {k : Nat} (hk : k ≤ path.length) (htr : (tr ++ path).length < 1099511627776) : Fc Tryz.prog 109 #[ptr kp, .int .i64 ((tr.length + k : Nat) : Int)] C (fun r C' =>
      r = .tuple #[.int .i64 ((path.length - k : Nat) : Int), .int .i64 0] ∧ At kp K S (swps ord (path.take k)) (tr ++ path.take k) C') := by
  have hlen := h.len
  rw [swps_len] at hlen
  rw [List.length_append] at htr
  intro g
  refine L109_sound (R := FnR _) ?_
  unfold L109
  refine Bin.ptrNil (Br.no ?_)
  intro J2 hJ2
  refine Bin.lss ?_
  rw [decide_eq_false (by omega)]
  refine Split.go rfl ?_
  refine CallF.rd .here (at_trail h) ?_
  rintro v rfl
  refine Bin.gtr ?_
  rw [decide_eq_false (by rw [List.length_append]; omega)]
  refine Pick.mk ?_
  refine JE.mk (hJ2 _ _ fun gs => Br.no ?_)
  refine ⟨fun vs H => ∃ m, m ≤ path.length ∧ k ≤ m ∧ vs = [.int .i64 ((path.length - m : Nat) : Int)] ∧ At kp K S (swps ord (path.take m)) (tr ++ path.take m) H, fun vs _ => path.length - nAt vs 0, JE.mk ⟨path.length, Nat.le_refl _, hk, by simp, by simpa using h⟩, ?_⟩
  rintro w H ⟨m, hm, hkm, hw, hat⟩ gs
  simp only [List.cons.injEq, and_true] at hw
  subst hw
  refine CallF.rd .here (at_trail hat) ?_
  rintro v rfl
  refine Bin.gtN (Br.dec (fun hlt => ?_) (fun hlt => ?_))
  · rw [List.length_append, List.length_take] at hlt
    obtain ⟨m, rfl⟩ : ∃ m', m = m' + 1 := ⟨m - 1, by omega⟩
    have e : path.take (m + 1) = path.take m ++ [path[m]] := by rw [List.take_add_one, List.getElem?_eq_getElem (by omega)]; rfl
    rw [e, ← List.append_assoc, swps_snoc] at hat
    refine CallF.fn .here (at_undo hat (by simp; omega)) ?_
    rintro v C' ⟨rfl, h'⟩
    rw [swp_swp (by rw [swps_len, hlen]; exact hp _ (List.getElem_mem _))] at h'
    refine Bin.addN (b := 1) (by simp [lim]; omega) ?_
    refine Back.of (.refl _) ⟨m, by omega, by omega, by rw [show path.length - (m + 1) + 1 = path.length - m by omega], h'⟩ ?_
    show path.length - (((path.length - (m + 1) + 1 : Nat) : Int).toNat) < path.length - (((path.length - (m + 1) : Nat) : Int).toNat)
    omega
  · rw [List.length_append, List.length_take] at hlt
    obtain rfl : m = k := by omega
    exact FnR.here ⟨rfl, hat⟩
end
end Go.Proofs
set_option maxRecDepth 100000
namespace Go.Proofs
open Go Go.Sx
open Bdd
noncomputable instance {K : Kd} {S : Nat → Bdd.Fn} {ord : List Nat} {l : Nat} : Decidable (kfit K S ord l) := Nat.decLe _ _
noncomputable def rm (K : Kd) (S : Nat → Bdd.Fn) : Rm := ⟨K.n, ksz K S, fun ord l => decide (kfit K S ord l)⟩
theorem rm_fit {K : Kd} {S : Nat → Bdd.Fn} {ord : List Nat} {l : Nat} : (rm K S).fit ord l = true ↔ kfit K S ord l := by
  show decide (kfit K S ord l) = true ↔ _
  exact decide_eq_true_iff
section
variable {kp b1 b18 w p : Nat} {K : Kd} {S : Nat → Bdd.Fn} {ord tr : List Nat} {B C : Hp}
end
end Go.Proofs
namespace Bdd
open Tab
def cube (m o : Nat) : Fn := fun x => decide (x &&& m = o &&& m)
theorem cube_iff {m o x : Nat} : cube m o x = true ↔ ∀ i, m.testBit i = true → x.testBit i = o.testBit i := by
  unfold cube
  rw [decide_eq_true_iff]
  constructor
  · intro h i hi
    have := congrArg (fun z => Nat.testBit z i) h
    simpa [Nat.testBit_and, hi] using this
  · intro h
    apply Nat.eq_of_testBit_eq; intro i
    rw [Nat.testBit_and, Nat.testBit_and]
    by_cases hi : m.testBit i = true
    · rw [h i hi]
    · simp [hi]
def clr (m v : Nat) : Nat := if m.testBit v then m ^^^ 2 ^ v else m
theorem testBit_clr (m v i : Nat) : (clr m v).testBit i = (m.testBit i && decide (i ≠ v)) := by
  unfold clr
  split
  · rename_i h
    rw [Nat.testBit_xor, Nat.testBit_two_pow]
    by_cases e : i = v
    · subst e; simp [h]
    · simp [e, Ne.symm e]
  · rename_i h
    by_cases e : i = v
    · subst e; simp [h]
    · simp [e]
theorem cube_set {m o v : Nat} {b : Bool} : (fun x => cube m o (setb x v b)) = if m.testBit v = true ∧ b ≠ o.testBit v then (fun _ => false) else cube (clr m v) o := by
  funext x
  split
  · rename_i h
    rw [← Bool.not_eq_true, cube_iff]
    intro h2
    have := h2 v h.1
    rw [testBit_setb, if_pos rfl] at this
    exact h.2 this
  · rename_i h
    rw [Bool.eq_iff_iff, cube_iff, cube_iff]
    constructor
    · intro h2 i hi
      rw [testBit_clr] at hi
      simp only [Bool.and_eq_true, decide_eq_true_eq] at hi
      have := h2 i hi.1
      rwa [testBit_setb, if_neg hi.2] at this
    · intro h2 i hi
      rw [testBit_setb]
      split
      · rename_i e
        subst e
        exact Classical.byContradiction fun hne => h ⟨hi, hne⟩
      · rename_i e
        exact h2 i (by rw [testBit_clr]; simp [hi, e])
theorem cube_hangs {m o v : Nat} : hangs (cube m o) v ↔ m.testBit v = true := by
  constructor
  · rintro ⟨x, hx⟩
    refine Classical.byContradiction fun h => hx ?_
    have h1 := congrFun (cube_set (m := m) (o := o) (v := v) (b := false)) x
    have h2 := congrFun (cube_set (m := m) (o := o) (v := v) (b := true)) x
    rw [if_neg (fun hh => h hh.1)] at h1 h2
    exact h1.trans h2.symm
  · intro h
    refine ⟨o, fun e => ?_⟩
    have h1 := congrFun (cube_set (m := m) (o := o) (v := v) (b := false)) o
    have h2 := congrFun (cube_set (m := m) (o := o) (v := v) (b := true)) o
    have h3 : cube (clr m v) o o = true := cube_iff.2 fun _ _ => rfl
    cases ho : o.testBit v with
    | true =>
      rw [if_pos ⟨h, by rw [ho]; decide⟩] at h1
      rw [if_neg (fun hh => hh.2 ho.symm), h3] at h2
      have : cube m o (setb o v false) = cube m o (setb o v true) := e
      have h1' : cube m o (setb o v false) = false := h1
      have h2' : cube m o (setb o v true) = true := h2
      rw [this, h2'] at h1'; cases h1'
    | false =>
      rw [if_pos ⟨h, by rw [ho]; decide⟩] at h2
      rw [if_neg (fun hh => hh.2 ho.symm), h3] at h1
      have : cube m o (setb o v false) = cube m o (setb o v true) := e
      have h1' : cube m o (setb o v false) = true := h1
      have h2' : cube m o (setb o v true) = false := h2
      rw [this, h2'] at h1'; cases h1'
def rest (m : Nat) (ord : List Nat) : Nat → Nat
  | 0 => m
  | k + 1 => clr (rest m ord k) (ord.getD k 0)
theorem rest_bit {m : Nat} {ord : List Nat} : ∀ {k i}, (rest m ord k).testBit i = true ↔ m.testBit i = true ∧ ∀ j, j < k → i ≠ ord.getD j 0
  | 0, i => by simp [rest]
  | k + 1, i => by
    rw [rest, testBit_clr, Bool.and_eq_true, rest_bit, decide_eq_true_iff]
    constructor
    · rintro ⟨⟨h1, h2⟩, h3⟩
      refine ⟨h1, fun j hj => ?_⟩
      by_cases e : j = k
      · subst e; exact h3
      · exact h2 j (by omega)
    · rintro ⟨h1, h2⟩
      exact ⟨⟨h1, fun j hj => h2 j (by omega)⟩, h2 k (by omega)⟩
section
variable {n m o : Nat} {ord : List Nat} {F : Fn → Prop}
theorem cube_fs (hF : ∀ g, F g ↔ m ≠ 0 ∧ g = cube m o) : ∀ k g, fs ord F k g → (g = fun _ => false) ∨ g = cube (rest m ord k) o
  | 0, g, h => .inr ((hF g).1 h).2
  | k + 1, g, h => by
    obtain ⟨f, hf, b, rfl⟩ := h
    rcases cube_fs hF k f hf with rfl | rfl
    · exact .inl rfl
    · rw [cube_set]
      split
      · exact .inl rfl
      · exact .inr rfl
theorem fs_cube (hF : ∀ g, F g ↔ m ≠ 0 ∧ g = cube m o) (hm : m ≠ 0) : ∀ k, fs ord F k (cube (rest m ord k) o)
  | 0 => (hF _).2 ⟨hm, rfl⟩
  | k + 1 => by
    refine ⟨_, fs_cube hF hm k, o.testBit (ord.getD k 0), ?_⟩
    rw [cube_set, if_neg (fun h => h.2 rfl)]
    rfl
theorem cube_nodes (hF : ∀ g, F g ↔ m ≠ 0 ∧ g = cube m o) (g : Fn) : NodeSet n ord F g ↔ ∃ k, k < n ∧ (rest m ord k).testBit (ord.getD k 0) = true ∧ g = cube (rest m ord k) o := by
  constructor
  · rintro ⟨k, hk, hf, hh⟩
    rcases cube_fs hF k g hf with rfl | rfl
    · obtain ⟨x, hx⟩ := hh
      exact (hx rfl).elim
    · exact ⟨k, hk, cube_hangs.1 hh, rfl⟩
  · rintro ⟨k, hk, hb, rfl⟩
    refine ⟨k, hk, fs_cube hF (fun e => ?_) k, cube_hangs.2 hb⟩
    subst e
    have := (rest_bit.1 hb).1
    simp at this
theorem getD_inj (hn : ord.Nodup) {i j : Nat} (hi : i < ord.length) (hj : j < ord.length) (e : ord.getD i 0 = ord.getD j 0) : i = j := by
  rw [List.getD_eq_getElem?_getD, List.getD_eq_getElem?_getD, List.getElem?_eq_getElem hi, List.getElem?_eq_getElem hj] at e
  exact (List.getElem_inj hn).1 e
theorem cube_cnt (hF : ∀ g, F g ↔ m ≠ 0 ∧ g = cube m o) (hl : ord.length = n) (hn : ord.Nodup) : Cnt (NodeSet n ord F) (ord.filter fun v => m.testBit v).length := by
  have hb : ∀ k, k < n → ((rest m ord k).testBit (ord.getD k 0) = true ↔ m.testBit (ord.getD k 0) = true) := fun k hk => by
    rw [rest_bit]
    refine ⟨fun h => h.1, fun h => ⟨h, fun j hj e => ?_⟩⟩
    have := getD_inj hn (by omega) (by omega) e
    omega
  let ks := (List.range n).filter fun k => m.testBit (ord.getD k 0)
  have hks : ∀ k, k ∈ ks ↔ k < n ∧ m.testBit (ord.getD k 0) = true := fun k => by simp [ks]
  have hlen : ks.length = (ord.filter fun v => m.testBit v).length := by
    have : ord = (List.range n).map fun k => ord.getD k 0 := by
      refine ext_getD (by simp [hl]) fun i hi => ?_
      simp [List.getD, List.getElem?_range (show i < n by omega), List.getElem?_eq_getElem hi]
    conv => rhs; rw [this]
    rw [List.filter_map, List.length_map]
    rfl
  refine ⟨ks.map fun k => cube (rest m ord k) o, ?_, by rw [List.length_map]; exact hlen, fun g => ?_⟩
  · refine List.pairwise_map.2 ((List.nodup_range.filter _).imp_of_mem fun {a b} ha hb' hne heq => ?_)
    have key : ∀ a b, a ∈ ks → a < b → cube (rest m ord a) o = cube (rest m ord b) o → False := fun a b ha hab he => by
      have h1 := (hb a ((hks a).1 ha).1).2 ((hks a).1 ha).2
      have h2 := cube_hangs (o := o).2 h1
      rw [he, cube_hangs] at h2
      exact (rest_bit.1 h2).2 a hab rfl
    rcases Nat.lt_trichotomy a b with h | h | h
    · exact key a b ha h heq
    · exact hne h
    · exact key b a hb' h heq.symm
  · rw [cube_nodes hF, List.mem_map]
    constructor
    · rintro ⟨k, hk, h1, rfl⟩
      exact ⟨k, (hks k).2 ⟨hk, (hb k hk).1 h1⟩, rfl⟩
    · rintro ⟨k, hk, rfl⟩
      have := (hks k).1 hk
      exact ⟨k, this.1, (hb k this.1).2 this.2, rfl⟩
theorem cube_sz (hF : ∀ g, F g ↔ m ≠ 0 ∧ g = cube m o) (hl : ord.length = n) (hn : ord.Nodup) : sz n ord F = (ord.filter fun v => m.testBit v).length := sz_eq (cube_cnt hF hl hn)
theorem usz_le {k k' l : Nat} (h : Cnt (NodeSet n ord F) k) (h' : Cnt (NodeSet n (swp ord l) F) k') : usz n ord l F ≤ k + k' := by
  unfold usz
  split
  · rename_i hh
    obtain ⟨l0, h1, h2, h3⟩ := Classical.choose_spec hh
    obtain ⟨l1, a1, a2, a3⟩ := h
    obtain ⟨l2, b1, b2, b3⟩ := h'
    have := length_le_of_sub (l' := l1 ++ l2) h1 fun g hg => by
      rcases (h3 g).2 hg with h | h
      · exact List.mem_append_left _ ((a3 g).1 h)
      · exact List.mem_append_right _ ((b3 g).1 h)
    rw [List.length_append] at this; omega
  · omega
theorem swp_perm {l : Nat} (hl : l + 1 < ord.length) : (swp ord l).Perm ord := by
  unfold swp
  have e1 : ord = ord.take l ++ ord.getD l 0 :: ord.getD (l + 1) 0 :: ord.drop (l + 2) := by
    conv => lhs; rw [← List.take_append_drop l ord]
    congr 1
    rw [List.drop_eq_getElem_cons (by omega), List.drop_eq_getElem_cons (by omega)]
    simp [List.getD, List.getElem?_eq_getElem (show l < ord.length by omega), List.getElem?_eq_getElem hl]
  have ht : (ord.take l).length = l := by simp; omega
  have e2 : (ord.set l (ord.getD (l + 1) 0)).set (l + 1) (ord.getD l 0) = ord.take l ++ ord.getD (l + 1) 0 :: ord.getD l 0 :: ord.drop (l + 2) := by
    generalize hx : ord.getD l 0 = x at *
    generalize hy : ord.getD (l + 1) 0 = y at *
    conv => lhs; rw [e1]
    rw [List.set_append_right _ _ (by omega), ht, Nat.sub_self, List.set_cons_zero, List.set_append_right _ _ (by omega), ht, Nat.add_sub_cancel_left, List.set_cons_succ, List.set_cons_zero]
  rw [e2]
  conv => rhs; rw [e1]
  exact List.Perm.append_left _ (List.Perm.swap _ _ _)
theorem swps_perm : ∀ {path : List Nat} {ord : List Nat}, (∀ l ∈ path, l + 1 < ord.length) → (swps ord path).Perm ord
  | [], _, _ => .refl _
  | l :: r, ord, h => by
    show (swps (swp ord l) r).Perm ord
    have h1 := h l (by simp)
    exact (swps_perm fun x hx => by rw [swp_len]; exact h x (by simp [hx])).trans (swp_perm h1)
theorem cube_flat (hF : ∀ g, F g ↔ m ≠ 0 ∧ g = cube m o) {ord0 : List Nat} (hl : ord0.length = n) (hn : ord0.Nodup) (hp : ord.Perm ord0) :
    sz n ord F = (ord0.filter fun v => m.testBit v).length ∧ ∀ l, l + 1 < n → usz n ord l F ≤ 2 * n := by
  have h1 : ord.length = n := by rw [hp.length_eq]; exact hl
  have h2 : ord.Nodup := hp.nodup_iff.2 hn
  refine ⟨by rw [cube_sz hF h1 h2]; exact (hp.filter _).length_eq, fun l hl' => ?_⟩
  have hp' := swp_perm (ord := ord) (l := l) (by omega)
  have a := cube_cnt hF h1 h2
  have b := cube_cnt (n := n) (ord := swp ord l) hF (by rw [swp_len]; exact h1) (hp'.nodup_iff.2 h2)
  have c := usz_le a b
  have d1 := List.length_filter_le (fun v => m.testBit v) ord
  have d2 := List.length_filter_le (fun v => m.testBit v) (swp ord l)
  rw [swp_len] at d2
  omega
end
section
variable {A B : Rm} {Q : List Nat → Prop}
structure Alike (A B : Rm) (Q : List Nat → Prop) : Prop where
  n : A.n = B.n
  size : ∀ ord, Q ord → A.size ord = B.size ord
  fit : ∀ ord l, Q ord → l + 1 < A.n → A.fit ord l = B.fit ord l
  swp : ∀ ord l, Q ord → l + 1 < A.n → Q (swp ord l)
theorem Alike.goes (h : Alike A B Q) {p : Nat} : ∀ {cs ord}, (∀ c ∈ cs, p + c + 1 < A.n) → Q ord → A.goes p cs ord = B.goes p cs ord
  | [], _, _, _ => rfl
  | c :: cs, ord, hc, hq => by
    have h1 := hc c (by simp)
    rw [Rm.goes, Rm.goes, h.fit ord _ hq h1, h.goes (fun c hc' => hc c (by simp [hc'])) (h.swp ord _ hq h1)]
theorem Alike.swps (h : Alike A B Q) : ∀ {path ord}, (∀ l ∈ path, l + 1 < A.n) → Q ord → Q (swps ord path)
  | [], _, _, hq => hq
  | l :: r, ord, hp, hq => h.swps (path := r) (ord := Bdd.swp ord l) (fun x hx => hp x (by simp [hx])) (h.swp ord l hq (hp l (by simp)))
end
def flat (n s : Nat) : Rm := ⟨n, fun _ => s, fun _ _ => true⟩
theorem flat_goes (n s p : Nat) : ∀ cs ord, (flat n s).goes p cs ord = cs.map (p + ·)
  | [], _ => rfl
  | c :: cs, ord => by rw [Rm.goes, flat_goes n s p cs, List.map_cons]; rfl
def rmT (n cap : Nat) (L : Tab.Fs) : Rm := ⟨n, fun ord => sizeN n ord L n, fun ord l => decide ((bothN n ord l L).length + 2 ≤ cap)⟩
end Bdd
set_option maxRecDepth 100000
namespace Go.Proofs
open Go Go.Sx
open Bdd
def rep (b a s : Nat) : Value := .agg #[.int .i64 (b : Int), .int .i64 (a : Int), .int .i64 (s : Int), .bool false]
section
variable {pp kp w p bf af sw : Nat} {K : Kd} {S : Nat → Bdd.Fn} {ord tr : List Nat} {B C : Hp}
end
end Go.Proofs
namespace Bdd
def bub (i : Nat) : Nat → List Nat
  | 0 => []
  | j + 1 => if i ≤ j then j :: bub i j else []
theorem bub_le {i j : Nat} (h : j ≤ i) : bub i j = [] := by
  cases j with
  | zero => rfl
  | succ j => rw [bub, if_neg (by omega)]
theorem bub_succ {i j : Nat} (h : i ≤ j) : bub i (j + 1) = j :: bub i j := by rw [bub, if_pos h]
theorem bub_mem {i l : Nat} : ∀ {j}, l ∈ bub i j → i ≤ l ∧ l < j
  | 0, h => by simp [bub] at h
  | j + 1, h => by
    by_cases e : i ≤ j
    · rw [bub_succ e] at h
      rcases List.mem_cons.1 h with rfl | h
      · omega
      · have := bub_mem h; omega
    · rw [bub_le (by omega)] at h; simp at h
theorem bub_len (i : Nat) : ∀ j, (bub i j).length = j - i
  | 0 => by simp [bub]
  | j + 1 => by
    by_cases e : i ≤ j
    · rw [bub_succ e, List.length_cons, bub_len i j]; omega
    · rw [bub_le (by omega)]; simp; omega
theorem bub_get {i k : Nat} : ∀ {j : Nat} {a : List Nat}, i ≤ j → j < a.length → (k ≤ i → (swps a (bub i j)).getD k 0 = if k = i then a.getD j 0 else a.getD k 0)
  | 0, a, hi, hj, hk => by
    obtain rfl : i = 0 := by omega
    obtain rfl : k = 0 := by omega
    simp [bub, swps]
  | j + 1, a, hi, hj, hk => by
    by_cases e : i ≤ j
    · rw [bub_succ e]
      show (swps (swp a j) (bub i j)).getD k 0 = _
      rw [bub_get (j := j) e (by rw [swp_len]; omega) hk, swp_get (by omega), swp_get (by omega)]
      by_cases h : k = i
      · subst h; simp
      · rw [if_neg h, if_neg h, if_neg (by omega), if_neg (by omega)]
    · obtain rfl : i = j + 1 := by omega
      rw [bub_le (Nat.le_refl _)]
      show a.getD k 0 = _
      split
      · rename_i h; rw [h]
      · rfl
def plc (p : List Nat) (x : Nat) : Nat := p.idxOf x
def pathN (p q : List Nat) : Nat → List Nat
  | 0 => []
  | i + 1 => pathN p q i ++ bub i (plc (swps p (pathN p q i)) (q.getD i 0))
def path (p q : List Nat) : List Nat := pathN p q q.length
theorem plc_lt {p : List Nat} {x : Nat} (h : x ∈ p) : plc p x < p.length := List.idxOf_lt_length_iff.2 h
theorem plc_get {p : List Nat} {x : Nat} (h : x ∈ p) : p.getD (plc p x) 0 = x := by
  have h1 := plc_lt h
  rw [List.getD_eq_getElem?_getD, List.getElem?_eq_getElem h1]
  show p[p.idxOf x] = x
  exact List.getElem_idxOf h1
section
variable {p q : List Nat}
theorem pathN_spec (hq : q.Nodup) (hp : p.Perm q) : ∀ i, i ≤ q.length → (∀ l ∈ pathN p q i, l + 1 < p.length) ∧ (∀ k, k < i → (swps p (pathN p q i)).getD k 0 = q.getD k 0) ∧ (i < q.length → i ≤ plc (swps p (pathN p q i)) (q.getD i 0) ∧ plc (swps p (pathN p q i)) (q.getD i 0) < p.length)
  | i, hi => by
    have hlen := hp.length_eq
    have base : (∀ l ∈ pathN p q i, l + 1 < p.length) ∧ (∀ k, k < i → (swps p (pathN p q i)).getD k 0 = q.getD k 0) := by
      cases i with
      | zero => exact ⟨fun l hl => by simp [pathN] at hl, fun k hk => absurd hk (Nat.not_lt_zero _)⟩
      | succ i =>
        obtain ⟨h1, h2, h3⟩ := pathN_spec hq hp i (by omega)
        obtain ⟨h4, h5⟩ := h3 (by omega)
        have hm : q.getD i 0 ∈ swps p (pathN p q i) := by
          have : q.getD i 0 ∈ q := by rw [List.getD_eq_getElem?_getD, List.getElem?_eq_getElem (show i < q.length by omega)]; exact List.getElem_mem _
          exact ((swps_perm h1).trans hp).mem_iff.2 this
        refine ⟨fun l hl => ?_, fun k hk => ?_⟩
        · rcases List.mem_append.1 hl with hl | hl
          · exact h1 l hl
          · have := bub_mem hl; omega
        · rw [pathN, swps_app, bub_get h4 (by rw [swps_len]; exact h5) (by omega)]
          split
          · rename_i e; subst e; exact plc_get hm
          · exact h2 k (by omega)
    refine ⟨base.1, base.2, fun hlt => ?_⟩
    have hm : q.getD i 0 ∈ swps p (pathN p q i) := by
      have : q.getD i 0 ∈ q := by rw [List.getD_eq_getElem?_getD, List.getElem?_eq_getElem hlt]; exact List.getElem_mem _
      exact ((swps_perm base.1).trans hp).mem_iff.2 this
    have h5 := plc_lt hm
    rw [swps_len] at h5
    refine ⟨?_, h5⟩
    refine Classical.byContradiction fun hlt2 => ?_
    have := base.2 _ (Nat.lt_of_not_le hlt2)
    rw [plc_get hm] at this
    have := getD_inj hq hlt (by omega) this
    omega
theorem path_ok (hq : q.Nodup) (hp : p.Perm q) : swps p (path p q) = q ∧ ∀ l ∈ path p q, l + 1 < p.length := by
  obtain ⟨h1, h2, _⟩ := pathN_spec hq hp q.length (Nat.le_refl _)
  refine ⟨ext_getD (by rw [swps_len]; exact hp.length_eq) fun i hi => h2 i ?_, h1⟩
  rw [swps_len, hp.length_eq] at hi; exact hi
theorem pathN_len (hq : q.Nodup) (hp : p.Perm q) : ∀ i, i ≤ q.length → (pathN p q i).length ≤ i * p.length
  | 0, _ => by simp [pathN]
  | i + 1, hi => by
    have := pathN_len hq hp i (by omega)
    obtain ⟨_, _, h3⟩ := pathN_spec hq hp i (by omega)
    rw [pathN, List.length_append, bub_len, Nat.succ_mul]
    have := (h3 (by omega)).2
    omega
end
end Bdd
namespace Bdd
open Tab
section
variable {n l : Nat} {ord : List Nat} {F G : Fn → Prop} {f c : Fn}
theorem fs_or : ∀ l g, fs ord (fun g => F g ∨ G g) l g ↔ fs ord F l g ∨ fs ord G l g
  | 0, g => Iff.rfl
  | l + 1, g => by
    constructor
    · rintro ⟨f, hf, b, rfl⟩
      rcases (fs_or l f).1 hf with h | h
      · exact .inl ⟨f, h, b, rfl⟩
      · exact .inr ⟨f, h, b, rfl⟩
    · rintro (⟨f, hf, b, rfl⟩ | ⟨f, hf, b, rfl⟩)
      · exact ⟨f, (fs_or l f).2 (.inl hf), b, rfl⟩
      · exact ⟨f, (fs_or l f).2 (.inr hf), b, rfl⟩
theorem nodes_or (g : Fn) : NodeSet n ord (fun g => F g ∨ G g) g ↔ NodeSet n ord F g ∨ NodeSet n ord G g := by
  constructor
  · rintro ⟨l, hl, hf, hh⟩
    rcases (fs_or l g).1 hf with h | h
    · exact .inl ⟨l, hl, h, hh⟩
    · exact .inr ⟨l, hl, h, hh⟩
  · rintro (⟨l, hl, hf, hh⟩ | ⟨l, hl, hf, hh⟩)
    · exact ⟨l, hl, (fs_or l g).2 (.inl hf), hh⟩
    · exact ⟨l, hl, (fs_or l g).2 (.inr hf), hh⟩
theorem not_hangs_set {v : Nat} (h : ¬ hangs f v) (x : Nat) (b : Bool) : f (setb x v b) = f x := by
  have h0 : f (setb x v false) = f (setb x v true) := Classical.byContradiction fun hne => h ⟨x, hne⟩
  have h1 := setb_self x v
  conv => rhs; rw [← h1]
  cases b <;> cases x.testBit v <;> simp [h0]
theorem fs_self (hi : ∀ j, j < l → ¬ hangs f (ord.getD j 0)) : ∀ k, k ≤ l → fs ord (fun g => g = f) k f
  | 0, _ => rfl
  | k + 1, hk => ⟨f, fs_self hi k (by omega), false, funext fun x => (not_hangs_set (hi k (by omega)) x false).symm⟩
theorem fs_only (hi : ∀ j, j < l → ¬ hangs f (ord.getD j 0)) : ∀ k, k ≤ l → ∀ g, fs ord (fun g => g = f) k g → g = f
  | 0, _, g, h => h
  | k + 1, hk, g, h => by
    obtain ⟨f', hf, b, rfl⟩ := h
    obtain rfl := fs_only hi k (by omega) f' hf
    exact funext fun x => not_hangs_set (hi k (by omega)) x b
theorem sub_child (hi : ∀ j, j < l → ¬ hangs f (ord.getD j 0)) {b : Bool} (hc : c = fun x => f (setb x (ord.getD l 0) b)) :
    (∀ j, j < l + 1 → ¬ hangs c (ord.getD j 0)) ∧ ∀ g, NodeSet n ord (fun g => g = c) g → NodeSet n ord (fun g => g = f) g := by
  have h1 : fs ord (fun g => g = f) (l + 1) c := ⟨f, fs_self hi l (Nat.le_refl _), b, hc⟩
  have h2 : ∀ j, j < l + 1 → ¬ hangs c (ord.getD j 0) := fun j hj => fs_indep (l + 1) c h1 j hj
  refine ⟨h2, ?_⟩
  rintro g ⟨m, hm, hf, hh⟩
  by_cases e : m < l + 1
  · obtain rfl := fs_only h2 m (by omega) g hf
    exact absurd hh (h2 m e)
  · have key : ∀ d g, fs ord (fun g => g = c) (l + 1 + d) g → fs ord (fun g => g = f) (l + 1 + d) g := fun d => by
      induction d with
      | zero => intro g hg; obtain rfl := fs_only h2 (l + 1) (Nat.le_refl _) g hg; exact h1
      | succ d ih => rintro g ⟨f', hf', b', rfl⟩; exact ⟨f', ih f' hf', b', rfl⟩
    obtain ⟨d, rfl⟩ : ∃ d, m = l + 1 + d := ⟨m - (l + 1), by omega⟩
    exact ⟨_, hm, key d g hf, hh⟩
theorem self_node (hi : ∀ j, j < l → ¬ hangs f (ord.getD j 0)) (hl : l < n) (hh : hangs f (ord.getD l 0)) : NodeSet n ord (fun g => g = f) f := ⟨l, hl, fs_self hi l (Nat.le_refl _), hh⟩
end
section
variable {K : Kd} {S : Nat → Fn} {lev : Nat → Nat} {ord : List Nat}
theorem Ok.below (h : Ok K S lev) (ho : Ord K.n lev ord) {r l : Nat} (hr : live K.N r) (hl : l ≤ K.n) (hi : ∀ j, j < l → ¬ hangs (S r) (ord.getD j 0)) : l ≤ dep K.n lev K.N r := by
  cases e : K.N r with
  | none => rw [dep_none e]; exact hl
  | some d =>
    rw [dep_some e]
    refine Classical.byContradiction fun hlt => ?_
    have hlt' : lev d.v < l := Nat.lt_of_not_le hlt
    have := hi _ hlt'
    rw [ho.of h.lv (h.mid.var e)] at this
    exact this (node_hangs h.wf h.lv h.mid.int e)
theorem Ok.roomFor (h : Ok K S lev) (ho : Ord K.n lev ord) {U : Fn → Prop} {k : Nat} (hk : Cnt U k) (hfit : k + 2 ≤ K.cap) (hU : ∀ g, NodeSet K.n ord (K.held S) g → U g) {d : Nd}
    (hlo : live K.N d.lo) (hhi : live K.N d.hi) (hne : d.lo ≠ d.hi) (hv : d.v < K.n) (hlt : lev d.v < dep K.n lev K.N d.lo ∧ lev d.v < dep K.n lev K.N d.hi) (hg : U (ite S d)) (hT : K.T d = none) : K.used < K.cap := by
  have hs := h.size ho
  have hu := h.mid.room
  obtain ⟨l1, a1, a2, a3⟩ := hs
  have hnot : ite S d ∉ l1 := fun hm => by
    obtain ⟨r, e, hr, he⟩ := (nodeSet_iff h.wf h.lv ho h.mid.int (fun r hr => .inr (h.mid.held r hr)) h.reach (ite S d)).1 ((a3 _).2 hm)
    have hTd : ¬ K.N r = some d := fun hN => by
      have := (h.mid.tab d r).2 ⟨hN, fun x => x⟩
      rw [hT] at this; cases this
    apply hTd
    have hsr : S r = ite S d := he.symm
    have hvar : e.v = d.v := by
      have e1 := h.lv.lt e.v (h.mid.var hr)
      have e2 := h.lv.lt d.v hv
      rcases Nat.lt_trichotomy (lev e.v) (lev d.v) with hh | hh | hh
      · exfalso
        obtain ⟨z, hz⟩ := node_hangs h.wf h.lv h.mid.int hr
        rw [hsr] at hz
        apply hz
        unfold ite
        have i1 := h.wf.indep' h.lv h.mid.int hlo (h.mid.var hr) (by omega)
        have i2 := h.wf.indep' h.lv h.mid.int hhi (h.mid.var hr) (by omega)
        have hev : d.v ≠ e.v := fun hh' => by rw [hh'] at hh; omega
        simp only [testBit_setb, if_neg hev, i1, i2]
      · exact h.lv.inj _ _ (h.mid.var hr) hv hh
      · exfalso
        have hx := h.wf.indep' h.lv h.mid.int (r := r) (.inr ⟨e, hr⟩) hv (by rw [dep_some hr]; exact hh)
        apply hne
        refine h.wf.same h.lv h.mid.int hlo hhi fun x => ?_
        have i1 := h.wf.indep' h.lv h.mid.int hlo hv hlt.1
        have i2 := h.wf.indep' h.lv h.mid.int hhi hv hlt.2
        have q1 := hx x false
        have q2 := hx x true
        rw [hsr] at q1 q2
        have q3 := q1.trans q2.symm
        unfold ite at q3
        simp only [testBit_setb, if_true, i1, i2, Bool.false_eq_true, if_false] at q3
        exact q3
    have hch : ∀ (b : Bool) x, S (if b then e.hi else e.lo) x = S (if b then d.hi else d.lo) x := fun b x => by
      rw [← h.wf.child h.lv h.mid.int hr x b, hsr, hvar]
      have i1 := h.wf.indep' h.lv h.mid.int hlo hv hlt.1
      have i2 := h.wf.indep' h.lv h.mid.int hhi hv hlt.2
      unfold ite
      rw [testBit_setb, if_pos rfl, i1, i2]
      cases b <;> rfl
    have e1 : e.lo = d.lo := h.wf.same h.lv h.mid.int (h.mid.lo hr) hlo fun x => hch false x
    have e2 : e.hi = d.hi := h.wf.same h.lv h.mid.int (h.mid.hi hr) hhi fun x => hch true x
    have hed : ∀ a b : Nd, a.v = b.v → a.lo = b.lo → a.hi = b.hi → a = b := fun a b h1 h2 h3 => by
      cases a; cases b; cases h1; cases h2; cases h3; rfl
    rw [hr, hed e d hvar e1 e2]
  obtain ⟨l2, b1, b2, b3⟩ := hk
  have := length_le_of_sub (l := ite S d :: l1) (l' := l2) (List.nodup_cons.2 ⟨hnot, a1⟩) fun g hg' => by
    rcases List.mem_cons.1 hg' with rfl | hg'
    · exact (b3 _).1 hg
    · exact (b3 _).1 (hU g ((a3 g).2 hg'))
  rw [List.length_cons] at this
  omega
end
end Bdd
namespace Bdd
open Tab
section
variable {n v : Nat} {bs : List Bool} {lo hi ws : List Nat}
theorem fill_bit (x : Nat) (hx : x < 2 ^ n) : bit (fillW n bs) x = bs.getD x false := by
  unfold bit fillW
  have h := lt_words hx
  rw [List.getD_eq_getElem?_getD, List.getElem?_map, List.getElem?_range h]
  show (wordP bs (x / 64) 64).testBit (x % 64) = _
  rw [testBit_wordP, decide_eq_true (Nat.mod_lt _ (by decide)), Bool.true_and, Nat.div_add_mod]
theorem fill_frm (hn : n ≤ 16) (hl : bs.length = 2 ^ n) : Frm n (fillW n bs) := by
  refine ⟨hn, by simp [fillW], fun w hw => ?_⟩
  obtain ⟨i, hi, rfl⟩ := List.mem_map.1 hw
  rw [List.mem_range] at hi
  have : wordP bs i 64 &&& fullN n = wordP bs i 64 := by
    apply Nat.eq_of_testBit_eq; intro j
    rw [Nat.testBit_and, testBit_full, testBit_wordP]
    by_cases h6 : 6 ≤ n
    · rw [if_pos h6]
      cases bs.getD (64 * i + j) false <;> simp
    · rw [if_neg h6]
      have hi0 : i = 0 := by rw [wN_lt (by omega)] at hi; omega
      subst hi0
      by_cases hj : j < 2 ^ n
      · simp [hj]
      · have : bs.getD (64 * 0 + j) false = false := by
          rw [List.getD_eq_getElem?_getD, List.getElem?_eq_none (by omega)]; rfl
        rw [this]; simp
  rw [← this]; exact Nat.and_le_right
def ifB (n v : Nat) (lo hi : List Nat) : List Bool := (List.range (2 ^ n)).map fun x => if x.testBit v then bit hi x else bit lo x
def ifT (n v : Nat) (lo hi : List Nat) : List Nat := fillW n (ifB n v lo hi)
theorem ifT_frm (hn : n ≤ 16) : Frm n (ifT n v lo hi) := fill_frm hn (by simp [ifB])
theorem fnT_if (hv : v < n) : fnT n (ifT n v lo hi) = fun x => if x.testBit v then fnT n hi x else fnT n lo x := by
  funext x
  unfold fnT ifT
  have hx : x % 2 ^ n < 2 ^ n := Nat.mod_lt _ (Nat.two_pow_pos n)
  rw [fill_bit _ hx, ifB, List.getD_eq_getElem?_getD, List.getElem?_map, List.getElem?_range hx]
  show (if (x % 2 ^ n).testBit v then _ else _) = _
  rw [Nat.testBit_mod_two_pow, decide_eq_true hv, Bool.true_and]
def constB (n : Nat) (b : Bool) : List Bool := List.replicate (2 ^ n) b
def constT (n : Nat) (b : Bool) : List Nat := fillW n (constB n b)
theorem constT_frm (hn : n ≤ 16) (b : Bool) : Frm n (constT n b) := fill_frm hn (by simp [constB])
theorem fnT_const (n : Nat) (b : Bool) : fnT n (constT n b) = fun _ => b := by
  funext x
  unfold fnT constT
  have hx : x % 2 ^ n < 2 ^ n := Nat.mod_lt _ (Nat.two_pow_pos n)
  rw [fill_bit _ hx, constB, List.getD_eq_getElem?_getD, List.getElem?_replicate, if_pos hx]; rfl
theorem fnT_flat (h : ∀ v, v < n → ¬ hangs (fnT n ws) v) (x : Nat) : fnT n ws x = fnT n ws 0 := by
  have key : ∀ k, k ≤ n → fnT n ws (x % 2 ^ k) = fnT n ws 0 := fun k => by
    induction k with
    | zero => intro _; rw [show x % 2 ^ 0 = 0 from Nat.mod_one x]
    | succ k ih =>
      intro hk
      rw [← ih (by omega)]
      have e : x % 2 ^ (k + 1) = setb (x % 2 ^ k) k (x.testBit k) := by
        apply Nat.eq_of_testBit_eq; intro i
        rw [testBit_setb, Nat.testBit_mod_two_pow, Nat.testBit_mod_two_pow]
        by_cases e : i = k
        · subst e; simp
        · rw [if_neg e]
          congr 1
          exact decide_eq_decide.2 (by omega)
      rw [e, not_hangs_set (h k (by omega))]
  have := key n (Nat.le_refl _)
  rw [← this]
  unfold fnT
  rw [Nat.mod_mod]
theorem fnT_const_iff (hn : n ≤ 16) (hf : Frm n ws) (b : Bool) : ws = constT n b ↔ fnT n ws = fun _ => b := by
  constructor
  · rintro rfl; exact fnT_const n b
  · intro h; exact fnT_inj hf (constT_frm hn b) (h.trans (fnT_const n b).symm)
theorem bit0 : bit ws 0 = fnT n ws 0 := by unfold fnT; rw [Nat.zero_mod]
theorem dep_of (hn : n ≤ 16) (hf : Frm n ws) (h0 : ws ≠ constT n false) (h1 : ws ≠ constT n true) : ∃ v, v < n ∧ Tab.dep n ws v = true := by
  refine Classical.byContradiction fun hno => ?_
  have hflat := fnT_flat (n := n) (ws := ws) fun v hv hh => hno ⟨v, hv, (fnT_hangs hf hv).1 hh⟩
  cases e : fnT n ws 0 with
  | false => exact h0 ((fnT_const_iff hn hf false).2 (funext fun x => (hflat x).trans e))
  | true => exact h1 ((fnT_const_iff hn hf true).2 (funext fun x => (hflat x).trans e))
end
end Bdd
set_option maxRecDepth 100000
namespace Go.Proofs
open Go Go.Sx
open Bdd
theorem iw_getD {ws : List Nat} {i : Nat} (h : i < ws.length) : (iw ws)[i]? = some ((ws.getD i 0 : Nat) : Int) := by
  rw [iw_get (w := ws.getD i 0)]
  rw [List.getD_eq_getElem?_getD, List.getElem?_eq_getElem h]; rfl
theorem isame_ok {B : Hp} {v1 v2 : Value} {a b : List Int} (h1 : Ints .i64 B v1 a) (h2 : Ints .i64 B v2 b) (hmax : a.length < 4611686018427387904) : Rd Tryz.prog 19 #[v1, v2] B (· = .bool (decide (a = b))) := by
  intro g
  refine L19_sound (R := FnR _) ?_
  unfold L19
  refine h1.lenS (h2.lenS ?_)
  refine Bin.neN (Br.dec (fun hne => RdR.mk (.refl _) (by rw [decide_eq_false (fun e => hne (by rw [e]))])) (fun heq => ?_))
  have hl : a.length = b.length := by omega
  refine ⟨fun vs H => ∃ i : Nat, vs = [.int .i64 (i : Int)] ∧ H = B ∧ i ≤ a.length ∧ ∀ j, j < i → a[j]? = b[j]?, fun vs _ => a.length - nAt vs 0, JE.mk ⟨0, rfl, rfl, Nat.zero_le _, fun j hj => absurd hj (Nat.not_lt_zero _)⟩, ?_⟩
  rintro w H ⟨i, hv, rfl, hi, hq⟩ gs
  simp only [List.cons.injEq, and_true] at hv
  subst hv
  refine h1.lenS (Bin.ltN (Br.dec (fun hlt => ?_) (fun hlt => ?_)))
  · refine h1.ld (List.getElem?_eq_getElem hlt) (fun _ h => h) ?_
    refine h2.ld (List.getElem?_eq_getElem (show i < b.length by omega)) (fun _ h => h) ?_
    refine Bin.neD (Br.dec (fun hne => RdR.mk (.refl _) ?_) (fun heq => ?_))
    · rw [decide_eq_false]
      intro e; subst e; exact hne rfl
    · refine Bin.addN (b := 1) (by simp [lim]; omega) ?_
      refine Back.of (.refl _) ⟨i + 1, rfl, rfl, hlt, fun j hj => ?_⟩ (by show a.length - (((i + 1 : Nat) : Int).toNat) < a.length - (((i : Nat) : Int).toNat); omega)
      by_cases e : j = i
      · subst e
        rw [List.getElem?_eq_getElem hlt, List.getElem?_eq_getElem (show j < b.length by omega), Classical.not_not.1 heq]
      · exact hq j (by omega)
  · refine RdR.mk (.refl _) ?_
    rw [decide_eq_true]
    apply List.ext_getElem? fun j => ?_
    by_cases hj : j < i
    · exact hq j hj
    · rw [List.getElem?_eq_none (by omega), List.getElem?_eq_none (by omega)]
def isPm (n : Nat) (p : List Int) : Prop := p.length = n ∧ ∀ v : Nat, v < n → p.count (v : Int) = 1
instance (n : Nat) (p : List Int) : Decidable (isPm n p) := by unfold isPm; infer_instance
theorem perm_ok {B : Hp} {v : Value} {p : List Int} {n : Nat} (h : Ints .i64 B v p) (hn : n < 4611686018427387904) (hmax : p.length < 4611686018427387904) : Rd Tryz.prog 61 #[v, .int .i64 (n : Int)] B (· = .bool (decide (isPm n p))) := by
  intro g
  refine L61_sound (R := FnR _) ?_
  unfold L61
  refine h.lenS ?_
  refine Bin.neN (Br.dec (fun hne => RdR.mk (.refl _) (by rw [decide_eq_false (fun e => hne e.1)])) (fun heq => ?_))
  have hl : p.length = n := by omega
  refine ⟨fun vs H => ∃ i : Nat, vs = [.int .i64 (i : Int)] ∧ H = B ∧ i ≤ n ∧ ∀ v : Nat, v < i → p.count (v : Int) = 1, fun vs _ => n - nAt vs 0, JE.mk ⟨0, rfl, rfl, Nat.zero_le _, fun j hj => absurd hj (Nat.not_lt_zero _)⟩, ?_⟩
  rintro w H ⟨i, hv, rfl, hi, hq⟩ gs
  simp only [List.cons.injEq, and_true] at hv
  subst hv
  refine Bin.ltN (Br.dec (fun hlt => ?_) (fun hlt => ?_))
  · refine h.lenS ?_
    refine ⟨fun vs H' => ∃ k : Nat, vs = [.int .i64 (((p.take k).count (i : Int) : Nat) : Int), .int .i64 (k : Int)] ∧ H' = H ∧ k ≤ p.length, fun vs _ => p.length - nAt vs 1, JE.mk ⟨0, rfl, rfl, Nat.zero_le _⟩, ?_⟩
    rintro w1 w2 H' ⟨k, hv, rfl, hk⟩ gs
    simp only [List.cons.injEq, and_true] at hv
    obtain ⟨rfl, rfl⟩ := hv
    refine Bin.ltN (Br.dec (fun hlt2 => ?_) (fun hlt2 => ?_))
    · intro J hJ
      have hcl := List.count_le_length (a := (i : Int)) (l := p.take k)
      rw [List.length_take] at hcl
      have fin : J [.int .i64 (((p.take (k + 1)).count (i : Int) : Nat) : Int)] H' := hJ _ _ fun gs => by
        refine Bin.addN (b := 1) (by simp [lim]; omega) ?_
        exact Back.of (.refl _) ⟨k + 1, rfl, rfl, hlt2⟩ (by show p.length - (((k + 1 : Nat) : Int).toNat) < p.length - (((k : Nat) : Int).toNat); omega)
      rw [List.take_succ_eq_append_getElem hlt2, List.count_append, List.count_singleton] at fin
      refine h.ld (List.getElem?_eq_getElem hlt2) (fun _ h => h) ?_
      refine Bin.eqD (Br.dec (fun he => ?_) (fun he => ?_))
      · rw [he, beq_self_eq_true, if_pos rfl] at fin
        exact Bin.addN (b := 1) (by simp [lim]; omega) (JE.mk fin)
      · rw [if_neg (by simpa using he), Nat.add_zero] at fin
        exact JE.mk fin
    · obtain rfl : k = p.length := by omega
      rw [List.take_length]
      refine Bin.neN (b := 1) (Br.dec (fun hne => RdR.mk (.refl _) (by rw [decide_eq_false (fun e => hne (e.2 i hlt))])) (fun heq2 => ?_))
      refine Bin.addN (b := 1) (by simp [lim]; omega) ?_
      refine Back.of (.refl _) ⟨i + 1, rfl, rfl, hlt, fun v hv => ?_⟩ (by show n - (((i + 1 : Nat) : Int).toNat) < n - (((i : Nat) : Int).toNat); omega)
      by_cases e : v = i
      · subst e; omega
      · exact hq v (by omega)
  · obtain rfl : i = n := by omega
    exact RdR.mk (.refl _) (by rw [decide_eq_true ⟨hl, hq⟩])
theorem idx_take {p : List Int} {x : Int} {i : Nat} (h : x ∉ p.take i) (hi : i < p.length) (he : p[i] = x) : p.idxOf x = i := by
  have e : p = p.take i ++ p[i] :: p.drop (i + 1) := by
    conv => lhs; rw [← List.take_append_drop i p]
    rw [List.drop_eq_getElem_cons hi]
  conv => lhs; rw [e]
  rw [List.idxOf_append, if_neg h, he, List.idxOf_cons_self, List.length_take]; omega
theorem place_ok {B : Hp} {v : Value} {p : List Int} {x : Int} (h : Ints .i64 B v p) (hmax : p.length < 4611686018427387904) : Rd Tryz.prog 86 #[v, .int .i64 x] B (· = .int .i64 (if x ∈ p then ((p.idxOf x : Nat) : Int) else -1)) := by
  intro g
  refine L86_sound (R := FnR _) ?_
  unfold L86
  refine h.lenS ?_
  refine ⟨fun vs H => ∃ i : Nat, vs = [.int .i64 (i : Int)] ∧ H = B ∧ i ≤ p.length ∧ x ∉ p.take i, fun vs _ => p.length - nAt vs 0, JE.mk ⟨0, rfl, rfl, Nat.zero_le _, by simp⟩, ?_⟩
  rintro w H ⟨i, hv, rfl, hi, hq⟩ gs
  simp only [List.cons.injEq, and_true] at hv
  subst hv
  refine Bin.ltN (Br.dec (fun hlt => ?_) (fun hlt => ?_))
  · refine h.ld (List.getElem?_eq_getElem hlt) (fun _ h => h) ?_
    refine Bin.eqD (Br.dec (fun he => RdR.mk (.refl _) ?_) (fun he => ?_))
    · rw [if_pos (by rw [← he]; exact List.getElem_mem hlt), idx_take hq hlt he]
    · refine Bin.addN (b := 1) (by simp [lim]; omega) ?_
      refine Back.of (.refl _) ⟨i + 1, rfl, rfl, hlt, ?_⟩ (by show p.length - (((i + 1 : Nat) : Int).toNat) < p.length - (((i : Nat) : Int).toNat); omega)
      rw [List.take_succ_eq_append_getElem hlt, List.mem_append, List.mem_singleton]
      rintro (h | h)
      · exact hq h
      · exact he h.symm
  · refine RdR.mk (.refl _) ?_
    rw [List.take_of_length_le (by omega)] at hq
    rw [if_neg hq]
def allIn (p : List Int) : Prop := ∀ v : Nat, v < p.length → (v : Int) ∈ p
theorem docCheck_ok {B : Hp} {v : Value} {p : List Int} (h : Ints .i64 B v p) (hmax : p.length < 4611686018427387904) : Rd Tryz.prog 35 #[v] B (fun r => (r = .int .i64 0 ∧ allIn p ∧ p.length ≤ 64) ∨ (r = .int .i64 13 ∧ allIn p ∧ 64 < p.length) ∨ (r = .int .i64 4 ∧ ¬ allIn p)) := by
  intro g
  refine L35_sound (R := FnR _) ?_
  unfold L35
  refine ⟨fun vs H => ∃ i : Nat, vs = [.int .i64 (i : Int)] ∧ H = B ∧ i ≤ p.length ∧ ∀ v : Nat, v < i → (v : Int) ∈ p, fun vs _ => p.length - nAt vs 0, JE.mk ⟨0, rfl, rfl, Nat.zero_le _, fun j hj => absurd hj (Nat.not_lt_zero _)⟩, ?_⟩
  rintro w H ⟨i, hv, rfl, hi, hq⟩ gs
  simp only [List.cons.injEq, and_true] at hv
  subst hv
  refine h.lenS (Bin.ltN (Br.dec (fun hlt => ?_) (fun hlt => ?_)))
  · refine CallF.rd .here (place_ok h hmax) ?_
    rintro v rfl
    by_cases hm : (i : Int) ∈ p
    · rw [if_pos hm]
      refine Bin.lss (Br.decF (by omega) ?_)
      refine Bin.addN (b := 1) (by simp [lim]; omega) ?_
      refine Back.of (.refl _) ⟨i + 1, rfl, rfl, hlt, fun v hv => ?_⟩ (by show p.length - (((i + 1 : Nat) : Int).toNat) < p.length - (((i : Nat) : Int).toNat); omega)
      by_cases e : v = i
      · subst e; exact hm
      · exact hq v (by omega)
    · rw [if_neg hm]
      exact Bin.lss (Br.decT (by decide) (RdR.mk (.refl _) (.inr (.inr ⟨rfl, fun ha => hm (ha i hlt)⟩))))
  · obtain rfl : i = p.length := by omega
    refine h.lenS (Bin.gtN (b := 64) (Br.dec (fun hg => RdR.mk (.refl _) (.inr (.inl ⟨rfl, hq, hg⟩))) (fun hg => RdR.mk (.refl _) (.inl ⟨rfl, hq, by omega⟩))))
theorem allIn_iw {p : List Nat} {n : Nat} (hp : p.Perm (List.range n)) : allIn (iw p) := fun v hv => by
  rw [iw_length, hp.length_eq, List.length_range] at hv
  exact List.mem_map.2 ⟨v, hp.mem_iff.2 (List.mem_range.2 hv), rfl⟩
theorem worse_ok {B : Hp} {v1 v2 : Value} {p q : List Nat} {n : Nat} (h1 : Ints .i64 B v1 (iw p)) (h2 : Ints .i64 B v2 (iw q)) (hp : p.Perm (List.range n)) (hq : q.Perm (List.range n)) (hn : n ≤ 64) : Rd Tryz.prog 110 #[v1, v2] B (· = .int .i64 0) := by
  have e1 : p.length = n := by rw [hp.length_eq, List.length_range]
  have e2 : q.length = n := by rw [hq.length_eq, List.length_range]
  intro g
  refine L110_sound (R := FnR _) ?_
  unfold L110
  refine CallF.rd .here (docCheck_ok h1 (by rw [iw_length]; omega)) ?_
  rintro v (⟨rfl, _, _⟩ | ⟨_, _, hl⟩ | ⟨_, hno⟩)
  rotate_left
  · rw [iw_length] at hl; omega
  · exact absurd (allIn_iw hp) hno
  refine CallF.rd .here (docCheck_ok h2 (by rw [iw_length]; omega)) ?_
  rintro v (⟨rfl, _, _⟩ | ⟨_, _, hl⟩ | ⟨_, hno⟩)
  rotate_left
  · rw [iw_length] at hl; omega
  · exact absurd (allIn_iw hq) hno
  refine Bin.eqD ?_
  refine Grp.or false (fun _ => Bin.eqD ⟨rfl, rfl⟩) rfl fun gs => ?_
  refine Grp.or false (fun _ => ?_) rfl fun gs => Br.no ?_
  · refine h1.lenS (h2.lenS (Bin.neN ⟨rfl, ?_⟩))
    rw [iw_length, iw_length, decide_eq_false (by omega)]
  · exact Bin.neD (Br.decF (by decide) (RdR.mk (.refl _) rfl))
theorem turned2_ok {B : Hp} {v : Value} {ord : List Nat} {l : Nat} (h : Ints .i64 B v (iw ord)) (hl : l + 1 < ord.length) (hmax : ord.length ≤ 1099511627776) :
    Fc Tryz.prog 111 #[v, .int .i64 (l : Int)] B (fun r H => ∃ N, H = N ++ B ∧ IOwn 3 .i64 r (iw (swp ord l)) N) := by
  intro g
  refine L111_sound (R := FnR _) ?_
  unfold L111
  refine IOwn.appsH (C := []) (H := B) (c := fun X => X ++ B) IOwn.nil hnew h (by rw [iw_length]; simp; omega) (by rw [iw_length]; simp; omega) fun v' C' ho => ?_
  rw [List.nil_append] at ho
  refine DR.self ?_
  refine Bin.addN (b := 1) (by simp [lim]; omega) ?_
  refine Bin.addN (b := 1) (by simp [lim]; omega) ?_
  refine ho.ld (x := ((ord.getD (l + 1) 0 : Nat) : Int)) (iw_getD hl) (fun _ h => List.mem_append_left _ h) ?_
  refine ho.ld (x := ((ord.getD l 0 : Nat) : Int)) (iw_getD (by omega)) (fun _ h => List.mem_append_left _ h) ?_
  refine ho.putH (x := ((ord.getD (l + 1) 0 : Nat) : Int)) .left (by rw [iw_length]; omega) fun C2 ho2 => ?_
  refine ho2.putH (x := ((ord.getD l 0 : Nat) : Int)) .left (by rw [List.length_set, iw_length]; omega) fun C3 ho3 => ?_
  refine FnR.here ⟨C3, rfl, ?_⟩
  have e : ((iw ord).set l ((ord.getD (l + 1) 0 : Nat) : Int)).set (l + 1) ((ord.getD l 0 : Nat) : Int) = iw (swp ord l) := by
    unfold swp
    rw [iw_set, iw_set]
  rw [e] at ho3
  exact ho3
theorem mem_iw {q : List Nat} {x : Nat} : (x : Int) ∈ iw q ↔ x ∈ q := by
  unfold iw
  rw [List.mem_map]
  exact ⟨fun ⟨y, hy, e⟩ => by rw [← Int.ofNat.inj e]; exact hy, fun h => ⟨x, h, rfl⟩⟩
theorem turned9_ok {B : Hp} {v : Value} {ord : List Nat} {l : Nat} (h : Ints .i64 B v (iw ord)) (hl : l + 1 < ord.length) (hmax : ord.length ≤ 1099511627776) :
    Fc Tryz.prog 113 #[v, .int .i64 (l : Int)] B (fun r H => ∃ N, H = N ++ B ∧ IOwn 3 .i64 r (iw (swp ord l)) N) := by
  intro g
  refine L113_sound (R := FnR _) ?_
  unfold L113
  refine IOwn.appsH (C := []) (H := B) (c := fun X => X ++ B) IOwn.nil hnew h (by rw [iw_length]; simp; omega) (by rw [iw_length]; simp; omega) fun v' C' ho => ?_
  rw [List.nil_append] at ho
  refine DR.self ?_
  refine Bin.addN (b := 1) (by simp [lim]; omega) ?_
  refine Bin.addN (b := 1) (by simp [lim]; omega) ?_
  refine ho.ld (x := ((ord.getD (l + 1) 0 : Nat) : Int)) (iw_getD hl) (fun _ h => List.mem_append_left _ h) ?_
  refine ho.ld (x := ((ord.getD l 0 : Nat) : Int)) (iw_getD (by omega)) (fun _ h => List.mem_append_left _ h) ?_
  refine ho.putH (x := ((ord.getD (l + 1) 0 : Nat) : Int)) .left (by rw [iw_length]; omega) fun C2 ho2 => ?_
  refine ho2.putH (x := ((ord.getD l 0 : Nat) : Int)) .left (by rw [List.length_set, iw_length]; omega) fun C3 ho3 => ?_
  refine FnR.here ⟨C3, rfl, ?_⟩
  have e : ((iw ord).set l ((ord.getD (l + 1) 0 : Nat) : Int)).set (l + 1) ((ord.getD l 0 : Nat) : Int) = iw (swp ord l) := by
    unfold swp
    rw [iw_set, iw_set]
  rw [e] at ho3
  exact ho3
theorem idx_iw (q : List Nat) (x : Nat) : (iw q).idxOf (x : Int) = q.idxOf x := by
  induction q with
  | nil => rfl
  | cons y q ih =>
    show (((y : Nat) : Int) :: iw q).idxOf (x : Int) = _
    rw [List.idxOf_cons, List.idxOf_cons, ih]
    have : (((y : Nat) : Int) == (x : Int)) = (y == x) := by
      rw [Bool.eq_iff_iff]; simp [Int.natCast_inj]
    rw [this]
theorem docPath_ok {B : Hp} {v1 v2 : Value} {p q : List Nat} {n : Nat} (h1 : Ints .i64 B v1 (iw p)) (h2 : Ints .i64 B v2 (iw q)) (hp : p.Perm (List.range n)) (hq : q.Perm (List.range n)) (hn : n ≤ 64) :
    Fc Tryz.prog 64 #[v1, v2] B (fun r H => ∃ s C, r = .tuple #[s, .int .i64 0] ∧ H = C ++ B ∧ IOwn 3 .i64 s (iw (path p q)) C) := by
  have e1 : p.length = n := by rw [hp.length_eq, List.length_range]
  have e2 : q.length = n := by rw [hq.length_eq, List.length_range]
  have hnd : q.Nodup := hq.nodup_iff.2 List.nodup_range
  have hpq := hp.trans hq.symm
  intro g
  refine L64_sound (R := FnR _) ?_
  unfold L64
  refine CallF.rd .here (worse_ok h1 h2 hp hq hn) ?_
  rintro v rfl
  refine Bin.neD (Br.decF (by decide) ?_)
  refine ⟨fun vs H => ∃ (i : Nat) (w8 w9 : Value) (C N : Hp), vs = [w8, w9, .int .i64 (i : Int)] ∧ i ≤ n ∧ H = C ++ (N ++ B) ∧ IOwn 3 .i64 w9 (iw (pathN p q i)) C ∧ Ints .i64 (N ++ B) w8 (iw (swps p (pathN p q i))), fun vs _ => n - nAt vs 2,
    JE.mk ⟨0, v1, _, [], [], rfl, Nat.zero_le _, rfl, IOwn.nil, h1⟩, ?_⟩
  rintro w8 w9 w10 H ⟨i, u8, u9, C, N, hv, hi, rfl, ho, hw⟩ gs
  simp only [List.cons.injEq, and_true] at hv
  obtain ⟨rfl, rfl, rfl⟩ := hv
  refine h2.lenS ?_
  rw [iw_length]
  refine Bin.ltN (Br.dec (fun hlt => ?_) (fun hlt => ?_))
  rotate_left
  · obtain rfl : i = q.length := by omega
    exact FnR.mk (.prep .right _) ⟨w9, C, rfl, rfl, ho⟩
  have spec := pathN_spec hnd hpq i (by omega)
  obtain ⟨s1, s2, s3⟩ := spec
  obtain ⟨s4, s5⟩ := s3 hlt
  have hlen1 := pathN_len hnd hpq (i + 1) (by omega)
  have hl2 : (i + 1) * p.length ≤ 64 * 64 := Nat.mul_le_mul (by omega) (by omega)
  refine h2.ld (n := ((q.getD i 0 : Nat) : Int)) (iw_getD hlt) (fun _ h => List.mem_append_right _ (List.mem_append_right _ h)) ?_
  have hmem : q.getD i 0 ∈ swps p (pathN p q i) := by
    have : q.getD i 0 ∈ q := by rw [List.getD_eq_getElem?_getD, List.getElem?_eq_getElem hlt]; exact List.getElem_mem _
    exact ((swps_perm s1).trans hpq).mem_iff.2 this
  refine CallF.rd (.app .here) (place_ok hw (by rw [iw_length, swps_len]; omega)) ?_
  rintro v rfl
  rw [if_pos (mem_iw.2 hmem), idx_iw]
  refine ⟨fun vs H => ∃ (j : Nat) (u8 u9 : Value) (P : List Nat) (C N : Hp), vs = [u8, u9, .int .i64 (j : Int)] ∧ i ≤ j ∧ j < n ∧ P ++ bub i j = pathN p q (i + 1) ∧ H = C ++ (N ++ B) ∧ IOwn 3 .i64 u9 (iw P) C ∧ Ints .i64 (N ++ B) u8 (iw (swps p P)), fun vs _ => nAt vs 2,
    JE.mk ⟨plc (swps p (pathN p q i)) (q.getD i 0), w8, w9, pathN p q i, C, N, rfl, s4, by omega, rfl, rfl, ho, hw⟩, ?_⟩
  rintro w21 w22 w23 H ⟨j, u8, u9, P, C2, N2, hv, hij, hjn, hP, rfl, ho2, hw2⟩ gs
  simp only [List.cons.injEq, and_true] at hv
  obtain ⟨rfl, rfl, rfl⟩ := hv
  refine Bin.gtN (Br.dec (fun hgt => ?_) (fun hgt => ?_))
  · obtain ⟨j, rfl⟩ : ∃ k, j = k + 1 := ⟨j - 1, by omega⟩
    have hPl : P.length ≤ 4096 := by
      have := congrArg List.length hP
      rw [List.length_append] at this; omega
    refine Bin.subN (b := 1) (by simp [lim]; omega) (by omega) ?_
    rw [Nat.add_sub_cancel]
    refine CallF.fn (.app .here) (turned2_ok hw2 (by rw [swps_len]; omega) (by rw [swps_len]; omega)) ?_
    rintro v H ⟨N3, rfl, hv3⟩
    refine Bin.subN (b := 1) (by simp [lim]; omega) (by omega) ?_
    rw [Nat.add_sub_cancel]
    refine BuildSl.int (e := 3) (by kernel_rfl) (by kernel_rfl) (by kernel_rfl) fun bx => ?_
    refine ho2.appH (.cons .left) (by exact .head _) (by rw [iw_length]; omega) (by rw [iw_length]; omega) fun v' C3 ho3 => ?_
    refine Bin.subN (b := 1) (by simp [lim]; omega) (by omega) ?_
    rw [Nat.add_sub_cancel]
    refine Back.of .tail ⟨j, v, v', P ++ [j], C3, N3 ++ N2, rfl, by omega, by omega, ?_, by rw [List.append_assoc], by rw [iw_append]; exact ho3, ?_⟩ ?_
    · rw [← hP, bub_succ (show i ≤ j by omega), List.append_assoc]; rfl
    · rw [swps_snoc]
      rw [List.append_assoc]
      exact hv3.ints.mono fun _ h => List.mem_append_left _ h
    · simp only [nAt]; omega
  · obtain rfl : j = i := by omega
    rw [bub_le (Nat.le_refl _), List.append_nil] at hP
    subst hP
    refine Bin.addN (b := 1) (by simp [lim]; omega) ?_
    exact Back.of (.refl _) ⟨j + 1, w21, w22, C2, N2, rfl, by omega, rfl, ho2, hw2⟩ (by simp only [nAt]; omega)
end Go.Proofs
set_option maxRecDepth 100000
namespace Go.Proofs
open Go Go.Sx
open Bdd
theorem dec_bit (a k : Nat) : decide ((a >>> k) % 2 = 1) = a.testBit k := by
  cases hb : a.testBit k
  · rw [decide_eq_false]; rw [Tab.bit_mod, hb]; simp
  · rw [decide_eq_true]; rw [Tab.bit_mod, hb]
theorem tbit_ok {B : Hp} {v : Value} {n x : Nat} {ws : List Nat} (ht : Tbl B v ⟨n, ws⟩) (hf : Tab.Frm n ws) (hx : x < 2 ^ n) : Rd Tryz.prog 117 #[v, .int .i64 (x : Int)] B (· = .bool (Tab.bit ws x)) := by
  obtain ⟨s, rfl, hw⟩ := ht
  have hn := hf.n16
  have hp : 2 ^ n ≤ 65536 := Nat.pow_le_pow_right (n := 2) (by decide) hn
  have hi : x / 64 < ws.length := by rw [hf.len]; exact Tab.lt_words hx
  intro g
  refine L117_sound (R := FnR _) ?_
  unfold L117
  intro b1 _
  refine FAddr.mk (Ld.mk (v := s) (by exact .head _) rfl ?_)
  refine Bin.divN (b := 64) (by simp [lim]; omega) (by decide) ?_
  have hg : (iw ws)[x / 64]? = some ((ws.getD (x / 64) 0 : Nat) : Int) := iw_getD hi
  refine hw.1.ld hg (fun _ h => by repeat (first | exact h | apply List.mem_cons_of_mem | apply List.mem_append_right)) ?_
  have hlt : ws.getD (x / 64) 0 < 18446744073709551616 := by
    rw [List.getD_eq_getElem?_getD, List.getElem?_eq_getElem hi]; exact hf.lt (List.getElem_mem hi)
  refine Bin.modN (b := 64) (by decide) ?_
  refine Bin.shrN (by simpa [lim] using hlt) ?_
  refine Bin.modN (b := 2) (by decide) ?_
  refine Bin.eqN (b := 1) ?_
  rw [dec_bit]
  exact RdR.mk .tail rfl
theorem rset {F : Nat → Bool} {W i : Nat} (hi : i < W) : ((List.range W).map fun k => if k < i then F k else false).set i (F i) = (List.range W).map fun k => if k < i + 1 then F k else false := by
  apply List.ext_getElem?
  intro j
  by_cases e : i = j
  · subst e; simp [hi]
  · rw [List.getElem?_set_ne e]
    by_cases hj : j < W
    · simp only [List.getElem?_map, List.getElem?_range hj, Option.map_some]
      by_cases h2 : j < i
      · rw [if_pos h2, if_pos (by omega)]
      · rw [if_neg h2, if_neg (by omega)]
    · rw [List.getElem?_eq_none (by simp; omega), List.getElem?_eq_none (by simp; omega)]
theorem rzero {F : Nat → Bool} {W : Nat} : List.replicate W false = (List.range W).map fun k => if k < 0 then F k else false := by
  apply List.ext_getElem?
  intro j
  by_cases hj : j < W
  · simp [hj]
  · rw [List.getElem?_eq_none (by simp; omega), List.getElem?_eq_none (by simp; omega)]
theorem rdone {F : Nat → Bool} {W : Nat} : ((List.range W).map fun k => if k < W then F k else false) = (List.range W).map F := List.map_congr_left fun k hk => by rw [if_pos (List.mem_range.1 hk)]
theorem constB_eq (n : Nat) (b : Bool) : constB n b = (List.range (2 ^ n)).map fun _ => b := by
  unfold constB
  apply List.ext_getElem?
  intro j
  by_cases hj : j < 2 ^ n
  · simp [hj]
  · rw [List.getElem?_eq_none (by simp; omega), List.getElem?_eq_none (by simp; omega)]
theorem const_ok {n : Nat} {b : Bool} (hn : n ≤ 16) (B : Hp) : Px Tryz.prog 120 #[.int .i64 (n : Int), .bool b] B (fun r H => Tbl H r ⟨n, constT n b⟩) := by
  intro g
  have hp : 2 ^ n ≤ 65536 := Nat.pow_le_pow_right (n := 2) (by decide) hn
  refine L120_sound (R := FnR _) ?_
  unfold L120
  intro b1 _
  refine Bin.shlN (a := 1) (by simp [IntKind.bits]; omega) (by rw [Nat.one_shiftLeft]; simp [lim]; omega) ?_
  rw [Nat.one_shiftLeft]
  refine MkSlice.bools (by omega) fun b2 => ?_
  rw [rzero (F := fun _ => b)]
  refine ⟨fun vs H => ∃ k : Nat, vs = [.int .i64 (k : Int)] ∧ k ≤ 2 ^ n ∧ H = (b1, .cells #[.int .i64 0, .slice none 0 0] 55 (0, 0)) :: (b2, .cells (bcells ((List.range (2 ^ n)).map fun j => if j < k then b else false)) 4 (0, 0)) :: B,
    fun vs _ => 2 ^ n - nAt vs 0, JE.of .swap ⟨0, rfl, Nat.zero_le _, rfl⟩, ?_⟩
  rintro w H ⟨k, hv, hk, rfl⟩ gs
  simp only [List.cons.injEq, and_true] at hv
  subst hv
  refine LenS.mk (Bin.ltN (Br.dec (fun hlt => ?_) (fun hlt => ?_)))
  · refine IAddr.nat hlt ?_
    refine St.bools (l := (List.range (2 ^ n)).map fun j => if j < k then b else false) (by exact .tail (.head _)) (by simpa using hlt) ?_
    rw [rset (F := fun _ => b) hlt]
    refine Bin.addN (b := 1) (by simp [lim]; omega) ?_
    exact Back.mk ⟨k + 1, rfl, by omega, rfl⟩ (by simp [nAt]; omega)
  · obtain rfl : k = 2 ^ n := by omega
    rw [rdone (F := fun _ => b), ← constB_eq]
    have hlen : (constB n b).length = 2 ^ n := by simp [constB]
    have hB := Bools.block (b := b2) (cap := 2 ^ n) (l := constB n b) (T := 4) (fz := (0, 0)) (B := (b2, .cells (bcells (constB n b)) 4 (0, 0)) :: B) (.head _) (by omega)
    rw [hlen] at hB
    refine CallF.px (.cons .here) (fill_ok hn hB (by rw [hlen]; exact pow_words) (by rw [hlen]; exact pow_words)) ?_
    rintro r N ⟨s, rfl, hw⟩
    have hone := oneCell_words hw
    refine St.whole (r := [.int .i64 (n : Int), s]) (by exact .head _) rfl rfl (by simpa [Value.oneCell'] using hone) ?_
    refine LdA.whole (r := [.int .i64 (n : Int), s]) (by exact .head _) rfl ?_
    exact PxR.mk (by repeat (first | exact Grow.refl _ | apply Grow.cons | apply Grow.app)) ⟨s, rfl, hw.mono (fun _ h => by repeat (first | exact h | apply List.mem_cons_of_mem | apply List.mem_append_right))⟩
theorem if_ok {B : Hp} {v1 v2 : Value} {n v : Nat} {lo hi : List Nat} (h1 : Tbl B v1 ⟨n, lo⟩) (f1 : Tab.Frm n lo) (h2 : Tbl B v2 ⟨n, hi⟩) (f2 : Tab.Frm n hi) (hv : v < 64) :
    Px Tryz.prog 121 #[.int .i64 (v : Int), v1, v2] B (fun r H => Tbl H r ⟨n, ifT n v lo hi⟩) := by
  obtain ⟨s1, rfl, w1⟩ := h1
  obtain ⟨s2, rfl, w2⟩ := h2
  have hn := f1.n16
  have hp : 2 ^ n ≤ 65536 := Nat.pow_le_pow_right (n := 2) (by decide) hn
  let F : Nat → Bool := fun x => if x.testBit v then Tab.bit hi x else Tab.bit lo x
  intro g
  refine L121_sound (R := FnR _) ?_
  unfold L121
  intro b1 _ b3 _ b5 _
  refine FAddr.mk (Ld.mk (v := .int .i64 (n : Int)) (by exact .tail _ (.tail _ (.head _))) rfl ?_)
  refine Bin.shlN (a := 1) (by simp [IntKind.bits]; omega) (by rw [Nat.one_shiftLeft]; simp [lim]; omega) ?_
  rw [Nat.one_shiftLeft]
  refine MkSlice.bools (by omega) fun b2 => ?_
  rw [rzero (F := F)]
  refine ⟨fun vs H => ∃ k : Nat, vs = [.int .i64 (k : Int)] ∧ k ≤ 2 ^ n ∧ H = (b5, .cells #[.int .i64 0, .slice none 0 0] 55 (0, 0)) :: (b2, .cells (bcells ((List.range (2 ^ n)).map fun j => if j < k then F j else false)) 4 (0, 0)) :: (b3, .cells #[.int .i64 (n : Int), s2] 55 (0, 0)) :: (b1, .cells #[.int .i64 (n : Int), s1] 55 (0, 0)) :: B,
    fun vs _ => 2 ^ n - nAt vs 0, JE.of .swap ⟨0, rfl, Nat.zero_le _, rfl⟩, ?_⟩
  rintro w H ⟨k, hv', hk, rfl⟩ gs
  simp only [List.cons.injEq, and_true] at hv'
  subst hv'
  refine LenS.mk (Bin.ltN (Br.dec (fun hlt => ?_) (fun hlt => ?_)))
  · intro J hJ
    have fin : J [] ((b5, .cells #[.int .i64 0, .slice none 0 0] 55 (0, 0)) :: (b2, .cells (bcells ((List.range (2 ^ n)).map fun j => if j < k + 1 then F j else false)) 4 (0, 0)) :: (b3, .cells #[.int .i64 (n : Int), s2] 55 (0, 0)) :: (b1, .cells #[.int .i64 (n : Int), s1] 55 (0, 0)) :: B) := hJ _ fun gs => by
      refine Bin.addN (b := 1) (by simp [lim]; omega) ?_
      exact Back.mk ⟨k + 1, rfl, by omega, rfl⟩ (by simp [nAt]; omega)
    refine Bin.shrN (by simp [lim]; omega) (Bin.modN (b := 2) (by decide) (Bin.eqN (b := 1) ?_))
    rw [dec_bit]
    refine Br.mk (fun hb' => ?_) (fun hb' => ?_)
    · skip
      refine LdA.whole (r := [.int .i64 (n : Int), s2]) (by exact .tail _ (.tail _ (.head _))) rfl ?_
      refine CallF.rd (.cons (.cons (.cons (.cons .here)))) (tbit_ok (v := .agg (List.toArray [.int .i64 (n : Int), s2])) (n := n) (ws := hi) ⟨s2, rfl, w2⟩ f2 hlt) ?_
      rintro r rfl
      refine IAddr.nat hlt ?_
      refine St.bools (l := (List.range (2 ^ n)).map fun j => if j < k then F j else false) (by exact .tail (.head _)) (by simpa using hlt) ?_
      have e : Tab.bit hi k = F k := by show _ = if k.testBit v then _ else _; rw [if_pos hb']
      rw [e, rset hlt]
      exact JE.mk fin
    · skip
      refine LdA.whole (r := [.int .i64 (n : Int), s1]) (by exact .tail _ (.tail _ (.tail _ (.head _)))) rfl ?_
      refine CallF.rd (.cons (.cons (.cons (.cons .here)))) (tbit_ok (v := .agg (List.toArray [.int .i64 (n : Int), s1])) (n := n) (ws := lo) ⟨s1, rfl, w1⟩ f1 hlt) ?_
      rintro r rfl
      refine IAddr.nat hlt ?_
      refine St.bools (l := (List.range (2 ^ n)).map fun j => if j < k then F j else false) (by exact .tail (.head _)) (by simpa using hlt) ?_
      have e : Tab.bit lo k = F k := by show _ = if k.testBit v then _ else _; rw [hb']; rfl
      rw [e, rset hlt]
      exact JE.mk fin
  · obtain rfl : k = 2 ^ n := by omega
    rw [rdone (F := F)]
    have hlen : (ifB n v lo hi).length = 2 ^ n := by simp [ifB]
    refine FAddr.mk (Ld.mk (v := .int .i64 (n : Int)) (by exact .tail _ (.tail _ (.tail _ (.head _)))) rfl ?_)
    have hB := Bools.block (b := b2) (cap := 2 ^ n) (l := ifB n v lo hi) (T := 4) (fz := (0, 0)) (B := (b2, .cells (bcells (ifB n v lo hi)) 4 (0, 0)) :: (b3, .cells #[.int .i64 (n : Int), s2] 55 (0, 0)) :: (b1, .cells #[.int .i64 (n : Int), s1] 55 (0, 0)) :: B) (.head _) (by omega)
    rw [hlen] at hB
    refine CallF.px (.cons .here) (fill_ok hn hB (by rw [hlen]; exact pow_words) (by rw [hlen]; exact pow_words)) ?_
    rintro r N ⟨s, rfl, hw⟩
    have hone := oneCell_words hw
    refine St.whole (r := [.int .i64 (n : Int), s]) (by exact .head _) rfl rfl (by simpa [Value.oneCell'] using hone) ?_
    refine LdA.whole (r := [.int .i64 (n : Int), s]) (by exact .head _) rfl ?_
    exact PxR.mk (by repeat (first | exact Grow.refl _ | apply Grow.cons | apply Grow.app)) ⟨s, rfl, hw.mono (fun _ h => by repeat (first | exact h | apply List.mem_cons_of_mem | apply List.mem_append_right))⟩
theorem isConst_ok {B : Hp} {v : Value} {n : Nat} {ws : List Nat} (ht : Tbl B v ⟨n, ws⟩) (hf : Tab.Frm n ws) : Rd Tryz.prog 116 #[v] B (· = .bool (decide (ws = constT n false ∨ ws = constT n true))) := by
  obtain ⟨s, rfl, hw⟩ := ht
  have hn := hf.n16
  have hl := frm_len hf
  intro g
  refine L116_sound (R := FnR _) ?_
  unfold L116
  intro b1 _ J hJ
  refine DR.self ?_
  refine LdA.whole (r := [.int .i64 (n : Int), s]) (by exact .head _) rfl ?_
  refine FAddr.mk (Ld.mk (v := .int .i64 (n : Int)) (by exact .head _) rfl ?_)
  intro F1
  refine CallF.px .here (const_ok (b := false) hn _) ?_
  rintro v N h1
  refine ⟨.right, ?_⟩
  intro F2
  refine CallF.rd .here (same_ok (v1 := .agg (List.toArray [.int .i64 (n : Int), s])) (a := ⟨n, ws⟩) ⟨s, rfl, hw.mono (fun _ h => by repeat (first | exact h | apply List.mem_cons_of_mem | apply List.mem_append_right))⟩ h1 (by show ws.length < _; omega)) ?_
  rintro v rfl
  refine ⟨.right, ?_⟩
  refine Br.dec (fun he => ?_) (fun he => ?_)
  · have he' : ws = constT n false := by injection he
    refine JE.of (.skips .tail) (hJ _ _ fun gs => RdR.mk (.refl _) ?_)
    rw [decide_eq_true (.inl he')]
  · have he' : ws ≠ constT n false := fun e => he (by rw [e])
    refine LdA.whole (r := [.int .i64 (n : Int), s]) (by exact .head _) rfl ?_
    refine FAddr.mk (Ld.mk (v := .int .i64 (n : Int)) (by exact .head _) rfl ?_)
    intro F3
    refine CallF.px .here (const_ok (b := true) hn _) ?_
    rintro v N2 h2
    refine ⟨.skips .right, ?_⟩
    intro F4
    refine CallF.rd .here (same_ok (v1 := .agg (List.toArray [.int .i64 (n : Int), s])) (a := ⟨n, ws⟩) ⟨s, rfl, hw.mono (fun _ h => by repeat (first | exact h | apply List.mem_cons_of_mem | apply List.mem_append_right))⟩ h2 (by show ws.length < _; omega)) ?_
    rintro v rfl
    refine ⟨.skips .right, ?_⟩
    refine Pick.mk (JE.of (.skips (.skips .tail)) (hJ _ _ fun gs => RdR.mk (.refl _) ?_))
    by_cases h3 : ws = constT n true
    · subst h3
      rw [decide_eq_true rfl, decide_eq_true (.inr rfl)]; rfl
    · rw [decide_eq_false (fun e => h3 (by injection e)), decide_eq_false (fun e => e.elim he' h3)]; rfl
end Go.Proofs
namespace Go.Sx
open Go
section
variable {P : Program} {g : Gh} {H C : Hp} {c : Hp → Hp}
theorem SOwn.putCellH {T : TypeId} {k j : Nat} {v x : Value} {rs : List (List Value)} (hs : SOwn T k v rs C) (hh : Hole C H c) {i : Nat} {kd : IntKind} {r : List Value} (hr : rs[i]? = some r) (hj : j < k) (h1 : x.oneCell' = true) {K : Hp → Prop}
    (hk : ∀ C', SOwn T k v (rs.set i (r.set j x)) C' → K (c C')) : IAddr k v (.int kd (i : Int)) fun p => FAddr j p fun q => St 1 H q x K := by
  obtain ⟨A, B, e⟩ := hh.split
  have e2 := hh.spec.1
  rw [e] at e2
  subst e2
  have hi := (List.getElem?_eq_some_iff.1 hr).1
  obtain ⟨b', junk, rfl, rfl, hall⟩ := hs.pos (by omega)
  have hg : (rs ++ junk)[i]? = some r := by rw [List.getElem?_append_left hi]; exact hr
  have hrl := hall r (List.mem_append_left _ (List.mem_of_getElem? hr))
  refine IAddr.nat hi (FAddr.mk (St.cell (l := rs ++ junk) (((Upd.head _).append B).prepend A) hall hg hj h1 ?_))
  have e3 : (rs ++ junk).set i (r.set j x) = rs.set i (r.set j x) ++ junk := by rw [List.set_append_left _ _ hi]
  rw [e3]
  have := hk [(b', .cells (rows (rs.set i (r.set j x) ++ junk)) T (0, 0))] (SOwn.mk' (junk := junk) (fun y hy => ?_) (by simp) (by simp))
  · rwa [e] at this
  · rcases List.mem_append.1 hy with hy | hy
    · rcases List.mem_or_eq_of_mem_set hy with hy | rfl
      · exact hall y (List.mem_append_left _ hy)
      · simpa using hrl
    · exact hall y (List.mem_append_right _ hy)
theorem Each.app {α : Type} {p : List Value → α → Prop} {rs rs2 : List (List Value)} {l l2 : List α} (h : Each p rs l) (h2 : Each p rs2 l2) : Each p (rs ++ rs2) (l ++ l2) := by
  refine ⟨by simp [h.1, h2.1], fun i r x a b => ?_⟩
  by_cases e : i < l.length
  · rw [List.getElem?_append_left e] at b
    rw [List.getElem?_append_left (by rw [h.1]; exact e)] at a
    exact h.2 i _ _ a b
  · rw [List.getElem?_append_right (by omega)] at b
    rw [List.getElem?_append_right (by rw [h.1]; omega), h.1] at a
    exact h2.2 _ _ _ a b
theorem Each.set {α : Type} {p : List Value → α → Prop} {rs : List (List Value)} {l : List α} (h : Each p rs l) {i : Nat} {r : List Value} {x : α} (hx : p r x) : Each p (rs.set i r) (l.set i x) := by
  refine ⟨by simp [h.1], fun j r' x' a b => ?_⟩
  by_cases e : i = j
  · subst e
    rw [List.getElem?_set_self' ] at a b
    cases h1 : rs[i]? with
    | none => rw [h1] at a; simp at a
    | some y =>
      cases h2 : l[i]? with
      | none => rw [h2] at b; simp at b
      | some z =>
        rw [h1] at a; rw [h2] at b
        simp at a b
        subst a; subst b; exact hx
  · rw [List.getElem?_set_ne e] at a b
    exact h.2 j _ _ a b
theorem TOwn.appsH {T : TypeId} {v x : Value} {ts ts2 : List Tb} {B0 : Hp} (h : TOwn T v ts C B0) (hh : Hole C H c) (hx : Tbls B0 x ts2) (hs : ∀ y ∈ B0, y ∈ H)
    (hl : ts.length + ts2.length ≤ 4398046511103) {K : Value → Hp → Prop} (hk : ∀ v' C', TOwn T v' (ts ++ ts2) C' B0 → K v' (c C')) : App P T 2 32 (.agg #[.int .i64 0, .slice Option.none 0 0]) H v x K := by
  obtain ⟨A, B, e⟩ := hh.split
  have e2 := hh.spec.1
  rw [e] at e2
  subst e2
  obtain ⟨rs, h1, h2⟩ := h
  obtain ⟨rs2, g1, g2⟩ := hx
  obtain ⟨a, cap, rfl, hc⟩ := Sl.cells (g1.mono hs)
  have l1 := h2.1
  have l2 := g2.1
  refine SOwn.apps h1 hc g1.1 (fun r hr u hu => ?_) ⟨[.int .i64 0, .slice Option.none 0 0], rfl, rfl⟩ (by omega) (by omega) fun v' C' ho => by have := hk v' C' ⟨_, ho, h2.app g2⟩; rwa [e] at this
  obtain ⟨i, hi, he⟩ := List.getElem_of_mem hr
  have hlt : i < ts2.length := by omega
  obtain ⟨s, h3, hw⟩ := g2.2 i r ts2[i] (by rw [List.getElem?_eq_getElem hi, he]) (List.getElem?_eq_getElem hlt)
  subst h3
  simp only [List.mem_cons, List.not_mem_nil, or_false] at hu
  rcases hu with rfl | rfl
  · rfl
  · obtain ⟨a, c, rfl, _⟩ := hw.1.shape; rfl
end
end Go.Sx
set_option maxRecDepth 100000
namespace Go.Proofs
open Go Go.Sx
open Bdd
def LvS (n : Nat) (B : Hp) (v : Value) (LL : List Tab.Fs) : Prop := ∃ rs, Sl 1 B v rs ∧ Each (fun r L => ∃ x, r = [x] ∧ Tbls B x (tbs n L)) rs LL
theorem LvS.lenS {n : Nat} {B : Hp} {v : Value} {LL : List Tab.Fs} (h : LvS n B v LL) {K : Value → Prop} (hk : K (.int .i64 LL.length)) : LenS v K := by
  obtain ⟨rs, h1, h2⟩ := h; refine h1.lenS ?_; rw [h2.1]; exact hk
theorem LvS.ld {n : Nat} {B H : Hp} {v : Value} {LL : List Tab.Fs} {kd : IntKind} (h : LvS n B v LL) {i : Nat} {L : Tab.Fs} (hi : LL[i]? = some L) (hs : ∀ x ∈ B, x ∈ H) {K : Value → Prop} (hk : ∀ x, Tbls B x (tbs n L) → K x) : IAddr 1 v (.int kd (i : Int)) (fun p => Ld H p K) := by
  obtain ⟨rs, h1, h2⟩ := h
  obtain ⟨r, hr, x, rfl, hx⟩ := h2.get hi
  exact IAddr.sl h1 hr fun p hp => Ld.at hp hs (hk x hx)
section
variable {n : Nat} {ord : List Nat} {L : Tab.Fs}
theorem cur_len : ∀ k, (cur n ord L k).length ≤ 2 ^ k * L.length
  | 0 => by rw [cur, Nat.pow_zero, Nat.one_mul]; exact unlike_le L
  | k + 1 => by
    have h1 := given_le n (ord.getD k 0) (cur n ord L k)
    have h2 := cur_len k
    rw [cur, Nat.pow_succ, Nat.mul_comm (2 ^ k) 2, Nat.mul_assoc]
    omega
theorem cur_le16 (hn : n ≤ 16) {k : Nat} (hk : k ≤ n) : (cur n ord L k).length ≤ 65536 * L.length :=
  Nat.le_trans (cur_len k) (Nat.mul_le_mul_right _ (Nat.pow_le_pow_right (n := 2) (by decide) (Nat.le_trans hk hn)))
theorem levN_le16 (hn : n ≤ 16) {k : Nat} (hk : k ≤ n) : (levN n ord L k).length ≤ 65536 * L.length :=
  Nat.le_trans (List.length_filter_le _ _) (cur_le16 hn hk)
theorem sizeN_le (hn : n ≤ 16) : ∀ k, k ≤ n → sizeN n ord L k ≤ k * (65536 * L.length)
  | 0, _ => by simp [sizeN]
  | k + 1, hk => by
    have h1 := sizeN_le hn k (by omega)
    have h2 := levN_le16 (ord := ord) (L := L) hn (k := k) (by omega)
    rw [sizeN, Nat.succ_mul]; omega
def levsN (n : Nat) (ord : List Nat) (L : Tab.Fs) (k : Nat) : List Tab.Fs := (List.range k).map (levN n ord L)
theorem levsN_get {k m : Nat} (h : m < k) : (levsN n ord L k)[m]? = some (levN n ord L m) := by unfold levsN; rw [List.getElem?_map, List.getElem?_range h]; rfl
theorem levels_ok {B : Hp} {v o : Value} (hL : Tbls B v (tbs n L)) (ho : Ints .i64 B o (iw ord)) (hlen : ord.length = n) (hlt : ∀ i, i < n → ord.getD i 0 < n) (hf : ∀ t ∈ L, Tab.Frm n t) (hn : n ≤ 16) (hmax : L.length ≤ 2097152) :
    Px Tryz.prog 142 #[v, o] B (fun r H => LvS n H r (levsN n ord L n)) := by
  intro g
  refine L142_sound (R := FnR _) ?_
  unfold L142
  refine CallF.px .here (runlike_ok hL hf (by omega)) ?_
  rintro v1 N0 hv1
  refine ho.lenS ?_
  rw [iw_length, hlen]
  refine ⟨fun vs H => ∃ (k : Nat) (w8 w9 : Value) (rs : List (List Value)) (C N : Hp), vs = [w8, w9, .int .i64 (k : Int)] ∧ k ≤ n ∧ H = C ++ (N ++ B) ∧ SOwn 49 1 w8 rs C ∧ Each (fun r L => ∃ x, r = [x] ∧ Tbls (N ++ B) x (tbs n L)) rs (levsN n ord L k) ∧ Tbls (N ++ B) w9 (tbs n (cur n ord L k)),
    fun vs _ => n - nAt vs 2, JE.mk ⟨0, _, v1, [], [], N0, rfl, Nat.zero_le _, rfl, SOwn.nil _ _, Each.nil, hv1⟩, ?_⟩
  rintro w8 w9 w10 H ⟨k, u8, u9, rs, C, N, hv, hk, rfl, hC, hE, hc⟩ gs
  simp only [List.cons.injEq, and_true] at hv
  obtain ⟨rfl, rfl, rfl⟩ := hv
  refine Bin.ltN (Br.dec (fun hlt2 => ?_) (fun hlt2 => ?_))
  rotate_left
  · obtain rfl : k = n := by omega
    refine PxR.mk (.app (.app (.refl _))) ⟨rs, (Sl.ofOwn hC (by decide)).mono fun _ h => List.mem_append_left _ h, hE.mono fun r L ⟨x, e, h⟩ => ⟨x, e, h.mono fun _ h => List.mem_append_right _ h⟩⟩
  have hcl := cur_le16 (ord := ord) (L := L) hn hk
  have hcf := cur_frm (ord := ord) hf hn k
  refine ho.ld (n := ((ord.getD k 0 : Nat) : Int)) (iw_getD (by omega)) (fun _ h => List.mem_append_right _ (List.mem_append_right _ h)) ?_
  refine CallF.px (.app .here) (rnodes_ok hc hcf (hlt k hlt2) (by omega)) ?_
  rintro v2 N2 hv2
  obtain ⟨sa, sc, rfl⟩ : ∃ a c, v2 = Value.slice a (tbs n (levN n ord L k)).length c := by obtain ⟨rs, h1, h2⟩ := hv2; obtain ⟨a, c, h, _⟩ := h1.shape; have := h2.1; rw [this] at h; exact ⟨a, c, h⟩
  refine BuildSl.cell (e := 49) (z := .slice none 0 0) (by kernel_rfl) (by kernel_rfl) (by kernel_rfl) rfl fun bx => ?_
  have hrl := hE.1
  have hll : (levsN n ord L k).length = k := by simp [levsN]
  refine hC.appH (r := [.slice sa (tbs n (levN n ord L k)).length sc]) (.cons .left) (by exact .head _) rfl (by simp [Value.oneCell']) ⟨[.slice none 0 0], rfl, rfl⟩ (by omega) (by omega) fun v' C3 hC3 => ?_
  refine CallF.px (B := N2 ++ (N ++ B)) (.cons (.app .here)) (rgiven_ok (hc.mono fun _ h => List.mem_append_right _ h) hcf hn (hlt k hlt2) (by omega)) ?_
  rintro v3 N3 hv3
  refine Bin.addN (b := 1) (by simp [lim]; omega) ?_
  refine Back.of .tail ⟨k + 1, v', v3, _, C3, N3 ++ (N2 ++ N), rfl, by omega, by simp only [List.append_assoc], hC3, ?_, ?_⟩ (by simp only [nAt]; omega)
  · have e : levsN n ord L (k + 1) = levsN n ord L k ++ [levN n ord L k] := by unfold levsN; rw [List.range_succ, List.map_append]; rfl
    rw [e]
    simp only [List.append_assoc]
    exact (hE.mono fun r L ⟨x, e, h⟩ => ⟨x, e, h.mono (fun _ h => by repeat (first | exact h | apply List.mem_cons_of_mem | apply List.mem_append_right))⟩).snoc ⟨_, rfl, hv2.mono (fun _ h => by repeat (first | exact h | apply List.mem_cons_of_mem | apply List.mem_append_right))⟩
  · simp only [List.append_assoc]; exact hv3
theorem rsize_ok {B : Hp} {v o : Value} (hL : Tbls B v (tbs n L)) (ho : Ints .i64 B o (iw ord)) (hlen : ord.length = n) (hlt : ∀ i, i < n → ord.getD i 0 < n) (hf : ∀ t ∈ L, Tab.Frm n t) (hn : n ≤ 16) (hmax : L.length ≤ 2097152) :
    Rd Tryz.prog 144 #[v, o] B (· = .int .i64 ((sizeN n ord L n : Nat) : Int)) := by
  intro g
  refine L144_sound (R := FnR _) ?_
  unfold L144
  refine CallF.px .here (levels_ok hL ho hlen hlt hf hn hmax) ?_
  rintro v1 N hv1
  refine hv1.lenS ?_
  rw [show (levsN n ord L n).length = n by simp [levsN]]
  refine ⟨fun vs H => ∃ k : Nat, vs = [.int .i64 ((sizeN n ord L k : Nat) : Int), .int .i64 (k : Int)] ∧ k ≤ n ∧ H = N ++ B, fun vs _ => n - nAt vs 1, JE.mk ⟨0, rfl, Nat.zero_le _, rfl⟩, ?_⟩
  rintro w8 w9 H ⟨k, hv, hk, rfl⟩ gs
  simp only [List.cons.injEq, and_true] at hv
  obtain ⟨rfl, rfl⟩ := hv
  refine Bin.ltN (Br.dec (fun hlt2 => ?_) (fun hlt2 => ?_))
  · refine hv1.ld (levsN_get hlt2) (fun _ h => h) fun x hx => ?_
    refine hx.lenS ?_
    rw [tbs_length]
    have h1 := levN_le16 (ord := ord) (L := L) hn hk
    have h2 := sizeN_le (ord := ord) (L := L) hn k hk
    have h3 : k * (65536 * L.length) ≤ 16 * (65536 * 2097152) := Nat.mul_le_mul (by omega) (Nat.mul_le_mul_left _ hmax)
    refine Bin.addN (by simp [lim]; omega) ?_
    refine Bin.addN (b := 1) (by simp [lim]; omega) ?_
    exact Back.of (.refl _) ⟨k + 1, by rw [sizeN], by omega, rfl⟩ (by simp only [nAt]; omega)
  · obtain rfl : k = n := by omega
    exact RdR.mk .right rfl
end
structure Md where
  n : Nat
  cap : Nat
  ord : List Nat
  held : List (List Nat × Nat)
  tr : List Nat
def Md.tabs (M : Md) : Tab.Fs := M.held.map Prod.fst
structure Md.Fine (M : Md) : Prop where
  n16 : M.n ≤ 16
  cap : M.cap ≤ 1048576
  len : M.ord.length = M.n
  lt : ∀ i, i < M.n → M.ord.getD i 0 < M.n
  frm : ∀ t ∈ M.tabs, Tab.Frm M.n t
  few : M.held.length ≤ 65536
  cnt : ∀ e ∈ M.held, e.2 ≤ 65535
  trl : M.tr.length ≤ 1099511627776
theorem Md.tabs_len (M : Md) : M.tabs.length = M.held.length := by simp [Md.tabs]
def HRow (n : Nat) (B : Hp) (r : List Value) (e : List Nat × Nat) : Prop := ∃ s, r = [.int .i64 (n : Int), s, .int .i64 ((e.2 : Nat) : Int)] ∧ Words B s e.1
theorem HRow.mono {n : Nat} {B B' : Hp} {r : List Value} {e : List Nat × Nat} (h : HRow n B r e) (hs : ∀ x ∈ B, x ∈ B') : HRow n B' r e := let ⟨s, h1, h2⟩ := h; ⟨s, h1, h2.mono hs⟩
def mcells (M : Md) (vo vh vt : Value) : Array Value := #[.int .i64 (M.n : Int), .int .i64 (M.cap : Int), vo, vh, vt]
structure MdR (mp : Nat) (M : Md) (B : Hp) (vo vh vt : Value) (rs : List (List Value)) : Prop where
  cel : (mp, Obj.cells (mcells M vo vh vt) 121 (0, 0)) ∈ B
  ord : Ints .i64 B vo (iw M.ord)
  sl : Sl 3 B vh rs
  each : Each (HRow M.n B) rs M.held
  tr : Ints .i64 B vt (iw M.tr)
def Mdr (mp : Nat) (M : Md) (B : Hp) : Prop := ∃ vo vh vt rs, MdR mp M B vo vh vt rs
theorem Mdr.mono {mp : Nat} {M : Md} {B B' : Hp} (h : Mdr mp M B) (hs : ∀ x ∈ B, x ∈ B') : Mdr mp M B' := by
  obtain ⟨vo, vh, vt, rs, h⟩ := h
  exact ⟨vo, vh, vt, rs, hs _ h.cel, h.ord.mono hs, h.sl.mono hs, h.each.mono fun _ _ h => h.mono hs, h.tr.mono hs⟩
structure MdO (mp : Nat) (M : Md) (X : Hp) (vo vh vt : Value) (rs : List (List Value)) (CO CH CT : Hp) : Prop where
  ord : IOwn 3 .i64 vo (iw M.ord) CO
  sl : SOwn 173 3 vh rs CH
  each : Each (HRow M.n X) rs M.held
  tr : IOwn 3 .i64 vt (iw M.tr) CT
def MdSt (mp : Nat) (M : Md) (X H : Hp) : Prop := ∃ vo vh vt rs CO CH CT, H = (mp, .cells (mcells M vo vh vt) 121 (0, 0)) :: (CO ++ (CH ++ (CT ++ X))) ∧ MdO mp M X vo vh vt rs CO CH CT
theorem MdSt.rd {mp : Nat} {M : Md} {X H : Hp} (h : MdSt mp M X H) : Mdr mp M H := by
  obtain ⟨vo, vh, vt, rs, CO, CH, CT, rfl, hO⟩ := h
  exact ⟨vo, vh, vt, rs, .head _, hO.ord.ints.mono fun _ h => .tail _ (List.mem_append_left _ h), (Sl.ofOwn hO.sl (by decide)).mono fun _ h => .tail _ (List.mem_append_right _ (List.mem_append_left _ h)),
    hO.each.mono fun _ _ h => h.mono fun _ h => .tail _ (List.mem_append_right _ (List.mem_append_right _ (List.mem_append_right _ h))), hO.tr.ints.mono fun _ h => .tail _ (List.mem_append_right _ (List.mem_append_right _ (List.mem_append_left _ h)))⟩
theorem MdSt.sub {mp : Nat} {M : Md} {X H : Hp} (h : MdSt mp M X H) : ∀ x ∈ X, x ∈ H := by
  obtain ⟨vo, vh, vt, rs, CO, CH, CT, rfl, hO⟩ := h
  exact fun _ h => .tail _ (List.mem_append_right _ (List.mem_append_right _ (List.mem_append_right _ h)))
section
variable {mp : Nat} {M : Md} {B : Hp}
theorem tables_ok (h : Mdr mp M B) (hM : M.Fine) : Px Tryz.prog 114 #[ptr mp] B (fun r H => Tbls H r (tbs M.n M.tabs)) := by
  obtain ⟨vo, vh, vt, rs, hR⟩ := h
  have hfew := hM.few
  have hrl := hR.each.1
  intro g
  refine L114_sound (R := FnR _) ?_
  unfold L114
  refine Nil.ptr (FAddr.mk (Ld.mk (v := vh) hR.cel rfl ?_))
  refine hR.sl.lenS ?_
  rw [hrl]
  refine ⟨fun vs H => ∃ (k : Nat) (w : Value) (C : Hp), vs = [w, .int .i64 (k : Int)] ∧ k ≤ M.held.length ∧ H = C ++ B ∧ TOwn 55 w (tbs M.n (M.tabs.take k)) C B, fun vs _ => M.held.length - nAt vs 1, JE.mk ⟨0, _, [], rfl, Nat.zero_le _, rfl, TOwn.nil⟩, ?_⟩
  rintro w9 w10 H ⟨k, w, C, hv, hk, rfl, hC⟩ gs
  simp only [List.cons.injEq, and_true] at hv
  obtain ⟨rfl, rfl⟩ := hv
  refine Bin.ltN (Br.dec (fun hlt => ?_) (fun hlt => ?_))
  · obtain ⟨r, hr, s, rfl, hw⟩ := hR.each.get (List.getElem?_eq_getElem hlt)
    have hone := oneCell_words hw
    refine IAddr.sl hR.sl hr fun p hp => LdA.at hp rfl (by decide) (fun _ h => List.mem_append_right _ h) ?_
    intro b14 _
    refine St.whole (r := [.int .i64 (M.n : Int), s, .int .i64 ((M.held[k].2 : Nat) : Int)]) (by exact .head _) rfl rfl (by simpa [Value.oneCell'] using hone) ?_
    refine FAddr.mk (LdA.mk (vs := #[.int .i64 (M.n : Int), s]) (by exact .head _) (by simp) rfl ?_)
    refine buildOne fun xb => ?_
    have ht : M.tabs[k]'(by rw [M.tabs_len]; exact hlt) = M.held[k].1 := by simp [Md.tabs]
    refine hC.app (A := [_, _]) (t := ⟨M.n, M.held[k].1⟩) (s := s) (by exact .head _) hw (by rw [tbs_length, List.length_take]; omega) fun v' C' ho' => ?_
    rw [tbs_snoc] at ho'
    refine Bin.addN (b := 1) (by simp [lim]; omega) ?_
    refine Back.of (.skip .tail) ⟨k + 1, v', C', rfl, hlt, rfl, ?_⟩ (by simp only [nAt]; omega)
    rw [List.take_succ_eq_append_getElem (by rw [M.tabs_len]; exact hlt), ht]
    exact ho'
  · obtain rfl : k = M.held.length := by omega
    rw [← M.tabs_len, List.take_length] at hC
    exact PxR.mk (.app (.refl _)) (hC.tbls (fun _ h => List.mem_append_left _ h) (fun _ h => List.mem_append_right _ h))
theorem msize_ok (h : Mdr mp M B) (hM : M.Fine) {v : Value} {L : Tab.Fs} (hL : Tbls B v (tbs M.n L)) (hf : ∀ t ∈ L, Tab.Frm M.n t) (hmax : L.length ≤ 2097152) : Rd Tryz.prog 115 #[ptr mp, v] B (· = .int .i64 ((sizeN M.n M.ord L M.n : Nat) : Int)) := by
  obtain ⟨vo, vh, vt, rs, hR⟩ := h
  intro g
  refine L115_sound (R := FnR _) ?_
  unfold L115
  refine Nil.ptr (FAddr.mk (Ld.mk (v := vo) hR.cel rfl ?_))
  refine CallF.rd .here (rsize_ok hL hR.ord hM.len hM.lt hf hM.n16 hmax) ?_
  rintro v rfl
  exact RdR.mk (.refl _) rfl
theorem mlive_ok (h : Mdr mp M B) (hM : M.Fine) : Rd Tryz.prog 69 #[ptr mp] B (· = .int .i64 ((sizeN M.n M.ord M.tabs M.n : Nat) : Int)) := by
  have hfew := hM.few
  intro g
  refine L69_sound (R := FnR _) ?_
  unfold L69
  refine CallF.px .here (tables_ok h hM) ?_
  rintro v N hv
  refine CallF.rd .here (msize_ok (h.mono fun _ h => List.mem_append_right _ h) hM hv hM.frm (by rw [M.tabs_len]; omega)) ?_
  rintro v rfl
  exact RdR.mk .right rfl
theorem mfits_ok (h : Mdr mp M B) (hM : M.Fine) {v : Value} {L : Tab.Fs} (hL : Tbls B v (tbs M.n L)) (hf : ∀ t ∈ L, Tab.Frm M.n t) (hmax : L.length ≤ 1048576) : Rd Tryz.prog 66 #[ptr mp, v] B (· = .bool (decide (2 + sizeN M.n M.ord (M.tabs ++ L) M.n ≤ M.cap))) := by
  have hfew := hM.few
  have hcap := hM.cap
  have hn := hM.n16
  have htl := M.tabs_len
  intro g
  refine L66_sound (R := FnR _) ?_
  unfold L66
  refine CallF.px .here (tables_ok h hM) ?_
  rintro v1 N hv1
  refine TOwn.appsH (C := []) (c := fun X => X ++ (N ++ B)) (B0 := N ++ B) TOwn.nil hnew hv1 (fun _ h => h) (by rw [tbs_length]; simp; omega) fun v2 C2 ho2 => ?_
  refine TOwn.appsH ho2 .left (hL.mono fun _ h => List.mem_append_right _ h) (fun _ h => List.mem_append_right _ h) (by rw [List.nil_append, tbs_length, tbs_length]; omega) fun v3 C3 ho3 => ?_
  have e : [] ++ tbs M.n M.tabs ++ tbs M.n L = tbs M.n (M.tabs ++ L) := by simp [tbs]
  rw [e] at ho3
  have h' := h.mono (B' := C3 ++ (N ++ B)) fun _ h => List.mem_append_right _ (List.mem_append_right _ h)
  have hff : ∀ t ∈ M.tabs ++ L, Tab.Frm M.n t := fun t ht => by
    rcases List.mem_append.1 ht with ht | ht
    · exact hM.frm t ht
    · exact hf t ht
  refine DR.self ?_
  obtain ⟨vo, vh, vt, rs, hR⟩ := h'
  refine Nil.ptr (FAddr.mk (Ld.mk (v := .int .i64 (M.cap : Int)) hR.cel rfl ?_))
  refine CallF.rd .here (msize_ok ⟨vo, vh, vt, rs, hR⟩ hM (ho3.tbls (fun _ h => List.mem_append_left _ h) (fun _ h => List.mem_append_right _ h)) hff (by rw [List.length_append]; omega)) ?_
  rintro v rfl
  have h2 := sizeN_le (ord := M.ord) (L := M.tabs ++ L) hn M.n (Nat.le_refl _)
  rw [List.length_append] at h2
  have h3 : M.n * (65536 * (M.tabs.length + L.length)) ≤ 16 * (65536 * 2097152) := Nat.mul_le_mul hn (Nat.mul_le_mul_left _ (by omega))
  refine ⟨.refl _, ?_⟩
  refine Bin.addN (a := 2) (by simp [lim]; omega) ?_
  refine Bin.leN ?_
  exact RdR.mk (.skips .right) rfl
end
end Go.Proofs
set_option maxRecDepth 100000
namespace Go.Proofs
open Go Go.Sx
open Bdd
section
variable {mp : Nat} {M : Md} {B : Hp}
theorem mlevels_ok (h : Mdr mp M B) (hM : M.Fine) : Px Tryz.prog 141 #[ptr mp] B (fun r H => LvS M.n H r (levsN M.n M.ord M.tabs M.n)) := by
  have hfew := hM.few
  intro g
  refine L141_sound (R := FnR _) ?_
  unfold L141
  obtain ⟨vo, vh, vt, rs, hR⟩ := h
  refine DR.self ?_
  refine Nil.ptr (FAddr.mk (Ld.mk (v := vo) hR.cel rfl ?_))
  refine CallF.px .here (tables_ok ⟨vo, vh, vt, rs, hR⟩ hM) ?_
  rintro v N hv
  refine ⟨.right, ?_⟩
  refine CallF.px .here (levels_ok hv (hR.ord.mono fun _ h => List.mem_append_right _ h) hM.len hM.lt hM.frm hM.n16 (by rw [M.tabs_len]; omega)) ?_
  rintro v2 N2 hv2
  exact PxR.mk (.app (.app (.refl _))) hv2
theorem allN_le {n : Nat} {ord : List Nat} {L : Tab.Fs} (hn : n ≤ 16) (hL : L.length ≤ 1048576) {k : Nat} (hk : k ≤ n) : (allN n ord L k).length ≤ 1099511627776 := by
  rw [allN_length]
  have h2 := sizeN_le (ord := ord) (L := L) hn k hk
  have h3 : k * (65536 * L.length) ≤ 16 * (65536 * 1048576) := Nat.mul_le_mul (by omega) (Nat.mul_le_mul_left _ hL)
  omega
theorem u_ok (h : Mdr mp M B) (hM : M.Fine) {l : Nat} (hl : l + 1 < M.n) : Rd Tryz.prog 112 #[ptr mp, .int .i64 (l : Int)] B (· = .int .i64 (((bothN M.n M.ord l M.tabs).length : Nat) : Int)) := by
  have hfew := hM.few
  have hn := hM.n16
  have hlen := hM.len
  have hlt' := swp_lt hl hM.len hM.lt
  have htl := M.tabs_len
  intro g
  refine L112_sound (R := FnR _) ?_
  unfold L112
  refine CallF.px .here (mlevels_ok h hM) ?_
  rintro v1 N hv1
  refine hv1.lenS ?_
  rw [show (levsN M.n M.ord M.tabs M.n).length = M.n by simp [levsN]]
  refine ⟨fun vs H => ∃ (k : Nat) (w : Value) (C : Hp), vs = [w, .int .i64 (k : Int)] ∧ k ≤ M.n ∧ H = C ++ (N ++ B) ∧ TOwn 55 w (tbs M.n (allN M.n M.ord M.tabs k)) C (N ++ B), fun vs _ => M.n - nAt vs 1, JE.mk ⟨0, _, [], rfl, Nat.zero_le _, rfl, TOwn.nil⟩, ?_⟩
  rintro w8 w9 H ⟨k, w, C, hv, hk, rfl, hC⟩ gs
  simp only [List.cons.injEq, and_true] at hv
  obtain ⟨rfl, rfl⟩ := hv
  refine Bin.ltN (Br.dec (fun hlt2 => ?_) (fun hlt2 => ?_))
  · refine hv1.ld (levsN_get hlt2) (fun _ h => List.mem_append_right _ h) fun x hx => ?_
    have h1 := allN_le (ord := M.ord) hn (L := M.tabs) (by omega) hk
    have h2 := levN_le16 (ord := M.ord) (L := M.tabs) hn hk
    refine TOwn.appsH hC .left hx (fun _ h => List.mem_append_right _ h) (by rw [tbs_length, tbs_length]; omega) fun v' C' ho => ?_
    refine Bin.addN (b := 1) (by simp [lim]; omega) ?_
    refine Back.of (.refl _) ⟨k + 1, v', C', rfl, hlt2, rfl, ?_⟩ (by simp only [nAt]; omega)
    have e : tbs M.n (allN M.n M.ord M.tabs k) ++ tbs M.n (levN M.n M.ord M.tabs k) = tbs M.n (allN M.n M.ord M.tabs (k + 1)) := by rw [allN]; simp [tbs]
    rw [← e]; exact ho
  · obtain rfl : k = M.n := by omega
    have h' := h.mono (B' := N ++ B) fun _ h => List.mem_append_right _ h
    refine DR.self ?_
    obtain ⟨vo, vh, vt, rs, hR⟩ := h'
    refine Nil.ptr (FAddr.mk (Ld.mk (v := vo) (List.mem_append_right _ hR.cel) rfl ?_))
    refine CallF.px (.app .here) (tables_ok ⟨vo, vh, vt, rs, hR⟩ hM) ?_
    rintro v2 N2 hv2
    refine ⟨.prep .right _, ?_⟩
    refine CallF.fn (.app .here) (turned9_ok (hR.ord.mono fun _ h => List.mem_append_right _ h) (by omega) (by omega)) ?_
    rintro v3 H ⟨N3, rfl, ho3⟩
    refine ⟨.prep (.skips .right) _, ?_⟩
    refine CallF.px (.app .here) (levels_ok (hv2.mono fun _ h => List.mem_append_right _ h) (ho3.ints.mono fun _ h => List.mem_append_left _ h) (by rw [swp_len]; exact hlen) hlt' hM.frm hn (by omega)) ?_
    rintro v4 N4 hv4
    refine ⟨.prep (.skips (.skips .right)) _, ?_⟩
    refine hv4.lenS ?_
    rw [show (levsN M.n (swp M.ord l) M.tabs M.n).length = M.n by simp [levsN]]
    refine ⟨fun vs H => ∃ (k : Nat) (w : Value) (C : Hp), vs = [w, .int .i64 (k : Int)] ∧ k ≤ M.n ∧ H = C ++ (N4 ++ (N3 ++ (N2 ++ (N ++ B)))) ∧ TOwn 55 w (tbs M.n (allN M.n M.ord M.tabs M.n ++ allN M.n (swp M.ord l) M.tabs k)) C (N4 ++ (N3 ++ (N2 ++ (N ++ B)))),
      fun vs _ => M.n - nAt vs 1, JE.mk ⟨0, w8, C, rfl, Nat.zero_le _, rfl, by rw [allN, List.append_nil]; exact hC.mono (fun _ h => by repeat (first | exact h | apply List.mem_cons_of_mem | apply List.mem_append_right))⟩, ?_⟩
    rintro w33 w34 H ⟨k, w, C2, hv, hk2, rfl, hC2⟩ gs
    simp only [List.cons.injEq, and_true] at hv
    obtain ⟨rfl, rfl⟩ := hv
    have h0 := allN_le (ord := M.ord) hn (L := M.tabs) (by omega) (Nat.le_refl M.n)
    have h1 := allN_le (ord := swp M.ord l) hn (L := M.tabs) (by omega) hk2
    refine Bin.ltN (Br.dec (fun hlt2 => ?_) (fun hlt2 => ?_))
    · refine hv4.ld (levsN_get hlt2) (fun _ h => List.mem_append_right _ h) fun x hx => ?_
      have h2 := levN_le16 (ord := swp M.ord l) (L := M.tabs) hn hk2
      refine TOwn.appsH hC2 .left hx (fun _ h => List.mem_append_right _ h) (by rw [tbs_length, tbs_length, List.length_append]; omega) fun v' C' ho => ?_
      refine Bin.addN (b := 1) (by simp [lim]; omega) ?_
      refine Back.of (.refl _) ⟨k + 1, v', C', rfl, hlt2, rfl, ?_⟩ (by simp only [nAt]; omega)
      have e : tbs M.n (allN M.n M.ord M.tabs M.n ++ allN M.n (swp M.ord l) M.tabs k) ++ tbs M.n (levN M.n (swp M.ord l) M.tabs k) = tbs M.n (allN M.n M.ord M.tabs M.n ++ allN M.n (swp M.ord l) M.tabs (k + 1)) := by rw [allN]; simp [tbs]
      rw [← e]; exact ho
    · obtain rfl : k = M.n := by omega
      have hff : ∀ t ∈ allN M.n M.ord M.tabs M.n ++ allN M.n (swp M.ord l) M.tabs M.n, Tab.Frm M.n t := fun t ht => by
        rcases List.mem_append.1 ht with ht | ht
        · exact allN_frm hM.frm hn _ t ht
        · exact allN_frm hM.frm hn _ t ht
      refine CallF.px .here (runlike_ok (hC2.tbls (fun _ h => List.mem_append_left _ h) (fun _ h => List.mem_append_right _ h)) hff (by rw [List.length_append]; omega)) ?_
      rintro v5 N5 hv5
      refine hv5.lenS ?_
      rw [tbs_length]
      exact RdR.mk (.skips (.skips (.skips (.skips (.skips .right))))) rfl
theorem exch9_no (h : Mdr mp M B) (hM : M.Fine) {l : Nat} (hl : l + 1 < M.n) (hno : M.cap < 2 + (bothN M.n M.ord l M.tabs).length) : Rd Tryz.prog 65 #[ptr mp, .int .i64 (l : Int)] B (· = .int .i64 9) := by
  have hn := hM.n16
  have hbl : (bothN M.n M.ord l M.tabs).length ≤ 4398046511104 := by
    have h0 := allN_le (ord := M.ord) hn (L := M.tabs) (by have := hM.few; rw [M.tabs_len]; omega) (Nat.le_refl M.n)
    have h1 := allN_le (ord := swp M.ord l) hn (L := M.tabs) (by have := hM.few; rw [M.tabs_len]; omega) (Nat.le_refl M.n)
    refine Nat.le_trans (unlike_le _) ?_
    rw [List.length_append]; omega
  intro g
  refine L65_sound (R := FnR _) ?_
  unfold L65
  obtain ⟨vo, vh, vt, rs, hR⟩ := h
  refine Bin.lss ?_
  rw [decide_eq_false (by omega)]
  refine Grp.or false (fun _ => ?_) rfl fun gs => Br.no ?_
  · refine Nil.ptr (FAddr.mk (Ld.mk (v := .int .i64 (M.n : Int)) hR.cel rfl ?_))
    refine Bin.sub64 (c := (M.n : Int) - 2) rfl (by omega) ?_
    exact Bin.gtr ⟨rfl, by rw [decide_eq_false (by omega)]⟩
  refine DR.self ?_
  refine Nil.ptr (FAddr.mk (Ld.mk (v := .int .i64 (M.cap : Int)) hR.cel rfl ?_))
  refine CallF.rd .here (u_ok ⟨vo, vh, vt, rs, hR⟩ hM hl) ?_
  rintro v rfl
  refine ⟨.refl _, ?_⟩
  refine Bin.addN (a := 2) (by simp [lim]; omega) ?_
  exact Bin.gtN (Br.decT hno (RdR.mk (.refl _) rfl))
theorem exch9_ok {X H : Hp} (h : MdSt mp M X H) (hM : M.Fine) {l : Nat} (hl : l + 1 < M.n) (hfit : 2 + (bothN M.n M.ord l M.tabs).length ≤ M.cap) : Fc Tryz.prog 65 #[ptr mp, .int .i64 (l : Int)] H (fun v H' => v = .int .i64 0 ∧ MdSt mp { M with ord := swp M.ord l, tr := M.tr ++ [l] } X H') := by
  have hn := hM.n16
  have hcap := hM.cap
  have htrl := hM.trl
  have hlen := hM.len
  have hrd := h.rd
  obtain ⟨vo, vh, vt, rs, CO, CH, CT, rfl, hO⟩ := h
  intro g
  refine L65_sound (R := FnR _) ?_
  unfold L65
  refine Bin.lss ?_
  rw [decide_eq_false (by omega)]
  refine Grp.or false (fun _ => ?_) rfl fun gs => Br.no ?_
  · refine Nil.ptr (FAddr.mk (Ld.mk (v := .int .i64 (M.n : Int)) (by exact .head _) rfl ?_))
    refine Bin.sub64 (c := (M.n : Int) - 2) rfl (by omega) ?_
    exact Bin.gtr ⟨rfl, by rw [decide_eq_false (by omega)]⟩
  refine DR.self ?_
  refine Nil.ptr (FAddr.mk (Ld.mk (v := .int .i64 (M.cap : Int)) (by exact .head _) rfl ?_))
  refine CallF.rd .here (u_ok hrd hM hl) ?_
  rintro v rfl
  refine ⟨.refl _, ?_⟩
  refine Bin.addN (a := 2) (by simp [lim]; omega) ?_
  refine Bin.gtN (Br.decF (by omega) ?_)
  refine Nil.ptr (FAddr.mk (Ld.mk (v := vo) (by exact .head _) rfl ?_))
  refine CallF.fn (.cons .left) (turned9_ok hO.ord.ints (by omega) (by omega)) ?_
  rintro v H ⟨N, rfl, ho⟩
  refine Nil.ptr (FAddr.mk (St.one (c' := mcells M v vh vt) (by exact .head _) ho.one (by simp [mcells]) rfl ?_))
  refine Nil.ptr (FAddr.mk (Ld.mk (v := vt) (by exact .head _) rfl ?_))
  refine BuildSl.int (e := 3) (by kernel_rfl) (by kernel_rfl) (by kernel_rfl) fun bx => ?_
  refine hO.tr.appH (.cons (.cons (.app (.app .left)))) (by exact .head _) (by rw [iw_length]; omega) (by rw [iw_length]; omega) fun v' CT' ho' => ?_
  refine Nil.ptr (FAddr.mk (St.one (c' := mcells M v vh v') (by exact .tail (.head _)) ho'.one (by simp [mcells]) rfl ?_))
  refine FnR.mk (H'' := (mp, .cells (mcells M v vh v') 121 (0, 0)) :: (N ++ (CH ++ (CT' ++ X)))) (.skip (.cons ?_)) ⟨rfl, v, vh, v', rs, N, CH, CT', rfl, ho, hO.sl, hO.each, by rw [iw_append]; exact ho'⟩
  exact Ent.assoc.trans (.prep .right _)
theorem holds_ok (h : Mdr mp M B) (hM : M.Fine) {v : Value} {t : List Nat} (ht : Tbl B v ⟨M.n, t⟩) (hf : Tab.Frm M.n t) : Rd Tryz.prog 73 #[ptr mp, v] B (fun r => (∃ e ∈ M.held, e.1 = t ∧ r = .int .i64 ((e.2 : Nat) : Int)) ∨ (t ∉ M.tabs ∧ r = .int .i64 0)) := by
  obtain ⟨s0, rfl, hw0⟩ := ht
  obtain ⟨vo, vh, vt, rs, hR⟩ := h
  have hfew := hM.few
  have hrl := hR.each.1
  intro g
  refine L73_sound (R := FnR _) ?_
  unfold L73
  intro b1 _
  refine Nil.ptr (FAddr.mk (Ld.mk (v := vh) (.tail _ hR.cel) rfl ?_))
  refine hR.sl.lenS ?_
  rw [hrl]
  refine ⟨fun vs H => ∃ k : Nat, vs = [.int .i64 (k : Int)] ∧ k ≤ M.held.length ∧ H = (b1, .cells #[.int .i64 (M.n : Int), s0] 55 (0, 0)) :: B ∧ t ∉ M.tabs.take k, fun vs _ => M.held.length - nAt vs 0, JE.mk ⟨0, rfl, Nat.zero_le _, rfl, by simp⟩, ?_⟩
  rintro w11 H ⟨k, hv, hk, rfl, hno⟩ gs
  simp only [List.cons.injEq, and_true] at hv
  subst hv
  refine Bin.ltN (Br.dec (fun hlt => ?_) (fun hlt => ?_))
  · obtain ⟨r, hr, s, rfl, hw⟩ := hR.each.get (List.getElem?_eq_getElem hlt)
    have hone := oneCell_words hw
    have htk : M.tabs[k]'(by rw [M.tabs_len]; exact hlt) = M.held[k].1 := by simp [Md.tabs]
    have hfk : Tab.Frm M.n M.held[k].1 := hM.frm _ (by rw [← htk]; exact List.getElem_mem _)
    refine IAddr.sl hR.sl hr fun p hp => LdA.at hp rfl (by decide) (fun _ h => .tail _ h) ?_
    intro b15 _
    refine St.whole (r := [.int .i64 (M.n : Int), s, .int .i64 ((M.held[k].2 : Nat) : Int)]) (by exact .head _) rfl rfl (by simpa [Value.oneCell'] using hone) ?_
    refine FAddr.mk (LdA.mk (vs := #[.int .i64 (M.n : Int), s]) (by exact .head _) (by simp) rfl ?_)
    refine LdA.whole (r := [.int .i64 (M.n : Int), s0]) (by exact .tail _ (.head _)) rfl ?_
    have hln := frm_len hfk
    refine CallF.rd (B := B) (.cons (.cons .here)) (same_ok (v1 := .agg (List.toArray [.int .i64 (M.n : Int), s])) (v2 := .agg (List.toArray [.int .i64 (M.n : Int), s0])) (a := ⟨M.n, M.held[k].1⟩) (b := ⟨M.n, t⟩) ⟨s, rfl, hw⟩ ⟨s0, rfl, hw0⟩ (by show M.held[k].1.length < _; omega)) ?_
    rintro v rfl
    refine Br.dec (fun he => ?_) (fun he => ?_)
    · have he' : M.held[k].1 = t := by injection he
      refine FAddr.mk (Ld.mk (v := .int .i64 ((M.held[k].2 : Nat) : Int)) (by exact .head _) rfl ?_)
      exact RdR.mk (.skip .tail) (.inl ⟨M.held[k], List.getElem_mem hlt, he', rfl⟩)
    · refine Bin.addN (b := 1) (by simp [lim]; omega) ?_
      refine Back.of .tail ⟨k + 1, rfl, hlt, rfl, ?_⟩ (by simp only [nAt]; omega)
      rw [List.take_succ_eq_append_getElem (by rw [M.tabs_len]; exact hlt), htk, List.mem_append, List.mem_singleton]
      rintro (h | h)
      · exact hno h
      · exact he (by rw [h])
  · obtain rfl : k = M.held.length := by omega
    rw [← M.tabs_len, List.take_length] at hno
    exact RdR.mk .tail (.inr ⟨hno, rfl⟩)
theorem newModel_ok {n cap : Nat} (hn : n ≤ 64) (hc : cap ≤ 1048576) : Fc Tryz.prog 63 #[.int .i64 (n : Int), .int .i64 (cap : Int)] [] (fun v H => ∃ mp, v = ptr mp ∧ MdSt mp ⟨n, cap, List.range n, [], []⟩ [] H) := by
  intro g
  refine L63_sound (R := FnR _) ?_
  unfold L63
  refine Build.mk (cs := [.int .i64 (n : Int), .int .i64 (cap : Int), .slice none 0 0, .slice none 0 0, .slice none 0 0]) (by kernel_rfl) ?_
  intro b2 _
  refine ⟨fun vs H => ∃ (k : Nat) (vo : Value) (CO : Hp), vs = [.int .i64 (k : Int)] ∧ k ≤ n ∧ H = (b2, .cells #[.int .i64 (n : Int), .int .i64 (cap : Int), vo, .slice none 0 0, .slice none 0 0] 121 (0, 0)) :: CO ∧ IOwn 3 .i64 vo (iw (List.range k)) CO, fun vs _ => n - nAt vs 0, JE.mk ⟨0, _, [], rfl, Nat.zero_le _, rfl, IOwn.nil⟩, ?_⟩
  rintro w8 H ⟨k, vo, CO, hv, hk, rfl, hO⟩ gs
  simp only [List.cons.injEq, and_true] at hv
  subst hv
  refine Bin.ltN (Br.dec (fun hlt => ?_) (fun hlt => ?_))
  · refine Nil.ptr (FAddr.mk (Ld.mk (v := vo) (by exact .head _) rfl ?_))
    refine BuildSl.int (e := 3) (by kernel_rfl) (by kernel_rfl) (by kernel_rfl) fun bx => ?_
    refine hO.appH (.cons (.cons .here)) (by exact .head _) (by rw [iw_length]; simp; omega) (by rw [iw_length]; simp; omega) fun v' CO' ho' => ?_
    refine Nil.ptr (FAddr.mk (St.one (c' := #[.int .i64 (n : Int), .int .i64 (cap : Int), v', .slice none 0 0, .slice none 0 0]) (by exact .tail (.head _)) ho'.one (by simp) rfl ?_))
    refine Bin.addN (b := 1) (by simp [lim]; omega) ?_
    exact Back.of .tail ⟨k + 1, v', CO', rfl, hlt, rfl, by rw [List.range_succ, iw_append]; exact ho'⟩ (by simp only [nAt]; omega)
  · obtain rfl : k = n := by omega
    exact FnR.here ⟨b2, rfl, vo, .slice none 0 0, .slice none 0 0, [], CO, [], [], by simp [mcells], hO, SOwn.nil _ _, Each.nil, IOwn.nil⟩
end
end Go.Proofs
set_option maxRecDepth 100000
namespace Go.Proofs
open Go Go.Sx
open Bdd
def Bump (held : List (List Nat × Nat)) (t : List Nat) (held' : List (List Nat × Nat)) : Prop :=
  (∃ i c, held[i]? = some (t, c) ∧ t ∉ (held.map Prod.fst).take i ∧ held' = held.set i (t, c + 1)) ∨ (t ∉ held.map Prod.fst ∧ held' = held ++ [(t, 1)])
section
variable {mp : Nat} {M : Md} {B : Hp}
theorem hold1_const {X H : Hp} (hM : M.Fine) {v : Value} {t : List Nat} (ht : Tbl H v ⟨M.n, t⟩) (hf : Tab.Frm M.n t) (hc : t = constT M.n false ∨ t = constT M.n true) : Rd Tryz.prog 68 #[ptr mp, v] H (· = .int .i64 0) := by
  obtain ⟨s0, rfl, hw0⟩ := ht
  intro g
  refine L68_sound (R := FnR _) ?_
  unfold L68
  intro b1 _
  refine LdA.whole (r := [.int .i64 (M.n : Int), s0]) (by exact .head _) rfl ?_
  refine CallF.rd (.cons .here) (isConst_ok (v := .agg (List.toArray [.int .i64 (M.n : Int), s0])) (n := M.n) (ws := t) ⟨s0, rfl, hw0⟩ hf) ?_
  rintro v rfl
  exact Br.decT hc (RdR.mk .tail rfl)
theorem hold1_ok {X H : Hp} (h : MdSt mp M X H) (hM : M.Fine) {v : Value} {t : List Nat} (ht : Tbl X v ⟨M.n, t⟩) (hf : Tab.Frm M.n t) (hc : ¬ (t = constT M.n false ∨ t = constT M.n true)) (hlt : ∀ e ∈ M.held, e.2 < 65535) :
    Fc Tryz.prog 68 #[ptr mp, v] H (fun r H' => r = .int .i64 0 ∧ ∃ held', Bump M.held t held' ∧ MdSt mp { M with held := held' } X H') := by
  have hsub := h.sub
  obtain ⟨s0, rfl, hw0⟩ := ht
  have hfew := hM.few
  have hone0 := oneCell_words hw0
  obtain ⟨vo, vh, vt, rs, CO, CH, CT, rfl, hO⟩ := h
  have hrl := hO.each.1
  intro g
  refine L68_sound (R := FnR _) ?_
  unfold L68
  intro b1 _
  refine LdA.whole (r := [.int .i64 (M.n : Int), s0]) (by exact .head _) rfl ?_
  refine CallF.rd (.cons .here) (isConst_ok (v := .agg (List.toArray [.int .i64 (M.n : Int), s0])) (n := M.n) (ws := t) ⟨s0, rfl, hw0.mono hsub⟩ hf) ?_
  rintro v rfl
  refine Br.decF hc ?_
  refine ⟨fun vs H => ∃ k : Nat, vs = [.int .i64 (k : Int)] ∧ k ≤ M.held.length ∧ H = (b1, .cells #[.int .i64 (M.n : Int), s0] 55 (0, 0)) :: (mp, .cells (mcells M vo vh vt) 121 (0, 0)) :: (CO ++ (CH ++ (CT ++ X))) ∧ t ∉ M.tabs.take k, fun vs _ => M.held.length - nAt vs 0, JE.mk ⟨0, rfl, Nat.zero_le _, rfl, by simp⟩, ?_⟩
  rintro w10 H ⟨k, hv, hk, rfl, hno⟩ gs
  simp only [List.cons.injEq, and_true] at hv
  subst hv
  have inCH : ∀ y ∈ CH, y ∈ (b1, Obj.cells #[.int .i64 (M.n : Int), s0] 55 (0, 0)) :: (mp, .cells (mcells M vo vh vt) 121 (0, 0)) :: (CO ++ (CH ++ (CT ++ X))) := fun y h => .tail _ (.tail _ (List.mem_append_right _ (List.mem_append_left _ h)))
  refine Nil.ptr (FAddr.mk (Ld.mk (v := vh) (by exact .tail _ (.head _)) rfl ?_))
  refine hO.sl.lenS ?_
  rw [hrl]
  refine Bin.ltN (Br.dec (fun hlt2 => ?_) (fun hlt2 => ?_))
  · obtain ⟨r, hr, s, rfl, hw⟩ := hO.each.get (List.getElem?_eq_getElem hlt2)
    have htk : M.tabs[k]'(by rw [M.tabs_len]; exact hlt2) = M.held[k].1 := by simp [Md.tabs]
    have hfk : Tab.Frm M.n M.held[k].1 := hM.frm _ (by rw [← htk]; exact List.getElem_mem _)
    have hln := frm_len hfk
    have hcnt := hlt _ (List.getElem_mem hlt2)
    refine DR.self ?_
    refine Nil.ptr (FAddr.mk (Ld.mk (v := vh) (by exact .tail _ (.head _)) rfl ?_))
    refine hO.sl.ldPart hr ⟨by decide, by decide⟩ inCH ?_
    refine LdA.whole (r := [.int .i64 (M.n : Int), s0]) (by exact .head _) rfl ?_
    refine CallF.rd (B := X) (.cons (.cons (.app (.app (.app .here))))) (same_ok (v1 := .agg (List.toArray [.int .i64 (M.n : Int), s])) (v2 := .agg (List.toArray [.int .i64 (M.n : Int), s0])) (a := ⟨M.n, M.held[k].1⟩) (b := ⟨M.n, t⟩) ⟨s, rfl, hw⟩ ⟨s0, rfl, hw0⟩ (by show M.held[k].1.length < _; omega)) ?_
    rintro v rfl
    refine ⟨.refl _, ?_⟩
    refine Br.dec (fun he => ?_) (fun he => ?_)
    · have he' : M.held[k].1 = t := by injection he
      refine Nil.ptr (FAddr.mk (Ld.mk (v := vh) (by exact .tail _ (.head _)) rfl ?_))
      refine hO.sl.ldCell (j := 2) hr rfl inCH ?_
      refine Bin.geN (b := 65535) (Br.decF (by omega) ?_)
      refine Nil.ptr (FAddr.mk (Ld.mk (v := vh) (by exact .tail _ (.head _)) rfl ?_))
      refine hO.sl.ldCell (j := 2) hr rfl inCH ?_
      refine Bin.addN (b := 1) (by simp [lim]; omega) ?_
      refine hO.sl.putCellH (j := 2) (x := .int .i64 ((M.held[k].2 + 1 : Nat) : Int)) (.cons (.cons (.app .left))) hr (by decide) rfl fun CH' ho' => ?_
      refine FnR.mk .tail ⟨rfl, M.held.set k (t, M.held[k].2 + 1), .inl ⟨k, M.held[k].2, ?_, hno, rfl⟩, vo, vh, vt, _, CO, CH', CT, rfl, hO.ord, ho', hO.each.set ⟨s, rfl, by rw [← he']; exact hw⟩, hO.tr⟩
      rw [List.getElem?_eq_getElem hlt2, ← he']
    · refine Bin.addN (b := 1) (by simp [lim]; omega) ?_
      refine Back.of (.refl _) ⟨k + 1, rfl, hlt2, rfl, ?_⟩ (by simp only [nAt]; omega)
      rw [List.take_succ_eq_append_getElem (by rw [M.tabs_len]; exact hlt2), htk, List.mem_append, List.mem_singleton]
      rintro (h | h)
      · exact hno h
      · exact he (by rw [h])
  · obtain rfl : k = M.held.length := by omega
    rw [← M.tabs_len, List.take_length] at hno
    refine DR.of (R := [(b1, .cells #[.int .i64 (M.n : Int), s0] 55 (0, 0)), (mp, .cells (mcells M vo vh vt) 121 (0, 0))]) (.cons (.cons .nil)) ?_
    refine Nil.ptr (FAddr.mk (Ld.mk (v := vh) (by exact .tail _ (.head _)) rfl ?_))
    refine LdA.whole (r := [.int .i64 (M.n : Int), s0]) (by exact .head _) rfl ?_
    obtain ⟨sa, sl, sc, rfl⟩ : ∃ a l c, s0 = Value.slice a l c := by obtain ⟨a, c, h, _⟩ := hw0.1.shape; exact ⟨a, _, c, h⟩
    refine Build.mk (cs := [.int .i64 (M.n : Int), .slice sa sl sc, .int .i64 1]) (by kernel_rfl) ?_
    refine BuildSl.one (r := [.int .i64 (M.n : Int), .slice sa sl sc, .int .i64 1]) (e := 173) (k := 3) (z := .agg #[.int .i64 0, .slice none 0 0, .int .i64 0]) (by kernel_rfl) (by kernel_rfl) (by kernel_rfl) (by decide) rfl fun bx => ?_
    refine ⟨.skip (.cons (.cons .nil)), ?_⟩
    refine hO.sl.appH (r := [.int .i64 (M.n : Int), .slice sa sl sc, .int .i64 1]) (.cons (.cons (.cons (.app .left)))) (by exact .head _) rfl (by simp [Value.oneCell']) ⟨[.int .i64 0, .slice none 0 0, .int .i64 0], rfl, rfl⟩ (by omega) (by omega) fun v' CH' ho' => ?_
    refine ⟨.skip (.cons (.cons .nil)), ?_⟩
    have hv1 : v'.oneCell' = true := by obtain ⟨a, c, e⟩ := SOwn.len ho'; rw [e]; rfl
    refine Nil.ptr (FAddr.mk (St.one (c' := mcells M vo v' vt) (by exact .tail (.tail (.head _))) hv1 (by simp [mcells]) rfl ?_))
    exact FnR.mk (.skip .tail) ⟨rfl, _, .inr ⟨hno, rfl⟩, vo, v', vt, _, CO, CH', CT, rfl, hO.ord, ho', hO.each.snoc ⟨_, rfl, hw0⟩, hO.tr⟩
end
section
variable {kp : Nat} {K : Kd} {ord lev tr : List Nat} {C : Hp} {S : Nat → Bdd.Fn}
theorem roots_ok (h : KSt kp K S ord lev tr C) : Rd Tryz.prog 70 #[ptr kp] C (fun r => ∃ n : Nat, (∀ K : Value → Prop, K (.int .i64 (n : Int)) → LenS r K) ∧ n = ((List.range K.ho.length).filter fun r => decide (0 < K.hold r)).length) := by
  obtain ⟨b, hC, hO⟩ := h.rep
  have hcap := h.ok.mid.cap
  have hle := h.hold_le
  have hfit : K.ho.length ≤ 1048576 := by
    have := hO.ul
    omega
  intro g
  refine L70_sound (R := FnR _) ?_
  unfold L70
  refine Bin.ptrNil (Br.no ?_)
  have hsubH : ∀ z ∈ b.CH, z ∈ C := by rw [hC]; exact Hole.sub (.cons (.app (.app (.app .left))))
  refine Nil.ptr (FAddr.mk (FAddr.mk (Ld.mk (v := b.vh) (by rw [hC]; exact .head _) rfl ?_)))
  refine hO.ho.lenS ?_
  rw [iw_length]
  let rts : Nat → List Nat := fun k => (List.range k).filter fun r => decide (0 < K.hold r)
  refine ⟨fun vs H => ∃ (k : Nat) (w : Value) (N : Hp), vs = [w, .int .i64 (k : Int)] ∧ k ≤ K.ho.length ∧ H = N ++ C ∧ IOwn 31 .u32 w (iw (rts k)) N, fun vs _ => K.ho.length - nAt vs 1, JE.mk ⟨0, _, [], rfl, Nat.zero_le _, rfl, IOwn.nil⟩, ?_⟩
  rintro w11 w12 H ⟨k, w, N, hv, hk, rfl, hN⟩ gs
  simp only [List.cons.injEq, and_true] at hv
  obtain ⟨rfl, rfl⟩ := hv
  refine Bin.ltN (Br.dec (fun hlt => ?_) (fun hlt => ?_))
  · intro J hJ
    have fin : ∀ w' N', IOwn 31 .u32 w' (iw (rts (k + 1))) N' → J [w'] (N' ++ C) := fun w' N' h' => hJ _ _ fun gs => by
      refine Bin.addN (b := 1) (by simp [lim]; omega) ?_
      exact Back.of (.refl _) ⟨k + 1, w', N', rfl, hlt, rfl, h'⟩ (by simp only [nAt]; omega)
    have e : rts (k + 1) = rts k ++ if 0 < K.hold k then [k] else [] := by
      show (List.range (k + 1)).filter _ = _
      rw [List.range_succ, List.filter_append]
      congr 1
      by_cases hp : 0 < K.hold k <;> simp [hp]
    refine hO.ho.ld (x := ((K.hold k : Nat) : Int)) (iw_getD hlt) (fun z hz => List.mem_append_right _ (hsubH z hz)) ?_
    refine Bin.gtN (b := 0) (Br.dec (fun hp => ?_) (fun hp => ?_))
    · rw [e, if_pos hp] at fin
      refine ConvI.nat (by simp [lim]; omega) ?_
      have hrl : (rts k).length ≤ k := by
        have := List.length_filter_le (fun r => decide (0 < K.hold r)) (List.range k)
        rwa [List.length_range] at this
      refine BuildSl.int (e := 31) (by kernel_rfl) (by kernel_rfl) (by kernel_rfl) fun bx => ?_
      refine hN.appH (.cons .left) (by exact .head _) (by rw [iw_length]; omega) (by rw [iw_length]; omega) fun v' N' ho' => ?_
      rw [iw_append] at fin
      exact JE.of .tail (fin v' N' ho')
    · rw [e, if_neg hp, List.append_nil] at fin
      exact JE.mk (fin w11 N hN)
  · obtain rfl : k = K.ho.length := by omega
    refine RdR.mk .right ⟨(rts K.ho.length).length, fun Q hq => hN.lenS ?_, rfl⟩
    rw [iw_length]; exact hq
end
end Go.Proofs
set_option maxRecDepth 100000
namespace Go.Proofs
open Go Go.Sx
open Bdd
section
variable {kp : Nat} {K : Kd} {ord lev tr : List Nat} {C : Hp} {S : Nat → Bdd.Fn}
theorem nrow_one (d : Nd) : ∀ u ∈ nrow d, u.oneCell' = true := fun u hu => by
  simp only [nrow, List.mem_cons, List.not_mem_nil, or_false] at hu
  rcases hu with rfl | rfl | rfl <;> rfl
theorem table_ok (h : KSt kp K S ord lev tr C) (hn : K.n ≤ 16) : ∀ (k r deep : Nat) (X : Hp), K.n - dep K.n (lv lev) K.N r ≤ k → live K.N r → deep ≤ dep K.n (lv lev) K.N r →
    Px Tryz.prog 93 #[ptr kp, u32 r, .int .i64 (K.n : Int), .int .i64 (deep : Int)] (X ++ C) (fun v H => ∃ s ws, v = .tuple #[s, .bool true] ∧ Tbl H s ⟨K.n, ws⟩ ∧ Tab.Frm K.n ws ∧ fnT K.n ws = S r) := by
  intro k
  induction k with
  | zero =>
    intro r deep X hk hr hd
    have hle := h.ok.wf.dep_le h.ok.lv r
    cases hN : K.N r with
    | some d =>
      rw [dep_some hN] at hk
      have := h.ok.lv.lt _ (h.ok.mid.var hN); omega
    | none =>
      have hr2 : r < 2 := by
        rcases hr with hr | ⟨d, e⟩
        · exact hr
        · rw [hN] at e; cases e
      intro g
      refine L93_sound (R := FnR _) ?_
      unfold L93
      intro b1 _
      refine Bin.eqN (b := 0) ?_
      refine Grp.or (decide (r = 1)) (fun _ => Bin.eqN (b := 1) ⟨rfl, rfl⟩) (by simp) fun gs => ?_
      rw [← Bool.decide_or]
      refine Br.decT (by omega) (Bin.eqN (b := 1) ?_)
      refine CallF.px (.cons .here) (const_ok (b := decide (r = 1)) hn _) ?_
      rintro v N ⟨s, rfl, hw⟩
      have hone := oneCell_words hw
      refine St.whole (r := [.int .i64 (K.n : Int), s]) (by exact .head _) rfl rfl (by simpa [Value.oneCell'] using hone) ?_
      refine LdA.whole (r := [.int .i64 (K.n : Int), s]) (by exact .head _) rfl ?_
      refine PxR.mk (by repeat (first | exact Grow.refl _ | apply Grow.cons | apply Grow.app)) ⟨_, constT K.n (decide (r = 1)), rfl, ⟨s, rfl, hw.mono (fun _ h => by repeat (first | exact h | apply List.mem_cons_of_mem | apply List.mem_append_right))⟩, constT_frm hn _, ?_⟩
      rw [fnT_const]
      funext x
      have hi := h.ok.mid.int
      have : r = 0 ∨ r = 1 := by omega
      rcases this with rfl | rfl
      · exact (hi.zero x).symm
      · exact (hi.one x).symm
  | succ k ih =>
    intro r deep X hk hr hd
    by_cases hr2 : r < 2
    · have hN : K.N r = none := h.ok.wf.const hr2
      intro g
      refine L93_sound (R := FnR _) ?_
      unfold L93
      intro b1 _
      refine Bin.eqN (b := 0) ?_
      refine Grp.or (decide (r = 1)) (fun _ => Bin.eqN (b := 1) ⟨rfl, rfl⟩) (by simp) fun gs => ?_
      rw [← Bool.decide_or]
      refine Br.decT (by omega) (Bin.eqN (b := 1) ?_)
      refine CallF.px (.cons .here) (const_ok (b := decide (r = 1)) hn _) ?_
      rintro v N ⟨s, rfl, hw⟩
      have hone := oneCell_words hw
      refine St.whole (r := [.int .i64 (K.n : Int), s]) (by exact .head _) rfl rfl (by simpa [Value.oneCell'] using hone) ?_
      refine LdA.whole (r := [.int .i64 (K.n : Int), s]) (by exact .head _) rfl ?_
      refine PxR.mk (by repeat (first | exact Grow.refl _ | apply Grow.cons | apply Grow.app)) ⟨_, constT K.n (decide (r = 1)), rfl, ⟨s, rfl, hw.mono (fun _ h => by repeat (first | exact h | apply List.mem_cons_of_mem | apply List.mem_append_right))⟩, constT_frm hn _, ?_⟩
      rw [fnT_const]
      funext x
      have hi := h.ok.mid.int
      have : r = 0 ∨ r = 1 := by omega
      rcases this with rfl | rfl
      · exact (hi.zero x).symm
      · exact (hi.one x).symm
    · obtain ⟨d, hN⟩ : ∃ d, K.N r = some d := by
        rcases hr with hr | hr
        · omega
        · exact hr
      have hrl := h.live_lt hr
      have hdv := h.ok.mid.var hN
      have hlo := h.ok.wf.lo hN
      have hhi := h.ok.wf.hi hN
      have hlb := liveB_iff.2 hr
      have hlo2 := h.live_lt hlo.1
      have hhi2 := h.live_lt hhi.1
      have hdl := h.ok.wf.dep_le h.ok.lv r
      rw [dep_some hN] at hk hd
      have hvl := h.ok.lv.lt _ hdv
      intro g
      refine L93_sound (R := FnR _) ?_
      unfold L93
      intro b1 _
      refine Bin.eqN (b := 0) ?_
      refine Grp.or (decide (r = 1)) (fun _ => Bin.eqN (b := 1) ⟨rfl, rfl⟩) (by simp) fun gs => ?_
      rw [← Bool.decide_or]
      refine Br.decF (by omega) ?_
      refine CallF.rd (.cons (.app .here)) (kNode_ok h.rep (by omega)) ?_
      rintro v rfl
      rw [hlb, got_some hN (by omega)]
      refine Ext.mk rfl (Ext.mk rfl ?_)
      intro b16 _
      refine St.whole (r := nrow d) (by exact .head _) rfl rfl (nrow_one d) ?_
      refine Bin.neD ?_
      refine Grp.or false (fun _ => Bin.gtr ⟨rfl, by rw [decide_eq_false (by omega)]⟩) rfl fun gs => ?_
      refine Grp.or false (fun _ => FAddr.mk (Ld.mk (v := .int .i64 (d.v : Int)) (by exact .head _) rfl (Bin.lss ⟨rfl, by rw [decide_eq_false (by omega)]⟩))) rfl fun gs => ?_
      refine Grp.or false (fun _ => FAddr.mk (Ld.mk (v := .int .i64 (d.v : Int)) (by exact .head _) rfl (Bin.geq ⟨rfl, by rw [decide_eq_false (by omega)]⟩))) rfl fun gs => Br.no ?_
      refine FAddr.mk (Ld.mk (v := u32 d.lo) (by exact .head _) rfl ?_)
      refine Bin.addN (b := 1) (by simp [lim]; omega) ?_
      refine CallF.px (.cons (.cons .here)) (ih d.lo (deep + 1) X (by omega) hlo.1 (by omega)) ?_
      rintro v N1 ⟨_, w1, rfl, ⟨s1, rfl, hw1⟩, hf1, he1⟩
      have ho1 := oneCell_words hw1
      refine Ext.mk rfl (Ext.mk rfl ?_)
      intro b43 _
      refine St.whole (r := [.int .i64 (K.n : Int), s1]) (by exact .head _) rfl rfl (by simpa [Value.oneCell'] using ho1) ?_
      refine FAddr.mk (Ld.mk (v := u32 d.hi) (by exact .tail _ (.head _)) rfl ?_)
      refine Bin.addN (b := 1) (by simp [lim]; omega) ?_
      have hX : N1 ++ (X ++ C) = (N1 ++ X) ++ C := (List.append_assoc _ _ _).symm
      rw [hX] at hw1 ⊢
      refine CallF.px (.cons (.cons (.cons .here))) (ih d.hi (deep + 1) (N1 ++ X) (by omega) hhi.1 (by omega)) ?_
      rintro v N2 ⟨_, w2, rfl, ⟨s2, rfl, hw2⟩, hf2, he2⟩
      have ho2 := oneCell_words hw2
      refine Ext.mk rfl (Ext.mk rfl ?_)
      intro b53 _
      refine St.whole (r := [.int .i64 (K.n : Int), s2]) (by exact .head _) rfl rfl (by simpa [Value.oneCell'] using ho2) ?_
      refine Un.not ?_
      refine Grp.or false (fun _ => Un.not ⟨rfl, rfl⟩) rfl fun gs => Br.no ?_
      refine FAddr.mk (Ld.mk (v := .int .i64 (d.v : Int)) (by exact .tail _ (.tail _ (.head _))) rfl ?_)
      refine LdA.whole (r := [.int .i64 (K.n : Int), s1]) (by exact .tail _ (.head _)) rfl ?_
      refine LdA.whole (r := [.int .i64 (K.n : Int), s2]) (by exact .head _) rfl ?_
      refine CallF.px (B := N2 ++ ((N1 ++ X) ++ C)) (.cons (.cons (.cons (.cons .here)))) (if_ok (v1 := .agg (List.toArray [.int .i64 (K.n : Int), s1])) (v2 := .agg (List.toArray [.int .i64 (K.n : Int), s2])) (n := K.n) (lo := w1) (hi := w2) ⟨s1, rfl, hw1.mono (fun _ h => by repeat (first | exact h | apply List.mem_cons_of_mem | apply List.mem_append_right))⟩ hf1 ⟨s2, rfl, hw2⟩ hf2 (by omega)) ?_
      rintro v N3 ⟨s3, rfl, hw3⟩
      have ho3 := oneCell_words hw3
      refine St.whole (r := [.int .i64 (K.n : Int), s3]) (by exact .tail (.tail (.tail (.head _)))) rfl rfl (by simpa [Value.oneCell'] using ho3) ?_
      refine LdA.whole (r := [.int .i64 (K.n : Int), s3]) (by exact .tail _ (.tail _ (.tail _ (.head _)))) rfl ?_
      refine PxR.mk (by rw [← hX]; exact (by repeat (first | exact Grow.refl _ | apply Grow.cons | apply Grow.app))) ⟨_, ifT K.n d.v w1 w2, rfl, ⟨s3, rfl, hw3.mono (fun _ h => by repeat (first | exact h | apply List.mem_cons_of_mem | apply List.mem_append_right))⟩, ifT_frm hn, ?_⟩
      rw [fnT_if hdv, he1, he2]
      exact funext fun x => (h.ok.mid.int.node hN x).symm
theorem eval_ok (h : KSt kp K S ord lev tr C) {r v : Nat} (hr : live K.N r) (hv : v < 18446744073709551616) :
    Rd Tryz.prog 36 #[ptr kp, u32 r, .int .u64 (v : Int)] C (· = .tuple #[.bool (S r v), .bool true]) := by
  obtain ⟨b, _, hO⟩ := h.rep
  have hn64 := hO.n64
  intro g
  refine L36_sound (R := FnR _) ?_
  unfold L36
  refine ⟨fun vs H => ∃ (i q : Nat), vs = [u32 q, .int .i64 (i : Int)] ∧ H = C ∧ live K.N q ∧ i ≤ dep K.n (lv lev) K.N q ∧ S q v = S r v, fun vs _ => 70 - nAt vs 1, JE.mk ⟨0, r, rfl, rfl, hr, Nat.zero_le _, rfl⟩, ?_⟩
  rintro w5 w6 H ⟨i, q, hv', rfl, hq, hi, he⟩ gs
  simp only [List.cons.injEq, and_true] at hv'
  obtain ⟨rfl, rfl⟩ := hv'
  have hdl := h.ok.wf.dep_le h.ok.lv q
  have hql := h.live_lt hq
  refine Bin.ltN (b := 70) (Br.decT (by omega) ?_)
  intro J hJ
  refine Bin.ltN (b := 2) (Br.dec (fun h2 => ?_) (fun h2 => ?_))
  · refine Bin.eqN (b := 1) (RdR.mk (.refl _) ?_)
    rw [← he]
    have hint := h.ok.mid.int
    have : q = 0 ∨ q = 1 := by omega
    rcases this with rfl | rfl
    · rw [hint.zero]; rfl
    · rw [hint.one]; rfl
  · obtain ⟨d, hN⟩ : ∃ d, K.N q = some d := by
      rcases hq with hq | hq
      · omega
      · exact hq
    have hdv := h.ok.mid.var hN
    have hlo := h.ok.wf.lo hN
    have hhi := h.ok.wf.hi hN
    rw [dep_some hN] at hi
    refine CallF.rd .here (kNode_ok h.rep (by omega)) ?_
    rintro v' rfl
    rw [liveB_iff.2 hq, got_some hN (by omega)]
    refine Ext.mk rfl (Ext.mk rfl ?_)
    intro b19 _
    refine St.whole (r := nrow d) (by exact .head _) rfl rfl (nrow_one d) ?_
    refine Bin.neD ?_
    refine Grp.or false (fun _ => FAddr.mk (Ld.mk (v := .int .i64 (d.v : Int)) (by exact .head _) rfl (Bin.lss ⟨rfl, by rw [decide_eq_false (by omega)]⟩))) rfl fun gs => ?_
    refine Grp.or false (fun _ => FAddr.mk (Ld.mk (v := .int .i64 (d.v : Int)) (by exact .head _) rfl (Bin.gtr ⟨rfl, by rw [decide_eq_false (by omega)]⟩))) rfl fun gs => Br.no ?_
    refine FAddr.mk (Ld.mk (v := u32 d.lo) (by exact .head _) rfl ?_)
    refine FAddr.mk (Ld.mk (v := .int .i64 (d.v : Int)) (by exact .head _) rfl ?_)
    refine Bin.shrN (by simp [lim]; omega) (Bin.modN (b := 2) (by decide) (Bin.eqN (b := 1) ?_))
    rw [dec_bit]
    have hnode := h.ok.mid.int.node hN v
    have hlt70 := h.ok.lv.lt _ hdv
    have fin : ∀ q', live K.N q' → lv lev d.v < dep K.n (lv lev) K.N q' → S q' v = S q v → J [u32 q'] H := fun q' hl hd he' => hJ _ _ fun gs => by
      refine Bin.addN (b := 1) (by simp [lim]; omega) ?_
      exact Back.of (.refl _) ⟨i + 1, q', rfl, rfl, hl, by omega, he'.trans he⟩ (by simp only [nAt]; omega)
    refine Br.mk (fun hb => ?_) (fun hb => ?_)
    · refine FAddr.mk (Ld.mk (v := u32 d.hi) (by exact .head _) rfl ?_)
      exact JE.of .tail (fin d.hi hhi.1 hhi.2 (by rw [hnode, hb]; rfl))
    · exact JE.of .tail (fin d.lo hlo.1 hlo.2 (by rw [hnode, hb]; rfl))
end
end Go.Proofs
set_option maxRecDepth 100000
namespace Go.Proofs
open Go Go.Sx
open Bdd
theorem fsMono {ord : List Nat} {F G : Bdd.Fn → Prop} (h : ∀ g, F g → G g) : ∀ l g, fs ord F l g → fs ord G l g
  | 0, g, hg => h g hg
  | l + 1, g, ⟨f, hf, b, e⟩ => ⟨f, fsMono h l f hf, b, e⟩
theorem nodesMono {n : Nat} {ord : List Nat} {F G : Bdd.Fn → Prop} (h : ∀ g, F g → G g) {g : Bdd.Fn} (hg : NodeSet n ord F g) : NodeSet n ord G g := let ⟨l, a, b, c⟩ := hg; ⟨l, a, fsMono h l g b, c⟩
structure GrowR (K : Kd) (S : Nat → Bdd.Fn) (K' : Kd) (S' : Nat → Bdd.Fn) (f : Bdd.Fn) (r : Nat) : Prop where
  n : K'.n = K.n
  cap : K'.cap = K.cap
  N : ∀ s d, K.N s = some d → K'.N s = some d
  fn : ∀ s, live K.N s → S' s = S s
  live : live K'.N r
  is : S' r = f
  hold : ∀ s, K'.hold s = K.hold s + if s = r ∧ 2 ≤ r then 1 else 0
theorem live_mono {N N' : Sto} (h : ∀ s d, N s = some d → N' s = some d) {s : Nat} (hs : live N s) : live N' s := by
  rcases hs with hs | ⟨d, hd⟩
  · exact .inl hs
  · exact .inr ⟨d, h s d hd⟩
theorem keep_nodes {K K5 : Kd} {S S5 : Nat → Bdd.Fn} {lev : Nat → Nat} (hK : Ok K S lev) (hK5 : Ok K5 S5 lev) (hold : ∀ s, K.hold s ≠ 0 → K5.hold s ≠ 0) (h3 : ∀ s d d', K.N s = some d → K5.N s = some d' → d' = d) :
    ∀ (k s : Nat) (d : Nd), K.N s = some d → lev d.v ≤ k → K5.N s = some d := by
  intro k
  induction k with
  | zero =>
    intro s d hd hl
    have fin : live K5.N s → K5.N s = some d := fun hs => by
      rcases hs with hs | ⟨d', hd'⟩
      · have := (hK.mid.two hd).1; omega
      · rw [hd', h3 s d d' hd hd']
    rcases hK.reach s d hd with h | ⟨p, e, hp, he⟩
    · exact fin (.inr (hK5.mid.held s (hold s h)))
    · have h1 := hK.wf.lo hp
      have h2 := hK.wf.hi hp
      rcases he with rfl | rfl
      · have := h1.2; rw [dep_some hd] at this; omega
      · have := h2.2; rw [dep_some hd] at this; omega
  | succ k ih =>
    intro s d hd hl
    have fin : live K5.N s → K5.N s = some d := fun hs => by
      rcases hs with hs | ⟨d', hd'⟩
      · have := (hK.mid.two hd).1; omega
      · rw [hd', h3 s d d' hd hd']
    rcases hK.reach s d hd with h | ⟨p, e, hp, he⟩
    · exact fin (.inr (hK5.mid.held s (hold s h)))
    · have h1 := hK.wf.lo hp
      have h2 := hK.wf.hi hp
      rcases he with rfl | rfl
      · have := h1.2; rw [dep_some hd] at this
        exact fin (hK5.mid.lo (ih p e hp (by omega)))
      · have := h2.2; rw [dep_some hd] at this
        exact fin (hK5.mid.hi (ih p e hp (by omega)))
theorem GrowR.held {K K' : Kd} {S S' : Nat → Bdd.Fn} {f : Bdd.Fn} {r : Nat} (h : GrowR K S K' S' f r) (hm : ∀ s, K.hold s ≠ 0 → Bdd.live K.N s) (g : Bdd.Fn) (hg : K'.held S' g) : K.held S g ∨ g = f := by
  obtain ⟨s, hs, rfl⟩ := hg
  by_cases h0 : K.hold s = 0
  · right
    have := h.hold s
    have hs' : K'.hold s ≠ 0 := hs
    rw [h0] at this
    by_cases e : s = r ∧ 2 ≤ r
    · rw [e.1]; exact h.is
    · rw [if_neg e] at this; omega
  · exact .inl ⟨s, h0, h.fn s (hm s h0)⟩
section
variable {kp : Nat}
theorem grow_ok {n : Nat} {U : Bdd.Fn → Prop} {ku : Nat} (hU : Cnt U ku) {ord lev : List Nat} {o : Value} (hn : n ≤ 16) :
    ∀ (k l : Nat) (K : Kd) (S : Nat → Bdd.Fn) (C Y : Hp) (v : Value) (t : List Nat), n - l ≤ k → l ≤ n → K.n = n → ku + 2 ≤ K.cap → KSt kp K S ord lev [] C → Ints .i64 Y o (iw ord) → Tbl Y v ⟨n, t⟩ → Tab.Frm n t →
    (∀ j, j < l → ¬ hangs (fnT n t) (ord.getD j 0)) → (∀ g, NodeSet n ord (K.held S) g → U g) → (∀ g, NodeSet n ord (fun g => g = fnT n t) g → U g) → (∀ s, K.hold s + (n - l) + 1 ≤ 65535) →
    Fc Tryz.prog 88 #[ptr kp, o, v, .int .i64 (l : Int)] (Y ++ C) (fun w H => ∃ r K' S' C', w = .tuple #[u32 r, .int .i64 0] ∧ H = Y ++ C' ∧ KSt kp K' S' ord lev [] C' ∧ GrowR K S K' S' (fnT n t) r) := by
  intro k
  induction k with
  | zero =>
    intro l K S C Y v t hk hl hKn hcap hK ho ht hf hind hU1 hU2 hB
    obtain rfl : l = n := by omega
    obtain ⟨s0, rfl, hw0⟩ := ht
    have hlen := hK.od.len
    have hflat := fnT_flat (n := l) (ws := t) fun v hv hh => by
      have := hK.od.of hK.ok.lv (v := v) (by omega)
      have hlv := hK.ok.lv.lt v (by omega)
      exact hind _ (by rw [← hKn]; exact hlv) (by rw [this]; exact hh)
    have hc : t = constT l false ∨ t = constT l true := by
      cases e : fnT l t 0 with
      | false => exact .inl ((fnT_const_iff hn hf false).2 (funext fun x => (hflat x).trans e))
      | true => exact .inr ((fnT_const_iff hn hf true).2 (funext fun x => (hflat x).trans e))
    intro g
    refine L88_sound (R := FnR _) ?_
    unfold L88
    intro b1 _
    refine LdA.whole (r := [.int .i64 (l : Int), s0]) (by exact .head _) rfl ?_
    refine CallF.rd (.cons .left) (isConst_ok (v := .agg (List.toArray [.int .i64 (l : Int), s0])) (n := l) (ws := t) ⟨s0, rfl, hw0⟩ hf) ?_
    rintro v rfl
    refine Br.decT hc ?_
    refine LdA.whole (r := [.int .i64 (l : Int), s0]) (by exact .head _) rfl ?_
    refine CallF.rd (B := Y) (args := #[.agg (List.toArray [.int .i64 (l : Int), s0]), .int .i64 ((0 : Nat) : Int)]) (.cons .left) (tbit_ok (n := l) (x := 0) (ws := t) ⟨s0, rfl, hw0⟩ hf (Nat.two_pow_pos _)) ?_
    rintro v rfl
    have hi := hK.ok.mid.int
    have h0 : Tab.bit t 0 = fnT l t 0 := bit0
    rw [h0]
    refine Br.mk (fun hb => ?_) (fun hb => ?_)
    · exact FnR.mk .tail ⟨1, K, S, C, rfl, rfl, hK, rfl, rfl, fun _ _ h => h, fun _ _ => rfl, .inl (by omega), funext fun x => by rw [hi.one, hflat x, hb], fun s => by simp⟩
    · exact FnR.mk .tail ⟨0, K, S, C, rfl, rfl, hK, rfl, rfl, fun _ _ h => h, fun _ _ => rfl, .inl (by omega), funext fun x => by rw [hi.zero, hflat x, hb], fun s => by simp⟩
  | succ k ih =>
    intro l K S C Y v t hk hl hKn hcap hK ho ht hf hind hU1 hU2 hB
    obtain ⟨s0, rfl, hw0⟩ := ht
    have hlen : ord.length = n := by rw [hK.od.len, hKn]
    intro g
    refine L88_sound (R := FnR _) ?_
    unfold L88
    intro b1 _
    refine LdA.whole (r := [.int .i64 (n : Int), s0]) (by exact .head _) rfl ?_
    refine CallF.rd (.cons .left) (isConst_ok (v := .agg (List.toArray [.int .i64 (n : Int), s0])) (n := n) (ws := t) ⟨s0, rfl, hw0⟩ hf) ?_
    rintro v rfl
    refine Br.dec (fun hc => ?_) (fun hc => ?_)
    · refine LdA.whole (r := [.int .i64 (n : Int), s0]) (by exact .head _) rfl ?_
      refine CallF.rd (B := Y) (args := #[.agg (List.toArray [.int .i64 (n : Int), s0]), .int .i64 ((0 : Nat) : Int)]) (.cons .left) (tbit_ok (n := n) (x := 0) (ws := t) ⟨s0, rfl, hw0⟩ hf (Nat.two_pow_pos _)) ?_
      rintro v rfl
      have hi := hK.ok.mid.int
      have h0 : Tab.bit t 0 = fnT n t 0 := bit0
      rw [h0]
      have hflat : ∀ x, fnT n t x = fnT n t 0 := fun x => by
        rcases hc with rfl | rfl
        · rw [fnT_const]
        · rw [fnT_const]
      refine Br.mk (fun hb => ?_) (fun hb => ?_)
      · exact FnR.mk .tail ⟨1, K, S, C, rfl, rfl, hK, rfl, rfl, fun _ _ h => h, fun _ _ => rfl, .inl (by omega), funext fun x => by rw [hi.one, hflat x, hb], fun s => by simp⟩
      · exact FnR.mk .tail ⟨0, K, S, C, rfl, rfl, hK, rfl, rfl, fun _ _ h => h, fun _ _ => rfl, .inl (by omega), funext fun x => by rw [hi.zero, hflat x, hb], fun s => by simp⟩
    · obtain ⟨u, hun, hud⟩ := dep_of hn hf (fun e => hc (.inl e)) (fun e => hc (.inr e))
      have hul := hK.ok.lv.lt u (by omega)
      have huo : ord.getD (lv lev u) 0 = u := hK.od.of hK.ok.lv (by omega)
      refine ⟨fun vs H => ∃ i : Nat, vs = [.int .i64 (i : Int)] ∧ H = (b1, .cells #[.int .i64 (n : Int), s0] 55 (0, 0)) :: (Y ++ C) ∧ l ≤ i ∧ i ≤ lv lev u ∧ ∀ j, j < i → ¬ hangs (fnT n t) (ord.getD j 0), fun vs _ => n - nAt vs 0, JE.mk ⟨l, rfl, rfl, Nat.le_refl _, ?_, hind⟩, ?_⟩
      · refine Classical.byContradiction fun hlt => ?_
        exact hind _ (Nat.lt_of_not_le hlt) (by rw [huo]; exact (fnT_hangs hf hun).2 hud)
      rintro w13 H ⟨i, hv, rfl, hli, hiu, hind'⟩ gs
      simp only [List.cons.injEq, and_true] at hv
      subst hv
      have hin : i < n := by omega
      have hov := hK.od.at' i (by omega)
      have hoi : ord.getD i 0 < n := by have := hov.1; omega
      have hxi : (iw ord)[i]? = some ((ord.getD i 0 : Nat) : Int) := iw_getD (by omega)
      refine DR.self ?_
      refine LdA.whole (r := [.int .i64 (n : Int), s0]) (by exact .head _) rfl ?_
      refine ho.ld hxi (fun _ h => .tail _ (List.mem_append_left _ h)) ?_
      refine CallF.rd (.cons .left) (depends_ok (v := .agg (List.toArray [.int .i64 (n : Int), s0])) (n := n) (ws := t) ⟨s0, rfl, hw0⟩ hf hoi) ?_
      rintro v rfl
      refine Un.not ?_
      by_cases hd : Tab.dep n t (ord.getD i 0) = true
      rotate_left
      · have hd' : Tab.dep n t (ord.getD i 0) = false := by cases h : Tab.dep n t (ord.getD i 0); rfl; exact absurd h hd
        rw [hd']
        refine Br.yes ?_
        refine Bin.addN (b := 1) (by simp [lim]; omega) ?_
        refine Back.of (.refl _) ⟨i + 1, rfl, rfl, by omega, ?_, fun j hj => ?_⟩ (by simp only [nAt]; omega)
        · refine Classical.byContradiction fun hlt => ?_
          have : i = lv lev u := by omega
          subst this
          rw [huo] at hd; exact hd hud
        · by_cases e : j = i
          · subst e; exact fun hh => hd ((fnT_hangs hf hoi).1 hh)
          · exact hind' j (by omega)
      rw [hd]
      refine Br.no ?_
      have hhang : hangs (fnT n t) (ord.getD i 0) := (fnT_hangs hf hoi).2 hd
      refine DR.of (R := (b1, .cells #[.int .i64 (n : Int), s0] 55 (0, 0)) :: Y) (.cons .left) ?_
      refine LdA.whole (r := [.int .i64 (n : Int), s0]) (by exact .head _) rfl ?_
      refine ho.ld hxi (fun _ h => .tail _ h) ?_
      refine Bin.addN (b := 1) (by simp [lim]; omega) ?_
      refine CallF.px (B := Y) (.cons .left) (rcof_ok (c := false) (v := .agg (List.toArray [.int .i64 (n : Int), s0])) (n := n) (ws := t) ⟨s0, rfl, hw0⟩ hf hoi) ?_
      rintro v1 N1 hv1
      refine ⟨.cons (Ent.left.trans Ent.right), ?_⟩
      have hf1 := Tab.frm_cof (v := ord.getD i 0) (ws := t) (b := false) (n := n) hn
      obtain ⟨i1, sub1⟩ := sub_child (n := n) (c := fnT n (Tab.cof n t (ord.getD i 0) false)) hind' (fnT_cof hf hoi false)
      refine CallF.fn (C := (N1 ++ Y) ++ C) (.cons .here) (ih (i + 1) K S C (N1 ++ Y) v1 _ (by omega) (by omega) hKn hcap hK (ho.mono fun _ h => List.mem_append_right _ h) hv1 hf1 i1 hU1 (fun g hg => hU2 g (sub1 g hg)) (fun s => by have := hB s; omega)) ?_
      rintro w H ⟨r1, K1, S1, C1, rfl, rfl, hK1, g1⟩
      refine ⟨.cons (Ent.left.trans Ent.right), ?_⟩
      refine Ext.mk rfl (Ext.mk rfl ?_)
      refine Bin.neD (Br.decF (by decide) ?_)
      refine DR.of (R := (b1, .cells #[.int .i64 (n : Int), s0] 55 (0, 0)) :: Y) (.cons (Ent.left.trans Ent.right)) ?_
      refine LdA.whole (r := [.int .i64 (n : Int), s0]) (by exact .head _) rfl ?_
      refine ho.ld hxi (fun _ h => .tail _ h) ?_
      refine Bin.addN (b := 1) (by simp [lim]; omega) ?_
      refine CallF.px (B := N1 ++ Y) (.cons .left) (rcof_ok (c := true) (v := .agg (List.toArray [.int .i64 (n : Int), s0])) (n := n) (ws := t) ⟨s0, rfl, hw0.mono fun _ h => List.mem_append_right _ h⟩ hf hoi) ?_
      rintro v2 N2 hv2
      refine ⟨.cons (Ent.left.trans (.skips .right)), ?_⟩
      have hf2 := Tab.frm_cof (v := ord.getD i 0) (ws := t) (b := true) (n := n) hn
      obtain ⟨i2, sub2⟩ := sub_child (n := n) (c := fnT n (Tab.cof n t (ord.getD i 0) true)) hind' (fnT_cof hf hoi true)
      have hlv0 : ∀ s, K.hold s ≠ 0 → live K.N s := fun s hs => .inr (hK.ok.mid.held s hs)
      have hU1' : ∀ g, NodeSet n ord (K1.held S1) g → U g := fun g hg => by
        rcases (nodes_or g).1 (nodesMono (g1.held hlv0) hg) with h | h
        · exact hU1 g h
        · exact hU2 g (sub1 g h)
      have hh1 : ∀ s, K1.hold s ≤ K.hold s + 1 := fun s => by have := g1.hold s; split at this <;> omega
      refine CallF.fn (C := (N2 ++ (N1 ++ Y)) ++ C1) (.cons .here) (ih (i + 1) K1 S1 C1 (N2 ++ (N1 ++ Y)) v2 _ (by omega) (by omega) (g1.n.trans hKn) (by rw [g1.cap]; exact hcap) hK1 (ho.mono (fun _ h => by repeat (first | exact h | apply List.mem_cons_of_mem | apply List.mem_append_right))) hv2 hf2 i2 hU1' (fun g hg => hU2 g (sub2 g hg)) (fun s => by have := hB s; have := hh1 s; omega)) ?_
      rintro w H ⟨r2, K2, S2, C2, rfl, rfl, hK2, g2⟩
      refine ⟨.cons (Ent.left.trans (.skips .right)), ?_⟩
      refine Ext.mk rfl (Ext.mk rfl ?_)
      refine Bin.neD (Br.decF (by decide) ?_)
      refine ho.ld hxi (fun _ h => .tail _ (List.mem_append_left _ (List.mem_append_right _ (List.mem_append_right _ h)))) ?_
      have l1 : live K2.N r1 := by
        by_cases h2 : r1 < 2
        · exact .inl h2
        · refine .inr (hK2.ok.mid.held r1 ?_)
          have a := g1.hold r1
          have b := g2.hold r1
          rw [if_pos ⟨rfl, by omega⟩] at a
          omega
      have l2 := g2.live
      have e1 : S2 r1 = fnT n (Tab.cof n t (ord.getD i 0) false) := (g2.fn r1 g1.live).trans g1.is
      have e2 : S2 r2 = fnT n (Tab.cof n t (ord.getD i 0) true) := g2.is
      have hne : r1 ≠ r2 := fun e => by
        subst e
        rw [e1, fnT_cof hf hoi, fnT_cof hf hoi] at e2
        obtain ⟨x, hx⟩ := hhang
        exact hx (congrFun e2 x)
      have n2 : K2.n = n := by rw [g2.n, g1.n, hKn]
      have lv2 : lv lev (ord.getD i 0) = i := hov.2
      have b1' := hK2.ok.below hK2.od (l := i + 1) l1 (by omega) (by rw [e1]; exact i1)
      have b2' := hK2.ok.below hK2.od (l := i + 1) l2 (by omega) (by rw [e2]; exact i2)
      have hite : ite S2 ⟨ord.getD i 0, r1, r2⟩ = fnT n t := by
        funext x
        unfold Bdd.ite
        rw [e1, e2, fnT_cof hf hoi, fnT_cof hf hoi]
        conv => rhs; rw [← Tab.setb_self x (ord.getD i 0)]
        simp only
        cases x.testBit (ord.getD i 0) <;> rfl
      have hh2 : ∀ s, K2.hold s ≤ K.hold s + 1 := fun s => by
        have a := g1.hold s
        have b := g2.hold s
        by_cases c1 : s = r1 ∧ 2 ≤ r1
        · rw [if_neg (fun c2 => hne (c1.1.symm.trans c2.1))] at b
          rw [if_pos c1] at a; omega
        · rw [if_neg c1] at a; split at b <;> omega
      have hlv1 : ∀ s, K1.hold s ≠ 0 → live K1.N s := fun s hs => .inr (hK1.ok.mid.held s hs)
      have hU2' : ∀ g, NodeSet n ord (K2.held S2) g → U g := fun g hg => by
        rcases (nodes_or g).1 (nodesMono (g2.held hlv1) hg) with h | h
        · exact hU1' g h
        · exact hU2 g (sub2 g h)
      refine CallF.fn (.cons (.app .here)) (make_ok hK2 (v := ord.getD i 0) (by omega) l1 l2 (.inr ⟨by rw [lv2]; omega, by rw [lv2]; omega⟩)) ?_
      rintro w C3 (⟨r, K3, S3, rfl, hK3, m⟩ | ⟨r, rfl, rfl, hl, h2, hfull, _⟩ | ⟨rfl, rfl, hcr, _, hT⟩)
      rotate_left
      · have := hh2 r; have := hB r; omega
      · exfalso
        have := hK2.ok.roomFor hK2.od hU (by rw [g2.cap, g1.cap]; exact hcap) (by rw [n2]; exact hU2') (d := ⟨ord.getD i 0, r1, r2⟩) l1 l2 hne (by rw [n2]; exact hoi) ⟨by show lv lev (ord.getD i 0) < dep K2.n (lv lev) K2.N r1; rw [lv2]; omega, by show lv lev (ord.getD i 0) < dep K2.n (lv lev) K2.N r2; rw [lv2]; omega⟩ (by rw [hite]; exact hU2 _ (self_node hind' hin hhang)) hT
        omega
      refine Ext.mk rfl (Ext.mk rfl ?_)
      have hr1l := hK2.live_lt l1
      have hr2l := hK2.live_lt l2
      have hold2 : ∀ s, K2.hold s = K.hold s + (if s = r1 ∧ 2 ≤ r1 then 1 else 0) + (if s = r2 ∧ 2 ≤ r2 then 1 else 0) := fun s => by rw [g2.hold, g1.hold]
      have hold3 : ∀ s, K2.hold s ≤ K3.hold s := fun s => by rw [m.hold]; split <;> omega
      refine CallF.fn (.cons (.app .here)) (drop_ok hK3 (r := r1) (by omega) (fun h2 => by have := hold3 r1; have := hold2 r1; rw [if_pos ⟨rfl, h2⟩] at this; omega)) ?_
      rintro w C4 ⟨rfl, K4, hK4, f4⟩
      refine CallF.fn (.cons (.app .here)) (drop_ok hK4 (r := r2) (by omega) (fun h2 => by
        have := hold3 r2; have := hold2 r2; have h4 := f4.hold r2
        rw [if_neg (fun h => hne h.1.symm)] at h4
        rw [if_neg (fun h => hne h.1.symm), if_pos ⟨rfl, h2⟩] at this; omega)) ?_
      rintro w C5 ⟨rfl, K5, hK5, f5⟩
      have hold5 : ∀ s, K5.hold s = K.hold s + if s = r ∧ 2 ≤ r then 1 else 0 := fun s => by
        rw [f5.hold, f4.hold, m.hold, hold2]
        by_cases c1 : s = r1 ∧ 2 ≤ r1
        · have c2 : ¬ (s = r2 ∧ 2 ≤ r2) := fun c2 => hne (c1.1.symm.trans c2.1)
          rw [if_neg c2, if_pos c1, if_neg c2]
          split <;> omega
        · by_cases c2 : s = r2 ∧ 2 ≤ r2
          · rw [if_pos c2, if_neg c1, if_neg c1]
            split <;> omega
          · rw [if_neg c2, if_neg c1, if_neg c1, if_neg c2]
            split <;> omega
      have l5 : live K5.N r := by
        by_cases h2 : r < 2
        · exact .inl h2
        · refine .inr (hK5.ok.mid.held r ?_)
          rw [hold5, if_pos ⟨rfl, by omega⟩]; omega
      refine FnR.mk (H'' := Y ++ C5) (.skip (Ent.frame (.skips .right) C5)) ⟨r, K5, S3, C5, rfl, rfl, hK5, by rw [f5.n, f4.n, m.n, g2.n, g1.n], by rw [f5.cap, f4.cap, m.cap, g2.cap, g1.cap], fun s d hs => keep_nodes hK.ok hK5.ok (fun s h => by rw [hold5]; omega) (fun s d d' h h' => ?_) _ s d hs (Nat.le_refl _), fun s hs => ?_, l5, by rw [m.is, hite], hold5⟩
      · have a := m.N s d (g2.N s d (g1.N s d h))
        have b := f4.N s d' (f5.N s d' h')
        rw [a] at b; exact (Option.some.inj b).symm
      · have q1 := live_mono g1.N hs
        have q2 := live_mono g2.N q1
        rw [m.fn s q2, g2.fn s q1, g1.fn s hs]
end
end Go.Proofs
namespace Bdd
open Tab
structure Mir (K : Kd) (S : Nat → Fn) (held : List (List Nat × Nat)) : Prop where
  nd : (held.map Prod.fst).Nodup
  frm : ∀ e ∈ held, Frm K.n e.1
  rt : ∀ r, K.hold r ≠ 0 → ∃ e ∈ held, fnT K.n e.1 = S r ∧ e.2 = K.hold r
  lf : ∀ e ∈ held, ∃ r, 2 ≤ r ∧ K.hold r = e.2 ∧ e.2 ≠ 0 ∧ S r = fnT K.n e.1
section
variable {K : Kd} {S : Nat → Fn} {lev : Nat → Nat} {ord : List Nat} {held : List (List Nat × Nat)}
theorem Mir.iff (h : Mir K S held) (g : Fn) : K.held S g ↔ FT K.n (held.map Prod.fst) g := by
  constructor
  · rintro ⟨r, hr, rfl⟩
    obtain ⟨e, he, h1, _⟩ := h.rt r hr
    exact ⟨e.1, List.mem_map.2 ⟨e, he, rfl⟩, h1.symm⟩
  · rintro ⟨t, ht, rfl⟩
    obtain ⟨e, he, rfl⟩ := List.mem_map.1 ht
    obtain ⟨r, _, h1, h2, h3⟩ := h.lf e he
    exact ⟨r, fun h0 => h2 (by rw [← h1]; exact h0), h3.symm⟩
theorem Mir.heldEq (h : Mir K S held) : K.held S = FT K.n (held.map Prod.fst) := funext fun g => propext (h.iff g)
theorem Mir.roots (h : Mir K S held) (hok : Ok K S lev) (hm : K.ho.length ≤ 1048576) : ((List.range K.ho.length).filter fun r => decide (0 < K.hold r)).length = held.length := by
  let rts := (List.range K.ho.length).filter fun r => decide (0 < K.hold r)
  have hr : ∀ r, r ∈ rts ↔ K.hold r ≠ 0 := fun r => by
    show r ∈ List.filter _ _ ↔ _
    rw [List.mem_filter, List.mem_range, decide_eq_true_iff]
    constructor
    · rintro ⟨_, h⟩; omega
    · intro h
      refine ⟨?_, by omega⟩
      obtain ⟨d, hd⟩ := hok.mid.held r h
      have := hok.mid.fit hd
      rw [← hok.mid.len]; exact this
  have hl : ∀ r, K.hold r ≠ 0 → live K.N r := fun r h => .inr (hok.mid.held r h)
  have n1 : (rts.map S).Nodup := List.pairwise_map.2 ((List.nodup_range.filter _).imp_of_mem fun {a b} ha hb hne heq => hne (hok.wf.same hok.lv hok.mid.int (hl a ((hr a).1 ha)) (hl b ((hr b).1 hb)) (congrFun heq)))
  have n2 : ((held.map Prod.fst).map (fnT K.n)).Nodup := List.pairwise_map.2 (h.nd.imp_of_mem fun {a b} ha hb hne heq => by
    obtain ⟨e, he, rfl⟩ := List.mem_map.1 ha
    obtain ⟨e', he', rfl⟩ := List.mem_map.1 hb
    exact hne (fnT_inj (h.frm e he) (h.frm e' he') heq))
  have s1 := length_le_of_sub n1 (l' := (held.map Prod.fst).map (fnT K.n)) fun g hg => by
    obtain ⟨r, hr', rfl⟩ := List.mem_map.1 hg
    obtain ⟨e, he, h1, _⟩ := h.rt r ((hr r).1 hr')
    exact List.mem_map.2 ⟨e.1, List.mem_map.2 ⟨e, he, rfl⟩, h1⟩
  have s2 := length_le_of_sub n2 (l' := rts.map S) fun g hg => by
    obtain ⟨t, ht, rfl⟩ := List.mem_map.1 hg
    obtain ⟨e, he, rfl⟩ := List.mem_map.1 ht
    obtain ⟨r, _, h1, h2, h3⟩ := h.lf e he
    exact List.mem_map.2 ⟨r, (hr r).2 (by rw [h1]; exact h2), h3⟩
  simp only [List.length_map] at s1 s2
  show rts.length = held.length
  omega
theorem Mir.count (h : Mir K S held) (hok : Ok K S lev) {r : Nat} {t : List Nat} (hr : live K.N r) (ht : fnT K.n t = S r) (hf : Frm K.n t) :
    (∀ e ∈ held, e.1 = t → e.2 = K.hold r) ∧ (t ∉ held.map Prod.fst → K.hold r = 0) := by
  refine ⟨fun e he h1 => ?_, fun hno => ?_⟩
  · obtain ⟨r', _, h2, h3, h4⟩ := h.lf e he
    have hr' : live K.N r' := .inr (hok.mid.held r' (by rw [h2]; exact h3))
    have : r' = r := hok.wf.same hok.lv hok.mid.int hr' hr (congrFun (by rw [h4, h1, ht]))
    rw [← this, h2]
  · refine Classical.byContradiction fun h0 => ?_
    obtain ⟨e, he, h1, _⟩ := h.rt r h0
    exact hno (List.mem_map.2 ⟨e, he, fnT_inj (h.frm e he) hf (h1.trans ht.symm)⟩)
theorem Mir.none (hn : ∀ r, K.hold r = 0) : Mir K S [] := ⟨by simp, by simp, fun r h => absurd (hn r) h, by simp⟩
theorem Mir.same {K' : Kd} {S' : Nat → Fn} (h : Mir K S held) (hn : K'.n = K.n) (hh : ∀ r, K'.hold r = K.hold r) (hs : ∀ r, K.hold r ≠ 0 → S' r = S r) : Mir K' S' held := by
  refine ⟨h.nd, by rw [hn]; exact h.frm, fun r hr => ?_, fun e he => ?_⟩
  · rw [hh] at hr
    obtain ⟨e, he, h1, h2⟩ := h.rt r hr
    exact ⟨e, he, by rw [hn, h1, hs r hr], by rw [h2, hh]⟩
  · obtain ⟨r, h0, h1, h2, h3⟩ := h.lf e he
    exact ⟨r, h0, by rw [hh, h1], h2, by rw [hs r (by rw [h1]; exact h2), hn, h3]⟩
theorem usz_none {n l : Nat} {F : Fn → Prop} (h : ∀ g, ¬ F g) : usz n ord l F = 0 := by
  refine usz_eq (Cnt.none.congr fun g => ⟨False.elim, fun hg => ?_⟩)
  have key : ∀ ord k g, ¬ fs ord F k g := fun ord k => by
    induction k with
    | zero => exact h
    | succ k ih => rintro g ⟨f, hf, _⟩; exact ih f hf
  rcases hg with ⟨k, _, hf, _⟩ | ⟨k, _, hf, _⟩
  · exact key _ _ _ hf
  · exact key _ _ _ hf
end
end Bdd
set_option maxRecDepth 100000
namespace Go.Proofs
open Go Go.Sx
open Bdd
def pairV (kp mp : Nat) (vr vt : Value) : Value := .agg #[ptr kp, ptr mp, vr, vt]
structure PairOk (mp : Nat) (vr vt : Value) (K : Kd) (S : Nat → Bdd.Fn) (ord tr : List Nat) (M : Md) (refs : List Nat) (ts : List (List Nat)) (Y : Hp) : Prop where
  md : Mdr mp M Y
  fine : M.Fine
  n : M.n = K.n
  ord : M.ord = ord
  trl : M.tr.length = tr.length
  ri : Ints .u32 Y vr (iw refs)
  tabs : Tbls Y vt (tbs K.n ts)
  len : refs.length = ts.length
  mir : Mir K S M.held
  each : ∀ (i : Nat) (r : Nat) (t : List Nat), refs[i]? = some r → ts[i]? = some t → Tab.Frm K.n t ∧ fnT K.n t = S r ∧ ((r < 2 ∧ S r = fun _ => decide (r = 1)) ∨ K.hold r ≠ 0)
  few : refs.length ≤ 65536
section
variable {kp mp : Nat} {vr vt : Value} {K : Kd} {S : Nat → Bdd.Fn} {ord tr : List Nat} {M : Md} {refs : List Nat} {ts : List (List Nat)} {Y C : Hp}
theorem pair_size (h : PairOk mp vr vt K S ord tr M refs ts Y) : ksz K S ord = sizeN M.n M.ord M.tabs M.n := by
  have h1 := h.fine
  unfold ksz
  rw [h.mir.heldEq, ← h.n, ← h.ord]
  exact sz_FT h1.frm h1.n16 h1.lt
theorem alike_ok (hA : At kp K S ord tr C) (h : PairOk mp vr vt K S ord tr M refs ts Y) (htr : tr.length ≤ 1099511627776) : Rd Tryz.prog 40 #[pairV kp mp vr vt] (Y ++ C) (· = .bool true) := by
  obtain ⟨K', S', lev', hK, hk⟩ := hA
  have hM := h.fine
  have hn16 : K.n ≤ 16 := by rw [← h.n]; exact hM.n16
  have hn' : K'.n ≤ 16 := by rw [hk.n]; exact hn16
  have hmir : Mir K' S' M.held := h.mir.same hk.n hk.hold hk.fn
  have hlenS : ord.length = K.n := by rw [hK.od.len, hk.n]
  have hfewM := hM.few
  have hAt : At kp K S ord tr C := ⟨K', S', lev', hK, hk⟩
  have hone1 : vr.oneCell' = true := by obtain ⟨a, c, e, _⟩ := h.ri.shape; rw [e]; rfl
  have hone2 : vt.oneCell' = true := by obtain ⟨rs, h1, _⟩ := h.tabs; obtain ⟨a, c, e, _⟩ := h1.shape; rw [e]; rfl
  intro g
  refine L40_sound (R := FnR _) ?_
  unfold L40
  intro b1 _
  show ∀ J3 : List Value → Hp → Prop, _
  intro J3 hJ3
  have hmd := h.md
  have fin : J3 [.bool false] ((b1, .cells #[ptr kp, ptr mp, vr, vt] 78 (0, 0)) :: (Y ++ C)) := by
    refine hJ3 _ _ fun gs => Br.no ?_
    refine FAddr.mk (Ld.mk (v := vr) (by exact .head _) rfl ?_)
    refine h.ri.lenS ?_
    rw [iw_length]
    refine ⟨fun vs H => ∃ i : Nat, vs = [.int .i64 (i : Int)] ∧ i ≤ refs.length ∧ H = (b1, .cells #[ptr kp, ptr mp, vr, vt] 78 (0, 0)) :: (Y ++ C), fun vs _ => refs.length - nAt vs 0, JE.mk ⟨0, rfl, Nat.zero_le _, rfl⟩, ?_⟩
    rintro w14 H ⟨i, hv, hi, rfl⟩ gs
    simp only [List.cons.injEq, and_true] at hv
    subst hv
    have hfew := h.few
    refine Bin.ltN (Br.dec (fun hlt => ?_) (fun hlt => ?_))
    rotate_left
    · exact RdR.mk .tail rfl
    have hri : refs[i]? = some refs[i] := List.getElem?_eq_getElem hlt
    have hti : ts[i]? = some (ts[i]'(by rw [← h.len]; exact hlt)) := List.getElem?_eq_getElem _
    obtain ⟨hft, hfn, hhold⟩ := h.each i _ _ hri hti
    generalize ht : (ts[i]'(by rw [← h.len]; exact hlt)) = t at *
    generalize hr : refs[i] = r at *
    have hlive : live K'.N r := by
      rcases hhold with h2 | h2
      · exact .inl h2.1
      · exact .inr (hK.ok.mid.held r (by rw [hk.hold]; exact h2))
    have hS : S' r = fnT K.n t := by
      rcases hhold with h2 | h2
      · rw [hfn, h2.2]
        have i1 := hK.ok.mid.int
        have : r = 0 ∨ r = 1 := by omega
        funext x
        rcases this with rfl | rfl
        · exact i1.zero x
        · exact i1.one x
      · rw [hk.fn r h2, hfn]
    have hrl := hK.live_lt hlive
    refine h.ri.ld (n := ((r : Nat) : Int)) (by rw [iw_get hri]) (fun _ h => .tail _ (List.mem_append_left _ h)) ?_
    obtain ⟨vo, vh, vt', rs, hR⟩ := hmd
    refine DR.self ?_
    refine FAddr.mk (Ld.mk (v := ptr kp) (by exact .head _) rfl ?_)
    refine FAddr.mk (Ld.mk (v := ptr mp) (by exact .head _) rfl ?_)
    refine Nil.ptr (FAddr.mk (Ld.mk (v := .int .i64 (M.n : Int)) (.tail _ (List.mem_append_left _ hR.cel)) rfl ?_))
    rw [show M.n = K'.n by rw [h.n, hk.n]]
    intro F26
    refine CallF.px (B := ((b1, Obj.cells #[ptr kp, ptr mp, vr, vt] 78 (0, 0)) :: Y) ++ C) .here (table_ok hK hn' _ r 0 _ (Nat.le_refl _) hlive (Nat.zero_le _)) ?_
    rintro v N ⟨_, ws, rfl, ⟨s, rfl, hws⟩, hfw, hew⟩
    have hwst : ws = t := fnT_inj hfw (by rw [hk.n]; exact hft) (by rw [hew, hS, hk.n])
    subst hwst
    have hos := oneCell_words hws
    refine ⟨.right, ?_⟩
    refine Ext.mk rfl (Ext.mk rfl ?_)
    intro b31 _ F33
    refine St.whole (r := [.int .i64 (K'.n : Int), s]) (by exact .head _) rfl rfl (by simpa [Value.oneCell'] using hos) ?_
    refine ⟨.skip .right, ?_⟩
    intro J35 hJ35
    have fin2 : J35 [.bool false] ((b31, .cells (List.toArray [.int .i64 (K'.n : Int), s]) 55 (0, 0)) :: (N ++ (((b1, Obj.cells #[ptr kp, ptr mp, vr, vt] 78 (0, 0)) :: Y) ++ C))) := by
      refine hJ35 _ _ fun gs => Br.no ?_
      refine Bin.addN (b := 1) (by simp [lim]; omega) ?_
      exact Back.of (.skip .right) ⟨i + 1, rfl, hlt, rfl⟩ (by simp only [nAt]; omega)
    refine DR.self ?_
    refine Un.not (Br.no ?_)
    refine LdA.whole (r := [.int .i64 (K'.n : Int), s]) (by exact .head _) rfl ?_
    refine FAddr.mk (Ld.mk (v := vt) (by exact .tail _ (List.mem_append_right _ (.head _))) rfl ?_)
    refine h.tabs.ld (tbs_get hti) (fun _ h => .tail _ (List.mem_append_right _ (.tail _ (List.mem_append_left _ h)))) fun s2 hw2 => ?_
    intro F47
    have hln := frm_len hfw
    refine CallF.rd .here (same_ok (v1 := .agg (List.toArray [.int .i64 (K'.n : Int), s])) (v2 := .agg #[.int .i64 (K.n : Int), s2]) (a := ⟨K'.n, ws⟩) (b := ⟨K.n, ws⟩) ⟨s, rfl, hws.mono fun _ h => .tail _ h⟩ ⟨s2, rfl, hw2.mono fun _ h => .tail _ (List.mem_append_right _ (.tail _ (List.mem_append_left _ h)))⟩ (by show ws.length < _; omega)) ?_
    rintro v rfl
    refine ⟨.refl _, ?_⟩
    rw [decide_eq_true (by rw [hk.n])]
    refine Un.not (Pick.mk (Br.no ?_))
    refine FAddr.mk (Ld.mk (v := ptr kp) (by exact .tail _ (List.mem_append_right _ (.head _))) rfl ?_)
    refine FAddr.mk (Ld.mk (v := ptr mp) (by exact .tail _ (List.mem_append_right _ (.head _))) rfl ?_)
    refine LdA.whole (r := [.int .i64 (K'.n : Int), s]) (by exact .head _) rfl ?_
    intro F57
    refine CallF.rd (B := C) (.cons (.app (.app .here))) (kheld_ok hK.rep (by omega) (fun s => by have := hK.hold_le s; omega)) ?_
    rintro v rfl
    refine ⟨.refl _, ?_⟩
    intro F60
    refine CallF.rd .here (holds_ok (mp := mp) (M := M) (Mdr.mono ⟨vo, vh, vt', rs, hR⟩ fun _ h => .tail _ (List.mem_append_right _ (.tail _ (List.mem_append_left _ h)))) hM (v := .agg (List.toArray [.int .i64 (K'.n : Int), s])) (t := ws) ⟨s, by rw [h.n, hk.n], hws.mono fun _ h => .tail _ h⟩ (by rw [h.n, ← hk.n]; exact hfw)) ?_
    intro v hcount
    refine ⟨.refl _, ?_⟩
    obtain ⟨c1, c2⟩ := hmir.count hK.ok hlive hew hfw
    have hvv : v = .int .i64 ((K'.hold r : Nat) : Int) := by
      rcases hcount with ⟨e, he, h1, h2⟩ | ⟨h1, h2⟩
      · rw [h2, c1 e he h1]
      · rw [h2, c2 h1]; rfl
    subst hvv
    refine Bin.neN ?_
    rw [decide_eq_false (fun hh => hh rfl)]
    exact Pick.mk (JE.mk fin2)
  obtain ⟨vo, vh, vt', rs, hR⟩ := h.md
  have hin : ∀ x ∈ Y, x ∈ (b1, Obj.cells #[ptr kp, ptr mp, vr, vt] 78 (0, 0)) :: (Y ++ C) := fun _ h => .tail _ (List.mem_append_left _ h)
  refine DR.self ?_
  refine FAddr.mk (Ld.mk (v := ptr kp) (by exact .head _) rfl ?_)
  refine FAddr.mk (Ld.mk (v := ptr mp) (by exact .head _) rfl ?_)
  refine Nil.ptr (FAddr.mk (Ld.mk (v := vo) (hin _ hR.cel) rfl ?_))
  intro F73
  refine CallF.fn (.cons (.app .here)) (at_order hAt) ?_
  rintro v H ⟨N, rfl, ho⟩
  refine ⟨.cons (.prep .right _), ?_⟩
  intro F76
  have hY : ∀ x ∈ Y, x ∈ (b1, Obj.cells #[ptr kp, ptr mp, vr, vt] 78 (0, 0)) :: (Y ++ (N ++ C)) := fun _ h => .tail _ (List.mem_append_left _ h)
  refine CallF.rd .here (isame_ok (ho.ints.mono fun _ h => .tail _ (List.mem_append_right _ (List.mem_append_left _ h))) (hR.ord.mono hY) (by rw [iw_length]; omega)) ?_
  rintro v rfl
  refine ⟨.cons (.prep .right _), ?_⟩
  rw [decide_eq_true (by rw [h.ord])]
  refine Un.not (Br.no ?_)
  refine FAddr.mk (Ld.mk (v := ptr kp) (by exact .head _) rfl ?_)
  refine FAddr.mk (Ld.mk (v := ptr mp) (by exact .head _) rfl ?_)
  refine Nil.ptr (FAddr.mk (Ld.mk (v := vt') (hin _ hR.cel) rfl ?_))
  refine hR.tr.lenS ?_
  intro F88
  refine CallF.rd (B := C) (.cons (.app (.app .here))) (at_trail hAt) ?_
  rintro v rfl
  refine ⟨.cons (.prep .right _), ?_⟩
  refine Bin.neN ?_
  rw [iw_length, h.trl, decide_eq_false (fun hh => hh rfl)]
  refine Pick.mk (Br.no ?_)
  refine FAddr.mk (Ld.mk (v := ptr kp) (by exact .head _) rfl ?_)
  refine FAddr.mk (Ld.mk (v := ptr mp) (by exact .head _) rfl ?_)
  intro F97
  refine CallF.rd (B := C) (.cons (.app (.app .here))) (at_live hAt) ?_
  rintro v rfl
  refine ⟨.cons (.prep .right _), ?_⟩
  intro F100
  refine CallF.rd (B := Y) (.cons .left) (mlive_ok h.md hM) ?_
  rintro v rfl
  refine ⟨.cons (.prep .right _), ?_⟩
  refine Bin.neN ?_
  rw [pair_size h, decide_eq_false (fun hh => hh rfl)]
  refine Pick.mk (Br.no ?_)
  refine FAddr.mk (Ld.mk (v := ptr kp) (by exact .head _) rfl ?_)
  refine FAddr.mk (Ld.mk (v := ptr mp) (by exact .head _) rfl ?_)
  refine Nil.ptr (FAddr.mk (Ld.mk (v := vh) (hin _ hR.cel) rfl ?_))
  refine hR.sl.lenS ?_
  rw [hR.each.1]
  intro F113
  refine CallF.rd (B := C) (.cons (.app (.app .here))) (roots_ok hK) ?_
  rintro v ⟨q, hq, hqe⟩
  refine ⟨.cons (.prep .right _), ?_⟩
  refine hq _ ?_
  obtain ⟨b, _, hO⟩ := hK.rep
  have hul := hO.ul
  rw [hmir.roots hK.ok (by omega)] at hqe
  subst hqe
  refine Bin.neN ?_
  rw [decide_eq_false (fun hh => hh rfl)]
  exact Pick.mk (JE.of (.cons (.prep .right _)) fin)
end
end Go.Proofs
set_option maxRecDepth 100000
namespace Go.Proofs
open Go Go.Sx
open Bdd
def growT (n c : Nat) (ord : List Nat) : Tab.Fs → Tab.Fs → Tab.Fs
  | A, [] => A
  | A, t :: L => growT n c ord (if 2 + sizeN n ord (A ++ [t]) n ≤ c ∧ ¬ (t = constT n false ∨ t = constT n true) ∧ t ∉ A then A ++ [t] else A) L
theorem growT_snoc {n c : Nat} {ord : List Nat} {t : List Nat} : ∀ {L A : Tab.Fs}, growT n c ord A (L ++ [t]) = growT n c ord (growT n c ord A L) [t]
  | [], _ => rfl
  | _ :: L, _ => growT_snoc (L := L)
theorem MdSt.frame {mp : Nat} {M : Md} {X H : Hp} (h : MdSt mp M X H) (Y : Hp) : MdSt mp M (X ++ Y) (H ++ Y) := by
  obtain ⟨vo, vh, vt, rs, CO, CH, CT, rfl, hO⟩ := h
  exact ⟨vo, vh, vt, rs, CO, CH, CT, by simp, hO.ord, hO.sl, hO.each.mono fun _ _ h => h.mono fun _ h => List.mem_append_left _ h, hO.tr⟩
theorem Mir.bump {K K' : Kd} {S S' : Nat → Bdd.Fn} {lev lev' : Nat → Nat} {held held' : List (List Nat × Nat)} {t : List Nat} {r : Nat} (h : Mir K S held) (hok : Ok K S lev) (hok' : Ok K' S' lev') (hg : GrowR K S K' S' (fnT K.n t) r) (hf : Tab.Frm K.n t) (h2 : 2 ≤ r) (hb : Bump held t held') : Mir K' S' held' := by
  have hlv : ∀ s, K.hold s ≠ 0 → live K.N s := fun s hs => .inr (hok.mid.held s hs)
  have hn := hg.n
  have key : ∀ s, K.hold s ≠ 0 → S' s = fnT K.n t → s = r := fun s hs he => hok'.wf.same hok'.lv hok'.mid.int (live_mono hg.N (hlv s hs)) hg.live (congrFun (by rw [he, hg.is]))
  have hr : K'.hold r = K.hold r + 1 := by rw [hg.hold, if_pos ⟨rfl, h2⟩]
  have ho : ∀ s, s ≠ r → K'.hold s = K.hold s := fun s hs => by rw [hg.hold, if_neg (fun e => hs e.1), Nat.add_zero]
  rcases hb with ⟨i, c, hi, hno, rfl⟩ | ⟨hno, rfl⟩
  · have him : (t, c) ∈ held := List.mem_of_getElem? hi
    have hil := (List.getElem?_eq_some_iff.1 hi).1
    have heq : held[i] = (t, c) := (List.getElem?_eq_some_iff.1 hi).2
    have hfst : (held.set i (t, c + 1)).map Prod.fst = held.map Prod.fst := by
      apply List.ext_getElem?
      intro j
      rw [List.getElem?_map, List.getElem?_map]
      by_cases e : i = j
      · subst e; rw [List.getElem?_set_self hil, hi]; rfl
      · rw [List.getElem?_set_ne e]
    obtain ⟨r0, hr0, h1, h1', h3⟩ := h.lf _ him
    have hr0' : K.hold r0 ≠ 0 := by rw [h1]; exact h1'
    have e0 : r0 = r := key r0 hr0' (by rw [hg.fn r0 (hlv r0 hr0'), h3])
    subst e0
    have hmem : ∀ e, e ∈ held.set i (t, c + 1) → e = (t, c + 1) ∨ (e ∈ held ∧ e.1 ≠ t) := fun e he => by
      obtain ⟨j, hj, hje⟩ := List.getElem_of_mem he
      have hjl : j < held.length := by simpa using hj
      by_cases e' : i = j
      · subst e'
        left
        rw [← hje, List.getElem_set_self]
      · right
        rw [List.getElem_set_ne e'] at hje
        refine ⟨by rw [← hje]; exact List.getElem_mem _, fun h5 => ?_⟩
        have hnd := h.nd
        have := (List.getElem_inj (i := i) (j := j) (h₀ := by simpa using hil) (h₁ := by simpa using hjl) hnd).1 (by simp [heq, hje, h5])
        exact e' this
    refine ⟨by rw [hfst]; exact h.nd, fun e he => ?_, fun s hs => ?_, fun e he => ?_⟩
    · rw [hn]
      rcases hmem e he with rfl | ⟨h5, _⟩
      · exact hf
      · exact h.frm e h5
    · by_cases e5 : s = r0
      · subst e5
        refine ⟨(t, c + 1), List.mem_iff_getElem?.2 ⟨i, List.getElem?_set_self hil⟩, by rw [hn, hg.is], ?_⟩
        rw [hr, h1]
      · rw [ho s e5] at hs
        obtain ⟨e, he, h6, h7⟩ := h.rt s hs
        obtain ⟨j, hj, hje⟩ := List.getElem_of_mem he
        have hij : i ≠ j := fun e' => by
          subst e'
          rw [heq] at hje; subst hje
          exact e5 (key s hs (by rw [hg.fn s (hlv s hs), ← h6]))
        refine ⟨e, List.mem_iff_getElem?.2 ⟨j, by rw [List.getElem?_set_ne hij, List.getElem?_eq_getElem hj, hje]⟩, by rw [hn, h6, hg.fn s (hlv s hs)], by rw [h7, ho s e5]⟩
    · rcases hmem e he with rfl | ⟨h5, h6⟩
      · exact ⟨r0, hr0, by rw [hr, h1], by simp, by rw [hg.is, hn]⟩
      · obtain ⟨s, g1, g2, g3, g4⟩ := h.lf e h5
        have g5 : K.hold s ≠ 0 := by rw [g2]; exact g3
        have hsr : s ≠ r0 := fun e' => by
          subst e'
          rw [h3] at g4
          exact h6 (fnT_inj (h.frm e h5) hf g4.symm)
        exact ⟨s, g1, by rw [ho s hsr, g2], g3, by rw [hg.fn s (hlv s g5), hn, g4]⟩
  · have hr0 : K.hold r = 0 := by
      refine Classical.byContradiction fun h0 => ?_
      obtain ⟨e, he, h1, _⟩ := h.rt r h0
      apply hno
      refine List.mem_map.2 ⟨e, he, fnT_inj (h.frm e he) hf ?_⟩
      rw [h1, ← hg.fn r (hlv r h0), hg.is]
    refine ⟨by rw [List.map_append]; exact List.nodup_append.2 ⟨h.nd, by simp, fun a ha b hb' e => by simp at hb'; subst hb'; subst e; exact hno ha⟩, fun e he => ?_, fun s hs => ?_, fun e he => ?_⟩
    · rw [hn]
      rcases List.mem_append.1 he with he | he
      · exact h.frm e he
      · simp at he; subst he; exact hf
    · by_cases e5 : s = r
      · subst e5
        exact ⟨(t, 1), by simp, by rw [hn, hg.is], by rw [hr, hr0]⟩
      · rw [ho s e5] at hs
        obtain ⟨e, he, h6, h7⟩ := h.rt s hs
        exact ⟨e, by simp [he], by rw [hn, h6, hg.fn s (hlv s hs)], by rw [h7, ho s e5]⟩
    · rcases List.mem_append.1 he with he | he
      · obtain ⟨s, g1, g2, g3, g4⟩ := h.lf e he
        have g5 : K.hold s ≠ 0 := by rw [g2]; exact g3
        have hsr : s ≠ r := fun e' => by subst e'; exact g5 hr0
        exact ⟨s, g1, by rw [ho s hsr, g2], g3, by rw [hg.fn s (hlv s g5), hn, g4]⟩
      · simp at he; subst he
        exact ⟨r, h2, by rw [hr, hr0], by simp, by rw [hg.is, hn]⟩
theorem bump_tabs {held held' : List (List Nat × Nat)} {t : List Nat} (hb : Bump held t held') : held'.map Prod.fst = (if t ∉ held.map Prod.fst then held.map Prod.fst ++ [t] else held.map Prod.fst) ∧ held'.length ≤ held.length + 1 ∧ (∀ m, (∀ e ∈ held, e.2 ≤ m) → ∀ e ∈ held', e.2 ≤ m + 1) := by
  rcases hb with ⟨i, c, hi, hno, rfl⟩ | ⟨hno, rfl⟩
  · have him : (t, c) ∈ held := List.mem_of_getElem? hi
    have hil := (List.getElem?_eq_some_iff.1 hi).1
    refine ⟨?_, by simp, fun m hm e he => ?_⟩
    · rw [if_neg (fun h => h (List.mem_map.2 ⟨_, him, rfl⟩))]
      apply List.ext_getElem?
      intro j
      rw [List.getElem?_map, List.getElem?_map]
      by_cases e : i = j
      · subst e; rw [List.getElem?_set_self hil, hi]; rfl
      · rw [List.getElem?_set_ne e]
    · rcases List.mem_or_eq_of_mem_set he with he | rfl
      · have := hm e he; omega
      · have := hm _ him; simp only at this ⊢; omega
  · refine ⟨by rw [if_pos hno]; simp, by simp, fun m hm e he => ?_⟩
    rcases List.mem_append.1 he with he | he
    · have := hm e he; omega
    · simp at he; subst he; simp
end Go.Proofs
set_option maxRecDepth 100000
namespace Go.Proofs
open Go Go.Sx
open Bdd
theorem count_iw (p : List Nat) (v : Nat) : (iw p).count (v : Int) = p.count v := by
  induction p with
  | nil => rfl
  | cons y p ih =>
    show (((y : Nat) : Int) :: iw p).count (v : Int) = _
    rw [List.count_cons, List.count_cons, ih]
    congr 1
    have : (((y : Nat) : Int) == (v : Int)) = (y == v) := by
      rw [Bool.eq_iff_iff]; simp [Int.natCast_inj]
    rw [this]
theorem isPm_of {n : Nat} {p : List Nat} (hp : p.Perm (List.range n)) : isPm n (iw p) := by
  refine ⟨by rw [iw_length, hp.length_eq, List.length_range], fun v hv => ?_⟩
  rw [count_iw, hp.count_eq]
  exact List.nodup_range.count (a := v) |>.trans (if_pos (List.mem_range.2 hv))
theorem perm_lt {n : Nat} {p : List Nat} (hp : p.Perm (List.range n)) : p.length = n ∧ ∀ i, i < n → p.getD i 0 < n := by
  have h1 : p.length = n := by rw [hp.length_eq, List.length_range]
  refine ⟨h1, fun i hi => ?_⟩
  have : p.getD i 0 ∈ p := by rw [List.getD_eq_getElem?_getD, List.getElem?_eq_getElem (show i < p.length by omega)]; exact List.getElem_mem _
  exact List.mem_range.1 (hp.mem_iff.1 this)
theorem pair_one {kp mp : Nat} {vr vt : Value} (h1 : vr.oneCell' = true) (h2 : vt.oneCell' = true) : ∀ u ∈ [ptr kp, ptr mp, vr, vt], u.oneCell' = true := fun u hu => by
  simp only [List.mem_cons, List.not_mem_nil, or_false] at hu
  rcases hu with rfl | rfl | rfl | rfl
  · rfl
  · rfl
  · exact h1
  · exact h2
theorem hold1_any {mp : Nat} {M : Md} {X H : Hp} (h : MdSt mp M X H) (hM : M.Fine) {v : Value} {t : List Nat} (ht : Tbl X v ⟨M.n, t⟩) (hf : Tab.Frm M.n t) (hlt : ∀ e ∈ M.held, e.2 < 65535) :
    Fc Tryz.prog 68 #[ptr mp, v] H (fun r H' => r = .int .i64 0 ∧ ∃ held', MdSt mp { M with held := held' } X H' ∧ ((t = constT M.n false ∨ t = constT M.n true) → held' = M.held) ∧ (¬ (t = constT M.n false ∨ t = constT M.n true) → Bump M.held t held')) := by
  by_cases hc : t = constT M.n false ∨ t = constT M.n true
  · refine (hold1_const (X := X) (mp := mp) hM (ht.mono h.sub) hf hc).mono ?_
    rintro v H ⟨rfl, rfl⟩
    exact ⟨rfl, M.held, h, fun _ => rfl, fun h => absurd hc h⟩
  · refine (hold1_ok h hM ht hf hc hlt).mono ?_
    rintro v H ⟨rfl, held', hb, hm⟩
    exact ⟨rfl, held', hm, fun h => absurd h hc, fun _ => hb⟩
theorem MdSt.grow {mp : Nat} {M : Md} {X H : Hp} (h : MdSt mp M X H) : Grow X H := by
  obtain ⟨vo, vh, vt, rs, CO, CH, CT, rfl, _⟩ := h
  exact .cons (.app (.app (.app (.refl _))))
structure Lay (n c : Nat) (ord lev : List Nat) (L : Tab.Fs) (Y : Hp) (i kp mp : Nat) (vr vt : Value) (K : Kd) (S : Nat → Bdd.Fn) (M : Md) (refs : List Nat) (ts : Tab.Fs) (HM C CR CS : Hp) : Prop where
  ks : KSt kp K S ord lev [] C
  kn : K.n = n
  kc : K.cap = c
  md : MdSt mp M Y HM
  mn : M.n = n
  mc : M.cap = c
  mo : M.ord = ord
  mt : M.tr = []
  mir : Mir K S M.held
  cnt : ∀ s, K.hold s ≤ i
  hl : M.held.length ≤ i
  ec : ∀ e ∈ M.held, e.2 ≤ i
  tb : M.tabs = growT n c ord [] (L.take i)
  rf : IOwn 31 .u32 vr (iw refs) CR
  tw : TOwn 55 vt (tbs n ts) CS Y
  len : refs.length = ts.length
  rl : refs.length ≤ i
  each : ∀ (i : Nat) (r : Nat) (t : List Nat), refs[i]? = some r → ts[i]? = some t → Tab.Frm n t ∧ fnT n t = S r ∧ ((r < 2 ∧ S r = fun _ => decide (r = 1)) ∨ K.hold r ≠ 0)
section
variable {n c : Nat} {ord : List Nat} {L : Tab.Fs} {Y : Hp}
theorem Lay.fine {lev : List Nat} {i kp mp : Nat} {vr vt : Value} {K : Kd} {S : Nat → Bdd.Fn} {M : Md} {refs : List Nat} {ts : Tab.Fs} {HM C CR CS : Hp} (h : Lay n c ord lev L Y i kp mp vr vt K S M refs ts HM C CR CS) (hn : n ≤ 8) (hc : c ≤ 1048576) (hp : ord.Perm (List.range n)) (hi : i ≤ 60000) : M.Fine := by
  have ⟨h1, h2⟩ := perm_lt hp
  have a := h.hl
  refine ⟨by rw [h.mn]; omega, by rw [h.mc]; exact hc, by rw [h.mo, h.mn]; exact h1, by rw [h.mo, h.mn]; exact h2, fun t ht => ?_, by omega, fun e he => ?_, by rw [h.mt]; simp⟩
  · obtain ⟨e, he, rfl⟩ := List.mem_map.1 ht
    rw [h.mn, ← h.kn]; exact h.mir.frm e he
  · have := h.ec e he; omega
theorem start_ok {o v : Value} (hn : 1 ≤ n ∧ n ≤ 8) (hc : 2 ≤ c ∧ c ≤ 1048576) (hp : ord.Perm (List.range n)) (ho : Ints .i64 Y o (iw ord)) (hL : Tbls Y v (tbs n L)) (hf : ∀ t ∈ L, Tab.Frm n t) (hmax : L.length ≤ 60000) :
    Fc Tryz.prog 38 #[.int .i64 (c : Int), o, v] Y (fun r H => ∃ kp mp vr vt K S lev M refs ts C Y', r = .tuple #[pairV kp mp vr vt, .bool true, .bool true] ∧ H = Y' ++ C ∧ KSt kp K S ord lev [] C ∧ PairOk mp vr vt K S ord [] M refs ts Y' ∧ K.n = n ∧ K.cap = c ∧ M.tabs = growT n c ord [] L ∧ Grow Y Y') := by
  have ⟨hlen, hlt⟩ := perm_lt hp
  have hnd : ord.Nodup := hp.nodup_iff.2 List.nodup_range
  have hlenI : ((ord.length : Nat) : Int) = (n : Int) := by rw [hlen]
  intro g
  refine L38_sound (R := FnR _) ?_
  unfold L38
  intro b1 _
  refine ho.lenS ?_
  rw [iw_length, hlenI]
  intro J4 hJ4
  have fin : J4 [.bool false] ((b1, .cells #[.pointer none, .pointer none, .slice none 0 0, .slice none 0 0] 78 (0, 0)) :: Y) := by
    refine hJ4 _ _ fun gs => Br.no ?_
    refine hL.lenS ?_
    rw [tbs_length]
    refine ⟨fun vs H => ∃ i : Nat, vs = [.int .i64 (i : Int)] ∧ i ≤ L.length ∧ H = (b1, .cells #[.pointer none, .pointer none, .slice none 0 0, .slice none 0 0] 78 (0, 0)) :: Y, fun vs _ => L.length - nAt vs 0, JE.mk ⟨0, rfl, Nat.zero_le _, rfl⟩, ?_⟩
    rintro w16 H ⟨i, hv, hi, rfl⟩ gs
    simp only [List.cons.injEq, and_true] at hv
    subst hv
    refine Bin.ltN (Br.dec (fun hlt2 => ?_) (fun hlt2 => ?_))
    · refine hL.ld (tbs_get (List.getElem?_eq_getElem hlt2)) (fun _ h => .tail _ h) fun s hw => ?_
      have hone := oneCell_words hw
      have hfi := hf L[i] (List.getElem_mem hlt2)
      intro b20 _
      refine St.whole (r := [.int .i64 (n : Int), s]) (by exact .head _) rfl rfl (by simpa [Value.oneCell'] using hone) ?_
      refine LdA.whole (r := [.int .i64 (n : Int), s]) (by exact .head _) rfl ?_
      refine CallF.rd (B := Y) (.cons (.cons .here)) (rform_ok (v := .agg (List.toArray [.int .i64 (n : Int), s])) (t := ⟨n, L[i]⟩) ⟨s, rfl, hw⟩) ?_
      rintro v rfl
      rw [decide_eq_true (show TF ⟨(n : Int), L[i]⟩ from ⟨by simp, by simpa using hfi⟩)]
      refine Un.not ?_
      refine Grp.or false (fun _ => FAddr.mk (Ld.mk (v := .int .i64 (n : Int)) (by exact .head _) rfl (Bin.neN ⟨rfl, by rw [decide_eq_false (fun h => h rfl)]⟩))) rfl fun gs => Br.no ?_
      refine Bin.addN (b := 1) (by simp [lim]; omega) ?_
      exact Back.of .tail ⟨i + 1, rfl, hlt2, rfl⟩ (by simp only [nAt]; omega)
    · -- kernel and model
      refine CallF.fn hnew (new_ok (n := n) (cap := c) (by omega) hc) ?_
      rintro v C ⟨kp, rfl, hK⟩
      refine Ext.mk rfl (Ext.mk rfl ?_)
      refine Bin.neD ?_
      refine Grp.or false (fun _ => Bin.ptrNil ⟨rfl, rfl⟩) rfl fun gs => Br.no ?_
      refine CallF.fn hnew (newModel_ok (n := n) (cap := c) (by omega) hc.2) ?_
      rintro v H0 ⟨mp, rfl, hM0⟩
      refine Build.mk (cs := [ptr kp, ptr mp, .slice none 0 0, .slice none 0 0]) (by kernel_rfl) ?_
      refine St.whole (r := [ptr kp, ptr mp, .slice none 0 0, .slice none 0 0]) (Upd.prepend (Upd.prepend (.head _) _) _) rfl rfl (by simp [Value.oneCell']) ?_
      refine FAddr.mk (Ld.mk (v := ptr mp) (List.mem_append_right _ (List.mem_append_right _ (.head _))) rfl ?_)
      obtain ⟨vo, vh, vt, rs, hR⟩ := hM0.rd
      refine Nil.ptr (FAddr.mk (Ld.mk (v := vo) (List.mem_append_left _ hR.cel) rfl ?_))
      have hrange : (List.range n).Perm (List.range n) := .refl _
      refine CallF.pre (H' := (b1, .cells #[ptr kp, ptr mp, .slice none 0 0, .slice none 0 0] 78 (0, 0)) :: ((H0 ++ Y) ++ C)) (.perm ?_) ?_
      · refine (List.Perm.append_left H0 List.perm_middle).trans ?_
        refine List.perm_middle.trans (List.Perm.cons _ ?_)
        rw [List.append_assoc]
        exact List.Perm.append_left _ List.perm_append_comm
      refine CallF.fn (.cons .left) (docPath_ok (n := n) (hR.ord.mono fun _ h => List.mem_append_left _ h) (ho.mono fun _ h => List.mem_append_right _ h) hrange hp (by omega)) ?_
      rintro v H ⟨s, CW, rfl, rfl, hW⟩
      refine Ext.mk rfl (Ext.mk rfl ?_)
      refine hW.lenS ?_
      rw [iw_length]
      obtain ⟨hpe, hpl⟩ := path_ok hnd hp.symm
      have hplen : (path (List.range n) ord).length ≤ 64 := by
        have := pathN_len hnd hp.symm ord.length (Nat.le_refl _)
        rw [List.length_range, hlen] at this
        have h8 : n * n ≤ 8 * 8 := Nat.mul_le_mul hn.2 hn.2
        unfold path; rw [hlen]; omega
      generalize hway : path (List.range n) ord = way at *
      have hnoheld : ∀ g, ¬ (K0 n c).held S0 g := by
        rintro g ⟨r, hr, _⟩
        exact hr (by simp [Kd.hold, K0])
      have hsp : ∀ i, (swps (List.range n) (way.take i)).Perm (List.range n) := fun i => swps_perm fun l hl => hpl l (List.mem_of_mem_take hl)
      have hfineW : ∀ i, Md.Fine ⟨n, c, swps (List.range n) (way.take i), [], way.take i⟩ := fun i => by
        have ⟨q1, q2⟩ := perm_lt (hsp i)
        exact ⟨by show n ≤ 16; omega, hc.2, q1, q2, fun t ht => by simp [Md.tabs] at ht, by simp, by simp, by simp; omega⟩
      refine ⟨fun vs H => ∃ (i : Nat) (HM C' : Hp), vs = [.int .i64 (i : Int)] ∧ i ≤ way.length ∧ H = (b1, .cells #[ptr kp, ptr mp, .slice none 0 0, .slice none 0 0] 78 (0, 0)) :: (CW ++ (HM ++ C')) ∧ MdSt mp ⟨n, c, swps (List.range n) (way.take i), [], way.take i⟩ Y HM ∧ At kp (K0 n c) S0 (swps (List.range n) (way.take i)) (way.take i) C',
        fun vs _ => way.length - nAt vs 0, JE.of (.cons Ent.assoc) ⟨0, H0 ++ Y, C, rfl, Nat.zero_le _, rfl, by simpa [swps] using hM0.frame Y, by simpa [swps] using hK.at'⟩, ?_⟩
      rintro w65 H ⟨i, HM, C', hv, hi, rfl, hMd, hA⟩ gs
      simp only [List.cons.injEq, and_true] at hv
      subst hv
      refine Bin.ltN (Br.dec (fun hlt3 => ?_) (fun hlt3 => ?_))
      · have hwl : way[i] + 1 < n := by have := hpl way[i] (List.getElem_mem hlt3); rwa [List.length_range] at this
        have hwi : (iw way)[i]? = some ((way[i] : Nat) : Int) := by rw [iw_get (List.getElem?_eq_getElem hlt3)]
        refine hW.ld hwi (fun _ h => .tail _ (List.mem_append_left _ h)) ?_
        intro J69 hJ69
        have htk : way.take (i + 1) = way.take i ++ [way[i]] := List.take_succ_eq_append_getElem hlt3
        have fin3 : ∀ HM2 C2, MdSt mp ⟨n, c, swps (List.range n) (way.take (i + 1)), [], way.take (i + 1)⟩ Y HM2 → At kp (K0 n c) S0 (swps (List.range n) (way.take (i + 1))) (way.take (i + 1)) C2 → J69 [.bool false] ((b1, .cells #[ptr kp, ptr mp, .slice none 0 0, .slice none 0 0] 78 (0, 0)) :: (CW ++ (HM2 ++ C2))) := fun HM2 C2 q1 q2 => by
          refine hJ69 _ _ fun gs => Br.no ?_
          refine Bin.addN (b := 1) (by simp [lim]; omega) ?_
          exact Back.of (.refl _) ⟨i + 1, HM2, C2, rfl, hlt3, rfl, q1, q2⟩ (by simp only [nAt]; omega)
        refine CallF.fn (.cons (.app (.app .here))) (at_exch hA (by exact hwl) (by simp; omega) ?_) ?_
        · unfold kfit
          rw [usz_none hnoheld]; exact (by show 0 + 2 ≤ c; omega)
        rintro v C2 ⟨rfl, hA2⟩
        refine Bin.neD (Split.go (by decide) ?_)
        refine FAddr.mk (Ld.mk (v := ptr mp) (by exact .head _) rfl ?_)
        refine CallF.fn (.cons (.app .left)) (exch9_ok hMd (hfineW i) hwl ?_) ?_
        · have := usz_FT (n := n) (ord := swps (List.range n) (way.take i)) (L := []) (l := way[i]) (by simp) (by omega) (hfineW i).lt hwl (hfineW i).len
          rw [usz_none (by rintro g ⟨t, ht, _⟩; simp at ht)] at this
          show 2 + (bothN n (swps (List.range n) (way.take i)) way[i] []).length ≤ c
          omega
        rintro v HM2 ⟨rfl, hMd2⟩
        refine Bin.neD (Pick.mk (JE.mk (fin3 HM2 C2 ?_ ?_)))
        · rw [htk, swps_snoc]; exact hMd2
        · rw [htk, swps_snoc]; exact hA2
      · obtain rfl : i = way.length := by omega
        rw [List.take_length, hpe] at hMd hA
        obtain ⟨K1, S1, lev, hK1, hk1⟩ := hA
        refine CallF.fn (.cons (.app (.app .here))) (keep_ok hK1 (r := 1) (.inl (by omega)) (fun h => absurd h (by omega))) ?_
        rintro v C3 ⟨rfl, K2, hK2, hmore⟩
        refine Bin.neD (Br.decF (by decide) ?_)
        refine FAddr.mk (Ld.mk (v := ptr mp) (by exact .head _) rfl ?_)
        obtain ⟨vo, vh, vt, rs, CO, CH, CT, rfl, hO⟩ := hMd
        refine Nil.ptr (FAddr.mk (St.one (c' := mcells ⟨n, c, ord, [], []⟩ vo vh (.slice none 0 0)) (.tail (Upd.prepend (Upd.append (.head _) C3) _)) rfl (by simp [mcells]) rfl ?_))
        refine hL.lenS ?_
        rw [tbs_length]
        have hold0 : ∀ s, K2.hold s = 0 := fun s => by
          rw [hmore.hold, if_neg (by omega), hk1.hold]; simp [Kd.hold, K0]
        refine ⟨fun vs H => ∃ (i : Nat) (vr vt : Value) (K : Kd) (S : Nat → Bdd.Fn) (M : Md) (refs : List Nat) (ts : Tab.Fs) (HM C CR CS : Hp), vs = [.int .i64 (i : Int)] ∧ i ≤ L.length ∧ H = (b1, .cells #[ptr kp, ptr mp, vr, vt] 78 (0, 0)) :: (CR ++ (CS ++ (HM ++ C))) ∧ Lay n c ord lev L Y i kp mp vr vt K S M refs ts HM C CR CS,
          fun vs _ => L.length - nAt vs 0, JE.of (H' := (b1, .cells #[ptr kp, ptr mp, .slice none 0 0, .slice none 0 0] 78 (0, 0)) :: ([] ++ ([] ++ (((mp, .cells (mcells ⟨n, c, ord, [], []⟩ vo vh (.slice none 0 0)) 121 (0, 0)) :: (CO ++ (CH ++ ([] ++ Y)))) ++ C3)))) (.cons (.skips (Ent.frame (.cons (.prep (.prep .right _) _)) C3))) ⟨0, .slice none 0 0, .slice none 0 0, K2, S1, ⟨n, c, ord, [], []⟩, [], [], _, C3, [], [], rfl, Nat.zero_le _, rfl, ?_⟩, ?_⟩
        · exact { ks := hK2, kn := hmore.n.trans hk1.n, kc := hmore.cap.trans hk1.cap, md := ⟨vo, vh, .slice none 0 0, rs, CO, CH, [], rfl, hO.ord, hO.sl, hO.each, IOwn.nil⟩, mn := rfl, mc := rfl, mo := rfl, mt := rfl, mir := Mir.none hold0, cnt := fun s => by rw [hold0]; exact Nat.zero_le _, hl := Nat.zero_le _, ec := by simp, tb := rfl, rf := IOwn.nil, tw := TOwn.nil, len := rfl, rl := Nat.zero_le _, each := by simp }
        rintro w103 H ⟨i, vr, vt2, K, S, M, refs, ts, HM, C4, CR, CS, hv, hi4, rfl, hY⟩ gs
        simp only [List.cons.injEq, and_true] at hv
        subst hv
        have hfine := hY.fine hn.2 hc.2 hp (by omega)
        refine Bin.ltN (Br.dec (fun hlt4 => ?_) (fun hlt4 => ?_))
        · intro J105 hJ105
          have hone1 : vr.oneCell' = true := hY.rf.one
          have hone2 : vt2.oneCell' = true := by obtain ⟨rs, h1, _⟩ := hY.tw; obtain ⟨a, c, e⟩ := SOwn.len h1; rw [e]; rfl
          have hti : L[i]? = some L[i] := List.getElem?_eq_getElem hlt4
          have hft := hf L[i] (List.getElem_mem hlt4)
          have htk : L.take (i + 1) = L.take i ++ [L[i]] := List.take_succ_eq_append_getElem hlt4
          generalize hte : L[i] = t at *
          have fin4 : ∀ vr vt2 K S M refs ts HM C4 CR CS, Lay n c ord lev L Y (i + 1) kp mp vr vt2 K S M refs ts HM C4 CR CS → J105 [] ((b1, .cells #[ptr kp, ptr mp, vr, vt2] 78 (0, 0)) :: (CR ++ (CS ++ (HM ++ C4)))) := fun vr vt2 K S M refs ts HM C4 CR CS hY' => by
            refine hJ105 _ fun gs => ?_
            refine Bin.addN (b := 1) (by simp [lim]; omega) ?_
            exact Back.of (.refl _) ⟨i + 1, vr, vt2, K, S, M, refs, ts, HM, C4, CR, CS, rfl, hlt4, rfl, hY'⟩ (by simp only [nAt]; omega)
          refine hL.ld (tbs_get hti) (fun _ h => .tail _ (List.mem_append_right _ (List.mem_append_right _ (List.mem_append_left _ (hY.md.sub _ h))))) fun s hw => ?_
          have hones := oneCell_words hw
          have htY : Tbl Y (.agg (List.toArray [.int .i64 (n : Int), s])) ⟨n, t⟩ := ⟨s, rfl, hw⟩
          intro b111 _
          refine St.whole (r := [.int .i64 (n : Int), s]) (by exact .head _) rfl rfl (by simpa [Value.oneCell'] using hones) ?_
          refine FAddr.mk (Ld.mk (v := ptr mp) (by exact .tail _ (.head _)) rfl ?_)
          refine LdA.whole (r := [.int .i64 (n : Int), s]) (by exact .head _) rfl ?_
          refine buildOne fun xb => ?_
          have hmdr : Mdr mp M (HM ++ C4) := hY.md.rd.mono fun _ h => List.mem_append_left _ h
          have hlst : Tbls ((xb, Obj.cells #[.int .i64 (n : Int), s] 55 (0, 0)) :: (b111, .cells (List.toArray [.int .i64 (n : Int), s]) 55 (0, 0)) :: (b1, .cells #[ptr kp, ptr mp, vr, vt2] 78 (0, 0)) :: (CR ++ (CS ++ (HM ++ C4)))) (.slice (some ⟨xb, 0, none⟩) 1 1) (tbs M.n [t]) := by
            rw [hY.mn]
            exact Tbls.one (cap := 0) (t := ⟨n, t⟩) (.head _) (hw.mono fun _ h => .tail _ (.tail _ (.tail _ (List.mem_append_right _ (List.mem_append_right _ (List.mem_append_left _ (hY.md.sub _ h)))))))
          refine CallF.rd .here (mfits_ok (hmdr.mono fun _ h => .tail _ (.tail _ (.tail _ (List.mem_append_right _ (List.mem_append_right _ h))))) hfine hlst (fun u hu => by simp at hu; subst hu; rw [hY.mn]; exact hft) (by simp)) ?_
          rintro v rfl
          rw [hY.mn, hY.mo, hY.mc]
          refine Un.not ?_
          by_cases hfit : 2 + sizeN n ord (M.tabs ++ [t]) n ≤ c
          rotate_left
          · rw [decide_eq_false hfit]
            refine Br.yes (JE.of (.skip .tail) (fin4 vr vt2 K S M refs ts HM C4 CR CS ?_))
            refine { hY with cnt := fun s => Nat.le_succ_of_le (hY.cnt s), hl := Nat.le_succ_of_le hY.hl, ec := fun e he => Nat.le_succ_of_le (hY.ec e he), tb := ?_, rl := Nat.le_succ_of_le hY.rl }
            rw [htk, growT_snoc, ← hY.tb]
            show M.tabs = if _ then _ else _
            rw [if_neg (fun h => hfit h.1)]
          rw [decide_eq_true hfit]
          refine Br.no ?_
          refine LdA.whole (r := [.int .i64 (n : Int), s]) (by exact .tail _ (.head _)) rfl ?_
          have hfr : ∀ u ∈ M.tabs ++ [t], Tab.Frm n u := fun u hu => by
            rcases List.mem_append.1 hu with hu | hu
            · have := hfine.frm u hu; rwa [hY.mn] at this
            · simp at hu; subst hu; exact hft
          have hU := cnt_FT (n := n) (ord := ord) (L := M.tabs ++ [t]) hfr (by omega) hlt
          have hheld := hY.mir.heldEq
          rw [hY.kn] at hheld
          refine CallF.fn (C := HM ++ C4) (args := #[ptr kp, o, .agg (List.toArray [.int .i64 (n : Int), s]), .int .i64 ((0 : Nat) : Int)]) (.cons (.cons (.cons (.app (.app .here))))) (grow_ok hU (by omega) n 0 K S C4 HM _ t (by omega) (by omega) hY.kn (by rw [hY.kc]; omega) hY.ks (ho.mono hY.md.sub) (htY.mono hY.md.sub) hft (fun j hj => absurd hj (Nat.not_lt_zero _)) (fun g hg => ?_) (fun g hg => ?_) (fun s => by have := hY.cnt s; omega)) ?_
          · rw [hheld] at hg
            exact nodesMono (fun g ⟨u, hu, e⟩ => ⟨u, List.mem_append_left _ hu, e⟩) hg
          · exact nodesMono (fun g e => ⟨t, by simp, e⟩) hg
          rintro w H ⟨r, K3, S3, C5, rfl, rfl, hK3, hg⟩
          refine Ext.mk rfl (Ext.mk rfl ?_)
          refine Bin.neD (Br.decF (by decide) ?_)
          refine FAddr.mk (Ld.mk (v := ptr mp) (by exact .tail _ (.tail _ (.head _))) rfl ?_)
          refine LdA.whole (r := [.int .i64 (n : Int), s]) (by exact .tail _ (.head _)) rfl ?_
          refine CallF.fn (.cons (.cons (.cons (.app (.app .left))))) (hold1_any hY.md hfine (by rw [hY.mn]; exact htY) (by rw [hY.mn]; exact hft) (fun e he => by have := hY.ec e he; omega)) ?_
          rintro w HM2 ⟨rfl, held', hMd2, hcst, hbmp⟩
          rw [hY.mn] at hcst hbmp
          refine FAddr.mk (Ld.mk (v := vr) (by exact .tail _ (.tail _ (.head _))) rfl ?_)
          refine BuildSl.int (e := 31) (by kernel_rfl) (by kernel_rfl) (by kernel_rfl) fun yb => ?_
          refine hY.rf.appH (.cons (.cons (.cons (.cons .left)))) (by exact .head _) (by rw [iw_length]; have := hY.rl; omega) (by rw [iw_length]; have := hY.rl; omega) fun vr' CR' hrf' => ?_
          refine FAddr.mk (St.one (c' := #[ptr kp, ptr mp, vr', vt2]) (by exact .tail (.tail (.tail (.head _)))) hrf'.one (by simp) rfl ?_)
          refine FAddr.mk (Ld.mk (v := vt2) (by exact .tail _ (.tail _ (.tail _ (.head _)))) rfl ?_)
          refine LdA.whole (r := [.int .i64 (n : Int), s]) (by exact .tail _ (.tail _ (.head _))) rfl ?_
          refine buildOne fun zb => ?_
          refine hY.tw.app (A := _ :: _ :: _ :: _ :: _ :: CR') (B := HM2 ++ C5) (t := ⟨n, t⟩) (s := s) (by exact .head _) hw (by rw [tbs_length, ← hY.len]; have := hY.rl; omega) fun vt' CS' htw' => ?_
          rw [tbs_snoc] at htw'
          have hone3 : vt'.oneCell' = true := by obtain ⟨rs, h1, _⟩ := htw'; obtain ⟨a, c, e⟩ := SOwn.len h1; rw [e]; rfl
          refine FAddr.mk (St.one (c' := #[ptr kp, ptr mp, vr', vt']) (by exact .tail (.tail (.tail (.tail (.head _))))) hone3 (by simp) rfl ?_)
          refine JE.of (.skip (.skip (.skip .tail))) (fin4 vr' vt' K3 S3 { M with held := held' } (refs ++ [r]) (ts ++ [t]) HM2 C5 CR' CS' ?_)
          have hlv : ∀ s, K.hold s ≠ 0 → live K.N s := fun s hs => .inr (hY.ks.ok.mid.held s hs)
          have hrc : (t = constT n false ∨ t = constT n true) ↔ r < 2 := by
            have hint := hK3.ok.mid.int
            constructor
            · intro hc'
              have : ∃ q, q < 2 ∧ ∀ x, S3 r x = S3 q x := by
                rcases hc' with rfl | rfl
                · exact ⟨0, by omega, fun x => by rw [hint.zero, hg.is, fnT_const]⟩
                · exact ⟨1, by omega, fun x => by rw [hint.one, hg.is, fnT_const]⟩
              obtain ⟨q, hq, he⟩ := this
              have := hK3.ok.wf.same hK3.ok.lv hint hg.live (.inl hq) he
              omega
            · intro hr
              have : r = 0 ∨ r = 1 := by omega
              rcases this with rfl | rfl
              · exact .inl ((fnT_const_iff (by omega) hft false).2 (by rw [← hg.is]; exact funext hint.zero))
              · exact .inr ((fnT_const_iff (by omega) hft true).2 (by rw [← hg.is]; exact funext hint.one))
          have hgk : GrowR K S K3 S3 (fnT K.n t) r := by rw [hY.kn]; exact hg
          have hmir' : Mir K3 S3 held' := by
            by_cases hr2 : r < 2
            · rw [hcst (hrc.2 hr2)]
              exact hY.mir.same hg.n (fun s => by rw [hg.hold, if_neg (by omega), Nat.add_zero]) (fun s hs => hg.fn s (hlv s hs))
            · exact Mir.bump hY.mir hY.ks.ok hK3.ok hgk (by rw [hY.kn]; exact hft) (by omega) (hbmp (fun h => hr2 (hrc.1 h)))
          refine { ks := hK3, kn := hg.n.trans hY.kn, kc := hg.cap.trans hY.kc, md := hMd2, mn := hY.mn, mc := hY.mc, mo := hY.mo, mt := hY.mt, mir := hmir', cnt := fun s => ?_, hl := ?_, ec := ?_, tb := ?_, rf := ?_, tw := htw', len := by simp [hY.len], rl := by simp; exact hY.rl, each := ?_ }
          · have := hY.cnt s
            rw [hg.hold]; split <;> omega
          · by_cases hr2 : r < 2
            · rw [show ({ M with held := held' } : Md).held = held' from rfl, hcst (hrc.2 hr2)]; exact Nat.le_succ_of_le hY.hl
            · have := (bump_tabs (hbmp (fun h => hr2 (hrc.1 h)))).2.1
              have := hY.hl
              show held'.length ≤ i + 1
              omega
          · by_cases hr2 : r < 2
            · rw [show ({ M with held := held' } : Md).held = held' from rfl, hcst (hrc.2 hr2)]; exact fun e he => Nat.le_succ_of_le (hY.ec e he)
            · exact (bump_tabs (hbmp (fun h => hr2 (hrc.1 h)))).2.2 i hY.ec
          · rw [htk, growT_snoc, ← hY.tb]
            show held'.map Prod.fst = if _ then _ else _
            by_cases hr2 : r < 2
            · rw [hcst (hrc.2 hr2), if_neg (fun h => h.2.1 (hrc.2 hr2))]; rfl
            · rw [(bump_tabs (hbmp (fun h => hr2 (hrc.1 h)))).1]
              by_cases hin : t ∈ M.tabs
              · rw [if_neg (fun h => h hin), if_neg (fun h => h.2.2 hin)]; rfl
              · rw [if_pos (show t ∉ M.held.map Prod.fst from hin), if_pos ⟨hfit, fun h => hr2 (hrc.1 h), hin⟩]; rfl
          · rw [iw_append]; exact hrf'
          · intro j q u hq hu
            by_cases e : j < refs.length
            · rw [List.getElem?_append_left e] at hq
              rw [List.getElem?_append_left (by rw [← hY.len]; exact e)] at hu
              obtain ⟨q1, q2, q3⟩ := hY.each j q u hq hu
              have hlq : live K.N q := by
                rcases q3 with q3 | q3
                · exact .inl q3.1
                · exact hlv q q3
              refine ⟨q1, by rw [q2, hg.fn q hlq], ?_⟩
              rcases q3 with q3 | q3
              · exact .inl ⟨q3.1, by rw [hg.fn q hlq]; exact q3.2⟩
              · right; rw [hg.hold]; omega
            · rw [List.getElem?_append_right (by omega)] at hq
              rw [List.getElem?_append_right (by rw [← hY.len]; omega), ← hY.len] at hu
              obtain ⟨e1, rfl⟩ : j - refs.length = 0 ∧ q = r := by
                cases hjj : j - refs.length with
                | zero => rw [hjj] at hq; simp at hq; exact ⟨rfl, hq.symm⟩
                | succ m => rw [hjj] at hq; simp at hq
              rw [e1] at hu
              simp at hu
              subst hu
              refine ⟨hft, hg.is.symm, ?_⟩
              by_cases hr2 : q < 2
              · left
                refine ⟨hr2, ?_⟩
                have hint := hK3.ok.mid.int
                have : q = 0 ∨ q = 1 := by omega
                rcases this with rfl | rfl
                · exact funext hint.zero
                · exact funext hint.one
              · right; rw [hg.hold, if_pos ⟨rfl, by omega⟩]; omega
        · obtain rfl : i = L.length := by omega
          have hone1 : vr.oneCell' = true := hY.rf.one
          have hone2 : vt2.oneCell' = true := by obtain ⟨rs, h1, _⟩ := hY.tw; obtain ⟨a, c, e⟩ := SOwn.len h1; rw [e]; rfl
          have e4 : CR ++ (CS ++ (HM ++ C4)) = (CR ++ (CS ++ HM)) ++ C4 := by simp
          rw [e4]
          have hpo : PairOk mp vr vt2 K S ord [] M refs ts (CR ++ (CS ++ HM)) := {
            md := hY.md.rd.mono (fun _ h => by repeat (first | exact h | apply List.mem_cons_of_mem | apply List.mem_append_right))
            fine := hfine
            n := by rw [hY.mn, hY.kn]
            ord := hY.mo
            trl := by rw [hY.mt]
            ri := hY.rf.ints.mono fun _ h => List.mem_append_left _ h
            tabs := by rw [hY.kn]; exact hY.tw.tbls (fun _ h => List.mem_append_right _ (List.mem_append_left _ h)) (fun _ h => List.mem_append_right _ (List.mem_append_right _ (hY.md.sub _ h)))
            len := hY.len
            mir := hY.mir
            each := by rw [hY.kn]; exact hY.each
            few := by have := hY.rl; omega }
          refine DR.self ?_
          refine LdA.whole (r := [ptr kp, ptr mp, vr, vt2]) (by exact .head _) rfl ?_
          refine LdA.whole (r := [ptr kp, ptr mp, vr, vt2]) (by exact .head _) rfl ?_
          refine CallF.rd (B := (CR ++ (CS ++ HM)) ++ C4) (.cons .here) (alike_ok hY.ks.at' hpo (by simp)) ?_
          rintro v rfl
          refine ⟨.refl _, ?_⟩
          refine St.whole (r := [ptr kp, ptr mp, vr, vt2]) (by exact .head _) rfl rfl (pair_one hone1 hone2) ?_
          refine LdA.whole (r := [ptr kp, ptr mp, vr, vt2]) (by exact .head _) rfl ?_
          refine FnR.mk .tail ⟨kp, mp, vr, vt2, K, S, lev, M, refs, ts, C4, _, rfl, rfl, hY.ks, hpo, hY.kn, hY.kc, ?_, .app (.app hY.md.grow)⟩
          have := hY.tb
          rwa [List.take_length] at this
  refine Bin.lss ?_
  rw [decide_eq_false (by omega)]
  refine Split.go rfl (Bin.gtr ?_)
  rw [decide_eq_false (by omega)]
  refine Pick.mk (Split.go rfl ?_)
  refine CallF.rd (.cons .here) (perm_ok (n := n) ho (by omega) (by rw [iw_length]; omega)) ?_
  rintro v rfl
  rw [decide_eq_true (isPm_of hp)]
  refine Un.not (Pick.mk (Split.go rfl (Bin.lss ?_)))
  rw [decide_eq_false (by omega)]
  refine Pick.mk (Split.go rfl (Bin.gtr ?_))
  rw [decide_eq_false (by omega)]
  refine Pick.mk (Split.go rfl ?_)
  refine hL.lenS ?_
  rw [tbs_length]
  refine Bin.gtr ?_
  rw [decide_eq_false (by omega)]
  exact Pick.mk (JE.mk fin)
end
end Go.Proofs
set_option maxRecDepth 100000
namespace Go.Proofs
open Go Go.Sx
open Bdd
section
variable {kp : Nat} {K : Kd} {S : Nat → Bdd.Fn} {ord tr : List Nat} {C : Hp} {m : Rm} {Q : List Nat → Prop}
theorem alike_rm {held : List (List Nat × Nat)} (h : Mir K S held) (hn : K.n ≤ 16) : Bdd.Alike (rm K S) (rmT K.n K.cap (held.map Prod.fst)) (fun ord => ord.Perm (List.range K.n)) := by
  have hf : ∀ t ∈ held.map Prod.fst, Tab.Frm K.n t := fun t ht => by
    obtain ⟨e, he, rfl⟩ := List.mem_map.1 ht
    exact h.frm e he
  refine ⟨rfl, fun ord hp => ?_, fun ord l hp hl => ?_, fun ord l hp hl => ?_⟩
  · show ksz K S ord = _
    unfold ksz
    rw [h.heldEq]
    exact sz_FT hf hn (perm_lt hp).2
  · show decide (kfit K S ord l) = decide _
    refine decide_eq_decide.2 ?_
    unfold kfit
    rw [h.heldEq, usz_FT hf hn (perm_lt hp).2 hl (perm_lt hp).1]
  · have hl' : l + 1 < K.n := hl
    exact (swp_perm (by rw [(perm_lt hp).1]; exact hl')).trans hp
end
theorem K0_hold {n c : Nat} (r : Nat) : (K0 n c).hold r = 0 := by simp [Kd.hold, K0]
def pairsB : List Bool := (List.range 16).map fun x => decide (x &&& 3 = 3) || decide (x &&& 12 = 12)
theorem pairs_fill : Tab.fillW 4 pairsB = [63624] := by decide +kernel
theorem pairs_frm : Tab.Frm 4 [63624] := by decide +kernel
theorem pairs_ok (B : Hp) : Px Tryz.prog 81 #[] B (fun r H => Tbl H r ⟨4, [63624]⟩) := by
  intro g
  refine L81_sound (R := FnR _) ?_
  unfold L81
  intro b1 _
  refine ⟨fun vs H => ∃ (i : Nat) (w : Value) (C : Hp), vs = [w, .int .i64 (i : Int)] ∧ i ≤ 16 ∧ H = (b1, .cells #[.int .i64 0, .slice none 0 0] 55 (0, 0)) :: (C ++ B) ∧ SOwn 4 1 w ((pairsB.take i).map fun b => [Value.bool b]) C, fun vs _ => 16 - nAt vs 1, JE.mk ⟨0, _, [], rfl, Nat.zero_le _, rfl, SOwn.nil _ _⟩, ?_⟩
  rintro w7 w8 H ⟨i, w, C, hv, hi, rfl, hC⟩ gs
  simp only [List.cons.injEq, and_true] at hv
  obtain ⟨rfl, rfl⟩ := hv
  have hpl : pairsB.length = 16 := by simp [pairsB]
  refine Bin.ltN (b := 16) (Br.dec (fun hlt => ?_) (fun hlt => ?_))
  · refine Bin.andN (b := 3) (by simp [lim]; omega) (by decide) (Bin.eqN (b := 3) ?_)
    refine Grp.or (decide (i &&& 12 = 12)) (fun _ => Bin.andN (b := 12) (by simp [lim]; omega) (by decide) (Bin.eqN (b := 12) ⟨rfl, rfl⟩)) (by simp) fun gs => ?_
    refine BuildSl.cell (e := 4) (z := .bool false) (by kernel_rfl) (by kernel_rfl) (by kernel_rfl) rfl fun bx => ?_
    have hb : pairsB[i]'(by omega) = (decide (i &&& 3 = 3) || decide (i &&& 12 = 12)) := by simp [pairsB]
    have htk : pairsB.take (i + 1) = pairsB.take i ++ [decide (i &&& 3 = 3) || decide (i &&& 12 = 12)] := by rw [List.take_succ_eq_append_getElem (by omega), hb]
    refine hC.appH (r := [.bool (decide (i &&& 3 = 3) || decide (i &&& 12 = 12))]) (.cons (.cons .left)) (by exact .head _) rfl (by simp [Value.oneCell']) ⟨[.bool false], rfl, rfl⟩ (by simp; omega) (by simp; omega) fun v' C' ho => ?_
    refine Bin.addN (b := 1) (by simp [lim]; omega) ?_
    refine Back.of .tail ⟨i + 1, v', C', rfl, hlt, rfl, ?_⟩ (by simp only [nAt]; omega)
    rw [htk, List.map_append]; exact ho
  · obtain rfl : i = 16 := by omega
    rw [List.take_of_length_le (by omega)] at hC
    have hB : Bools (C ++ B) w7 pairsB := Bools.mono (Sl.ofOwn hC (by decide)) fun _ h => List.mem_append_left _ h
    refine CallF.px (args := #[.int .i64 ((4 : Nat) : Int), w7]) (.cons .here) (fill_ok (n := 4) (by omega) hB (by rw [hpl]; decide) (by rw [hpl]; decide)) ?_
    rintro r N ⟨s, rfl, hw⟩
    have hone := oneCell_words hw
    refine St.whole (r := [.int .i64 (4 : Int), s]) (by exact .head _) rfl rfl (by simpa [Value.oneCell'] using hone) ?_
    refine LdA.whole (r := [.int .i64 (4 : Int), s]) (by exact .head _) rfl ?_
    refine PxR.mk (by repeat (first | exact Grow.refl _ | apply Grow.cons | apply Grow.app)) ⟨s, rfl, ?_⟩
    rw [pairs_fill] at hw
    exact hw.mono (fun _ h => by repeat (first | exact h | apply List.mem_cons_of_mem | apply List.mem_append_right))
end Go.Proofs
set_option maxRecDepth 100000
namespace Go.Proofs
open Go Go.Sx
open Bdd
theorem PairOk.ones {mp : Nat} {vr vt : Value} {K : Kd} {S : Nat → Bdd.Fn} {ord tr : List Nat} {M : Md} {refs : List Nat} {ts : List (List Nat)} {Y : Hp} (h : PairOk mp vr vt K S ord tr M refs ts Y) : vr.oneCell' = true ∧ vt.oneCell' = true := by
  refine ⟨?_, ?_⟩
  · obtain ⟨a, c, e, _⟩ := h.ri.shape; rw [e]; rfl
  · obtain ⟨rs, h1, _⟩ := h.tabs; obtain ⟨a, c, e, _⟩ := h1.shape; rw [e]; rfl
theorem perm0213 : [0, 2, 1, 3].Perm (List.range 4) := by decide
theorem perm0123 : [0, 1, 2, 3].Perm (List.range 4) := by decide
theorem grow0213 : growT 4 100 [0, 2, 1, 3] [] [[63624]] = [[63624]] := by decide +kernel
end Go.Proofs
namespace Bdd
theorem Rm.goes_take (m : Rm) : ∀ ls ord, m.goes 0 ls ord = ls.take (m.goes 0 ls ord).length
  | [], _ => rfl
  | c :: cs, ord => by
    by_cases hf : m.fit ord (0 + c) = true
    · have := m.goes_take cs (swp ord (0 + c))
      rw [goes, if_pos hf, List.length_cons, List.take_succ_cons, ← this, Nat.zero_add]
    · rw [goes, if_neg hf]; simp
def Rm.can (m : Rm) (ord ls : List Nat) : Bool := decide ((m.goes 0 ls ord).length = ls.length)
theorem Rm.goes_fit (m : Rm) {ord ls : List Nat} {i : Nat} (hi : i < (m.goes 0 ls ord).length) {l : Nat} (hl : ls[i]? = some l) : m.fit (swps ord (ls.take i)) l = true := by
  obtain ⟨_, c, h1, h2⟩ := m.goes_get 0 ls ord i hi
  rw [hl] at h1; cases h1
  rw [m.goes_take, List.take_take, Nat.min_eq_left (Nat.le_of_lt hi), Nat.zero_add] at h2
  exact h2
theorem Rm.goes_stop (m : Rm) {ord ls : List Nat} {l : Nat} (hl : ls[(m.goes 0 ls ord).length]? = some l) : m.fit (swps ord (ls.take (m.goes 0 ls ord).length)) l = false := by
  have := m.goes_end 0 ls ord l hl
  rw [Nat.zero_add] at this
  rw [← m.goes_take]
  exact this
theorem Alike.can {A B : Rm} {Q : List Nat → Prop} (h : Alike A B Q) {ord ls : List Nat} (hls : ∀ l ∈ ls, l + 1 < A.n) (hq : Q ord) : A.can ord ls = B.can ord ls ∧ (A.goes 0 ls ord).length = (B.goes 0 ls ord).length := by
  have := h.goes (p := 0) (cs := ls) (ord := ord) (fun c hc => by have := hls c hc; omega) hq
  unfold Rm.can; rw [this]; exact ⟨rfl, rfl⟩
theorem flat_can (n s : Nat) (ord ls : List Nat) : (flat n s).can ord ls = true := by
  unfold Rm.can; rw [flat_goes]; simp
def road (a b : Nat) : List Nat := List.range' a (b - a) ++ (List.range' b (a - b)).reverse
theorem road_len (a b : Nat) : (road a b).length = (b - a) + (a - b) := by simp [road]
theorem road_mem {a b l n : Nat} (ha : a < n) (hb : b < n) (h : l ∈ road a b) : l + 1 < n := by
  unfold road at h
  rcases List.mem_append.1 h with h | h
  · rw [List.mem_range'_1] at h; omega
  · rw [List.mem_reverse, List.mem_range'_1] at h; omega
theorem perm_of_sub {α : Type} [DecidableEq α] : ∀ {l p : List α}, l.Nodup → (∀ x ∈ l, x ∈ p) → p.length ≤ l.length → l.Perm p
  | [], p, _, _, h => by
    have : p = [] := List.length_eq_zero_iff.1 (by simpa using h)
    subst this; exact .refl _
  | x :: t, p, hn, hs, hl => by
    have hx := hs x (by simp)
    have hp := List.perm_cons_erase hx
    have hlen : (p.erase x).length = p.length - 1 := List.length_erase_of_mem hx
    have hpos := List.length_pos_of_mem hx
    refine (List.Perm.cons x (perm_of_sub (List.nodup_cons.1 hn).2 (fun y hy => ?_) (by simp only [List.length_cons] at hl; omega))).trans hp.symm
    refine (List.mem_erase_of_ne fun e => ?_).2 (hs y (by simp [hy]))
    subst e; exact (List.nodup_cons.1 hn).1 hy
end Bdd
set_option maxRecDepth 100000
namespace Go.Proofs
open Go Go.Sx
open Bdd
theorem iw_nodup {l : List Nat} (h : l.Nodup) : (iw l).Nodup := List.pairwise_map.2 (h.imp fun hne e => hne (Int.ofNat.inj e))
theorem allIn_iff {p : List Int} : allIn p ↔ p.Perm (iw (List.range p.length)) := by
  constructor
  · intro h
    refine (perm_of_sub (iw_nodup List.nodup_range) (fun x hx => ?_) (by rw [iw_length, List.length_range]; exact Nat.le_refl _)).symm
    obtain ⟨k, hk, rfl⟩ := List.mem_map.1 hx
    exact h k (List.mem_range.1 hk)
  · intro h v hv
    exact h.mem_iff.2 (List.mem_map.2 ⟨v, List.mem_range.2 hv, rfl⟩)
theorem allIn_of {p : List Int} (hn : p.Nodup) (h : ∀ x ∈ p, 0 ≤ x ∧ x < (p.length : Int)) : allIn p := by
  refine allIn_iff.2 (perm_of_sub hn (fun x hx => ?_) (by rw [iw_length, List.length_range]; exact Nat.le_refl _))
  obtain ⟨h1, h2⟩ := h x hx
  exact List.mem_map.2 ⟨x.toNat, List.mem_range.2 (by omega), by show ((x.toNat : Nat) : Int) = x; omega⟩
theorem allIn_in {p : List Int} (h : allIn p) {x : Int} (hx : x ∈ p) : 0 ≤ x ∧ x < (p.length : Int) := by
  have := (allIn_iff.1 h).mem_iff.1 hx
  obtain ⟨k, hk, rfl⟩ := List.mem_map.1 this
  have := List.mem_range.1 hk
  show (0 : Int) ≤ (k : Int) ∧ (k : Int) < _
  omega
theorem allIn_nodup {p : List Int} (h : allIn p) : p.Nodup := (allIn_iff.1 h).nodup_iff.2 (iw_nodup List.nodup_range)
theorem allIn_nat {p : List Int} (h : allIn p) : ∃ q : List Nat, p = iw q ∧ q.Perm (List.range p.length) := by
  have e : iw (p.map Int.toNat) = p := by
    unfold iw
    rw [List.map_map]
    conv => rhs; rw [← List.map_id p]
    apply List.map_congr_left
    intro x hx
    have := allIn_in h hx
    show ((x.toNat : Nat) : Int) = x
    omega
  refine ⟨p.map Int.toNat, e.symm, ?_⟩
  have := (allIn_iff.1 h).map Int.toNat
  have e2 : (iw (List.range p.length)).map Int.toNat = List.range p.length := by
    unfold iw; rw [List.map_map]
    conv => rhs; rw [← List.map_id (List.range p.length)]
    exact List.map_congr_left fun x _ => rfl
  rw [e2] at this; exact this
theorem seen_set {p : List Int} {i n W : Nat} (hi : i < p.length) (hn : p[i] = (n : Int)) (hw : n < W) : ((List.range W).map fun k => decide (((k : Nat) : Int) ∈ p.take i)).set n true = (List.range W).map fun k => decide (((k : Nat) : Int) ∈ p.take (i + 1)) := by
  apply List.ext_getElem?
  intro j
  rw [List.take_succ_eq_append_getElem hi, hn]
  by_cases hj : j < W
  · by_cases e : n = j
    · subst e; rw [List.getElem?_set_self (by simpa using hw)]; simp [hw]
    · rw [List.getElem?_set_ne e]
      simp only [List.getElem?_map, List.getElem?_range hj, Option.map_some, List.mem_append, List.mem_singleton]
      congr 1
      have : ¬ ((j : Nat) : Int) = (n : Int) := by omega
      simp [this]
  · rw [List.getElem?_eq_none (by simp; omega), List.getElem?_eq_none (by simp; omega)]
theorem seen_zero {p : List Int} {W : Nat} : List.replicate W false = (List.range W).map fun k => decide (((k : Nat) : Int) ∈ p.take 0) := by
  apply List.ext_getElem?
  intro j
  by_cases hj : j < W
  · simp [hj]
  · rw [List.getElem?_eq_none (by simp; omega), List.getElem?_eq_none (by simp; omega)]
theorem pcheck_ok {B : Hp} {v : Value} {p : List Int} (h : Ints .i64 B v p) (hmax : p.length ≤ 70368744177664) : Rd Tryz.prog 84 #[v] B (fun r => (r = .int .i64 0 ∧ allIn p ∧ p.length ≤ 64) ∨ (r = .int .i64 13 ∧ allIn p ∧ 64 < p.length) ∨ (r = .int .i64 4 ∧ ¬ allIn p)) := by
  intro g
  refine L84_sound (R := FnR _) ?_
  unfold L84
  refine h.lenS (MkSlice.bools (by omega) fun b => h.lenS ?_)
  rw [seen_zero (p := p)]
  refine ⟨fun vs H => ∃ i : Nat, vs = [.int .i64 (i : Int)] ∧ H = (b, .cells (bcells ((List.range p.length).map fun k => decide (((k : Nat) : Int) ∈ p.take i))) 4 (0, 0)) :: B ∧ i ≤ p.length ∧ (p.take i).Nodup ∧ ∀ x ∈ p.take i, 0 ≤ x ∧ x < (p.length : Int), fun vs _ => p.length - nAt vs 0,
    JE.mk ⟨0, rfl, rfl, Nat.zero_le _, by simp, by simp⟩, ?_⟩
  rintro w H ⟨i, hv, rfl, hi, hnd, hin⟩ gs
  simp only [List.cons.injEq, and_true] at hv
  subst hv
  refine Bin.ltN (Br.dec (fun hlt => ?_) (fun hlt => ?_))
  · refine h.ld (List.getElem?_eq_getElem hlt) (fun _ h => .tail _ h) ?_
    obtain ⟨x, hx⟩ : ∃ x, p[i] = x := ⟨_, rfl⟩
    have hxm : x ∈ p := by rw [← hx]; exact List.getElem_mem hlt
    rw [hx]
    have hB := Bools.block (b := b) (cap := p.length) (l := (List.range p.length).map fun k => decide (((k : Nat) : Int) ∈ p.take i)) (T := 4) (fz := (0, 0)) (B := (b, .cells (bcells ((List.range p.length).map fun k => decide (((k : Nat) : Int) ∈ p.take i))) 4 (0, 0)) :: B) (.head _) (by simp)
    rw [List.length_map, List.length_range] at hB
    refine Bin.lss ?_
    refine Grp.or (decide ((p.length : Int) ≤ x)) (fun _ => h.lenS (Bin.geq ⟨rfl, rfl⟩)) (by simp) fun gs => ?_
    rw [← Bool.decide_or]
    refine Grp.or (decide (x ∈ p.take i)) (fun hno => ?_) (by simp) fun gs => ?_
    · have hno' := of_decide_eq_false hno
      obtain ⟨n, rfl⟩ : ∃ n : Nat, x = n := ⟨x.toNat, by omega⟩
      refine hB.ld (b := decide (((n : Nat) : Int) ∈ p.take i)) ?_ (fun _ h => h) ⟨rfl, rfl⟩
      rw [List.getElem?_map, List.getElem?_range (by omega)]; rfl
    rw [← Bool.decide_or]
    refine Br.dec (fun hbad => RdR.mk .tail (.inr (.inr ⟨rfl, fun ha => ?_⟩))) (fun hgood => ?_)
    · have h1 := allIn_in ha hxm
      rcases hbad with hb | hb
      · omega
      · have h2 := allIn_nodup ha
        rw [← List.take_append_drop i p, List.nodup_append] at h2
        refine h2.2.2 x hb x ?_ rfl
        rw [List.drop_eq_getElem_cons hlt, hx]; exact .head _
    · obtain ⟨n, rfl⟩ : ∃ n : Nat, x = n := ⟨x.toNat, by omega⟩
      refine IAddr.nat (by omega) ?_
      refine St.bools (l := (List.range p.length).map fun k => decide (((k : Nat) : Int) ∈ p.take i)) (.head _) (by simp; omega) ?_
      rw [seen_set hlt hx (by omega)]
      refine Bin.addN (b := 1) (by simp [lim]; omega) ?_
      refine Back.mk ⟨i + 1, rfl, rfl, hlt, ?_, fun x hx2 => ?_⟩ (by simp only [nAt]; omega)
      · rw [List.take_succ_eq_append_getElem hlt, hx, List.nodup_append]
        exact ⟨hnd, by simp, fun a ha b hb e => by simp at hb; subst hb; subst e; exact hgood (.inr ha)⟩
      · rw [List.take_succ_eq_append_getElem hlt, hx, List.mem_append, List.mem_singleton] at hx2
        rcases hx2 with hx2 | rfl
        · exact hin x hx2
        · omega
  · obtain rfl : i = p.length := by omega
    rw [List.take_length] at hnd hin
    have hall := allIn_of hnd hin
    refine h.lenS (Bin.gtN (b := 64) (Br.dec (fun hg => RdR.mk .tail (.inr (.inl ⟨rfl, hall, hg⟩))) (fun hg => RdR.mk .tail (.inl ⟨rfl, hall, by omega⟩))))
theorem sindex_ok {B : Hp} {v : Value} {p : List Int} {x : Int} (h : Ints .i64 B v p) (hmax : p.length < 4611686018427387904) : Rd Tryz.prog 136 #[v, .int .i64 x] B (· = .int .i64 (if x ∈ p then ((p.idxOf x : Nat) : Int) else -1)) := by
  intro g
  refine L136_sound (R := FnR _) ?_
  unfold L136
  refine h.lenS ?_
  refine ⟨fun vs H => ∃ i : Nat, vs = [.int .i64 (i : Int)] ∧ H = B ∧ i ≤ p.length ∧ x ∉ p.take i, fun vs _ => p.length - nAt vs 0, JE.mk ⟨0, rfl, rfl, Nat.zero_le _, by simp⟩, ?_⟩
  rintro w H ⟨i, hv, rfl, hi, hq⟩ gs
  simp only [List.cons.injEq, and_true] at hv
  subst hv
  refine Bin.ltN (Br.dec (fun hlt => ?_) (fun hlt => ?_))
  · refine h.ld (List.getElem?_eq_getElem hlt) (fun _ h => h) ?_
    refine Bin.eqD (Br.dec (fun he => RdR.mk (.refl _) ?_) (fun he => ?_))
    · rw [if_pos (by rw [he]; exact List.getElem_mem hlt), idx_take hq hlt he.symm]
    · refine Bin.addN (b := 1) (by simp [lim]; omega) ?_
      refine Back.of (.refl _) ⟨i + 1, rfl, rfl, hlt, ?_⟩ (by simp only [nAt]; omega)
      rw [List.take_succ_eq_append_getElem hlt, List.mem_append, List.mem_singleton]
      rintro (h | h)
      · exact hq h
      · exact he h
  · refine RdR.mk (.refl _) ?_
    rw [List.take_of_length_le (by omega)] at hq
    rw [if_neg hq]
theorem both_ok {B : Hp} {v1 v2 : Value} {p q : List Nat} {n : Nat} (h1 : Ints .i64 B v1 (iw p)) (h2 : Ints .i64 B v2 (iw q)) (hp : p.Perm (List.range n)) (hq : q.Perm (List.range n)) (hn : n ≤ 64) : Rd Tryz.prog 135 #[v1, v2] B (· = .int .i64 0) := by
  have e1 : p.length = n := by rw [hp.length_eq, List.length_range]
  have e2 : q.length = n := by rw [hq.length_eq, List.length_range]
  intro g
  refine L135_sound (R := FnR _) ?_
  unfold L135
  refine CallF.rd .here (pcheck_ok h1 (by rw [iw_length]; omega)) ?_
  rintro v (⟨rfl, _, _⟩ | ⟨_, _, hl⟩ | ⟨_, hno⟩)
  rotate_left
  · rw [iw_length] at hl; omega
  · exact absurd (allIn_iw hp) hno
  refine CallF.rd .here (pcheck_ok h2 (by rw [iw_length]; omega)) ?_
  rintro v (⟨rfl, _, _⟩ | ⟨_, _, hl⟩ | ⟨_, hno⟩)
  rotate_left
  · rw [iw_length] at hl; omega
  · exact absurd (allIn_iw hq) hno
  refine Bin.eqD ?_
  refine Grp.or false (fun _ => Bin.eqD ⟨rfl, rfl⟩) rfl fun gs => ?_
  refine Grp.or false (fun _ => ?_) rfl fun gs => Br.no ?_
  · refine h1.lenS (h2.lenS (Bin.neN ⟨rfl, ?_⟩))
    rw [iw_length, iw_length, decide_eq_false (by omega)]
  · exact ⟨.i64, 0, 0, rfl, rfl, RdR.mk (.refl _) rfl⟩
end Go.Proofs
set_option maxRecDepth 100000
namespace Go.Proofs
open Go Go.Sx
open Bdd
theorem ppath_ok {B : Hp} {v1 v2 : Value} {p q : List Nat} {n : Nat} (h1 : Ints .i64 B v1 (iw p)) (h2 : Ints .i64 B v2 (iw q)) (hp : p.Perm (List.range n)) (hq : q.Perm (List.range n)) (hn : n ≤ 64) :
    Fc Tryz.prog 85 #[v1, v2] B (fun r H => ∃ s C, r = .tuple #[s, .int .i64 0] ∧ H = C ++ B ∧ IOwn 3 .i64 s (iw (path p q)) C) := by
  have e1 : p.length = n := by rw [hp.length_eq, List.length_range]
  have e2 : q.length = n := by rw [hq.length_eq, List.length_range]
  have hnd : q.Nodup := hq.nodup_iff.2 List.nodup_range
  have hpq := hp.trans hq.symm
  intro g
  refine L85_sound (R := FnR _) ?_
  unfold L85
  refine CallF.rd .here (both_ok h1 h2 hp hq hn) ?_
  rintro v rfl
  refine Bin.neD (Br.decF (by decide) ?_)
  refine CallF.fn .here (clone_ok h1 (by rw [iw_length]; omega)) ?_
  rintro va H ⟨CA, rfl, hA⟩
  refine h2.lenS ?_
  rw [iw_length]
  refine ⟨fun vs H => ∃ (i : Nat) (w9 : Value) (C N : Hp), vs = [w9, .int .i64 (i : Int)] ∧ i ≤ n ∧ H = C ++ (N ++ B) ∧ IOwn 3 .i64 w9 (iw (pathN p q i)) C ∧ IOwn 3 .i64 va (iw (swps p (pathN p q i))) N, fun vs _ => n - nAt vs 1,
    JE.mk ⟨0, _, [], CA, rfl, Nat.zero_le _, rfl, IOwn.nil, hA⟩, ?_⟩
  rintro w9 w10 H ⟨i, u9, C, N, hv, hi, rfl, ho, hw⟩ gs
  simp only [List.cons.injEq, and_true] at hv
  obtain ⟨rfl, rfl⟩ := hv
  refine Bin.ltN (Br.dec (fun hlt => ?_) (fun hlt => ?_))
  rotate_left
  · obtain rfl : i = q.length := by omega
    exact FnR.mk (.prep .right _) ⟨w9, C, rfl, rfl, ho⟩
  have spec := pathN_spec hnd hpq i (by omega)
  obtain ⟨s1, s2, s3⟩ := spec
  obtain ⟨s4, s5⟩ := s3 hlt
  have hlen1 := pathN_len hnd hpq (i + 1) (by omega)
  have hl2 : (i + 1) * p.length ≤ 64 * 64 := Nat.mul_le_mul (by omega) (by omega)
  refine h2.ld (n := ((q.getD i 0 : Nat) : Int)) (iw_getD hlt) (fun _ h => List.mem_append_right _ (List.mem_append_right _ h)) ?_
  have hmem : q.getD i 0 ∈ swps p (pathN p q i) := by
    have : q.getD i 0 ∈ q := by rw [List.getD_eq_getElem?_getD, List.getElem?_eq_getElem hlt]; exact List.getElem_mem _
    exact ((swps_perm s1).trans hpq).mem_iff.2 this
  refine CallF.rd (.app .left) (sindex_ok hw.ints (by rw [iw_length, swps_len]; omega)) ?_
  rintro v rfl
  rw [if_pos (mem_iw.2 hmem), idx_iw]
  refine ⟨fun vs H => ∃ (j : Nat) (u9 : Value) (P : List Nat) (C N : Hp), vs = [u9, .int .i64 (j : Int)] ∧ i ≤ j ∧ j < n ∧ P ++ bub i j = pathN p q (i + 1) ∧ H = C ++ (N ++ B) ∧ IOwn 3 .i64 u9 (iw P) C ∧ IOwn 3 .i64 va (iw (swps p P)) N, fun vs _ => nAt vs 1,
    JE.mk ⟨plc (swps p (pathN p q i)) (q.getD i 0), w9, pathN p q i, C, N, rfl, s4, by omega, rfl, rfl, ho, hw⟩, ?_⟩
  rintro w22 w23 H ⟨j, u9, P, C2, N2, hv, hij, hjn, hP, rfl, ho2, hw2⟩ gs
  simp only [List.cons.injEq, and_true] at hv
  obtain ⟨rfl, rfl⟩ := hv
  refine Bin.gtN (Br.dec (fun hgt => ?_) (fun hgt => ?_))
  · obtain ⟨j, rfl⟩ : ∃ k, j = k + 1 := ⟨j - 1, by omega⟩
    have hPl : P.length ≤ 4096 := by
      have := congrArg List.length hP
      rw [List.length_append] at this; omega
    have hlen : (swps p P).length = n := by rw [swps_len, e1]
    refine DR.self ?_
    refine Bin.subN (b := 1) (by simp [lim]; omega) (by omega) ?_
    rw [Nat.add_sub_cancel]
    refine hw2.ld (x := (((swps p P).getD (j + 1) 0 : Nat) : Int)) (iw_getD (by omega)) (fun _ h => List.mem_append_right _ (List.mem_append_left _ h)) ?_
    refine Bin.subN (b := 1) (by simp [lim]; omega) (by omega) ?_
    rw [Nat.add_sub_cancel]
    refine hw2.ld (x := (((swps p P).getD j 0 : Nat) : Int)) (iw_getD (by omega)) (fun _ h => List.mem_append_right _ (List.mem_append_left _ h)) ?_
    refine hw2.putH (x := (((swps p P).getD (j + 1) 0 : Nat) : Int)) (.app .left) (by rw [iw_length]; omega) fun N3 hw3 => ?_
    refine hw3.putH (x := (((swps p P).getD j 0 : Nat) : Int)) (.app .left) (by rw [List.length_set, iw_length]; omega) fun N4 hw4 => ?_
    have e : ((iw (swps p P)).set j (((swps p P).getD (j + 1) 0 : Nat) : Int)).set (j + 1) (((swps p P).getD j 0 : Nat) : Int) = iw (swps p (P ++ [j])) := by
      rw [swps_snoc]; unfold swp; rw [iw_set, iw_set]
    rw [e] at hw4
    refine Bin.subN (b := 1) (by simp [lim]; omega) (by omega) ?_
    rw [Nat.add_sub_cancel]
    refine BuildSl.int (e := 3) (by kernel_rfl) (by kernel_rfl) (by kernel_rfl) fun bx => ?_
    refine ho2.appH (.cons .left) (by exact .head _) (by rw [iw_length]; omega) (by rw [iw_length]; omega) fun v' C3 ho3 => ?_
    refine Bin.subN (b := 1) (by simp [lim]; omega) (by omega) ?_
    rw [Nat.add_sub_cancel]
    refine Back.of .tail ⟨j, v', P ++ [j], C3, N4, rfl, by omega, by omega, ?_, rfl, by rw [iw_append]; exact ho3, hw4⟩ ?_
    · rw [← hP, bub_succ (show i ≤ j by omega), List.append_assoc]; rfl
    · simp only [nAt]; omega
  · obtain rfl : j = i := by omega
    rw [bub_le (Nat.le_refl _), List.append_nil] at hP
    subst hP
    refine Bin.addN (b := 1) (by simp [lim]; omega) ?_
    exact Back.of (.refl _) ⟨j + 1, w22, C2, N2, rfl, by omega, rfl, ho2, hw2⟩ (by simp only [nAt]; omega)
theorem road_ok {a b : Nat} (ha : a ≤ 1048576) (hb : b ≤ 1048576) : Fc Tryz.prog 83 #[.int .i64 (a : Int), .int .i64 (b : Int)] [] (fun r H => IOwn 3 .i64 r (iw (road a b)) H) := by
  intro g
  refine L83_sound (R := FnR _) ?_
  unfold L83
  refine ⟨fun vs H => ∃ (i : Nat) (u : Value), vs = [.int .i64 ((a + i : Nat) : Int), u] ∧ i ≤ b - a ∧ IOwn 3 .i64 u (iw (List.range' a i)) H, fun vs _ => b - nAt vs 0, JE.mk ⟨0, _, rfl, Nat.zero_le _, IOwn.nil⟩, ?_⟩
  rintro w5 w6 H ⟨i, u, hv, hi, ho⟩ gs
  simp only [List.cons.injEq, and_true] at hv
  obtain ⟨rfl, rfl⟩ := hv
  refine Bin.ltN (Br.dec (fun hlt => ?_) (fun hlt => ?_))
  · refine BuildSl.int (e := 3) (by kernel_rfl) (by kernel_rfl) (by kernel_rfl) fun bx => ?_
    refine ho.appH (.cons .here) (by exact .head _) (by rw [iw_length]; simp; omega) (by rw [iw_length]; simp; omega) fun v' C3 ho3 => ?_
    refine Bin.addN (b := 1) (by simp [lim]; omega) ?_
    refine Back.of .tail ⟨i + 1, v', rfl, by omega, ?_⟩ (by simp only [nAt]; omega)
    rw [List.range'_1_concat, iw_append]; exact ho3
  · obtain rfl : i = b - a := by omega
    refine ⟨fun vs H => ∃ (k : Nat) (u : Value), vs = [.int .i64 ((max a b - k : Nat) : Int), u] ∧ k ≤ a - b ∧ IOwn 3 .i64 u (iw (List.range' a (b - a) ++ (List.range' (max a b - k) k).reverse)) H, fun vs _ => nAt vs 0,
      JE.mk ⟨0, _, by rw [show a + (b - a) = max a b - 0 by omega], Nat.zero_le _, by simpa using ho⟩, ?_⟩
    rintro w19 w20 H ⟨k, u, hv, hk, ho2⟩ gs
    simp only [List.cons.injEq, and_true] at hv
    obtain ⟨rfl, rfl⟩ := hv
    refine Bin.gtN (Br.dec (fun hlt2 => ?_) (fun hlt2 => ?_))
    · have e : max a b - k - 1 = max a b - (k + 1) := by omega
      refine Bin.subN (b := 1) (by simp [lim]; omega) (by omega) ?_
      rw [e]
      refine BuildSl.int (e := 3) (by kernel_rfl) (by kernel_rfl) (by kernel_rfl) fun bx => ?_
      refine ho2.appH (.cons .here) (by exact .head _) (by rw [iw_length]; simp; omega) (by rw [iw_length]; simp; omega) fun v' C3 ho3 => ?_
      refine Bin.subN (b := 1) (by simp [lim]; omega) (by omega) ?_
      rw [e]
      refine Back.of .tail ⟨k + 1, v', rfl, by omega, ?_⟩ (by simp only [nAt]; omega)
      have e2 : List.range' (max a b - (k + 1)) (k + 1) = (max a b - (k + 1)) :: List.range' (max a b - k) k := by
        rw [List.range'_succ, show max a b - (k + 1) + 1 = max a b - k by omega]
      rw [e2, List.reverse_cons, ← List.append_assoc, iw_append]; exact ho3
    · obtain rfl : k = a - b := by omega
      refine FnR.here ?_
      unfold road
      by_cases hab : a ≤ b
      · have e0 : a - b = 0 := by omega
        rw [e0] at ho2 ⊢; simpa using ho2
      · rw [show max a b - (a - b) = b by omega] at ho2; exact ho2
end Go.Proofs
set_option maxRecDepth 100000
namespace Go.Proofs
open Go Go.Sx
open Bdd
def wk (b kp f d : Nat) (ok : Bool) : Nat × Obj := (b, .cells #[ptr kp, .int .i64 (f : Int), .int .i64 (d : Int), .bool ok] 194 (0, 0))
section
variable {kp b f d : Nat} {K : Kd} {S : Nat → Bdd.Fn} {ord tr : List Nat} {C : Hp}
theorem wbegin_ok (h : At kp K S ord tr C) : Fc Tryz.prog 89 #[ptr kp] C (fun r H => ∃ b, r = ptr b ∧ H = wk b kp tr.length 0 false :: C) := by
  intro g
  refine L89_sound (R := FnR _) ?_
  unfold L89
  refine CallF.rd .here (at_trail h) ?_
  rintro v rfl
  refine Build.mk (cs := [ptr kp, .int .i64 ((tr.length : Nat) : Int), .int .i64 0, .bool false]) (by kernel_rfl) ?_
  intro b _
  exact FnR.here ⟨b, rfl, rfl⟩
theorem wstep_ok (h : At kp K S ord tr C) {l : Nat} (hl : l + 1 < K.n) (htr : tr.length < 1099511627776) (hf : kfit K S ord l) (hd : d < 4611686018427387904) :
    Fc Tryz.prog 91 #[ptr b, .int .i64 (l : Int)] (wk b kp f d false :: C) (fun r H => r = .int .i64 0 ∧ ∃ C', H = wk b kp f (d + 1) false :: C' ∧ At kp K S (swp ord l) (tr ++ [l]) C') := by
  intro g
  refine L91_sound (R := FnR _) ?_
  unfold L91
  refine Nil.ptr (FAddr.mk (Ld.mk (v := ptr kp) (by exact .head _) rfl ?_))
  refine CallF.fn (.cons .here) (at_exch h hl htr hf) ?_
  rintro v C' ⟨rfl, h'⟩
  intro J hJ
  refine Bin.eqD (Br.decT rfl ?_)
  refine Nil.ptr (FAddr.mk (Ld.mk (v := .int .i64 (d : Int)) (by exact .head _) rfl ?_))
  refine Bin.addN (b := 1) (by simp [lim]; omega) ?_
  refine Nil.ptr (FAddr.mk (St.one (by exact .head _) rfl (by simp) rfl ?_))
  exact JE.mk (hJ _ fun gs => FnR.here ⟨rfl, C', rfl, h'⟩)
theorem wstep_no (h : At kp K S ord tr C) {l : Nat} (hl : l + 1 < K.n) (htr : tr.length < 1099511627776) (hf : ¬ kfit K S ord l) :
    Rd Tryz.prog 91 #[ptr b, .int .i64 (l : Int)] (wk b kp f d false :: C) (· = .int .i64 9) := by
  intro g
  refine L91_sound (R := FnR _) ?_
  unfold L91
  refine Nil.ptr (FAddr.mk (Ld.mk (v := ptr kp) (by exact .head _) rfl ?_))
  refine CallF.rd (.cons .here) (at_exch_no h hl htr hf) ?_
  rintro v rfl
  intro J hJ
  refine Bin.eqD (Br.decF (by decide) ?_)
  exact JE.mk (hJ _ fun gs => RdR.mk (.refl _) rfl)
theorem wback_ok {ok : Bool} {path : List Nat} (h : At kp K S (swps ord path) (tr ++ path) C) (hp : ∀ l ∈ path, l + 1 < K.n) (htr : (tr ++ path).length < 1099511627776) (hd : d < 4611686018427387904) :
    Fc Tryz.prog 92 #[ptr b] (wk b kp tr.length d ok :: C) (fun r H => r = .tuple #[] ∧ ∃ C', H = wk b kp tr.length (d + path.length) ok :: C' ∧ At kp K S ord tr C') := by
  have hpl : path.length < 1099511627776 := by rw [List.length_append] at htr; omega
  intro g
  refine L92_sound (R := FnR _) ?_
  unfold L92
  refine DR.of (R := [wk b kp tr.length d ok]) (Ent.left (A := [_]) (B := C)) ?_
  refine Nil.ptr (FAddr.mk (Ld.mk (v := ptr kp) (by exact .head _) rfl ?_))
  refine Nil.ptr (FAddr.mk (Ld.mk (v := .int .i64 ((tr.length : Nat) : Int)) (by exact .head _) rfl ?_))
  refine CallF.fn (args := #[ptr kp, .int .i64 ((tr.length + 0 : Nat) : Int)]) (.cons .here) (back_ok h hp (Nat.zero_le _) htr) ?_
  rintro v C' ⟨rfl, h'⟩
  rw [List.take_zero, List.append_nil] at h'
  refine ⟨Ent.left (A := [_]) (B := C'), ?_⟩
  refine Ext.mk rfl (Ext.mk rfl ?_)
  refine Nil.ptr (FAddr.mk (Ld.mk (v := .int .i64 (d : Int)) (by exact .head _) rfl ?_))
  refine Bin.addN (by simp [lim]; omega) ?_
  refine Nil.ptr (FAddr.mk (St.one (by exact .head _) rfl (by simp) rfl ?_))
  exact FnR.here ⟨rfl, C', rfl, h'⟩
theorem wend_keep : Rd Tryz.prog 90 #[ptr b] (wk b kp f d true :: C) (· = .tuple #[]) := by
  intro g
  refine L90_sound (R := FnR _) ?_
  unfold L90
  refine Nil.ptr (FAddr.mk (Ld.mk (v := .bool true) (by exact .head _) rfl ?_))
  exact Un.not (Br.no (RdR.mk (.refl _) rfl))
theorem wend_back {path : List Nat} (h : At kp K S (swps ord path) (tr ++ path) C) (hp : ∀ l ∈ path, l + 1 < K.n) (htr : (tr ++ path).length < 1099511627776) (hd : d < 4611686018427387904) :
    Fc Tryz.prog 90 #[ptr b] (wk b kp tr.length d false :: C) (fun r H => r = .tuple #[] ∧ ∃ C', H = wk b kp tr.length (d + path.length) false :: C' ∧ At kp K S ord tr C') := by
  intro g
  refine L90_sound (R := FnR _) ?_
  unfold L90
  refine Nil.ptr (FAddr.mk (Ld.mk (v := .bool false) (by exact .head _) rfl ?_))
  refine Un.not (Br.yes ?_)
  refine CallF.fn .here (wback_ok h hp htr hd) ?_
  rintro v H ⟨rfl, C', rfl, h'⟩
  exact FnR.here ⟨rfl, C', rfl, h'⟩
theorem at_level (h : At kp K S ord tr C) {v : Nat} (hv : v < K.n) : Rd Tryz.prog 42 #[ptr kp, .int .i64 (v : Int)] C (fun r => ∃ p, p < K.n ∧ ord.getD p 0 = v ∧ r = .tuple #[.int .i64 (p : Int), .int .i64 0]) := by
  obtain ⟨K', S', lev', h, hk⟩ := h
  obtain ⟨b, rfl, hO⟩ := h.rep
  have hn := hO.n64
  have hv' : v < K'.n := by rw [hk.n]; exact hv
  have hlen : v < lev'.length := by rw [hO.ol.2]; exact hv'
  intro g
  refine L42_sound (R := FnR _) ?_
  unfold L42
  refine Bin.ptrNil (Br.no ?_)
  refine CallF.rd .here (kvar_ok h.rep (v : Int)) ?_
  rintro r rfl
  rw [decide_eq_true (by omega)]
  refine Un.not (Br.no ?_)
  refine Nil.ptr (FAddr.mk (Ld.mk (v := b.vl) (by exact .head _) rfl ?_))
  refine hO.lv.ld (x := ((lev'.getD v 0 : Nat) : Int)) (iw_getD hlen) (Hole.sub (.cons (.app (.app (.app (.app (.app .left))))))) ?_
  refine RdR.mk (.refl _) ⟨lev'.getD v 0, ?_, ?_, rfl⟩
  · rw [← hk.n]; exact h.ok.lv.lt v hv'
  · exact h.od.of h.ok.lv hv'
theorem at_level_no (h : At kp K S ord tr C) {v : Int} (hv : v < 0 ∨ (K.n : Int) ≤ v) : Rd Tryz.prog 42 #[ptr kp, .int .i64 v] C (· = .tuple #[.int .i64 0, .int .i64 2]) := by
  obtain ⟨K', S', lev', h, hk⟩ := h
  have hn := hk.n
  intro g
  refine L42_sound (R := FnR _) ?_
  unfold L42
  refine Bin.ptrNil (Br.no ?_)
  refine CallF.rd .here (kvar_ok h.rep v) ?_
  rintro r rfl
  rw [decide_eq_false (by omega)]
  exact Un.not (Br.yes (RdR.mk (.refl _) rfl))
theorem level_nil (v : Int) (B : Hp) : Rd Tryz.prog 42 #[.pointer none, .int .i64 v] B (· = .tuple #[.int .i64 0, .int .i64 10]) := by
  intro g
  refine L42_sound (R := FnR _) ?_
  unfold L42
  exact Bin.nilNil (Br.yes (RdR.mk (.refl _) rfl))
def Moved (kp : Nat) (K : Kd) (S : Nat → Bdd.Fn) (ord tr ls : List Nat) (r : Value) (C : Hp) : Prop :=
  ((rm K S).can ord ls = true ∧ r = .tuple #[.int .i64 ((ls.length : Nat) : Int), .int .i64 0] ∧ At kp K S (swps ord ls) (tr ++ ls) C) ∨
  ((rm K S).can ord ls = false ∧ r = .tuple #[.int .i64 ((2 * ((rm K S).goes 0 ls ord).length : Nat) : Int), .int .i64 9] ∧ At kp K S ord tr C)
theorem mall_ok {Y : Hp} {v : Value} {ls : List Nat} (h : At kp K S ord tr C) (hI : Ints .i64 Y v (iw ls)) (hp : ∀ l ∈ ls, l + 1 < K.n) (htr : tr.length + ls.length < 1099511627776) :
    Fc Tryz.prog 82 #[ptr kp, v] (Y ++ C) (fun r H => ∃ C', H = Y ++ C' ∧ Moved kp K S ord tr ls r C') := by
  let m := rm K S
  have hgl := m.goes_len 0 ls ord
  have hpt : ∀ i, ∀ l ∈ ls.take i, l + 1 < K.n := fun i l hl => hp l (List.mem_of_mem_take hl)
  intro g
  refine L82_sound (R := FnR _) ?_
  unfold L82
  intro b1 _
  refine CallF.fn (.cons (.app .here)) (wbegin_ok h) ?_
  rintro v3 H ⟨b, rfl, rfl⟩
  intro b5 _
  refine St.one (by exact .head _) rfl (by simp) rfl ?_
  refine hI.lenS ?_
  rw [iw_length]
  refine ⟨fun vs H => ∃ i C2, i ≤ (m.goes 0 ls ord).length ∧ vs = [.int .i64 (i : Int)] ∧ H = (b5, .cells #[ptr b] 141 (0, 0)) :: (b1, .cells #[.int .i64 0] 3 (0, 0)) :: (Y ++ (wk b kp tr.length i false :: C2)) ∧ At kp K S (swps ord (ls.take i)) (tr ++ ls.take i) C2,
    fun vs _ => ls.length - nAt vs 0, JE.mk ⟨0, C, Nat.zero_le _, rfl, rfl, by simpa [swps] using h⟩, ?_⟩
  rintro w13 H ⟨i, C2, hi, hv, rfl, h2⟩ gs
  simp only [List.cons.injEq, and_true] at hv
  subst hv
  have hlen2 : (tr ++ ls.take i).length < 1099511627776 := by rw [List.length_append, List.length_take]; omega
  refine Bin.ltN (Br.dec (fun hlt => ?_) (fun hlt => ?_))
  · refine hI.ld (n := ((ls.getD i 0 : Nat) : Int)) (iw_getD hlt) (fun _ h => .tail _ (.tail _ (List.mem_append_left _ h))) ?_
    have eg : ls.getD i 0 = ls[i] := by rw [List.getD_eq_getElem?_getD, List.getElem?_eq_getElem hlt]; rfl
    have hl1 : ls.getD i 0 + 1 < K.n := by rw [eg]; exact hp _ (List.getElem_mem hlt)
    have eq : ls[i]? = some (ls.getD i 0) := by rw [eg]; exact List.getElem?_eq_getElem hlt
    refine Ld.mk (v := ptr b) (by exact .head _) rfl ?_
    by_cases hg : i < (m.goes 0 ls ord).length
    · have hf : kfit K S (swps ord (ls.take i)) (ls.getD i 0) := rm_fit.1 (m.goes_fit hg eq)
      refine CallF.fn (.cons (.cons (.app .here))) (wstep_ok h2 hl1 hlen2 hf (by omega)) ?_
      rintro r H ⟨rfl, C3, rfl, h3⟩
      refine Bin.neD (Br.decF (by decide) ?_)
      refine Bin.addN (b := 1) (by simp [lim]; omega) ?_
      refine Back.mk ⟨i + 1, C3, hg, rfl, rfl, ?_⟩ (by simp only [nAt]; omega)
      have e : ls.take (i + 1) = ls.take i ++ [ls.getD i 0] := by rw [List.take_add_one, eq]; rfl
      rw [e, swps_snoc, ← List.append_assoc]; exact h3
    · obtain rfl : i = (m.goes 0 ls ord).length := by omega
      have hf : ¬ kfit K S (swps ord (ls.take (m.goes 0 ls ord).length)) (ls.getD (m.goes 0 ls ord).length 0) := fun hf => by
        have h8 := m.goes_stop eq
        have h9 := rm_fit.2 hf
        rw [show (rm K S).fit _ _ = false from h8] at h9; cases h9
      refine CallF.rd (.cons (.cons (.app .here))) (wstep_no h2 hl1 hlen2 hf) ?_
      rintro r rfl
      refine Bin.neD (Br.decT (by decide) ?_)
      refine St.one (by exact .tail (.head _)) rfl (by simp) rfl ?_
      refine L134_soundD (R := _) ?_
      unfold L134
      refine Ld.mk (v := ptr b) (by exact .head _) rfl ?_
      refine CallF.fn (.cons (.cons (.app .here))) (wend_back h2 (hpt _) hlen2 (by omega)) ?_
      rintro r H ⟨rfl, C3, rfl, h3⟩
      refine Ld.mk (v := ptr b) (by exact .head _) rfl ?_
      have eD : (m.goes 0 ls ord).length + (ls.take (m.goes 0 ls ord).length).length = 2 * (m.goes 0 ls ord).length := by rw [List.length_take]; omega
      rw [eD]
      refine Nil.ptr (FAddr.mk (Ld.mk (v := .int .i64 ((2 * (m.goes 0 ls ord).length : Nat) : Int)) (by exact .tail _ (.tail _ (List.mem_append_right _ (.head _)))) rfl ?_))
      refine St.one (by exact .tail (.head _)) rfl (by simp) rfl ?_
      refine ⟨⟨_, rfl⟩, ?_⟩
      refine Ld.mk (v := .int .i64 ((2 * (m.goes 0 ls ord).length : Nat) : Int)) (by exact .tail _ (.head _)) rfl ?_
      refine FnR.mk (.skip (.skip (.prep .tail _))) ⟨C3, rfl, .inr ⟨decide_eq_false (show ¬ (m.goes 0 ls ord).length = ls.length by omega), rfl, h3⟩⟩
  · have hil : i = ls.length := by omega
    subst hil
    rw [List.take_length] at h2
    have hcan : (rm K S).can ord ls = true := decide_eq_true (show (m.goes 0 ls ord).length = ls.length by omega)
    refine Ld.mk (v := ptr b) (by exact .head _) rfl ?_
    refine Nil.ptr (FAddr.mk (St.one (Upd.tail (Upd.tail (Upd.prepend (.head _) _))) rfl (by simp) rfl ?_))
    refine St.one (by exact .tail (.head _)) rfl (by simp) rfl ?_
    refine L134_soundD (R := _) ?_
    unfold L134
    refine Ld.mk (v := ptr b) (by exact .head _) rfl ?_
    refine CallF.rd (B := wk b kp tr.length ls.length true :: C2) (.cons (.cons (.app .here))) wend_keep ?_
    rintro r rfl
    refine Ld.mk (v := ptr b) (by exact .head _) rfl ?_
    refine Nil.ptr (FAddr.mk (Ld.mk (v := .int .i64 ((ls.length : Nat) : Int)) (by exact .tail _ (.tail _ (List.mem_append_right _ (.head _)))) rfl ?_))
    refine St.one (by exact .tail (.head _)) rfl (by simp) rfl ?_
    refine ⟨⟨_, rfl⟩, ?_⟩
    refine Ld.mk (v := .int .i64 ((ls.length : Nat) : Int)) (by exact .tail _ (.head _)) rfl ?_
    refine FnR.mk (.skip (.skip (.prep .tail _))) ⟨C2, rfl, .inl ⟨hcan, rfl, h2⟩⟩
end
end Go.Proofs
namespace Bdd
def Rm.szAt (m : Rm) (ord : List Nat) (p j : Nat) : Nat := if p ≤ j then m.size (swps ord ((road p (m.n - 1)).take (j - p))) else m.size (swps ord ((road p 0).take (p - j)))
def Rm.szs (m : Rm) (ord : List Nat) (p lo hi : Nat) : List Nat := (List.range m.n).map fun j => if lo ≤ j ∧ j ≤ hi then m.szAt ord p j else 0
def Rm.sizes (m : Rm) (ord : List Nat) (p : Nat) : List Nat := (List.range m.n).map fun j => m.szAt ord p j
theorem Rm.szs_len (m : Rm) (ord : List Nat) (p lo hi : Nat) : (m.szs ord p lo hi).length = m.n := by simp [szs]
theorem Rm.szs_all (m : Rm) (ord : List Nat) (p : Nat) : m.szs ord p 0 (m.n - 1) = m.sizes ord p := by
  refine List.map_congr_left fun j hj => if_pos ?_
  have := List.mem_range.1 hj; omega
theorem Rm.szs_set (m : Rm) {ord : List Nat} {p lo hi j lo' hi' : Nat} (hj : j < m.n) (h : ∀ k, (lo' ≤ k ∧ k ≤ hi') ↔ ((lo ≤ k ∧ k ≤ hi) ∨ k = j)) : (m.szs ord p lo hi).set j (m.szAt ord p j) = m.szs ord p lo' hi' := by
  apply List.ext_getElem?
  intro k
  by_cases hk : k < m.n
  · by_cases e : j = k
    · subst e
      rw [List.getElem?_set_self (by rw [szs_len]; exact hj)]
      simp only [szs, List.getElem?_map, List.getElem?_range hk, Option.map_some]
      rw [if_pos ((h j).2 (.inr rfl))]
    · rw [List.getElem?_set_ne e]
      simp only [szs, List.getElem?_map, List.getElem?_range hk, Option.map_some]
      congr 1
      have := h k
      by_cases h1 : lo ≤ k ∧ k ≤ hi
      · rw [if_pos h1, if_pos (this.2 (.inl h1))]
      · rw [if_neg h1, if_neg (fun h2 => (this.1 h2).elim h1 fun h3 => e h3.symm)]
  · rw [List.getElem?_eq_none (by rw [List.length_set, szs_len]; omega), List.getElem?_eq_none (by rw [szs_len]; omega)]
theorem Rm.szs_one (m : Rm) {ord : List Nat} {p : Nat} (hp : p < m.n) : (List.replicate m.n 0).set p (m.size ord) = m.szs ord p p p := by
  apply List.ext_getElem?
  intro k
  by_cases hk : k < m.n
  · by_cases e : p = k
    · subst e
      rw [List.getElem?_set_self (by simpa using hp)]
      simp [szs, hk, szAt, swps]
    · rw [List.getElem?_set_ne e]
      have : ¬ (p ≤ k ∧ k ≤ p) := by omega
      simp [szs, hk, this]
  · rw [List.getElem?_eq_none (by simp; omega), List.getElem?_eq_none (by rw [szs_len]; omega)]
theorem road_down {p n k : Nat} (hp : p < n) (hk : k < (road p (n - 1)).length) : (road p (n - 1))[k]? = some (p + k) ∧ p + k + 1 < n := by
  unfold road at hk ⊢
  have e : p - (n - 1) = 0 := by omega
  rw [e] at hk ⊢
  simp only [List.range'_zero, List.reverse_nil, List.append_nil, List.length_range'] at hk ⊢
  exact ⟨by rw [List.getElem?_range' hk, Nat.one_mul], by omega⟩
theorem road_up {p k : Nat} (hk : k < (road p 0).length) : (road p 0)[k]? = some (p - 1 - k) ∧ k < p := by
  unfold road at hk ⊢
  simp only [Nat.zero_sub, List.range'_zero, List.nil_append, List.length_reverse, List.length_range', Nat.sub_zero] at hk ⊢
  refine ⟨?_, hk⟩
  rw [List.getElem?_reverse (by simpa using hk), List.length_range', List.getElem?_range' (by omega)]
  congr 1; omega
theorem road_down_len {p n : Nat} (hp : p < n) : (road p (n - 1)).length = n - 1 - p := by rw [road_len]; omega
theorem road_up_len (p : Nat) : (road p 0).length = p := by rw [road_len]; omega
theorem Alike.szAt {A B : Rm} {Q : List Nat → Prop} (h : Alike A B Q) {ord : List Nat} {p j : Nat} (hp : p < A.n) (hq : Q ord) : A.szAt ord p j = B.szAt ord p j := by
  unfold Rm.szAt
  rw [← h.n]
  split
  · exact h.size _ (h.swps (fun l hl => road_mem hp (by omega) (List.mem_of_mem_take hl)) hq)
  · exact h.size _ (h.swps (fun l hl => road_mem hp (by omega) (List.mem_of_mem_take hl)) hq)
theorem Alike.sizes {A B : Rm} {Q : List Nat → Prop} (h : Alike A B Q) {ord : List Nat} {p : Nat} (hp : p < A.n) (hq : Q ord) : A.sizes ord p = B.sizes ord p := by
  unfold Rm.sizes
  rw [← h.n]
  exact List.map_congr_left fun j hj => h.szAt hp hq
end Bdd
set_option maxRecDepth 100000
namespace Go.Proofs
open Go Go.Sx
open Bdd
section
variable {kp b f d : Nat} {K : Kd} {S : Nat → Bdd.Fn} {ord tr : List Nat} {C : Hp}
theorem Moved.tup {ls : List Nat} {r : Value} (h : Moved kp K S ord tr ls r C) : ∃ x y, r = .tuple #[x, y] := by
  rcases h with ⟨_, rfl, _⟩ | ⟨_, rfl, _⟩ <;> exact ⟨_, _, rfl⟩
theorem to_nil (v l : Int) (B : Hp) : Rd Tryz.prog 33 #[.pointer none, .int .i64 v, .int .i64 l] B (· = .tuple #[.int .i64 0, .int .i64 10]) := by
  intro g
  refine L33_sound (R := FnR _) ?_
  unfold L33
  exact Bin.nilNil (Br.yes (RdR.mk (.refl _) rfl))
theorem to_arg (h : At kp K S ord tr C) (v : Int) {l : Int} (hl : l < 0 ∨ (K.n : Int) ≤ l) : Rd Tryz.prog 33 #[ptr kp, .int .i64 v, .int .i64 l] C (· = .tuple #[.int .i64 0, .int .i64 1]) := by
  intro g
  refine L33_sound (R := FnR _) ?_
  unfold L33
  refine Bin.ptrNil (Br.no ?_)
  intro J2 hJ2
  have fin : J2 [.bool true] C := hJ2 _ _ fun gs => Br.yes (RdR.mk (.refl _) rfl)
  refine Bin.lss ?_
  by_cases h0 : l < 0
  · rw [decide_eq_true h0]
    exact Split.past rfl (Pick.mk (JE.mk fin))
  · rw [decide_eq_false h0]
    refine Split.go rfl ?_
    refine CallF.rd .here (at_vars h) ?_
    rintro r rfl
    refine Bin.geq ?_
    rw [decide_eq_true (by omega)]
    exact Pick.mk (JE.mk fin)
theorem to_var (h : At kp K S ord tr C) {v : Int} (hv : v < 0 ∨ (K.n : Int) ≤ v) {l : Nat} (hl : l < K.n) : Rd Tryz.prog 33 #[ptr kp, .int .i64 v, .int .i64 (l : Int)] C (· = .tuple #[.int .i64 0, .int .i64 2]) := by
  intro g
  refine L33_sound (R := FnR _) ?_
  unfold L33
  refine Bin.ptrNil (Br.no ?_)
  intro J2 hJ2
  refine Bin.lss ?_
  rw [decide_eq_false (by omega)]
  refine Split.go rfl ?_
  refine CallF.rd .here (at_vars h) ?_
  rintro r rfl
  refine Bin.geq ?_
  rw [decide_eq_false (by omega)]
  refine Pick.mk (JE.mk (hJ2 _ _ fun gs => Br.no ?_))
  refine CallF.rd .here (at_level_no h hv) ?_
  rintro r rfl
  refine Ext.mk rfl (Ext.mk rfl (Bin.neD (Br.decT (by decide) ?_)))
  exact RdR.mk (.refl _) rfl
theorem to_ok (h : At kp K S ord tr C) {v l : Nat} (hv : v < K.n) (hl : l < K.n) (htr : tr.length < 549755813888) :
    Fc Tryz.prog 33 #[ptr kp, .int .i64 (v : Int), .int .i64 (l : Int)] C (fun r C' => ∃ p, p < K.n ∧ ord.getD p 0 = v ∧ Moved kp K S ord tr (road p l) r C') := by
  have hn := h.n64
  intro g
  refine L33_sound (R := FnR _) ?_
  unfold L33
  refine Bin.ptrNil (Br.no ?_)
  intro J2 hJ2
  refine Bin.lss ?_
  rw [decide_eq_false (by omega)]
  refine Split.go rfl ?_
  refine CallF.rd .here (at_vars h) ?_
  rintro r rfl
  refine Bin.geq ?_
  rw [decide_eq_false (by omega)]
  refine Pick.mk (JE.mk (hJ2 _ _ fun gs => Br.no ?_))
  refine CallF.rd .here (at_level h hv) ?_
  rintro r ⟨p, hp, he, rfl⟩
  refine Ext.mk rfl (Ext.mk rfl (Bin.neD (Br.decF (by decide) ?_)))
  refine CallF.fn hnew (road_ok (a := p) (b := l) (by omega) (by omega)) ?_
  rintro r CR hR
  have hrl := road_len p l
  refine CallF.fn .here (mall_ok h hR.ints (fun x hx => road_mem hp hl hx) (by omega)) ?_
  rintro r H ⟨C', rfl, hM⟩
  obtain ⟨x, y, rfl⟩ := hM.tup
  refine Ext.mk rfl (Ext.mk rfl ?_)
  exact FnR.mk .right ⟨p, hp, he, hM⟩
theorem order_nil (v : Value) (B : Hp) : Rd Tryz.prog 34 #[.pointer none, v] B (· = .tuple #[.int .i64 0, .int .i64 10]) := by
  intro g
  refine L34_sound (R := FnR _) ?_
  unfold L34
  exact Bin.nilNil (Br.yes (RdR.mk (.refl _) rfl))
theorem order_bad {Y : Hp} {v : Value} {l : List Int} (h : At kp K S ord tr C) (hI : Ints .i64 Y v l) (hmax : l.length ≤ 70368744177664) (hbad : ¬ (allIn l ∧ l.length ≤ 64 ∧ l.length = K.n)) :
    Rd Tryz.prog 34 #[ptr kp, v] (Y ++ C) (· = .tuple #[.int .i64 0, .int .i64 4]) := by
  intro g
  refine L34_sound (R := FnR _) ?_
  unfold L34
  refine Bin.ptrNil (Br.no ?_)
  intro J2 hJ2
  have fin : J2 [.bool true] (Y ++ C) := hJ2 _ _ fun gs => Br.yes (RdR.mk (.refl _) rfl)
  refine CallF.rd .left (pcheck_ok hI hmax) ?_
  rintro r (⟨rfl, ha, hl⟩ | ⟨rfl, _, _⟩ | ⟨rfl, _⟩)
  · refine Bin.neD (Split.go (by decide) ?_)
    refine hI.lenS ?_
    refine CallF.rd (.app .here) (at_vars h) ?_
    rintro r rfl
    refine Bin.neN ?_
    rw [decide_eq_true (show l.length ≠ K.n from fun e => hbad ⟨ha, hl, e⟩)]
    exact Pick.mk (JE.mk fin)
  · exact Bin.neD (Split.past (by decide) (Pick.mk (JE.mk fin)))
  · exact Bin.neD (Split.past (by decide) (Pick.mk (JE.mk fin)))
theorem order_ok {Y : Hp} {v : Value} {q : List Nat} (h : At kp K S ord tr C) (hI : Ints .i64 Y v (iw q)) (hpo : ord.Perm (List.range K.n)) (hpq : q.Perm (List.range K.n)) (htr : tr.length < 549755813888) :
    Fc Tryz.prog 34 #[ptr kp, v] (Y ++ C) (fun r H => ∃ C', H = Y ++ C' ∧ Moved kp K S ord tr (path ord q) r C') := by
  have hn := h.n64
  have hol : ord.length = K.n := by rw [hpo.length_eq, List.length_range]
  have hql : q.length = K.n := by rw [hpq.length_eq, List.length_range]
  have hnd : q.Nodup := hpq.nodup_iff.2 List.nodup_range
  intro g
  refine L34_sound (R := FnR _) ?_
  unfold L34
  refine Bin.ptrNil (Br.no ?_)
  intro J2 hJ2
  refine CallF.rd .left (pcheck_ok hI (by rw [iw_length]; omega)) ?_
  rintro r (⟨rfl, ha, hl⟩ | ⟨_, _, hl⟩ | ⟨_, hno⟩)
  rotate_left
  · rw [iw_length] at hl; omega
  · exact absurd (allIn_iw hpq) hno
  refine Bin.neD (Split.go (by decide) ?_)
  refine hI.lenS ?_
  refine CallF.rd (.app .here) (at_vars h) ?_
  rintro r rfl
  refine Bin.neN ?_
  rw [decide_eq_false (by rw [iw_length]; omega)]
  refine Pick.mk (JE.mk (hJ2 _ _ fun gs => Br.no ?_))
  refine CallF.fn (.app .here) (at_order h) ?_
  rintro vo H ⟨N, rfl, ho⟩
  refine CallF.pre (H' := (N ++ Y) ++ C) (.perm (by rw [List.append_assoc, ← List.append_assoc, ← List.append_assoc]; exact List.perm_append_comm.append_right C)) ?_
  refine CallF.fn .left (ppath_ok (ho.ints.mono fun _ h => List.mem_append_left _ h) (hI.mono fun _ h => List.mem_append_right _ h) hpo hpq hn) ?_
  rintro r H ⟨s, CP, rfl, rfl, hP⟩
  refine Ext.mk rfl (Ext.mk rfl (Bin.neD (Br.decF (by decide) ?_)))
  obtain ⟨_, hpl⟩ := path_ok hnd (hpo.trans hpq.symm)
  have hplen : (path ord q).length ≤ 4096 := by
    have := pathN_len hnd (hpo.trans hpq.symm) q.length (Nat.le_refl _)
    have h2 : q.length * ord.length ≤ 64 * 64 := Nat.mul_le_mul (by omega) (by omega)
    unfold path; omega
  refine CallF.fn .here (mall_ok h (hP.ints.mono fun _ h => List.mem_append_left _ h) (fun x hx => by have := hpl x hx; omega) (by omega)) ?_
  rintro r H ⟨C', rfl, hM⟩
  obtain ⟨x, y, rfl⟩ := hM.tup
  refine Ext.mk rfl (Ext.mk rfl ?_)
  refine FnR.mk ?_ ⟨C', rfl, hM⟩
  rw [List.append_assoc, List.append_assoc]
  exact Ent.right.trans .right
theorem sizes_nil (v : Int) (B : Hp) : Rd Tryz.prog 39 #[.pointer none, .int .i64 v] B (· = .tuple #[.slice none 0 0, .int .i64 10]) := by
  intro g
  refine L39_sound (R := FnR _) ?_
  unfold L39
  refine CallF.rd .here (level_nil v B) ?_
  rintro r rfl
  exact Ext.mk rfl (Ext.mk rfl (Bin.neD (Br.decT (by decide) (RdR.mk (.refl _) rfl))))
theorem sizes_var (h : At kp K S ord tr C) {v : Int} (hv : v < 0 ∨ (K.n : Int) ≤ v) : Rd Tryz.prog 39 #[ptr kp, .int .i64 v] C (· = .tuple #[.slice none 0 0, .int .i64 2]) := by
  intro g
  refine L39_sound (R := FnR _) ?_
  unfold L39
  refine CallF.rd .here (at_level_no h hv) ?_
  rintro r rfl
  exact Ext.mk rfl (Ext.mk rfl (Bin.neD (Br.decT (by decide) (RdR.mk (.refl _) rfl))))
def endOf (n : Nat) : Nat → Nat
  | 0 => n - 1
  | _ => 0
def loOf (p : Nat) : Nat → Nat → Nat
  | 0, _ => p
  | _, k => p - k
def hiOf (n p : Nat) : Nat → Nat → Nat
  | 0, k => p + k
  | _, _ => n - 1
def plOf (p : Nat) : Nat → Nat → Nat
  | 0, k => p + k
  | _, k => p - k
theorem sizes_ok (h : At kp K S ord tr C) {v : Nat} (hv : v < K.n) (htr : tr.length < 549755813888)
    (hcan : ∀ p, p < K.n → ord.getD p 0 = v → (rm K S).can ord (road p (K.n - 1)) = true ∧ (rm K S).can ord (road p 0) = true) :
    Fc Tryz.prog 39 #[ptr kp, .int .i64 (v : Int)] C (fun r H => ∃ p s CS C', p < K.n ∧ ord.getD p 0 = v ∧ r = .tuple #[s, .int .i64 0] ∧ H = CS ++ C' ∧ IOwn 3 .i64 s (iw ((rm K S).sizes ord p)) CS ∧ At kp K S ord tr C') := by
  let m := rm K S
  have hmn : m.n = K.n := rfl
  have hn := h.n64
  intro g
  refine L39_sound (R := FnR _) ?_
  unfold L39
  refine CallF.rd .here (at_level h hv) ?_
  rintro r ⟨p, hp, he, rfl⟩
  have hc : ∀ e, m.can ord (road p (endOf K.n e)) = true := fun e => by
    cases e with
    | zero => exact (hcan p hp he).1
    | succ e => exact (hcan p hp he).2
  refine Ext.mk rfl (Ext.mk rfl (Bin.neD (Br.decF (by decide) ?_)))
  refine CallF.fn .here (wbegin_ok h) ?_
  rintro r H ⟨b, rfl, rfl⟩
  refine CallF.rd (.cons .here) (at_vars h) ?_
  rintro r rfl
  refine MkSlice.ints (by omega) (by omega) fun bs => ?_
  refine CallF.rd (.cons (.cons .here)) (at_live h) ?_
  rintro r rfl
  refine IAddr.nat hp ?_
  refine St.ints (l := List.replicate K.n 0) (x := ((ksz K S ord : Nat) : Int)) (by exact .head _) (by simpa using hp) ?_
  have e1 : (List.replicate K.n (0 : Int)).set p ((ksz K S ord : Nat) : Int) = iw (m.szs ord p p p) := by
    have : List.replicate K.n (0 : Int) = iw (List.replicate m.n 0) := by simp [iw, hmn]
    rw [this, iw_set, ← m.szs_one hp]; rfl
  rw [e1]
  refine CallF.rd (.cons (.cons .here)) (at_vars h) ?_
  rintro r rfl
  refine Bin.subN (b := 1) (by simp [lim]; omega) (by omega) ?_
  refine BuildSl.ints2 (e := 3) (by kernel_rfl) (by kernel_rfl) (by kernel_rfl) fun b19 => ?_
  refine LenS.mk ?_
  have hI2 : ∀ {Z : Hp}, Ints .i64 ((b19, .cells (icells .i64 [((K.n - 1 : Nat) : Int), 0]) 3 (0, 0)) :: Z) (.slice (some ⟨b19, 0, none⟩) 2 2) [((K.n - 1 : Nat) : Int), 0] := fun {Z} => Ints.block (l := [((K.n - 1 : Nat) : Int), 0]) (cap := 2) (.head _) (by simp)
  have hsl := IOwn.made (T := 3) (kd := .i64) (b := bs) (iw (m.szs ord p p p))
  rw [iw_length, m.szs_len, hmn] at hsl
  generalize hsv : Value.slice (some ⟨bs, 0, none⟩) K.n K.n = sv at *
  refine ⟨fun vs H => ∃ (i d : Nat) (CS C2 : Hp), i ≤ 2 ∧ d ≤ 200 * i ∧ vs = [.int .i64 (i : Int)] ∧ H = (b19, .cells (icells .i64 [((K.n - 1 : Nat) : Int), 0]) 3 (0, 0)) :: (CS ++ (wk b kp tr.length d false :: C2)) ∧ IOwn 3 .i64 sv (iw (m.szs ord p (if i = 2 then 0 else p) (if i = 0 then p else K.n - 1))) CS ∧ At kp K S ord tr C2,
    fun vs _ => 2 - nAt vs 0, JE.mk ⟨0, 0, _, C, by omega, by omega, rfl, rfl, hsl, h⟩, ?_⟩
  rintro w26 H ⟨i, d, CS, C2, hi, hd, hv', rfl, hS, h2⟩ gs
  simp only [List.cons.injEq, and_true] at hv'
  subst hv'
  refine Bin.ltN (b := 2) (Br.dec (fun hlt => ?_) (fun hlt => ?_))
  · refine hI2.ld (n := ((endOf K.n i : Nat) : Int)) (by rcases i with _ | _ | i <;> first | rfl | omega) (fun _ h => h) ?_
    have hee : endOf K.n i < K.n := by rcases i with _ | i <;> simp [endOf] <;> omega
    refine CallF.fn hnew (road_ok (a := p) (b := endOf K.n i) (by omega) (by omega)) ?_
    rintro r CR hR
    have hrl : (road p (endOf K.n i)).length ≤ 64 := by rw [road_len]; omega
    refine hR.lenS ?_
    rw [iw_length]
    refine ⟨fun vs H => ∃ (k : Nat) (CS C3 : Hp), k ≤ (road p (endOf K.n i)).length ∧ vs = [.int .i64 ((plOf p i k : Nat) : Int), .int .i64 (k : Int)] ∧ H = CR ++ ((b19, .cells (icells .i64 [((K.n - 1 : Nat) : Int), 0]) 3 (0, 0)) :: (CS ++ (wk b kp tr.length (d + k) false :: C3))) ∧
        IOwn 3 .i64 sv (iw (m.szs ord p (loOf p i k) (hiOf K.n p i k))) CS ∧ At kp K S (swps ord ((road p (endOf K.n i)).take k)) (tr ++ (road p (endOf K.n i)).take k) C3,
      fun vs _ => (road p (endOf K.n i)).length - nAt vs 1, JE.mk ⟨0, CS, C2, Nat.zero_le _, ?_, rfl, ?_, by simpa [swps] using h2⟩, ?_⟩
    · rcases i with _ | i <;> rfl
    · rcases i with _ | _ | i
      · exact hS
      · exact hS
      · omega
    rintro w37 w38 H ⟨k, CS, C3, hk, hv', rfl, hS, h3⟩ gs
    simp only [List.cons.injEq, and_true] at hv'
    obtain ⟨rfl, rfl⟩ := hv'
    have hlen3 : (tr ++ (road p (endOf K.n i)).take k).length < 1099511627776 := by rw [List.length_append, List.length_take]; omega
    refine Bin.ltN (Br.dec (fun hlt2 => ?_) (fun hlt2 => ?_))
    · obtain ⟨l, hl⟩ : ∃ l, (road p (endOf K.n i))[k]? = some l := ⟨_, List.getElem?_eq_getElem hlt2⟩
      have hl1 : l + 1 < K.n := road_mem hp hee (List.mem_of_getElem? hl)
      refine hR.ld (x := (l : Int)) (iw_get hl) (fun _ h => List.mem_append_left _ h) ?_
      have hgl : (m.goes 0 (road p (endOf K.n i)) ord).length = (road p (endOf K.n i)).length := of_decide_eq_true (hc i)
      have hf : kfit K S (swps ord ((road p (endOf K.n i)).take k)) l := rm_fit.1 (m.goes_fit (by omega) hl)
      refine CallF.fn (.app (.cons (.app .here))) (wstep_ok h3 hl1 hlen3 hf (by omega)) ?_
      rintro r H ⟨rfl, C4, rfl, h4⟩
      refine Bin.neD (Br.decF (by decide) ?_)
      have hpl : plOf p i k = l ∨ plOf p i k = l + 1 := by
        rcases i with _ | i
        · have := (road_down hp hlt2).1; rw [show road p (K.n - 1) = road p (endOf K.n 0) from rfl, hl] at this; simp at this; left; exact this.symm
        · have ⟨h8, h9⟩ := road_up (p := p) (k := k) hlt2
          rw [show road p 0 = road p (endOf K.n (i + 1)) from rfl, hl] at h8; simp at h8; right
          show p - k = l + 1; omega
      have hpl2 : plOf p i (k + 1) + plOf p i k = 2 * l + 1 := by
        rcases i with _ | i
        · have := (road_down hp hlt2).1; rw [show road p (K.n - 1) = road p (endOf K.n 0) from rfl, hl] at this; simp at this
          show p + (k + 1) + (p + k) = _; omega
        · have ⟨h8, h9⟩ := road_up (p := p) (k := k) hlt2
          rw [show road p 0 = road p (endOf K.n (i + 1)) from rfl, hl] at h8; simp at h8
          show p - (k + 1) + (p - k) = _; omega
      have hpl3 : plOf p i (k + 1) < K.n := by omega
      refine Bin.addN (by simp [lim]; omega) (Bin.addN (b := 1) (by simp [lim]; omega) ?_)
      refine Bin.sub64 (c := ((l + l + 1 : Nat) : Int) - (plOf p i k : Nat)) rfl (by omega) (Bin.sub64 (c := ((l + l + 1 : Nat) : Int) - (plOf p i k : Nat) - (plOf p i k : Nat)) rfl (by omega) (Bin.add64 (c := ((plOf p i (k + 1) : Nat) : Int)) (by omega) (by omega) ?_))
      have e : (road p (endOf K.n i)).take (k + 1) = (road p (endOf K.n i)).take k ++ [l] := by rw [List.take_add_one, hl]; rfl
      rw [← swps_snoc, List.append_assoc, ← e] at h4
      refine CallF.rd (.app (.cons (.app (.cons .here)))) (at_live h4) ?_
      rintro r rfl
      refine hS.putH (x := ((ksz K S (swps ord ((road p (endOf K.n i)).take (k + 1))) : Nat) : Int)) (.app (.cons .left)) (by rw [iw_length, m.szs_len, hmn]; exact hpl3) fun CS' hS' => ?_
      have ez : ksz K S (swps ord ((road p (endOf K.n i)).take (k + 1))) = m.szAt ord p (plOf p i (k + 1)) := by
        unfold Rm.szAt
        rcases i with _ | i
        · rw [if_pos (show p ≤ plOf p 0 (k + 1) from Nat.le_add_right _ _), show plOf p 0 (k + 1) - p = k + 1 from Nat.add_sub_cancel_left _ _]; rfl
        · have ⟨_, h9⟩ := road_up (p := p) (k := k) hlt2
          rw [if_neg (show ¬ p ≤ plOf p (i + 1) (k + 1) from (show ¬ p ≤ p - (k + 1) by omega)), show p - plOf p (i + 1) (k + 1) = k + 1 from (show p - (p - (k + 1)) = k + 1 by omega)]; rfl
      have es : (m.szs ord p (loOf p i k) (hiOf K.n p i k)).set (plOf p i (k + 1)) (m.szAt ord p (plOf p i (k + 1))) = m.szs ord p (loOf p i (k + 1)) (hiOf K.n p i (k + 1)) := m.szs_set hpl3 fun j => by
        rcases i with _ | i
        · show (p ≤ j ∧ j ≤ p + (k + 1)) ↔ ((p ≤ j ∧ j ≤ p + k) ∨ j = p + (k + 1)); omega
        · have ⟨_, h9⟩ := road_up (p := p) (k := k) hlt2
          show (p - (k + 1) ≤ j ∧ j ≤ K.n - 1) ↔ ((p - k ≤ j ∧ j ≤ K.n - 1) ∨ j = p - (k + 1)); omega
      rw [iw_set, ez, es] at hS'
      refine Bin.addN (b := 1) (by simp [lim]; omega) ?_
      exact Back.mk ⟨k + 1, CS', C4, hlt2, rfl, rfl, hS', h4⟩ (by simp only [nAt]; omega)
    · obtain rfl : k = (road p (endOf K.n i)).length := by omega
      rw [List.take_length] at h3 hlen3
      refine CallF.fn (.app (.cons (.app .here))) (wback_ok h3 (fun x hx => road_mem hp hee hx) hlen3 (by omega)) ?_
      rintro r H ⟨rfl, C4, rfl, h4⟩
      refine Bin.addN (b := 1) (by simp [lim]; omega) ?_
      refine Back.of .right ⟨i + 1, _, CS, C4, by omega, ?_, rfl, rfl, ?_, h4⟩ (by simp only [nAt]; omega)
      · omega
      · rcases i with _ | _ | i
        · have e2 : loOf p 0 (road p (endOf K.n 0)).length = p := rfl
          have e3 : hiOf K.n p 0 (road p (endOf K.n 0)).length = K.n - 1 := by show p + (road p (K.n - 1)).length = _; rw [road_down_len hp]; omega
          rw [e2, e3] at hS; exact hS
        · have e2 : loOf p 1 (road p (endOf K.n 1)).length = 0 := by show p - (road p 0).length = _; rw [road_up_len]; omega
          rw [show (0 + 1 : Nat) = 1 from rfl, e2] at hS; exact hS
        · omega
  · obtain rfl : i = 2 := by omega
    refine L90_soundD (R := _) ?_
    unfold L90
    refine Nil.ptr (FAddr.mk (Ld.mk (v := .bool false) (by exact .tail _ (List.mem_append_right _ (.head _))) rfl ?_))
    refine Un.not (Br.yes ?_)
    refine CallF.fn (.cons (.app .here)) (wback_ok (path := []) (by simpa [swps] using h2) (by simp) (by rw [List.append_nil]; omega) (by omega)) ?_
    rintro r H ⟨rfl, C4, rfl, h4⟩
    refine ⟨⟨_, rfl⟩, ?_⟩
    have e9 : m.szs ord p 0 (K.n - 1) = m.sizes ord p := m.szs_all ord p
    refine FnR.mk (.skip (.prep .tail _)) ⟨p, sv, CS, C4, hp, he, rfl, rfl, ?_, h4⟩
    rw [← e9]; exact hS
end
end Go.Proofs
set_option maxRecDepth 100000
namespace Go.Proofs
open Go Go.Sx
open Bdd
section
variable {kp : Nat} {K : Kd} {S : Nat → Bdd.Fn} {ord tr : List Nat} {C : Hp} {m : Rm} {Q : List Nat → Prop}
theorem to_c (hA : At kp K S ord tr C) (hal : Bdd.Alike (rm K S) m Q) (hq : Q ord) (hnd : ord.Nodup) {v l p cnt : Nat} {pth ord' : List Nat} (hp : p < K.n) (he : ord.getD p 0 = v) (hv : v < K.n) (hl : l < K.n) (htr : tr.length < 549755813888)
    (hpth : road p l = pth) (hc : m.can ord pth = true) (hlen : pth.length = cnt) (ho : swps ord pth = ord') :
    Fc Tryz.prog 33 #[ptr kp, .int .i64 (v : Int), .int .i64 (l : Int)] C (fun r H => r = .tuple #[.int .i64 (cnt : Int), .int .i64 0] ∧ At kp K S ord' (tr ++ pth) H) := by
  have hlen' := hA.len
  refine (to_ok hA hv hl htr).mono ?_
  rintro r H ⟨p', hp', he', hM⟩
  obtain rfl : p' = p := getD_inj hnd (by omega) (by omega) (he'.trans he.symm)
  have ha := hal.can (ls := road p' l) (fun x hx => road_mem hp hl hx) hq
  subst hpth
  rcases hM with ⟨_, rfl, h⟩ | ⟨h0, _, _⟩
  · subst hlen; subst ho; exact ⟨rfl, h⟩
  · rw [ha.1, hc] at h0; cases h0
theorem to_no (hA : At kp K S ord tr C) (hal : Bdd.Alike (rm K S) m Q) (hq : Q ord) (hnd : ord.Nodup) {v l p cnt : Nat} {pth : List Nat} (hp : p < K.n) (he : ord.getD p 0 = v) (hv : v < K.n) (hl : l < K.n) (htr : tr.length < 549755813888)
    (hpth : road p l = pth) (hc : m.can ord pth = false) (hlen : 2 * (m.goes 0 pth ord).length = cnt) :
    Fc Tryz.prog 33 #[ptr kp, .int .i64 (v : Int), .int .i64 (l : Int)] C (fun r H => r = .tuple #[.int .i64 (cnt : Int), .int .i64 9] ∧ At kp K S ord tr H) := by
  have hlen' := hA.len
  refine (to_ok hA hv hl htr).mono ?_
  rintro r H ⟨p', hp', he', hM⟩
  obtain rfl : p' = p := getD_inj hnd (by omega) (by omega) (he'.trans he.symm)
  have ha := hal.can (ls := road p' l) (fun x hx => road_mem hp hl hx) hq
  subst hpth
  rcases hM with ⟨h0, _, _⟩ | ⟨_, rfl, h⟩
  · rw [ha.1, hc] at h0; cases h0
  · subst hlen; rw [ha.2]; exact ⟨rfl, h⟩
theorem order_c {Y : Hp} {v : Value} {q : List Nat} (hA : At kp K S ord tr C) (hal : Bdd.Alike (rm K S) m Q) (hq : Q ord) (hI : Ints .i64 Y v (iw q)) (hpo : ord.Perm (List.range K.n)) (hpq : q.Perm (List.range K.n)) (htr : tr.length < 549755813888) {cnt : Nat} {pth : List Nat}
    (hpth : path ord q = pth) (hc : m.can ord pth = true) (hlen : pth.length = cnt) :
    Fc Tryz.prog 34 #[ptr kp, v] (Y ++ C) (fun r H => ∃ C', H = Y ++ C' ∧ r = .tuple #[.int .i64 (cnt : Int), .int .i64 0] ∧ At kp K S q (tr ++ pth) C') := by
  have hol : ord.length = K.n := by rw [hpo.length_eq, List.length_range]
  have hnd : q.Nodup := hpq.nodup_iff.2 List.nodup_range
  obtain ⟨h1, h2⟩ := path_ok hnd (hpo.trans hpq.symm)
  refine (order_ok hA hI hpo hpq htr).mono ?_
  rintro r H ⟨C', rfl, hM⟩
  have ha := hal.can (ls := path ord q) (fun x hx => by have := h2 x hx; have e : (rm K S).n = K.n := rfl; omega) hq
  subst hpth
  rcases hM with ⟨_, rfl, h⟩ | ⟨h0, _, _⟩
  · subst hlen; rw [h1] at h; exact ⟨C', rfl, rfl, h⟩
  · rw [ha.1, hc] at h0; cases h0
theorem sizes_c (hA : At kp K S ord tr C) (hal : Bdd.Alike (rm K S) m Q) (hq : Q ord) (hnd : ord.Nodup) {v p : Nat} {l : List Nat} (hp : p < K.n) (he : ord.getD p 0 = v) (hv : v < K.n) (htr : tr.length < 549755813888)
    (hc1 : m.can ord (road p (m.n - 1)) = true) (hc2 : m.can ord (road p 0) = true) (hl : m.sizes ord p = l) :
    Fc Tryz.prog 39 #[ptr kp, .int .i64 (v : Int)] C (fun r H => ∃ s CS C', r = .tuple #[s, .int .i64 0] ∧ H = CS ++ C' ∧ IOwn 3 .i64 s (iw l) CS ∧ At kp K S ord tr C') := by
  have hlen' := hA.len
  have hmn : K.n = m.n := hal.n
  have key : ∀ p', p' < K.n → ord.getD p' 0 = v → p' = p := fun p' hp' he' => getD_inj hnd (by omega) (by omega) (he'.trans he.symm)
  refine (sizes_ok hA hv htr fun p' hp' he' => ?_).mono ?_
  · obtain rfl := key p' hp' he'
    rw [(hal.can (ls := road p' (K.n - 1)) (fun x hx => road_mem (n := K.n) hp (by omega) hx) hq).1, (hal.can (ls := road p' 0) (fun x hx => road_mem (n := K.n) hp (by omega) hx) hq).1, hmn]
    exact ⟨hc1, hc2⟩
  · rintro r H ⟨p', s, CS, C', hp', he', rfl, rfl, hS, h⟩
    obtain rfl := key p' hp' he'
    rw [hal.sizes hp hq, hl] at hS
    exact ⟨s, CS, C', rfl, rfl, hS, h⟩
end
theorem startC_ok {n c : Nat} {ord t : List Nat} {Y : Hp} {o v : Value} (hn : 1 ≤ n ∧ n ≤ 8) (hc : 2 ≤ c ∧ c ≤ 1048576) (hp : ord.Perm (List.range n)) (hf : Tab.Frm n t) (hg : growT n c ord [] [t] = [t]) (ho : Ints .i64 Y o (iw ord)) (hL : Tbls Y v (tbs n [t])) :
    Fc Tryz.prog 38 #[.int .i64 (c : Int), o, v] Y (fun r H => ∃ kp mp vr vt K S M refs ts C Y', r = .tuple #[pairV kp mp vr vt, .bool true, .bool true] ∧ H = Y' ++ C ∧ At kp K S ord [] C ∧ PairOk mp vr vt K S ord [] M refs ts Y' ∧ K.n = n ∧ Bdd.Alike (rm K S) (rmT n c [t]) (fun ord => ord.Perm (List.range n)) ∧ Grow Y Y') := by
  refine (start_ok (n := n) (c := c) hn hc hp ho hL (fun t' ht => by simp at ht; subst ht; exact hf) (by simp)).mono ?_
  rintro r H ⟨kp, mp, vr, vt, K, S, lev, M, refs, ts, C, Y', rfl, rfl, hK, hP, hn', hc', ht, hgr⟩
  rw [hg] at ht
  refine ⟨kp, mp, vr, vt, K, S, M, refs, ts, C, Y', rfl, rfl, hK.at', hP, hn', ?_, hgr⟩
  have := alike_rm hP.mir (by omega)
  rw [hn', hc', show M.held.map Prod.fst = [t] from ht] at this
  exact this
def pcell (b kp mp : Nat) (vr vt : Value) : Nat × Obj := (b, .cells #[ptr kp, ptr mp, vr, vt] 78 (0, 0))
def lcell (b : Nat) (l : List Nat) : Nat × Obj := (b, .cells (icells .i64 (iw l)) 3 (0, 0))
theorem lcell_ints {b : Nat} {l : List Nat} {n : Nat} {H : Hp} (h : lcell b l ∈ H) (hn : l.length = n) : Ints .i64 H (.slice (some ⟨b, 0, none⟩) n n) (iw l) := by
  subst hn
  have := Ints.block (l := iw l) (cap := l.length) h (by rw [iw_length]; exact Nat.le_refl _)
  rw [iw_length] at this
  exact this
end Go.Proofs
set_option maxRecDepth 100000
namespace Go.Proofs
open Go Go.Sx
open Bdd
theorem m_awake_ok (B : Hp) : Rd Tryz.prog 32 #[] B (· = .bool true) := by
  intro g
  refine L32_sound (R := FnR _) ?_
  unfold L32
  refine ⟨icells .i64 (iw [0, 2, 1, 3]), 3, 1, .int .i64 0, by kernel_rfl, by kernel_rfl, by kernel_rfl, by decide, by kernel_rfl, fun bo _ => ?_⟩
  refine CallF.px (B := []) hnew (pairs_ok []) ?_
  rintro v N ⟨s, rfl, hw⟩
  rw [List.append_nil] at hw ⊢
  refine buildOne (n := 4) fun bt => ?_
  have eH : (bt, Obj.cells #[.int .i64 (4 : Int), s] 55 (0, 0)) :: (N ++ (bo, Obj.cells (icells .i64 (iw [0, 2, 1, 3])) 3 (0, 0)) :: B) = ((bt, Obj.cells #[.int .i64 (4 : Int), s] 55 (0, 0)) :: (N ++ [(bo, Obj.cells (icells .i64 (iw [0, 2, 1, 3])) 3 (0, 0))])) ++ B := by simp
  rw [eH]
  refine CallF.fn .left (startC_ok (n := 4) (c := 100) (ord := [0, 2, 1, 3]) (t := [63624]) (by decide) (by decide) perm0213 pairs_frm grow0213 (lcell_ints (b := bo) (.tail _ (List.mem_append_right _ (.head _))) rfl) (Tbls.one (cap := 0) (t := ⟨4, [63624]⟩) (.head _) (hw.mono fun _ h => .tail _ (List.mem_append_left _ h)))) ?_
  rintro v H ⟨kp, mp, vr, vt, K, S, M, refs, ts, C, Y', rfl, rfl, hA, hP, hn, hal, _⟩
  rw [List.append_assoc]
  have ⟨o1, o2⟩ := hP.ones
  clear eH
  refine Ext.mk rfl (Ext.mk rfl (Ext.mk rfl ?_))
  intro b12 _
  refine St.whole (r := [ptr kp, ptr mp, vr, vt]) (by exact .head _) rfl rfl (pair_one o1 o2) ?_
  intro J15 hJ15
  have fin : J15 [.bool false] (pcell b12 kp mp vr vt :: (Y' ++ (C ++ B))) := by
    refine hJ15 _ _ fun gs => Br.no ?_
    refine FAddr.mk (Ld.mk (v := ptr kp) (by exact .head _) rfl ?_)
    refine CallF.fn (args := #[ptr kp, .int .i64 ((1 : Nat) : Int)]) (.cons (.app .left)) (sizes_c hA hal perm0213 (by decide) (v := 1) (p := 2) (l := [4, 4, 6, 6]) (by omega) rfl (by omega) (by simp) (by decide +kernel) (by decide +kernel) (by decide +kernel)) ?_
    rintro v H ⟨s1, CS, C1, rfl, rfl, hS, hA1⟩
    rw [List.append_assoc]
    refine Ext.mk rfl (Ext.mk rfl ?_)
    refine FAddr.mk (Ld.mk (v := ptr kp) (by exact .head _) rfl ?_)
    refine CallF.fn (args := #[ptr kp, .int .i64 ((1 : Nat) : Int), .int .i64 ((1 : Nat) : Int)]) (.cons (.app (.app .left))) (to_c hA1 hal perm0213 (by decide) (v := 1) (p := 2) (l := 1) (cnt := 1) (pth := [1]) (ord' := [0, 1, 2, 3]) (by omega) rfl (by omega) (by omega) (by simp) (by decide) (by decide +kernel) rfl (by decide)) ?_
    rintro v C2 ⟨rfl, hA2⟩
    refine Ext.mk rfl (Ext.mk rfl ?_)
    refine FAddr.mk (Ld.mk (v := ptr kp) (by exact .head _) rfl ?_)
    refine CallF.rd (.cons (.app (.app .left))) (at_live hA2) ?_
    rintro v rfl
    have e4 : ksz K S [0, 1, 2, 3] = 4 := (hal.size _ perm0123).trans (by decide +kernel)
    rw [e4]
    refine FAddr.mk (Ld.mk (v := ptr kp) (by exact .head _) rfl ?_)
    refine ⟨icells .i64 (iw [3, 2, 1, 0]), 3, 1, .int .i64 0, by kernel_rfl, by kernel_rfl, by kernel_rfl, by decide, by kernel_rfl, fun bq _ => ?_⟩
    refine CallF.pre (H' := ((lcell bq [3, 2, 1, 0] :: pcell b12 kp mp vr vt :: (Y' ++ CS)) ++ C2) ++ B) (.perm (by simp [lcell])) ?_
    refine CallF.fn .left (order_c hA2 hal perm0123 (lcell_ints (n := 4) (.head _) rfl) (q := [3, 2, 1, 0]) (by rw [hn]; exact perm0123) (by rw [hn]; decide) (by simp) (cnt := 6) (pth := [2, 1, 0, 2, 1, 2]) (by decide) (by decide +kernel) rfl) ?_
    rintro v H ⟨C3, rfl, rfl, hA3⟩
    refine Ext.mk rfl (Ext.mk rfl ?_)
    intro J43 hJ43
    have fin2 : ∀ {Z : Hp}, JE J43 [.bool true] (Z ++ B) := fun {Z} => JE.of .right (hJ43 _ B fun gs => RdR.mk (.refl _) rfl)
    refine Bin.eqD (Split.go (by decide) ?_)
    refine Bin.eqD (Pick.mk (Split.go (by decide) ?_))
    refine Bin.eqD (Pick.mk (Split.go (by decide) ?_))
    refine Bin.eqD (Pick.mk (Split.go (by decide) ?_))
    refine Bin.eqD (Pick.mk (Split.go (by decide) ?_))
    refine Bin.eqD (Pick.mk (Split.go (by decide) ?_))
    refine ⟨icells .i64 (iw [4, 4, 6, 6]), 3, 1, .int .i64 0, by kernel_rfl, by kernel_rfl, by kernel_rfl, by decide, by kernel_rfl, fun bw _ => ?_⟩
    refine CallF.rd .here (isame_ok (hS.ints.mono fun _ h => .tail _ (List.mem_append_left _ (List.mem_append_left _ (.tail _ (.tail _ (List.mem_append_right _ h)))))) (lcell_ints (b := bw) (l := [4, 4, 6, 6]) (n := 4) (.head _) rfl) (by decide)) ?_
    rintro v rfl
    rw [decide_eq_true rfl]
    refine Pick.mk (Split.go rfl ?_)
    refine FAddr.mk (Ld.mk (v := ptr kp) (by exact .tail _ (List.mem_append_left _ (List.mem_append_left _ (.tail _ (.head _))))) rfl ?_)
    refine CallF.pre (H' := C3 ++ ((bw, .cells (icells .i64 (iw [4, 4, 6, 6])) 3 (0, 0)) :: (lcell bq [3, 2, 1, 0] :: pcell b12 kp mp vr vt :: (Y' ++ CS)) ++ B)) (.perm (by rw [List.append_assoc]; exact (List.Perm.cons _ (List.perm_append_comm_assoc _ _ _)).trans List.perm_middle.symm)) ?_
    refine CallF.fn .left (at_order hA3) ?_
    rintro v H ⟨No, rfl, hO⟩
    refine ⟨icells .i64 (iw [3, 2, 1, 0]), 3, 1, .int .i64 0, by kernel_rfl, by kernel_rfl, by kernel_rfl, by decide, by kernel_rfl, fun bz _ => ?_⟩
    refine CallF.rd .here (isame_ok (hO.ints.mono fun _ h => .tail _ (List.mem_append_left _ (List.mem_append_left _ h))) (lcell_ints (b := bz) (l := [3, 2, 1, 0]) (n := 4) (.head _) rfl) (by decide)) ?_
    rintro v rfl
    rw [decide_eq_true rfl]
    refine Pick.mk ?_
    rw [← List.append_assoc, ← List.cons_append]
    exact fin2
  refine Un.not (Split.go rfl ?_)
  refine FAddr.mk (Ld.mk (v := ptr kp) (by exact .head _) rfl ?_)
  refine CallF.rd (.cons (.app .left)) (at_live hA) ?_
  rintro v rfl
  have e6 : ksz K S [0, 2, 1, 3] = 6 := (hal.size _ perm0213).trans (by decide +kernel)
  rw [e6]
  exact Bin.neD (Pick.mk (JE.mk fin))
end Go.Proofs
set_option maxRecDepth 100000
namespace Go.Proofs
open Go Go.Sx
open Bdd
def f3B : List Bool := [false, false, false, true, true, true, true, true]
theorem f3_fill : Tab.fillW 3 f3B = [248] := by decide +kernel
theorem f3_frm : Tab.Frm 3 [248] := by decide +kernel
theorem perm012 : [0, 1, 2].Perm (List.range 3) := by decide
theorem grow012a : growT 3 100 [0, 1, 2] [] [[248]] = [[248]] := by decide +kernel
theorem grow012b : growT 3 5 [0, 1, 2] [] [[248]] = [[248]] := by decide +kernel
theorem notAll2 : ¬ (allIn (iw [0, 1]) ∧ (iw [0, 1]).length ≤ 64 ∧ (iw [0, 1]).length = 3) := fun h => by have := h.2.2; simp [iw] at this
theorem notAll3 : ¬ (allIn (iw [0, 0, 1]) ∧ (iw [0, 0, 1]).length ≤ 64 ∧ (iw [0, 0, 1]).length = 3) := fun h => by
  have := allIn_nodup h.1
  simp [iw] at this
theorem m_fixed_ok (B : Hp) : Rd Tryz.prog 7 #[] B (· = .bool true) := by
  intro g
  refine L7_sound (R := FnR _) ?_
  unfold L7
  refine CallF.rd .here (m_awake_ok B) ?_
  rintro v rfl
  refine Un.not (Br.no ?_)
  refine ⟨bcells f3B, 4, 1, .bool false, by kernel_rfl, by kernel_rfl, by kernel_rfl, by decide, by kernel_rfl, fun bb _ => ?_⟩
  have hB := Bools.block (b := bb) (cap := 8) (l := f3B) (T := 4) (fz := (0, 0)) (B := (bb, .cells (bcells f3B) 4 (0, 0)) :: B) (.head _) (by decide)
  refine CallF.px (args := #[.int .i64 ((3 : Nat) : Int), .slice (some ⟨bb, 0, none⟩) 8 8]) .here (fill_ok (n := 3) (by omega) hB (by decide) (by decide)) ?_
  rintro r N ⟨s, rfl, hw⟩
  rw [f3_fill] at hw
  clear hB
  have hone := oneCell_words hw
  intro b8 _
  refine St.whole (r := [.int .i64 (3 : Int), s]) (by exact .head _) rfl rfl (by simpa [Value.oneCell'] using hone) ?_
  refine ⟨icells .i64 (iw [0, 1, 2]), 3, 1, .int .i64 0, by kernel_rfl, by kernel_rfl, by kernel_rfl, by decide, by kernel_rfl, fun bo _ => ?_⟩
  refine LdA.whole (r := [.int .i64 (3 : Int), s]) (by exact .tail _ (.head _)) rfl ?_
  refine buildOne (n := 3) fun bt => ?_
  obtain ⟨Z, hZ⟩ : ∃ Z, Z = (b8, Obj.cells #[.int .i64 (3 : Int), s] 55 (0, 0)) :: (N ++ (bb, .cells (bcells f3B) 4 (0, 0)) :: B) := ⟨_, rfl⟩
  have hw' : Words Z s [248] := by rw [hZ]; exact hw.mono fun _ h => .tail _ h
  have hb8 : (b8, Obj.cells #[.int .i64 (3 : Int), s] 55 (0, 0)) ∈ Z := by rw [hZ]; exact .head _
  have hZB : Ent Z B := by rw [hZ]; exact .skip (.skips .tail)
  show CallF _ _ _ _ ((bt, Obj.cells #[.int .i64 (3 : Int), s] 55 (0, 0)) :: lcell bo [0, 1, 2] :: ((b8, Obj.cells #[.int .i64 (3 : Int), s] 55 (0, 0)) :: (N ++ (bb, .cells (bcells f3B) 4 (0, 0)) :: B))) _ _
  rw [← hZ]
  clear hZ hw
  refine CallF.fn (args := #[.int .i64 ((100 : Nat) : Int), _, _]) .here (startC_ok (n := 3) (c := 100) (ord := [0, 1, 2]) (t := [248]) (by decide) (by decide) perm012 f3_frm grow012a (lcell_ints (b := bo) (.tail _ (.head _)) rfl) (Tbls.one (cap := 0) (t := ⟨3, [248]⟩) (.head _) (hw'.mono fun _ h => .tail _ (.tail _ h)))) ?_
  rintro v H ⟨kp, mp, vr, vt, K, S, M, refs, ts, C, Y', rfl, rfl, hA, hP, hn, hal, hgr⟩
  have hwY : Words Y' s [248] := hw'.mono fun _ h => hgr.sub _ (.tail _ (.tail _ h))
  have hbY : (b8, Obj.cells #[.int .i64 (3 : Int), s] 55 (0, 0)) ∈ Y' := hgr.sub _ (.tail _ (.tail _ hb8))
  have hYB : Ent Y' B := hgr.ent.trans (.skip (.skip hZB))
  have ⟨o1, o2⟩ := hP.ones
  clear hgr hZB hb8 hw'
  refine Ext.mk rfl (Ext.mk rfl (Ext.mk rfl ?_))
  intro b21 _
  refine St.whole (r := [ptr kp, ptr mp, vr, vt]) (by exact .head _) rfl rfl (pair_one o1 o2) ?_
  intro J24 hJ24
  have fin24 : J24 [.bool false] (pcell b21 kp mp vr vt :: (Y' ++ C)) := by
    refine hJ24 _ _ fun gs => Br.no ?_
    clear hJ24
    refine FAddr.mk (Ld.mk (v := ptr kp) (by exact .head _) rfl ?_)
    refine CallF.fn (args := #[ptr kp, .int .i64 ((2 : Nat) : Int)]) (.cons (.app .here)) (sizes_c hA hal perm012 (by decide) (v := 2) (p := 2) (l := [3, 4, 3]) (by omega) rfl (by omega) (by simp) (by decide +kernel) (by decide +kernel) (by decide +kernel)) ?_
    rintro v H ⟨s1, CS, C1, rfl, rfl, hS, hA1⟩
    refine Ext.mk rfl (Ext.mk rfl ?_)
    refine FAddr.mk (Ld.mk (v := ptr kp) (by exact .head _) rfl ?_)
    refine CallF.fn (args := #[ptr kp, .int .i64 ((1 : Nat) : Int), .int .i64 ((1 : Nat) : Int)]) (.cons (.app (.app .here))) (to_c hA1 hal perm012 (by decide) (v := 1) (p := 1) (l := 1) (cnt := 0) (pth := []) (ord' := [0, 1, 2]) (by omega) rfl (by omega) (by omega) (by simp) (by decide) (by decide +kernel) rfl (by decide)) ?_
    rintro v C2 ⟨rfl, hA2⟩
    refine Ext.mk rfl (Ext.mk rfl ?_)
    refine FAddr.mk (Ld.mk (v := ptr kp) (by exact .head _) rfl ?_)
    refine CallF.fn (args := #[ptr kp, .int .i64 ((0 : Nat) : Int), .int .i64 ((2 : Nat) : Int)]) (.cons (.app (.app .here))) (to_c hA2 hal perm012 (by decide) (v := 0) (p := 0) (l := 2) (cnt := 2) (pth := [0, 1]) (ord' := [1, 2, 0]) (by omega) rfl (by omega) (by omega) (by simp) (by decide) (by decide +kernel) rfl (by decide)) ?_
    rintro v C3 ⟨rfl, hA3⟩
    refine Ext.mk rfl (Ext.mk rfl ?_)
    intro J46 hJ46
    have fin46 : J46 [.bool false] (pcell b21 kp mp vr vt :: (Y' ++ (CS ++ C3))) := by
      refine hJ46 _ _ fun gs => Br.no ?_
      clear hJ46
      refine FAddr.mk (Ld.mk (v := ptr kp) (by exact .head _) rfl ?_)
      refine CallF.rd (args := #[ptr kp, .int .i64 3, .int .i64 ((0 : Nat) : Int)]) (.cons (.app (.app .here))) (to_var hA3 (v := 3) (l := 0) (by omega) (by omega)) ?_
      rintro v rfl
      refine Ext.mk rfl (Ext.mk rfl ?_)
      refine FAddr.mk (Ld.mk (v := ptr kp) (by exact .head _) rfl ?_)
      refine CallF.rd (.cons (.app (.app .here))) (to_arg hA3 0 (l := 3) (by omega)) ?_
      rintro v rfl
      refine Ext.mk rfl (Ext.mk rfl ?_)
      refine FAddr.mk (Ld.mk (v := ptr kp) (by exact .head _) rfl ?_)
      refine CallF.rd (.cons (.app (.app .here))) (to_arg hA3 3 (l := 3) (by omega)) ?_
      rintro v rfl
      refine Ext.mk rfl (Ext.mk rfl ?_)
      refine FAddr.mk (Ld.mk (v := ptr kp) (by exact .head _) rfl ?_)
      refine ⟨icells .i64 (iw [0, 1]), 3, 1, .int .i64 0, by kernel_rfl, by kernel_rfl, by kernel_rfl, by decide, by kernel_rfl, fun bq _ => ?_⟩
      refine CallF.pre (H' := (lcell bq [0, 1] :: pcell b21 kp mp vr vt :: (Y' ++ CS)) ++ C3) (.perm (by simp [lcell])) ?_
      refine CallF.rd .here (order_bad hA3 (lcell_ints (b := bq) (l := [0, 1]) (n := 2) (.head _) rfl) (by decide) (by rw [hn]; exact notAll2)) ?_
      rintro v rfl
      refine Ext.mk rfl (Ext.mk rfl ?_)
      refine FAddr.mk (Ld.mk (v := ptr kp) (by exact List.mem_append_left _ (.tail _ (.head _))) rfl ?_)
      refine ⟨icells .i64 (iw [0, 0, 1]), 3, 1, .int .i64 0, by kernel_rfl, by kernel_rfl, by kernel_rfl, by decide, by kernel_rfl, fun bz _ => ?_⟩
      refine CallF.rd (B := (lcell bz [0, 0, 1] :: lcell bq [0, 1] :: pcell b21 kp mp vr vt :: (Y' ++ CS)) ++ C3) .here (order_bad hA3 (lcell_ints (b := bz) (l := [0, 0, 1]) (n := 3) (.head _) rfl) (by decide) (by rw [hn]; exact notAll3)) ?_
      rintro v rfl
      refine Ext.mk rfl (Ext.mk rfl ?_)
      refine Bin.neD ?_
      refine Grp.or false (fun _ => Bin.neD ⟨rfl, rfl⟩) rfl fun gs => ?_
      refine Grp.or false (fun _ => Bin.neD ⟨rfl, rfl⟩) rfl fun gs => ?_
      refine Grp.or false (fun _ => Bin.neD ⟨rfl, rfl⟩) rfl fun gs => ?_
      refine Grp.or false (fun _ => Bin.neD ⟨rfl, rfl⟩) rfl fun gs => Br.no ?_
      refine CallF.rd .here (to_nil 9 9 _) ?_
      rintro v rfl
      refine Ext.mk rfl (Ext.mk rfl ?_)
      refine BuildSl.int (e := 3) (by kernel_rfl) (by kernel_rfl) (by kernel_rfl) fun b5 => ?_
      refine CallF.rd .here (order_nil _ _) ?_
      rintro v rfl
      refine Ext.mk rfl (Ext.mk rfl ?_)
      refine CallF.rd .here (sizes_nil (-1) _) ?_
      rintro v rfl
      refine Ext.mk rfl (Ext.mk rfl ?_)
      refine FAddr.mk (Ld.mk (v := ptr kp) (by exact .tail _ (.tail _ (.tail _ (.head _)))) rfl ?_)
      refine CallF.rd (B := C3) (.cons (.cons (.cons (.cons (.app .here))))) (sizes_var hA3 (v := 3) (by omega)) ?_
      rintro v rfl
      refine Ext.mk rfl (Ext.mk rfl ?_)
      refine Bin.neD ?_
      refine Grp.or false (fun _ => Bin.neD ⟨rfl, rfl⟩) rfl fun gs => ?_
      refine Grp.or false (fun _ => Bin.neD ⟨rfl, rfl⟩) rfl fun gs => ?_
      refine Grp.or false (fun _ => LenS.mk (Bin.neD ⟨rfl, rfl⟩)) rfl fun gs => ?_
      refine Grp.or false (fun _ => Bin.neD ⟨rfl, rfl⟩) rfl fun gs => Br.no ?_
      obtain ⟨Z5, hZ5⟩ : ∃ Z5, Z5 = (b5, Obj.cells (icells .i64 [5]) 3 (0, 0)) :: ((lcell bz [0, 0, 1] :: lcell bq [0, 1] :: pcell b21 kp mp vr vt :: (Y' ++ CS)) ++ C3) := ⟨_, rfl⟩
      have hs5 : ∀ x ∈ Y', x ∈ Z5 := fun x hx => by rw [hZ5]; exact .tail _ (List.mem_append_left _ (.tail _ (.tail _ (.tail _ (List.mem_append_left _ hx)))))
      have hw5 : Words Z5 s [248] := hwY.mono hs5
      have h85 := hs5 _ hbY
      have hE5 : Ent Z5 B := by
        rw [hZ5]
        exact .skip (Ent.left.trans (.skip (.skip (.skip (Ent.left.trans hYB)))))
      show BuildSl _ _ _ _ ((b5, Obj.cells (icells .i64 [5]) 3 (0, 0)) :: ((lcell bz [0, 0, 1] :: lcell bq [0, 1] :: pcell b21 kp mp vr vt :: (Y' ++ CS)) ++ C3)) _
      rw [← hZ5]
      clear hZ5 hs5 hwY hbY hYB hA3 hA2 hA1 hA hS hP hal
      refine ⟨icells .i64 (iw [0, 1, 2]), 3, 1, .int .i64 0, by kernel_rfl, by kernel_rfl, by kernel_rfl, by decide, by kernel_rfl, fun bo2 _ => ?_⟩
      refine LdA.whole (r := [.int .i64 (3 : Int), s]) (by exact .tail _ h85) rfl ?_
      refine buildOne (n := 3) fun bt2 => ?_
      refine CallF.fn (args := #[.int .i64 ((5 : Nat) : Int), _, _]) .here (startC_ok (n := 3) (c := 5) (ord := [0, 1, 2]) (t := [248]) (by decide) (by decide) perm012 f3_frm grow012b (lcell_ints (b := bo2) (.tail _ (.head _)) rfl) (Tbls.one (cap := 0) (t := ⟨3, [248]⟩) (.head _) (hw5.mono fun _ h => .tail _ (.tail _ h)))) ?_
      rintro v H ⟨kp, mp, vr, vt, K, S, M, refs, ts, C, Y2, rfl, rfl, hA, hP, hn, hal, hgr⟩
      have ⟨o1, o2⟩ := hP.ones
      refine Ext.mk rfl (Ext.mk rfl (Ext.mk rfl ?_))
      intro b141 _
      refine St.whole (r := [ptr kp, ptr mp, vr, vt]) (by exact .head _) rfl rfl (pair_one o1 o2) ?_
      refine FAddr.mk (Ld.mk (v := ptr kp) (by exact .head _) rfl ?_)
      refine CallF.fn (args := #[ptr kp, .int .i64 ((2 : Nat) : Int), .int .i64 ((0 : Nat) : Int)]) (.cons (.app .here)) (to_no hA hal perm012 (by decide) (v := 2) (p := 2) (l := 0) (cnt := 0) (pth := [1, 0]) (by omega) rfl (by omega) (by omega) (by simp) (by decide) (by decide +kernel) (by decide +kernel)) ?_
      rintro v C4 ⟨rfl, hA4⟩
      refine Ext.mk rfl (Ext.mk rfl ?_)
      intro J150 hJ150
      refine Split.go rfl ?_
      refine Bin.eqD (Pick.mk (Split.go (by decide) ?_))
      refine Bin.eqD (Pick.mk (Split.go (by decide) ?_))
      refine LdA.whole (r := [ptr kp, ptr mp, vr, vt]) (by exact .head _) rfl ?_
      refine CallF.rd (B := Y2 ++ C4) (.cons .here) (alike_ok hA4 hP (by simp)) ?_
      rintro v rfl
      exact Pick.mk (JE.of (.skip (Ent.left.trans (hgr.ent.trans (.skip (.skip hE5))))) (hJ150 _ B fun gs => RdR.mk (.refl _) rfl))
    refine Bin.neD (Split.go (by decide) ?_)
    refine Bin.neD (Pick.mk (Split.go (by decide) ?_))
    refine Bin.neD (Pick.mk (Split.go (by decide) ?_))
    refine ⟨icells .i64 (iw [3, 4, 3]), 3, 1, .int .i64 0, by kernel_rfl, by kernel_rfl, by kernel_rfl, by decide, by kernel_rfl, fun bw _ => ?_⟩
    refine CallF.rd .here (isame_ok (hS.ints.mono fun _ h => .tail _ (.tail _ (List.mem_append_right _ (List.mem_append_left _ h)))) (lcell_ints (b := bw) (l := [3, 4, 3]) (n := 3) (.head _) rfl) (by decide)) ?_
    rintro v rfl
    rw [decide_eq_true rfl]
    refine Un.not (Pick.mk (Split.go rfl ?_))
    refine Bin.neD (Pick.mk (Split.go (by decide) ?_))
    refine Bin.neD (Pick.mk (Split.go (by decide) ?_))
    refine FAddr.mk (Ld.mk (v := ptr kp) (by exact .tail _ (.head _)) rfl ?_)
    refine CallF.fn (.cons (.cons (.app (.app .here)))) (at_order hA3) ?_
    rintro v H ⟨No, rfl, hO⟩
    refine ⟨icells .i64 (iw [1, 2, 0]), 3, 1, .int .i64 0, by kernel_rfl, by kernel_rfl, by kernel_rfl, by decide, by kernel_rfl, fun by2 _ => ?_⟩
    refine CallF.rd .here (isame_ok (hO.ints.mono fun _ h => .tail _ (.tail _ (.tail _ (List.mem_append_right _ (List.mem_append_right _ (List.mem_append_left _ h)))))) (lcell_ints (b := by2) (l := [1, 2, 0]) (n := 3) (.head _) rfl) (by decide)) ?_
    rintro v rfl
    rw [decide_eq_true rfl]
    refine Un.not (Pick.mk (Split.go rfl ?_))
    refine FAddr.mk (Ld.mk (v := ptr kp) (by exact .tail _ (.tail _ (.head _))) rfl ?_)
    refine CallF.rd (B := C3) (.cons (.cons (.cons (.app (.app (.app .here)))))) (at_trail hA3) ?_
    rintro v rfl
    refine Bin.neD (Pick.mk (JE.of (.skip (.skip (.cons (.prep (.prep .right _) _)))) fin46))
  refine Un.not (Split.go rfl ?_)
  refine FAddr.mk (Ld.mk (v := ptr kp) (by exact .head _) rfl ?_)
  refine CallF.rd (.cons (.app .here)) (at_live hA) ?_
  rintro v rfl
  have e3 : ksz K S [0, 1, 2] = 3 := (hal.size _ perm012).trans (by decide +kernel)
  rw [e3]
  exact Bin.neD (Pick.mk (JE.mk fin24))
end Go.Proofs
namespace Go.Sx
open Go Go.ChangeShapes Go.WideShapes Go.Deep
section
variable {H : Type} {enc : TypeId × Value → H} {P : Program} {W : World} {base : Nat} {spare : Nat → Bool} {held : Bool}
theorem add_block (a : Addr) (n : Nat) : (a.add n).block = a.block := by unfold Addr.add; split <;> rfl
theorem add_off (a : Addr) (n : Nat) : (a.add n).off = a.off + n := by unfold Addr.add; split <;> simp_all
theorem cells_block {b : Nat} {a : Addr} {k : Nat} {cs : List Value} (hk : 0 < k) (h : W.cells? b a k = some cs) :
    a.spot = none ∧ ∃ c T fz, W.heap[a.block]? = some (.cells c T fz) ∧ a.off + k ≤ c.size ∧ c.extract a.off (a.off + k) = cs.toArray := by
  obtain ⟨_, hl, hg⟩ := World.cells?_some h
  have h0 := hg 0 hk
  have hc0 : W.cell? a = some (cs[0]'(by omega)) := by
    have : a.add 0 = a := by simp [Addr.add]
    rw [this] at h0; rw [h0]; exact List.getElem?_eq_getElem (by omega)
  unfold World.cell? at hc0
  split at hc0
  · rename_i c T fz hb
    cases hs : a.spot with
    | some s => rw [hs] at hc0; simp at hc0
    | none =>
      have hcell : ∀ i, i < k → c[a.off + i]? = cs[i]? := fun i hi => by
        have := hg i hi
        unfold World.cell? at this
        rw [add_block, hb] at this
        simp only [add_off] at this
        have hsp : (a.add i).spot.isSome = false := by unfold Addr.add; split <;> simp [hs]
        rw [hsp] at this
        simpa using this
      have hsz : a.off + k ≤ c.size := by
        have := hcell (k - 1) (by omega)
        rw [List.getElem?_eq_getElem (by omega)] at this
        have := (Array.getElem?_eq_some_iff.1 this).1
        omega
      refine ⟨rfl, c, T, fz, hb, hsz, ?_⟩
      apply Array.ext_getElem?
      intro i
      rw [Array.getElem?_extract]
      by_cases hi : i < k
      · rw [if_pos (by omega), hcell i hi]; simp
      · rw [if_neg (by omega)]; simp; omega
  · simp at hc0
theorem open_rows {t e : TypeId} {v : Value} {d : DataW H} {ps : List MemPlace} {r : Reach} {b0 k : Nat} (ht : P.underlying t = some (.slice e)) (hk : P.cellsOf e = k) (hk0 : 0 < k) (hv : Value.okWide P W r b0 t v) (h : DataW.Trod enc P W base spare held t v d ps) :
    (v = .slice none 0 0 ∧ d = .nil) ∨ ∃ (a : Addr) (n cap : Nat) (es sp : List (DataW H)), v = .slice (some a) n cap ∧ d = .slice es sp ∧ es.length = n ∧ n ≤ cap ∧
      ∀ i, i < n → ∃ c T fz cs, a.spot = none ∧ (a.block, Obj.cells c T fz) ∈ whole W ∧ a.off + i * k + k ≤ c.size ∧ c.extract (a.off + i * k) (a.off + i * k + k) = cs.toArray ∧ ∃ fuel y, DataW.trod enc P W base spare held fuel e cs = some y ∧ cs.length = k := by
  obtain ⟨a0, n0, c0, rfl⟩ := okWide_slice ht hv
  obtain ⟨fuel, hf⟩ := h
  rcases open_slice ht hf with ⟨h1, h2⟩ | ⟨a, len, cap, m, n, D, Pl, hcs, hb, hl, hm, hmm, hx, hi⟩
  · left
    simp only [Value.cells, List.cons.injEq, and_true] at h1
    simp only [Prod.mk.injEq] at h2
    exact ⟨by simpa using h1, h2.1⟩
  · right
    simp only [Prod.mk.injEq] at hx
    have hv' : Value.slice a0 n0 c0 = .slice (some a) len cap := by simpa [Value.cells] using hcs
    have hlm : len ≤ m := by rw [hmm]; split <;> omega
    refine ⟨a, len, cap, _, _, hv', hx.1, by simp, hl, fun i hin => ?_⟩
    have hkk := hk
    have hspot : a.spot = none := by
      obtain ⟨cs0, hc0, _⟩ := hi 0 (by omega)
      rw [hk] at hc0
      rw [show a.add (0 * k) = a by simp [Addr.add]] at hc0
      exact (cells_block hk0 hc0).1
    obtain ⟨cs, hc, hd⟩ := hi i (by omega)
    rw [hk] at hc
    obtain ⟨_, hlen, _⟩ := World.cells?_some hc
    obtain ⟨_, c, T, fz, h1, h2, h3⟩ := cells_block hk0 hc
    rw [add_block] at h1
    rw [add_off] at h2 h3
    exact ⟨c, T, fz, cs, hspot, mem_whole h1, h2, h3, n, _, hd, hlen⟩
theorem trod_rows {t e : TypeId} {cs : List Value} {x : DataW H × List MemPlace} {fuel k : Nat} (ht : P.underlying t = some (.slice e)) (hk : P.cellsOf e = k) (hk0 : 0 < k) (h : DataW.trod enc P W base spare held fuel t cs = some x) :
    ∃ (v : Value) (rs : List (List Value)), cs = [v] ∧ Sl k (whole W) v rs ∧ ((rs = [] ∧ x.1 = .nil) ∨ ∃ es sp, x.1 = .slice es sp ∧ es.length = rs.length) ∧
      ∀ (i : Nat) (r : List Value), rs[i]? = some r → ∃ (fuel : Nat) (y : DataW H × List MemPlace) (es sp : List (DataW H)), DataW.trod enc P W base spare held fuel e r = some y ∧ x.1 = .slice es sp ∧ es[i]? = some y.1 := by
  rcases open_slice ht h with ⟨h1, h2⟩ | ⟨a, len, cap, m, n, D, Pl, hcs, hb, hl, hm, hmm, hx, hi⟩
  · exact ⟨_, [], h1, Sl.nil _ _, .inl ⟨rfl, by rw [h2]⟩, fun i r hr => by simp at hr⟩
  · have hlm : len ≤ m := by rw [hmm]; split <;> omega
    have hex : ∃ rs : List (List Value), rs.length = len ∧ ∀ i r, rs[i]? = some r → W.cells? base (a.add (i * k)) k = some r ∧ DataW.trod enc P W base spare held n e r = some (D i, Pl i) := by
      clear hcs hx hl hmm
      induction len with
      | zero => exact ⟨[], rfl, fun i r hr => by simp at hr⟩
      | succ len ih =>
        obtain ⟨rs, h1, h2⟩ := ih (by omega)
        obtain ⟨r, h3, h4⟩ := hi len (by omega)
        rw [hk] at h3
        refine ⟨rs ++ [r], by simp [h1], fun i r' hr => ?_⟩
        by_cases hlt : i < rs.length
        · rw [List.getElem?_append_left hlt] at hr; exact h2 i r' hr
        · rw [List.getElem?_append_right (by omega)] at hr
          have hi0 : i - rs.length = 0 := by
            by_cases e : i - rs.length = 0
            · exact e
            · rw [List.getElem?_eq_none (by simp; omega)] at hr; cases hr
          rw [hi0] at hr
          simp only [List.getElem?_cons_zero, Option.some.injEq] at hr
          subst hr
          obtain rfl : i = len := by omega
          exact ⟨h3, h4⟩
    obtain ⟨rs, hrl, hrs⟩ := hex
    have hall : ∀ r ∈ rs, r.length = k := fun r hr => by
      obtain ⟨i, hi, e⟩ := List.mem_iff_getElem.1 hr
      obtain ⟨hc, _⟩ := hrs i r (by rw [List.getElem?_eq_getElem hi, e])
      exact (World.cells?_some hc).2.1
    refine ⟨.slice (some a) len cap, rs, hcs, ⟨hall, ?_⟩, .inr ⟨_, _, by rw [hx], by simp [hrl]⟩, fun i r hr => ?_⟩
    · cases rs with
      | nil => exact .inl ⟨some a, cap, by rw [← hrl]; rfl, rfl⟩
      | cons r0 rest =>
        right
        obtain ⟨hc0, _⟩ := hrs 0 r0 rfl
        obtain ⟨hspot, c, T, fz, hb0, _, _⟩ := cells_block hk0 hc0
        rw [show a.add (0 * k) = a by simp [Addr.add]] at hspot hb0
        obtain ⟨ab, ao, asp⟩ := a
        simp only at hspot hb0
        subst hspot
        have hblk : ∀ i r, (r0 :: rest)[i]? = some r → ao + i * k + k ≤ c.size ∧ c.extract (ao + i * k) (ao + i * k + k) = r.toArray := fun i r hr => by
          obtain ⟨hc, _⟩ := hrs i r hr
          obtain ⟨_, c', T', fz', h1, h2, h3⟩ := cells_block hk0 hc
          rw [add_block] at h1
          rw [add_off] at h2 h3
          simp only at h1 h2 h3
          rw [hb0] at h1
          simp only [Option.some.injEq, Obj.cells.injEq] at h1
          obtain ⟨rfl, _, _⟩ := h1
          exact ⟨h2, h3⟩
        refine ⟨ab, ao, cap, c, T, fz, by rw [hrl], by omega, mem_whole hb0, ?_, fun i r hr j v hj => ?_⟩
        · have hlast := hblk (rest.length) ((r0 :: rest)[rest.length]'(by simp)) (List.getElem?_eq_getElem (by simp))
          have := hlast.1
          simp only [List.length_cons, Nat.succ_mul]; omega
        · obtain ⟨h1, h2⟩ := hblk i r hr
          have hjk : j < k := by
            have := (List.getElem?_eq_some_iff.1 hj).1
            rw [hall r (List.mem_of_getElem? hr)] at this; exact this
          have h3 := congrArg (fun z : Array Value => z[j]?) h2
          simp only [Array.getElem?_extract, List.getElem?_toArray] at h3
          rw [hj] at h3
          rw [← h3, if_pos (by omega)]
    · obtain ⟨_, hd⟩ := hrs i r hr
      have hil : i < len := by rw [← hrl]; exact (List.getElem?_eq_some_iff.1 hr).1
      exact ⟨n, _, _, _, hd, by rw [hx], by simp [hil]⟩
theorem trod_ints {t e : TypeId} {q : IntKind} {cs : List Value} {x : DataW H × List MemPlace} {fuel : Nat} (ht : P.underlying t = some (.slice e)) (he : P.underlying e = some (.int q)) (hk : P.cellsOf e = 1) (h : DataW.trod enc P W base spare held fuel t cs = some x) :
    ∃ (v : Value) (l : List Int), cs = [v] ∧ Ints q (whole W) v l ∧ (∀ n ∈ l, (Lit.int q n).wf = true) ∧ ((l = [] ∧ x.1 = .nil) ∨ ∃ es sp, x.1 = .slice es sp ∧ es.length = l.length) := by
  obtain ⟨v, rs, hcs, hsl, hx, hr⟩ := trod_rows ht hk (by decide) h
  have hone : ∀ r ∈ rs, ∃ n, r = [.int q n] ∧ (Lit.int q n).wf = true := fun r hm => by
    obtain ⟨i, hi, e⟩ := List.mem_iff_getElem.1 hm
    obtain ⟨f, y, _, _, hy, _⟩ := hr i r (by rw [List.getElem?_eq_getElem hi, e])
    obtain ⟨n, h1, _, h2⟩ := DataW.trod_int he hy
    exact ⟨n, h1, h2⟩
  have hex : ∃ l : List Int, rs = l.map (fun n => [Value.int q n]) ∧ ∀ n ∈ l, (Lit.int q n).wf = true := by
    clear hsl hx hr hcs
    induction rs with
    | nil => exact ⟨[], rfl, by simp⟩
    | cons r rest ih =>
      obtain ⟨l, h1, h2⟩ := ih fun r hm => hone r (by simp [hm])
      obtain ⟨n, h3, h4⟩ := hone r (by simp)
      exact ⟨n :: l, by simp [h1, h3], fun m hm => by rcases List.mem_cons.1 hm with rfl | hm; exact h4; exact h2 m hm⟩
  obtain ⟨l, rfl, hwf⟩ := hex
  refine ⟨v, l, hcs, hsl, hwf, ?_⟩
  rcases hx with ⟨h1, h2⟩ | ⟨es, sp, h1, h2⟩
  · exact .inl ⟨by simpa using h1, h2⟩
  · exact .inr ⟨es, sp, h1, by simpa using h2⟩
end
end Go.Sx
set_option maxRecDepth 100000
namespace Go.Proofs
open Go Go.Sx
section
open Go.ChangeShapes Go.WideShapes Go.Deep
variable {H : Type} {enc : TypeId × Value → H} {W : World} {base : Nat} {spare : Nat → Bool} {held : Bool}
theorem law_rd {f : FuncId} {args : Array Value} {W : World} (h : Rd Tryz.prog f args (whole W) (· = .bool true)) :
    Calls Tryz.prog f args W fun e W' => e = .returned (.bool true) ∧ Go.RowKit.Below W.heap.size W W' :=
  law_px (h.mono fun _ _ ⟨h1, h2⟩ => ⟨by rw [h1]; exact .refl _, h2⟩)
theorem words_of {v : Value} {d : DataW H} {ps : List MemPlace} (h : DataW.Trod enc Tryz.prog W base spare held 23 v d ps) (hv : ∃ a n c, v = .slice a n c) :
    ∃ l : List Nat, Ints .u64 (whole W) v (iw l) ∧ (∀ x ∈ l, x < 18446744073709551616) ∧ ((∀ n ∈ d.weights Tryz.prog 23, n ≤ reachBytes) → l.length * 8 ≤ 140737488351232) := by
  obtain ⟨fuel, hf⟩ := h
  have k3 : Tryz.prog.cellsOf 29 = 1 := by kernel_rfl
  obtain ⟨v', l, hcs, hi, hwf, hw⟩ := trod_ints Tryz.underlying23 Tryz.underlying29 k3 hf
  have hvv : v' = v := by
    obtain ⟨a, n, c, rfl⟩ := hv
    simpa [Value.cells] using hcs.symm
  subst hvv
  have hb : ∀ x ∈ l, 0 ≤ x ∧ x ≤ 18446744073709551615 := fun x hx => bounds_u64 (hwf x hx)
  have e : iw (l.map Int.toNat) = l := by
    unfold iw
    rw [List.map_map]
    conv => rhs; rw [← List.map_id l]
    apply List.map_congr_left
    intro x hx
    have := hb x hx
    show ((x.toNat : Nat) : Int) = x
    omega
  refine ⟨l.map Int.toNat, by rw [e]; exact hi, fun x hx => ?_, fun hall => ?_⟩
  · obtain ⟨y, hy, rfl⟩ := List.mem_map.1 hx
    have := hb y hy; omega
  rw [List.length_map]
  rcases hw with ⟨h1, _⟩ | ⟨es, sp, h1, h2⟩
  · subst h1; simp
  · simp only at h1
    have := hall ((es.length + sp.length) * Tryz.prog.bytesOf 29) (by rw [h1, DataW.weights, Tryz.underlying23]; exact List.mem_cons_self ..)
    rw [show Tryz.prog.bytesOf 29 = 8 by kernel_rfl] at this
    have h3 : reachBytes = 140737488351232 := rfl
    omega
theorem list_of {v : Value} {d : DataW H} {ps : List MemPlace} (h : DataW.Trod enc Tryz.prog W base spare held 22 v d ps) (hv : ∃ a n c, v = .slice a n c) :
    ∃ l, Ints .i64 (whole W) v l ∧ (∀ x ∈ l, -9223372036854775808 ≤ x ∧ x ≤ 9223372036854775807) ∧ ((∀ n ∈ d.weights Tryz.prog 22, n ≤ reachBytes) → l.length * 8 ≤ 140737488351232) := by
  obtain ⟨fuel, hf⟩ := h
  have k3 : Tryz.prog.cellsOf 3 = 1 := by kernel_rfl
  obtain ⟨v', l, hcs, hi, hwf, hw⟩ := trod_ints Tryz.underlying22 Tryz.underlying3 k3 hf
  have hvv : v' = v := by
    obtain ⟨a, n, c, rfl⟩ := hv
    simpa [Value.cells] using hcs.symm
  subst hvv
  refine ⟨l, hi, fun x hx => bounds_i64 (hwf x hx), fun hall => ?_⟩
  rcases hw with ⟨h1, _⟩ | ⟨es, sp, h1, h2⟩
  · subst h1; simp
  · simp only at h1
    have := hall ((es.length + sp.length) * Tryz.prog.bytesOf 3) (by rw [h1, DataW.weights, Tryz.underlying22]; exact List.mem_cons_self ..)
    rw [show Tryz.prog.bytesOf 3 = 8 by kernel_rfl] at this
    have h3 : reachBytes = 140737488351232 := rfl
    omega
end
end Go.Proofs
