import Derived.Test.YtilnmikgcbcmcaaGreatG4
import Derived.Test.YtilnmikgcbcmcaaGreatG3
import Derived.Test.YtilnmikgcbcmcaaGreatG2
import Derived.Test.YtilnmikgcbcmcaaGreatG1
set_option linter.unusedVariables false
set_option linter.unusedSimpArgs false
set_option linter.unusedSectionVars false
set_option maxRecDepth 100000
namespace Go.Proofs
open Go Go.Sx
open Bdd
def wcell (bw kp : Nat) (vl vm : Value) : Nat × Obj := (bw, .cells #[ptr kp, vl, vm] 255 (0, 0))
abbrev Q3 := Nat × Nat × Nat
def l3 (q : Q3) : List Nat := [q.1, q.2.1, q.2.2]
def kq (q : Q3) : Value := .agg (icells .u32 (iw (l3 q)))
theorem iw_inj' {a b : List Nat} (h : iw a = iw b) : a = b := by
 induction a generalizing b with
 | nil => cases b with
  | nil => rfl
  | cons y b => simp [iw] at h
 | cons x a ih => cases b with
  | nil => simp [iw] at h
  | cons y b =>
   simp only [iw, List.map_cons, List.cons.injEq] at h
   rw [Int.ofNat.inj h.1, ih h.2]
theorem l3_inj {a b : Q3} (h : l3 a = l3 b) : a = b := by
 obtain ⟨a1, a2, a3⟩ := a
 obtain ⟨b1, b2, b3⟩ := b
 simp [l3] at h
 rw [h.1, h.2.1, h.2.2]
theorem kq_eq (a b : Q3) : EqV Tryz.prog 234 (kq a) (kq b) (decide (a = b)) := by
 have := EqV.array (P := Tryz.prog) (t := 234) (e := 31) (q := .u32) (n := 3) (by kernel_rfl) (by kernel_rfl) (by kernel_rfl) (iw (l3 a)) (iw (l3 b)) rfl rfl
 have e : decide (iw (l3 a) = iw (l3 b)) = decide (a = b) := decide_eq_decide.2 ⟨fun h => l3_inj (iw_inj' h), fun h => by rw [h]⟩
 rw [e] at this; exact this
theorem kq_chk (a : Q3) : ChkV Tryz.prog 234 (kq a) := ChkV.array (P := Tryz.prog) (t := 234) (e := 31) (q := .u32) (n := 3) (by kernel_rfl) (by kernel_rfl) (by kernel_rfl) _ rfl
theorem kq_bits (a : Q3) : Instr.sameBits 10000 (kq a) (kq a) = true := sameBits_flat 9998 fun x hx => .inl (by simp [icells] at hx; obtain ⟨n, _, rfl⟩ := hx; exact ⟨_, _, rfl⟩)
section
variable {kp bw : Nat} {vl vm : Value} {K : Kd} {S : Nat → Bdd.Fn} {ord lev tr : List Nat} {C : Hp}
theorem buildNode {H : Hp} {r : List Value} {K : Value → Hp → Prop} (hl : r.length = 3) (h : ∀ b, K (.slice (some ⟨b, 0, none⟩) 1 1) ((b, .cells r.toArray 103 (0, 0)) :: H)) : BuildSl Tryz.prog 220 1 [(0, .agg r.toArray)] H K :=
 BuildSl.one (r := r) (e := 103) (k := 3) (z := .agg #[.int .i64 0, .int .u32 0, .int .u32 0]) (by kernel_rfl) (by kernel_rfl) (by kernel_rfl) (by decide) hl h
theorem anodes_ok {X Y : Hp} (h : KRep kp K ord lev tr C) (q : Q3) (hq : ∀ r ∈ l3 q, r < 4294967296) :
  Fc Tryz.prog 198 #[ptr bw, kq q] (wcell bw kp vl vm :: (X ++ (Y ++ C))) (fun v H => ∃ CN, H = CN ++ (wcell bw kp vl vm :: (X ++ (Y ++ C))) ∧ SOwn 103 3 v ((l3 q).map (got K.N)) CN) := by
 have hlen : (l3 q).length = 3 := rfl
 intro g
 refine L198_sound (R := FnR _) ?_
 unfold L198
 intro b1 _
 refine LdA.whole (r := (iw (l3 q)).map fun n => .int .u32 n) (by exact .head _) rfl ?_
 refine ⟨fun vs H => ∃ (i : Nat) (u : Value) (CN : Hp), vs = [u, .int .i64 (i : Int)] ∧ i ≤ 3 ∧ H = CN ++ ((b1, .cells (icells .u32 (iw (l3 q))) 234 (0, 0)) :: (wcell bw kp vl vm :: (X ++ (Y ++ C)))) ∧ SOwn 103 3 u (((l3 q).take i).map (got K.N)) CN, fun vs _ => 3 - nAt vs 1,
  JE.mk ⟨0, _, [], rfl, by omega, rfl, SOwn.nil _ _⟩, ?_⟩
 rintro w8 w9 H ⟨i, u, CN, hv, hi, rfl, hN⟩ gs
 simp only [List.cons.injEq, and_true] at hv
 obtain ⟨rfl, rfl⟩ := hv
 refine Bin.ltN (b := 3) (Br.dec (fun hlt => ?_) (fun hlt => ?_))
 ·have hlt' : i < (l3 q).length := hlt
  obtain ⟨r, hr⟩ : ∃ r, (l3 q)[i]? = some r := ⟨_, List.getElem?_eq_getElem hlt'⟩
  have hr32 := hq r (List.mem_of_getElem? hr)
  refine RunP.arrIx (t := 234) (e := 31) (q := .u32) (x := .tmp 10) (i := .tmp 11) (l := iw (l3 q)) (z := (r : Int)) (kd := .i64) (n := 3) (j := i) (by kernel_rfl) rfl rfl (by kernel_rfl) (by kernel_rfl) (by kernel_rfl) hlt (iw_get hr) ?_
  refine Nil.ptr (FAddr.mk (Ld.mk (v := ptr kp) (List.mem_append_right _ (.tail _ (.head _))) rfl ?_))
  refine CallF.rd (args := #[ptr kp, u32 r]) (.app (.cons (.cons (.app (.app .here))))) (kNode_ok h hr32) ?_
  rintro w rfl
  refine Ext.mk rfl (Ext.mk rfl ?_)
  intro b19 _
  refine St.whole (r := got K.N r) (by exact .head _) rfl (got_one _ _).1 (got_one _ _).2 ?_
  refine LdA.whole (r := got K.N r) (by exact .head _) (got_one _ _).1 ?_
  refine buildNode (got_one _ _).1 fun bx => ?_
  refine hN.appH (r := got K.N r) (.cons (.cons .left)) (by exact .head _) (got_one _ _).1 (got_one _ _).2 ⟨[.int .i64 0, .int .u32 0, .int .u32 0], rfl, rfl⟩ (by simp; omega) (by simp; omega) fun v' C' ho => ?_
  refine Bin.addN (b := 1) (by simp [lim]; omega) ?_
  refine Back.of (.skip .tail) ⟨i + 1, v', C', rfl, by omega, rfl, ?_⟩ (by simp only [nAt]; omega)
  rw [List.take_add_one, hr, List.map_append]; exact ho
 ·obtain rfl : i = 3 := by omega
  rw [List.take_of_length_le (by rw [hlen]; exact Nat.le_refl _)] at hN
  exact FnR.mk (.prep .tail _) ⟨CN, rfl, hN⟩
theorem atop_ok {n : Nat} {lv' : Nat → Nat} {N : Sto} {B : Hp} {vn : Value} {lvl : List Nat} (hw : wcell bw kp vl vm ∈ B) (hl : Ints .i64 B vl (iw lvl)) (hll : lvl.length = n) (hlv : ∀ v, v < n → lvl.getD v 0 = lv' v) (q : Q3) (hn : Sl 3 B vn ((l3 q).map (got N)))
  (h : WF n lv' N) (hL : Lev n lv') (hq : ∀ r ∈ l3 q, live N r) (hn64 : n ≤ 64) :
  Rd Tryz.prog 199 #[ptr bw, vn] B (fun r => ((∀ s ∈ l3 q, N s = none) ∧ r = .int .i64 (-1)) ∨ ∃ v, TopV n lv' N (l3 q) v ∧ r = .int .i64 (v : Int)) := by
 have hlen : (l3 q).length = 3 := rfl
 intro g
 refine L199_sound (R := FnR _) ?_
 unfold L199
 refine hn.lenS ?_
 rw [List.length_map, hlen]
 refine ⟨fun vs H => ∃ (i : Nat) (w : Int), vs = [.int .i64 w, .int .i64 (i : Int)] ∧ i ≤ 3 ∧ H = B ∧ (((∀ s ∈ (l3 q).take i, N s = none) ∧ w = -1) ∨ ∃ v : Nat, TopV n lv' N ((l3 q).take i) v ∧ w = (v : Int)), fun vs _ => 3 - nAt vs 1,
  JE.mk ⟨0, -1, rfl, by omega, rfl, .inl ⟨by simp, rfl⟩⟩, ?_⟩
 rintro w6 w7 H ⟨i, w, hv, hi, rfl, hw6⟩ gs
 simp only [List.cons.injEq, and_true] at hv
 obtain ⟨rfl, rfl⟩ := hv
 refine Bin.ltN (b := 3) (Br.dec (fun hlt => ?_) (fun hlt => ?_))
 ·intro J hJ
  have hlt' : i < (l3 q).length := hlt
  obtain ⟨r, hr⟩ : ∃ r, (l3 q)[i]? = some r := ⟨_, List.getElem?_eq_getElem hlt'⟩
  have htk : (l3 q).take (i + 1) = (l3 q).take i ++ [r] := by rw [List.take_add_one, hr]; rfl
  have fin : ∀ (w' : Int) (Z : Hp), ((∀ s ∈ (l3 q).take (i + 1), N s = none) ∧ w' = -1) ∨ (∃ v : Nat, TopV n lv' N ((l3 q).take (i + 1)) v ∧ w' = (v : Int)) → J [.int .i64 w'] (Z ++ H) := fun w' Z h' => hJ _ _ fun gs => by
   refine Bin.addN (b := 1) (by simp [lim]; omega) ?_
   exact Back.of .right ⟨i + 1, w', rfl, by omega, rfl, h'⟩ (by simp only [nAt]; omega)
  have hrow : ((l3 q).map (got N))[i]? = some (got N r) := by rw [List.getElem?_map, hr]; rfl
  refine IAddr.sl hn hrow fun p hp => ?_
  refine LdA.at hp (got_one _ _).1 (by decide) (fun _ h => h) ?_
  intro b16 _
  refine St.whole (r := got N r) (by exact .head _) rfl (got_one _ _).1 (got_one _ _).2 ?_
  have hlr := hq r (List.mem_of_getElem? hr)
  cases hN : N r with
  | none =>
   have hr2 : r < 2 := by rcases hlr with h2 | ⟨d, hd⟩; exact h2; rw [hN] at hd; cases hd
   have eg : got N r = [.int .i64 (-1), u32 r, u32 r] := got_const hr2
   rw [eg]
   refine FAddr.mk (Ld.mk (v := .int .i64 (-1)) (by exact .head _) rfl ?_)
   refine Bin.geq ?_
   refine Grp.mk false (fun h => by simp at h) (fun _ => rfl) fun gs => Br.no ?_
   refine JE.mk (fin w [_] ?_)
   rcases hw6 with ⟨h1, h2⟩ | ⟨v, h1, h2⟩
   ·refine .inl ⟨fun s hs => ?_, h2⟩
    rw [htk, List.mem_append, List.mem_singleton] at hs
    rcases hs with hs | rfl
    ·exact h1 s hs
    ·exact hN
   ·refine .inr ⟨v, ⟨h1.lt, ?_, fun s hs => ?_⟩, h2⟩
    ·obtain ⟨s, hs, x⟩ := h1.ex; exact ⟨s, by rw [htk]; exact List.mem_append_left _ hs, x⟩
    ·rw [htk, List.mem_append, List.mem_singleton] at hs
     rcases hs with hs | rfl
     ·exact h1.le s hs
     ·rw [dep_none hN]; exact Nat.le_of_lt (hL.lt v h1.lt)
  | some d =>
   have h2 := h.two hN
   have hdv := h.var hN
   have eg : got N r = nrow d := got_some hN h2
   rw [eg]
   refine FAddr.mk (Ld.mk (v := .int .i64 (d.v : Int)) (by exact .head _) rfl ?_)
   refine Bin.geq ?_
   rw [decide_eq_true (by omega)]
   have take_new : (∀ s ∈ (l3 q).take i, lv' d.v ≤ dep n lv' N s) → ∃ v : Nat, TopV n lv' N ((l3 q).take (i + 1)) v ∧ (d.v : Int) = (v : Int) := fun hle => by
    refine ⟨d.v, ⟨hdv, ⟨r, by rw [htk]; simp, d, hN, rfl⟩, fun s hs => ?_⟩, rfl⟩
    rw [htk, List.mem_append, List.mem_singleton] at hs
    rcases hs with hs | rfl
    ·exact hle s hs
    ·rw [dep_some hN]; exact Nat.le_refl _
   rcases hw6 with ⟨h1, rfl⟩ | ⟨v, h1, rfl⟩
   ·refine Grp.and true (fun _ => ?_) rfl fun gs => Br.yes ?_
    ·refine Bin.lss ?_
     exact Grp.mk true (fun h => by simp at h) (fun _ => rfl) fun gs => ⟨rfl, rfl⟩
    ·refine FAddr.mk (Ld.mk (v := .int .i64 (d.v : Int)) (by exact .head _) rfl ?_)
     refine JE.mk (fin (d.v : Int) [_] (.inr (take_new fun s hs => ?_)))
     rw [dep_none (h1 s hs)]; exact Nat.le_of_lt (hL.lt _ hdv)
   ·have g1 : (iw lvl)[d.v]? = some ((lv' d.v : Nat) : Int) := by rw [← hlv d.v hdv]; exact iw_getD (by omega)
    have g2 : (iw lvl)[v]? = some ((lv' v : Nat) : Int) := by rw [← hlv v h1.lt]; exact iw_getD (by have := h1.lt; omega)
    refine Grp.and (decide (lv' d.v < lv' v)) (fun _ => ?_) rfl fun gs => ?_
    ·refine Bin.lss ?_
     rw [decide_eq_false (by omega)]
     refine Grp.or (decide (lv' d.v < lv' v)) (fun _ => ?_) rfl fun gs => ⟨rfl, by simp⟩
     refine Nil.ptr (FAddr.mk (Ld.mk (v := vl) (.tail _ hw) rfl ?_))
     refine FAddr.mk (Ld.mk (v := .int .i64 (d.v : Int)) (by exact .head _) rfl ?_)
     refine hl.ld g1 (fun _ h => .tail _ h) ?_
     refine Nil.ptr (FAddr.mk (Ld.mk (v := vl) (.tail _ hw) rfl ?_))
     refine hl.ld g2 (fun _ h => .tail _ h) ?_
     exact Bin.ltN ⟨rfl, rfl⟩
    ·rw [Bool.true_and]
     refine Br.dec (fun hlt2 => ?_) (fun hlt2 => ?_)
     ·refine FAddr.mk (Ld.mk (v := .int .i64 (d.v : Int)) (by exact .head _) rfl ?_)
      refine JE.mk (fin (d.v : Int) [_] (.inr (take_new fun s hs => ?_)))
      have := h1.le s hs; omega
     ·refine JE.mk (fin (v : Int) [_] (.inr ⟨v, ⟨h1.lt, ?_, fun s hs => ?_⟩, rfl⟩))
      ·obtain ⟨s, hs, x⟩ := h1.ex; exact ⟨s, by rw [htk]; exact List.mem_append_left _ hs, x⟩
      ·rw [htk, List.mem_append, List.mem_singleton] at hs
       rcases hs with hs | rfl
       ·exact h1.le s hs
       ·rw [dep_some hN]; omega
 ·obtain rfl : i = 3 := by omega
  rw [List.take_of_length_le (by rw [hlen]; exact Nat.le_refl _)] at hw6
  refine RdR.mk (.refl _) ?_
  rcases hw6 with ⟨h1, rfl⟩ | ⟨v, h1, rfl⟩
  ·exact .inl ⟨h1, rfl⟩
  ·exact .inr ⟨v, h1, rfl⟩
theorem anode_same (r v : Nat) (B : Hp) : Rd Tryz.prog 200 #[ptr bw, .int .i64 (v : Int), u32 r, u32 r] B (· = .tuple #[u32 r, .int .i64 0]) := by
 intro g
 refine L200_sound (R := FnR _) ?_
 unfold L200
 exact Bin.eqD (Br.decT rfl (RdR.mk (.refl _) rfl))
theorem anode_ok {CM X : Hp} {made : List Nat} (h : KSt kp K S ord lev tr C) {v lo hi : Nat} (hv : v < K.n) (hlo : live K.N lo) (hhi : live K.N hi) (hne : lo ≠ hi) (hlt : lv lev v < dep K.n (lv lev) K.N lo ∧ lv lev v < dep K.n (lv lev) K.N hi)
  (hM : IOwn 31 .u32 vm (iw made) CM) (hf : ∀ s, K.hold s < 65535) (hlen : made.length ≤ 1099511627776) :
  Fc Tryz.prog 200 #[ptr bw, .int .i64 (v : Int), u32 lo, u32 hi] (wcell bw kp vl vm :: (X ++ (CM ++ C))) (fun w H =>
   (∃ r K' S' C' vm' CM', w = .tuple #[u32 r, .int .i64 0] ∧ H = wcell bw kp vl vm' :: (X ++ (CM' ++ C')) ∧ KSt kp K' S' ord lev [] C' ∧ MakeR K S K' S' (ite S ⟨v, lo, hi⟩) r ∧ IOwn 31 .u32 vm' (iw (made ++ [r])) CM') ∨
   (w = .tuple #[u32 0, .int .i64 9] ∧ H = wcell bw kp vl vm :: (X ++ (CM ++ C)) ∧ K.cap ≤ K.used ∧ K.T ⟨v, lo, hi⟩ = none)) := by
 intro g
 refine L200_sound (R := FnR _) ?_
 unfold L200
 refine Bin.eqN (Br.decF hne ?_)
 refine Nil.ptr (FAddr.mk (Ld.mk (v := ptr kp) (by exact .head _) rfl ?_))
 refine CallF.fn (.cons (.app (.app .here))) (make_ok h hv hlo hhi (.inr hlt)) ?_
 rintro w C' (⟨r, K', S', rfl, hK', mk⟩ | ⟨r, rfl, _, _, _, hfull, _⟩ | ⟨rfl, rfl, hcap, _, hT⟩)
 ·refine Ext.mk rfl (Ext.mk rfl ?_)
  intro J hJ
  refine Bin.eqD (Br.decT rfl ?_)
  refine Nil.ptr (FAddr.mk (Ld.mk (v := vm) (by exact .head _) rfl ?_))
  refine BuildSl.int (e := 31) (by kernel_rfl) (by kernel_rfl) (by kernel_rfl) fun bx => ?_
  refine hM.appH (x := (r : Int)) (.cons (.cons (.app .left))) (by exact .head _) (by rw [iw_length]; omega) (by rw [iw_length]; omega) fun vm' CM' hM' => ?_
  have h1 := hM'.one
  refine Nil.ptr (FAddr.mk (St.one (by exact .tail (.head _)) h1 (by simp) rfl ?_))
  refine FnR.mk .tail (.inl ⟨r, K', S', C', vm', CM', rfl, rfl, hK', mk, ?_⟩)
  rw [iw_append]; exact hM'
 ·have := hf r; omega
 ·refine Ext.mk rfl (Ext.mk rfl ?_)
  intro J hJ
  refine Bin.eqD (Br.decF (by decide) ?_)
  refine Bin.eqD (Br.decF (by decide) ?_)
  exact JE.mk (hJ _ fun gs => FnR.here (.inr ⟨rfl, rfl, hcap, hT⟩))
end
end Go.Proofs
set_option maxRecDepth 100000
namespace Go.Proofs
open Go Go.Sx
open Bdd
structure Went (K0 : Kd) (S0 : Nat → Bdd.Fn) (U : Bdd.Fn → Prop) (ord : List Nat) (K : Kd) (S : Nat → Bdd.Fn) (made : List Nat) : Prop where
 n : K.n = K0.n
 cap : K.cap = K0.cap
 N : ∀ s d, K0.N s = some d → K.N s = some d
 fn : ∀ s, live K0.N s → S s = S0 s
 hold : ∀ s, K.hold s = K0.hold s + made.count s
 two : ∀ s ∈ made, 2 ≤ s
 U : ∀ g, NodeSet K0.n ord (K.held S) g → U g
theorem Went.refl {K0 : Kd} {S0 : Nat → Bdd.Fn} {U : Bdd.Fn → Prop} {ord : List Nat} (h : ∀ g, NodeSet K0.n ord (K0.held S0) g → U g) : Went K0 S0 U ord K0 S0 [] := ⟨rfl, rfl, fun _ _ h => h, fun _ _ => rfl, fun s => by simp, by simp, h⟩
def Fits (U : Bdd.Fn → Prop) (cap : Nat) : Prop := ∃ ku, Cnt U ku ∧ ku + 2 ≤ cap
section
variable {kp : Nat} {K0 K : Kd} {S0 S : Nat → Bdd.Fn} {U : Bdd.Fn → Prop} {ord lev tr : List Nat} {made : List Nat} {C : Hp}
theorem Went.made_live (h : Went K0 S0 U ord K S made) (hK : KSt kp K S ord lev tr C) {s : Nat} (hs : s ∈ made) : live K.N s := by
 refine .inr (hK.ok.mid.held s ?_)
 rw [h.hold]
 have := List.count_pos_iff.2 hs
 omega
theorem Went.live (h : Went K0 S0 U ord K S made) {s : Nat} (hs : live K0.N s) : live K.N s := live_mono h.N hs
theorem Went.step (h : Went K0 S0 U ord K S made) (hK : KSt kp K S ord lev tr C) {K' : Kd} {S' : Nat → Bdd.Fn} {f : Bdd.Fn} {r : Nat} (m : MakeR K S K' S' f r) (h2 : 2 ≤ r) (hU : ∀ g, NodeSet K0.n ord (fun g => g = f) g → U g) : Went K0 S0 U ord K' S' (made ++ [r]) := by
 refine ⟨m.n.trans h.n, m.cap.trans h.cap, fun s d hd => m.N s d (h.N s d hd), fun s hs => (m.fn s (h.live hs)).trans (h.fn s hs), fun s => ?_, fun s hs => ?_, fun g hg => ?_⟩
 ·rw [m.hold, List.count_append, List.count_singleton, h.hold]
  by_cases e : s = r
  ·subst e; simp [h2]; omega
  ·have : (r == s) = false := by simpa using fun e' => e e'.symm
   simp [e, this]
 ·rcases List.mem_append.1 hs with hs | hs
  ·exact h.two s hs
  ·simp at hs; subst hs; exact h2
 ·have hgr : ∀ g, K'.held S' g → K.held S g ∨ g = f := by
   rintro g ⟨s, hs, rfl⟩
   have hs' : K'.hold s ≠ 0 := hs
   rw [m.hold] at hs'
   by_cases e : s = r ∧ 2 ≤ r
   ·right; rw [e.1]; exact m.is
   ·rw [if_neg e] at hs'
    exact .inl ⟨s, hs', m.fn s (.inr (hK.ok.mid.held s hs'))⟩
  rcases (nodes_or g).1 (nodesMono hgr hg) with h1 | h1
  ·exact h.U g h1
  ·exact hU g h1
end
def clo197 (b13 b1 b5 b16 : Nat) : Value := .func (.func 197) #[] #[ptr b13, ptr b1, ptr b5, ptr b16]
structure LeafOk (fv : Value) (LB : Hp) (t : Bool → Bool → Bool → Bool) : Prop where
 is : ∃ f first cap, fv = .func (.func f) first cap ∧ callable Tryz.prog f = true ∧ ∀ x y z : Bool, Rd Tryz.prog f (first ++ #[.bool x, .bool y, .bool z] ++ cap) LB (· = .bool (t x y z))
def Knows (K0 : Kd) (S0 S : Nat → Bdd.Fn) (t : Bool → Bool → Bool → Bool) (made : List Nat) (m : List (Q3 × Nat)) : Prop := ∀ y ∈ m, S y.2 = evq t S0 (l3 y.1) ∧ (y.2 < 2 ∨ y.2 ∈ made)
section
variable {kp b13 b1 b5 b16 bm bw : Nat} {vl fv : Value} {LB CL : Hp} {lvl : List Nat} {K0 : Kd} {S0 : Nat → Bdd.Fn} {U : Bdd.Fn → Prop} {ord lev : List Nat} {t : Bool → Bool → Bool → Bool}
abbrev gHp (b13 b1 b5 b16 bm bw kp : Nat) (fv vl vm : Value) (LB CL CM C : Hp) (es : Array MapEntry) (ck : Nat) : Hp :=
 (b13, .cells #[.map (some bm)] 257 (0, 0)) :: (b1, .cells #[ptr bw] 229 (0, 0)) :: (b5, .cells #[fv] 236 (0, 0)) :: (b16, .cells #[clo197 b13 b1 b5 b16] 258 (0, 0)) ::
 (LB ++ ((bm, .map es ck) :: (wcell bw kp vl vm :: (CL ++ (CM ++ C)))))
structure Stp (kp : Nat) (K0 : Kd) (S0 : Nat → Bdd.Fn) (U : Bdd.Fn → Prop) (ord lev tr0 : List Nat) (t : Bool → Bool → Bool → Bool) (K : Kd) (S : Nat → Bdd.Fn) (made : List Nat) (es : Array MapEntry) (ck : Nat) (vm : Value) (CM C : Hp) : Prop where
 ks : ∃ tr, KSt kp K S ord lev tr C ∧ (tr = [] ∨ (tr = tr0 ∧ made = []))
 went : Went K0 S0 U ord K S made
 mde : IOwn 31 .u32 vm (iw made) CM
 kn : ∃ m, Ents kq vrR es ck m ∧ Knows K0 S0 S t made m
structure After' (K : Kd) (S : Nat → Bdd.Fn) (made : List Nat) (K' : Kd) (S' : Nat → Bdd.Fn) (made' : List Nat) (c : Nat) : Prop where
 N : ∀ s d, K.N s = some d → K'.N s = some d
 fn : ∀ s, live K.N s → S' s = S s
 ext : ∃ ext, made' = made ++ ext ∧ ext.length ≤ c
theorem After'.refl {K : Kd} {S : Nat → Bdd.Fn} {made : List Nat} {c : Nat} : After' K S made K S made c := ⟨fun _ _ h => h, fun _ _ => rfl, [], by simp, Nat.zero_le _⟩
section
variable {K K' K2 : Kd} {S S' S2 : Nat → Bdd.Fn} {made made' made2 : List Nat} {c c' : Nat}
theorem After'.weak (h : After' K S made K' S' made' c) (hc : c ≤ c') : After' K S made K' S' made' c' := ⟨h.N, h.fn, let ⟨e, h1, h2⟩ := h.ext; ⟨e, h1, by omega⟩⟩
theorem After'.mem {s : Nat} (h : After' K S made K' S' made' c) (hs : s ∈ made) : s ∈ made' := by
 obtain ⟨e, rfl, _⟩ := h.ext; exact List.mem_append_left _ hs
theorem After'.count (h : After' K S made K' S' made' c) (s : Nat) : made'.count s ≤ made.count s + c ∧ made'.length ≤ made.length + c := by
 obtain ⟨e, rfl, he⟩ := h.ext
 have := List.count_le_length (a := s) (l := e)
 rw [List.count_append, List.length_append]; omega
theorem After'.trans (h : After' K S made K' S' made' c) (h' : After' K' S' made' K2 S2 made2 c') : After' K S made K2 S2 made2 (c + c') := by
 obtain ⟨e, rfl, he⟩ := h.ext
 obtain ⟨e', rfl, he'⟩ := h'.ext
 exact ⟨fun s d hd => h'.N s d (h.N s d hd), fun s hs => (h'.fn s (live_mono h.N hs)).trans (h.fn s hs), e ++ e', by rw [List.append_assoc], by rw [List.length_append]; omega⟩
end
theorem mset_mem {κ β : Type} [DecidableEq κ] {m : List (κ × β)} {k : κ} {x : β} {y : κ × β} (h : y ∈ mset m k x) : y = (k, x) ∨ y ∈ m := by
 unfold mset at h
 split at h
 ·obtain ⟨z, hz, rfl⟩ := List.mem_map.1 h
  split
  ·exact .inl rfl
  ·exact .inr hz
 ·rcases List.mem_append.1 h with h | h
  ·exact .inr h
  ·simp at h; exact .inl h
def q3of (N : Sto) (v : Nat) (b : Bool) (q : Q3) : Q3 := (cofr N v b q.1, cofr N v b q.2.1, cofr N v b q.2.2)
theorem l3_q3of (N : Sto) (v : Nat) (b : Bool) (q : Q3) : l3 (q3of N v b q) = cofq N v b (l3 q) := rfl
theorem got_same {N N' : Sto} (hN : ∀ s d, N s = some d → N' s = some d) (h2 : ∀ r, r < 2 → N r = none) (h2' : ∀ r, r < 2 → N' r = none) {r : Nat} (hr : live N r) : got N' r = got N r := by
 rcases hr with hr | ⟨d, hd⟩
 ·rw [got_const hr, got_const hr]
 ·by_cases h : r < 2
  ·rw [h2 r h] at hd; cases hd
  ·rw [got_some hd (by omega), got_some (hN r d hd) (by omega)]
def Ans (kp b13 b1 b5 b16 bm bw : Nat) (fv vl : Value) (LB CL : Hp) (K0 : Kd) (S0 : Nat → Bdd.Fn) (U : Bdd.Fn → Prop) (ord lev tr0 : List Nat) (t : Bool → Bool → Bool → Bool) (ql : List Nat) (c : Nat) (K : Kd) (S : Nat → Bdd.Fn) (made : List Nat) (r : Value) (H : Hp) : Prop :=
 ∃ K' S' made' es' ck' vm' CM' C', H = gHp b13 b1 b5 b16 bm bw kp fv vl vm' LB CL CM' C' es' ck' ∧ Stp kp K0 S0 U ord lev tr0 t K' S' made' es' ck' vm' CM' C' ∧ After' K S made K' S' made' c ∧
   ((∃ x : Nat, r = .tuple #[u32 x, .int .i64 0] ∧ S' x = evq t S0 ql ∧ (x < 2 ∨ x ∈ made')) ∨ (r = .tuple #[u32 0, .int .i64 9] ∧ ¬ Fits U K0.cap))
theorem go1_ok (hcl : callable Tryz.prog 197 = true) (hLf : LeafOk fv LB t) (hCL : IOwn 3 .i64 vl (iw lvl) CL) (hll : lvl.length = K0.n) (hlv : ∀ v, v < K0.n → lvl.getD v 0 = lv lev v) (hn64 : K0.n ≤ 64) (hW0 : WF K0.n (lv lev) K0.N) (hI0 : Interp K0.N S0) (hL0 : Lev K0.n (lv lev)) (h32 : ∀ r, live K0.N r → r < 4294967296) {tr0 : List Nat} :
  ∀ (ql : List Nat) (c : Nat), Tree K0.n (lv lev) K0.N ql c → ∀ (q : Q3), l3 q = ql → ∀ (K : Kd) (S : Nat → Bdd.Fn) (made : List Nat) (es : Array MapEntry) (ck : Nat) (vm : Value) (CM C : Hp), Stp kp K0 S0 U ord lev tr0 t K S made es ck vm CM C →
  (∀ r ∈ ql, live K0.N r) → (∀ g, NodeSet K0.n ord (fun g => g = evq t S0 ql) g → U g) → (∀ s, K.hold s + c < 65535) → made.length + c ≤ 1048576 →
  Fc Tryz.prog 197 #[kq q, ptr b13, ptr b1, ptr b5, ptr b16] (gHp b13 b1 b5 b16 bm bw kp fv vl vm LB CL CM C es ck) (fun r H => Ans kp b13 b1 b5 b16 bm bw fv vl LB CL K0 S0 U ord lev tr0 t ql c K S made r H) := by
 have hc0 : ∀ r, r < 2 → K0.N r = none := fun r hr => hW0.const hr
 intro ql c hT
 induction hT with
 | @leaf ql hnone =>
  intro q hq K S made es ck vm CM C hS hlive hU hB hM g
  subst hq
  obtain ⟨tr, hK, htr⟩ := hS.ks
  obtain ⟨m, hE, hkn⟩ := hS.kn
  have hcK : ∀ r, r < 2 → K.N r = none := fun r hr => hK.ok.wf.const hr
  refine L197_sound (R := FnR _) ?_
  unfold L197
  intro bq _
  refine Ld.mk (v := .map (some bm)) (by exact .tail _ (.head _)) rfl ?_
  refine LdA.whole (r := (iw (l3 q)).map fun n => .int .u32 n) (by exact .head _) rfl ?_
  have hmm : (bm, Obj.map es ck) ∈ (bq, Obj.cells (icells .u32 (iw (l3 q))) 234 (0, 0)) :: gHp b13 b1 b5 b16 bm bw kp fv vl vm LB CL CM C es ck := .tail _ (.tail _ (.tail _ (.tail _ (.tail _ (List.mem_append_right _ (.head _))))))
  cases hg : mget m q with
  | some x =>
   refine Ents.hitS (ke := kq) (k := q) kq_eq kq_chk hE hmm hg ?_
   rintro v rfl
   obtain ⟨h1, h2⟩ := hkn _ ((mget_mem hE.nd).1 hg)
   refine Ext.mk rfl (Ext.mk rfl (Br.yes ?_))
   exact FnR.mk .tail ⟨K, S, made, es, ck, vm, CM, C, rfl, hS, .refl, .inl ⟨x, rfl, h1, h2⟩⟩
  | none =>
   refine Ents.missS (ke := kq) (k := q) kq_eq kq_chk hE hmm hg ?_
   refine Ext.mk rfl (Ext.mk rfl (Br.no ?_))
   refine Ld.mk (v := ptr bw) (by exact .tail _ (.tail _ (.head _))) rfl ?_
   refine LdA.whole (r := (iw (l3 q)).map fun n => .int .u32 n) (by exact .head _) rfl ?_
   refine CallF.fn (args := #[ptr bw, kq q]) (.cons (.cons (.cons (.cons (.cons (.app (.cons .here))))))) (anodes_ok hK.rep q (fun r hr => h32 r (hlive r hr))) ?_
   rintro vn H ⟨CN, rfl, hN⟩
   have eN : (l3 q).map (got K.N) = (l3 q).map (got K0.N) := List.map_congr_left fun r hr => got_same hS.went.N hc0 hcK (hlive r hr)
   rw [eN] at hN
   refine Ld.mk (v := ptr bw) (by exact .tail _ (.tail _ (.head _))) rfl ?_
   refine CallF.rd .here (atop_ok (bw := bw) (kp := kp) (vl := vl) (vm := vm) (lvl := lvl) (n := K0.n) (lv' := lv lev) (N := K0.N) (.tail _ (.tail _ (.tail _ (.tail _ (.tail _ (List.mem_append_right _ (.tail _ (List.mem_append_right _ (.head _))))))))) (hCL.ints.mono fun _ h => .tail _ (.tail _ (.tail _ (.tail _ (.tail _ (List.mem_append_right _ (.tail _ (List.mem_append_right _ (.tail _ (List.mem_append_left _ h)))))))))) hll hlv q ((Sl.ofOwn hN (by decide)).mono fun _ h => .tail _ (.tail _ (.tail _ (.tail _ (.tail _ (List.mem_append_right _ (.tail _ (List.mem_append_left _ h)))))))) hW0 hL0 hlive hn64) ?_
   rintro w (⟨_, rfl⟩ | ⟨v, hv, rfl⟩)
   rotate_left
   ·obtain ⟨s, hs, d, hd, _⟩ := hv.ex
    rw [hnone s hs] at hd; cases hd
   refine Bin.lss (Br.decT (by decide) ?_)
   have hcst : ∀ r ∈ l3 q, r < 2 := fun r hr => by
    rcases hlive r hr with h | ⟨d, hd⟩
    ·exact h
    ·rw [hnone r hr] at hd; cases hd
   obtain ⟨f, first, cap, hfv, hfc, hL⟩ := hLf.is
   refine Ld.mk (v := fv) (by exact .tail _ (.tail _ (.tail _ (.head _)))) rfl ?_
   refine AAddr.nat (j := 0) (by decide) (Ld.mk (v := .int .u32 ((q.1 : Nat) : Int)) (by exact .head _) rfl ?_)
   refine Bin.eqN (b := 1) ?_
   refine AAddr.nat (j := 1) (by decide) (Ld.mk (v := .int .u32 ((q.2.1 : Nat) : Int)) (by exact .head _) rfl ?_)
   refine Bin.eqN (b := 1) ?_
   refine AAddr.nat (j := 2) (by decide) (Ld.mk (v := .int .u32 ((q.2.2 : Nat) : Int)) (by exact .head _) rfl ?_)
   refine Bin.eqN (b := 1) ?_
   refine CallV.of hfv hfc ?_
   refine CallF.rd (.cons (.cons (.cons (.cons (.cons .left))))) (hL _ _ _) ?_
   rintro w rfl
   have hev := fun x => evq_const hI0 (q := l3 q) rfl hcst t x
   have hint := hK.ok.mid.int
   have hdrop : Ent ((bq, Obj.cells (icells .u32 (iw (l3 q))) 234 (0, 0)) :: (b13, .cells #[.map (some bm)] 257 (0, 0)) :: (b1, .cells #[ptr bw] 229 (0, 0)) :: (b5, .cells #[fv] 236 (0, 0)) :: (b16, .cells #[clo197 b13 b1 b5 b16] 258 (0, 0)) :: (LB ++ ((bm, .map es ck) :: (CN ++ (wcell bw kp vl vm :: (CL ++ (CM ++ C))))))) (gHp b13 b1 b5 b16 bm bw kp fv vl vm LB CL CM C es ck) :=
    .skip (.cons (.cons (.cons (.cons (.prep (.cons .right) _)))))
   refine Br.mk (fun hb => ?_) (fun hb => ?_)
   ·refine FnR.mk hdrop ⟨K, S, made, es, ck, vm, CM, C, rfl, hS, .refl, .inl ⟨1, rfl, funext fun x => ?_, .inl (by omega)⟩⟩
    rw [hint.one, hev x]; exact hb.symm
   ·refine FnR.mk hdrop ⟨K, S, made, es, ck, vm, CM, C, rfl, hS, .refl, .inl ⟨0, rfl, funext fun x => ?_, .inl (by omega)⟩⟩
    rw [hint.zero, hev x]; exact hb.symm
 | @node ql v a b hv ha hb iha ihb =>
  intro q hq K S made es ck vm CM C hS hlive hU hB hM g
  subst hq
  obtain ⟨tr, hK, htr⟩ := hS.ks
  obtain ⟨m, hE, hkn⟩ := hS.kn
  have hcK : ∀ r, r < 2 → K.N r = none := fun r hr => hK.ok.wf.const hr
  refine L197_sound (R := FnR _) ?_
  unfold L197
  intro bq _
  refine Ld.mk (v := .map (some bm)) (by exact .tail _ (.head _)) rfl ?_
  refine LdA.whole (r := (iw (l3 q)).map fun n => .int .u32 n) (by exact .head _) rfl ?_
  have hmm : (bm, Obj.map es ck) ∈ (bq, Obj.cells (icells .u32 (iw (l3 q))) 234 (0, 0)) :: gHp b13 b1 b5 b16 bm bw kp fv vl vm LB CL CM C es ck := .tail _ (.tail _ (.tail _ (.tail _ (.tail _ (List.mem_append_right _ (.head _))))))
  cases hg : mget m q with
  | some x =>
   refine Ents.hitS (ke := kq) (k := q) kq_eq kq_chk hE hmm hg ?_
   rintro v rfl
   obtain ⟨h1, h2⟩ := hkn _ ((mget_mem hE.nd).1 hg)
   refine Ext.mk rfl (Ext.mk rfl (Br.yes ?_))
   exact FnR.mk .tail ⟨K, S, made, es, ck, vm, CM, C, rfl, hS, .refl, .inl ⟨x, rfl, h1, h2⟩⟩
  | none =>
  refine Ents.missS (ke := kq) (k := q) kq_eq kq_chk hE hmm hg ?_
  refine Ext.mk rfl (Ext.mk rfl (Br.no ?_))
  refine Ld.mk (v := ptr bw) (by exact .tail _ (.tail _ (.head _))) rfl ?_
  refine LdA.whole (r := (iw (l3 q)).map fun n => .int .u32 n) (by exact .head _) rfl ?_
  refine CallF.fn (args := #[ptr bw, kq q]) (.cons (.cons (.cons (.cons (.cons (.app (.cons .here))))))) (anodes_ok hK.rep q (fun r hr => h32 r (hlive r hr))) ?_
  rintro vn H ⟨CN, rfl, hN⟩
  have eN : (l3 q).map (got K.N) = (l3 q).map (got K0.N) := List.map_congr_left fun r hr => got_same hS.went.N hc0 hcK (hlive r hr)
  rw [eN] at hN
  refine Ld.mk (v := ptr bw) (by exact .tail _ (.tail _ (.head _))) rfl ?_
  refine CallF.rd .here (atop_ok (bw := bw) (kp := kp) (vl := vl) (vm := vm) (lvl := lvl) (n := K0.n) (lv' := lv lev) (N := K0.N) (.tail _ (.tail _ (.tail _ (.tail _ (.tail _ (List.mem_append_right _ (.tail _ (List.mem_append_right _ (.head _))))))))) (hCL.ints.mono fun _ h => .tail _ (.tail _ (.tail _ (.tail _ (.tail _ (List.mem_append_right _ (.tail _ (List.mem_append_right _ (.tail _ (List.mem_append_left _ h)))))))))) hll hlv q ((Sl.ofOwn hN (by decide)).mono fun _ h => .tail _ (.tail _ (.tail _ (.tail _ (.tail _ (List.mem_append_right _ (.tail _ (List.mem_append_left _ h)))))))) hW0 hL0 hlive hn64) ?_
  rintro w (⟨hall, _⟩ | ⟨v', hv', rfl⟩)
  ·obtain ⟨s, hs, d, hd, _⟩ := hv.ex
   rw [hall s hs] at hd; cases hd
  obtain rfl : v' = v := hv'.uniq hL0 hv
  refine Bin.lss (Br.decF (by omega) ?_)
  refine DR.of (R := [(bq, Obj.cells (icells .u32 (iw (l3 q))) 234 (0, 0))]) (Ent.left (A := [_])) ?_
  refine LdA.whole (r := (iw (l3 q)).map fun n => .int .u32 n) (by exact .head _) rfl ?_
  refine LdA.whole (r := (iw (l3 q)).map fun n => .int .u32 n) (by exact .head _) rfl ?_
  intro b31 _ b33 _ F35
  have hone : ∀ x ∈ (iw (l3 q)).map fun n => Value.int .u32 n, x.oneCell' = true := fun x hx => by obtain ⟨n, _, rfl⟩ := List.mem_map.1 hx; rfl
  refine St.whole (r := (iw (l3 q)).map fun n => .int .u32 n) (by exact .tail (.head _)) rfl rfl hone ?_
  refine ⟨.skip (.skip (Ent.left (A := [_]))), ?_⟩
  intro F37
  refine St.whole (r := (iw (l3 q)).map fun n => .int .u32 n) (by exact .head _) rfl rfl hone ?_
  refine hN.lenS ?_
  rw [List.length_map]
  refine ⟨fun vs H => ∃ i : Nat, vs = [.int .i64 (i : Int)] ∧ i ≤ 3 ∧ H = (b33, .cells (icells .u32 (iw (mixq K0.N v' true (l3 q) i))) 234 (0, 0)) :: (b31, .cells (icells .u32 (iw (mixq K0.N v' false (l3 q) i))) 234 (0, 0)) ::
    (bq, Obj.cells (icells .u32 (iw (l3 q))) 234 (0, 0)) :: (b13, .cells #[.map (some bm)] 257 (0, 0)) :: (b1, .cells #[ptr bw] 229 (0, 0)) :: (b5, .cells #[fv] 236 (0, 0)) :: (b16, .cells #[clo197 b13 b1 b5 b16] 258 (0, 0)) :: (LB ++ ((bm, .map es ck) :: (CN ++ (wcell bw kp vl vm :: (CL ++ (CM ++ C)))))),
   fun vs _ => 3 - nAt vs 0, JE.mk ⟨0, rfl, by omega, by rw [mixq_zero, mixq_zero]; rfl⟩, ?_⟩
  rintro w44 H ⟨i, hvs, hi, rfl⟩ gs
  simp only [List.cons.injEq, and_true] at hvs
  subst hvs
  have hl3 : (l3 q).length = 3 := rfl
  refine Bin.ltN (b := 3) (Br.dec (fun hlt => ?_) (fun hlt => ?_))
  ·-- a part of the question
   intro J hJ
   obtain ⟨r, hr⟩ : ∃ r, (l3 q)[i]? = some r := ⟨_, List.getElem?_eq_getElem (show i < (l3 q).length from hlt)⟩
   have hlr := hlive r (List.mem_of_getElem? hr)
   have hrow : ((l3 q).map (got K0.N))[i]? = some (got K0.N r) := by rw [List.getElem?_map, hr]; rfl
   refine IAddr.sl (Sl.ofOwn hN (by decide)) hrow fun p hp => ?_
   refine LdA.at hp (got_one _ _).1 (by decide) (fun _ h => .tail _ (.tail _ (.tail _ (.tail _ (.tail _ (.tail _ (.tail _ (List.mem_append_right _ (.tail _ (List.mem_append_left _ h)))))))))) ?_
   intro b52 _
   refine St.whole (r := got K0.N r) (by exact .head _) rfl (got_one _ _).1 (got_one _ _).2 ?_
   have stay : cofr K0.N v' false r = r → cofr K0.N v' true r = r → ∀ Z : Hp, JE J [] (Z ++ ((b33, .cells (icells .u32 (iw (mixq K0.N v' true (l3 q) i))) 234 (0, 0)) :: (b31, .cells (icells .u32 (iw (mixq K0.N v' false (l3 q) i))) 234 (0, 0)) ::
    (bq, Obj.cells (icells .u32 (iw (l3 q))) 234 (0, 0)) :: (b13, .cells #[.map (some bm)] 257 (0, 0)) :: (b1, .cells #[ptr bw] 229 (0, 0)) :: (b5, .cells #[fv] 236 (0, 0)) :: (b16, .cells #[clo197 b13 b1 b5 b16] 258 (0, 0)) :: (LB ++ ((bm, .map es ck) :: (CN ++ (wcell bw kp vl vm :: (CL ++ (CM ++ C)))))))) := fun e1 e2 Z => by
    refine JE.of .right (hJ _ fun gs => ?_)
    refine Bin.addN (b := 1) (by simp [lim]; omega) ?_
    exact Back.of (.refl _) ⟨i + 1, rfl, by omega, by rw [mixq_stay hr e1, mixq_stay hr e2]⟩ (by simp only [nAt]; omega)
   cases hNr : K0.N r with
   | none =>
    have hr2 : r < 2 := by rcases hlr with h2 | ⟨d, hd⟩; exact h2; rw [hNr] at hd; cases hd
    rw [got_const hr2]
    refine FAddr.mk (Ld.mk (v := .int .i64 (-1)) (by exact .head _) rfl ?_)
    refine Bin.eqD (Br.decF (by omega) ?_)
    have ec : ∀ b, cofr K0.N v' b r = r := fun b => by unfold cofr; rw [hNr]
    exact stay (ec false) (ec true) [_]
   | some d =>
    have h2 := hW0.two hNr
    rw [got_some hNr h2]
    refine FAddr.mk (Ld.mk (v := .int .i64 (d.v : Int)) (by exact .head _) rfl ?_)
    refine Bin.eqN (Br.dec (fun hdv => ?_) (fun hdv => ?_))
    ·refine DR.of (R := [(b52, Obj.cells (nrow d).toArray 103 (0, 0))]) (Ent.left (A := [_])) ?_
     refine FAddr.mk (Ld.mk (v := u32 d.lo) (by exact .head _) rfl ?_)
     refine FAddr.mk (Ld.mk (v := u32 d.hi) (by exact .head _) rfl ?_)
     have elo : cofr K0.N v' false r = d.lo := by unfold cofr; rw [hNr]; simp [hdv]
     have ehi : cofr K0.N v' true r = d.hi := by unfold cofr; rw [hNr]; simp [hdv]
     refine AAddr.nat hlt ?_
     refine St.ints (l := iw (mixq K0.N v' false (l3 q) i)) (x := (d.lo : Int)) (by exact .tail (.tail (.head _))) (by rw [iw_length, mixq_len (by omega)]; omega) ?_
     refine ⟨Ent.left (A := [_]), ?_⟩
     refine AAddr.nat hlt ?_
     refine St.ints (l := iw (mixq K0.N v' true (l3 q) i)) (x := (d.hi : Int)) (by exact .tail (.head _)) (by rw [iw_length, mixq_len (by omega)]; omega) ?_
     rw [iw_set, iw_set, ← elo, ← ehi, mixq_step hr, mixq_step hr]
     refine JE.of .tail (hJ _ fun gs => ?_)
     refine Bin.addN (b := 1) (by simp [lim]; omega) ?_
     exact Back.of (.refl _) ⟨i + 1, rfl, by omega, rfl⟩ (by simp only [nAt]; omega)
    ·have ec : ∀ b, cofr K0.N v' b r = r := fun b => by unfold cofr; rw [hNr]; simp [hdv]
     exact stay (ec false) (ec true) [_]
  obtain rfl : i = 3 := by omega
  have em : ∀ b, mixq K0.N v' b (l3 q) 3 = l3 (q3of K0.N v' b q) := fun b => by rw [l3_q3of, ← mixq_all]; rfl
  rw [em, em]
  obtain ⟨f1, f2⟩ := cofq_ok (S := S0) hW0 hL0 hI0 hlive hv false
  obtain ⟨t1, t2⟩ := cofq_ok (S := S0) hW0 hL0 hI0 hlive hv true
  have ec : ∀ b, evq t S0 (cofq K0.N v' b (l3 q)) = fun x => evq t S0 (l3 q) (Tab.setb x v' b) := fun b => evq_cof hW0 hL0 hI0 rfl hlive hv t b
  have hod : Ord K0.n (lv lev) ord := by rw [← hS.went.n]; exact hK.od
  have hlt' := hL0.lt v' hv.lt
  have hov := hod.of hL0 hv.lt
  have hind := evq_indep hW0 hL0 hI0 hod (q := l3 q) rfl hlive (Nat.le_of_lt hlt') hv.le t
  obtain ⟨i1, sub1⟩ := sub_child (n := K0.n) (ord := ord) (c := evq t S0 (cofq K0.N v' false (l3 q))) hind (b := false) (by rw [hov]; exact ec false)
  obtain ⟨i2, sub2⟩ := sub_child (n := K0.n) (ord := ord) (c := evq t S0 (cofq K0.N v' true (l3 q))) hind (b := true) (by rw [hov]; exact ec true)
  refine Ld.mk (v := clo197 b13 b1 b5 b16) (by exact .tail _ (.tail _ (.tail _ (.tail _ (.tail _ (.tail _ (.head _))))))) rfl ?_
  refine LdA.whole (r := (iw (l3 (q3of K0.N v' false q))).map fun n => .int .u32 n) (by exact .tail _ (.head _)) rfl ?_
  refine CallV.of rfl hcl ?_
  refine CallF.pre (H' := (b33, .cells (icells .u32 (iw (l3 (q3of K0.N v' true q)))) 234 (0, 0)) :: (b31, .cells (icells .u32 (iw (l3 (q3of K0.N v' false q)))) 234 (0, 0)) :: (bq, Obj.cells (icells .u32 (iw (l3 q))) 234 (0, 0)) :: gHp b13 b1 b5 b16 bm bw kp fv vl vm LB CL CM C es ck) (.cons (.cons (.cons (.cons (.cons (.cons (.cons (.prep (.cons .right) _)))))))) ?_
  refine CallF.fn (args := #[kq (q3of K0.N v' false q), ptr b13, ptr b1, ptr b5, ptr b16]) (.cons (.cons (.cons .here))) (iha (q3of K0.N v' false q) rfl K S made es ck vm CM C hS f1 (fun g hg => hU g (sub1 g hg)) (fun s => by have := hB s; omega) (by omega)) ?_
  rintro w H ⟨K1, S1, made1, es1, ck1, vm1, CM1, C1, rfl, hS1, hA1, hans⟩
  rcases hans with ⟨x1, rfl, hx1, hm1⟩ | ⟨rfl, hno⟩
  rotate_left
  ·refine Ext.mk rfl (Ext.mk rfl (Bin.neD (Br.decT (by decide) ?_)))
   exact FnR.mk (.skip (.skip .tail)) ⟨K1, S1, made1, es1, ck1, vm1, CM1, C1, rfl, hS1, hA1.weak (by omega), .inr ⟨rfl, hno⟩⟩
  refine Ext.mk rfl (Ext.mk rfl (Bin.neD (Br.decF (by decide) ?_)))
  refine Ld.mk (v := clo197 b13 b1 b5 b16) (by exact .tail _ (.tail _ (.tail _ (.tail _ (.tail _ (.tail _ (.head _))))))) rfl ?_
  refine LdA.whole (r := (iw (l3 (q3of K0.N v' true q))).map fun n => .int .u32 n) (by exact .head _) rfl ?_
  refine CallV.of rfl hcl ?_
  have hc1 := fun s => hA1.count s
  have hh1 : ∀ s, K1.hold s ≤ K.hold s + a := fun s => by rw [hS1.went.hold, hS.went.hold]; have := (hc1 s).1; omega
  refine CallF.fn (args := #[kq (q3of K0.N v' true q), ptr b13, ptr b1, ptr b5, ptr b16]) (.cons (.cons (.cons .here))) (ihb (q3of K0.N v' true q) rfl K1 S1 made1 es1 ck1 vm1 CM1 C1 hS1 t1 (fun g hg => hU g (sub2 g hg)) (fun s => by have := hB s; have := hh1 s; omega) (by have := (hc1 0).2; omega)) ?_
  rintro w H ⟨K2, S2, made2, es2, ck2, vm2, CM2, C2, rfl, hS2, hA2, hans⟩
  have hA12 := hA1.trans hA2
  rcases hans with ⟨x2, rfl, hx2, hm2⟩ | ⟨rfl, hno⟩
  rotate_left
  ·refine Ext.mk rfl (Ext.mk rfl (Bin.neD (Br.decT (by decide) ?_)))
   exact FnR.mk (.skip (.skip .tail)) ⟨K2, S2, made2, es2, ck2, vm2, CM2, C2, rfl, hS2, hA12.weak (by omega), .inr ⟨rfl, hno⟩⟩
  refine Ext.mk rfl (Ext.mk rfl (Bin.neD (Br.decF (by decide) ?_)))
  refine Ld.mk (v := ptr bw) (by exact .tail _ (.tail _ (.tail _ (.tail _ (.head _))))) rfl ?_
  obtain ⟨tr1, hK1, htr1⟩ := hS1.ks
  obtain ⟨tr2, hK2, htr2⟩ := hS2.ks
  have hint2 := hK2.ok.mid.int
  have l11 : live K1.N x1 := by rcases hm1 with h | h; exact .inl h; exact hS1.went.made_live hK1 h
  have e1 : S2 x1 = evq t S0 (cofq K0.N v' false (l3 q)) := (hA2.fn x1 l11).trans hx1
  have l1 : live K2.N x1 := by rcases hm1 with h | h; exact .inl h; exact hS2.went.made_live hK2 (hA2.mem h)
  have l2 : live K2.N x2 := by rcases hm2 with h | h; exact .inl h; exact hS2.went.made_live hK2 h
  have n2 := hS2.went.n
  have hite : ite S2 ⟨v', x1, x2⟩ = evq t S0 (l3 q) := by
   funext x
   unfold Bdd.ite
   rw [e1, hx2, ec, ec]
   conv => rhs; rw [← Tab.setb_self x v']
   simp only
   cases x.testBit v' <;> rfl
  obtain ⟨m2, hE2, hkn2⟩ := hS2.kn
  have hkl : ∀ y ∈ m2, live K2.N y.2 := fun y hy => by
   rcases (hkn2 y hy).2 with h | h
   ·exact .inl h
   ·exact hS2.went.made_live hK2 h
  by_cases hx : x1 = x2
  ·subst hx
   refine CallF.rd .here (anode_same x1 v' _) ?_
   rintro w rfl
   refine Ext.mk rfl (Ext.mk rfl ?_)
   intro J hJ
   refine Bin.eqD (Br.decT rfl ?_)
   refine Ld.mk (v := .map (some bm)) (by exact .tail _ (.tail _ (.tail _ (.head _)))) rfl ?_
   refine LdA.whole (r := (iw (l3 q)).map fun n => .int .u32 n) (by exact .tail _ (.tail _ (.head _))) rfl ?_
   refine Ents.updS (ke := kq) (k := q) (vr := vrR) (x := x1) kq_eq kq_chk kq_bits hE2 rfl fun es' ck' he => ⟨_, .tail (.tail (.tail (.tail (.tail (.tail (.tail ((Upd.head _).prepend LB))))))), ?_⟩
   refine JE.mk (hJ _ fun gs => ?_)
   have hr : S2 x1 = evq t S0 (l3 q) := by
    rw [← hite]
    funext x
    unfold Bdd.ite
    split <;> rfl
   have hrm : x1 < 2 ∨ x1 ∈ made2 := hm2
   exact FnR.mk (.skip (.skip .tail)) ⟨K2, S2, made2, es', ck', vm2, CM2, C2, rfl, ⟨hS2.ks, hS2.went, hS2.mde, _, he, fun y hy => (mset_mem hy).elim (fun e => by rw [e]; exact ⟨hr, hrm⟩) (fun hy => hkn2 y hy)⟩, hA12.weak (by omega), .inl ⟨x1, rfl, hr, hrm⟩⟩
  ·have hhang : hangs (evq t S0 (l3 q)) (ord.getD (lv lev v') 0) := by
    rw [hov]
    refine Classical.byContradiction fun hno => hx ?_
    refine hK2.ok.wf.same hK2.ok.lv hint2 l1 l2 fun x => ?_
    rw [e1, hx2, ec, ec]
    exact (not_hangs_set hno x false).trans (not_hangs_set hno x true).symm
   have b1' := hK2.ok.below hK2.od (l := lv lev v' + 1) l1 (by omega) (by rw [e1]; exact i1)
   have b2' := hK2.ok.below hK2.od (l := lv lev v' + 1) l2 (by omega) (by rw [hx2]; exact i2)
   have hUself : ∀ g, NodeSet K0.n ord (fun g => g = ite S2 ⟨v', x1, x2⟩) g → U g := by rw [hite]; exact hU
   have hh2 : ∀ s, K2.hold s < 65535 := fun s => by
    have q1 := hB s
    have q2 := hh1 s
    have q3 := (hA2.count s).1
    have q4 := hS2.went.hold s
    have q5 := hS1.went.hold s
    omega
   refine CallF.fn (args := #[ptr bw, .int .i64 (v' : Int), u32 x1, u32 x2]) (.cons (.cons (.cons (.cons (.cons (.cons (.cons (.app (.cons .here))))))))) (anode_ok hK2 (v := v') (by rw [n2]; exact hv.lt) l1 l2 hx ⟨by omega, by omega⟩ hS2.mde hh2 (by have := (hA2.count 0).2; have := (hA1.count 0).2; omega)) ?_
   rintro w H (⟨r, K3, S3, C3, vm3, CM3, rfl, rfl, hK3, mk, hM3⟩ | ⟨rfl, rfl, hcr, hT⟩)
   ·refine Ext.mk rfl (Ext.mk rfl ?_)
    intro J hJ
    refine Bin.eqD (Br.decT rfl ?_)
    refine Ld.mk (v := .map (some bm)) (by exact .tail _ (.tail _ (.tail _ (.head _)))) rfl ?_
    refine LdA.whole (r := (iw (l3 q)).map fun n => .int .u32 n) (by exact .tail _ (.tail _ (.head _))) rfl ?_
    refine Ents.updS (ke := kq) (k := q) (vr := vrR) (x := r) kq_eq kq_chk kq_bits hE2 rfl fun es' ck' he => ⟨_, .tail (.tail (.tail (.tail (.tail (.tail (.tail ((Upd.head _).prepend LB))))))), ?_⟩
    refine JE.mk (hJ _ fun gs => ?_)
    have hr : S3 r = evq t S0 (l3 q) := mk.is.trans hite
    have hr2 : 2 ≤ r := Nat.le_of_not_lt fun h => by
     obtain ⟨x, hx⟩ := hhang
     apply hx
     rw [← hr]
     have hi3 := hK3.ok.mid.int
     have : r = 0 ∨ r = 1 := by omega
     rcases this with rfl | rfl
     ·rw [hi3.zero, hi3.zero]
     ·rw [hi3.one, hi3.one]
    have hwe := hS2.went.step hK2 mk hr2 hUself
    have hA3 : After' K2 S2 made2 K3 S3 (made2 ++ [r]) 1 := ⟨mk.N, mk.fn, [r], rfl, Nat.le_refl _⟩
    have hrm : r < 2 ∨ r ∈ made2 ++ [r] := .inr (by simp)
    refine FnR.mk (.skip (.skip .tail)) ⟨K3, S3, made2 ++ [r], es', ck', vm3, CM3, C3, rfl, ⟨⟨[], hK3, .inl rfl⟩, hwe, hM3, _, he, fun y hy => (mset_mem hy).elim (fun e => by rw [e]; exact ⟨hr, hrm⟩) (fun hy => ?_)⟩, (hA12.trans hA3).weak (by omega), .inl ⟨r, rfl, hr, hrm⟩⟩
    obtain ⟨k1, k2⟩ := hkn2 y hy
    exact ⟨by rw [hA3.fn y.2 (hkl y hy), k1], k2.imp id hA3.mem⟩
   ·refine Ext.mk rfl (Ext.mk rfl ?_)
    intro J hJ
    refine Bin.eqD (Br.decF (by decide) (JE.mk (hJ _ fun gs => ?_)))
    refine FnR.mk (.skip (.skip .tail)) ⟨K2, S2, made2, es2, ck2, vm2, CM2, C2, rfl, hS2, hA12.weak (by omega), .inr ⟨rfl, ?_⟩⟩
    rintro ⟨ku, hku, hfit⟩
    have := hK2.ok.roomFor hK2.od hku (by rw [hS2.went.cap]; exact hfit) (by rw [n2]; exact hS2.went.U) (d := ⟨v', x1, x2⟩) l1 l2 hx (by rw [n2]; exact hv.lt) ⟨by show lv lev v' < dep K2.n (lv lev) K2.N x1; omega, by show lv lev v' < dep K2.n (lv lev) K2.N x2; omega⟩ (hUself _ (by rw [hite]; exact self_node hind hlt' hhang)) hT
    omega
end
end Go.Proofs
set_option maxRecDepth 100000
namespace Go.Proofs
open Go Go.Sx
open Bdd
section
variable {kp bw : Nat} {vl vm : Value} {K : Kd} {S : Nat → Bdd.Fn} {ord lev tr : List Nat} {C : Hp}
theorem abegin_ok {Y : Hp} {vr : Value} {refs : List Nat} (hK : KSt kp K S ord lev tr C) (hr : Ints .u32 Y vr (iw refs)) (hl : ∀ r ∈ refs, live K.N r) (hmax : refs.length ≤ 1048576) :
  Fc Tryz.prog 176 #[ptr kp, vr] (Y ++ C) (fun w H => ∃ bw vl CL lvl, w = .tuple #[ptr bw, .int .i64 0] ∧ H = wcell bw kp vl (.slice none 0 0) :: (CL ++ (Y ++ C)) ∧ IOwn 3 .i64 vl (iw lvl) CL ∧ lvl.length = K.n ∧ ∀ v, v < K.n → lvl.getD v 0 = lv lev v) := by
 have hn : K.n ≤ 64 := hK.at'.n64
 have hod := hK.od
 intro g
 refine L176_sound (R := FnR _) ?_
 unfold L176
 refine Bin.ptrNil (Br.no (hr.lenS ?_))
 rw [iw_length]
 refine ⟨fun vs H => ∃ i : Nat, vs = [.int .i64 (i : Int)] ∧ i ≤ refs.length ∧ H = Y ++ C, fun vs _ => refs.length - nAt vs 0, JE.mk ⟨0, rfl, Nat.zero_le _, rfl⟩, ?_⟩
 rintro w7 H ⟨i, hv, hi, rfl⟩ gs
 simp only [List.cons.injEq, and_true] at hv
 subst hv
 refine Bin.ltN (Br.dec (fun hlt => ?_) (fun hlt => ?_))
 ·have hlr := hl _ (List.getElem_mem hlt)
  refine hr.ld (n := ((refs[i] : Nat) : Int)) (iw_get (List.getElem?_eq_getElem hlt)) (fun _ h => List.mem_append_left _ h) ?_
  refine CallF.rd (args := #[ptr kp, u32 refs[i]]) (.app .here) (kNode_ok hK.rep (by have := hK.live_lt hlr; omega)) ?_
  rintro w rfl
  rw [liveB_iff.2 hlr]
  refine Ext.mk rfl (Ext.mk rfl ?_)
  intro b15 _
  refine St.whole (r := got K.N refs[i]) (by exact .head _) rfl (got_one _ _).1 (got_one _ _).2 ?_
  refine Bin.neD (Br.decF (by simp) ?_)
  refine Bin.addN (b := 1) (by simp [lim]; omega) ?_
  exact Back.of .tail ⟨i + 1, rfl, hlt, rfl⟩ (by simp only [nAt]; omega)
 ·refine CallF.rd (.app .here) (kvars_ok hK.rep) ?_
  rintro w rfl
  refine MkSlice.ints (by omega) (by omega) fun bl => ?_
  refine Build.mk (cs := [ptr kp, .slice (some ⟨bl, 0, none⟩) K.n K.n, .slice none 0 0]) (by kernel_rfl) ?_
  intro bw _
  refine CallF.fn (.cons (.cons (.app .here))) (korder_ok hK.rep) ?_
  rintro vo H ⟨N, rfl, ho⟩
  refine ho.lenS ?_
  rw [iw_length, hod.len]
  have hz : List.replicate K.n (0 : Int) = iw (List.replicate K.n 0) := by simp [iw]
  have hm := IOwn.made (T := 3) (kd := .i64) (b := bl) (iw (List.replicate K.n 0))
  rw [iw_length, List.length_replicate] at hm
  rw [hz]
  generalize hvl : Value.slice (some ⟨bl, 0, none⟩) K.n K.n = vl at *
  refine ⟨fun vs H => ∃ (i : Nat) (L : List Nat) (CL : Hp), vs = [.int .i64 (i : Int)] ∧ i ≤ K.n ∧ H = wcell bw kp vl (.slice none 0 0) :: (CL ++ (Y ++ (N ++ C))) ∧ IOwn 3 .i64 vl (iw L) CL ∧ L.length = K.n ∧ ∀ j, j < i → L.getD (ord.getD j 0) 0 = j, fun vs _ => K.n - nAt vs 0,
   JE.mk ⟨0, _, _, rfl, Nat.zero_le _, rfl, hm, by simp, fun j hj => absurd hj (Nat.not_lt_zero _)⟩, ?_⟩
  rintro w34 H ⟨i, L, CL, hv, hi, rfl, hL, hLl, hLo⟩ gs
  simp only [List.cons.injEq, and_true] at hv
  subst hv
  refine Bin.ltN (Br.dec (fun hlt => ?_) (fun hlt => ?_))
  ·have hoi := (hod.at' i hlt).1
   refine ho.ld (x := ((ord.getD i 0 : Nat) : Int)) (iw_getD (by rw [hod.len]; exact hlt)) (fun _ h => .tail _ (List.mem_append_right _ (List.mem_append_right _ (List.mem_append_left _ h)))) ?_
   refine Nil.ptr (FAddr.mk (Ld.mk (v := vl) (by exact .head _) rfl ?_))
   refine hL.putH (x := (i : Int)) (.cons .left) (by rw [iw_length]; omega) fun CL' hL' => ?_
   rw [iw_set] at hL'
   refine Bin.addN (b := 1) (by simp [lim]; omega) ?_
   refine Back.mk ⟨i + 1, L.set (ord.getD i 0) i, CL', rfl, hlt, rfl, hL', by simp [hLl], fun j hj => ?_⟩ (by simp only [nAt]; omega)
   by_cases e : j = i
   ·subst e
    rw [List.getD_eq_getElem?_getD, List.getElem?_set_self (by omega)]; rfl
   ·have hj' : j < i := by omega
    have hne : ord.getD i 0 ≠ ord.getD j 0 := fun h => by
     have a := (hod.at' i hlt).2
     have b := (hod.at' j (by omega)).2
     rw [h, b] at a; exact e a
    rw [List.getD_eq_getElem?_getD, List.getElem?_set_ne hne, ← List.getD_eq_getElem?_getD, hLo j hj']
  ·obtain rfl : i = K.n := by omega
   refine FnR.mk (.cons (.prep (.prep .right _) _)) ⟨bw, vl, CL, L, rfl, rfl, hL, hLl, fun v hv => ?_⟩
   have h1 := hLo (lv lev v) (hK.ok.lv.lt v hv)
   rwa [hod.of hK.ok.lv hv] at h1
structure Ended (K K' : Kd) (made : List Nat) (x : Nat) (ok : Bool) : Prop where
 n : K'.n = K.n
 cap : K'.cap = K.cap
 N : ∀ s d, K'.N s = some d → K.N s = some d
 hold : ∀ s, K'.hold s + made.count s = K.hold s + if ok = true ∧ s = x ∧ 2 ≤ x then 1 else 0
theorem aend_ok {X CM : Hp} {made : List Nat} {x : Nat} {ok : Bool} (hK : KSt kp K S ord lev tr C) (hM : IOwn 31 .u32 vm (iw made) CM) (hc : ∀ s, made.count s ≤ K.hold s) (h2 : ∀ s ∈ made, 2 ≤ s) (h32 : ∀ s ∈ made, s < 4294967296) (hx : ok = true → x < 2 ∨ x ∈ made) (hmax : made.length ≤ 1099511627776) :
  Fc Tryz.prog 196 #[ptr bw, u32 x, .int .i64 (if ok then 0 else 9)] (wcell bw kp vl vm :: (X ++ (CM ++ C))) (fun w H => ∃ K' C' tr', w = .tuple #[u32 (if ok then x else 0), .int .i64 (if ok then 0 else 9)] ∧ H = wcell bw kp vl (.slice none 0 0) :: (X ++ (CM ++ C')) ∧ KSt kp K' S ord lev tr' C' ∧ (tr' = [] ∨ (tr' = tr ∧ (ok = true → made ≠ []))) ∧ Ended K K' made x ok) := by
 intro g
 refine L196_sound (R := FnR _) ?_
 unfold L196
 refine Bin.eqN (b := 0) ?_
 refine Grp.or (decide (x = 1)) (fun _ => Bin.eqN (b := 1) ⟨rfl, rfl⟩) (by simp) fun gs => ?_
 rw [← Bool.decide_or]
 refine Nil.ptr (FAddr.mk (Ld.mk (v := vm) (by exact .head _) rfl (hM.lenS ?_)))
 rw [iw_length]
 refine ⟨fun vs H => ∃ (i : Nat) (Ki : Kd) (Ci : Hp) (tri : List Nat) (kept : Bool), vs = [.bool kept, .int .i64 (i : Int)] ∧ i ≤ made.length ∧ H = wcell bw kp vl vm :: (X ++ (CM ++ Ci)) ∧ KSt kp Ki S ord lev tri Ci ∧ (tri = [] ∨ tri = tr) ∧ Ki.n = K.n ∧ Ki.cap = K.cap ∧ (∀ s d, Ki.N s = some d → K.N s = some d) ∧
   (∀ s, Ki.hold s + (made.take i).count s = K.hold s + if kept = true ∧ s = x ∧ 2 ≤ x then 1 else 0) ∧ (x < 2 → kept = true) ∧ (kept = true → x < 2 ∨ (ok = true ∧ x ∈ made.take i)) ∧ (ok = true → x ∈ made.take i → kept = true), fun vs _ => made.length - nAt vs 1,
  JE.mk ⟨0, K, C, tr, _, rfl, Nat.zero_le _, rfl, hK, .inr rfl, rfl, rfl, fun _ _ h => h, fun s => ?_, fun h => decide_eq_true (by omega), fun h => .inl (by have := of_decide_eq_true h; omega), fun _ h => by simp at h⟩, ?_⟩
 ·rw [List.take_zero, List.count_nil, if_neg (fun h => by have := of_decide_eq_true h.1; omega)]
 rintro w13 w14 H ⟨i, Ki, Ci, tri, kept, hv, hi, rfl, hKi, htri, hn, hcap, hN, hh, hk1, hk2, hk3⟩ gs
 simp only [List.cons.injEq, and_true] at hv
 obtain ⟨rfl, rfl⟩ := hv
 refine Bin.ltN (Br.dec (fun hlt => ?_) (fun hlt => ?_))
 ·intro J hJ
  have htk : made.take (i + 1) = made.take i ++ [made[i]] := List.take_succ_eq_append_getElem hlt
  have hfm : made[i] ∈ made := List.getElem_mem hlt
  have hcnt : (made.take i).count made[i] + 1 ≤ made.count made[i] := by
   have h1 := (List.take_sublist (i + 1) made).count_le made[i]
   rw [htk, List.count_append, List.count_singleton_self] at h1; exact h1
  refine hM.ld (x := ((made[i] : Nat) : Int)) (iw_get (List.getElem?_eq_getElem hlt)) (fun _ h => .tail _ (List.mem_append_right _ (List.mem_append_left _ h))) ?_
  generalize hf : made[i] = f at *
  refine Bin.eqN ?_
  refine Grp.and (!kept) (fun _ => Un.not ⟨rfl, rfl⟩) (by simp) fun gs => ?_
  refine Grp.and ok (fun _ => Bin.eqD ⟨rfl, by cases ok <;> rfl⟩) (by simp) fun gs => ?_
  refine Br.mk (fun hb => ?_) (fun hb => ?_)
  ·simp only [Bool.and_eq_true, decide_eq_true_eq, Bool.not_eq_true'] at hb
   obtain ⟨⟨rfl, hkf⟩, hok⟩ := hb
   refine JE.mk (hJ _ _ fun gs => ?_)
   refine Bin.addN (b := 1) (by simp [lim]; omega) ?_
   refine Back.mk ⟨i + 1, Ki, Ci, tri, true, rfl, hlt, rfl, hKi, htri, hn, hcap, hN, fun s => ?_, fun _ => rfl, fun _ => .inr ⟨hok, by rw [htk]; simp⟩, fun _ _ => rfl⟩ (by simp only [nAt]; omega)
   have h0 := hh s
   rw [htk, List.count_append, List.count_singleton]
   rw [if_neg (fun h => by rw [hkf] at h; cases h.1)] at h0
   by_cases e : s = f
   ·subst e
    have := h2 s hfm
    simp [this]; omega
   ·have : (f == s) = false := by simpa using fun e' => e e'.symm
    simp [e, this]; omega
  ·refine Nil.ptr (FAddr.mk (Ld.mk (v := ptr kp) (by exact .head _) rfl ?_))
   have hhf : Ki.hold f ≠ 0 := by
    have h0 := hh f
    have := hc f
    split at h0 <;> omega
   refine CallF.fn (args := #[ptr kp, u32 f]) (.cons (.app (.app .here))) (drop_ok hKi (r := f) (h32 f hfm) (fun _ => hhf)) ?_
   rintro w C2 ⟨rfl, K2, hK2, f2⟩
   refine JE.mk (hJ _ _ fun gs => ?_)
   refine Bin.addN (b := 1) (by simp [lim]; omega) ?_
   refine Back.mk ⟨i + 1, K2, C2, [], kept, rfl, hlt, rfl, hK2, .inl rfl, f2.n.trans hn, f2.cap.trans hcap, fun s d hd => hN s d (f2.N s d hd), fun s => ?_, hk1, fun h => (hk2 h).imp id (fun h => ⟨h.1, by rw [htk]; exact List.mem_append_left _ h.2⟩), fun h1 h3 => ?_⟩ (by simp only [nAt]; omega)
   ·have h0 := hh s
    rw [f2.hold, htk, List.count_append, List.count_singleton]
    by_cases e : s = f
    ·subst e
     have := h2 s hfm
     simp [this]; omega
    ·have : (f == s) = false := by simpa using fun e' => e e'.symm
     simp [e, this]; omega
   ·rw [htk, List.mem_append, List.mem_singleton] at h3
    rcases h3 with h3 | h3
    ·exact hk3 h1 h3
    ·subst h3
     cases hkk : kept
     ·rw [hkk, h1] at hb; simp at hb
     ·rfl
 ·obtain rfl : i = made.length := by omega
  rw [List.take_length] at hh hk2 hk3
  refine Nil.ptr (FAddr.mk (St.one (by exact .head _) rfl (by simp) rfl ?_))
  intro J hJ
  refine Bin.neD ?_
  cases ok with
  | false =>
   refine Br.decT (by simp) ?_
   have hE : Ended K Ki made x false := ⟨hn, hcap, hN, fun s => by
    have h0 := hh s
    rw [if_neg (fun h => by cases h.1)]
    rw [if_neg (fun h => by
     rcases hk2 h.1 with h3 | h3
     ·omega
     ·cases h3.1)] at h0
    exact h0⟩
   refine FnR.here ⟨Ki, Ci, tri, ?_, rfl, hKi, htri.imp id fun h => ⟨h, fun h => by cases h⟩, hE⟩
   rfl
  | true =>
   have hkt : kept = true := by
    rcases hx rfl with h | h
    ·exact hk1 h
    ·exact hk3 rfl h
   refine Br.decF (by simp) ?_
   rw [hkt]
   refine Un.not (Br.no ?_)
   have hE : ∀ K3 : Kd, K3.n = Ki.n → K3.cap = Ki.cap → K3.N = Ki.N → (∀ s, K3.hold s = Ki.hold s) → Ended K K3 made x true := fun K3 a1 a2 a3 a4 => ⟨a1.trans hn, a2.trans hcap, by rw [a3]; exact hN, fun s => by rw [a4, hh s, hkt]⟩
   refine Bin.eqN (b := 0) ?_
   refine Grp.or (decide (x = 1)) (fun _ => Bin.eqN (b := 1) ⟨rfl, rfl⟩) (by simp) fun gs => ?_
   rw [← Bool.decide_or]
   refine Br.dec (fun hcst => ?_) (fun hcst => ?_)
   ·refine Nil.ptr (FAddr.mk (Ld.mk (v := ptr kp) (by exact .head _) rfl ?_))
    refine CallF.fn (.cons (.app (.app .here))) (keep_ok hKi (r := x) (.inl (by omega)) (fun h => by omega)) ?_
    rintro w C3 ⟨rfl, K3, hK3, mo⟩
    refine JE.mk (hJ _ fun gs => FnR.here ⟨K3, C3, [], by simp, rfl, hK3, .inl rfl, hE K3 mo.n mo.cap mo.N fun s => ?_⟩)
    rw [mo.hold, if_neg (by omega)]
   ·refine JE.mk (hJ _ fun gs => FnR.here ⟨Ki, Ci, tri, by simp, rfl, hKi, htri.imp id fun h => ⟨h, fun _ hm => ?_⟩, hE Ki rfl rfl rfl fun _ => rfl⟩)
    rcases hx rfl with h | h
    ·omega
    ·rw [hm] at h; cases h
end
end Go.Proofs
set_option maxRecDepth 100000
namespace Go.Proofs
open Go Go.Sx
open Bdd
theorem perm8 {α : Type} (a b c d e f g h : α) (L R : List α) : (a::b::c::d::e::f::g::h::(L++R)).Perm (g::d::e::b::h::f::a::(L ++ c::R)) := by
 classical
 rw [List.perm_iff_count]; intro x
 simp only [List.count_append, List.count_cons]
 omega
def Done (kp : Nat) (K : Kd) (S : Nat → Bdd.Fn) (ord lev tr : List Nat) (f : Bdd.Fn) (w : Value) (H : Hp) : Prop :=
 (∃ x K' S', w = .tuple #[u32 x, .int .i64 0] ∧ KSt kp K' S' ord lev [] H ∧ GrowR K S K' S' f x) ∨
 (w = .tuple #[u32 0, .int .i64 9] ∧ (∃ K' S' tr', KSt kp K' S' ord lev tr' H ∧ (tr' = [] ∨ tr' = tr) ∧ Kept K S K' S') ∧ ¬ Fits (NodeSet K.n ord (fun g => K.held S g ∨ g = f)) K.cap)
section
variable {kp bw : Nat} {vl fv : Value} {K : Kd} {S : Nat → Bdd.Fn} {ord lev tr lvl : List Nat} {LB CL C : Hp} {t : Bool → Bool → Bool → Bool}
theorem arun_ok (hK : KSt kp K S ord lev tr C) (hLf : LeafOk fv LB t) (hCL : IOwn 3 .i64 vl (iw lvl) CL) (hll : lvl.length = K.n) (hlv : ∀ v, v < K.n → lvl.getD v 0 = lv lev v) (q : Q3) (hq : ∀ r ∈ l3 q, live K.N r) {c : Nat} (hT : Tree K.n (lv lev) K.N (l3 q) c) (hB : ∀ s, K.hold s + c < 65535) (hc : c ≤ 1048576) :
  Fc Tryz.prog 177 #[ptr bw, kq q, fv] (LB ++ (wcell bw kp vl (.slice none 0 0) :: (CL ++ C))) (Done kp K S ord lev tr (evq t S (l3 q))) := by
 have hrb : callable Tryz.prog 197 = true := by kernel_rfl
 obtain ⟨fl, ffirst, fcap, hfv, hfr⟩ := hLf.is
 intro g
 refine L177_sound (R := FnR _) ?_
 unfold L177
 intro b1 _ b3 _ b5 _ b7 _ b9 _ bm _ b13 _
 refine St.one (by exact .head _) rfl (by simp) rfl ?_
 intro b16 _
 refine St.one (by exact .head _) rfl (by simp) rfl ?_
 refine Ld.mk (v := clo197 b13 b1 b5 b16) (by exact .head _) rfl ?_
 refine LdA.whole (r := (iw (l3 q)).map fun n => .int .u32 n) (by exact .tail _ (.tail _ (.tail _ (.tail _ (.tail _ (.tail _ (.head _))))))) rfl ?_
 refine CallV.of rfl hrb ?_
 refine CallF.pre (H' := (b9, .cells #[.int .i64 0] 26 (0, 0)) :: (b7, .cells #[.int .u32 0] 31 (0, 0)) :: gHp b13 b1 b5 b16 bm bw kp fv vl (.slice none 0 0) LB CL [] C #[] 0) ?_ ?_
 ·rw [hfv]
  exact (Ent.perm (perm8 _ _ _ _ _ _ _ _ _ _)).trans .tail
 have hod := hK.od
 have hW0 := hK.ok.wf
 have hL0 := hK.ok.lv
 have hI0 := hK.ok.mid.int
 have hS : Stp kp K S (NodeSet K.n ord (fun g => K.held S g ∨ g = evq t S (l3 q))) ord lev tr t K S [] #[] 0 (.slice none 0 0) [] C :=
  ⟨⟨tr, hK, .inr ⟨rfl, rfl⟩⟩, .refl fun g hg => nodesMono (fun g h => .inl h) hg, IOwn.nil, [], Ents.empty, fun y hy => by cases hy⟩
 refine CallF.fn (args := #[kq q, ptr b13, ptr b1, ptr b5, ptr b16]) (.cons (.cons .here)) (go1_ok hrb hLf hCL hll hlv hK.at'.n64 hW0 hI0 hL0 (fun r hr => by have := hK.live_lt hr; omega) (tr0 := tr) (l3 q) c hT q rfl K S [] #[] 0 (.slice none 0 0) [] C hS hq (fun g hg => nodesMono (fun g h => .inr h) hg) hB (by simpa using hc)) ?_
 rintro w H ⟨K1, S1, made, es, ck, vm, CM, C1, rfl, hS1, hA, hans⟩
 obtain ⟨tr1, hK1, htr1⟩ := hS1.ks
 have hwe := hS1.went
 have hmx : made.length ≤ 1048576 := by have := (hA.count 0).2; simp at this; omega
 have hm32 : ∀ s ∈ made, s < 4294967296 := fun s hs => by have := hK1.live_lt (hwe.made_live hK1 hs); omega
 have hmc : ∀ s, made.count s ≤ K1.hold s := fun s => by rw [hwe.hold]; omega
 have fin : ∀ (x : Nat) (ok : Bool), w = .tuple #[u32 (if ok then x else 0), .int .i64 (if ok then 0 else 9)] → (ok = true → x < 2 ∨ x ∈ made) → (∀ K2 C2 tr2, KSt kp K2 S1 ord lev tr2 C2 → (tr2 = [] ∨ (tr2 = tr1 ∧ (ok = true → made ≠ []))) → Ended K1 K2 made (if ok then x else 0) ok → Done kp K S ord lev tr (evq t S (l3 q)) w C2) → (ok = false → x = 0) →
   Ext 0 w fun v23 => Ext 1 w fun v24 => St 1 ((b9, .cells #[.int .i64 0] 26 (0, 0)) :: (b7, .cells #[.int .u32 0] 31 (0, 0)) :: gHp b13 b1 b5 b16 bm bw kp fv vl vm LB CL CM C1 es ck) (ptr b7) v23 fun H25 => St 1 H25 (ptr b9) v24 fun H26 =>
   DefF Tryz.prog g 195 #[ptr b1, ptr b7, ptr b9] H26 fun H27 => Ld H27 (ptr b7) fun v28 => Ld H27 (ptr b9) fun v29 => FnR (Done kp K S ord lev tr (evq t S (l3 q))) (.returned (.tuple #[v28, v29])) H27 := by
  intro x ok hw hx hd h0
  subst hw
  refine Ext.mk rfl (Ext.mk rfl ?_)
  refine St.one (by exact .tail (.head _)) rfl (by simp) rfl ?_
  refine St.one (by exact .head _) rfl (by simp) rfl ?_
  refine L195_soundD (R := _) ?_
  unfold L195
  refine Ld.mk (v := ptr bw) (by exact .tail _ (.tail _ (.tail _ (.head _)))) rfl ?_
  refine Ld.mk (v := u32 (if ok then x else 0)) (by exact .tail _ (.head _)) rfl ?_
  refine Ld.mk (v := .int .i64 (if ok then 0 else 9)) (by exact .head _) rfl ?_
  refine CallF.fn (.cons (.cons (.cons (.cons (.cons (.cons (.app (.cons .here)))))))) (aend_ok (X := CL) (x := if ok then x else 0) (ok := ok) hK1 hS1.mde hmc hwe.two hm32 (fun h => by rw [if_pos h]; exact hx h) (by omega)) ?_
  rintro w H ⟨K2, C2, tr2, rfl, rfl, hK2, htr2, hE⟩
  refine Ext.mk rfl (Ext.mk rfl ?_)
  have e1 : (if ok = true then (if ok = true then x else 0) else 0) = if ok = true then x else 0 := by cases ok <;> rfl
  rw [e1]
  refine St.one (by exact .tail (.head _)) rfl (by simp) rfl ?_
  refine St.one (by exact .head _) rfl (by simp) rfl ?_
  refine ⟨⟨_, rfl⟩, ?_⟩
  refine Ld.mk (v := u32 (if ok then x else 0)) (by exact .tail _ (.head _)) rfl ?_
  refine Ld.mk (v := .int .i64 (if ok then 0 else 9)) (by exact .head _) rfl ?_
  exact FnR.mk (.skip (.skip (.skip (.skip (.skip (.skip (Ent.right.trans (.skip (.skip (Ent.right.trans .right)))))))))) (hd K2 C2 tr2 hK2 htr2 hE)
 have hnz : ∀ s, K.hold s ≠ 0 → live K.N s := fun s hs => .inr (hK.ok.mid.held s hs)
 rcases hans with ⟨x, rfl, hx, hxm⟩ | ⟨rfl, hno⟩
 ·refine fin x true rfl (fun _ => hxm) (fun K2 C2 tr2 hK2 htr2 hE => .inl ⟨x, K2, S1, rfl, ?_, ?_⟩) (fun h => by cases h)
  ·have : tr2 = [] := by
    rcases htr2 with h | ⟨h, h'⟩
    ·exact h
    ·rcases htr1 with h2 | ⟨_, h2⟩
     ·rw [h, h2]
     ·exact absurd h2 (h' rfl)
   rw [this] at hK2; exact hK2
  ·have hold2 : ∀ s, K2.hold s = K.hold s + if s = x ∧ 2 ≤ x then 1 else 0 := fun s => by
    have a := hE.hold s
    have b := hwe.hold s
    simp only [if_true, true_and] at a
    omega
   have hl : live K2.N x := by
    by_cases h2 : x < 2
    ·exact .inl h2
    ·refine .inr (hK2.ok.mid.held x ?_)
     rw [hold2, if_pos ⟨rfl, by omega⟩]; omega
   exact ⟨hE.n.trans hwe.n, hE.cap.trans hwe.cap, fun s d hs => keep_nodes hK.ok hK2.ok (fun s h => by rw [hold2]; omega) (fun s d d' h h' => by
    have a := hE.N s d' h'
    rw [hwe.N s d h] at a; exact (Option.some.inj a).symm) _ s d hs (Nat.le_refl _), fun s hs => hwe.fn s hs, hl, hx, hold2⟩
 ·refine fin 0 false rfl (fun h => by cases h) (fun K2 C2 tr2 hK2 htr2 hE => .inr ⟨rfl, ⟨K2, S1, tr2, hK2, ?_, ?_⟩, hno⟩) (fun _ => rfl)
  ·rcases htr2 with h | ⟨h, _⟩
   ·exact .inl h
   ·rcases htr1 with h2 | ⟨h2, _⟩
    ·exact .inl (h.trans h2)
    ·exact .inr (h.trans h2)
  ·have hold2 : ∀ s, K2.hold s = K.hold s := fun s => by
    have a := hE.hold s
    have b := hwe.hold s
    rw [if_neg (fun h => by cases h.1)] at a
    omega
   refine ⟨hE.n.trans hwe.n, hE.cap.trans hwe.cap, hold2, fun g => ?_, fun r hr => hwe.fn r (hnz r hr)⟩
   constructor
   ·rintro ⟨s, hs, rfl⟩
    have hs' : K.hold s ≠ 0 := by rw [← hold2]; exact hs
    exact ⟨s, hs', hwe.fn s (hnz s hs')⟩
   ·rintro ⟨s, hs, rfl⟩
    exact ⟨s, by show K2.hold s ≠ 0; rw [hold2]; exact hs, (hwe.fn s (hnz s hs)).symm⟩
end
end Go.Proofs
namespace Go.Sx
open Go
section
variable {P : Program} {g : Gh}
theorem Build.three {t e : TypeId} {q : IntKind} {x y z : Int} {K : Value → Prop} (ht : P.underlying t = some (.array 3 e)) (hz : sizeD P e = some 1) (h0 : zeroD P t = some (.agg (icells q [0, 0, 0]))) (h : K (.agg (icells q [x, y, z]))) :
  Build P t [(0, .int q x), (1, .int q y), (2, .int q z)] K := by
 refine ⟨_, fun w => ?_, h⟩
 obtain ⟨i, hi, hs⟩ := sizeD_spec hz
 obtain ⟨i0, hi0, hz0⟩ := zeroD_spec h0
 simp only [Instr.build, Sem.run_bind, run_zero hi0 hz0, Result.andThen_ok, run_underlying ht, run_sizeOf hi, hs]
 simp [Instr.fill, Value.cells, icells]
theorem Build.twoOf {t e : TypeId} {q : IntKind} {x y : Int} {K : Value → Prop} (ht : P.underlying t = some (.array 3 e)) (hz : sizeD P e = some 1) (h0 : zeroD P t = some (.agg (icells q [0, 0, 0]))) (h : K (.agg (icells q [x, y, 0]))) :
  Build P t [(0, .int q x), (1, .int q y)] K := by
 refine ⟨_, fun w => ?_, h⟩
 obtain ⟨i, hi, hs⟩ := sizeD_spec hz
 obtain ⟨i0, hi0, hz0⟩ := zeroD_spec h0
 simp only [Instr.build, Sem.run_bind, run_zero hi0 hz0, Result.andThen_ok, run_underlying ht, run_sizeOf hi, hs]
 simp [Instr.fill, Value.cells, icells]
end
end Go.Sx
set_option maxRecDepth 100000
namespace Go.Proofs
open Go Go.Sx
open Bdd
theorem abit_ok (x : Bool) (B : Hp) : Rd Tryz.prog 179 #[.bool x] B (· = .int .u8 ((x.toNat : Nat) : Int)) := by
 intro g
 refine L179_sound (R := FnR _) ?_
 unfold L179
 cases x
 ·exact Br.no (RdR.mk (.refl _) rfl)
 ·exact Br.yes (RdR.mk (.refl _) rfl)
def opB (op : Nat) (a b : Bool) : Bool := op.testBit (2 * a.toNat + b.toNat)
abbrev opHp (b op : Nat) : Hp := [(b, .cells #[.int .u8 (op : Int)] 5 (0, 0))]
theorem binLeaf_ok {b op : Nat} (hop : op < 16) : LeafOk (.func (.func 178) #[] #[ptr b]) (opHp b op) (fun x y _ => opB op x y) := by
 refine ⟨_, _, _, rfl, by kernel_rfl, fun x y z => ?_⟩
 intro g
 refine L178_sound (R := FnR _) ?_
 unfold L178
 refine DR.of (R := opHp b op) (.refl _) ?_
 refine Ld.mk (v := .int .u8 (op : Int)) (by exact .head _) rfl ?_
 refine CallF.rd .here (abit_ok x _) ?_
 rintro w rfl
 refine ⟨.refl _, ?_⟩
 have hx : x.toNat ≤ 1 := by cases x <;> decide
 have hy : y.toNat ≤ 1 := by cases y <;> decide
 refine Bin.mulN (a := 2) (by simp [lim]; omega) ?_
 refine CallF.rd .here (abit_ok y _) ?_
 rintro w rfl
 refine ⟨.refl _, ?_⟩
 refine Bin.addN (by simp [lim]; omega) ?_
 refine Bin.shrN (by simp [lim]; omega) ?_
 refine Bin.andN (b := 1) (by simp [lim]; exact Nat.lt_of_le_of_lt (Nat.shiftRight_le _ _) (by omega)) (by simp [lim]) ?_
 refine Bin.eqN (b := 1) ?_
 refine RdR.mk (.refl _) ?_
 congr 1
 unfold opB
 rw [Nat.and_one_is_mod]
 rw [Nat.testBit_eq_decide_div_mod_eq, Nat.shiftRight_eq_div_pow]
theorem iteLeaf_ok : LeafOk (.func (.func 180) #[] #[]) [] (fun x y z => if x then y else z) := by
 refine ⟨_, _, _, rfl, by kernel_rfl, fun x y z => ?_⟩
 intro g
 refine L180_sound (R := FnR _) ?_
 unfold L180
 cases x
 ·refine Grp.mk false (fun h => by simp at h) (fun _ => rfl) fun gs => ?_
  refine Grp.mk (by exact z) (fun _ => Un.not (Grp.and z (fun _ => ⟨rfl, rfl⟩) (by simp) fun gs => ⟨rfl, by simp⟩)) (fun h => by simp at h) fun gs => ?_
  exact RdR.mk (.refl _) rfl
 ·refine Grp.and y (fun _ => ⟨rfl, rfl⟩) (by simp) fun gs => ?_
  refine Grp.or false (fun _ => Un.not (Grp.and z (fun _ => ⟨rfl, rfl⟩) (by simp) fun gs => ⟨rfl, by simp⟩)) (by simp) fun gs => ?_
  refine RdR.mk (.refl _) ?_
  cases y <;> rfl
section
variable {kp : Nat} {K : Kd} {S : Nat → Bdd.Fn} {ord lev tr : List Nat} {C : Hp}
theorem perm3 {α : Type} (w a b : α) (L R : List α) : (w :: (L ++ (a :: b :: R))).Perm (a :: ([b] ++ w :: (L ++ R))) := by
 classical
 rw [List.perm_iff_count]; intro x
 simp only [List.count_append, List.count_cons, List.count_nil]
 omega
theorem atree_ex (hK : KSt kp K S ord lev tr C) {q : List Nat} (hq : ∀ r ∈ q, live K.N r) (hB : ∀ s, K.hold s + 2 ^ K.n ≤ 65535) : ∃ c, Tree K.n (lv lev) K.N q c ∧ (∀ s, K.hold s + c < 65535) ∧ c ≤ 1048576 := by
 obtain ⟨c, h1, h2⟩ := tree_ex (S := S) hK.ok.wf hK.ok.lv hK.ok.mid.int K.n 0 q (by omega) (by omega) hq (fun r _ => Nat.zero_le _)
 rw [Nat.sub_zero] at h2
 have h0 := hB 0
 exact ⟨c, h1, fun s => by have := hB s; omega, by omega⟩
theorem abinary_ok (hK : KSt kp K S ord lev tr C) {op a b : Nat} (hop : op < 16) (ha : live K.N a) (hb : live K.N b) (hB : ∀ s, K.hold s + 2 ^ K.n ≤ 65535) :
  Fc Tryz.prog 152 #[ptr kp, .int .u8 (op : Int), u32 a, u32 b] C (Done kp K S ord lev tr (fun x => opB op (S a x) (S b x))) := by
 intro g
 refine L152_sound (R := FnR _) ?_
 unfold L152
 intro b1 _
 refine Bin.ptrNil (Br.no ?_)
 refine Ld.mk (v := .int .u8 (op : Int)) (by exact .head _) rfl ?_
 refine Bin.gtN (b := 15) (Br.decF (by omega) ?_)
 refine BuildSl.ints2 (e := 31) (x := (a : Int)) (y := (b : Int)) (by kernel_rfl) (by kernel_rfl) (by kernel_rfl) fun bs => ?_
 have hq : ∀ r ∈ l3 (a, b, 0), live K.N r := fun r hr => by
  simp only [l3, List.mem_cons, List.not_mem_nil, or_false] at hr
  rcases hr with rfl | rfl | rfl
  ·exact ha
  ·exact hb
  ·exact .inl (by omega)
 have hI : Ints .u32 ((bs, Obj.cells (icells .u32 [(a : Int), (b : Int)]) 31 (0, 0)) :: opHp b1 op) (.slice (some ⟨bs, 0, none⟩) 2 2) (iw [a, b]) := (IOwn.made (T := 31) (kd := .u32) (b := bs) (iw [a, b])).ints.mono fun _ h => List.mem_append_left (opHp b1 op) h
 refine CallF.fn (args := #[ptr kp, .slice (some ⟨bs, 0, none⟩) 2 2]) (C := ((bs, Obj.cells (icells .u32 [(a : Int), (b : Int)]) 31 (0, 0)) :: opHp b1 op) ++ C) .here (abegin_ok hK hI (fun r hr => ?_) (by show 2 ≤ 1048576; omega)) ?_
 ·simp only [List.mem_cons, List.not_mem_nil, or_false] at hr
  rcases hr with rfl | rfl
  ·exact ha
  ·exact hb
 rintro w H ⟨bw, vl, CL, lvl, rfl, rfl, hCL, hll, hlv⟩
 refine Ext.mk rfl (Ext.mk rfl (Bin.neD (Br.decF (by decide) ?_)))
 refine Build.twoOf (e := 31) (q := .u32) (x := (a : Int)) (y := (b : Int)) (by kernel_rfl) (by kernel_rfl) (by kernel_rfl) ?_
 obtain ⟨c, hT, hB', hc⟩ := atree_ex hK hq hB
 refine CallF.pre (H' := (bs, Obj.cells (icells .u32 [(a : Int), (b : Int)]) 31 (0, 0)) :: (opHp b1 op ++ wcell bw kp vl (.slice none 0 0) :: (CL ++ C))) (.perm (perm3 _ _ _ _ _)) ?_
 refine CallF.fn (args := #[ptr bw, kq (a, b, 0), .func (.func 178) #[] #[ptr b1]]) (.cons .here) (arun_ok (t := fun x y _ => opB op x y) hK (binLeaf_ok hop) hCL hll hlv (a, b, 0) hq hT hB' hc) ?_
 intro w H hD
 have : ∃ x e, w = .tuple #[x, e] := by
  rcases hD with ⟨x, K', S', rfl, _⟩ | ⟨rfl, _⟩
  ·exact ⟨_, _, rfl⟩
  ·exact ⟨_, _, rfl⟩
 obtain ⟨x, e, rfl⟩ := this
 exact Ext.mk rfl (Ext.mk rfl (FnR.mk .tail hD))
theorem Done.two {f : Bdd.Fn} {w : Value} {H : Hp} (h : Done kp K S ord lev tr f w H) : ∃ x e, w = .tuple #[x, e] := by
 rcases h with ⟨x, K', S', rfl, _⟩ | ⟨rfl, _⟩
 ·exact ⟨_, _, rfl⟩
 ·exact ⟨_, _, rfl⟩
theorem anot_ok (hK : KSt kp K S ord lev tr C) {a : Nat} (ha : live K.N a) (hB : ∀ s, K.hold s + 2 ^ K.n ≤ 65535) :
  Fc Tryz.prog 151 #[ptr kp, u32 a] C (Done kp K S ord lev tr (fun x => !S a x)) := by
 intro g
 refine L151_sound (R := FnR _) ?_
 unfold L151
 refine CallF.fn (args := #[ptr kp, .int .u8 ((3 : Nat) : Int), u32 a, u32 0]) .here (abinary_ok hK (op := 3) (by decide) ha (.inl (by omega)) hB) ?_
 intro w H hD
 have e : (fun x => opB 3 (S a x) (S 0 x)) = fun x => !S a x := by
  funext x
  rw [hK.ok.mid.int.zero]
  cases S a x <;> rfl
 rw [e] at hD
 obtain ⟨x, e, rfl⟩ := hD.two
 exact Ext.mk rfl (Ext.mk rfl (FnR.mk (.refl _) hD))
theorem permI {α : Type} (w a : α) (L R : List α) : (w :: (L ++ (a :: R))).Perm (a :: ([] ++ w :: (L ++ R))) := by
 classical
 rw [List.perm_iff_count]; intro x
 simp only [List.count_append, List.count_cons, List.count_nil]
 omega
theorem aite_ok (hK : KSt kp K S ord lev tr C) {a b c : Nat} (ha : live K.N a) (hb : live K.N b) (hc : live K.N c) (hB : ∀ s, K.hold s + 2 ^ K.n ≤ 65535) :
  Fc Tryz.prog 153 #[ptr kp, u32 a, u32 b, u32 c] C (Done kp K S ord lev tr (fun x => if S a x then S b x else S c x)) := by
 intro g
 refine L153_sound (R := FnR _) ?_
 unfold L153
 refine BuildSl.ints3 (e := 31) (x := (a : Int)) (y := (b : Int)) (z := (c : Int)) (by kernel_rfl) (by kernel_rfl) (by kernel_rfl) fun bs => ?_
 have hq : ∀ r ∈ l3 (a, b, c), live K.N r := fun r hr => by
  simp only [l3, List.mem_cons, List.not_mem_nil, or_false] at hr
  rcases hr with rfl | rfl | rfl
  ·exact ha
  ·exact hb
  ·exact hc
 refine CallF.fn (args := #[ptr kp, .slice (some ⟨bs, 0, none⟩) 3 3]) (C := [(bs, Obj.cells (icells .u32 [(a : Int), (b : Int), (c : Int)]) 31 (0, 0))] ++ C) .here (abegin_ok hK (refs := l3 (a, b, c)) ((IOwn.made (T := 31) (kd := .u32) (b := bs) (iw (l3 (a, b, c)))).ints) hq (by show 3 ≤ 1048576; omega)) ?_
 rintro w H ⟨bw, vl, CL, lvl, rfl, rfl, hCL, hll, hlv⟩
 refine Ext.mk rfl (Ext.mk rfl (Bin.neD (Br.decF (by decide) ?_)))
 refine Build.three (e := 31) (q := .u32) (x := (a : Int)) (y := (b : Int)) (z := (c : Int)) (by kernel_rfl) (by kernel_rfl) (by kernel_rfl) ?_
 obtain ⟨k, hT, hB', hk⟩ := atree_ex hK hq hB
 refine CallF.pre (H' := (bs, Obj.cells (icells .u32 [(a : Int), (b : Int), (c : Int)]) 31 (0, 0)) :: ([] ++ wcell bw kp vl (.slice none 0 0) :: (CL ++ C))) (.perm (permI _ _ _ _)) ?_
 refine CallF.fn (args := #[ptr bw, kq (a, b, c), .func (.func 180) #[] #[]]) (.cons .here) (arun_ok (t := fun x y z => if x then y else z) hK iteLeaf_ok hCL hll hlv (a, b, c) hq hT hB' hk) ?_
 intro w H hD
 obtain ⟨x, e, rfl⟩ := hD.two
 exact Ext.mk rfl (Ext.mk rfl (FnR.mk .tail hD))
theorem MakeR.grow (hK : KSt kp K S ord lev tr C) {K' : Kd} {S' : Nat → Bdd.Fn} {f : Bdd.Fn} {r : Nat} {C' : Hp} {tr' : List Nat} (h : MakeR K S K' S' f r) (hK' : KSt kp K' S' ord lev tr' C') (hl : r < 2 ∨ 2 ≤ r) : GrowR K S K' S' f r :=
 ⟨h.n, h.cap, h.N, h.fn, by
  by_cases h2 : r < 2
  ·exact .inl h2
  ·refine .inr (hK'.ok.mid.held r ?_)
   rw [h.hold, if_pos ⟨rfl, by omega⟩]; omega, h.is, fun s => by rw [h.hold]; split <;> omega⟩
theorem avar_ok (hK : KSt kp K S ord lev tr C) {v : Nat} (hv : v < K.n) (hB : ∀ s, K.hold s < 65535) :
  Fc Tryz.prog 150 #[ptr kp, .int .i64 (v : Int)] C (Done kp K S ord lev tr (fun x => x.testBit v)) := by
 intro g
 refine L150_sound (R := FnR _) ?_
 unfold L150
 refine Bin.ptrNil (Br.no ?_)
 have hint := hK.ok.mid.int
 have hL := hK.ok.lv
 have hod := hK.od
 have h0 : live K.N 0 := .inl (by omega)
 have h1 : live K.N 1 := .inl (by omega)
 have d0 : dep K.n (lv lev) K.N 0 = K.n := dep_none (hK.ok.wf.const (by omega))
 have d1 : dep K.n (lv lev) K.N 1 = K.n := dep_none (hK.ok.wf.const (by omega))
 have hl := hL.lt v hv
 have eI : ite S ⟨v, 0, 1⟩ = fun x => x.testBit v := by
  funext x
  unfold Bdd.ite
  simp only [hint.zero, hint.one]
  cases x.testBit v <;> rfl
 refine CallF.fn (args := #[ptr kp, .int .i64 (v : Int), u32 0, u32 1]) .here (make_ok hK hv h0 h1 (.inr ⟨by rw [d0]; exact hl, by rw [d1]; exact hl⟩)) ?_
 rintro w C' (⟨r, K', S', rfl, hK', mk⟩ | ⟨r, rfl, _, _, _, hfull, _⟩ | ⟨rfl, rfl, hcap, hne, hT⟩)
 ·rw [eI] at mk
  exact Ext.mk rfl (Ext.mk rfl (FnR.mk (.refl _) (.inl ⟨r, K', S', rfl, hK', mk.grow hK hK' (by omega)⟩)))
 ·have := hB r; omega
 ·refine Ext.mk rfl (Ext.mk rfl (FnR.mk (.refl _) (.inr ⟨rfl, ⟨K, S, tr, hK, .inr rfl, .refl K S⟩, ?_⟩)))
  rintro ⟨ku, hku, hfit⟩
  have hov := hod.of hL hv
  have hind : ∀ j, j < lv lev v → ¬ hangs (fun x : Nat => x.testBit v) (ord.getD j 0) := by
   rintro j hj ⟨x, hx⟩
   apply hx
   have hjn : j < K.n := by omega
   obtain ⟨o1, o2⟩ := hod.at' j hjn
   show Nat.testBit _ v = Nat.testBit _ v
   rw [Tab.testBit_setb, Tab.testBit_setb, if_neg (fun h => by rw [h] at hj; omega), if_neg (fun h => by rw [h] at hj; omega)]
  have hh : hangs (fun x : Nat => x.testBit v) (ord.getD (lv lev v) 0) := by
   rw [hov]
   exact ⟨0, by show Nat.testBit _ v ≠ Nat.testBit _ v; rw [Tab.testBit_setb, Tab.testBit_setb, if_pos rfl, if_pos rfl]; decide⟩
  have := hK.ok.roomFor hod hku hfit (fun g hg => nodesMono (fun g h => .inl h) hg) (d := ⟨v, 0, 1⟩) h0 h1 (show (0 : Nat) ≠ 1 by omega) hv ⟨by rw [d0]; exact hl, by rw [d1]; exact hl⟩ (nodesMono (fun g h => .inr h) (by rw [eI]; exact self_node hind hl hh)) hT
  omega
end
end Go.Proofs
namespace Go.Sx
open Go
section
variable {κ β : Type} [DecidableEq κ] {ke : κ → Value} {vr : Value → β → Prop} {es : Array MapEntry} {ck : Nat} {m : List (κ × β)} {H : Hp} {b : Nat}
theorem Ents.del {kd : TypeDesc} {k : κ} {K : Hp → Prop} (hk : ∀ a b, Instr.sameNow kd (ke a) (ke b) = some (decide (a = b))) (h : Ents ke vr es ck m) (hm : (b, Obj.map es ck) ∈ H)
  (h1 : ∀ es', Ents ke vr es' ck (mdel m k) → ∃ H', Upd b (.map es ck) (.map es' ck) H H' ∧ K H') : MapDel kd H (.map (some b)) (ke k) K := by
 refine .inr ?_
 rcases h.findNow hk k with ⟨i, y, e, g1, g2, g3, g4⟩ | ⟨g1, g2⟩
 ·refine ⟨b, es, ck, _, rfl, g4, ?_⟩
  have := h.less i
  rw [← mdel_erase h.nd g2] at this
  exact h1 _ this
 ·refine ⟨b, es, ck, _, rfl, g2, hm, ?_⟩
  have e : mdel m k = m := by
   unfold mdel
   rw [List.filter_eq_self]
   intro w hw
   simp only [decide_not, Bool.not_eq_true', decide_eq_false_iff_not]
   intro e
   exact g1 (List.mem_map.2 ⟨w, hw, e⟩)
  obtain ⟨H', hu, hK⟩ := h1 es (by rw [e]; exact h)
  have : ∀ {H H' : Hp} , Upd b (.map es ck) (.map es ck) H H' → H' = H := by
   intro H H' hu
   generalize ho : Obj.map es ck = o at hu
   induction hu with
   | head R => rfl
   | tail _ ih => rw [ih]
  rw [this hu] at hK; exact hK
end
def kN (kd : IntKind) (r : Nat) : Value := .int kd (r : Int)
theorem kN_same {kd : IntKind} (a b : Nat) : Instr.sameNow (.int kd) (kN kd a) (kN kd b) = some (decide (a = b)) := by
 simp only [kN, Instr.sameNow, if_true, Option.some.injEq]
 by_cases e : a = b
 ·subst e; simp
 ·have : ¬ (a : Int) = (b : Int) := by omega
  simp [e, this]
theorem kN_bits {kd : IntKind} (a : Nat) : Instr.sameBits 10000 (kN kd a) (kN kd a) = true := by
 simp [kN, Instr.sameBits]
end Go.Sx
namespace Bdd
open Tab
def QF (t : Bool → Bool → Bool) (v : Nat) (f : Fn) : Fn := fun x => t (f (setb x v false)) (f (setb x v true))
section
variable {t : Bool → Bool → Bool} {v u : Nat} {f : Fn}
theorem setb_setb {x v : Nat} {b c : Bool} : setb (setb x v b) v c = setb x v c := by
 apply Nat.eq_of_testBit_eq; intro k
 rw [testBit_setb, testBit_setb, testBit_setb]
 split <;> rfl
theorem QF_cof (h : u ≠ v) (b : Bool) : QF t v (fun x => f (setb x u b)) = fun x => QF t v f (setb x u b) := by
 funext x
 unfold QF
 simp only [setb_comm h]
theorem QF_indep (h : ¬ hangs f u) : ¬ hangs (QF t v f) u := by
 rintro ⟨x, hx⟩
 by_cases e : u = v
 ·subst e
  apply hx
  unfold QF
  simp only [setb_setb]
 ·apply hx
  unfold QF
  simp only [setb_comm e]
  have key : ∀ y, f (setb y u false) = f (setb y u true) := fun y => Classical.byContradiction fun hn => h ⟨y, hn⟩
  rw [key, key]
theorem QF_none (ht : ∀ a, t a a = a) (h : ¬ hangs f v) : QF t v f = f := by
 funext x
 unfold QF
 have key : ∀ b, f (setb x v b) = f x := fun b => not_hangs_set h x b
 rw [key, key, ht]
end
def jt3 (e : Bool) : Bool → Bool → Bool → Bool := fun x y _ => if e then x || y else x && y
def jf (e : Bool) (S : Nat → Fn) (a b : Nat) : Fn := evq (jt3 e) S [a, b, 0]
theorem jf_def (e : Bool) (S : Nat → Fn) (a b x : Nat) : jf e S a b x = if e then S a x || S b x else S a x && S b x := rfl
theorem jf_comm (e : Bool) (S : Nat → Fn) (a b : Nat) : jf e S a b = jf e S b a := by
 funext x; rw [jf_def, jf_def]; cases e <;> cases S a x <;> cases S b x <;> rfl
theorem jf_mm (e : Bool) (S : Nat → Fn) (a b : Nat) : jf e S (min a b) (max a b) = jf e S a b := by
 by_cases h : a ≤ b
 ·rw [Nat.min_eq_left h, Nat.max_eq_right h]
 ·rw [Nat.min_eq_right (by omega), Nat.max_eq_left (by omega), jf_comm]
theorem jf_self (e : Bool) (S : Nat → Fn) (a : Nat) : jf e S a a = S a := by
 funext x; rw [jf_def]; cases e <;> cases S a x <;> rfl
section
variable {N : Sto} {S : Nat → Fn} {n : Nat} {lev : Nat → Nat}
theorem jf_abs (hi : Interp N S) (e : Bool) (a : Nat) : jf e S e.toNat a = S e.toNat := by
 funext x; rw [jf_def]; cases e
 ·show (S 0 x && S a x) = S 0 x; rw [hi.zero]; rfl
 ·show (S 1 x || S a x) = S 1 x; rw [hi.one]; rfl
theorem jf_neu (hi : Interp N S) (e : Bool) (a : Nat) : jf e S (!e).toNat a = S a := by
 funext x; rw [jf_def]; cases e
 ·show (S 1 x && S a x) = S a x; rw [hi.one]; cases S a x <;> rfl
 ·show (S 0 x || S a x) = S a x; rw [hi.zero]; cases S a x <;> rfl
theorem cofr_up (h : WF n lev N) (hl : Lev n lev) {r v : Nat} (hd : lev v < dep n lev N r) (b : Bool) : cofr N v b r = r := by
 unfold cofr
 cases e : N r with
 | none => rfl
 | some d =>
  rw [dep_some e] at hd
  simp only
  rw [if_neg (fun e2 => by rw [e2] at hd; omega)]
theorem cofr_at {r : Nat} {d : Nd} (e : N r = some d) : cofr N d.v false r = d.lo ∧ cofr N d.v true r = d.hi := by
 unfold cofr
 rw [e]
 simp
theorem dep_more {N' : Sto} (hN : ∀ s d, N s = some d → N' s = some d) (hc : ∀ r, r < 2 → N' r = none) (h0 : ∀ r, r < 2 → N r = none) {r : Nat} (hr : live N r) : dep n lev N' r = dep n lev N r := by
 rcases hr with hr | ⟨d, hd⟩
 ·rw [dep_none (hc r hr), dep_none (h0 r hr)]
 ·rw [dep_some hd, dep_some (hN r d hd)]
theorem cofq_two (v : Nat) (bb : Bool) (a b : Nat) (h0 : N 0 = none) : cofq N v bb [a, b, 0] = [cofr N v bb a, cofr N v bb b, 0] := by
 have : cofr N v bb 0 = 0 := by unfold cofr; rw [h0]
 simp [cofq, this]
theorem top2 (h : WF n lev N) (hl : Lev n lev) {a b : Nat} (h0 : N 0 = none) (hlt : min (dep n lev N a) (dep n lev N b) < n) :
  ∃ v, TopV n lev N [a, b, 0] v ∧ lev v = min (dep n lev N a) (dep n lev N b) := by
 have hd0 : dep n lev N 0 = n := dep_none h0
 have node : ∀ r, dep n lev N r < n → ∃ d, N r = some d := fun r hr => by
  cases e : N r with
  | none => rw [dep_none e] at hr; omega
  | some d => exact ⟨d, rfl⟩
 by_cases hab : dep n lev N b < dep n lev N a
 ·obtain ⟨d, hd⟩ := node b (by omega)
  have e := dep_some (n := n) (lev := lev) hd
  refine ⟨d.v, ⟨h.var hd, ⟨b, by simp, d, hd, rfl⟩, fun r hr => ?_⟩, by omega⟩
  simp only [List.mem_cons, List.not_mem_nil, or_false] at hr
  rcases hr with rfl | rfl | rfl <;> omega
 ·obtain ⟨d, hd⟩ := node a (by omega)
  have e := dep_some (n := n) (lev := lev) hd
  refine ⟨d.v, ⟨h.var hd, ⟨a, by simp, d, hd, rfl⟩, fun r hr => ?_⟩, by omega⟩
  simp only [List.mem_cons, List.not_mem_nil, or_false] at hr
  rcases hr with rfl | rfl | rfl <;> omega
end
end Bdd
set_option maxRecDepth 100000
namespace Go.Proofs
open Go Go.Sx
open Bdd
section
variable {kp : Nat} {K : Kd} {ord lev tr : List Nat} {C : Hp} {S : Nat → Bdd.Fn}
theorem knodes_ok (h : KRep kp K ord lev tr C) : Rd Tryz.prog 78 #[ptr kp] C (· = .int .i64 ((K.cap : Nat) : Int)) := by
 obtain ⟨b, rfl, hO⟩ := h
 intro g
 refine L78_sound (R := FnR _) ?_
 unfold L78
 refine Bin.ptrNil (Br.no (Nil.ptr (FAddr.mk ?_)))
 refine FAddr.mk (Ld.mk (v := ptr b.pa) (by exact .head _) rfl ?_)
 refine CallF.rd (.cons .left) (aplaces_ok hO.ar) ?_
 rintro v rfl
 exact RdR.mk (.refl _) rfl
theorem kLevel_ok (h : KRep kp K ord lev tr C) (v : Int) : Rd Tryz.prog 42 #[ptr kp, .int .i64 v] C (· = if 0 ≤ v ∧ v < K.n then .tuple #[.int .i64 ((lev.getD v.toNat 0 : Nat) : Int), .int .i64 0] else .tuple #[.int .i64 0, .int .i64 2]) := by
 have h0 := h
 obtain ⟨b, rfl, hO⟩ := h
 intro g
 refine L42_sound (R := FnR _) ?_
 unfold L42
 refine Bin.ptrNil (Br.no ?_)
 refine CallF.rd .here (kvar_ok h0 v) ?_
 rintro x rfl
 refine Un.not ?_
 by_cases hvv : 0 ≤ v ∧ v < K.n
 ·rw [decide_eq_true hvv, if_pos hvv]
  refine Br.no (Nil.ptr ?_)
  refine FAddr.mk (Ld.mk (v := b.vl) (by exact .head _) rfl ?_)
  have hlen := hO.ol.2
  obtain ⟨n, rfl⟩ : ∃ n : Nat, v = n := ⟨v.toNat, by omega⟩
  refine hO.lv.ld (x := ((lev.getD n 0 : Nat) : Int)) (iw_getD (by omega)) (Hole.sub (.cons (.app (.app (.app (.app (.app .left))))))) ?_
  exact RdR.mk (.refl _) rfl
 ·rw [decide_eq_false hvv, if_neg hvv]
  exact Br.yes (RdR.mk (.refl _) rfl)
end
end Go.Proofs
set_option maxRecDepth 100000
namespace Go.Proofs
open Go Go.Sx
open Bdd
def qcell (bq kp bm : Nat) (ok : Bool) : Nat × Obj := (bq, .cells #[ptr kp, .map (some bm), .int .i64 (if ok then 0 else 9)] 270 (0, 0))
abbrev qHp (bq kp bm : Nat) (ok : Bool) (es : Array MapEntry) (ck : Nat) (C : Hp) : Hp := qcell bq kp bm ok :: (bm, .map es ck) :: C
abbrev vr1 (v : Value) (_ : Unit) : Prop := v = .int .i64 1
abbrev mkM (made : List Nat) : List (Nat × Unit) := made.map fun r => (r, ())
theorem mkM_fst (made : List Nat) : (mkM made).map Prod.fst = made := by
 induction made with
 | nil => rfl
 | cons a l ih => simp only [mkM, List.map_cons, List.cons.injEq, true_and] at ih ⊢; exact ih
structure QSt (kp : Nat) (K0 : Kd) (S0 : Nat → Bdd.Fn) (U : Bdd.Fn → Prop) (ord lev : List Nat) (K : Kd) (S : Nat → Bdd.Fn) (made : List Nat) (es : Array MapEntry) (ck : Nat) (C : Hp) (ok : Bool) : Prop where
 ks : KSt kp K S ord lev [] C
 went : Went K0 S0 U ord K S made
 ent : Ents (kN .u32) vr1 es ck (mkM made)
 bad : ok = false → ¬ Fits U K0.cap
theorem QSt.nd {kp : Nat} {K0 : Kd} {S0 : Nat → Bdd.Fn} {U : Bdd.Fn → Prop} {ord lev : List Nat} {K : Kd} {S : Nat → Bdd.Fn} {made : List Nat} {es : Array MapEntry} {ck : Nat} {C : Hp} {ok : Bool} (h : QSt kp K0 S0 U ord lev K S made es ck C ok) : made.Nodup := by
 have := h.ent.nd
 rwa [mkM_fst] at this
structure Aft (K : Kd) (S : Nat → Bdd.Fn) (made : List Nat) (K' : Kd) (S' : Nat → Bdd.Fn) (made' : List Nat) : Prop where
 N : ∀ s d, K.N s = some d → K'.N s = some d
 fn : ∀ s, live K.N s → S' s = S s
 mem : ∀ s ∈ made, s ∈ made'
theorem Aft.refl {K : Kd} {S : Nat → Bdd.Fn} {made : List Nat} : Aft K S made K S made := ⟨fun _ _ h => h, fun _ _ => rfl, fun _ h => h⟩
theorem Aft.trans {K K' K2 : Kd} {S S' S2 : Nat → Bdd.Fn} {made made' made2 : List Nat} (h : Aft K S made K' S' made') (h' : Aft K' S' made' K2 S2 made2) : Aft K S made K2 S2 made2 :=
 ⟨fun s d hd => h'.N s d (h.N s d hd), fun s hs => (h'.fn s (live_mono h.N hs)).trans (h.fn s hs), fun s hs => h'.mem s (h.mem s hs)⟩
section
variable {kp bq bm : Nat} {K K0 : Kd} {S S0 : Nat → Bdd.Fn} {U : Bdd.Fn → Prop} {ord lev made : List Nat} {es : Array MapEntry} {ck : Nat} {C : Hp} {ok : Bool}
theorem qlevel_ok {tr : List Nat} {r : Nat} (h : KSt kp K S ord lev tr C) (hr : live K.N r) : Rd Tryz.prog 222 #[ptr bq, .agg (got K.N r).toArray] (qHp bq kp bm ok es ck C) (· = .int .i64 ((dep K.n (lv lev) K.N r : Nat) : Int)) := by
 have hlen := (got_one K.N r).1
 intro g
 refine L222_sound (R := FnR _) ?_
 unfold L222
 intro b1 _
 cases hN : K.N r with
 | none =>
  have h2 : r < 2 := by rcases hr with h | ⟨d, hd⟩; exact h; rw [hN] at hd; cases hd
  have eg : got K.N r = [.int .i64 (-1), u32 r, u32 r] := got_const h2
  rw [eg]
  refine FAddr.mk (Ld.mk (v := .int .i64 (-1)) (by exact .head _) rfl ?_)
  refine Bin.lss (Br.decT (by decide) ?_)
  refine Nil.ptr (FAddr.mk (Ld.mk (v := ptr kp) (by exact .tail _ (.head _)) rfl ?_))
  refine CallF.rd (.cons (.cons (.cons .here))) (kvars_ok h.rep) ?_
  rintro w rfl
  rw [dep_none hN]
  exact RdR.mk .tail rfl
 | some d =>
  have h2 := h.ok.wf.two hN
  have hv := h.ok.wf.var hN
  rw [got_some hN h2]
  refine FAddr.mk (Ld.mk (v := .int .i64 (d.v : Int)) (by exact .head _) rfl ?_)
  refine Bin.lss (Br.decF (by omega) ?_)
  refine DR.of (R := (b1, Obj.cells (nrow d).toArray 103 (0, 0)) :: qHp bq kp bm ok es ck C) (.refl _) ?_
  refine Nil.ptr (FAddr.mk (Ld.mk (v := ptr kp) (by exact .tail _ (.head _)) rfl ?_))
  refine FAddr.mk (Ld.mk (v := .int .i64 (d.v : Int)) (by exact .head _) rfl ?_)
  refine CallF.rd (.cons (.cons (.cons .here))) (kLevel_ok h.rep (d.v : Int)) ?_
  rw [if_pos (by omega)]
  rintro w rfl
  refine ⟨.refl _, ?_⟩
  refine Ext.mk rfl (Ext.mk rfl ?_)
  rw [dep_some hN]
  exact RdR.mk .tail rfl
theorem qat_ok {tr : List Nat} {r : Nat} (h : KSt kp K S ord lev tr C) (hr : live K.N r) : Rd Tryz.prog 214 #[ptr bq, u32 r] (qHp bq kp bm ok es ck C) (· = .tuple #[.agg (got K.N r).toArray, .int .i64 ((dep K.n (lv lev) K.N r : Nat) : Int)]) := by
 intro g
 refine L214_sound (R := FnR _) ?_
 unfold L214
 intro b1 _
 refine Nil.ptr (FAddr.mk (Ld.mk (v := ptr kp) (by exact .tail _ (.head _)) rfl ?_))
 refine CallF.rd (.cons (.cons (.cons .here))) (kNode_ok h.rep (by have := h.live_lt hr; omega)) ?_
 rw [liveB_iff.2 hr]
 rintro w rfl
 refine Ext.mk rfl (Ext.mk rfl ?_)
 intro b10 _
 refine St.whole (r := got K.N r) (by exact .head _) rfl (got_one _ _).1 (got_one _ _).2 ?_
 refine DR.of (R := [(b10, Obj.cells (got K.N r).toArray 103 (0, 0))]) (Ent.left (A := [_])) ?_
 refine LdA.whole (r := got K.N r) (by exact .head _) (got_one _ _).1 ?_
 refine LdA.whole (r := got K.N r) (by exact .head _) (got_one _ _).1 ?_
 refine CallF.rd (.cons (.cons .here)) (qlevel_ok h hr) ?_
 rintro w rfl
 refine ⟨Ent.left (A := [_]), ?_⟩
 refine St.whole (r := got K.N r) (by exact .tail (.head _)) rfl (got_one _ _).1 (got_one _ _).2 ?_
 refine ⟨Ent.left (A := [_]), ?_⟩
 refine LdA.whole (r := got K.N r) (by exact .tail _ (.head _)) (got_one _ _).1 ?_
 exact RdR.mk (.skip .tail) rfl
theorem qnode_bad (v : Value) (a b : Value) (B : Hp) : Rd Tryz.prog 215 #[ptr bq, v, a, b] (qcell bq kp bm false :: B) (· = u32 0) := by
 intro g
 refine L215_sound (R := FnR _) ?_
 unfold L215
 refine Nil.ptr (FAddr.mk (Ld.mk (v := .int .i64 9) (by exact .head _) rfl ?_))
 exact Bin.neD (Br.decT (by decide) (RdR.mk (.refl _) rfl))
theorem Went.stepQ (h : Went K0 S0 U ord K S made) (hK : KSt kp K S ord lev [] C) {K' : Kd} {S' : Nat → Bdd.Fn} {f : Bdd.Fn} {r : Nat} (m : MakeR K S K' S' f r) (h2 : 2 ≤ r) (hU : ∀ g, NodeSet K0.n ord (fun g => g = f) g → U g) : Went K0 S0 U ord K' S' (made ++ [r]) := h.step hK m h2 hU
theorem Went.again (h : Went K0 S0 U ord K S made) (hK : KSt kp K S ord lev [] C) {K' K2 : Kd} {S' : Nat → Bdd.Fn} {f : Bdd.Fn} {r : Nat} {C2 : Hp} (m : MakeR K S K' S' f r) (hf : Fewer K' K2 r) (hK2 : KSt kp K2 S' ord lev [] C2) : Went K0 S0 U ord K2 S' made ∧ (∀ s d, K.N s = some d → K2.N s = some d) := by
 have hold : ∀ s, K2.hold s = K.hold s := fun s => by
  rw [hf.hold, m.hold]
  by_cases e : s = r ∧ 2 ≤ r
  ·rw [if_pos e, if_pos e]; omega
  ·rw [if_neg e, if_neg e]
 have hN : ∀ s d, K.N s = some d → K2.N s = some d := fun s d hs => keep_nodes hK.ok hK2.ok (fun s h => by rw [hold]; exact h) (fun s d d' h1 h2 => by
  have a := hf.N s d' h2
  rw [m.N s d h1] at a; exact (Option.some.inj a).symm) _ s d hs (Nat.le_refl _)
 refine ⟨⟨hf.n.trans (m.n.trans h.n), hf.cap.trans (m.cap.trans h.cap), fun s d hd => hN s d (h.N s d hd), fun s hs => (m.fn s (h.live hs)).trans (h.fn s hs), fun s => by rw [hold, h.hold], h.two, fun g hg => h.U g (nodesMono (fun g => ?_) hg)⟩, hN⟩
 rintro ⟨s, hs, rfl⟩
 have hs' : K.hold s ≠ 0 := by rw [← hold]; exact hs
 exact ⟨s, hs', m.fn s (.inr (hK.ok.mid.held s hs'))⟩
theorem mset_new {made : List Nat} {r : Nat} (h : r ∉ made) : mset (mkM made) r () = mkM (made ++ [r]) := by
 unfold mset
 rw [if_neg (by rw [mkM_fst]; exact h)]
 simp [mkM]
theorem mget_made {made : List Nat} {r : Nat} : (r ∈ made → mget (mkM made) r = some ()) ∧ (r ∉ made → mget (mkM made) r = none) := by
 refine ⟨fun h => ?_, fun h => mget_none.2 (by rw [mkM_fst]; exact h)⟩
 cases e : mget (mkM made) r with
 | none => have := mget_none.1 e; rw [mkM_fst] at this; exact absurd h this
 | some u => rfl
theorem qnode_ok (hq : QSt kp K0 S0 U ord lev K S made es ck C true) {v lo hi : Nat} (hv : v < K.n) (hlo : live K.N lo) (hhi : live K.N hi) (hlt : lv lev v < dep K.n (lv lev) K.N lo ∧ lv lev v < dep K.n (lv lev) K.N hi)
  (hU : ∀ g, NodeSet K0.n ord (fun g => g = ite S ⟨v, lo, hi⟩) g → U g) (hself : lo ≠ hi → U (ite S ⟨v, lo, hi⟩)) (hf : ∀ s, K0.hold s + 1 < 65535) :
  Fc Tryz.prog 215 #[ptr bq, .int .i64 (v : Int), u32 lo, u32 hi] (qHp bq kp bm true es ck C) (fun w H => ∃ r K' S' made' es' ck' C' ok', w = u32 r ∧ H = qHp bq kp bm ok' es' ck' C' ∧ QSt kp K0 S0 U ord lev K' S' made' es' ck' C' ok' ∧ Aft K S made K' S' made' ∧
   (ok' = true → S' r = ite S ⟨v, lo, hi⟩ ∧ (r < 2 ∨ r ∈ made'))) := by
 have hK := hq.ks
 have hnd := hq.nd
 have hh : ∀ s, K.hold s < 65535 := fun s => by
  rw [hq.went.hold]
  have : made.count s ≤ 1 := List.nodup_iff_count.1 hnd s
  have := hf s
  omega
 intro g
 refine L215_sound (R := FnR _) ?_
 unfold L215
 refine Nil.ptr (FAddr.mk (Ld.mk (v := .int .i64 0) (by exact .head _) rfl ?_))
 refine Bin.neD (Br.decF (by decide) ?_)
 refine Nil.ptr (FAddr.mk (Ld.mk (v := ptr kp) (by exact .head _) rfl ?_))
 refine CallF.fn (.cons (.cons .here)) (make_ok hK hv hlo hhi (.inr hlt)) ?_
 rintro w C' (⟨r, K', S', rfl, hK', mk⟩ | ⟨r, rfl, _, _, _, hfull, _⟩ | ⟨rfl, rfl, hcap, hne, hT⟩)
 ·refine Ext.mk rfl (Ext.mk rfl ?_)
  intro J hJ
  refine Bin.eqD (Br.decF (by decide) ?_)
  refine Bin.neD (Br.decF (by decide) ?_)
  refine Bin.leN (b := 1) ?_
  have hr32 : r < 4294967296 := by have := hK'.live_lt mk.live; omega
  have hA : Aft K S made K' S' made := ⟨mk.N, mk.fn, fun _ h => h⟩
  have drop : (r < 2 ∨ r ∈ made) → Nil (ptr bq) fun v36 => FAddr 0 v36 fun v37 => Ld (qcell bq kp bm true :: (bm, Obj.map es ck) :: C') v37 fun v38 => CallF Tryz.prog g 12 #[v38, u32 r] (qcell bq kp bm true :: (bm, Obj.map es ck) :: C') (fun v39 H40 => JE J [u32 r] H40) (PanR (FnR fun w H => ∃ r K' S' made' es' ck' C' ok', w = u32 r ∧ H = qHp bq kp bm ok' es' ck' C' ∧ QSt kp K0 S0 U ord lev K' S' made' es' ck' C' ok' ∧ Aft K S made K' S' made' ∧
   (ok' = true → S' r = ite S ⟨v, lo, hi⟩ ∧ (r < 2 ∨ r ∈ made')))) := fun hr => by
   refine Nil.ptr (FAddr.mk (Ld.mk (v := ptr kp) (by exact .head _) rfl ?_))
   refine CallF.fn (.cons (.cons .here)) (drop_ok hK' (r := r) hr32 (fun h2 => by rw [mk.hold, if_pos ⟨rfl, h2⟩]; omega)) ?_
   rintro w C2 ⟨rfl, K2, hK2, f2⟩
   obtain ⟨hw2, hN2⟩ := hq.went.again hK mk f2 hK2
   refine JE.mk (hJ _ _ fun gs => ?_)
   exact FnR.here ⟨r, K2, S', made, es, ck, C2, true, rfl, rfl, ⟨hK2, hw2, hq.ent, fun h => by cases h⟩, ⟨hN2, mk.fn, fun _ h => h⟩, fun _ => ⟨mk.is, hr⟩⟩
  by_cases h2 : r < 2
  ·rw [decide_eq_true (by omega)]
   refine Grp.or (a := true) true (fun h => by cases h) (by simp) fun gs => Br.yes ?_
   exact drop (.inl h2)
  ·rw [decide_eq_false (by omega)]
   refine Grp.or (a := false) (decide (r ∈ made)) (fun _ => ?_) (by simp) fun gs => ?_
   ·refine Nil.ptr (FAddr.mk (Ld.mk (v := .map (some bm)) (by exact .head _) rfl ?_))
    by_cases hm : r ∈ made
    ·refine Ents.hit (k := r) (x := ()) kN_same hq.ent (.tail _ (.head _)) (mget_made.1 hm) ?_
     rintro v rfl
     exact Bin.gtr ⟨rfl, by rw [decide_eq_true hm]; rfl⟩
    ·refine Ents.miss (k := r) kN_same hq.ent (.tail _ (.head _)) (mget_made.2 hm) ?_
     exact Bin.gtr ⟨rfl, by rw [decide_eq_false hm]; rfl⟩
   ·rw [Bool.false_or]
    refine Br.dec (fun hm => drop (.inr hm)) (fun hm => ?_)
    refine Nil.ptr (FAddr.mk (Ld.mk (v := .map (some bm)) (by exact .head _) rfl ?_))
    refine Ents.upd (k := r) (x := ()) kN_same kN_bits hq.ent rfl fun es' ck' he => ⟨_, .tail (.head _), ?_⟩
    rw [mset_new hm] at he
    refine JE.mk (hJ _ _ fun gs => ?_)
    exact FnR.here ⟨r, K', S', made ++ [r], es', ck', C', true, rfl, rfl, ⟨hK', hq.went.stepQ hK mk (by omega) hU, he, fun h => by cases h⟩, ⟨mk.N, mk.fn, fun _ h => List.mem_append_left _ h⟩, fun _ => ⟨mk.is, .inr (by simp)⟩⟩
 ·have := hh r; omega
 ·refine Ext.mk rfl (Ext.mk rfl ?_)
  intro J hJ
  refine Bin.eqD (Br.decF (by decide) ?_)
  refine Bin.neD (Br.decT (by decide) ?_)
  refine Nil.ptr (FAddr.mk (St.one (by exact .head _) rfl (by simp) rfl ?_))
  refine JE.mk (hJ _ _ fun gs => ?_)
  refine FnR.here ⟨0, K, S, made, es, ck, C', false, rfl, rfl, ⟨hK, hq.went, hq.ent, fun _ => ?_⟩, .refl, fun h => by cases h⟩
  rintro ⟨ku, hku, hfit⟩
  have := hK.ok.roomFor hK.od hku (by rw [hq.went.cap]; exact hfit) (by rw [hq.went.n]; exact hq.went.U) (d := ⟨v, lo, hi⟩) hlo hhi hne hv hlt (hself hne) hT
  omega
end
end Go.Proofs
set_option maxRecDepth 100000
namespace Go.Proofs
open Go Go.Sx
open Bdd
def pk (p : Nat × Nat) : Value := .agg #[u32 p.1, u32 p.2]
theorem pk_eq (a b : Nat × Nat) : EqV Tryz.prog 283 (pk a) (pk b) (decide (a = b)) := by
 refine EqV.flat (fs := #[⟨"f", 31, 0, false, "", "thicket/quant", 0⟩, ⟨"g", 31, 1, false, "", "thicket/quant", 4⟩]) (by kernel_rfl) (by kernel_rfl) ?_ ?_
 ·intro f hf
  simp only [List.mem_cons, List.not_mem_nil, or_false] at hf
  rcases hf with rfl | rfl
  ·exact ⟨by decide, _, _, rfl, rfl, .inl ⟨.u32, _, _, by kernel_rfl, rfl, rfl⟩⟩
  ·exact ⟨by decide, _, _, rfl, rfl, .inl ⟨.u32, _, _, by kernel_rfl, rfl, rfl⟩⟩
 ·obtain ⟨a1, a2⟩ := a
  obtain ⟨b1, b2⟩ := b
  simp [u32]
  omega
theorem pk_chk (a : Nat × Nat) : ChkV Tryz.prog 283 (pk a) := by
 refine ChkV.flat (fs := #[⟨"f", 31, 0, false, "", "thicket/quant", 0⟩, ⟨"g", 31, 1, false, "", "thicket/quant", 4⟩]) (by kernel_rfl) ?_
 intro f hf
 simp only [List.mem_cons, List.not_mem_nil, or_false] at hf
 rcases hf with rfl | rfl
 ·exact ⟨by decide, _, rfl, .inl ⟨.u32, _, _, by kernel_rfl, rfl, rfl⟩⟩
 ·exact ⟨by decide, _, rfl, .inl ⟨.u32, _, _, by kernel_rfl, rfl, rfl⟩⟩
theorem pk_bits (a : Nat × Nat) : Instr.sameBits 10000 (pk a) (pk a) = true := sameBits_flat 9998 (by intro x hx; simp [u32] at hx; rcases hx with rfl | rfl <;> exact .inl ⟨_, _, rfl⟩)
def clo223 (b3 b5 b1 b14 b17 : Nat) : Value := .func (.func 223) #[] #[ptr b3, ptr b5, ptr b1, ptr b14, ptr b17]
def JKn (K0 : Kd) (F : Nat × Nat → Bdd.Fn) (S : Nat → Bdd.Fn) (made : List Nat) (ok : Bool) (es : Array MapEntry) (ck : Nat) : Prop :=
 ∃ m : List ((Nat × Nat) × Nat), Ents pk vrR es ck m ∧ (ok = true → ∀ y ∈ m, S y.2 = F y.1 ∧ (live K0.N y.2 ∨ y.2 ∈ made))
abbrev jHp (e : Bool) (b3 b5 b1 b14 b17 bj bq kp bm : Nat) (ok : Bool) (jes : Array MapEntry) (jck : Nat) (es : Array MapEntry) (ck : Nat) (C : Hp) : Hp :=
 (b17, .cells #[clo223 b3 b5 b1 b14 b17] 281 (0, 0)) :: (b14, .cells #[.map (some bj)] 280 (0, 0)) :: (bj, .map jes jck) :: (b5, .cells #[u32 (!e).toNat] 31 (0, 0)) :: (b3, .cells #[u32 e.toNat] 31 (0, 0)) :: (b1, .cells #[ptr bq] 262 (0, 0)) :: qHp bq kp bm ok es ck C
section
variable {kp bq bm b3 b5 b1 b14 b17 bj : Nat} {K0 : Kd} {S0 : Nat → Bdd.Fn} {U : Bdd.Fn → Prop} {ord lev : List Nat} {e : Bool}
theorem QSt.live0 {K : Kd} {S : Nat → Bdd.Fn} {made : List Nat} {es : Array MapEntry} {ck : Nat} {C : Hp} {ok : Bool} (h : QSt kp K0 S0 U ord lev K S made es ck C ok) {r : Nat} (hr : live K0.N r ∨ r ∈ made) : live K.N r := by
 rcases hr with hr | hr
 ·exact h.went.live hr
 ·exact h.went.made_live h.ks hr
theorem JKn.more {F : Nat × Nat → Bdd.Fn} {K K' : Kd} {S S' : Nat → Bdd.Fn} {made made' : List Nat} {es jes : Array MapEntry} {ck jck : Nat} {C : Hp} {ok ok' : Bool} (hq : QSt kp K0 S0 U ord lev K S made es ck C ok) (h : JKn K0 F S made ok jes jck) (ha : Aft K S made K' S' made') (hok : ok' = true → ok = true) : JKn K0 F S' made' ok' jes jck := by
 obtain ⟨m, h1, h2⟩ := h
 refine ⟨m, h1, fun h y hy => ?_⟩
 obtain ⟨a, b⟩ := h2 (hok h) y hy
 exact ⟨by rw [ha.fn _ (hq.live0 b), a], b.imp id (ha.mem _)⟩
def JOut (kp : Nat) (K0 : Kd) (S0 : Nat → Bdd.Fn) (U : Bdd.Fn → Prop) (ord lev : List Nat) (e : Bool) (b3 b5 b1 b14 b17 bj bq bm : Nat) (K : Kd) (S : Nat → Bdd.Fn) (made : List Nat) (ok : Bool) (f : Bdd.Fn) (w : Value) (H : Hp) : Prop :=
 ∃ x K' S' made' es' ck' C' ok' jes' jck', w = u32 x ∧ H = jHp e b3 b5 b1 b14 b17 bj bq kp bm ok' jes' jck' es' ck' C' ∧ QSt kp K0 S0 U ord lev K' S' made' es' ck' C' ok' ∧ JKn K0 (fun p => jf e S0 p.1 p.2) S' made' ok' jes' jck' ∧ Aft K S made K' S' made' ∧
  (ok' = true → ok = true ∧ S' x = f ∧ (live K0.N x ∨ x ∈ made'))
theorem got_form {N : Sto} {n : Nat} {lev' : Nat → Nat} (h : WF n lev' N) (hl : Lev n lev') {r v : Nat} (hr : live N r) (hv : v < n) (hle : lev' v ≤ dep n lev' N r) :
  ∃ z p q, got N r = [.int .i64 z, u32 p, u32 q] ∧ (lev' v = dep n lev' N r → z = (v : Int) ∧ p = cofr N v false r ∧ q = cofr N v true r) ∧ (lev' v < dep n lev' N r → cofr N v false r = r ∧ cofr N v true r = r) := by
 have hlv := hl.lt v hv
 cases e : N r with
 | none =>
  have h2 : r < 2 := by rcases hr with h | ⟨d, hd⟩; exact h; rw [e] at hd; cases hd
  refine ⟨_, _, _, got_const h2, fun h3 => ?_, fun h3 => ⟨cofr_up h hl h3 _, cofr_up h hl h3 _⟩⟩
  rw [dep_none e] at h3; omega
 | some d =>
  refine ⟨_, _, _, got_some e (h.two e), fun h3 => ?_, fun h3 => ⟨cofr_up h hl h3 _, cofr_up h hl h3 _⟩⟩
  rw [dep_some e] at h3
  have : v = d.v := hl.inj _ _ hv (h.var e) h3
  subst this
  obtain ⟨c1, c2⟩ := cofr_at (N := N) e
  exact ⟨rfl, c1.symm, c2.symm⟩
set_option maxHeartbeats 2000000 in
theorem join1_ok (hcl : callable Tryz.prog 223 = true) (hW0 : WF K0.n (lv lev) K0.N) (hI0 : Interp K0.N S0) (hL0 : Lev K0.n (lv lev)) (hod : Bdd.Ord K0.n (lv lev) ord) (hf : ∀ s, K0.hold s + 1 < 65535) :
  ∀ (k a b : Nat), K0.n - min (dep K0.n (lv lev) K0.N a) (dep K0.n (lv lev) K0.N b) = k → ∀ (K : Kd) (S : Nat → Bdd.Fn) (made : List Nat) (es : Array MapEntry) (ck : Nat) (C : Hp) (ok : Bool) (jes : Array MapEntry) (jck : Nat),
  live K0.N a → live K0.N b → QSt kp K0 S0 U ord lev K S made es ck C ok → JKn K0 (fun p => jf e S0 p.1 p.2) S made ok jes jck → (∀ g, NodeSet K0.n ord (fun g => g = jf e S0 a b) g → U g) →
  Fc Tryz.prog 223 #[u32 a, u32 b, ptr b3, ptr b5, ptr b1, ptr b14, ptr b17] (jHp e b3 b5 b1 b14 b17 bj bq kp bm ok jes jck es ck C) (JOut kp K0 S0 U ord lev e b3 b5 b1 b14 b17 bj bq bm K S made ok (jf e S0 a b)) := by
 have hc0 : ∀ r, r < 2 → K0.N r = none := fun r hr => hW0.const hr
 intro k
 induction k using Nat.strongRecOn with
 | ind k ih =>
 intro a b hk K S made es ck C ok jes jck ha hb hS hJ hU g
 have hK := hS.ks
 have hcK : ∀ r, r < 2 → K.N r = none := fun r hr => hK.ok.wf.const hr
 have eN := hS.went.n
 have la := hS.went.live ha
 have lb := hS.went.live hb
 have now : ∀ x, live K0.N x → (S0 x = jf e S0 a b) → ∀ Z : Hp, FnR (JOut kp K0 S0 U ord lev e b3 b5 b1 b14 b17 bj bq bm K S made ok (jf e S0 a b)) (.returned (u32 x)) (Z ++ jHp e b3 b5 b1 b14 b17 bj bq kp bm ok jes jck es ck C) := fun x hx hf Z =>
  FnR.mk .right ⟨x, K, S, made, es, ck, C, ok, jes, jck, rfl, rfl, hS, hJ, .refl, fun h => ⟨h, by rw [hS.went.fn x hx]; exact hf, .inl hx⟩⟩
 have he1 : e.toNat < 2 := by cases e <;> decide
 have hn1 : (!e).toNat < 2 := by cases e <;> decide
 refine L223_sound (R := FnR _) ?_
 unfold L223
 refine Ld.mk (v := u32 e.toNat) (by exact .tail _ (.tail _ (.tail _ (.tail _ (.head _))))) rfl ?_
 refine Bin.eqN ?_
 refine Grp.or (decide (b = e.toNat)) (fun _ => ?_) (by simp) fun gs => ?_
 ·refine Ld.mk (v := u32 e.toNat) (by exact .tail _ (.tail _ (.tail _ (.tail _ (.head _))))) rfl ?_
  exact Bin.eqN ⟨rfl, rfl⟩
 rw [← Bool.decide_or]
 refine Br.dec (fun h1 => ?_) (fun h1 => ?_)
 ·refine Ld.mk (v := u32 e.toNat) (by exact .tail _ (.tail _ (.tail _ (.tail _ (.head _))))) rfl ?_
  refine now _ (.inl he1) ?_ []
  rcases h1 with rfl | rfl
  ·exact (jf_abs hI0 e b).symm
  ·rw [jf_comm]; exact (jf_abs hI0 e a).symm
 refine Ld.mk (v := u32 (!e).toNat) (by exact .tail _ (.tail _ (.tail _ (.head _)))) rfl ?_
 refine Bin.eqN ?_
 refine Grp.or (decide (a = b)) (fun _ => Bin.eqN ⟨rfl, rfl⟩) (by simp) fun gs => ?_
 rw [← Bool.decide_or]
 refine Br.dec (fun h2 => ?_) (fun h2 => ?_)
 ·refine now b hb ?_ []
  rcases h2 with rfl | rfl
  ·exact (jf_neu hI0 e b).symm
  ·exact (jf_self e S0 a).symm
 refine Ld.mk (v := u32 (!e).toNat) (by exact .tail _ (.tail _ (.tail _ (.head _)))) rfl ?_
 refine Bin.eqN (Br.dec (fun h3 => ?_) (fun h3 => ?_))
 ·refine now a ha ?_ []
  rw [h3, jf_comm]; exact (jf_neu hI0 e a).symm
 refine Ld.mk (v := ptr bq) (by exact .tail _ (.tail _ (.tail _ (.tail _ (.tail _ (.head _)))))) rfl ?_
 refine Nil.ptr (FAddr.mk (Ld.mk (v := .int .i64 (if ok then 0 else 9)) (by exact .tail _ (.tail _ (.tail _ (.tail _ (.tail _ (.tail _ (.head _))))))) rfl ?_))
 cases ok with
 | false =>
  refine Bin.neD (Br.decT (by decide) ?_)
  exact FnR.here ⟨0, K, S, made, es, ck, C, false, jes, jck, rfl, rfl, hS, hJ, .refl, fun h => by cases h⟩
 | true =>
 refine Bin.neD (Br.decF (by decide) ?_)
 refine ⟨.u32, (a : Int), (b : Int), rfl, rfl, ⟨.u32, (a : Int), (b : Int), rfl, rfl, ?_⟩⟩
 have emin : (if (b : Int) < (a : Int) then (b : Int) else (a : Int)) = ((min a b : Nat) : Int) := by split <;> omega
 have emax : (if (b : Int) > (a : Int) then (b : Int) else (a : Int)) = ((max a b : Nat) : Int) := by split <;> omega
 rw [emin, emax]
 refine Build.mk (cs := [u32 (min a b), u32 (max a b)]) (by kernel_rfl) ?_
 intro b23 _
 refine St.whole (r := [u32 (min a b), u32 (max a b)]) (by exact .head _) rfl rfl (by intro x hx; simp [u32] at hx; rcases hx with rfl | rfl <;> rfl) ?_
 refine Ld.mk (v := .map (some bj)) (by exact .tail _ (.tail _ (.head _))) rfl ?_
 refine LdA.whole (r := [u32 (min a b), u32 (max a b)]) (by exact .head _) rfl ?_
 obtain ⟨m, hE, hkn⟩ := hJ
 have hmm : (bj, Obj.map jes jck) ∈ (b23, Obj.cells #[u32 (min a b), u32 (max a b)] 283 (0, 0)) :: jHp e b3 b5 b1 b14 b17 bj bq kp bm true jes jck es ck C := .tail _ (.tail _ (.tail _ (.head _)))
 cases hg : mget m (min a b, max a b) with
 | some x =>
  refine Ents.hitS (ke := pk) (k := (min a b, max a b)) pk_eq pk_chk hE hmm hg ?_
  rintro v rfl
  obtain ⟨g1, g2⟩ := hkn rfl _ ((mget_mem hE.nd).1 hg)
  refine Ext.mk rfl (Ext.mk rfl (Br.yes ?_))
  refine FnR.mk .tail ⟨x, K, S, made, es, ck, C, true, jes, jck, rfl, rfl, hS, ⟨m, hE, hkn⟩, .refl, fun h => ⟨h, ?_, g2⟩⟩
  rw [g1]; exact jf_mm e S0 a b
 | none =>
 refine Ents.missS (ke := pk) (k := (min a b, max a b)) pk_eq pk_chk hE hmm hg ?_
 refine Ext.mk rfl (Ext.mk rfl (Br.no ?_))
 refine Ld.mk (v := ptr bq) (by exact .tail _ (.tail _ (.tail _ (.tail _ (.tail _ (.tail _ (.head _))))))) rfl ?_
 refine CallF.rd (.cons (.cons (.cons (.cons (.cons (.cons (.cons .here))))))) (qat_ok (bm := bm) (ok := true) (es := es) (ck := ck) hK la) ?_
 rintro w rfl
 refine Ext.mk rfl (Ext.mk rfl ?_)
 intro b36 _
 refine St.whole (r := got K.N a) (by exact .head _) rfl (got_one _ _).1 (got_one _ _).2 ?_
 refine Ld.mk (v := ptr bq) (by exact .tail _ (.tail _ (.tail _ (.tail _ (.tail _ (.tail _ (.tail _ (.head _)))))))) rfl ?_
 refine CallF.rd (.cons (.cons (.cons (.cons (.cons (.cons (.cons (.cons .here)))))))) (qat_ok (bm := bm) (ok := true) (es := es) (ck := ck) hK lb) ?_
 rintro w rfl
 refine Ext.mk rfl (Ext.mk rfl ?_)
 intro b44 _
 refine St.whole (r := got K.N b) (by exact .head _) rfl (got_one _ _).1 (got_one _ _).2 ?_
 rw [got_same hS.went.N hc0 hcK ha, got_same hS.went.N hc0 hcK hb, eN, dep_more hS.went.N hcK hc0 ha, dep_more hS.went.N hcK hc0 hb]
 have hmin : min (dep K0.n (lv lev) K0.N a) (dep K0.n (lv lev) K0.N b) < K0.n := by
  refine Classical.byContradiction fun hn => h2 (.inr ?_)
  have cst : ∀ r, live K0.N r → K0.n ≤ dep K0.n (lv lev) K0.N r → r < 2 := fun r hr hd => by
   rcases hr with h | ⟨d, hd'⟩
   ·exact h
   ·rw [dep_some hd'] at hd
    have := hL0.lt _ (hW0.var hd'); omega
  have a2 := cst a ha (by omega)
  have b2 := cst b hb (by omega)
  cases e <;> simp only [Bool.toNat_true, Bool.toNat_false, Bool.not_true, Bool.not_false] at h1 h2 <;> omega
 obtain ⟨v, hv, hvl⟩ := top2 hW0 hL0 (hc0 0 (by omega)) hmin
 have hva := hv.le a (by simp)
 have hvb := hv.le b (by simp)
 obtain ⟨za, pa, qa, ega, ga1, ga2⟩ := got_form hW0 hL0 ha hv.lt hva
 obtain ⟨zb, pb, qb, egb, gb1, gb2⟩ := got_form hW0 hL0 hb hv.lt hvb
 rw [ega, egb]
 have hlive : ∀ r ∈ [a, b, 0], live K0.N r := fun r hr => by
  simp only [List.mem_cons, List.not_mem_nil, or_false] at hr
  rcases hr with rfl | rfl | rfl
  ·exact ha
  ·exact hb
  ·exact .inl (by omega)
 obtain ⟨f1, f2⟩ := cofq_ok (S := S0) hW0 hL0 hI0 hlive hv false
 obtain ⟨t1, t2⟩ := cofq_ok (S := S0) hW0 hL0 hI0 hlive hv true
 rw [cofq_two v _ a b (hc0 0 (by omega))] at f1 f2 t1 t2
 have ec : ∀ bb, jf e S0 (cofr K0.N v bb a) (cofr K0.N v bb b) = fun x => jf e S0 a b (Tab.setb x v bb) := fun bb => by
  have := evq_cof (S := S0) hW0 hL0 hI0 rfl hlive hv (jt3 e) bb
  rw [cofq_two v _ a b (hc0 0 (by omega))] at this
  exact this
 generalize ea1 : cofr K0.N v false a = a1 at *
 generalize ea2 : cofr K0.N v true a = a2 at *
 generalize ec1 : cofr K0.N v false b = c1 at *
 generalize ec2 : cofr K0.N v true b = c2 at *
 have hlt' := hL0.lt v hv.lt
 have hov := hod.of hL0 hv.lt
 have hind : ∀ j, j < lv lev v → ¬ hangs (jf e S0 a b) (ord.getD j 0) := evq_indep hW0 hL0 hI0 hod (q := [a, b, 0]) rfl hlive (Nat.le_of_lt hlt') hv.le (jt3 e)
 obtain ⟨i1, sub1⟩ := sub_child (n := K0.n) (ord := ord) (c := jf e S0 a1 c1) hind (b := false) (by rw [hov, ← ea1, ← ec1]; exact ec false)
 obtain ⟨i2, sub2⟩ := sub_child (n := K0.n) (ord := ord) (c := jf e S0 a2 c2) hind (b := true) (by rw [hov, ← ea2, ← ec2]; exact ec true)
 have eF : jf e S0 a1 c1 = fun x => jf e S0 a b (Tab.setb x v false) := by rw [← ea1, ← ec1]; exact ec false
 have eT : jf e S0 a2 c2 = fun x => jf e S0 a b (Tab.setb x v true) := by rw [← ea2, ← ec2]; exact ec true
 have la1 := f1 a1 (by simp)
 have lc1 := f1 c1 (by simp)
 have la2 := t1 a2 (by simp)
 have lc2 := t1 c2 (by simp)
 have da1 := f2 a1 (by simp)
 have dc1 := f2 c1 (by simp)
 have da2 := t2 a2 (by simp)
 have dc2 := t2 c2 (by simp)
 refine FAddr.mk (Ld.mk (v := .int .i64 za) (by exact .tail _ (.head _)) rfl ?_)
 intro J49 h49
 have h49' : J49 [.int .i64 (v : Int)] ((b44, .cells #[.int .i64 zb, u32 pb, u32 qb] 103 (0, 0)) :: (b36, .cells #[.int .i64 za, u32 pa, u32 qa] 103 (0, 0)) :: (b23, .cells #[u32 (min a b), u32 (max a b)] 283 (0, 0)) :: jHp e b3 b5 b1 b14 b17 bj bq kp bm true jes jck es ck C) := by
  refine h49 _ _ fun gs J53 h53 => ?_
  have h53' : J53 [] ((b44, .cells #[.int .i64 zb, u32 pb, u32 qb] 103 (0, 0)) :: (b36, .cells #[.int .i64 za, u32 a1, u32 a2] 103 (0, 0)) :: (b23, .cells #[u32 (min a b), u32 (max a b)] 283 (0, 0)) :: jHp e b3 b5 b1 b14 b17 bj bq kp bm true jes jck es ck C) := by
   refine h53 _ fun gs J56 h56 => ?_
   have h56' : J56 [] ((b44, .cells #[.int .i64 zb, u32 c1, u32 c2] 103 (0, 0)) :: (b36, .cells #[.int .i64 za, u32 a1, u32 a2] 103 (0, 0)) :: (b23, .cells #[u32 (min a b), u32 (max a b)] 283 (0, 0)) :: jHp e b3 b5 b1 b14 b17 bj bq kp bm true jes jck es ck C) := by
    refine h56 _ fun gs => ?_
    refine Ld.mk (v := clo223 b3 b5 b1 b14 b17) (by exact .tail _ (.tail _ (.tail _ (.head _)))) rfl ?_
    refine FAddr.mk (Ld.mk (v := u32 a1) (by exact .tail _ (.head _)) rfl ?_)
    refine FAddr.mk (Ld.mk (v := u32 c1) (by exact .head _) rfl ?_)
    refine CallV.of rfl hcl ?_
    have hJ0 : JKn K0 (fun p => jf e S0 p.1 p.2) S made true jes jck := ⟨m, hE, hkn⟩
    refine CallF.fn (args := #[u32 a1, u32 c1, ptr b3, ptr b5, ptr b1, ptr b14, ptr b17]) (.cons (.cons (.cons .here))) (ih _ (by omega) a1 c1 rfl K S made es ck C true jes jck la1 lc1 hS hJ0 (fun g hg => hU g (sub1 g hg))) ?_
    rintro w H ⟨x1, K1, S1, made1, es1, ck1, C1, ok1, jes1, jck1, rfl, rfl, hS1, hJ1, hA1, ho1⟩
    refine DR.of (R := [(b44, .cells #[.int .i64 zb, u32 c1, u32 c2] 103 (0, 0)), (b36, .cells #[.int .i64 za, u32 a1, u32 a2] 103 (0, 0)), (b17, .cells #[clo223 b3 b5 b1 b14 b17] 281 (0, 0)), (b1, .cells #[ptr bq] 262 (0, 0))]) (.cons (.cons (.skip (.cons (.skip (.skip (.skip (.skip (Ent.left (A := [_]))))))))) ) ?_
    refine Ld.mk (v := ptr bq) (by exact .tail _ (.tail _ (.tail _ (.head _)))) rfl ?_
    refine Ld.mk (v := clo223 b3 b5 b1 b14 b17) (by exact .tail _ (.tail _ (.head _))) rfl ?_
    refine FAddr.mk (Ld.mk (v := u32 a2) (by exact .tail _ (.head _)) rfl ?_)
    refine FAddr.mk (Ld.mk (v := u32 c2) (by exact .head _) rfl ?_)
    refine CallV.of rfl hcl ?_
    refine CallF.fn (args := #[u32 a2, u32 c2, ptr b3, ptr b5, ptr b1, ptr b14, ptr b17]) (.cons (.cons (.cons .here))) (ih _ (by omega) a2 c2 rfl K1 S1 made1 es1 ck1 C1 ok1 jes1 jck1 la2 lc2 hS1 hJ1 (fun g hg => hU g (sub2 g hg))) ?_
    rintro w H ⟨x2, K2, S2, made2, es2, ck2, C2, ok2, jes2, jck2, rfl, rfl, hS2, hJ2, hA2, ho2⟩
    refine ⟨.cons (.cons (.skip (.cons (.skip (.skip (.skip (.skip (Ent.left (A := [_])))))))) ), ?_⟩
    have hA12 := hA1.trans hA2
    have fin : ∀ (x3 : Nat) K3 S3 made3 es3 ck3 C3 ok3, QSt kp K0 S0 U ord lev K3 S3 made3 es3 ck3 C3 ok3 → Aft K2 S2 made2 K3 S3 made3 → (ok3 = true → ok2 = true ∧ S3 x3 = jf e S0 a b ∧ (live K0.N x3 ∨ x3 ∈ made3)) →
      ∀ H49, H49 = (b44, .cells #[.int .i64 zb, u32 c1, u32 c2] 103 (0, 0)) :: (b36, .cells #[.int .i64 za, u32 a1, u32 a2] 103 (0, 0)) :: (b23, .cells #[u32 (min a b), u32 (max a b)] 283 (0, 0)) :: jHp e b3 b5 b1 b14 b17 bj bq kp bm ok3 jes2 jck2 es3 ck3 C3 →
      Ent H49 [(b44, .cells #[.int .i64 zb, u32 c1, u32 c2] 103 (0, 0)), (b36, .cells #[.int .i64 za, u32 a1, u32 a2] 103 (0, 0)), (b17, .cells #[clo223 b3 b5 b1 b14 b17] 281 (0, 0)), (b1, .cells #[ptr bq] 262 (0, 0))] ∧
      Ld H49 (ptr b14) fun v77 => LdA 2 H49 (ptr b23) fun v78 => MapUpdS Tryz.prog 283 H49 v77 v78 (u32 x3) fun H79 => FnR (JOut kp K0 S0 U ord lev e b3 b5 b1 b14 b17 bj bq bm K S made true (jf e S0 a b)) (.returned (u32 x3)) H79 := by
     rintro x3 K3 S3 made3 es3 ck3 C3 ok3 hS3 hA3 ho3 H49 rfl
     refine ⟨.cons (.cons (.skip (.cons (.skip (.skip (.skip (.skip (Ent.left (A := [_])))))))) ), ?_⟩
     refine Ld.mk (v := .map (some bj)) (by exact .tail _ (.tail _ (.tail _ (.tail _ (.head _))))) rfl ?_
     refine LdA.whole (r := [u32 (min a b), u32 (max a b)]) (by exact .tail _ (.tail _ (.head _))) rfl ?_
     obtain ⟨m3, hE3, hkn3⟩ := hJ2.more hS2 hA3 (fun h => (ho3 h).1)
     refine Ents.updS (ke := pk) (k := (min a b, max a b)) (vr := vrR) (x := x3) pk_eq pk_chk pk_bits hE3 rfl fun es' ck' he => ⟨_, .tail (.tail (.tail (.tail (.tail (.head _))))), ?_⟩
     refine FnR.mk (.skip (.skip .tail)) ⟨x3, K3, S3, made3, es3, ck3, C3, ok3, es', ck', rfl, rfl, hS3, ⟨_, he, fun h y hy => (mset_mem hy).elim (fun e1 => ?_) (fun hy => hkn3 h y hy)⟩, hA12.trans hA3, fun h => ⟨rfl, (ho3 h).2⟩⟩
     rw [e1]
     exact ⟨(ho3 h).2.1.trans (jf_mm e S0 a b).symm, (ho3 h).2.2⟩
    cases ok2 with
    | false =>
     refine CallF.rd (args := #[ptr bq, .int .i64 (v : Int), u32 x1, u32 x2]) (.cons (.cons (.cons (.cons (.cons (.cons (.cons (.cons (.cons .here))))))))) (qnode_bad (kp := kp) (bm := bm) _ _ _ _) ?_
     rintro w rfl
     exact fin 0 K2 S2 made2 es2 ck2 C2 false hS2 .refl (fun h => by cases h) _ rfl
    | true =>
     obtain ⟨ok1t, e2, m2⟩ := ho2 rfl
     obtain ⟨_, e1, m1⟩ := ho1 ok1t
     have l1' := hS1.live0 m1
     have l1 : live K2.N x1 := live_mono hA2.N l1'
     have l2 := hS2.live0 m2
     have e1' : S2 x1 = jf e S0 a1 c1 := (hA2.fn x1 l1').trans e1
     have hK2 := hS2.ks
     have n2 := hS2.went.n
     have b1' := hK2.ok.below hK2.od (l := lv lev v + 1) l1 (by omega) (by rw [e1']; exact i1)
     have b2' := hK2.ok.below hK2.od (l := lv lev v + 1) l2 (by omega) (by rw [e2]; exact i2)
     have hite : ite S2 ⟨v, x1, x2⟩ = jf e S0 a b := by
      funext x
      unfold Bdd.ite
      rw [e1', e2, eF, eT]
      conv => rhs; rw [← Tab.setb_self x v]
      simp only
      cases x.testBit v <;> rfl
     have hself : x1 ≠ x2 → U (ite S2 ⟨v, x1, x2⟩) := fun hx => by
      have hhang : hangs (jf e S0 a b) (ord.getD (lv lev v) 0) := by
       rw [hov]
       refine Classical.byContradiction fun hno => hx ?_
       refine hK2.ok.wf.same hK2.ok.lv hK2.ok.mid.int l1 l2 fun x => ?_
       rw [e1', e2, eF, eT]
       exact (not_hangs_set hno x false).trans (not_hangs_set hno x true).symm
      rw [hite]
      exact hU _ (self_node hind hlt' hhang)
     refine CallF.fn (args := #[ptr bq, .int .i64 (v : Int), u32 x1, u32 x2]) (.cons (.cons (.cons (.cons (.cons (.cons (.cons (.cons (.cons .here))))))))) (qnode_ok hS2 (by rw [n2]; exact hv.lt) l1 l2 ⟨by omega, by omega⟩ (by rw [hite]; exact hU) hself hf) ?_
     rintro w H ⟨r, K3, S3, made3, es3, ck3, C3, ok3, rfl, rfl, hS3, hA3, ho3⟩
     exact fin r K3 S3 made3 es3 ck3 C3 ok3 hS3 hA3 (fun h => ⟨rfl, by rw [(ho3 h).1, hite], (ho3 h).2.imp .inl id⟩) _ rfl
   refine Bin.gtN (Br.dec (fun hh => ?_) (fun hh => ?_))
   ·obtain ⟨x1, x2⟩ := gb2 (by omega)
    subst x1; subst x2
    refine FAddr.mk (St.one (by exact .head _) rfl (by simp) rfl ?_)
    refine FAddr.mk (St.one (by exact .head _) rfl (by simp) rfl ?_)
    exact JE.mk h56'
   ·obtain ⟨x1, x2, x3⟩ := gb1 (by omega)
    rw [x2, x3]
    exact JE.mk h56'
  refine Bin.gtN (Br.dec (fun hh => ?_) (fun hh => ?_))
  ·obtain ⟨x1, x2⟩ := ga2 (by omega)
   subst x1; subst x2
   refine FAddr.mk (St.one (by exact .tail (.head _)) rfl (by simp) rfl ?_)
   refine FAddr.mk (St.one (by exact .tail (.head _)) rfl (by simp) rfl ?_)
   exact JE.mk h53'
  ·obtain ⟨x1, x2, x3⟩ := ga1 (by omega)
   rw [x2, x3]
   exact JE.mk h53'
 refine Bin.ltN (Br.dec (fun hh => ?_) (fun hh => ?_))
 ·obtain ⟨x1, x2, x3⟩ := gb1 (by omega)
  refine FAddr.mk (Ld.mk (v := .int .i64 zb) (by exact .head _) rfl ?_)
  subst x1
  exact JE.mk h49'
 ·obtain ⟨x1, x2, x3⟩ := ga1 (by omega)
  subst x1
  exact JE.mk h49'
end
end Go.Proofs
set_option maxRecDepth 100000
namespace Go.Proofs
open Go Go.Sx
open Bdd
theorem indep_of {N : Sto} {S : Nat → Bdd.Fn} {n : Nat} {lev' : Nat → Nat} {ord : List Nat} (h : WF n lev' N) (hl : Lev n lev') (hi : Interp N S) (ho : Bdd.Ord n lev' ord) {r : Nat} (hr : live N r) {l : Nat} (hln : l ≤ n) (hle : l ≤ dep n lev' N r) : ∀ j, j < l → ¬ hangs (S r) (ord.getD j 0) := by
 rintro j hj ⟨x, hx⟩
 apply hx
 obtain ⟨o1, o2⟩ := ho.at' j (by omega)
 rw [h.indep' hl hi hr o1 (by omega) x false, h.indep' hl hi hr o1 (by omega) x true]
section
variable {kp bq bm : Nat} {K0 : Kd} {S0 : Nat → Bdd.Fn} {U : Bdd.Fn → Prop} {ord lev : List Nat}
def QOut (kp : Nat) (K0 : Kd) (S0 : Nat → Bdd.Fn) (U : Bdd.Fn → Prop) (ord lev : List Nat) (bq bm : Nat) (LB : Hp) (K : Kd) (S : Nat → Bdd.Fn) (made : List Nat) (f : Bdd.Fn) (w : Value) (H : Hp) : Prop :=
 ∃ x K' S' made' es' ck' C' ok', w = u32 x ∧ H = LB ++ qHp bq kp bm ok' es' ck' C' ∧ QSt kp K0 S0 U ord lev K' S' made' es' ck' C' ok' ∧ Aft K S made K' S' made' ∧ (ok' = true → S' x = f ∧ (live K0.N x ∨ x ∈ made'))
theorem join_ok {e : Bool} (hW0 : WF K0.n (lv lev) K0.N) (hI0 : Interp K0.N S0) (hL0 : Lev K0.n (lv lev)) (hod : Bdd.Ord K0.n (lv lev) ord) (hf : ∀ s, K0.hold s + 1 < 65535) {a b : Nat} {K : Kd} {S : Nat → Bdd.Fn} {made : List Nat} {es : Array MapEntry} {ck : Nat} {C : Hp}
  (ha : live K0.N a) (hb : live K0.N b) (hS : QSt kp K0 S0 U ord lev K S made es ck C true) (hU : ∀ g, NodeSet K0.n ord (fun g => g = jf e S0 a b) g → U g) :
  Fc Tryz.prog 218 #[ptr bq, u32 a, u32 b, .bool e] (qHp bq kp bm true es ck C) (QOut kp K0 S0 U ord lev bq bm [] K S made (jf e S0 a b)) := by
 intro g
 refine L218_sound (R := FnR _) ?_
 unfold L218
 intro b1 _ b3 _ b5 _
 refine St.one (by exact .tail (.head _)) rfl (by simp) rfl ?_
 refine St.one (by exact .head _) rfl (by simp) rfl ?_
 have hcl : callable Tryz.prog 223 = true := by kernel_rfl
 intro J hJ
 have hJ' : J [] ((b5, .cells #[u32 (!e).toNat] 31 (0, 0)) :: (b3, .cells #[u32 e.toNat] 31 (0, 0)) :: (b1, .cells #[ptr bq] 262 (0, 0)) :: qHp bq kp bm true es ck C) := by
  refine hJ _ fun gs => ?_
  intro bj _ b14 _
  refine St.one (by exact .head _) rfl (by simp) rfl ?_
  intro b17 _
  refine St.one (by exact .head _) rfl (by simp) rfl ?_
  refine Ld.mk (v := clo223 b3 b5 b1 b14 b17) (by exact .head _) rfl ?_
  refine CallV.of rfl hcl ?_
  refine CallF.fn (args := #[u32 a, u32 b, ptr b3, ptr b5, ptr b1, ptr b14, ptr b17]) .here (join1_ok (e := e) hcl hW0 hI0 hL0 hod hf _ a b rfl K S made es ck C true #[] 0 ha hb hS ⟨[], Ents.empty, fun _ y hy => by cases hy⟩ hU) ?_
  rintro w H ⟨x, K', S', made', es', ck', C', ok', jes', jck', rfl, rfl, hS', _, hA, ho⟩
  exact FnR.mk (.skip (.skip (.skip (.skip (.skip .tail))))) ⟨x, K', S', made', es', ck', C', ok', rfl, rfl, hS', hA, fun h => (ho h).2⟩
 cases e with
 | true =>
  refine Br.yes ?_
  refine St.one (by exact .tail (.head _)) rfl (by simp) rfl ?_
  refine St.one (by exact .head _) rfl (by simp) rfl ?_
  exact JE.mk hJ'
 | false => exact Br.no (JE.mk hJ')
def LeafQ (kp : Nat) (K0 : Kd) (S0 : Nat → Bdd.Fn) (U : Bdd.Fn → Prop) (ord lev : List Nat) (bq bm : Nat) (t : Bool → Bool → Bool) (v : Nat) (fv : Value) (LB : Hp) : Prop :=
 ∃ f first cap, fv = .func (.func f) first cap ∧ callable Tryz.prog f = true ∧ ∀ (r : Nat) (d : Nd), K0.N r = some d → d.v = v → ∀ K S made es ck C, QSt kp K0 S0 U ord lev K S made es ck C true → (∀ g, NodeSet K0.n ord (fun g => g = QF t v (S0 r)) g → U g) →
  Fc Tryz.prog f (first ++ #[.agg (nrow d).toArray] ++ cap) (LB ++ qHp bq kp bm true es ck C) (QOut kp K0 S0 U ord lev bq bm LB K S made (QF t v (S0 r)))
def clo213 (b1 b13 b18 b3 b21 : Nat) : Value := .func (.func 213) #[] #[ptr b1, ptr b13, ptr b18, ptr b3, ptr b21]
def DKn (K0 : Kd) (F : Nat → Bdd.Fn) (S : Nat → Bdd.Fn) (made : List Nat) (ok : Bool) (es : Array MapEntry) (ck : Nat) : Prop :=
 ∃ m : List (Nat × Nat), Ents (kN .u32) vrR es ck m ∧ (ok = true → ∀ y ∈ m, S y.2 = F y.1 ∧ (live K0.N y.2 ∨ y.2 ∈ made))
theorem DKn.more {F : Nat → Bdd.Fn} {K K' : Kd} {S S' : Nat → Bdd.Fn} {made made' : List Nat} {es jes : Array MapEntry} {ck jck : Nat} {C : Hp} {ok ok' : Bool} (hq : QSt kp K0 S0 U ord lev K S made es ck C ok) (h : DKn K0 F S made ok jes jck) (ha : Aft K S made K' S' made') (hok : ok' = true → ok = true) : DKn K0 F S' made' ok' jes jck := by
 obtain ⟨m, h1, h2⟩ := h
 refine ⟨m, h1, fun h y hy => ?_⟩
 obtain ⟨a, b⟩ := h2 (hok h) y hy
 exact ⟨by rw [ha.fn _ (hq.live0 b), a], b.imp id (ha.mem _)⟩
abbrev dHp (b1 b3 b13 b18 b21 bd lvl : Nat) (fv : Value) (LB : Hp) (bq kp bm : Nat) (ok : Bool) (des : Array MapEntry) (dck : Nat) (es : Array MapEntry) (ck : Nat) (C : Hp) : Hp :=
 (b21, .cells #[clo213 b1 b13 b18 b3 b21] 272 (0, 0)) :: (b18, .cells #[.map (some bd)] 271 (0, 0)) :: (bd, .map des dck) :: (b13, .cells #[.int .i64 (lvl : Int)] 3 (0, 0)) :: (b3, .cells #[fv] 101 (0, 0)) :: (b1, .cells #[ptr bq] 262 (0, 0)) :: (LB ++ qHp bq kp bm ok es ck C)
def DOut (kp : Nat) (K0 : Kd) (S0 : Nat → Bdd.Fn) (U : Bdd.Fn → Prop) (ord lev : List Nat) (t : Bool → Bool → Bool) (v b1 b3 b13 b18 b21 bd : Nat) (fv : Value) (LB : Hp) (bq bm : Nat) (K : Kd) (S : Nat → Bdd.Fn) (made : List Nat) (ok : Bool) (f : Bdd.Fn) (w : Value) (H : Hp) : Prop :=
 ∃ x K' S' made' es' ck' C' ok' des' dck', w = u32 x ∧ H = dHp b1 b3 b13 b18 b21 bd (lv lev v) fv LB bq kp bm ok' des' dck' es' ck' C' ∧ QSt kp K0 S0 U ord lev K' S' made' es' ck' C' ok' ∧ DKn K0 (fun r => QF t v (S0 r)) S' made' ok' des' dck' ∧ Aft K S made K' S' made' ∧
  (ok' = true → ok = true ∧ S' x = f ∧ (live K0.N x ∨ x ∈ made'))
variable {b1 b3 b13 b18 b21 bd : Nat} {fv : Value} {LB : Hp} {t : Bool → Bool → Bool} {v : Nat}
set_option maxHeartbeats 2000000 in
theorem down1_ok (hcl : callable Tryz.prog 213 = true) (hLq : LeafQ kp K0 S0 U ord lev bq bm t v fv LB) (ht : ∀ a, t a a = a) (hv : v < K0.n) (hW0 : WF K0.n (lv lev) K0.N) (hI0 : Interp K0.N S0) (hL0 : Lev K0.n (lv lev)) (hod : Bdd.Ord K0.n (lv lev) ord) (hf : ∀ s, K0.hold s + 1 < 65535) :
  ∀ (k r : Nat), K0.n - dep K0.n (lv lev) K0.N r = k → ∀ (K : Kd) (S : Nat → Bdd.Fn) (made : List Nat) (es : Array MapEntry) (ck : Nat) (C : Hp) (ok : Bool) (des : Array MapEntry) (dck : Nat),
  live K0.N r → QSt kp K0 S0 U ord lev K S made es ck C ok → DKn K0 (fun r => QF t v (S0 r)) S made ok des dck → (∀ g, NodeSet K0.n ord (fun g => g = QF t v (S0 r)) g → U g) →
  Fc Tryz.prog 213 #[u32 r, ptr b1, ptr b13, ptr b18, ptr b3, ptr b21] (dHp b1 b3 b13 b18 b21 bd (lv lev v) fv LB bq kp bm ok des dck es ck C) (DOut kp K0 S0 U ord lev t v b1 b3 b13 b18 b21 bd fv LB bq bm K S made ok (QF t v (S0 r))) := by
 have hc0 : ∀ r, r < 2 → K0.N r = none := fun r hr => hW0.const hr
 intro k
 induction k using Nat.strongRecOn with
 | ind k ih =>
 intro r hk K S made es ck C ok des dck hr hS hD hU g
 have hK := hS.ks
 have hcK : ∀ r, r < 2 → K.N r = none := fun r hr => hK.ok.wf.const hr
 have eN := hS.went.n
 have lr := hS.went.live hr
 refine L213_sound (R := FnR _) ?_
 unfold L213
 refine Ld.mk (v := ptr bq) (by exact .tail _ (.tail _ (.tail _ (.tail _ (.tail _ (.head _)))))) rfl ?_
 refine CallF.rd (.cons (.cons (.cons (.cons (.cons (.cons (.app .here))))))) (qat_ok (bm := bm) (ok := ok) (es := es) (ck := ck) hK lr) ?_
 rintro w rfl
 refine Ext.mk rfl (Ext.mk rfl ?_)
 intro b6 _
 refine St.whole (r := got K.N r) (by exact .head _) rfl (got_one _ _).1 (got_one _ _).2 ?_
 rw [got_same hS.went.N hc0 hcK hr, eN, dep_more hS.went.N hcK hc0 hr]
 refine Ld.mk (v := .int .i64 ((lv lev v : Nat) : Int)) (by exact .tail _ (.tail _ (.tail _ (.tail _ (.head _))))) rfl ?_
 refine Bin.gtN ?_
 refine Grp.or (!ok) (fun _ => ?_) (by simp) fun gs => ?_
 ·refine Ld.mk (v := ptr bq) (by exact .tail _ (.tail _ (.tail _ (.tail _ (.tail _ (.tail _ (.head _))))))) rfl ?_
  refine Nil.ptr (FAddr.mk (Ld.mk (v := .int .i64 (if ok then 0 else 9)) (by exact .tail _ (.tail _ (.tail _ (.tail _ (.tail _ (.tail _ (.tail _ (List.mem_append_right _ (.head _)))))))) ) rfl ?_))
  exact Bin.neD ⟨rfl, by cases ok <;> rfl⟩
 refine Br.mk (fun hb => ?_) (fun hb => ?_)
 ·-- deeper, or an error before
  refine FnR.mk .tail ⟨r, K, S, made, es, ck, C, ok, des, dck, rfl, rfl, hS, hD, .refl, fun h => ⟨h, ?_, .inl hr⟩⟩
  rw [h] at hb
  simp only [Bool.not_true, Bool.or_false, decide_eq_true_eq] at hb
  rw [hS.went.fn r hr]
  refine (QF_none ht ?_).symm
  rintro ⟨x, hx⟩
  apply hx
  rw [hW0.indep' hL0 hI0 hr hv hb x false, hW0.indep' hL0 hI0 hr hv hb x true]
 simp only [Bool.or_eq_false_iff, decide_eq_false_iff_not, Bool.not_eq_false', Nat.not_lt] at hb
 obtain ⟨hdep, rfl⟩ := hb
 obtain ⟨m, hE, hkn⟩ := hD
 refine Ld.mk (v := .map (some bd)) (by exact .tail _ (.tail _ (.head _))) rfl ?_
 have hmm : (bd, Obj.map des dck) ∈ (b6, Obj.cells (got K0.N r).toArray 103 (0, 0)) :: dHp b1 b3 b13 b18 b21 bd (lv lev v) fv LB bq kp bm true des dck es ck C := .tail _ (.tail _ (.tail _ (.head _)))
 have hlv := hL0.lt v hv
 obtain ⟨d, hd⟩ : ∃ d, K0.N r = some d := by
  cases e : K0.N r with
  | none => rw [dep_none e] at hdep; omega
  | some d => exact ⟨d, rfl⟩
 have ed := dep_some (n := K0.n) (lev := lv lev) hd
 have h2 := hW0.two hd
 have hdv := hW0.var hd
 cases hg : mget m r with
 | some x =>
  refine Ents.hit (k := r) kN_same hE hmm hg ?_
  rintro w rfl
  obtain ⟨g1, g2⟩ := hkn rfl _ ((mget_mem hE.nd).1 hg)
  refine Ext.mk rfl (Ext.mk rfl (Br.yes ?_))
  exact FnR.mk .tail ⟨x, K, S, made, es, ck, C, true, des, dck, rfl, rfl, hS, ⟨m, hE, hkn⟩, .refl, fun h => ⟨h, g1, g2⟩⟩
 | none =>
 refine Ents.miss (k := r) kN_same hE hmm hg ?_
 refine Ext.mk rfl (Ext.mk rfl (Br.no ?_))
 rw [got_some hd h2]
 intro J hJ
 have fin : ∀ (x3 : Nat) K3 S3 made3 es3 ck3 C3 ok3 des3 dck3, QSt kp K0 S0 U ord lev K3 S3 made3 es3 ck3 C3 ok3 → DKn K0 (fun r => QF t v (S0 r)) S3 made3 ok3 des3 dck3 → Aft K S made K3 S3 made3 → (ok3 = true → S3 x3 = QF t v (S0 r) ∧ (live K0.N x3 ∨ x3 ∈ made3)) →
   J [u32 x3] ((b6, .cells (nrow d).toArray 103 (0, 0)) :: dHp b1 b3 b13 b18 b21 bd (lv lev v) fv LB bq kp bm ok3 des3 dck3 es3 ck3 C3) := by
  intro x3 K3 S3 made3 es3 ck3 C3 ok3 des3 dck3 hS3 hD3 hA3 ho3
  refine hJ _ _ fun gs => ?_
  refine Ld.mk (v := .map (some bd)) (by exact .tail _ (.tail _ (.head _))) rfl ?_
  obtain ⟨m3, hE3, hkn3⟩ := hD3
  refine Ents.upd (k := r) (x := x3) kN_same kN_bits hE3 rfl fun es' ck' he => ⟨_, .tail (.tail (.tail (.head _))), ?_⟩
  refine FnR.mk .tail ⟨x3, K3, S3, made3, es3, ck3, C3, ok3, es', ck', rfl, rfl, hS3, ⟨_, he, fun h y hy => (mset_mem hy).elim (fun e1 => ?_) (fun hy => hkn3 h y hy)⟩, hA3, fun h => ⟨rfl, ho3 h⟩⟩
  rw [e1]; exact ho3 h
 have hD0 : DKn K0 (fun r => QF t v (S0 r)) S made true des dck := ⟨m, hE, hkn⟩
 refine Ld.mk (v := .int .i64 ((lv lev v : Nat) : Int)) (by exact .tail _ (.tail _ (.tail _ (.tail _ (.head _))))) rfl ?_
 refine Bin.eqN (Br.dec (fun hl => ?_) (fun hl => ?_))
 ·-- at the variable
  have ev : d.v = v := hL0.inj _ _ hdv hv (by omega)
  obtain ⟨f, first, cap, rfl, hcf, hleaf⟩ := hLq
  refine Ld.mk (v := .func (.func f) first cap) (by exact .tail _ (.tail _ (.tail _ (.tail _ (.tail _ (.head _)))))) rfl ?_
  refine LdA.whole (r := nrow d) (by exact .head _) rfl ?_
  refine CallV.of rfl hcf ?_
  refine CallF.fn (C := LB ++ qHp bq kp bm true es ck C) (.cons (.cons (.cons (.cons (.cons (.cons (.cons .here))))))) (hleaf r d hd ev K S made es ck C hS hU) ?_
  rintro w H ⟨x, K', S', made', es', ck', C', ok', rfl, rfl, hS', hA, ho⟩
  exact JE.mk (fin x K' S' made' es' ck' C' ok' des dck hS' (hD0.more hS hA (fun _ => rfl)) hA ho)
 ·-- above it
  have hltv : lv lev d.v < lv lev v := by omega
  have hne : d.v ≠ v := fun e => by rw [e] at hltv; omega
  obtain ⟨g1, g2, g3⟩ := cofr_ok (S := S0) hW0 hL0 hI0 hr hdv (by omega) false
  obtain ⟨t1, t2, t3⟩ := cofr_ok (S := S0) hW0 hL0 hI0 hr hdv (by omega) true
  obtain ⟨q1, q2⟩ := cofr_at (N := K0.N) hd
  rw [q1] at g1 g2 g3
  rw [q2] at t1 t2 t3
  have hlt' := hL0.lt d.v hdv
  have hov := hod.of hL0 hdv
  have hind : ∀ j, j < lv lev d.v → ¬ hangs (QF t v (S0 r)) (ord.getD j 0) := fun j hj => QF_indep (indep_of hW0 hL0 hI0 hod hr (Nat.le_of_lt hlt') (by omega) j hj)
  have eF : QF t v (S0 d.lo) = fun x => QF t v (S0 r) (Tab.setb x d.v false) := by rw [← QF_cof hne]; congr 1; exact funext g1
  have eT : QF t v (S0 d.hi) = fun x => QF t v (S0 r) (Tab.setb x d.v true) := by rw [← QF_cof hne]; congr 1; exact funext t1
  obtain ⟨i1, sub1⟩ := sub_child (n := K0.n) (ord := ord) (c := QF t v (S0 d.lo)) hind (b := false) (by rw [hov]; exact eF)
  obtain ⟨i2, sub2⟩ := sub_child (n := K0.n) (ord := ord) (c := QF t v (S0 d.hi)) hind (b := true) (by rw [hov]; exact eT)
  refine Ld.mk (v := clo213 b1 b13 b18 b3 b21) (by exact .tail _ (.head _)) rfl ?_
  refine FAddr.mk (Ld.mk (v := u32 d.lo) (by exact .head _) rfl ?_)
  refine CallV.of rfl hcl ?_
  refine CallF.fn (args := #[u32 d.lo, ptr b1, ptr b13, ptr b18, ptr b3, ptr b21]) (.cons .here) (ih _ (by omega) d.lo rfl K S made es ck C true des dck g2 hS hD0 (fun g hg => hU g (sub1 g hg))) ?_
  rintro w H ⟨x1, K1, S1, made1, es1, ck1, C1, ok1, des1, dck1, rfl, rfl, hS1, hD1, hA1, ho1⟩
  refine DR.of (R := [(b6, .cells (nrow d).toArray 103 (0, 0)), (b21, .cells #[clo213 b1 b13 b18 b3 b21] 272 (0, 0)), (b1, .cells #[ptr bq] 262 (0, 0))]) (.cons (.cons (.skip (.skip (.skip (.skip (Ent.left (A := [_])))))))) ?_
  refine Ld.mk (v := ptr bq) (by exact .tail _ (.tail _ (.head _))) rfl ?_
  refine FAddr.mk (Ld.mk (v := .int .i64 (d.v : Int)) (by exact .head _) rfl ?_)
  refine Ld.mk (v := clo213 b1 b13 b18 b3 b21) (by exact .tail _ (.head _)) rfl ?_
  refine FAddr.mk (Ld.mk (v := u32 d.hi) (by exact .head _) rfl ?_)
  refine CallV.of rfl hcl ?_
  refine CallF.fn (args := #[u32 d.hi, ptr b1, ptr b13, ptr b18, ptr b3, ptr b21]) (.cons .here) (ih _ (by omega) d.hi rfl K1 S1 made1 es1 ck1 C1 ok1 des1 dck1 t2 hS1 hD1 (fun g hg => hU g (sub2 g hg))) ?_
  rintro w H ⟨x2, K2, S2, made2, es2, ck2, C2, ok2, des2, dck2, rfl, rfl, hS2, hD2, hA2, ho2⟩
  refine ⟨.cons (.cons (.skip (.skip (.skip (.skip (Ent.left (A := [_]))))))), ?_⟩
  have hA12 := hA1.trans hA2
  cases ok2 with
  | false =>
   refine CallF.rd (args := #[ptr bq, .int .i64 (d.v : Int), u32 x1, u32 x2]) (.cons (.cons (.cons (.cons (.cons (.cons (.cons (.app .here)))))))) (qnode_bad (kp := kp) (bm := bm) _ _ _ _) ?_
   rintro w rfl
   refine ⟨.cons (.cons (.skip (.skip (.skip (.skip (Ent.left (A := [_]))))))), ?_⟩
   exact JE.mk (fin 0 K2 S2 made2 es2 ck2 C2 false des2 dck2 hS2 hD2 hA12 (fun h => by cases h))
  | true =>
   obtain ⟨ok1t, e2, m2⟩ := ho2 rfl
   obtain ⟨_, e1, m1⟩ := ho1 ok1t
   have l1' := hS1.live0 m1
   have l1 : live K2.N x1 := live_mono hA2.N l1'
   have l2 := hS2.live0 m2
   have e1' : S2 x1 = QF t v (S0 d.lo) := (hA2.fn x1 l1').trans e1
   have hK2 := hS2.ks
   have n2 := hS2.went.n
   have b1' := hK2.ok.below hK2.od (l := lv lev d.v + 1) l1 (by omega) (by rw [e1']; exact i1)
   have b2' := hK2.ok.below hK2.od (l := lv lev d.v + 1) l2 (by omega) (by rw [e2]; exact i2)
   have hite : ite S2 ⟨d.v, x1, x2⟩ = QF t v (S0 r) := by
    funext x
    unfold Bdd.ite
    rw [e1', e2, eF, eT]
    conv => rhs; rw [← Tab.setb_self x d.v]
    simp only
    cases x.testBit d.v <;> rfl
   have hself : x1 ≠ x2 → U (ite S2 ⟨d.v, x1, x2⟩) := fun hx => by
    have hhang : hangs (QF t v (S0 r)) (ord.getD (lv lev d.v) 0) := by
     rw [hov]
     refine Classical.byContradiction fun hno => hx ?_
     refine hK2.ok.wf.same hK2.ok.lv hK2.ok.mid.int l1 l2 fun x => ?_
     rw [e1', e2, eF, eT]
     exact (not_hangs_set hno x false).trans (not_hangs_set hno x true).symm
    rw [hite]
    exact hU _ (self_node hind hlt' hhang)
   refine CallF.fn (args := #[ptr bq, .int .i64 (d.v : Int), u32 x1, u32 x2]) (.cons (.cons (.cons (.cons (.cons (.cons (.cons (.app .here)))))))) (qnode_ok hS2 (by rw [n2]; exact hdv) l1 l2 ⟨by omega, by omega⟩ (by rw [hite]; exact hU) hself hf) ?_
   rintro w H ⟨r3, K3, S3, made3, es3, ck3, C3, ok3, rfl, rfl, hS3, hA3, ho3⟩
   refine ⟨.cons (.cons (.skip (.skip (.skip (.skip (Ent.left (A := [_]))))))), ?_⟩
   exact JE.mk (fin r3 K3 S3 made3 es3 ck3 C3 ok3 des2 dck2 hS3 (hD2.more hS2 hA3 (fun _ => rfl)) (hA12.trans hA3) (fun h => ⟨by rw [(ho3 h).1, hite], (ho3 h).2.imp .inl id⟩))
end
end Go.Proofs
set_option maxRecDepth 100000
namespace Go.Proofs
open Go Go.Sx
open Bdd
def leftAt (es : Array MapEntry) (l : List Nat) : List Value → Hp → Nat := fun _ H => match H with
 | (_, .mapIter _ _ seen _) :: _ => (unseen es (mkM l) seen).length
 | _ => 0
structure Let (K K' : Kd) (l : List Nat) : Prop where
 n : K'.n = K.n
 cap : K'.cap = K.cap
 N : ∀ s d, K'.N s = some d → K.N s = some d
 hold : ∀ s, K'.hold s + l.count s = K.hold s
section
variable {kp bq bm : Nat} {K0 : Kd} {S0 : Nat → Bdd.Fn} {U : Bdd.Fn → Prop} {ord lev : List Nat}
theorem qend_ok {g : Gh} {K : Kd} {S : Nat → Bdd.Fn} {l : List Nat} {es : Array MapEntry} {ck b9 b1 : Nat} {ok : Bool} {C LB : Hp} (hK : KSt kp K S ord lev [] C) (hE : Ents (kN .u32) vr1 es ck (mkM l)) (hc : ∀ s, l.count s ≤ K.hold s) (h2 : ∀ s ∈ l, 2 ≤ s) (h32 : ∀ s ∈ l, s < 4294967296) {Kc : Hp → Prop}
  (hk : ∀ K' C' bi it, KSt kp K' S ord lev [] C' → Let K K' l → Kc ((bi, it) :: (b9, .cells #[ptr bq] 262 (0, 0)) :: (b1, .cells #[ptr kp] 25 (0, 0)) :: (LB ++ qHp bq kp bm ok es ck C'))) :
  DefF Tryz.prog g 212 #[ptr b9, ptr b1] ((b9, .cells #[ptr bq] 262 (0, 0)) :: (b1, .cells #[ptr kp] 25 (0, 0)) :: (LB ++ qHp bq kp bm ok es ck C)) Kc := by
 refine L212_soundD (R := _) ?_
 unfold L212
 refine Ld.mk (v := ptr bq) (by exact .head _) rfl ?_
 refine Nil.ptr (FAddr.mk (Ld.mk (v := .map (some bm)) (by exact .tail _ (.tail _ (List.mem_append_right _ (.head _)))) rfl ?_))
 refine .inr ⟨bm, es, ck, rfl, .tail _ (.tail _ (List.mem_append_right _ (.tail _ (.head _)))), fun bi _ => ?_⟩
 refine ⟨fun _ H => ∃ (done : List Nat) (K' : Kd) (C' : Hp) (seen : Array Nat), H = (bi, .mapIter (some bm) ck seen ck) :: (b9, .cells #[ptr bq] 262 (0, 0)) :: (b1, .cells #[ptr kp] 25 (0, 0)) :: (LB ++ qHp bq kp bm ok es ck C') ∧
   KSt kp K' S ord lev [] C' ∧ Let K K' done ∧ (done ++ (unseen es (mkM l) seen).map Prod.fst).Perm l, leftAt es l, JE.mk ⟨[], K, C, #[], rfl, hK, ⟨rfl, rfl, fun _ _ h => h, fun s => by simp⟩, by rw [unseen_all hE, mkM_fst]; exact .refl _⟩, ?_⟩
 rintro H ⟨done, K', C', seen, rfl, hK', hl, hp⟩ gs
 refine Ents.next (bi := bi) (bm := bm) (seen := seen) hE (.tail _ (.tail _ (.tail _ (List.mem_append_right _ (.tail _ (.head _)))))) (.head _) (fun e x seen' he hkey hv hpm hbk hfi => ⟨_, .head _, ?_⟩) (fun hu => ?_)
 ·refine Ext.mk rfl (Br.yes ?_)
  refine ⟨bi, bm, ck, seen', e.born, ck, es, e, rfl, .head _, hbk, .tail _ (.tail _ (.tail _ (List.mem_append_right _ (.tail _ (.head _))))), hfi, ?_⟩
  refine Ext.mk rfl ?_
  refine Ld.mk (v := ptr kp) (by exact .tail _ (.tail _ (.head _))) rfl ?_
  have hxl : x.1 ∈ l := by
   refine hp.mem_iff.1 (List.mem_append_right _ ?_)
   exact List.mem_map_of_mem (hpm.mem_iff.2 (.head _))
  have hcx : done.count x.1 + 1 ≤ l.count x.1 := by
   rw [← hp.count_eq, List.count_append, (hpm.map Prod.fst).count_eq, List.map_cons, List.count_cons_self]; omega
  have hhx : K'.hold x.1 ≠ 0 := by
   have a := hl.hold x.1
   have b := hc x.1
   omega
  show CallF Tryz.prog g 12 #[ptr kp, e.key] _ _ _
  rw [hkey]
  refine CallF.fn (args := #[ptr kp, u32 x.1]) (.cons (.cons (.cons (.app (.cons (.cons .here)))))) (drop_ok hK' (r := x.1) (h32 _ hxl) (fun _ => hhx)) ?_
  rintro w C2 ⟨rfl, K2, hK2, f2⟩
  refine Back.mk ⟨done ++ [x.1], K2, C2, seen', rfl, hK2, ⟨f2.n.trans hl.n, f2.cap.trans hl.cap, fun s d hd => hl.N s d (f2.N s d hd), fun s => ?_⟩, ?_⟩ ?_
  ·have a := hl.hold s
   rw [f2.hold, List.count_append, List.count_singleton]
   by_cases e1 : s = x.1
   ·subst e1
    have := h2 _ hxl
    simp [this]; omega
   ·have : (x.1 == s) = false := by simpa using fun e' => e1 e'.symm
    simp [e1, this]; exact a
  ·refine .trans ?_ hp
   rw [List.append_assoc]
   refine List.Perm.append_left _ ?_
   exact (hpm.map Prod.fst).symm
  ·show (unseen es (mkM l) seen').length < (unseen es (mkM l) seen).length
   rw [hpm.length_eq, List.length_cons]; omega
 ·refine Ext.mk rfl (Br.no ?_)
  rw [hu, List.map_nil, List.append_nil] at hp
  refine ⟨⟨_, rfl⟩, hk K' C' bi _ hK' ⟨hl.n, hl.cap, hl.N, fun s => ?_⟩⟩
  rw [← hp.count_eq]; exact hl.hold s
end
section
variable {kp : Nat} {K : Kd} {S : Nat → Bdd.Fn} {ord lev tr : List Nat} {C : Hp}
theorem perm4 {α : Type} (a x y b : α) (L R : List α) : (a :: x :: y :: b :: (L ++ R)).Perm (a :: b :: (L ++ x :: y :: R)) := by
 classical
 rw [List.perm_iff_count]; intro z
 simp only [List.count_append, List.count_cons]
 omega
theorem mdel_made {made : List Nat} {x : Nat} : mdel (mkM made) x = mkM (made.filter fun r => decide (¬ r = x)) := by
 unfold mdel mkM
 induction made with
 | nil => rfl
 | cons a l ih =>
  simp only [List.map_cons, List.filter_cons]
  by_cases h : a = x
  ·simp [h] at ih ⊢; exact ih
  ·simp [h] at ih ⊢; exact ih
def RunOut (kp : Nat) (K : Kd) (S : Nat → Bdd.Fn) (ord lev : List Nat) (LB : Hp) (f : Bdd.Fn) (w : Value) (H : Hp) : Prop :=
 (∃ x K' S' C', w = .tuple #[u32 x, .bool true, .int .i64 0] ∧ H = LB ++ C' ∧ KSt kp K' S' ord lev [] C' ∧ GrowR K S K' S' f x) ∨
 (w = .tuple #[u32 0, .bool false, .int .i64 9] ∧ (∃ K' S' C', H = LB ++ C' ∧ KSt kp K' S' ord lev [] C' ∧ Kept K S K' S') ∧ ¬ Fits (NodeSet K.n ord (fun g => K.held S g ∨ g = f)) K.cap)
theorem qrun_ok (hK : KSt kp K S ord lev tr C) {f : Bdd.Fn} {LB : Hp} {fb : Value} (hf : ∀ s, K.hold s + 1 < 65535)
  (hb : ∀ K1 C1, KSt kp K1 S ord lev [] C1 → More K K1 1 → ∃ ff first cap, fb = .func (.func ff) first cap ∧ callable Tryz.prog ff = true ∧ ∀ bq bm, QSt kp K1 S (NodeSet K.n ord (fun g => K.held S g ∨ g = f)) ord lev K1 S [] #[] 0 C1 true →
   Fc Tryz.prog ff (first ++ #[ptr bq] ++ cap) (LB ++ qHp bq kp bm true #[] 0 C1) (QOut kp K1 S (NodeSet K.n ord (fun g => K.held S g ∨ g = f)) ord lev bq bm LB K1 S [] f)) :
  Fc Tryz.prog 201 #[ptr kp, fb] (LB ++ C) (RunOut kp K S ord lev LB f) := by
 intro g
 refine L201_sound (R := FnR _) ?_
 unfold L201
 intro b1 _
 refine Ld.mk (v := ptr kp) (by exact .head _) rfl ?_
 intro bm _
 refine Build.mk (cs := [ptr kp, .map (some bm), .int .i64 0]) (by kernel_rfl) ?_
 intro bq _ b9 _
 refine St.one (by exact .head _) rfl (by simp) rfl ?_
 refine Ld.mk (v := ptr kp) (by exact .tail _ (.tail _ (.tail _ (.head _)))) rfl ?_
 refine CallF.fn (args := #[ptr kp, u32 1]) (.cons (.cons (.cons (.cons (.app .here))))) (keep_ok hK (r := 1) (.inl (by omega)) (fun h => by omega)) ?_
 rintro w C1 ⟨rfl, K1, hK1, mo⟩
 have hold1 : ∀ s, K1.hold s = K.hold s := fun s => by rw [mo.hold, if_neg (by omega)]
 have held1 : ∀ g, K1.held S g → K.held S g := by
  rintro g ⟨s, hs, rfl⟩
  exact ⟨s, by have : K1.hold s ≠ 0 := hs; rwa [hold1] at this, rfl⟩
 obtain ⟨ff, first, cap, rfl, hcf, hbody⟩ := hb K1 C1 hK1 mo
 refine Ld.mk (v := ptr bq) (by exact .head _) rfl ?_
 refine CallV.of rfl hcf ?_
 refine CallF.pre (H' := (b9, .cells #[ptr bq] 262 (0, 0)) :: (b1, .cells #[ptr kp] 25 (0, 0)) :: (LB ++ qHp bq kp bm true #[] 0 C1)) (.perm (perm4 _ _ _ _ _ _)) ?_
 have hS0 : QSt kp K1 S (NodeSet K.n ord (fun g => K.held S g ∨ g = f)) ord lev K1 S [] #[] 0 C1 true := ⟨hK1, .refl fun g hg => by rw [mo.n] at hg; exact nodesMono (fun g h => .inl (held1 g h)) hg, Ents.empty, fun h => by cases h⟩
 refine CallF.fn (C := LB ++ qHp bq kp bm true #[] 0 C1) (.cons (.cons .here)) (hbody bq bm hS0) ?_
 rintro w H ⟨x, K2, S2, made, es, ck, C2, ok, rfl, rfl, hS2, hA, ho⟩
 have hK2 := hS2.ks
 have hwe := hS2.went
 have hnd := hS2.nd
 have hcm : ∀ s, made.count s ≤ K2.hold s := fun s => by rw [hwe.hold]; omega
 have h32 : ∀ s ∈ made, s < 4294967296 := fun s hs => by have := hK2.live_lt (hwe.made_live hK2 hs); omega
 have hnz : ∀ s, K.hold s ≠ 0 → live K.N s := fun s hs => .inr (hK.ok.mid.held s hs)
 have hN02 : ∀ s d, K.N s = some d → K2.N s = some d := fun s d hd => hwe.N s d (by rw [mo.N]; exact hd)
 have hfn : ∀ s, live K.N s → S2 s = S s := fun s hs => hwe.fn s (by rw [mo.N]; exact hs)
 refine Ld.mk (v := ptr bq) (by exact .head _) rfl ?_
 refine Nil.ptr (FAddr.mk (Ld.mk (v := .int .i64 (if ok then 0 else 9)) (by exact .tail _ (.tail _ (List.mem_append_right _ (.head _)))) rfl ?_))
 cases ok with
 | false =>
  refine Bin.neD (Br.decT (by decide) ?_)
  refine Ld.mk (v := ptr bq) (by exact .head _) rfl ?_
  refine Nil.ptr (FAddr.mk (Ld.mk (v := .int .i64 9) (by exact .tail _ (.tail _ (List.mem_append_right _ (.head _)))) rfl ?_))
  refine qend_ok hK2 hS2.ent hcm hwe.two h32 fun K3 C3 bi it hK3 hl => ?_
  have hold3 : ∀ s, K3.hold s = K.hold s := fun s => by
   have a := hl.hold s
   have b := hwe.hold s
   rw [hold1] at b
   omega
  refine FnR.mk (.skip (.skip (.skip (.prep (.skip .tail) _)))) (.inr ⟨rfl, ⟨K3, S2, C3, rfl, hK3, ⟨by rw [hl.n, hwe.n, mo.n], by rw [hl.cap, hwe.cap, mo.cap], hold3, fun g => ?_, fun r hr => hfn r (hnz r hr)⟩⟩, ?_⟩)
  ·constructor
   ·rintro ⟨s, hs, rfl⟩
    have hs' : K.hold s ≠ 0 := by rw [← hold3]; exact hs
    exact ⟨s, hs', hfn s (hnz s hs')⟩
   ·rintro ⟨s, hs, rfl⟩
    exact ⟨s, by show K3.hold s ≠ 0; rw [hold3]; exact hs, (hfn s (hnz s hs)).symm⟩
  ·have := hS2.bad rfl
   rw [mo.cap] at this; exact this
 | true =>
  obtain ⟨hx, hxm⟩ := ho rfl
  refine Bin.neD (Br.decF (by decide) ?_)
  refine Ld.mk (v := ptr bq) (by exact .head _) rfl ?_
  refine Nil.ptr (FAddr.mk (Ld.mk (v := .map (some bm)) (by exact .tail _ (.tail _ (List.mem_append_right _ (.head _)))) rfl ?_))
  have fin : ∀ (K3 : Kd) (l : List Nat) (es3 : Array MapEntry) (C3 : Hp), KSt kp K3 S2 ord lev [] C3 → (∀ s d, K3.N s = some d → K2.N s = some d) → K3.n = K2.n → K3.cap = K2.cap → Ents (kN .u32) vr1 es3 ck (mkM l) → (∀ s ∈ l, s ∈ made) → (∀ s, K3.hold s = K.hold s + l.count s + if s = x ∧ 2 ≤ x then 1 else 0) →
    DefF Tryz.prog g 212 #[ptr b9, ptr b1] ((b9, .cells #[ptr bq] 262 (0, 0)) :: (b1, .cells #[ptr kp] 25 (0, 0)) :: (LB ++ qHp bq kp bm true es3 ck C3)) fun H => FnR (RunOut kp K S ord lev LB f) (.returned (.tuple #[u32 x, .bool true, .int .i64 0])) H := by
   intro K3 l es3 C3 hK3 hN3 hn3 hc3 hE3 hlm hh3
   refine qend_ok hK3 hE3 (fun s => by rw [hh3]; omega) (fun s hs => hwe.two s (hlm s hs)) (fun s hs => h32 s (hlm s hs)) fun K4 C4 bi it hK4 hl => ?_
   have hold4 : ∀ s, K4.hold s = K.hold s + if s = x ∧ 2 ≤ x then 1 else 0 := fun s => by
    have a := hl.hold s
    rw [hh3] at a
    omega
   have hlx : live K4.N x := by
    by_cases h2 : x < 2
    ·exact .inl h2
    ·refine .inr (hK4.ok.mid.held x ?_)
     rw [hold4, if_pos ⟨rfl, by omega⟩]; omega
   refine FnR.mk (.skip (.skip (.skip (.prep (.skip .tail) _)))) (.inl ⟨x, K4, S2, C4, rfl, rfl, hK4, ⟨by rw [hl.n, hn3, hwe.n, mo.n], by rw [hl.cap, hc3, hwe.cap, mo.cap], fun s d hs => keep_nodes hK.ok hK4.ok (fun s h => by rw [hold4]; omega) (fun s d d' h h' => ?_) _ s d hs (Nat.le_refl _), hfn, hlx, hx, hold4⟩⟩)
   have a := hN3 s d' (hl.N s d' h')
   rw [hN02 s d h] at a; exact (Option.some.inj a).symm
  by_cases hm : x ∈ made
  ·refine Ents.hit (k := x) (x := ()) kN_same hS2.ent (.tail _ (.tail _ (List.mem_append_right _ (.tail _ (.head _))))) (mget_made.1 hm) ?_
   rintro v rfl
   refine Bin.gtr (Br.decT (by decide) ?_)
   refine Ld.mk (v := ptr bq) (by exact .head _) rfl ?_
   refine Nil.ptr (FAddr.mk (Ld.mk (v := .map (some bm)) (by exact .tail _ (.tail _ (List.mem_append_right _ (.head _)))) rfl ?_))
   refine Ents.del (k := x) kN_same hS2.ent (.tail _ (.tail _ (List.mem_append_right _ (.tail _ (.head _))))) fun es' he => ⟨_, .tail (.tail ((Upd.tail (.head _)).prepend LB)), ?_⟩
   rw [mdel_made] at he
   refine fin K2 _ es' C2 hK2 (fun _ _ h => h) rfl rfl he (fun s hs => (List.mem_filter.1 hs).1) fun s => ?_
   rw [hwe.hold, hold1]
   have h2x := hwe.two x hm
   by_cases e1 : s = x
   ·subst e1
    have c1 : made.count s = 1 := by rw [hnd.count, if_pos hm]
    have c2 : (made.filter fun r => decide (¬ r = s)).count s = 0 := List.count_eq_zero.2 (by simp)
    rw [c1, c2, if_pos ⟨rfl, h2x⟩]
   ·have : (made.filter fun r => decide (¬ r = x)).count s = made.count s := List.count_filter (by simpa using e1)
    rw [this, if_neg (fun h => e1 h.1)]; rfl
  ·refine Ents.miss (k := x) kN_same hS2.ent (.tail _ (.tail _ (List.mem_append_right _ (.tail _ (.head _))))) (mget_made.2 hm) ?_
   refine Bin.gtr (Br.decF (by decide) ?_)
   refine Ld.mk (v := ptr kp) (by exact .tail _ (.head _)) rfl ?_
   have hlx : live K2.N x := hS2.live0 hxm
   have hcx : K2.hold x < 65535 := by
    rw [hwe.hold, hold1, List.count_eq_zero.2 hm]
    have := hf x; omega
   refine CallF.fn (args := #[ptr kp, u32 x]) (.cons (.cons (.app (.cons (.cons .here))))) (keep_ok hK2 (r := x) hlx (fun _ => hcx)) ?_
   rintro w C3 ⟨rfl, K3, hK3, m3⟩
   refine Bin.eqD ?_
   rw [show decide ((0 : Int) = 0) = true from rfl]
   refine fin K3 made es C3 hK3 (fun s d h => by rw [← m3.N]; exact h) m3.n m3.cap hS2.ent (fun _ h => h) fun s => ?_
   rw [m3.hold, hwe.hold, hold1]
   split <;> omega
end
end Go.Proofs
set_option maxRecDepth 100000
namespace Go.Proofs
open Go Go.Sx
open Bdd
section
variable {kp bq bm : Nat} {K0 : Kd} {S0 : Nat → Bdd.Fn} {U : Bdd.Fn → Prop} {ord lev : List Nat}
theorem down_ok {t : Bool → Bool → Bool} {v r : Nat} {fv : Value} {LB : Hp} (hLq : LeafQ kp K0 S0 U ord lev bq bm t v fv LB) (ht : ∀ a, t a a = a) (hv : v < K0.n) (hW0 : WF K0.n (lv lev) K0.N) (hI0 : Interp K0.N S0) (hL0 : Lev K0.n (lv lev)) (hod : Bdd.Ord K0.n (lv lev) ord) (hf : ∀ s, K0.hold s + 1 < 65535)
  {K : Kd} {S : Nat → Bdd.Fn} {made : List Nat} {es : Array MapEntry} {ck : Nat} {C : Hp} (hr : live K0.N r) (hS : QSt kp K0 S0 U ord lev K S made es ck C true) (hU : ∀ g, NodeSet K0.n ord (fun g => g = QF t v (S0 r)) g → U g) :
  Fc Tryz.prog 203 #[ptr bq, u32 r, .int .i64 (v : Int), fv] (LB ++ qHp bq kp bm true es ck C) (QOut kp K0 S0 U ord lev bq bm LB K S made (QF t v (S0 r))) := by
 have hcl : callable Tryz.prog 213 = true := by kernel_rfl
 have hLq0 := hLq
 obtain ⟨f0, first0, cap0, hfv, _⟩ := hLq0
 have hn := hS.went.n
 intro g
 refine L203_sound (R := FnR _) ?_
 unfold L203
 intro b1 _ b3 _
 refine Ld.mk (v := ptr bq) (by exact .tail _ (.head _)) rfl ?_
 refine Nil.ptr (FAddr.mk (Ld.mk (v := ptr kp) (by exact .tail _ (.tail _ (List.mem_append_right _ (.head _)))) rfl ?_))
 refine CallF.rd (.cons (.cons (.app (.cons (.cons .here))))) (kLevel_ok hS.ks.rep (v : Int)) ?_
 rw [if_pos (by omega)]
 rintro w rfl
 refine Ext.mk rfl (Ext.mk rfl ?_)
 intro b13 _
 refine St.one (by exact .head _) rfl (by simp) rfl ?_
 intro bd _ b18 _
 refine St.one (by exact .head _) rfl (by simp) rfl ?_
 intro b21 _
 refine St.one (by exact .head _) rfl (by simp) rfl ?_
 refine Ld.mk (v := clo213 b1 b13 b18 b3 b21) (by exact .head _) rfl ?_
 refine CallV.of rfl hcl ?_
 subst hfv
 refine CallF.fn (args := #[u32 r, ptr b1, ptr b13, ptr b18, ptr b3, ptr b21]) .here (down1_ok (b1 := b1) (b3 := b3) (b13 := b13) (b18 := b18) (b21 := b21) (bd := bd) hcl hLq ht hv hW0 hI0 hL0 hod hf _ r rfl K S made es ck C true #[] 0 hr hS ⟨[], Ents.empty, fun _ y hy => by cases hy⟩ hU) ?_
 rintro w H ⟨x, K', S', made', es', ck', C', ok', des', dck', rfl, rfl, hS', _, hA, ho⟩
 exact FnR.mk (.skip (.skip (.skip (.skip (.skip .tail))))) ⟨x, K', S', made', es', ck', C', ok', rfl, rfl, hS', hA, fun h => (ho h).2⟩
abbrev bcell (b5 : Nat) (b : Bool) : Nat × Obj := (b5, .cells #[.bool b] 4 (0, 0))
theorem setLeaf_ok {v b5 : Nat} {b : Bool} {LB : Hp} (hW0 : WF K0.n (lv lev) K0.N) (hI0 : Interp K0.N S0) (hL0 : Lev K0.n (lv lev)) (hm : bcell b5 b ∈ LB) : LeafQ kp K0 S0 U ord lev bq bm (fun x y => if b then y else x) v (.func (.func 204) #[] #[ptr b5]) LB := by
 refine ⟨_, _, _, rfl, by kernel_rfl, fun r d hd hdv K S made es ck C hS hU => ?_⟩
 have hr : live K0.N r := .inr ⟨d, hd⟩
 have hdv' := hW0.var hd
 obtain ⟨g1, g2, g3⟩ := cofr_ok (S := S0) hW0 hL0 hI0 hr hdv' (by rw [dep_some hd]; exact Nat.le_refl _) false
 obtain ⟨t1, t2, t3⟩ := cofr_ok (S := S0) hW0 hL0 hI0 hr hdv' (by rw [dep_some hd]; exact Nat.le_refl _) true
 obtain ⟨q1, q2⟩ := cofr_at (N := K0.N) hd
 rw [q1] at g1 g2 g3
 rw [q2] at t1 t2 t3
 subst hdv
 intro g
 refine L204_sound (R := FnR _) ?_
 unfold L204
 intro b1 _
 refine Ld.mk (v := .bool b) (by exact .tail _ (List.mem_append_left _ hm)) rfl ?_
 refine Br.mk (fun hb => ?_) (fun hb => ?_)
 ·subst hb
  refine FAddr.mk (Ld.mk (v := u32 d.hi) (by exact .head _) rfl ?_)
  refine FnR.mk .tail ⟨d.hi, K, S, made, es, ck, C, true, rfl, rfl, hS, .refl, fun _ => ⟨?_, .inl t2⟩⟩
  rw [hS.went.fn _ t2]
  exact funext t1
 ·subst hb
  refine FAddr.mk (Ld.mk (v := u32 d.lo) (by exact .head _) rfl ?_)
  refine FnR.mk .tail ⟨d.lo, K, S, made, es, ck, C, true, rfl, rfl, hS, .refl, fun _ => ⟨?_, .inl g2⟩⟩
  rw [hS.went.fn _ g2]
  exact funext g1
theorem bothLeaf_ok {v b1 b5 : Nat} {e : Bool} {LB : Hp} (hW0 : WF K0.n (lv lev) K0.N) (hI0 : Interp K0.N S0) (hL0 : Lev K0.n (lv lev)) (hod : Bdd.Ord K0.n (lv lev) ord) (hf : ∀ s, K0.hold s + 1 < 65535) (hm : bcell b5 e ∈ LB) (h1 : (b1, Obj.cells #[ptr bq] 262 (0, 0)) ∈ LB) :
  LeafQ kp K0 S0 U ord lev bq bm (fun x y => if e then x || y else x && y) v (.func (.func 217) #[] #[ptr b1, ptr b5]) LB := by
 refine ⟨_, _, _, rfl, by kernel_rfl, fun r d hd hdv K S made es ck C hS hU => ?_⟩
 have hr : live K0.N r := .inr ⟨d, hd⟩
 have hdv' := hW0.var hd
 obtain ⟨g1, g2, g3⟩ := cofr_ok (S := S0) hW0 hL0 hI0 hr hdv' (by rw [dep_some hd]; exact Nat.le_refl _) false
 obtain ⟨t1, t2, t3⟩ := cofr_ok (S := S0) hW0 hL0 hI0 hr hdv' (by rw [dep_some hd]; exact Nat.le_refl _) true
 obtain ⟨q1, q2⟩ := cofr_at (N := K0.N) hd
 rw [q1] at g1 g2 g3
 rw [q2] at t1 t2 t3
 subst hdv
 have eq : QF (fun x y => if e then x || y else x && y) d.v (S0 r) = jf e S0 d.lo d.hi := by
  funext x
  rw [jf_def, g1, t1]; rfl
 rw [eq] at hU ⊢
 intro g
 refine L217_sound (R := FnR _) ?_
 unfold L217
 intro b _
 refine Ld.mk (v := ptr bq) (by exact .tail _ (List.mem_append_left _ h1)) rfl ?_
 refine FAddr.mk (Ld.mk (v := u32 d.lo) (by exact .head _) rfl ?_)
 refine FAddr.mk (Ld.mk (v := u32 d.hi) (by exact .head _) rfl ?_)
 refine Ld.mk (v := .bool e) (by exact .tail _ (List.mem_append_left _ hm)) rfl ?_
 refine CallF.fn (args := #[ptr bq, u32 d.lo, u32 d.hi, .bool e]) (C := qHp bq kp bm true es ck C) (.cons (.app .here)) (join_ok hW0 hI0 hL0 hod hf g2 t2 hS hU) ?_
 rintro w H ⟨x, K', S', made', es', ck', C', ok', rfl, rfl, hS', hA, ho⟩
 exact FnR.mk .tail ⟨x, K', S', made', es', ck', C', ok', rfl, rfl, hS', hA, ho⟩
end
section
variable {kp : Nat} {K : Kd} {S : Nat → Bdd.Fn} {ord lev tr : List Nat} {C : Hp}
abbrev rHp (b5 b3 b1 : Nat) (b : Bool) (v r : Nat) : Hp := [bcell b5 b, (b3, .cells #[.int .i64 (v : Int)] 3 (0, 0)), (b1, .cells #[u32 r] 31 (0, 0))]
theorem RunOut.three {LB : Hp} {f : Bdd.Fn} {w : Value} {H : Hp} (h : RunOut kp K S ord lev LB f w H) : ∃ x b e, w = .tuple #[x, b, e] := by
 rcases h with ⟨x, K', S', C', rfl, _⟩ | ⟨rfl, _⟩
 ·exact ⟨_, _, _, rfl⟩
 ·exact ⟨_, _, _, rfl⟩
theorem RunOut.drop {LB : Hp} {f : Bdd.Fn} {w : Value} {H : Hp} (h : RunOut kp K S ord lev LB f w H) : ∃ C', Ent H C' ∧ RunOut kp K S ord lev [] f w C' := by
 rcases h with ⟨x, K', S', C', rfl, rfl, hK', hg⟩ | ⟨rfl, ⟨K', S', C', rfl, hK', hk⟩, hn⟩
 ·exact ⟨C', .right, .inl ⟨x, K', S', C', rfl, rfl, hK', hg⟩⟩
 ·exact ⟨C', .right, .inr ⟨rfl, ⟨K', S', C', rfl, hK', hk⟩, hn⟩⟩
theorem FnR.drop {LB : Hp} {f : Bdd.Fn} {w : Value} {H : Hp} (h : RunOut kp K S ord lev LB f w H) : FnR (RunOut kp K S ord lev [] f) (.returned w) H := by
 obtain ⟨C', h1, h2⟩ := h.drop
 exact FnR.mk h1 h2
theorem restrict_ok (hK : KSt kp K S ord lev tr C) {r v : Nat} {b : Bool} (hr : live K.N r) (hv : v < K.n) (hf : ∀ s, K.hold s + 1 < 65535) :
  Fc Tryz.prog 184 #[ptr kp, u32 r, .int .i64 (v : Int), .bool b] C (RunOut kp K S ord lev [] (fun x => S r (Tab.setb x v b))) := by
 have eq : QF (fun x y => if b then y else x) v (S r) = fun x => S r (Tab.setb x v b) := by
  funext x; unfold QF; cases b <;> rfl
 rw [← eq]
 intro g
 refine L184_sound (R := FnR _) ?_
 unfold L184
 intro b1 _ b3 _ b5 _
 refine CallF.fn (args := #[ptr kp, .func (.func 202) #[] #[ptr b1, ptr b3, ptr b5]]) (C := rHp b5 b3 b1 b v r ++ C) .here (qrun_ok (f := QF (fun x y => if b then y else x) v (S r)) hK hf fun K1 C1 hK1 mo => ⟨_, _, _, rfl, by kernel_rfl, fun bq bm hQ => ?_⟩) ?_
 ·intro g
  refine L202_sound (R := FnR _) ?_
  unfold L202
  refine Ld.mk (v := u32 r) (by exact .tail _ (.tail _ (.head _))) rfl ?_
  refine Ld.mk (v := .int .i64 (v : Int)) (by exact .tail _ (.head _)) rfl ?_
  have hr1 : live K1.N r := by rw [mo.N]; exact hr
  have hold1 : ∀ s, K1.hold s = K.hold s := fun s => by rw [mo.hold, if_neg (by omega)]
  refine CallF.fn (args := #[ptr bq, u32 r, .int .i64 (v : Int), .func (.func 204) #[] #[ptr b5]]) (C := rHp b5 b3 b1 b v r ++ qHp bq kp bm true #[] 0 C1) .here
   (down_ok (setLeaf_ok hK1.ok.wf hK1.ok.mid.int hK1.ok.lv (b := b) (.head _)) (fun a => by cases b <;> rfl) (by rw [mo.n]; exact hv) hK1.ok.wf hK1.ok.mid.int hK1.ok.lv hK1.od (fun s => by rw [hold1]; exact hf s) hr1 hQ (fun g hg => by rw [mo.n] at hg; exact nodesMono (fun g h => .inr h) hg)) ?_
  intro w H hO
  exact FnR.here hO
 ·intro w H hO
  obtain ⟨x, bb, e, rfl⟩ := hO.three
  exact Ext.mk rfl (Ext.mk rfl (Ext.mk rfl (FnR.drop hO)))
def qf (e : Bool) (v : Nat) (f : Bdd.Fn) : Bdd.Fn := QF (fun x y => if e then x || y else x && y) v f
theorem quantify_ok (hK : KSt kp K S ord lev tr C) {r v : Nat} {e : Bool} (hr : live K.N r) (hv : v < K.n) (hf : ∀ s, K.hold s + 1 < 65535) :
  Fc Tryz.prog 205 #[ptr kp, u32 r, .int .i64 (v : Int), .bool e] C (RunOut kp K S ord lev [] (qf e v (S r))) := by
 intro g
 refine L205_sound (R := FnR _) ?_
 unfold L205
 intro b1 _ b3 _ b5 _
 refine CallF.fn (args := #[ptr kp, .func (.func 216) #[] #[ptr b1, ptr b3, ptr b5]]) (C := rHp b5 b3 b1 e v r ++ C) .here (qrun_ok (f := qf e v (S r)) hK hf fun K1 C1 hK1 mo => ⟨_, _, _, rfl, by kernel_rfl, fun bq bm hQ => ?_⟩) ?_
 ·intro g
  refine L216_sound (R := FnR _) ?_
  unfold L216
  intro b2 _
  refine Ld.mk (v := ptr bq) (by exact .head _) rfl ?_
  refine Ld.mk (v := u32 r) (by exact .tail _ (.tail _ (.tail _ (.head _)))) rfl ?_
  refine Ld.mk (v := .int .i64 (v : Int)) (by exact .tail _ (.tail _ (.head _))) rfl ?_
  have hr1 : live K1.N r := by rw [mo.N]; exact hr
  have hold1 : ∀ s, K1.hold s = K.hold s := fun s => by rw [mo.hold, if_neg (by omega)]
  have hf1 : ∀ s, K1.hold s + 1 < 65535 := fun s => by rw [hold1]; exact hf s
  refine CallF.fn (args := #[ptr bq, u32 r, .int .i64 (v : Int), .func (.func 217) #[] #[ptr b2, ptr b5]]) (C := ((b2, Obj.cells #[ptr bq] 262 (0, 0)) :: rHp b5 b3 b1 e v r) ++ qHp bq kp bm true #[] 0 C1) .here
   (down_ok (bothLeaf_ok hK1.ok.wf hK1.ok.mid.int hK1.ok.lv hK1.od hf1 (e := e) (.tail _ (.head _)) (.head _)) (fun a => by cases e <;> cases a <;> rfl) (by rw [mo.n]; exact hv) hK1.ok.wf hK1.ok.mid.int hK1.ok.lv hK1.od hf1 hr1 hQ (fun g hg => by rw [mo.n] at hg; exact nodesMono (fun g h => .inr h) hg)) ?_
  rintro w H ⟨x, K', S', made', es', ck', C', ok', rfl, rfl, hS', hA, ho⟩
  exact FnR.mk .tail ⟨x, K', S', made', es', ck', C', ok', rfl, rfl, hS', hA, ho⟩
 ·intro w H hO
  obtain ⟨x, bb, e, rfl⟩ := hO.three
  exact Ext.mk rfl (Ext.mk rfl (Ext.mk rfl (FnR.drop hO)))
end
end Go.Proofs
namespace Go.Sx
open Go
section
variable {P : Program} {g : Gh} {H : Hp}
def FcD (P : Program) (f : FuncId) (args : Array Value) (C : Hp) (Q : Value → Hp → Prop) : Prop := ∀ g, SCallsD P g f args C (FnR Q)
theorem DefF.fn {f : FuncId} {args : Array Value} {C H : Hp} {c : Hp → Hp} {Q : Value → Hp → Prop} {K : Hp → Prop} (hh : Hole C H c) (hc : FcD P f args C Q) (hk : ∀ v C', Q v C' → K (c C')) : DefF P g f args H K := by
 intro w hw u
 obtain ⟨rfl, F, hp⟩ := hh.spec
 have hw' : Own g (C ++ F) w := Ent.perm (hp C) g w hw
 refine ((hc (g.add F)) w (Own.framed.1 hw') u).mono ?_
 rintro e u' w' ⟨rfl, H', ho, v, C', rfl, he, hq⟩
 have h1 : Own g (H' ++ F) w' := Own.framed.2 ho
 have h2 : Own g (c H') w' := Ent.perm (hp H').symm g w' h1
 exact ⟨rfl, c C', hh.ent he g w' h2, ⟨v, rfl⟩, hk _ _ hq⟩
end
end Go.Sx
set_option maxRecDepth 100000
namespace Go.Proofs
open Go Go.Sx
open Bdd
section
variable {kp : Nat} {K : Kd} {ord lev tr : List Nat} {C : Hp} {S : Nat → Bdd.Fn}
theorem drop_body (h : KSt kp K S ord lev tr C) {r : Nat} (hr : r < 4294967296) (hh : 2 ≤ r → K.hold r ≠ 0) : ∀ g, L12 g (ptr kp) (u32 r) C (FnR fun v C' => v = .int .i64 0 ∧ ∃ K', KSt kp K' S ord lev [] C' ∧ Fewer K K' r) := by
 have h0 := h
 obtain ⟨b, hC, hO⟩ := h.rep
 intro g
 unfold L12
 refine Bin.ptrNil (Br.no ?_)
 intro J2 hJ2
 have fin : ∀ (K' : Kd) C1, KRep kp K' ord lev tr C1 → Ok K' S (lv lev) → Idle K' → Fewer K K' r → J2 [] C1 := fun K' C1 hK' hok' hid' hm => by
  refine hJ2 _ fun gs => ?_
  obtain ⟨b', rfl, hO'⟩ := hK'
  refine Nil.ptr (FAddr.mk (St.one (by exact .head _) rfl (by simp [KBs.cells]) rfl ?_))
  have hod : Ord K'.n (lv lev) ord := by rw [hm.n]; exact h.od
  refine FnR.mk (H'' := ({ b' with vt := .slice none 0 0, CR := [] } : KBs).hp kp K'.n) ?_ ⟨rfl, K', ⟨⟨{ b' with vt := .slice none 0 0, CR := [] }, rfl, { hO' with tr := IOwn.nil }⟩, hok', hod, hid', trivial⟩, hm⟩
  refine .cons (.prep (.prep (.prep (.prep (.prep (.prep .nil _) _) _) _) _) _)
 refine Bin.gtN (b := 1) (Br.dec (fun h2 => ?_) (fun h2 => ?_))
 rotate_left
 ·exact JE.mk (fin K C h.rep h.ok h.idle ⟨rfl, rfl, fun _ _ h => h, fun s => by rw [if_neg (by omega)]⟩)
 have h2' : 2 ≤ r := by omega
 have hh' := hh h2'
 obtain ⟨d, hd⟩ := h.ok.mid.held r hh'
 have hfu := h.ok.mid.fit hd
 have hul := hO.ul
 have hfit : r < K.ho.length := by omega
 have hle := h.hold_le r
 refine CallF.rd .here (kheld_ok h.rep hr (fun s => by have := h.hold_le s; omega)) ?_
 rintro w rfl
 refine Bin.eqD (Br.decF (by omega) ?_)
 subst hC
 refine Nil.ptr (FAddr.mk (FAddr.mk (Ld.mk (v := b.vh) (by exact .head _) rfl ?_)))
 refine hO.ho.ld (x := ((K.hold r : Nat) : Int)) (iw_getD hfit) (Hole.sub (.cons (.app (.app (.app .left))))) ?_
 refine Bin.subN (b := 1) (by simp [lim]; omega) (by omega) ?_
 refine hO.ho.putH (x := ((K.hold r - 1 : Nat) : Int)) (.cons (.app (.app (.app .left)))) (by rw [iw_length]; exact hfit) fun CH' hhh => ?_
 rw [iw_set] at hhh
 have g1 : ∀ s, (K.ho.set r (K.hold r - 1)).getD s 0 = if s = r then K.hold r - 1 else K.hold s := fun s => getD_set hfit
 have hM := h.ok.mid.drop (r := r) (ho' := K.ho.set r (K.hold r - 1)) (by omega) (by simp) (by rw [g1, if_pos rfl]; omega) (fun s hs => by rw [g1, if_neg hs])
 have hK1 : KRep kp { K with ho := K.ho.set r (K.hold r - 1) } ord lev tr (({ b with CH := CH' } : KBs).hp kp K.n) := ⟨_, rfl, { hO with ho := hhh, ul := by simp; exact hul }⟩
 have hho : ∀ s, (K.ho.set r (K.hold r - 1)).getD s 0 = if s = r ∧ 2 ≤ r then K.hold s - 1 else K.hold s := fun s => by
  rw [g1]
  by_cases e : s = r
  ·subst e; rw [if_pos rfl, if_pos ⟨rfl, h2'⟩]
  ·rw [if_neg e, if_neg (fun h => e h.1)]
 refine Nil.ptr (FAddr.mk (FAddr.mk (Ld.mk (v := b.vh) (by exact .head _) rfl ?_)))
 refine hhh.ld (x := ((K.hold r - 1 : Nat) : Int)) (by rw [iw_getD (by simpa using hfit), g1, if_pos rfl]) (Hole.sub (.cons (.app (.app (.app .left))))) ?_
 refine Bin.eqN (b := 0) (Br.dec (fun h3 => ?_) (fun h3 => ?_))
 rotate_left
 ·rw [if_neg (by omega)] at hM
  exact JE.mk (fin { K with ho := K.ho.set r (K.hold r - 1) } _ hK1 ⟨hM, h.ok.pos, h.ok.lv, h.ok.wf⟩ h.idle ⟨rfl, rfl, fun _ _ h => h, hho⟩)
 rw [if_pos (by omega)] at hM
 refine Nil.ptr (FAddr.mk ?_)
 have hM2 : Mid { K with ho := K.ho.set r (K.hold r - 1) } S none' (cntP zero' [r]) := hM.congr (fun _ => Iff.rfl) fun s _ => by
  unfold up cntP zero'
  by_cases e : s = r
  ·subst e; simp
  ·simp [e, Ne.symm e]
 refine CallF.fn .here (release_ok (P0 := zero') hK1 hM2 h.ok.pos (fun t h2t h0 => ?_) (h.live_lt (.inr ⟨d, hd⟩)) (fun s => by have := h.use_lt s; show K.use s < _; omega)) ?_
 ·by_cases e : t = r
  ·subst e; exact ⟨d, hd⟩
  ·have h0' : 0 < zero' t + [r].count t := h0
   simp [zero', Ne.symm e] at h0'
 rintro w C2 ⟨rfl, K2, hK2, hM3, hp3, _, hless⟩
 refine JE.mk (fin K2 _ hK2 ⟨hM3, hp3, by rw [hless.n]; exact h.ok.lv, less_wf h.ok.wf hM3 (fun h => hless.N h) hless.n⟩ (hless.idle h.idle) ⟨hless.n, hless.cap, fun s e hs => hless.N hs, fun s => ?_⟩)
 show K2.ho.getD s 0 = _
 rw [hless.ho]
 exact hho s
theorem dropD_ok (h : KSt kp K S ord lev tr C) {r : Nat} (hr : r < 4294967296) (hh : 2 ≤ r → K.hold r ≠ 0) : FcD Tryz.prog 12 #[ptr kp, u32 r] C (fun v C' => v = .int .i64 0 ∧ ∃ K', KSt kp K' S ord lev [] C' ∧ Fewer K K' r) :=
 fun g => L12_soundD (drop_body h hr hh g)
end
end Go.Proofs
set_option maxRecDepth 100000
namespace Go.Proofs
open Go Go.Sx
open Bdd
section
variable {kp : Nat} {K : Kd} {S : Nat → Bdd.Fn} {ord lev tr : List Nat} {C : Hp}
theorem told_ok (B : Hp) (x : Nat) : Rd Tryz.prog 183 #[u32 x, .bool true, .int .i64 0] B (· = .tuple #[u32 x, .int .i64 0]) := by
 intro g
 refine L183_sound (R := FnR _) ?_
 unfold L183
 exact Bin.neD (Br.decF (by decide) (Un.not (Br.no (RdR.mk (.refl _) rfl))))
theorem told_no (B : Hp) (x : Value) (b : Value) : Rd Tryz.prog 183 #[x, b, .int .i64 9] B (· = .tuple #[u32 0, .int .i64 9]) := by
 intro g
 refine L183_sound (R := FnR _) ?_
 unfold L183
 exact Bin.neD (Br.decT (by decide) (RdR.mk (.refl _) rfl))
theorem single_ok (hK : KSt kp K S ord lev tr C) {v : Nat} (hv : v < K.n) : Rd Tryz.prog 181 #[ptr kp, .int .i64 (v : Int)] C (· = .tuple #[.int .u64 ((2 ^ v : Nat) : Int), .bool true]) := by
 have hn := hK.at'.n64
 intro g
 refine L181_sound (R := FnR _) ?_
 unfold L181
 intro J hJ
 refine Bin.lss ?_
 rw [decide_eq_false (by omega)]
 refine Split.go rfl ?_
 refine Bin.ptrNilN ?_
 refine Split.go rfl ?_
 refine CallF.rd .here (kvars_ok hK.rep) ?_
 rintro w rfl
 refine Bin.geN ?_
 rw [decide_eq_false (by omega)]
 refine Pick.mk (Pick.mk (JE.mk (hJ _ _ fun gs => Br.no ?_)))
 have h2 : 2 ^ v < 18446744073709551616 := Nat.lt_of_lt_of_le (Nat.pow_lt_pow_right (by decide) (show v < 64 by omega)) (by decide)
 refine Bin.shlN (a := 1) (by simp [IntKind.bits]; omega) (by rw [Nat.one_shiftLeft]; simpa [lim] using h2) ?_
 rw [Nat.one_shiftLeft]
 exact RdR.mk (.refl _) rfl
theorem qcheck_ok (hK : KSt kp K S ord lev tr C) {Y : Hp} {mask : Nat} {vr : Value} {refs : List Nat} (hm : mask < 2 ^ K.n) (hr : Ints .u32 Y vr (iw refs)) (hl : ∀ r ∈ refs, live K.N r) (hmax : refs.length ≤ 1048576) : Rd Tryz.prog 182 #[ptr kp, .int .u64 (mask : Int), vr] (Y ++ C) (· = .int .i64 0) := by
 have hn := hK.at'.n64
 intro g
 refine L182_sound (R := FnR _) ?_
 unfold L182
 refine Bin.ptrNil (Br.no ?_)
 refine CallF.rd (.app .here) (kvars_ok hK.rep) ?_
 rintro w rfl
 have h64 : mask < 18446744073709551616 := Nat.lt_of_lt_of_le hm (Nat.pow_le_pow_right (n := 2) (by decide) hn)
 refine Bin.shrN (by simpa [lim] using h64) ?_
 rw [Nat.shiftRight_eq_div_pow, Nat.div_eq_of_lt hm]
 refine Bin.neD (Br.decF (by decide) ?_)
 refine hr.lenS ?_
 rw [iw_length]
 refine ⟨fun vs H => ∃ i : Nat, vs = [.int .i64 (i : Int)] ∧ i ≤ refs.length ∧ H = Y ++ C, fun vs _ => refs.length - nAt vs 0, JE.mk ⟨0, rfl, Nat.zero_le _, rfl⟩, ?_⟩
 rintro w7 H ⟨i, hv, hi, rfl⟩ gs
 simp only [List.cons.injEq, and_true] at hv
 subst hv
 refine Bin.ltN (Br.dec (fun hlt => ?_) (fun hlt => ?_))
 ·have hlr := hl _ (List.getElem_mem hlt)
  refine hr.ld (n := ((refs[i] : Nat) : Int)) (iw_get (List.getElem?_eq_getElem hlt)) (fun _ h => List.mem_append_left _ h) ?_
  refine CallF.rd (args := #[ptr kp, u32 refs[i]]) (.app .here) (kNode_ok hK.rep (by have := hK.live_lt hlr; omega)) ?_
  rintro w rfl
  rw [liveB_iff.2 hlr]
  refine Ext.mk rfl (Ext.mk rfl ?_)
  intro b15 _
  refine St.whole (r := got K.N refs[i]) (by exact .head _) rfl (got_one _ _).1 (got_one _ _).2 ?_
  refine Bin.neD (Br.decF (by simp) ?_)
  refine Bin.addN (b := 1) (by simp [lim]; omega) ?_
  exact Back.of .tail ⟨i + 1, rfl, hlt, rfl⟩ (by simp only [nAt]; omega)
 ·exact RdR.mk (.refl _) rfl
theorem RunOut.done {f : Bdd.Fn} {w : Value} {H : Hp} (h : RunOut kp K S ord lev [] f w H) : (∃ x, w = .tuple #[u32 x, .bool true, .int .i64 0] ∧ Done kp K S ord lev tr f (.tuple #[u32 x, .int .i64 0]) H) ∨ (w = .tuple #[u32 0, .bool false, .int .i64 9] ∧ Done kp K S ord lev tr f (.tuple #[u32 0, .int .i64 9]) H) := by
 rcases h with ⟨x, K', S', C', rfl, rfl, hK', hg⟩ | ⟨rfl, ⟨K', S', C', rfl, hK', hk⟩, hn⟩
 ·exact .inl ⟨x, rfl, .inl ⟨x, K', S', rfl, hK', hg⟩⟩
 ·exact .inr ⟨rfl, .inr ⟨rfl, ⟨K', S', [], hK', .inl rfl, hk⟩, hn⟩⟩
theorem mask_lt {n v : Nat} (hv : v < n) : 2 ^ v < 2 ^ n := Nat.pow_lt_pow_right (by decide) hv
theorem qRestrict_ok (hK : KSt kp K S ord lev tr C) {r v : Nat} {b : Bool} (hr : live K.N r) (hv : v < K.n) (hf : ∀ s, K.hold s + 1 < 65535) :
  Fc Tryz.prog 154 #[ptr kp, u32 r, .int .i64 (v : Int), .bool b] C (Done kp K S ord lev tr (fun x => S r (Tab.setb x v b))) := by
 intro g
 refine L154_sound (R := FnR _) ?_
 unfold L154
 refine CallF.rd .here (single_ok hK hv) ?_
 rintro w rfl
 refine Ext.mk rfl (Ext.mk rfl ?_)
 refine Bin.ptrNilN ?_
 refine Grp.and (a := true) false (fun _ => Un.not ⟨rfl, rfl⟩) rfl fun gs => Br.no ?_
 refine BuildSl.int (e := 31) (by kernel_rfl) (by kernel_rfl) (by kernel_rfl) fun bs => ?_
 refine CallF.rd (args := #[ptr kp, .int .u64 ((2 ^ v : Nat) : Int), .slice (some ⟨bs, 0, none⟩) 1 1]) .here (qcheck_ok (Y := [(bs, Obj.cells (icells .u32 [(r : Int)]) 31 (0, 0))]) (refs := [r]) hK (mask_lt hv) ((IOwn.made (T := 31) (kd := .u32) (b := bs) (iw [r])).ints) (fun s hs => by simp at hs; subst hs; exact hr) (by show 1 ≤ 1048576; omega)) ?_
 rintro w rfl
 refine Bin.neD (Br.decF (by decide) ?_)
 refine CallF.fn (args := #[ptr kp, u32 r, .int .i64 (v : Int), .bool b]) (.cons .here) (restrict_ok hK hr hv hf) ?_
 intro w H hO
 rcases hO.done (tr := tr) with ⟨x, rfl, hD⟩ | ⟨rfl, hD⟩
 ·refine Ext.mk rfl (Ext.mk rfl (Ext.mk rfl ?_))
  refine CallF.rd .here (told_ok _ x) ?_
  rintro w rfl
  exact Ext.mk rfl (Ext.mk rfl (FnR.mk .tail hD))
 ·refine Ext.mk rfl (Ext.mk rfl (Ext.mk rfl ?_))
  refine CallF.rd .here (told_no _ _ _) ?_
  rintro w rfl
  exact Ext.mk rfl (Ext.mk rfl (FnR.mk .tail hD))
end
theorem Fits.mono {A B : Bdd.Fn → Prop} {cap : Nat} (h : ∀ g, A g → B g) (hB : Fits B cap) : Fits A cap := by
 classical
 obtain ⟨ku, ⟨l, h1, h2, h3⟩, hc⟩ := hB
 refine ⟨(l.filter fun g => decide (A g)).length, ⟨l.filter fun g => decide (A g), h1.filter _, rfl, fun g => ?_⟩, ?_⟩
 ·rw [List.mem_filter, decide_eq_true_eq, ← h3]
  exact ⟨fun x => ⟨h g x, x⟩, fun x => x.2⟩
 ·have := List.length_filter_le (fun g => decide (A g)) l
  omega
def bitsOf (mask n : Nat) : List Nat := (List.range n).filter fun i => mask.testBit i
theorem bitsOf_succ (mask n : Nat) : bitsOf mask (n + 1) = bitsOf mask n ++ if mask.testBit n then [n] else [] := by
 unfold bitsOf
 rw [List.range_succ, List.filter_append, List.filter_cons, List.filter_nil]
def qfs (e : Bool) (vs : List Nat) (f : Bdd.Fn) : Bdd.Fn := vs.foldl (fun g v => qf e v g) f
theorem qfs_more (e : Bool) (vs : List Nat) (v : Nat) (f : Bdd.Fn) : qfs e (vs ++ [v]) f = qf e v (qfs e vs f) := by
 unfold qfs; rw [List.foldl_append]; rfl
section
variable {kp : Nat} {K : Kd} {S : Nat → Bdd.Fn} {ord lev tr : List Nat} {C : Hp}
def EachOut (kp : Nat) (K : Kd) (S : Nat → Bdd.Fn) (ord lev tr : List Nat) (e : Bool) (mask r : Nat) (w : Value) (H : Hp) : Prop :=
 (∃ x K' S', w = .tuple #[u32 x, .int .i64 0] ∧ KSt kp K' S' ord lev [] H ∧ GrowR K S K' S' (qfs e (bitsOf mask K.n) (S r)) x) ∨
 (w = .tuple #[u32 0, .int .i64 9] ∧ (∃ K' S' tr', KSt kp K' S' ord lev tr' H ∧ (tr' = [] ∨ tr' = tr) ∧ Kept K S K' S') ∧ ∃ i, i < K.n ∧ mask.testBit i = true ∧ ¬ Fits (NodeSet K.n ord (fun g => (K.held S g ∨ (bitsOf mask i ≠ [] ∧ g = qfs e (bitsOf mask i) (S r))) ∨ g = qf e i (qfs e (bitsOf mask i) (S r)))) K.cap)
structure Way (K : Kd) (S : Nat → Bdd.Fn) (K1 : Kd) (S1 : Nat → Bdd.Fn) (ch : Bool) (cur : Nat) : Prop where
 n : K1.n = K.n
 cap : K1.cap = K.cap
 N : ∀ s d, K.N s = some d → K1.N s = some d
 fn : ∀ s, live K.N s → S1 s = S s
 live : live K1.N cur
 hold : ∀ s, K1.hold s = K.hold s + if ch = true ∧ s = cur ∧ 2 ≤ cur then 1 else 0
theorem each_ok (hK : KSt kp K S ord lev tr C) {r mask : Nat} {e : Bool} (hr : live K.N r) (hm : mask < 2 ^ K.n) (hf : ∀ s, K.hold s + 2 < 65535) :
  Fc Tryz.prog 185 #[ptr kp, u32 r, .int .u64 (mask : Int), .bool e] C (EachOut kp K S ord lev tr e mask r) := by
 have hn := hK.at'.n64
 have h64 : mask < 18446744073709551616 := Nat.lt_of_lt_of_le hm (Nat.pow_le_pow_right (n := 2) (by decide) hn)
 have hnz : ∀ s, K.hold s ≠ 0 → live K.N s := fun s hs => .inr (hK.ok.mid.held s hs)
 intro g
 refine L185_sound (R := FnR _) ?_
 unfold L185
 refine BuildSl.int (e := 31) (by kernel_rfl) (by kernel_rfl) (by kernel_rfl) fun bs => ?_
 refine CallF.rd (args := #[ptr kp, .int .u64 (mask : Int), .slice (some ⟨bs, 0, none⟩) 1 1]) .here (qcheck_ok (Y := [(bs, Obj.cells (icells .u32 [(r : Int)]) 31 (0, 0))]) (refs := [r]) hK hm ((IOwn.made (T := 31) (kd := .u32) (b := bs) (iw [r])).ints) (fun s hs => by simp at hs; subst hs; exact hr) (by show 1 ≤ 1048576; omega)) ?_
 rintro w rfl
 refine Bin.neD (Br.decF (by decide) ?_)
 refine Bin.eqN (b := 0) (Br.dec (fun h0 => ?_) (fun h0 => ?_))
 ·subst h0
  refine CallF.fn (args := #[ptr kp, u32 r]) (.cons .here) (keep_ok hK (r := r) hr (fun _ => by have := hf r; omega)) ?_
  rintro w C1 ⟨rfl, K1, hK1, mo⟩
  refine Bin.neD (Br.decF (by decide) ?_)
  refine FnR.mk .tail (.inl ⟨r, K1, S, rfl, hK1, mo.n, mo.cap, fun s d hd => by rw [mo.N]; exact hd, fun _ _ => rfl, by rw [mo.N]; exact hr, ?_, fun s => by rw [mo.hold]; split <;> omega⟩)
  have : bitsOf 0 K.n = [] := by unfold bitsOf; rw [List.filter_eq_nil_iff]; intro a _; simp
  rw [this]; rfl
 refine CallF.rd (.cons .here) (kvars_ok hK.rep) ?_
 rintro w rfl
 refine ⟨fun vs H => ∃ (i cur : Nat) (ch : Bool) (K1 : Kd) (S1 : Nat → Bdd.Fn) (C1 : Hp) (tr1 : List Nat), vs = [u32 cur, .bool ch, .int .i64 (i : Int)] ∧ i ≤ K.n ∧ H = (bs, Obj.cells (icells .u32 [(r : Int)]) 31 (0, 0)) :: C1 ∧ KSt kp K1 S1 ord lev tr1 C1 ∧
   (ch = decide (bitsOf mask i ≠ [])) ∧ S1 cur = qfs e (bitsOf mask i) (S r) ∧ Way K S K1 S1 ch cur ∧ (ch = true → tr1 = []), fun vs _ => K.n - nAt vs 2,
  JE.mk ⟨0, r, false, K, S, C, tr, rfl, Nat.zero_le _, rfl, hK, rfl, rfl, ⟨rfl, rfl, fun _ _ h => h, fun _ _ => rfl, hr, fun s => by rw [if_neg (fun h => by cases h.1)]; rfl⟩, fun h => by cases h⟩, ?_⟩
 rintro w16 w17 w18 H ⟨i, cur, ch, K1, S1, C1, tr1, hvs, hi, rfl, hK1, hch, hcur, hw, htr⟩ gs
 simp only [List.cons.injEq, and_true] at hvs
 obtain ⟨rfl, rfl, rfl⟩ := hvs
 refine Bin.ltN (Br.dec (fun hlt => ?_) (fun hlt => ?_))
 rotate_left
 ·obtain rfl : i = K.n := by omega
  have hne : bitsOf mask K.n ≠ [] := fun hb => h0 (by
   apply Nat.eq_of_testBit_eq
   intro j
   rw [Nat.zero_testBit]
   by_cases hj : j < K.n
   ·cases ht : mask.testBit j with
    | false => rfl
    | true =>
     have : j ∈ bitsOf mask K.n := List.mem_filter.2 ⟨List.mem_range.2 hj, ht⟩
     rw [hb] at this; cases this
   ·exact Nat.testBit_lt_two_pow (Nat.lt_of_lt_of_le hm (Nat.pow_le_pow_right (by decide) (by omega))))
  have hct : ch = true := by rw [hch]; exact decide_eq_true hne
  rw [htr hct] at hK1
  exact FnR.mk .tail (.inl ⟨cur, K1, S1, rfl, hK1, hw.n, hw.cap, hw.N, hw.fn, hw.live, hcur, fun s => by rw [hw.hold]; simp [hct]⟩)
 intro J hJ
 refine Bin.shrN (by simpa [lim] using h64) ?_
 refine Bin.andN (b := 1) (by have : mask >>> i ≤ mask := Nat.shiftRight_le _ _; simp [lim]; omega) (by simp [lim]) ?_
 have hbit : (mask >>> i) &&& 1 = (mask.testBit i).toNat := by
  rw [Nat.and_one_is_mod, Nat.testBit_eq_decide_div_mod_eq, Nat.shiftRight_eq_div_pow]
  have : mask / 2 ^ i % 2 < 2 := Nat.mod_lt _ (by decide)
  by_cases h : mask / 2 ^ i % 2 = 1
  ·simp [h]
  ·have : mask / 2 ^ i % 2 = 0 := by omega
   simp [this]
 rw [hbit]
 refine Bin.eqN (b := 0) ?_
 cases ht : mask.testBit i with
 | false =>
  refine Br.decT rfl ?_
  refine JE.mk (hJ _ _ _ fun gs => ?_)
  refine Bin.addN (b := 1) (by simp [lim]; omega) ?_
  have eb : bitsOf mask (i + 1) = bitsOf mask i := by rw [bitsOf_succ, ht]; simp
  exact Back.mk ⟨i + 1, cur, ch, K1, S1, C1, tr1, rfl, hlt, rfl, hK1, by rw [eb]; exact hch, by rw [eb]; exact hcur, hw, htr⟩ (by simp only [nAt]; omega)
 | true =>
  refine Br.decF (by decide) ?_
  have eb : bitsOf mask (i + 1) = bitsOf mask i ++ [i] := by rw [bitsOf_succ, ht]; simp
  have hf1 : ∀ s, K1.hold s + 1 < 65535 := fun s => by rw [hw.hold]; have := hf s; split <;> omega
  have hh1 : ∀ s, K1.hold s ≠ 0 → live K1.N s := fun s hs => .inr (hK1.ok.mid.held s hs)
  refine CallF.fn (args := #[ptr kp, u32 cur, .int .i64 (i : Int), .bool e]) (.cons .here) (quantify_ok hK1 hw.live (by rw [hw.n]; exact hlt) hf1) ?_
  rintro w H (⟨x, K2, S2, C2, rfl, rfl, hK2, hg⟩ | ⟨rfl, ⟨K2, S2, C2, rfl, hK2, hk⟩, hno⟩)
  ·refine Ext.mk rfl (Ext.mk rfl (Ext.mk rfl ?_))
   refine CallF.rd .here (told_ok _ x) ?_
   rintro w rfl
   refine Ext.mk rfl (Ext.mk rfl ?_)
   intro J38 h38
   have go : ∀ K3 C3, KSt kp K3 S2 ord lev [] C3 → Way K S K3 S2 true x → J38 [] ((bs, Obj.cells (icells .u32 [(r : Int)]) 31 (0, 0)) :: C3) := fun K3 C3 hK3 hw3 => by
    refine h38 _ fun gs => ?_
    refine Bin.neD (Br.decF (by decide) ?_)
    refine JE.mk (hJ _ _ _ fun gs => ?_)
    refine Bin.addN (b := 1) (by simp [lim]; omega) ?_
    exact Back.mk ⟨i + 1, x, true, K3, S2, C3, [], rfl, hlt, rfl, hK3, by rw [eb]; exact (decide_eq_true (by simp)).symm, by rw [hg.is, eb, qfs_more, hcur], hw3, fun _ => rfl⟩ (by simp only [nAt]; omega)
   have fn2 : ∀ s, live K.N s → S2 s = S s := fun s hs => (hg.fn s (live_mono hw.N hs)).trans (hw.fn s hs)
   cases ch with
   | false =>
    refine Br.no (JE.mk (go K2 H hK2 ⟨hg.n.trans hw.n, hg.cap.trans hw.cap, fun s d hd => hg.N s d (hw.N s d hd), fn2, hg.live, fun s => ?_⟩))
    have a := hw.hold s
    rw [if_neg (fun h => by cases h.1)] at a
    rw [hg.hold, a]; simp
   | true =>
    have hlc := hw.live
    have hcc : 2 ≤ cur → K2.hold cur ≠ 0 := fun h2 => by rw [hg.hold, hw.hold, if_pos ⟨rfl, rfl, h2⟩]; omega
    refine Br.yes ?_
    refine CallF.fn (args := #[ptr kp, u32 cur]) (.cons .here) (drop_ok hK2 (r := cur) (by have := hK1.live_lt hlc; omega) hcc) ?_
    rintro w C3 ⟨rfl, K3, hK3, f3⟩
    have hold3 : ∀ s, K3.hold s = K.hold s + if s = x ∧ 2 ≤ x then 1 else 0 := fun s => by
     have a := hw.hold s
     simp only [true_and] at a
     rw [f3.hold, hg.hold, a]
     split <;> split <;> omega
    refine JE.mk (go K3 C3 hK3 ⟨by rw [f3.n, hg.n, hw.n], by rw [f3.cap, hg.cap, hw.cap], fun s d hs => keep_nodes hK.ok hK3.ok (fun s h => by rw [hold3]; omega) (fun s d d' h h' => ?_) _ s d hs (Nat.le_refl _), fn2, ?_, fun s => by rw [hold3]; simp⟩)
    ·have a := f3.N s d' h'
     rw [hg.N s d (hw.N s d h)] at a; exact (Option.some.inj a).symm
    ·by_cases h2 : x < 2
     ·exact .inl h2
     ·refine .inr (hK3.ok.mid.held x ?_)
      rw [hold3, if_pos ⟨rfl, by omega⟩]; omega
  ·refine Ext.mk rfl (Ext.mk rfl (Ext.mk rfl ?_))
   refine CallF.rd .here (told_no _ _ _) ?_
   rintro w rfl
   refine Ext.mk rfl (Ext.mk rfl ?_)
   intro J38 h38
   have hk1 : ∀ g, K1.held S1 g → K.held S g ∨ (bitsOf mask i ≠ [] ∧ g = qfs e (bitsOf mask i) (S r)) := by
    rintro g ⟨s, hs, rfl⟩
    have hs' : K1.hold s ≠ 0 := hs
    by_cases hz : K.hold s = 0
    ·right
     rw [hw.hold, hz] at hs'
     by_cases hx : ch = true ∧ s = cur ∧ 2 ≤ cur
     ·refine ⟨?_, by rw [hx.2.1]; exact hcur⟩
      have := hx.1
      rw [hch] at this
      exact of_decide_eq_true this
     ·rw [if_neg hx] at hs'; omega
    ·exact .inl ⟨s, hz, hw.fn s (hnz s hz)⟩
   have hno' : ¬ Fits (NodeSet K.n ord (fun g => (K.held S g ∨ (bitsOf mask i ≠ [] ∧ g = qfs e (bitsOf mask i) (S r))) ∨ g = qf e i (qfs e (bitsOf mask i) (S r)))) K.cap := fun hfit => hno (by
    rw [hw.n, hw.cap, hcur]
    exact Fits.mono (fun g hg => nodesMono (fun g h => h.imp (hk1 g) id) hg) hfit)
   have go : ∀ K3 C3 tr3, KSt kp K3 S2 ord lev tr3 C3 → tr3 = [] → (∀ s, K3.hold s = K.hold s) → K3.n = K2.n → K3.cap = K2.cap → J38 [] ((bs, Obj.cells (icells .u32 [(r : Int)]) 31 (0, 0)) :: C3) := fun K3 C3 tr3 hK3 ht3 hh3 hn3 hc3 => by
    refine h38 _ fun gs => ?_
    refine Bin.neD (Br.decT (by decide) ?_)
    have hfn : ∀ s, K.hold s ≠ 0 → S2 s = S s := fun s hs => (hk.fn s (by rw [hw.hold]; omega)).trans (hw.fn s (hnz s hs))
    refine FnR.mk .tail (.inr ⟨rfl, ⟨K3, S2, tr3, hK3, .inl ht3, ⟨by rw [hn3, hk.n, hw.n], by rw [hc3, hk.cap, hw.cap], hh3, fun g => ?_, hfn⟩⟩, i, hlt, ht, hno'⟩)
    constructor
    ·rintro ⟨s, hs, rfl⟩
     have hs' : K.hold s ≠ 0 := by rw [← hh3]; exact hs
     exact ⟨s, hs', hfn s hs'⟩
    ·rintro ⟨s, hs, rfl⟩
     exact ⟨s, by show K3.hold s ≠ 0; rw [hh3]; exact hs, (hfn s hs).symm⟩
   cases ch with
   | false =>
    refine Br.no (JE.mk (go K2 H [] hK2 rfl (fun s => ?_) rfl rfl))
    rw [hk.hold, hw.hold, if_neg (fun h => by cases h.1)]; rfl
   | true =>
    have hcc : 2 ≤ cur → K2.hold cur ≠ 0 := fun h2 => by rw [hk.hold, hw.hold, if_pos ⟨rfl, rfl, h2⟩]; omega
    refine Br.yes ?_
    refine CallF.fn (args := #[ptr kp, u32 cur]) (.cons .here) (drop_ok hK2 (r := cur) (by have := hK1.live_lt hw.live; omega) hcc) ?_
    rintro w C3 ⟨rfl, K3, hK3, f3⟩
    refine JE.mk (go K3 C3 [] hK3 rfl (fun s => ?_) f3.n f3.cap)
    have a := hw.hold s
    simp only [true_and] at a
    rw [f3.hold, hk.hold, a]
    split <;> omega
end
end Go.Proofs
set_option maxRecDepth 100000
namespace Go.Proofs
open Go Go.Sx
open Bdd
section
variable {kp : Nat} {K : Kd} {S : Nat → Bdd.Fn} {ord lev tr : List Nat} {C : Hp}
theorem EachOut.two {e : Bool} {mask r : Nat} {w : Value} {H : Hp} (h : EachOut kp K S ord lev tr e mask r w H) : ∃ x y, w = .tuple #[x, y] := by
 rcases h with ⟨x, K', S', rfl, _⟩ | ⟨rfl, _⟩
 ·exact ⟨_, _, rfl⟩
 ·exact ⟨_, _, rfl⟩
theorem exists_ok (hK : KSt kp K S ord lev tr C) {r mask : Nat} (hr : live K.N r) (hm : mask < 2 ^ K.n) (hf : ∀ s, K.hold s + 2 < 65535) :
  Fc Tryz.prog 155 #[ptr kp, u32 r, .int .u64 (mask : Int)] C (EachOut kp K S ord lev tr true mask r) := by
 intro g
 refine L155_sound (R := FnR _) ?_
 unfold L155
 refine CallF.fn .here (each_ok hK hr hm hf) ?_
 intro w H hO
 obtain ⟨x, y, rfl⟩ := hO.two
 exact Ext.mk rfl (Ext.mk rfl (FnR.here hO))
theorem forall_ok (hK : KSt kp K S ord lev tr C) {r mask : Nat} (hr : live K.N r) (hm : mask < 2 ^ K.n) (hf : ∀ s, K.hold s + 2 < 65535) :
  Fc Tryz.prog 156 #[ptr kp, u32 r, .int .u64 (mask : Int)] C (EachOut kp K S ord lev tr false mask r) := by
 intro g
 refine L156_sound (R := FnR _) ?_
 unfold L156
 refine CallF.fn .here (each_ok hK hr hm hf) ?_
 intro w H hO
 obtain ⟨x, y, rfl⟩ := hO.two
 exact Ext.mk rfl (Ext.mk rfl (FnR.here hO))
theorem bitsOf_one {n v : Nat} (hv : v < n) : bitsOf (2 ^ v) n = [v] ∧ bitsOf (2 ^ v) v = [] := by
 have h0 : bitsOf (2 ^ v) v = [] := by
  unfold bitsOf
  rw [List.filter_eq_nil_iff]
  intro a ha
  have := List.mem_range.1 ha
  simp [Nat.testBit_two_pow]; omega
 refine ⟨?_, h0⟩
 have key : ∀ k, v + 1 + k ≤ n → bitsOf (2 ^ v) (v + 1 + k) = [v] := by
  intro k
  induction k with
  | zero => intro _; rw [Nat.add_zero, bitsOf_succ, h0]; simp [Nat.testBit_two_pow]
  | succ k ih =>
   intro hk
   rw [← Nat.add_assoc, bitsOf_succ, ih (by omega)]
   have : ¬ v = v + 1 + k := by omega
   simp [Nat.testBit_two_pow, this]
 have := key (n - (v + 1)) (by omega)
 rwa [show v + 1 + (n - (v + 1)) = n by omega] at this
theorem EachOut.one {e : Bool} {v r : Nat} {w : Value} {H : Hp} (hv : v < K.n) (h : EachOut kp K S ord lev tr e (2 ^ v) r w H) : Done kp K S ord lev tr (qf e v (S r)) w H := by
 obtain ⟨e1, e2⟩ := bitsOf_one hv
 rcases h with ⟨x, K', S', rfl, hK', hg⟩ | ⟨rfl, hk, i, hi, ht, hno⟩
 ·rw [e1] at hg
  exact .inl ⟨x, K', S', rfl, hK', hg⟩
 ·have : i = v := by
   rw [Nat.testBit_two_pow] at ht
   exact (of_decide_eq_true ht).symm
  subst this
  rw [e2] at hno
  exact .inr ⟨rfl, hk, fun hfit => hno (Fits.mono (fun g hg => nodesMono (fun g h => h.elim (fun h => h.elim .inl fun h => absurd rfl h.1) .inr) hg) hfit)⟩
def CompOut (kp : Nat) (K : Kd) (S : Nat → Bdd.Fn) (ord lev tr : List Nat) (lo hi f : Bdd.Fn) (w : Value) (H : Hp) : Prop :=
 (∃ x K' S', w = .tuple #[u32 x, .int .i64 0] ∧ KSt kp K' S' ord lev [] H ∧ GrowR K S K' S' f x) ∨
 (w = .tuple #[u32 0, .int .i64 9] ∧ (∃ K' S' tr', KSt kp K' S' ord lev tr' H ∧ (tr' = [] ∨ tr' = tr) ∧ Kept K S K' S') ∧
  (¬ Fits (NodeSet K.n ord (fun g => K.held S g ∨ g = lo)) K.cap ∨ ¬ Fits (NodeSet K.n ord (fun g => (K.held S g ∨ g = lo) ∨ g = hi)) K.cap ∨ ¬ Fits (NodeSet K.n ord (fun g => ((K.held S g ∨ g = lo) ∨ g = hi) ∨ g = f)) K.cap))
theorem comp_ok (hK : KSt kp K S ord lev tr C) {r v h : Nat} (hr : live K.N r) (hv : v < K.n) (hh : live K.N h) (hB : ∀ s, K.hold s + 2 + 2 ^ K.n ≤ 65535) :
  Fc Tryz.prog 157 #[ptr kp, u32 r, .int .i64 (v : Int), u32 h] C (CompOut kp K S ord lev tr (fun x => S r (Tab.setb x v false)) (fun x => S r (Tab.setb x v true)) (fun x => if S h x then S r (Tab.setb x v true) else S r (Tab.setb x v false))) := by
 have hp1 : 1 ≤ 2 ^ K.n := Nat.one_le_two_pow
 have hnz : ∀ s, K.hold s ≠ 0 → live K.N s := fun s hs => .inr (hK.ok.mid.held s hs)
 intro g
 refine L157_sound (R := FnR _) ?_
 unfold L157
 refine CallF.rd .here (single_ok hK hv) ?_
 rintro w rfl
 refine Ext.mk rfl (Ext.mk rfl ?_)
 refine Bin.ptrNilN ?_
 refine Grp.and (a := true) false (fun _ => Un.not ⟨rfl, rfl⟩) rfl fun gs => Br.no ?_
 refine BuildSl.ints2 (e := 31) (by kernel_rfl) (by kernel_rfl) (by kernel_rfl) fun bs => ?_
 refine CallF.rd (args := #[ptr kp, .int .u64 ((2 ^ v : Nat) : Int), .slice (some ⟨bs, 0, none⟩) 2 2]) .here (qcheck_ok (Y := [(bs, Obj.cells (icells .u32 [(r : Int), (h : Int)]) 31 (0, 0))]) (refs := [r, h]) hK (mask_lt hv) ((IOwn.made (T := 31) (kd := .u32) (b := bs) (iw [r, h])).ints) (fun s hs => by
  simp only [List.mem_cons, List.not_mem_nil, or_false] at hs
  rcases hs with rfl | rfl
  ·exact hr
  ·exact hh) (by show 2 ≤ 1048576; omega)) ?_
 rintro w rfl
 refine Bin.neD (Br.decF (by decide) ?_)
 refine CallF.fn (args := #[ptr kp, u32 r, .int .i64 (v : Int), .bool false]) (.cons .here) (restrict_ok hK hr hv (fun s => by have := hB s; omega)) ?_
 intro w H hO
 rcases hO with ⟨x1, K1, S1, C1, rfl, rfl, hK1, g1⟩ | ⟨rfl, ⟨K1, S1, C1, rfl, hK1, hk⟩, hno⟩
 rotate_left
 ·refine Ext.mk rfl (Ext.mk rfl (Ext.mk rfl ?_))
  refine CallF.rd .here (told_no _ _ _) ?_
  rintro w rfl
  refine Ext.mk rfl (Ext.mk rfl ?_)
  refine Bin.neD (Br.decT (by decide) ?_)
  exact FnR.mk .tail (.inr ⟨rfl, ⟨K1, S1, [], hK1, .inl rfl, hk⟩, .inl hno⟩)
 refine Ext.mk rfl (Ext.mk rfl (Ext.mk rfl ?_))
 refine CallF.rd .here (told_ok _ x1) ?_
 rintro w rfl
 refine Ext.mk rfl (Ext.mk rfl ?_)
 refine Bin.neD (Br.decF (by decide) ?_)
 have hr1 := live_mono g1.N hr
 have e1 : S1 r = S r := g1.fn r hr
 have hh1 := live_mono g1.N hh
 have l1 := g1.live
 have hold1 := g1.hold
 have hheld1 : ∀ g, K1.held S1 g → K.held S g ∨ g = fun x => S r (Tab.setb x v false) := g1.held hnz
 refine CallF.fn (args := #[ptr kp, u32 r, .int .i64 (v : Int), .bool true]) (.cons .here) (restrict_ok hK1 hr1 (by rw [g1.n]; exact hv) (fun s => by rw [hold1]; have := hB s; split <;> omega)) ?_
 intro w H hO
 rw [e1] at hO
 rcases hO with ⟨x2, K2, S2, C2, rfl, rfl, hK2, g2⟩ | ⟨rfl, ⟨K2, S2, C2, rfl, hK2, hk⟩, hno⟩
 rotate_left
 ·refine Ext.mk rfl (Ext.mk rfl (Ext.mk rfl ?_))
  refine CallF.rd .here (told_no _ _ _) ?_
  rintro w rfl
  refine Ext.mk rfl (Ext.mk rfl ?_)
  refine Bin.neD (Br.decT (by decide) ?_)
  refine DefF.fn (args := #[ptr kp, u32 x1]) (.cons .here) (dropD_ok hK2 (r := x1) (by have := hK1.live_lt l1; omega) (fun h2 => by rw [hk.hold, hold1, if_pos ⟨rfl, h2⟩]; omega)) ?_
  rintro w C3 ⟨rfl, K3, hK3, f3⟩
  have hh3 : ∀ s, K3.hold s = K.hold s := fun s => by
   rw [f3.hold, hk.hold, hold1]
   split <;> omega
  have hfn : ∀ s, K.hold s ≠ 0 → S2 s = S s := fun s hs => (hk.fn s (by rw [hold1]; omega)).trans (g1.fn s (hnz s hs))
  refine FnR.mk .tail (.inr ⟨rfl, ⟨K3, S2, [], hK3, .inl rfl, ⟨by rw [f3.n, hk.n, g1.n], by rw [f3.cap, hk.cap, g1.cap], hh3, fun g => ?_, hfn⟩⟩, .inr (.inl fun hfit => hno ?_)⟩)
  ·constructor
   ·rintro ⟨s, hs, rfl⟩
    have hs' : K.hold s ≠ 0 := by rw [← hh3]; exact hs
    exact ⟨s, hs', hfn s hs'⟩
   ·rintro ⟨s, hs, rfl⟩
    exact ⟨s, by show K3.hold s ≠ 0; rw [hh3]; exact hs, (hfn s hs).symm⟩
  ·rw [g1.n, g1.cap]
   exact Fits.mono (fun g hg => nodesMono (fun g h => h.imp (hheld1 g) id) hg) hfit
 refine Ext.mk rfl (Ext.mk rfl (Ext.mk rfl ?_))
 refine CallF.rd .here (told_ok _ x2) ?_
 rintro w rfl
 refine Ext.mk rfl (Ext.mk rfl ?_)
 refine Bin.neD (Br.decF (by decide) ?_)
 have hh2 := live_mono g2.N hh1
 have l12 := live_mono g2.N l1
 have l2 := g2.live
 have hold2 := g2.hold
 have hnz1 : ∀ s, K1.hold s ≠ 0 → live K1.N s := fun s hs => .inr (hK1.ok.mid.held s hs)
 have hheld2 : ∀ g, K2.held S2 g → (K.held S g ∨ g = fun x => S r (Tab.setb x v false)) ∨ g = fun x => S r (Tab.setb x v true) := fun g hg => (g2.held hnz1 g hg).imp (hheld1 g) id
 have eh : S2 h = S h := (g2.fn h hh1).trans (g1.fn h hh)
 have ex1 : S2 x1 = fun x => S r (Tab.setb x v false) := (g2.fn x1 l1).trans g1.is
 have hfn2 : ∀ s, live K.N s → S2 s = S s := fun s hs => (g2.fn s (live_mono g1.N hs)).trans (g1.fn s hs)
 refine CallF.fn (args := #[ptr kp, u32 h, u32 x2, u32 x1]) (.cons .here) (aite_ok hK2 hh2 l2 l12 (fun s => by rw [hold2, hold1, g2.n, g1.n]; have := hB s; split <;> split <;> omega)) ?_
 intro w H hO
 rw [eh, ex1, g2.is] at hO
 rcases hO with ⟨x3, K3, S3, rfl, hK3, g3⟩ | ⟨rfl, ⟨K3, S3, tr3, hK3, _, hk⟩, hno⟩
 ·refine Ext.mk rfl (Ext.mk rfl ?_)
  have hold3 := g3.hold
  refine DefF.fn (args := #[ptr kp, u32 x2]) (.cons .here) (dropD_ok hK3 (r := x2) (by have := hK2.live_lt l2; omega) (fun h2 => by rw [hold3, hold2, if_pos ⟨rfl, h2⟩]; omega)) ?_
  rintro w C4 ⟨rfl, K4, hK4, f4⟩
  have hold4 : ∀ s, K4.hold s = K1.hold s + if s = x3 ∧ 2 ≤ x3 then 1 else 0 := fun s => by
   rw [f4.hold, hold3, hold2]
   split <;> split <;> omega
  refine DefF.fn (args := #[ptr kp, u32 x1]) (.cons .here) (dropD_ok hK4 (r := x1) (by have := hK1.live_lt l1; omega) (fun h2 => by rw [hold4, hold1, if_pos ⟨rfl, h2⟩]; omega)) ?_
  rintro w C5 ⟨rfl, K5, hK5, f5⟩
  have hold5 : ∀ s, K5.hold s = K.hold s + if s = x3 ∧ 2 ≤ x3 then 1 else 0 := fun s => by
   rw [f5.hold, hold4, hold1]
   split <;> split <;> omega
  have hlx : live K5.N x3 := by
   by_cases h2 : x3 < 2
   ·exact .inl h2
   ·refine .inr (hK5.ok.mid.held x3 ?_)
    rw [hold5, if_pos ⟨rfl, by omega⟩]; omega
  have hfn3 : ∀ s, live K.N s → S3 s = S s := fun s hs => (g3.fn s (live_mono g2.N (live_mono g1.N hs))).trans (hfn2 s hs)
  refine FnR.mk .tail (.inl ⟨x3, K5, S3, rfl, hK5, ⟨by rw [f5.n, f4.n, g3.n, g2.n, g1.n], by rw [f5.cap, f4.cap, g3.cap, g2.cap, g1.cap], fun s d hs => keep_nodes hK.ok hK5.ok (fun s h => by rw [hold5]; omega) (fun s d d' h h' => ?_) _ s d hs (Nat.le_refl _), hfn3, hlx, g3.is, hold5⟩⟩)
  have a := f4.N s d' (f5.N s d' h')
  rw [g3.N s d (g2.N s d (g1.N s d h))] at a; exact (Option.some.inj a).symm
 ·refine Ext.mk rfl (Ext.mk rfl ?_)
  have hold3 := hk.hold
  refine DefF.fn (args := #[ptr kp, u32 x2]) (.cons .here) (dropD_ok hK3 (r := x2) (by have := hK2.live_lt l2; omega) (fun h2 => by rw [hold3, hold2, if_pos ⟨rfl, h2⟩]; omega)) ?_
  rintro w C4 ⟨rfl, K4, hK4, f4⟩
  have hold4 : ∀ s, K4.hold s = K1.hold s := fun s => by
   rw [f4.hold, hold3, hold2]
   split <;> omega
  refine DefF.fn (args := #[ptr kp, u32 x1]) (.cons .here) (dropD_ok hK4 (r := x1) (by have := hK1.live_lt l1; omega) (fun h2 => by rw [hold4, hold1, if_pos ⟨rfl, h2⟩]; omega)) ?_
  rintro w C5 ⟨rfl, K5, hK5, f5⟩
  have hold5 : ∀ s, K5.hold s = K.hold s := fun s => by
   rw [f5.hold, hold4, hold1]
   split <;> omega
  have hfn : ∀ s, K.hold s ≠ 0 → S3 s = S s := fun s hs => (hk.fn s (by rw [hold2, hold1]; omega)).trans (hfn2 s (hnz s hs))
  refine FnR.mk .tail (.inr ⟨rfl, ⟨K5, S3, [], hK5, .inl rfl, ⟨by rw [f5.n, f4.n, hk.n, g2.n, g1.n], by rw [f5.cap, f4.cap, hk.cap, g2.cap, g1.cap], hold5, fun g => ?_, hfn⟩⟩, .inr (.inr fun hfit => hno ?_)⟩)
  ·constructor
   ·rintro ⟨s, hs, rfl⟩
    have hs' : K.hold s ≠ 0 := by rw [← hold5]; exact hs
    exact ⟨s, hs', hfn s hs'⟩
   ·rintro ⟨s, hs, rfl⟩
    exact ⟨s, by show K5.hold s ≠ 0; rw [hold5]; exact hs, (hfn s hs).symm⟩
  ·rw [g2.n, g2.cap, g1.n, g1.cap]
   exact Fits.mono (fun g hg => nodesMono (fun g h => h.imp (hheld2 g) id) hg) hfit
end
end Go.Proofs
set_option maxRecDepth 100000
namespace Go.Proofs
open Go Go.Sx
theorem words_ok {n : Nat} (hn : n ≤ 16) (B : Hp) : Rd Tryz.prog 191 #[.int .i64 (n : Int)] B (· = .int .i64 ((Tab.wN n : Nat) : Int)) := by
 intro g
 refine L191_sound (R := FnR _) ?_
 unfold L191
 have h1 : 1 <<< n ≤ 65536 := by rw [Nat.one_shiftLeft]; exact Nat.pow_le_pow_right (n := 2) (by decide) hn
 refine Bin.shlN (a := 1) (b := n) (by simp [IntKind.bits]; omega) (by simp [lim]; omega) ?_
 refine Bin.shrN (b := 6) (by simp [lim]; omega) ?_
 refine ⟨_, _, _, rfl, rfl, ?_⟩
 refine RdR.mk (.refl _) ?_
 have : 1 <<< n >>> 6 = 2 ^ n / 64 := by rw [Nat.one_shiftLeft, Nat.shiftRight_eq_div_pow]
 rw [this]
 congr 1
 unfold Tab.wN
 rw [Nat.max_def]
 split <;> split <;> omega
theorem full_ok {n : Nat} (hn : n ≤ 16) (B : Hp) : Rd Tryz.prog 192 #[.int .i64 (n : Int)] B (· = .int .u64 ((Tab.fullN n : Nat) : Int)) := by
 intro g
 refine L192_sound (R := FnR _) ?_
 unfold L192
 refine Bin.geN (a := n) (b := 6) (Br.dec (fun h => ?_) (fun h => ?_))
 ·exact RdR.mk (.refl _) (by unfold Tab.fullN; rw [if_pos h]; rfl)
 ·have h1 : 2 ^ n ≤ 32 := Nat.pow_le_pow_right (n := 2) (by decide) (by omega : n ≤ 5)
  have h2 : 2 ^ 2 ^ n ≤ 2 ^ 32 := Nat.pow_le_pow_right (by decide) h1
  have h3 := Nat.two_pow_pos (2 ^ n)
  refine Bin.shlU (a := 1) (b := n) ?_
  rw [Nat.one_shiftLeft, Nat.mod_eq_of_lt (by omega)]
  refine Bin.shlU (a := 1) ?_
  rw [Nat.one_shiftLeft, Nat.mod_eq_of_lt (by omega)]
  refine Bin.subN (b := 1) (by simp [lim]; omega) (by omega) ?_
  exact RdR.mk (.refl _) (by unfold Tab.fullN; rw [if_neg h])
theorem last_full {n : Nat} {ws : List Nat} (hn : n ≤ 16) (hl : ws.length = Tab.wN n) (hw : ∀ w ∈ ws, w < 18446744073709551616) {w : Nat} (hg : ws[ws.length - 1]? = some w) :
  (andn w (Tab.fullN n) = 0) ↔ Tab.Frm n ws := by
 have key : ∀ w, w < 18446744073709551616 → (andn w (Tab.fullN n) = 0 ↔ w ≤ Tab.fullN n) := by
  intro w hw
  constructor
  ·intro h
   have : w &&& Tab.fullN n = w := by
    apply Nat.eq_of_testBit_eq; intro j
    have := congrArg (fun x => x.testBit j) h
    simp only [testBit_andn, Nat.zero_testBit] at this
    rw [Nat.testBit_and]
    cases h1 : w.testBit j <;> cases h2 : (Tab.fullN n).testBit j <;> simp_all
   rw [← this]; exact Nat.and_le_right
  ·intro h
   have := Tab.and_full h
   unfold andn; rw [this, Nat.xor_self]
 constructor
 ·intro h
  refine ⟨hn, hl, fun u hu => ?_⟩
  by_cases h6 : 6 ≤ n
  ·unfold Tab.fullN; rw [if_pos h6]; have := hw u hu; omega
  ·have h1 : ws.length = 1 := by rw [hl, Tab.wN_lt (by omega)]
   obtain ⟨x, rfl⟩ := List.length_eq_one_iff.1 h1
   simp at hg hu
   subst hg; subst hu
   exact (key _ (hw _ (by simp))).1 h
 ·intro h
  exact (key w (hw w (List.mem_of_getElem? hg))).2 (h.full w (List.mem_of_getElem? hg))
theorem form1_ok {B : Hp} {v : Value} {t : Tb} (ht : Tbl B v t) : Rd Tryz.prog 194 #[v] B (· = .bool (decide (TF t))) := by
 obtain ⟨tn, ws⟩ := t
 obtain ⟨s, rfl, hs, hw⟩ := ht
 simp only at hs hw ⊢
 intro g
 refine L194_sound (R := FnR _) ?_
 unfold L194
 intro b1 _ J hJ
 have hno : ¬ TF ⟨tn, ws⟩ → JE J [.bool true] ((b1, .cells (Value.cells (.agg #[.int .i64 tn, s])) 55 (0, 0)) :: B) := fun h =>
  JE.mk (hJ _ _ fun gs => Br.yes (RdR.mk .tail (by rw [decide_eq_false h])))
 refine DR.self ?_
 refine FAddr.mk (Ld.mk (by repeat (first | assumption | exact List.Mem.head _ | apply List.Mem.tail | apply List.mem_append_right)) rfl ?_)
 refine Bin.lss (Br.dec (fun h0 => hno fun h => by have := h.1; simp only at this; omega) (fun h0 => ?_))
 obtain ⟨n, rfl⟩ : ∃ n : Nat, tn = n := ⟨tn.toNat, by omega⟩
 have hTF : TF ⟨(n : Int), ws⟩ ↔ Tab.Frm n ws := by unfold TF; simp
 refine FAddr.mk (Ld.mk (by repeat (first | assumption | exact List.Mem.head _ | apply List.Mem.tail | apply List.mem_append_right)) rfl ?_)
 refine Bin.gtN (b := 16) (Pick.mk (Br.dec (fun h1 => hno fun h => by have := (hTF.1 h).n16; omega) (fun h1 => ?_)))
 refine FAddr.mk (Ld.mk (by repeat (first | assumption | exact List.Mem.head _ | apply List.Mem.tail | apply List.mem_append_right)) rfl ?_)
 refine hs.lenS ?_
 refine FAddr.mk (Ld.mk (by repeat (first | assumption | exact List.Mem.head _ | apply List.Mem.tail | apply List.mem_append_right)) rfl ?_)
 intro F
 refine CallF.rd (.cons .here) (words_ok (by omega) B) ?_
 rintro v rfl
 refine ⟨(by repeat (first | exact Ent.refl _ | apply Ent.cons | apply Ent.skip | apply Ent.prep | apply Ent.skips)), ?_⟩
 rw [iw_length]
 refine Bin.neN (Pick.mk ?_)
 simp only [cond_false]
 by_cases hl : ws.length = Tab.wN n
 case neg => rw [show decide (ws.length ≠ Tab.wN n) = true by simp [hl]]; exact hno fun h => hl (hTF.1 h).len
 rw [show decide (ws.length ≠ Tab.wN n) = false by simp [hl]]
 refine JE.mk (hJ _ _ fun gs => Br.no ?_)
 have hpos := Tab.wN_pos n
 obtain ⟨w, hg⟩ : ∃ w, ws[ws.length - 1]? = some w := ⟨_, List.getElem?_eq_getElem (by omega)⟩
 refine DR.self ?_
 refine FAddr.mk (Ld.mk (by repeat (first | assumption | exact List.Mem.head _ | apply List.Mem.tail | apply List.mem_append_right)) rfl ?_)
 refine FAddr.mk (Ld.mk (by repeat (first | assumption | exact List.Mem.head _ | apply List.Mem.tail | apply List.mem_append_right)) rfl ?_)
 refine hs.lenS ?_
 rw [iw_length]
 refine Bin.subN (b := 1) (by have := Tab.wN_le (n := n) (by omega); simp [lim]; omega) (by omega) ?_
 refine hs.ld (iw_get hg) (fun _ h => by repeat (first | exact h | apply List.mem_cons_of_mem | apply List.mem_append_right)) ?_
 refine FAddr.mk (Ld.mk (by repeat (first | assumption | exact List.Mem.head _ | apply List.Mem.tail | apply List.mem_append_right)) rfl ?_)
 refine CallF.rd (.cons .here) (full_ok (by omega) B) ?_
 rintro v rfl
 refine ⟨(by repeat (first | exact Ent.refl _ | apply Ent.cons | apply Ent.skip | apply Ent.prep | apply Ent.skips)), ?_⟩
 refine Bin.andnN (by have := hw w (List.mem_of_getElem? hg); simpa [lim] using this) (by have := Tab.fullN_lt n; simpa [lim] using this) ?_
 refine Bin.eqN (b := 0) ?_
 refine RdR.mk .tail ?_
 congr 1
 exact decide_eq_decide.2 ((last_full (by omega) hl hw hg).trans hTF.symm)
end Go.Proofs
set_option maxRecDepth 100000
namespace Go.Proofs
open Go Go.Sx
theorem formv_ok {B : Hp} {v : Value} {ts : List Tb} (ht : Tbls B v ts) (hmax : ts.length < 2 ^ 62) : Rd Tryz.prog 172 #[v] B (· = .bool (decide (∀ t ∈ ts, TF t ∧ some t.n = ts.head?.map Tb.n))) := by
 intro g
 refine L172_sound (R := FnR _) ?_
 unfold L172
 refine ht.lenS ?_
 refine ⟨fun vs H => Grow B H ∧ ∃ k : Nat, vs = [.int .i64 (k : Int)] ∧ k ≤ ts.length ∧ ∀ i t, i < k → ts[i]? = some t → TF t ∧ some t.n = ts.head?.map Tb.n, fun vs _ => ts.length - nAt vs 0, JE.mk ⟨.refl _, 0, rfl, by omega, by omega⟩, ?_⟩
 rintro w H ⟨hg, k, hv, hk, hall⟩ gs
 simp only [List.cons.injEq, and_true] at hv
 subst hv
 refine Bin.ltN (Br.dec (fun hlt => ?_) (fun hlt => ?_))
 ·obtain ⟨t, htk⟩ : ∃ t, ts[k]? = some t := ⟨_, List.getElem?_eq_getElem hlt⟩
  obtain ⟨t0, ht0⟩ : ∃ t, ts[0]? = some t := ⟨_, List.getElem?_eq_getElem (by omega)⟩
  have hh : ts.head?.map Tb.n = some t0.n := by rw [List.head?_eq_getElem?, ht0]; rfl
  have htB := ht.mono hg.sub
  refine htB.ld htk (fun _ h => h) fun s hs => ?_
  intro b1 _
  refine St.whole (r := [.int .i64 t.n, s]) (by exact Upd.head _) rfl rfl ?_ ?_
  ·obtain ⟨a, c, rfl, _⟩ := hs.1.shape; simp [Value.oneCell']
  intro J hJ
  have hno : ∀ H', Grow B H' → ¬ (TF t ∧ some t.n = ts.head?.map Tb.n) → JE J [.bool true] H' := fun H' hg' h =>
   JE.mk (hJ _ _ fun gs => Br.yes (RdR.mk hg'.ent (by rw [decide_eq_false]; exact fun hh => h (hh t (List.mem_of_getElem? htk)))))
  have hg2 : Grow B ((b1, Obj.cells (List.toArray [.int .i64 t.n, s]) 55 (0, 0)) :: H) := .cons hg
  refine DR.self ?_
  refine LdA.whole (r := [.int .i64 t.n, s]) (by exact List.Mem.head _) rfl ?_
  intro F
  refine CallF.rd (B := H) (.cons .here) (form1_ok ⟨s, rfl, hs⟩) ?_
  rintro v rfl
  refine ⟨.refl _, Un.not ?_⟩
  by_cases hT : TF t
  case neg => rw [decide_eq_false hT]; exact Br.yes (hno _ hg2 fun h => hT h.1)
  rw [decide_eq_true hT]
  refine Br.no ?_
  refine FAddr.mk (Ld.mk (by repeat (first | assumption | exact List.Mem.head _ | apply List.Mem.tail | apply List.mem_append_right)) rfl ?_)
  refine htB.ldN ht0 (fun _ h => by repeat (first | exact h | apply List.mem_cons_of_mem | apply List.mem_append_right)) ?_
  refine Bin.neD (Pick.mk ?_)
  simp only [cond_false]
  by_cases hn : t.n = t0.n
  case neg => rw [decide_eq_true hn]; exact hno _ hg2 fun h => hn (by have := h.2; rw [hh] at this; simpa using this)
  rw [decide_eq_false (by simpa using hn)]
  refine JE.mk (hJ _ _ fun gs => Br.no ?_)
  refine Bin.addN (b := 1) (by simp [lim]; omega) ?_
  refine Back.mk ⟨hg2, k + 1, rfl, by omega, fun i u hi hu => ?_⟩ (by simp [nAt]; omega)
  by_cases e : i = k
  ·subst e; rw [htk] at hu; cases hu; exact ⟨hT, by rw [hh, hn]⟩
  ·exact hall i u (by omega) hu
 ·refine RdR.mk hg.ent ?_
  rw [decide_eq_true]
  intro t htm
  obtain ⟨i, hi, rfl⟩ := List.mem_iff_getElem.1 htm
  exact hall i _ (by omega) (List.getElem?_eq_getElem hi)
theorem formone_ok {B : Hp} {b : Nat} {t : Tb} {s : Value} {T : TypeId} {fz : Nat × Nat} (hm : (b, Obj.cells #[.int .i64 t.n, s] T fz) ∈ B) (hw : Words B s t.ws) :
  Rd Tryz.prog 172 #[.slice (some ⟨b, 0, none⟩) 1 1] B (· = .bool (decide (TF t))) :=
 (formv_ok (Tbls.one (cap := 0) hm hw) (by simp)).mono fun v H ⟨h1, h2⟩ => ⟨h1, by rw [h2]; congr 1; simp⟩
theorem of_ok {B : Hp} {v : Value} {t : Tb} (ht : Tbl B v t) (u : Int) : Rd Tryz.prog 164 #[v, .int .i64 u] B (· = .int .i64 (if TF t then (if 0 ≤ u ∧ u < t.n then 0 else 2) else 5)) := by
 obtain ⟨s, rfl, hw⟩ := ht
 intro g
 refine L164_sound (R := FnR _) ?_
 unfold L164
 intro b1 _
 refine LdA.whole (r := [.int .i64 t.n, s]) (by exact List.Mem.head _) rfl ?_
 refine buildOne fun b2 => ?_
 refine CallF.rd .here (formone_ok (by exact List.Mem.head _) (hw.mono (fun _ h => by repeat (first | exact h | apply List.mem_cons_of_mem | apply List.mem_append_right)))) ?_
 rintro v rfl
 refine Un.not ?_
 by_cases hT : TF t
 ·rw [decide_eq_true hT, if_pos hT]
  refine Br.no (Bin.lss ?_)
  refine Grp.or (decide (t.n ≤ u)) (fun h => ?_) rfl ?_
  ·refine FAddr.mk (Ld.mk (by repeat (first | assumption | exact List.Mem.head _ | apply List.Mem.tail | apply List.mem_append_right)) rfl ?_)
   exact Bin.geq ⟨rfl, rfl⟩
  ·intro gs
   have hor : (decide (u < 0) || decide (t.n ≤ u)) = decide (¬ (0 ≤ u ∧ u < t.n)) := by
    by_cases h1 : u < 0 <;> by_cases h2 : t.n ≤ u <;> simp [h1, h2] <;> omega
   rw [hor]
   refine Br.dec (fun h => ?_) (fun h => ?_)
   ·exact RdR.mk (by repeat (first | exact Ent.refl _ | apply Ent.cons | apply Ent.skip | apply Ent.prep | apply Ent.skips)) (by rw [if_neg h])
   ·exact RdR.mk (by repeat (first | exact Ent.refl _ | apply Ent.cons | apply Ent.skip | apply Ent.prep | apply Ent.skips)) (by rw [if_pos (Classical.not_not.1 h)])
 ·rw [decide_eq_false hT, if_neg hT]
  exact Br.yes (RdR.mk (by repeat (first | exact Ent.refl _ | apply Ent.cons | apply Ent.skip | apply Ent.prep | apply Ent.skips)) rfl)
theorem column_ok {u i : Nat} (hu : u < 64) (hi : i < 18446744073709551616) (hi2 : i < 9223372036854775808) (B : Hp) : Rd Tryz.prog 171 #[.int .i64 (u : Int), .int .i64 (i : Int)] B
  (· = .int .u64 ((if 6 ≤ u then (if (i >>> (u - 6)).testBit 0 then 18446744073709551615 else 0) else Tab.mask u : Nat) : Int)) := by
 intro g
 refine L171_sound (R := FnR _) ?_
 unfold L171
 refine Bin.geN (a := u) (b := 6) (Br.dec (fun h => ?_) (fun h => ?_))
 ·refine ConvI.nat (by simpa [lim] using hi) ?_
  refine Bin.subN (b := 6) (by simp [lim]; omega) h ?_
  refine Bin.shrN (by simpa [lim] using hi) ?_
  have hs : i >>> (u - 6) < 18446744073709551616 := Nat.lt_of_le_of_lt (Nat.shiftRight_le _ _) hi
  refine Bin.andN (b := 1) (by simpa [lim] using hs) (by decide) ?_
  refine Un.negU (by rw [Tab.and_one_eq]; split <;> decide) ?_
  refine RdR.mk (.refl _) ?_
  rw [if_pos h, Tab.and_one_eq]
  split <;> rfl
 ·refine ⟨fun vs H => H = B ∧ ∃ j : Nat, vs = [.int .u64 ((Tab.colP u j : Nat) : Int), .int .i64 (j : Int)] ∧ j ≤ 64, fun vs _ => 64 - nAt vs 1, JE.mk ⟨rfl, 0, rfl, by omega⟩, ?_⟩
  rintro w1 w2 H ⟨rfl, j, hv, hj⟩ gs
  simp only [List.cons.injEq, and_true] at hv
  obtain ⟨rfl, rfl⟩ := hv
  refine Bin.ltN (b := 64) (Br.dec (fun hlt => ?_) (fun hlt => ?_))
  ·refine Bin.shrN (by simp [lim]; omega) ?_
   have hs : j >>> u < 64 := Nat.lt_of_le_of_lt (Nat.shiftRight_le _ _) hlt
   refine Bin.andN (b := 1) (by simp [lim]; omega) (by decide) ?_
   have h1 : j >>> u &&& 1 ≤ 1 := by rw [Tab.and_one_eq]; split <;> decide
   refine ConvI.nat (by simp [lim]; omega) ?_
   refine Bin.shlU ?_
   have h2 : ((j >>> u &&& 1) <<< j) < 18446744073709551616 := by
    rw [Nat.shiftLeft_eq]
    calc _ ≤ 1 * 2 ^ j := Nat.mul_le_mul_right _ h1
     _ < 2 ^ 64 := by rw [Nat.one_mul]; exact Nat.pow_lt_pow_right (by decide) hlt
   rw [Nat.mod_eq_of_lt h2]
   have h3 : Tab.colP u j < 18446744073709551616 := Nat.lt_of_lt_of_le (Tab.colP_lt u j) (Nat.pow_le_pow_right (n := 2) (by decide) hj)
   refine Bin.orN (by simpa [lim] using h3) (by simpa [lim] using h2) ?_
   refine Bin.addN (b := 1) (by simp [lim]; omega) ?_
   exact Back.mk ⟨rfl, j + 1, rfl, by omega⟩ (by simp [nAt]; omega)
  ·have : j = 64 := by omega
   subst this
   exact RdR.mk (.refl _) (by rw [if_neg h]; rfl)
end Go.Proofs
set_option maxRecDepth 100000
namespace Go.Proofs
open Go Go.Sx
theorem laid_ok {n : Nat} (hn : n ≤ 16) {fv : Value} {f : FuncId} {first cap : Array Value} (hfv : fv = .func (.func f) first cap) (hcl : callable Tryz.prog f = true) {F : Nat → Nat} (hF : ∀ i, i < Tab.wN n → F i < 18446744073709551616) {B : Hp}
  (hc : ∀ i : Nat, i < Tab.wN n → Rd Tryz.prog f (first ++ #[.int .i64 (i : Int)] ++ cap) B (· = .int .u64 ((F i : Nat) : Int))) :
  Px Tryz.prog 162 #[.int .i64 (n : Int), fv] B (fun v H => Tbl H v ⟨n, (List.range (Tab.wN n)).map fun i => F i &&& Tab.fullN n⟩) := by
 intro g
 have hwl := Tab.wN_le hn
 refine L162_sound (R := FnR _) ?_
 unfold L162
 intro b1 _
 refine CallF.rd (.cons .here) (words_ok hn B) ?_
 rintro v rfl
 refine MkSlice.ints (bytesW hn).1 (bytesW hn).2 fun bw => ?_
 refine Build.mk (cs := [.int .i64 (n : Int), .slice (some ⟨bw, 0, none⟩) (Tab.wN n) (Tab.wN n)]) (by kernel_rfl) ?_
 intro b8 _
 refine St.whole (r := [.int .i64 (n : Int), .slice (some ⟨bw, 0, none⟩) (Tab.wN n) (Tab.wN n)]) (by exact Upd.head _) rfl rfl (by simp [Value.oneCell']) ?_
 refine FAddr.mk (Ld.mk (by repeat (first | assumption | exact List.Mem.head _ | apply List.Mem.tail | apply List.mem_append_right)) rfl ?_)
 refine LenS.mk ?_
 rw [range_zero (G := fun i => F i &&& Tab.fullN n)]
 refine ⟨fun vs H => ∃ i : Nat, vs = [.int .i64 (i : Int)] ∧ i ≤ Tab.wN n ∧ H = (b8, .cells (List.toArray [.int .i64 (n : Int), .slice (some ⟨bw, 0, none⟩) (Tab.wN n) (Tab.wN n)]) 55 (0, 0)) ::
   (bw, .cells (icells .u64 (iw ((List.range (Tab.wN n)).map fun k => if k < i then F k &&& Tab.fullN n else 0))) 29 (0, 0)) :: (b1, .cells #[.int .i64 0, .slice none 0 0] 55 (0, 0)) :: B,
  fun vs _ => Tab.wN n - nAt vs 0, JE.mk ⟨0, rfl, by omega, rfl⟩, ?_⟩
 rintro w H ⟨i, hv, hi, rfl⟩ gs
 simp only [List.cons.injEq, and_true] at hv
 subst hv
 refine Bin.ltN (Br.dec (fun hlt => ?_) (fun hlt => ?_))
 ·refine DR.self ?_
  refine FAddr.mk (Ld.mk (by repeat (first | assumption | exact List.Mem.head _ | apply List.Mem.tail | apply List.mem_append_right)) rfl ?_)
  refine CallV.of hfv hcl ?_
  refine CallF.rd (.cons (.cons (.cons .here))) (hc i hlt) ?_
  rintro v rfl
  refine ⟨.refl _, ?_⟩
  refine CallF.rd (.cons (.cons (.cons .here))) (full_ok hn B) ?_
  rintro v rfl
  refine ⟨.refl _, ?_⟩
  refine Bin.andN (by simpa [lim] using hF i hlt) (by simpa [lim] using Tab.fullN_lt n) ?_
  refine IAddr.nat hlt ?_
  refine St.ints (l := iw _) (by exact .tail (.head _)) (by simpa using hlt) ?_
  refine Bin.addN (b := 1) (by simp [lim]; omega) ?_
  rw [range_set hlt]
  exact Back.mk ⟨i + 1, rfl, by omega, rfl⟩ (by simp [nAt]; omega)
 ·have : i = Tab.wN n := by omega
  subst this
  rw [range_done]
  refine LdA.whole (r := [.int .i64 (n : Int), .slice (some ⟨bw, 0, none⟩) (Tab.wN n) (Tab.wN n)]) (by exact List.Mem.head _) rfl ?_
  refine St.whole (r := [.int .i64 (n : Int), .slice (some ⟨bw, 0, none⟩) (Tab.wN n) (Tab.wN n)]) (by exact .tail (.tail (.head _))) rfl rfl (by simp [Value.oneCell']) ?_
  refine LdA.whole (r := [.int .i64 (n : Int), .slice (some ⟨bw, 0, none⟩) (Tab.wN n) (Tab.wN n)]) (by exact .tail _ (.tail _ (.head _))) rfl ?_
  refine PxR.mk (by repeat (first | exact Grow.refl _ | apply Grow.cons | apply Grow.app)) ⟨_, rfl, ?_⟩
  have := Words.block (b := bw) (cap := Tab.wN n) (ws := (List.range (Tab.wN n)).map fun i => F i &&& Tab.fullN n) (T := 29) (fz := (0, 0)) (B := (b8, .cells (List.toArray [.int .i64 (n : Int), .slice (some ⟨bw, 0, none⟩) (Tab.wN n) (Tab.wN n)]) 55 (0, 0)) ::
   (bw, .cells (icells .u64 (iw ((List.range (Tab.wN n)).map fun i => F i &&& Tab.fullN n))) 29 (0, 0)) :: (b1, .cells (List.toArray [.int .i64 (n : Int), .slice (some ⟨bw, 0, none⟩) (Tab.wN n) (Tab.wN n)]) 55 (0, 0)) :: B) (by exact .tail _ (.head _)) (by simp) (fun w hw => by
    obtain ⟨k, _, rfl⟩ := List.mem_map.1 hw
    exact Nat.lt_of_le_of_lt Nat.and_le_right (Tab.fullN_lt n))
  simpa using this
theorem half1_ok {B : Hp} {pv pb pa s : Value} {u n i : Nat} {c : Bool} {ws : List Nat} (hv : Go.Sx.At B pv [.int .i64 (u : Int)]) (hb : Go.Sx.At B pb [.bool c]) (ha : Go.Sx.At B pa [.int .i64 (n : Int), s]) (hw : Words B s ws) (hf : Tab.Frm n ws) (hu : u < n) (hi : i < Tab.wN n) :
  Rd Tryz.prog 193 #[.int .i64 (i : Int), pv, pb, pa] B (· = .int .u64 ((Tab.halfW ws u c i : Nat) : Int)) := by
 intro g
 have hn := hf.n16
 have hwl := Tab.wN_le hn
 refine L193_sound (R := FnR _) ?_
 unfold L193
 refine Ld.at hv (fun _ h => h) ?_
 refine Bin.geN (a := u) (b := 6) (Br.dec (fun h6 => ?_) (fun h6 => ?_))
 ·have hp : 2 ^ (u - 6) ≤ 1024 := Nat.pow_le_pow_right (n := 2) (by decide) (by omega : u - 6 ≤ 10)
  refine Ld.at hv (fun _ h => h) ?_
  refine Bin.subN (b := 6) (by simp [lim]; omega) h6 ?_
  refine Bin.shlN (a := 1) (by simp [IntKind.bits]; omega) (by rw [Nat.one_shiftLeft]; simp [lim]; omega) ?_
  rw [Nat.one_shiftLeft]
  refine Bin.andnN (by simp [lim]; omega) (by simp [lim]; omega) ?_
  have hand := andn_le i (2 ^ (u - 6))
  intro J hJ
  have hset : Tab.setb i (u - 6) c < Tab.wN n := by
   rw [Tab.wN_ge (by omega)] at hi ⊢
   exact Tab.setb_lt hi (by omega)
  have hfin : JE J [.int .i64 ((Tab.setb i (u - 6) c : Nat) : Int)] B := by
   refine JE.mk (hJ _ _ fun gs => ?_)
   refine FAddr.at ha fun q hq => Ld.at hq (fun _ h => h) ?_
   have hg : ws[Tab.setb i (u - 6) c]? = some (ws.getD (Tab.setb i (u - 6) c) 0) := by rw [List.getElem?_eq_getElem (by rw [hf.len]; exact hset), List.getD_eq_getElem?_getD, List.getElem?_eq_getElem (by rw [hf.len]; exact hset)]; rfl
   refine hw.1.ld (iw_get hg) (fun _ h => h) ?_
   exact RdR.mk (.refl _) (by unfold Tab.halfW; rw [if_pos h6])
  refine Ld.at hb (fun _ h => h) ?_
  cases c
  ·exact Br.no hfin
  ·refine Br.yes ?_
   refine Ld.at hv (fun _ h => h) ?_
   refine Bin.subN (b := 6) (by simp [lim]; omega) h6 ?_
   refine Bin.shlN (a := 1) (by simp [IntKind.bits]; omega) (by rw [Nat.one_shiftLeft]; simp [lim]; omega) ?_
   rw [Nat.one_shiftLeft]
   refine Bin.orN (by simp [lim]; omega) (by simp [lim]; omega) ?_
   have e : andn i (2 ^ (u - 6)) ||| 2 ^ (u - 6) = Tab.setb i (u - 6) true := by
    apply Nat.eq_of_testBit_eq; intro k
    rw [Nat.testBit_or, testBit_andn, Tab.testBit_setb, Nat.testBit_two_pow]
    by_cases e : k = u - 6
    ·simp [e]
    ·simp [e, Ne.symm e]
   rw [e]; exact hfin
 ·have hp : 2 ^ u ≤ 32 := Nat.pow_le_pow_right (n := 2) (by decide) (by omega : u ≤ 5)
  have hg : ws[i]? = some (ws.getD i 0) := by rw [List.getElem?_eq_getElem (by rw [hf.len]; exact hi), List.getD_eq_getElem?_getD, List.getElem?_eq_getElem (by rw [hf.len]; exact hi)]; rfl
  have hwi := hw.2 _ (List.mem_of_getElem? hg)
  have hm := Tab.mask_lt u
  refine DR.self ?_
  refine Ld.at hv (fun _ h => h) (Ld.at hv (fun _ h => h) ?_)
  refine Bin.shlN (a := 1) (b := u) (by simp [IntKind.bits]; omega) (by rw [Nat.one_shiftLeft]; simp [lim]; omega) ?_
  rw [Nat.one_shiftLeft]
  refine CallF.rd .here (column_ok (u := u) (i := 0) (by omega) (by omega) (by omega) B) ?_
  rintro v rfl
  rw [if_neg h6]
  refine ⟨.refl _, ?_⟩
  refine Ld.at hb (fun _ h => h) ?_
  cases c
  ·refine Br.no ?_
   refine FAddr.at ha fun q hq => Ld.at hq (fun _ h => h) ?_
   refine hw.1.ld (iw_get hg) (fun _ h => h) ?_
   refine Bin.andnN (by simpa [lim] using hwi) (by simpa [lim] using hm) ?_
   refine Bin.shlU ?_
   have := andn_le (ws.getD i 0) (Tab.mask u)
   refine Bin.orN (by simp only [lim]; omega) (by simp only [lim]; omega) ?_
   exact RdR.mk (.refl _) (by unfold Tab.halfW; rw [if_neg h6]; rfl)
  ·refine Br.yes ?_
   refine FAddr.at ha fun q hq => Ld.at hq (fun _ h => h) ?_
   refine hw.1.ld (iw_get hg) (fun _ h => h) ?_
   refine Bin.andN (by simpa [lim] using hwi) (by simpa [lim] using hm) ?_
   have h1 : ws.getD i 0 &&& Tab.mask u ≤ ws.getD i 0 := Nat.and_le_left
   refine Bin.shrN (by simp only [lim]; omega) ?_
   have h2 := Nat.shiftRight_le (ws.getD i 0 &&& Tab.mask u) (2 ^ u)
   refine Bin.orN (by simp only [lim]; omega) (by simp only [lim]; omega) ?_
   exact RdR.mk (.refl _) (by unfold Tab.halfW; rw [if_neg h6]; rfl)
theorem half_ok {B : Hp} {v : Value} {n u : Nat} {ws : List Nat} {c : Bool} (ht : Tbl B v ⟨n, ws⟩) (hf : Tab.Frm n ws) (hu : u < n) :
  Px Tryz.prog 165 #[v, .int .i64 (u : Int), .bool c] B (fun v H => Tbl H v ⟨n, Tab.cof n ws u c⟩) := by
 obtain ⟨s, rfl, hw⟩ := ht
 intro g
 refine L165_sound (R := FnR _) ?_
 unfold L165
 intro b1 _ b3 _ b5 _ b7 _
 refine FAddr.mk (Ld.mk (by repeat (first | assumption | exact List.Mem.head _ | apply List.Mem.tail | apply List.mem_append_right)) rfl ?_)
 refine CallF.px (.cons .here) (laid_ok hf.n16 rfl (by kernel_rfl) (F := fun i => Tab.halfW ws u c i) (fun i hi => ?_) (fun i hi => ?_)) ?_
 ·unfold Tab.halfW
  split
  ·by_cases h : Tab.setb i (u - 6) c < ws.length
   ·rw [List.getD_eq_getElem?_getD, List.getElem?_eq_getElem h]; exact hf.lt (List.getElem_mem h)
   ·rw [List.getD_eq_getElem?_getD, List.getElem?_eq_none (by omega)]; decide
  ·have hg : ws.getD i 0 < 2 ^ 64 := by rw [List.getD_eq_getElem?_getD, List.getElem?_eq_getElem (by rw [hf.len]; exact hi)]; exact hf.lt (List.getElem_mem _)
   split
   ·refine Nat.or_lt_two_pow (n := 64) (Nat.lt_of_le_of_lt Nat.and_le_left hg) (Nat.lt_of_le_of_lt (Nat.shiftRight_le _ _) (Nat.lt_of_le_of_lt Nat.and_le_left hg))
   ·exact Nat.or_lt_two_pow (n := 64) (Nat.lt_of_le_of_lt (andn_le _ _) hg) (Nat.mod_lt _ (by decide))
 ·exact half1_ok (Go.Sx.At.block (l := [.int .i64 (u : Int)]) (by repeat (first | assumption | exact List.Mem.head _ | apply List.Mem.tail | apply List.mem_append_right))) (Go.Sx.At.block (l := [.bool c]) (by repeat (first | assumption | exact List.Mem.head _ | apply List.Mem.tail | apply List.mem_append_right))) (Go.Sx.At.block (l := [.int .i64 (n : Int), s]) (by repeat (first | assumption | exact List.Mem.head _ | apply List.Mem.tail | apply List.mem_append_right))) (hw.mono (fun _ h => by repeat (first | exact h | apply List.mem_cons_of_mem | apply List.mem_append_right))) hf hu hi
 ·rintro v N ⟨s', rfl, hw'⟩
  refine St.whole (r := [.int .i64 (n : Int), s']) (by exact .head _) rfl rfl ?_ ?_
  ·have := oneCell_words hw'; simpa [Value.oneCell'] using this
  refine LdA.whole (r := [.int .i64 (n : Int), s']) (by exact .head _) rfl ?_
  exact PxR.mk (by repeat (first | exact Grow.refl _ | apply Grow.cons | apply Grow.app)) ⟨s', rfl, hw'.mono (fun _ h => by repeat (first | exact h | apply List.mem_cons_of_mem | apply List.mem_append_right))⟩
end Go.Proofs
set_option maxRecDepth 100000
namespace Go.Proofs
open Go Go.Sx
theorem tcof_ok {B : Hp} {v : Value} {n u : Nat} {ws : List Nat} {c : Bool} (ht : Tbl B v ⟨n, ws⟩) (hf : Tab.Frm n ws) (hu : u < n) :
  Px Tryz.prog 132 #[v, .int .i64 (u : Int), .bool c] B (fun r H => ∃ v', r = .tuple #[v', .int .i64 0] ∧ Tbl H v' ⟨n, Tab.cof n ws u c⟩) := by
 obtain ⟨s, rfl, hw⟩ := ht
 intro g
 refine L132_sound (R := FnR _) ?_
 unfold L132
 intro b1 _ b3 _
 refine LdA.whole (r := [.int .i64 (n : Int), s]) (by exact .tail _ (.head _)) rfl ?_
 refine CallF.rd .here (of_ok (t := ⟨n, ws⟩) ⟨s, rfl, hw.mono (fun _ h => by repeat (first | exact h | apply List.mem_cons_of_mem | apply List.mem_append_right))⟩ (u : Int)) ?_
 rintro v rfl
 rw [if_pos (show TF ⟨(n : Int), ws⟩ from ⟨by simp, by simpa using hf⟩), if_pos ⟨by omega, by simp only; omega⟩]
 refine Bin.neD (Br.decF (by simp) ?_)
 refine LdA.whole (r := [.int .i64 (n : Int), s]) (by exact .tail _ (.head _)) rfl ?_
 refine CallF.px (.cons .here) (half_ok (v := .agg (List.toArray [.int .i64 (n : Int), s])) ⟨s, rfl, hw.mono (fun _ h => by repeat (first | exact h | apply List.mem_cons_of_mem | apply List.mem_append_right))⟩ hf hu) ?_
 rintro v N ⟨s', rfl, hw'⟩
 refine St.whole (r := [.int .i64 (n : Int), s']) (by exact .head _) rfl rfl ?_ ?_
 ·have := oneCell_words hw'; simpa [Value.oneCell'] using this
 refine LdA.whole (r := [.int .i64 (n : Int), s']) (by exact .head _) rfl ?_
 exact PxR.mk (by repeat (first | exact Grow.refl _ | apply Grow.cons | apply Grow.app)) ⟨_, rfl, s', rfl, hw'.mono (fun _ h => by repeat (first | exact h | apply List.mem_cons_of_mem | apply List.mem_append_right))⟩
theorem bytesW_take {w j : Nat} (hj : j < 8) : ((List.range (j + 1)).map fun i => UInt8.ofNat (w >>> (8 * i))) = ((List.range j).map fun i => UInt8.ofNat (w >>> (8 * i))) ++ [UInt8.ofNat (w >>> (8 * j))] := by
 rw [List.range_succ, List.map_append]; rfl
theorem brow_snoc (l : List UInt8) (n : Nat) : brow (l ++ [UInt8.ofNat n]) = brow l ++ [[Value.int .u8 ((n % 256 : Nat) : Int)]] := by
 simp [brow]
theorem key_ok {B : Hp} {v : Value} {t : Tb} (ht : Tbl B v t) (hl : t.ws.length ≤ 4294967296) : Rd Tryz.prog 210 #[v] B (· = strV (Tab.keyB t.ws)) := by
 obtain ⟨s, rfl, hw⟩ := ht
 intro g
 refine L210_sound (R := FnR _) ?_
 unfold L210
 intro b1 _
 refine FAddr.mk (Ld.mk (by repeat (first | assumption | exact List.Mem.head _ | apply List.Mem.tail | apply List.mem_append_right)) rfl ?_)
 refine hw.1.lenS ?_
 rw [iw_length]
 refine ⟨fun vs H => ∃ (k : Nat) (v : Value) (C : Hp), vs = [v, .int .i64 (k : Int)] ∧ k ≤ t.ws.length ∧ H = C ++ B ∧ SOwn 5 1 v (brow (Tab.keyB (t.ws.take k))) C, fun vs _ => t.ws.length - nAt vs 1,
  JE.of (.tail) ⟨0, _, [], rfl, by omega, rfl, SOwn.nil _ _⟩, ?_⟩
 rintro w6 w7 H ⟨k, v, C, hv, hk, rfl, ho⟩ gs
 simp only [List.cons.injEq, and_true] at hv
 obtain ⟨rfl, rfl⟩ := hv
 refine Bin.ltN (Br.dec (fun hlt => ?_) (fun hlt => ?_))
 ·have hg : t.ws[k]? = some t.ws[k] := List.getElem?_eq_getElem hlt
  have hwk := hw.2 _ (List.getElem_mem hlt)
  refine hw.1.ld (iw_get hg) (fun _ h => by repeat (first | exact h | apply List.mem_cons_of_mem | apply List.mem_append_right)) ?_
  have hlen : (brow (Tab.keyB (t.ws.take k))).length = 8 * k := by simp only [brow, List.length_map, Tab.keyB_length, List.length_take]; omega
  refine ⟨fun vs H => ∃ (j : Nat) (v : Value) (C : Hp), vs = [v, .int .i64 (j : Int)] ∧ j ≤ 8 ∧ H = C ++ B ∧ SOwn 5 1 v (brow (Tab.keyB (t.ws.take k) ++ (List.range j).map fun i => UInt8.ofNat (t.ws[k] >>> (8 * i)))) C, fun vs _ => 8 - nAt vs 1,
   JE.mk ⟨0, _, C, rfl, by omega, rfl, by simpa using ho⟩, ?_⟩
  rintro w8 w9 H ⟨j, v, C, hv, hj, rfl, ho⟩ gs
  simp only [List.cons.injEq, and_true] at hv
  obtain ⟨rfl, rfl⟩ := hv
  refine Bin.ltN (b := 8) (Br.dec (fun h8 => ?_) (fun h8 => ?_))
  ·refine Bin.mulN (a := 8) (by simp [lim]; omega) ?_
   refine Bin.shrN (by simpa [lim] using hwk) ?_
   refine ConvI.cut8 ?_
   refine BuildSl.int (e := 5) (by kernel_rfl) (by kernel_rfl) (by kernel_rfl) fun xb => ?_
   refine ho.app' (A := [_]) (r := [Value.int .u8 (((t.ws[k] >>> (8 * j)) % 256 : Nat) : Int)]) (by exact .head _) rfl (by simp [Value.oneCell']) ⟨[.int .u8 0], rfl, rfl⟩ (by simp only [brow, List.length_map, List.length_append, List.length_range] at hlen ⊢; omega) (by simp only [brow, List.length_map, List.length_append, List.length_range] at hlen ⊢; omega) fun v' C' ho' => ?_
   refine Bin.addN (b := 1) (by simp [lim]; omega) ?_
   refine Back.of .tail ⟨j + 1, _, C', rfl, by omega, rfl, ?_⟩ (by simp [nAt]; omega)
   rw [bytesW_take h8, ← List.append_assoc, brow_snoc]; exact ho'
  ·have : j = 8 := by omega
   subst this
   refine Bin.addN (b := 1) (by simp [lim]; omega) ?_
   refine Back.mk ⟨k + 1, _, C, rfl, by omega, rfl, ?_⟩ (by simp [nAt]; omega)
   rw [List.take_succ_eq_append_getElem hlt, Tab.keyB, List.flatMap_append]
   simpa [Tab.keyB, Tab.bytesW] using ho
 ·have : k = t.ws.length := by omega
  subst this
  rw [List.take_length] at ho
  refine BytesS.own ho (fun _ h => List.mem_append_left _ h) ?_
  exact RdR.mk .right rfl
theorem add_ok {B : Hp} {b n : Nat} {es : Array MapEntry} {ck : Nat} {m : List (List UInt8 × List Nat)} {v : Value} {ws : List Nat} (hE : TEnts n B es ck m) (ht : Tbl B v ⟨n, ws⟩) (hf : Tab.Frm n ws) :
  Fc Tryz.prog 209 #[.map (some b), v] ((b, .map es ck) :: B) (fun _ H => ∃ es' ck' N, H = (b, .map es' ck') :: (N ++ B) ∧ TEnts n (N ++ B) es' ck' (tset m ws)) := by
 obtain ⟨s, rfl, hw⟩ := ht
 intro g
 refine L209_sound (R := FnR _) ?_
 unfold L209
 intro b1 _
 refine DR.self ?_
 refine LdA.whole (r := [.int .i64 (n : Int), s]) (by exact .head _) rfl ?_
 refine LdA.whole (r := [.int .i64 (n : Int), s]) (by exact .head _) rfl ?_
 refine CallF.rd (.cons (.cons .here)) (key_ok (t := ⟨n, ws⟩) ⟨s, rfl, hw⟩ (frm_len hf)) ?_
 rintro v rfl
 refine ⟨.refl _, ?_⟩
 refine hE.upd (b := b) ⟨s, rfl, hw⟩ hf fun es' ck' hE' => ⟨_, .tail (.head _), ?_⟩
 exact FnR.mk (H'' := (b, .map es' ck') :: ([] ++ B)) .tail ⟨es', ck', [], rfl, hE'⟩
theorem of_set_ok {B : Hp} {v : Value} {n : Nat} {ts : List Tb} {L : List (List Nat)} (ht : Tbls B v ts) (hL : ts = L.map fun ws => ⟨n, ws⟩) (hf : ∀ ws ∈ L, Tab.Frm n ws) (hmax : L.length < 4611686018427387904) :
  Fc Tryz.prog 189 #[v] B (fun r H => ∃ b es ck m N, r = .map (some b) ∧ H = (b, .map es ck) :: (N ++ B) ∧ TEnts n (N ++ B) es ck m ∧ ∀ x, x ∈ m.map Prod.snd ↔ x ∈ L) := by
 have hlen : ts.length = L.length := by rw [hL]; simp
 intro g
 refine L189_sound (R := FnR _) ?_
 unfold L189
 intro b _
 refine ht.lenS ?_
 rw [hlen]
 refine ⟨fun vs H => ∃ (k : Nat) (es : Array MapEntry) (ck : Nat) (m : List (List UInt8 × List Nat)) (N : Hp), vs = [.int .i64 (k : Int)] ∧ k ≤ L.length ∧ H = (b, .map es ck) :: (N ++ B) ∧ TEnts n (N ++ B) es ck m ∧ ∀ x, x ∈ m.map Prod.snd ↔ x ∈ L.take k,
  fun vs _ => L.length - nAt vs 0, JE.mk ⟨0, _, _, [], [], rfl, by omega, rfl, TEnts.empty _ _, by simp⟩, ?_⟩
 rintro w H ⟨k, es, ck, m, N, hv, hk, rfl, hE, hm⟩ gs
 simp only [List.cons.injEq, and_true] at hv
 subst hv
 refine Bin.ltN (Br.dec (fun hlt => ?_) (fun hlt => ?_))
 ·have hg : ts[k]? = some ⟨n, L[k]⟩ := by rw [hL, List.getElem?_map, List.getElem?_eq_getElem hlt]; rfl
  have hfk := hf L[k] (List.getElem_mem hlt)
  refine ht.ld hg (fun _ h => by repeat (first | exact h | apply List.mem_cons_of_mem | apply List.mem_append_right)) fun s hw => ?_
  intro b2 _
  refine St.whole (r := [.int .i64 (n : Int), s]) (by exact .head _) rfl rfl ?_ ?_
  ·have := oneCell_words hw; simpa [Value.oneCell'] using this
  refine LdA.whole (r := [.int .i64 (n : Int), s]) (by exact .head _) rfl ?_
  refine CallF.fn (.cons .here) (add_ok hE ⟨s, rfl, hw.mono (fun _ h => by repeat (first | exact h | apply List.mem_cons_of_mem | apply List.mem_append_right))⟩ hfk) ?_
  rintro r C' ⟨es', ck', N', rfl, hE'⟩
  refine Bin.addN (b := 1) (by simp [lim]; omega) ?_
  refine Back.of .tail ⟨k + 1, es', ck', tset m L[k], N' ++ N, rfl, by omega, by rw [List.append_assoc], by rw [List.append_assoc]; exact hE', fun x => ?_⟩ (by simp [nAt]; omega)
  rw [tset_same hE.2 hfk, hm, List.take_succ_eq_append_getElem hlt, List.mem_append, List.mem_singleton]
 ·have : k = L.length := by omega
  subst this
  rw [List.take_length] at hm
  exact FnR.here ⟨b, es, ck, m, N, rfl, rfl, hE, hm⟩
theorem given_ok {B : Hp} {bm n u : Nat} {es : Array MapEntry} {ck : Nat} {m : List (List UInt8 × List Nat)} (hm : (bm, Obj.map es ck) ∈ B) (hE : TEnts n B es ck m) (hu : u < n) (hmax : m.length < 4611686018427387904) :
  Fc Tryz.prog 190 #[.map (some bm), .int .i64 (u : Int)] B (fun r H => ∃ b' es' ck' m' N, r = .tuple #[.map (some b'), .int .i64 ((Tab.nodes n (m.map Prod.snd) u).length : Int)] ∧ H = (b', .map es' ck') :: (N ++ B) ∧ TEnts n (N ++ B) es' ck' m' ∧
   ∀ x, x ∈ m'.map Prod.snd ↔ ∃ t ∈ m.map Prod.snd, ∃ c, x = Tab.cof n t u c) := by
 intro g
 refine L190_sound (R := FnR _) ?_
 unfold L190
 intro b' _
 refine .inr ⟨bm, es, ck, rfl, .tail _ hm, fun bi _ => ?_⟩
 refine ⟨fun vs H => ∃ (es' : Array MapEntry) (ck' : Nat) (m' : List (List UInt8 × List Nat)) (seen : Array Nat) (N : Hp) (D : List (List Nat)), vs = [.int .i64 ((Tab.nodes n D u).length : Int)] ∧
   H = (bi, .mapIter (some bm) ck seen ck) :: (b', .map es' ck') :: (N ++ B) ∧ TEnts n (N ++ B) es' ck' m' ∧ (m.map Prod.snd).Perm (D ++ (unseen es m seen).map Prod.snd) ∧ ∀ x, x ∈ m'.map Prod.snd ↔ ∃ t ∈ D, ∃ c, x = Tab.cof n t u c,
  fun vs H => match H with | (_, .mapIter _ _ seen _) :: _ => (unseen es m seen).length | _ => 0, JE.mk ⟨_, _, [], _, [], [], rfl, rfl, TEnts.empty _ _, ?_, by simp⟩, ?_⟩
 ·rw [unseen_all hE.1]; simp
 rintro w H ⟨es', ck', m', seen, N, D, hv, rfl, hE', hperm, hmem⟩ gs
 simp only [List.cons.injEq, and_true] at hv
 subst hv
 have hbm : ∀ {X : Hp}, (bm, Obj.map es ck) ∈ X ++ B := List.mem_append_right _ hm
 refine hE.1.next (.tail _ (.tail _ hbm)) (.head _) (fun e x seen' he hkey hval hstep hback hfind => ⟨_, .head _, ?_⟩) (fun hnil => ?_)
 ·obtain ⟨bs, ws⟩ := x
  simp only at hval hkey
  refine Ext.mk rfl (Br.yes ?_)
  refine ⟨bi, bm, ck, seen', e.born, ck, es, e, rfl, .head _, hback, .tail _ (.tail _ hbm), hfind, ?_⟩
  refine Ext.mk rfl ?_
  have hx : (bs, ws) ∈ m := by
   have h := hstep.mem_iff.2 (List.mem_cons_self (a := (bs, ws)))
   unfold unseen at h
   obtain ⟨p, hp, hp2⟩ := List.mem_map.1 h
   rw [← hp2]
   exact (List.of_mem_zip (List.mem_filter.1 hp).1).2
  obtain ⟨hbs, hf⟩ := hE.2 _ hx
  simp only at hbs hf
  obtain ⟨s, hes, hw⟩ := hval
  rw [hes]
  have hone := oneCell_words hw
  intro b1 _
  refine St.whole (r := [.int .i64 (n : Int), s]) (by exact .head _) rfl rfl (by simpa [Value.oneCell'] using hone) ?_
  refine LdA.whole (r := [.int .i64 (n : Int), s]) (by exact .head _) rfl ?_
  refine CallF.px (B := N ++ B) (.cons (.cons (.cons .here))) (tcof_ok (n := n) (ws := ws) ⟨s, rfl, hw.mono (fun _ h => by repeat (first | exact h | apply List.mem_cons_of_mem | apply List.mem_append_right))⟩ hf hu) ?_
  rintro r N1 ⟨v1, rfl, s1, rfl, hw1⟩
  have hone1 := oneCell_words hw1
  refine Ext.mk rfl (Ext.mk rfl ?_)
  intro b2 _
  refine St.whole (r := [.int .i64 (n : Int), s1]) (by exact .head _) rfl rfl (by simpa [Value.oneCell'] using hone1) ?_
  refine LdA.whole (r := [.int .i64 (n : Int), s]) (by exact .tail _ (.head _)) rfl ?_
  refine CallF.px (B := N1 ++ (N ++ B)) (.cons (.cons (.cons (.cons .here)))) (tcof_ok (n := n) (ws := ws) ⟨s, rfl, hw.mono (fun _ h => by repeat (first | exact h | apply List.mem_cons_of_mem | apply List.mem_append_right))⟩ hf hu) ?_
  rintro r N2 ⟨v2, rfl, s2, rfl, hw2⟩
  have hone2 := oneCell_words hw2
  refine Ext.mk rfl (Ext.mk rfl ?_)
  intro b3 _
  refine St.whole (r := [.int .i64 (n : Int), s2]) (by exact .head _) rfl rfl (by simpa [Value.oneCell'] using hone2) ?_
  refine DR.self ?_
  refine LdA.whole (r := [.int .i64 (n : Int), s1]) (by exact .tail _ (.head _)) rfl ?_
  refine LdA.whole (r := [.int .i64 (n : Int), s2]) (by exact .head _) rfl ?_
  have f1 := Tab.frm_cof (v := u) (ws := ws) (b := false) hf.n16
  have f2 := Tab.frm_cof (v := u) (ws := ws) (b := true) hf.n16
  refine CallF.rd (B := N2 ++ (N1 ++ (N ++ B))) (.cons (.cons (.cons (.cons (.cons .here))))) (key_ok (t := ⟨n, Tab.cof n ws u false⟩) ⟨s1, rfl, hw1.mono (fun _ h => by repeat (first | exact h | apply List.mem_cons_of_mem | apply List.mem_append_right))⟩ (frm_len f1)) ?_
  rintro v rfl
  refine ⟨.refl _, ?_⟩
  refine CallF.rd (B := N2 ++ (N1 ++ (N ++ B))) (.cons (.cons (.cons (.cons (.cons .here))))) (key_ok (t := ⟨n, Tab.cof n ws u true⟩) ⟨s2, rfl, hw2⟩ (frm_len f2)) ?_
  rintro v rfl
  refine ⟨.refl _, ?_⟩
  intro J hJ
  have hdep : (Tab.keyB (Tab.cof n ws u false) ≠ Tab.keyB (Tab.cof n ws u true)) ↔ Tab.dep n ws u = true := by
   simp only [Tab.dep, ne_eq, decide_eq_true_eq]
   exact not_congr ⟨fun h => f1.key_inj f2 h, fun h => by rw [h]⟩
  have hfin : JE J [.int .i64 ((Tab.nodes n (D ++ [ws]) u).length : Int)] ((b3, .cells (List.toArray [.int .i64 (n : Int), s2]) 55 (0, 0)) :: (b2, .cells (List.toArray [.int .i64 (n : Int), s1]) 55 (0, 0)) ::
    (b1, .cells (List.toArray [.int .i64 (n : Int), s]) 55 (0, 0)) :: (bi, .mapIter (some bm) ck seen' ck) :: (b', .map es' ck') :: (N2 ++ (N1 ++ (N ++ B)))) := by
   refine JE.mk (hJ _ _ fun gs => ?_)
   refine DR.of (R := (b3, .cells (List.toArray [.int .i64 (n : Int), s2]) 55 (0, 0)) :: (b2, .cells (List.toArray [.int .i64 (n : Int), s1]) 55 (0, 0)) :: []) ?_ ?_
   ·exact .cons (.cons (fun g w h => (Own.left (B := _) (A := []) h)))
   refine LdA.whole (r := [.int .i64 (n : Int), s1]) (by exact .tail _ (.head _)) rfl ?_
   refine LdA.whole (r := [.int .i64 (n : Int), s2]) (by exact .head _) rfl ?_
   have hE2 := hE'.mono (B' := N2 ++ (N1 ++ (N ++ B))) (fun _ h => by repeat (first | exact h | apply List.mem_cons_of_mem | apply List.mem_append_right))
   refine hE2.upd (b := b') (ws := Tab.cof n ws u false) ⟨s1, rfl, hw1.mono (fun _ h => by repeat (first | exact h | apply List.mem_cons_of_mem | apply List.mem_append_right))⟩ f1 fun es2 ck2 hE3 => ⟨_, .tail (.tail (.tail (.tail (.head _)))), ?_⟩
   refine ⟨.cons (.cons (fun g w h => (Own.left (B := _) (A := []) h))), ?_⟩
   refine hE3.upd (b := b') (ws := Tab.cof n ws u true) ⟨s2, rfl, hw2⟩ f2 fun es3 ck3 hE4 => ⟨_, .tail (.tail (.tail (.tail (.head _)))), ?_⟩
   refine Back.of (H' := (bi, .mapIter (some bm) ck seen' ck) :: (b', .map es3 ck3) :: ((N2 ++ (N1 ++ N)) ++ B)) ?_ ⟨es3, ck3, tset (tset m' (Tab.cof n ws u false)) (Tab.cof n ws u true), seen', N2 ++ (N1 ++ N), D ++ [ws], rfl, rfl, ?_, ?_, fun x => ?_⟩ ?_
   ·refine .skip (.skip (.skip (.cons (.cons ?_))))
    intro g w h; rw [List.append_assoc, List.append_assoc]; exact h
   ·rw [List.append_assoc, List.append_assoc]; exact hE4
   ·refine hperm.trans ?_
    refine (List.Perm.append_left D (hstep.map Prod.snd)).trans ?_
    simp only [List.map_cons, List.append_assoc, List.cons_append, List.nil_append]
    exact .refl _
   ·rw [tset_same hE3.2 f2, tset_same hE2.2 f1, hmem]
    constructor
    ·rintro ((⟨t, ht, c, rfl⟩ | rfl) | rfl)
     ·exact ⟨t, by simp [ht], c, rfl⟩
     ·exact ⟨ws, by simp, _, rfl⟩
     ·exact ⟨ws, by simp, _, rfl⟩
    ·rintro ⟨t, ht, c, rfl⟩
     rcases List.mem_append.1 ht with ht | ht
     ·exact .inl (.inl ⟨t, ht, c, rfl⟩)
     ·simp at ht; subst ht
      cases c
      ·exact .inl (.inr rfl)
      ·exact .inr rfl
   ·have := hstep.length_eq
    simp only [List.length_cons] at this ⊢
    omega
  refine Bin.strNe (Br.dec (fun h => ?_) (fun h => ?_))
  ·refine Bin.addN (b := 1) ?_ ?_
   ·have h1 := hperm.length_eq
    simp only [List.length_map, List.length_append] at h1
    have h2 : (Tab.nodes n D u).length ≤ D.length := List.length_filter_le _ _
    simp [lim]; omega
   ·have : (Tab.nodes n (D ++ [ws]) u).length = (Tab.nodes n D u).length + 1 := by
     simp [Tab.nodes, List.filter_append, hdep.1 h]
    rw [this] at hfin; exact hfin
  ·have : (Tab.nodes n (D ++ [ws]) u).length = (Tab.nodes n D u).length := by
    have hd : Tab.dep n ws u = false := by cases hh : Tab.dep n ws u; rfl; exact absurd (hdep.2 hh) h
    simp [Tab.nodes, List.filter_append, hd]
   rw [this] at hfin; exact hfin
 ·refine Ext.mk rfl (Br.no ?_)
  rw [hnil] at hperm
  simp only [List.map_nil, List.append_nil] at hperm
  refine FnR.mk (H'' := (b', .map es' ck') :: (N ++ B)) .tail ⟨b', es', ck', m', N, ?_, rfl, hE', fun x => ?_⟩
  ·rw [Tab.nodes_perm hperm]
  ·rw [hmem]
   constructor
   ·rintro ⟨t, ht, h⟩; exact ⟨t, hperm.mem_iff.2 ht, h⟩
   ·rintro ⟨t, ht, h⟩; exact ⟨t, hperm.mem_iff.1 ht, h⟩
end Go.Proofs
set_option maxRecDepth 100000
namespace Go.Proofs
open Go Go.Sx
theorem scheck_ok {B : Hp} {v : Value} {ts : List Tb} (ht : Tbls B v ts) (hmax : ts.length < 2 ^ 62) : Rd Tryz.prog 188 #[v] B (· = .bool (decide (∀ t ∈ ts, TF t ∧ some t.n = ts.head?.map Tb.n))) := by
 intro g
 refine L188_sound (R := FnR _) ?_
 unfold L188
 refine ht.lenS ?_
 refine ⟨fun vs H => Grow B H ∧ ∃ k : Nat, vs = [.int .i64 (k : Int)] ∧ k ≤ ts.length ∧ ∀ i t, i < k → ts[i]? = some t → TF t ∧ some t.n = ts.head?.map Tb.n, fun vs _ => ts.length - nAt vs 0, JE.mk ⟨.refl _, 0, rfl, by omega, by omega⟩, ?_⟩
 rintro w H ⟨hg, k, hv, hk, hall⟩ gs
 simp only [List.cons.injEq, and_true] at hv
 subst hv
 refine Bin.ltN (Br.dec (fun hlt => ?_) (fun hlt => ?_))
 ·obtain ⟨t, htk⟩ : ∃ t, ts[k]? = some t := ⟨_, List.getElem?_eq_getElem hlt⟩
  obtain ⟨t0, ht0⟩ : ∃ t, ts[0]? = some t := ⟨_, List.getElem?_eq_getElem (by omega)⟩
  have hh : ts.head?.map Tb.n = some t0.n := by rw [List.head?_eq_getElem?, ht0]; rfl
  have htB := ht.mono hg.sub
  refine htB.ld htk (fun _ h => h) fun s hs => ?_
  intro b1 _
  refine St.whole (r := [.int .i64 t.n, s]) (by exact Upd.head _) rfl rfl ?_ ?_
  ·obtain ⟨a, c, rfl, _⟩ := hs.1.shape; simp [Value.oneCell']
  intro J hJ
  have hno : ∀ H', Grow B H' → ¬ (TF t ∧ some t.n = ts.head?.map Tb.n) → JE J [.bool true] H' := fun H' hg' h =>
   JE.mk (hJ _ _ fun gs => Br.yes (RdR.mk hg'.ent (by rw [decide_eq_false]; exact fun hh => h (hh t (List.mem_of_getElem? htk)))))
  have hg2 : Grow B ((b1, Obj.cells (List.toArray [.int .i64 t.n, s]) 55 (0, 0)) :: H) := .cons hg
  refine DR.self ?_
  refine LdA.whole (r := [.int .i64 t.n, s]) (by exact List.Mem.head _) rfl ?_
  intro F
  refine CallF.rd (B := H) (.cons .here) (form1_ok ⟨s, rfl, hs⟩) ?_
  rintro v rfl
  refine ⟨.refl _, Un.not ?_⟩
  by_cases hT : TF t
  case neg => rw [decide_eq_false hT]; exact Br.yes (hno _ hg2 fun h => hT h.1)
  rw [decide_eq_true hT]
  refine Br.no ?_
  refine FAddr.mk (Ld.mk (by repeat (first | assumption | exact List.Mem.head _ | apply List.Mem.tail | apply List.mem_append_right)) rfl ?_)
  refine htB.ldN ht0 (fun _ h => by repeat (first | exact h | apply List.mem_cons_of_mem | apply List.mem_append_right)) ?_
  refine Bin.neD (Pick.mk ?_)
  simp only [cond_false]
  by_cases hn : t.n = t0.n
  case neg => rw [decide_eq_true hn]; exact hno _ hg2 fun h => hn (by have := h.2; rw [hh] at this; simpa using this)
  rw [decide_eq_false (by simpa using hn)]
  refine JE.mk (hJ _ _ fun gs => Br.no ?_)
  refine Bin.addN (b := 1) (by simp [lim]; omega) ?_
  refine Back.mk ⟨hg2, k + 1, rfl, by omega, fun i u hi hu => ?_⟩ (by simp [nAt]; omega)
  by_cases e : i = k
  ·subst e; rw [htk] at hu; cases hu; exact ⟨hT, by rw [hh, hn]⟩
  ·exact hall i u (by omega) hu
 ·refine RdR.mk hg.ent ?_
  rw [decide_eq_true]
  intro t htm
  obtain ⟨i, hi, rfl⟩ := List.mem_iff_getElem.1 htm
  exact hall i _ (by omega) (List.getElem?_eq_getElem hi)
def OneN (ts : List Tb) : Prop := ∀ t ∈ ts, TF t ∧ some t.n = ts.head?.map Tb.n
instance (ts : List Tb) : Decidable (OneN ts) := by unfold OneN; infer_instance
theorem scheck1_ok {B : Hp} {v : Value} {ts : List Tb} (ht : Tbls B v ts) (hmax : ts.length < 2 ^ 62) : Rd Tryz.prog 188 #[v] B (· = .bool (decide (OneN ts))) := scheck_ok ht hmax
theorem oneN_map {n : Nat} {L : List (List Nat)} (hf : ∀ ws ∈ L, Tab.Frm n ws) : OneN (L.map fun ws => ⟨n, ws⟩) := by
 intro t ht
 obtain ⟨ws, hws, rfl⟩ := List.mem_map.1 ht
 refine ⟨⟨by simp, by simpa using hf ws hws⟩, ?_⟩
 cases L with
 | nil => simp at hws
 | cons a b => rfl
end Go.Proofs
namespace Bdd
theorem Rm.goes_take (m : Rm) : ∀ ls ord, m.goes 0 ls ord = ls.take (m.goes 0 ls ord).length
 | [], _ => rfl
 | c :: cs, ord => by
  by_cases hf : m.fit ord (0 + c) = true
  ·have := m.goes_take cs (swp ord (0 + c))
   rw [goes, if_pos hf, List.length_cons, List.take_succ_cons, ← this, Nat.zero_add]
  ·rw [goes, if_neg hf]; simp
def Rm.can (m : Rm) (ord ls : List Nat) : Bool := decide ((m.goes 0 ls ord).length = ls.length)
theorem Rm.goes_fit (m : Rm) {ord ls : List Nat} {i : Nat} (hi : i < (m.goes 0 ls ord).length) {l : Nat} (hl : ls[i]? = some l) : m.fit (swps ord (ls.take i)) l = true := by
 obtain ⟨_, c, h1, h2⟩ := m.goes_get 0 ls ord i hi
 rw [hl] at h1; cases h1
 rw [m.goes_take, List.take_take, Nat.min_eq_left (Nat.le_of_lt hi), Nat.zero_add] at h2
 exact h2
theorem Rm.goes_stop (m : Rm) {ord ls : List Nat} {l : Nat} (hl : ls[(m.goes 0 ls ord).length]? = some l) : m.fit (swps ord (ls.take (m.goes 0 ls ord).length)) l = false := by
 have := m.goes_end 0 ls ord l hl
 rw [Nat.zero_add] at this
 rw [← m.goes_take]
 exact this
def road (a b : Nat) : List Nat := List.range' a (b - a) ++ (List.range' b (a - b)).reverse
theorem road_len (a b : Nat) : (road a b).length = (b - a) + (a - b) := by simp [road]
theorem road_mem {a b l n : Nat} (ha : a < n) (hb : b < n) (h : l ∈ road a b) : l + 1 < n := by
 unfold road at h
 rcases List.mem_append.1 h with h | h
 ·rw [List.mem_range'_1] at h; omega
 ·rw [List.mem_reverse, List.mem_range'_1] at h; omega
theorem perm_of_sub {α : Type} [DecidableEq α] : ∀ {l p : List α}, l.Nodup → (∀ x ∈ l, x ∈ p) → p.length ≤ l.length → l.Perm p
 | [], p, _, _, h => by
  have : p = [] := List.length_eq_zero_iff.1 (by simpa using h)
  subst this; exact .refl _
 | x :: t, p, hn, hs, hl => by
  have hx := hs x (by simp)
  have hp := List.perm_cons_erase hx
  have hlen : (p.erase x).length = p.length - 1 := List.length_erase_of_mem hx
  have hpos := List.length_pos_of_mem hx
  refine (List.Perm.cons x (perm_of_sub (List.nodup_cons.1 hn).2 (fun y hy => ?_) (by simp only [List.length_cons] at hl; omega))).trans hp.symm
  refine (List.mem_erase_of_ne fun e => ?_).2 (hs y (by simp [hy]))
  subst e; exact (List.nodup_cons.1 hn).1 hy
end Bdd
set_option maxRecDepth 100000
namespace Go.Proofs
open Go Go.Sx
open Bdd
theorem iw_nodup {l : List Nat} (h : l.Nodup) : (iw l).Nodup := List.pairwise_map.2 (h.imp fun hne e => hne (Int.ofNat.inj e))
theorem allIn_iff {p : List Int} : allIn p ↔ p.Perm (iw (List.range p.length)) := by
 constructor
 ·intro h
  refine (perm_of_sub (iw_nodup List.nodup_range) (fun x hx => ?_) (by rw [iw_length, List.length_range]; exact Nat.le_refl _)).symm
  obtain ⟨k, hk, rfl⟩ := List.mem_map.1 hx
  exact h k (List.mem_range.1 hk)
 ·intro h v hv
  exact h.mem_iff.2 (List.mem_map.2 ⟨v, List.mem_range.2 hv, rfl⟩)
theorem allIn_of {p : List Int} (hn : p.Nodup) (h : ∀ x ∈ p, 0 ≤ x ∧ x < (p.length : Int)) : allIn p := by
 refine allIn_iff.2 (perm_of_sub hn (fun x hx => ?_) (by rw [iw_length, List.length_range]; exact Nat.le_refl _))
 obtain ⟨h1, h2⟩ := h x hx
 exact List.mem_map.2 ⟨x.toNat, List.mem_range.2 (by omega), by show ((x.toNat : Nat) : Int) = x; omega⟩
theorem allIn_in {p : List Int} (h : allIn p) {x : Int} (hx : x ∈ p) : 0 ≤ x ∧ x < (p.length : Int) := by
 have := (allIn_iff.1 h).mem_iff.1 hx
 obtain ⟨k, hk, rfl⟩ := List.mem_map.1 this
 have := List.mem_range.1 hk
 show (0 : Int) ≤ (k : Int) ∧ (k : Int) < _
 omega
theorem allIn_nodup {p : List Int} (h : allIn p) : p.Nodup := (allIn_iff.1 h).nodup_iff.2 (iw_nodup List.nodup_range)
theorem seen_set {p : List Int} {i n W : Nat} (hi : i < p.length) (hn : p[i] = (n : Int)) (hw : n < W) : ((List.range W).map fun k => decide (((k : Nat) : Int) ∈ p.take i)).set n true = (List.range W).map fun k => decide (((k : Nat) : Int) ∈ p.take (i + 1)) := by
 apply List.ext_getElem?
 intro j
 rw [List.take_succ_eq_append_getElem hi, hn]
 by_cases hj : j < W
 ·by_cases e : n = j
  ·subst e; rw [List.getElem?_set_self (by simpa using hw)]; simp [hw]
  ·rw [List.getElem?_set_ne e]
   simp only [List.getElem?_map, List.getElem?_range hj, Option.map_some, List.mem_append, List.mem_singleton]
   congr 1
   have : ¬ ((j : Nat) : Int) = (n : Int) := by omega
   simp [this]
 ·rw [List.getElem?_eq_none (by simp; omega), List.getElem?_eq_none (by simp; omega)]
theorem seen_zero {p : List Int} {W : Nat} : List.replicate W false = (List.range W).map fun k => decide (((k : Nat) : Int) ∈ p.take 0) := by
 apply List.ext_getElem?
 intro j
 by_cases hj : j < W
 ·simp [hj]
 ·rw [List.getElem?_eq_none (by simp; omega), List.getElem?_eq_none (by simp; omega)]
theorem pcheck_ok {B : Hp} {v : Value} {p : List Int} (h : Ints .i64 B v p) (hmax : p.length ≤ 70368744177664) : Rd Tryz.prog 84 #[v] B (fun r => (r = .int .i64 0 ∧ allIn p ∧ p.length ≤ 64) ∨ (r = .int .i64 13 ∧ allIn p ∧ 64 < p.length) ∨ (r = .int .i64 4 ∧ ¬ allIn p)) := by
 intro g
 refine L84_sound (R := FnR _) ?_
 unfold L84
 refine h.lenS (MkSlice.bools (by omega) fun b => h.lenS ?_)
 rw [seen_zero (p := p)]
 refine ⟨fun vs H => ∃ i : Nat, vs = [.int .i64 (i : Int)] ∧ H = (b, .cells (bcells ((List.range p.length).map fun k => decide (((k : Nat) : Int) ∈ p.take i))) 4 (0, 0)) :: B ∧ i ≤ p.length ∧ (p.take i).Nodup ∧ ∀ x ∈ p.take i, 0 ≤ x ∧ x < (p.length : Int), fun vs _ => p.length - nAt vs 0,
  JE.mk ⟨0, rfl, rfl, Nat.zero_le _, by simp, by simp⟩, ?_⟩
 rintro w H ⟨i, hv, rfl, hi, hnd, hin⟩ gs
 simp only [List.cons.injEq, and_true] at hv
 subst hv
 refine Bin.ltN (Br.dec (fun hlt => ?_) (fun hlt => ?_))
 ·refine h.ld (List.getElem?_eq_getElem hlt) (fun _ h => .tail _ h) ?_
  obtain ⟨x, hx⟩ : ∃ x, p[i] = x := ⟨_, rfl⟩
  have hxm : x ∈ p := by rw [← hx]; exact List.getElem_mem hlt
  rw [hx]
  have hB := Bools.block (b := b) (cap := p.length) (l := (List.range p.length).map fun k => decide (((k : Nat) : Int) ∈ p.take i)) (T := 4) (fz := (0, 0)) (B := (b, .cells (bcells ((List.range p.length).map fun k => decide (((k : Nat) : Int) ∈ p.take i))) 4 (0, 0)) :: B) (.head _) (by simp)
  rw [List.length_map, List.length_range] at hB
  refine Bin.lss ?_
  refine Grp.or (decide ((p.length : Int) ≤ x)) (fun _ => h.lenS (Bin.geq ⟨rfl, rfl⟩)) (by simp) fun gs => ?_
  rw [← Bool.decide_or]
  refine Grp.or (decide (x ∈ p.take i)) (fun hno => ?_) (by simp) fun gs => ?_
  ·have hno' := of_decide_eq_false hno
   obtain ⟨n, rfl⟩ : ∃ n : Nat, x = n := ⟨x.toNat, by omega⟩
   refine hB.ld (b := decide (((n : Nat) : Int) ∈ p.take i)) ?_ (fun _ h => h) ⟨rfl, rfl⟩
   rw [List.getElem?_map, List.getElem?_range (by omega)]; rfl
  rw [← Bool.decide_or]
  refine Br.dec (fun hbad => RdR.mk .tail (.inr (.inr ⟨rfl, fun ha => ?_⟩))) (fun hgood => ?_)
  ·have h1 := allIn_in ha hxm
   rcases hbad with hb | hb
   ·omega
   ·have h2 := allIn_nodup ha
    rw [← List.take_append_drop i p, List.nodup_append] at h2
    refine h2.2.2 x hb x ?_ rfl
    rw [List.drop_eq_getElem_cons hlt, hx]; exact .head _
  ·obtain ⟨n, rfl⟩ : ∃ n : Nat, x = n := ⟨x.toNat, by omega⟩
   refine IAddr.nat (by omega) ?_
   refine St.bools (l := (List.range p.length).map fun k => decide (((k : Nat) : Int) ∈ p.take i)) (.head _) (by simp; omega) ?_
   rw [seen_set hlt hx (by omega)]
   refine Bin.addN (b := 1) (by simp [lim]; omega) ?_
   refine Back.mk ⟨i + 1, rfl, rfl, hlt, ?_, fun x hx2 => ?_⟩ (by simp only [nAt]; omega)
   ·rw [List.take_succ_eq_append_getElem hlt, hx, List.nodup_append]
    exact ⟨hnd, by simp, fun a ha b hb e => by simp at hb; subst hb; subst e; exact hgood (.inr ha)⟩
   ·rw [List.take_succ_eq_append_getElem hlt, hx, List.mem_append, List.mem_singleton] at hx2
    rcases hx2 with hx2 | rfl
    ·exact hin x hx2
    ·omega
 ·obtain rfl : i = p.length := by omega
  rw [List.take_length] at hnd hin
  have hall := allIn_of hnd hin
  refine h.lenS (Bin.gtN (b := 64) (Br.dec (fun hg => RdR.mk .tail (.inr (.inl ⟨rfl, hall, hg⟩))) (fun hg => RdR.mk .tail (.inl ⟨rfl, hall, by omega⟩))))
theorem sindex_ok {B : Hp} {v : Value} {p : List Int} {x : Int} (h : Ints .i64 B v p) (hmax : p.length < 4611686018427387904) : Rd Tryz.prog 136 #[v, .int .i64 x] B (· = .int .i64 (if x ∈ p then ((p.idxOf x : Nat) : Int) else -1)) := by
 intro g
 refine L136_sound (R := FnR _) ?_
 unfold L136
 refine h.lenS ?_
 refine ⟨fun vs H => ∃ i : Nat, vs = [.int .i64 (i : Int)] ∧ H = B ∧ i ≤ p.length ∧ x ∉ p.take i, fun vs _ => p.length - nAt vs 0, JE.mk ⟨0, rfl, rfl, Nat.zero_le _, by simp⟩, ?_⟩
 rintro w H ⟨i, hv, rfl, hi, hq⟩ gs
 simp only [List.cons.injEq, and_true] at hv
 subst hv
 refine Bin.ltN (Br.dec (fun hlt => ?_) (fun hlt => ?_))
 ·refine h.ld (List.getElem?_eq_getElem hlt) (fun _ h => h) ?_
  refine Bin.eqD (Br.dec (fun he => RdR.mk (.refl _) ?_) (fun he => ?_))
  ·rw [if_pos (by rw [he]; exact List.getElem_mem hlt), idx_take hq hlt he.symm]
  ·refine Bin.addN (b := 1) (by simp [lim]; omega) ?_
   refine Back.of (.refl _) ⟨i + 1, rfl, rfl, hlt, ?_⟩ (by simp only [nAt]; omega)
   rw [List.take_succ_eq_append_getElem hlt, List.mem_append, List.mem_singleton]
   rintro (h | h)
   ·exact hq h
   ·exact he h
 ·refine RdR.mk (.refl _) ?_
  rw [List.take_of_length_le (by omega)] at hq
  rw [if_neg hq]
theorem both_ok {B : Hp} {v1 v2 : Value} {p q : List Nat} {n : Nat} (h1 : Ints .i64 B v1 (iw p)) (h2 : Ints .i64 B v2 (iw q)) (hp : p.Perm (List.range n)) (hq : q.Perm (List.range n)) (hn : n ≤ 64) : Rd Tryz.prog 135 #[v1, v2] B (· = .int .i64 0) := by
 have e1 : p.length = n := by rw [hp.length_eq, List.length_range]
 have e2 : q.length = n := by rw [hq.length_eq, List.length_range]
 intro g
 refine L135_sound (R := FnR _) ?_
 unfold L135
 refine CallF.rd .here (pcheck_ok h1 (by rw [iw_length]; omega)) ?_
 rintro v (⟨rfl, _, _⟩ | ⟨_, _, hl⟩ | ⟨_, hno⟩)
 rotate_left
 ·rw [iw_length] at hl; omega
 ·exact absurd (allIn_iw hp) hno
 refine CallF.rd .here (pcheck_ok h2 (by rw [iw_length]; omega)) ?_
 rintro v (⟨rfl, _, _⟩ | ⟨_, _, hl⟩ | ⟨_, hno⟩)
 rotate_left
 ·rw [iw_length] at hl; omega
 ·exact absurd (allIn_iw hq) hno
 refine Bin.eqD ?_
 refine Grp.or false (fun _ => Bin.eqD ⟨rfl, rfl⟩) rfl fun gs => ?_
 refine Grp.or false (fun _ => ?_) rfl fun gs => Br.no ?_
 ·refine h1.lenS (h2.lenS (Bin.neN ⟨rfl, ?_⟩))
  rw [iw_length, iw_length, decide_eq_false (by omega)]
 ·exact ⟨.i64, 0, 0, rfl, rfl, RdR.mk (.refl _) rfl⟩
end Go.Proofs
set_option maxRecDepth 100000
namespace Go.Proofs
open Go Go.Sx
open Bdd
theorem levN_len (n : Nat) (ord : List Nat) (L : Tab.Fs) (k : Nat) : (levN n ord L k).length ≤ 2 ^ k * L.length := Nat.le_trans (List.length_filter_le _ _) (cur_len k)
theorem sizeN_le2 (n : Nat) (ord : List Nat) (L : Tab.Fs) : ∀ m, sizeN n ord L m + L.length ≤ 2 ^ m * L.length
 | 0 => by show 0 + L.length ≤ 1 * L.length; omega
 | m + 1 => by
  have ih := sizeN_le2 n ord L m
  have h := levN_len n ord L m
  show sizeN n ord L m + (levN n ord L m).length + L.length ≤ _
  rw [Nat.pow_succ]
  have : 2 ^ m * 2 * L.length = 2 * (2 ^ m * L.length) := by rw [Nat.mul_comm (2 ^ m) 2, Nat.mul_assoc]
  omega
def profN (n : Nat) (ord : List Nat) (L : Tab.Fs) (m : Nat) : List Nat := (List.range m).map fun k => (levN n ord L k).length
theorem profN_succ (n : Nat) (ord : List Nat) (L : Tab.Fs) (m : Nat) : profN n ord L (m + 1) = profN n ord L m ++ [(levN n ord L m).length] := by
 unfold profN; rw [List.range_succ, List.map_append]; rfl
theorem profile_ok {B : Hp} {v o : Value} {n : Nat} {L : List (List Nat)} {ord : List Nat} (ht : Tbls B v (L.map fun ws => ⟨n, ws⟩)) (hf : ∀ ws ∈ L, Tab.Frm n ws) (hne : L ≠ []) (hmax : L.length < 1048576) (ho : Ints .i64 B o (iw ord)) (hol : ord.length = n) (hA : allIn (iw ord)) :
  Px Tryz.prog 160 #[v, o] B (fun r H => ∃ s, r = .tuple #[s, .int .i64 0] ∧ Ints .i64 H s (iw (profN n ord L n))) := by
 obtain ⟨w0, hw0⟩ : ∃ w0, L[0]? = some w0 := ⟨_, List.getElem?_eq_getElem (List.length_pos_iff.2 hne)⟩
 have hn16 : n ≤ 16 := (hf w0 (List.mem_of_getElem? hw0)).n16
 intro g
 refine L160_sound (R := FnR _) ?_
 unfold L160
 refine CallF.rd .here (scheck1_ok ht (by simp; omega)) ?_
 rintro v rfl
 rw [decide_eq_true (oneN_map hf)]
 refine Un.not (Br.no ?_)
 intro J hJ
 refine ht.lenS ?_
 rw [List.length_map]
 have hpos : 0 < L.length := List.length_pos_iff.2 hne
 refine Bin.gtN (b := 0) ?_
 rw [decide_eq_true hpos]
 refine Split.go rfl ?_
 refine ho.lenS ?_
 rw [iw_length, hol]
 refine ht.ldN (i := 0) (t := ⟨n, w0⟩) (by rw [List.getElem?_map, hw0]; rfl) (fun _ h => h) ?_
 refine Bin.neD (Pick.mk ?_)
 rw [decide_eq_false (by simp)]
 refine Split.go rfl ?_
 refine CallF.rd .here (pcheck_ok ho (by rw [iw_length, hol]; omega)) ?_
 rintro w (⟨rfl, _, _⟩ | ⟨rfl, _, hl⟩ | ⟨rfl, hno⟩)
 rotate_left
 ·rw [iw_length] at hl; omega
 ·exact absurd hA hno
 refine Bin.eqD (Pick.mk (JE.mk (hJ _ _ fun gs => Br.no ?_)))
 refine ho.lenS ?_
 rw [iw_length, hol]
 refine Bin.gtN (b := 16) (Br.decF (by omega) ?_)
 refine CallF.fn .here (of_set_ok ht rfl hf (by omega)) ?_
 rintro r H ⟨b, es, ck, m, N, rfl, rfl, hE, hm⟩
 refine ho.lenS ?_
 rw [iw_length, hol]
 have hbound : ∀ k, k ≤ n → ∀ m : List (List UInt8 × List Nat), (m.map Prod.snd).Nodup → (∀ x, x ∈ m.map Prod.snd ↔ x ∈ cur n ord L k) → m.length < 4611686018427387904 := by
  intro k hk m hnd hmem
  have h1 := (Tab.perm_of_same hnd (cur_nodup k) hmem).length_eq
  have h2 := cur_len (n := n) (ord := ord) (L := L) k
  have h3 : 2 ^ k ≤ 2 ^ 16 := Nat.pow_le_pow_right (by decide) (by omega)
  have h4 : 2 ^ k * L.length ≤ 2 ^ 16 * L.length := Nat.mul_le_mul_right _ h3
  rw [List.length_map] at h1
  omega
 refine ⟨fun vs H => ∃ (k : Nat) (s : Value) (b : Nat) (es : Array MapEntry) (ck : Nat) (m : List (List UInt8 × List Nat)) (CS N : Hp), vs = [s, .map (some b), .int .i64 (k : Int)] ∧ k ≤ n ∧ H = CS ++ ((b, .map es ck) :: (N ++ B)) ∧ IOwn 3 .i64 s (iw (profN n ord L k)) CS ∧ TEnts n (N ++ B) es ck m ∧ ∀ x, x ∈ m.map Prod.snd ↔ x ∈ cur n ord L k,
  fun vs _ => n - nAt vs 2, JE.mk ⟨0, _, b, es, ck, m, [], N, rfl, by omega, rfl, IOwn.nil, hE, fun x => by rw [hm]; exact Tab.mem_unlike.symm⟩, ?_⟩
 clear hm hE
 rintro w17 w18 w19 H ⟨k, s, b, es, ck, m, CS, N, hv, hk, rfl, hs, hE, hm⟩ gs
 simp only [List.cons.injEq, and_true] at hv
 obtain ⟨rfl, rfl, rfl⟩ := hv
 have hE2 := hE.mono (B' := (b, Obj.map es ck) :: (N ++ B)) (fun _ h => by repeat (first | exact h | apply List.mem_cons_of_mem | apply List.mem_append_right))
 refine Bin.ltN (Br.dec (fun hlt => ?_) (fun hlt => ?_))
 ·refine ho.ld (n := ((ord.getD k 0 : Nat) : Int)) (iw_getD (by omega)) (fun _ h => List.mem_append_right _ (.tail _ (List.mem_append_right _ h))) ?_
  have hlt2 : ord.getD k 0 < n := by
   have hmem : ((ord.getD k 0 : Nat) : Int) ∈ iw ord := List.mem_of_getElem? (iw_getD (by omega))
   have := allIn_in hA hmem
   rw [iw_length, hol] at this; omega
  refine CallF.fn (.app .here) (given_ok (.head _) hE2 hlt2 (hbound k hk m hE.nodup hm)) ?_
  rintro r H ⟨b', es', ck', m', N', rfl, rfl, hE', hm'⟩
  refine Ext.mk rfl (Ext.mk rfl ?_)
  have hcount : (Tab.nodes n (m.map Prod.snd) (ord.getD k 0)).length = (levN n ord L k).length := Tab.nodes_perm (Tab.perm_of_same hE.nodup (cur_nodup k) hm)
  have hle : (levN n ord L k).length ≤ 65536 * 1048576 := Nat.le_trans (levN_len n ord L k) (Nat.mul_le_mul (Nat.le_trans (Nat.pow_le_pow_right (by decide) (show k ≤ 16 by omega)) (by decide)) (by omega))
  rw [hcount]
  refine BuildSl.int (e := 3) (by kernel_rfl) (by kernel_rfl) (by kernel_rfl) fun bx => ?_
  have hpl : (profN n ord L k).length = k := by simp [profN]
  refine hs.appH (x := (((levN n ord L k).length : Nat) : Int)) (.cons .left) (by exact .head _) (by rw [iw_length, hpl]; omega) (by rw [iw_length, hpl]; omega) fun s' CS' hs' => ?_
  refine Bin.addN (b := 1) (by simp [lim]; omega) ?_
  refine Back.of .tail ⟨k + 1, s', b', es', ck', m', CS', N' ++ (b, .map es ck) :: N, rfl, by omega, by rw [List.append_assoc]; rfl, ?_, by rw [List.append_assoc]; exact hE', fun x => ?_⟩ (by simp only [nAt]; omega)
  ·rw [profN_succ, iw_append]; exact hs'
  ·rw [hm']
   show _ ↔ x ∈ Tab.given n (cur n ord L k) (ord.getD k 0)
   rw [Tab.mem_given]
   constructor
   ·rintro ⟨t, h1, h2⟩; exact ⟨t, (hm t).1 h1, h2⟩
   ·rintro ⟨t, h1, h2⟩; exact ⟨t, (hm t).2 h1, h2⟩
 ·obtain rfl : k = n := by omega
  refine PxR.mk (.app (.cons (.app (.refl _)))) ⟨_, rfl, hs.ints.mono fun _ h => List.mem_append_left _ h⟩
theorem size_ok {B : Hp} {v o : Value} {n : Nat} {L : List (List Nat)} {ord : List Nat} (ht : Tbls B v (L.map fun ws => ⟨n, ws⟩)) (hf : ∀ ws ∈ L, Tab.Frm n ws) (hne : L ≠ []) (hmax : L.length < 1048576) (ho : Ints .i64 B o (iw ord)) (hol : ord.length = n) (hA : allIn (iw ord)) :
  Px Tryz.prog 130 #[v, o] B (fun r H => r = .tuple #[.int .i64 ((sizeN n ord L n : Nat) : Int), .int .i64 0]) := by
 obtain ⟨w0, hw0⟩ : ∃ w0, L[0]? = some w0 := ⟨_, List.getElem?_eq_getElem (List.length_pos_iff.2 hne)⟩
 have hn16 : n ≤ 16 := (hf w0 (List.mem_of_getElem? hw0)).n16
 intro g
 refine L130_sound (R := FnR _) ?_
 unfold L130
 refine CallF.px .here (profile_ok ht hf hne hmax ho hol hA) ?_
 rintro w N ⟨s, rfl, hs⟩
 refine Ext.mk rfl (Ext.mk rfl ?_)
 refine hs.lenS ?_
 have hpl : ∀ k, (profN n ord L k).length = k := fun k => by simp [profN]
 rw [iw_length, hpl]
 refine ⟨fun vs H => ∃ k : Nat, vs = [.int .i64 ((sizeN n ord L k : Nat) : Int), .int .i64 (k : Int)] ∧ k ≤ n ∧ H = N ++ B, fun vs _ => n - nAt vs 1, JE.mk ⟨0, rfl, by omega, rfl⟩, ?_⟩
 rintro w10 w11 H ⟨k, hv, hk, rfl⟩ gs
 simp only [List.cons.injEq, and_true] at hv
 obtain ⟨rfl, rfl⟩ := hv
 refine Bin.ltN (Br.dec (fun hlt => ?_) (fun hlt => ?_))
 ·have hg : (profN n ord L n)[k]? = some (levN n ord L k).length := by
   unfold profN
   rw [List.getElem?_map, List.getElem?_range hlt]; rfl
  refine hs.ld (n := (((levN n ord L k).length : Nat) : Int)) (iw_get hg) (fun _ h => h) ?_
  have hsz : ∀ m, m ≤ 16 → sizeN n ord L m ≤ 65536 * 1048576 := fun m hm => by
   have := sizeN_le2 n ord L m
   have h2 : 2 ^ m * L.length ≤ 65536 * 1048576 := Nat.mul_le_mul (Nat.le_trans (Nat.pow_le_pow_right (by decide) hm) (by decide)) (by omega)
   omega
  have h1 := hsz (k + 1) (by omega)
  have e1 : sizeN n ord L (k + 1) = sizeN n ord L k + (levN n ord L k).length := rfl
  refine Bin.addN (by simp [lim]; omega) ?_
  refine Bin.addN (b := 1) (by simp [lim]; omega) ?_
  exact Back.mk ⟨k + 1, rfl, by omega, rfl⟩ (by simp only [nAt]; omega)
 ·obtain rfl : k = n := by omega
  exact PxR.mk (.app (.refl _)) rfl
end Go.Proofs
namespace Go.Sx
open Go
section
variable {P : Program} {g : Gh} {H : Hp}
theorem BuildSl.pairs2 {t e : TypeId} {z : Value} {a b c d : Value} {K : Value → Hp → Prop} (h1 : P.underlying t = some (.slice e)) (h2 : sizeD P e = some 2) (h3 : zeroD P e = some z)
  (h : ∀ x, K (.slice (some ⟨x, 0, Option.none⟩) 2 2) ((x, .cells (rows [[a, b], [c, d]]) e (0, 0)) :: H)) : BuildSl P t 2 [(0, .agg #[a, b]), (1, .agg #[c, d])] H K := by
 refine ⟨rows [[a, b], [c, d]], e, 2, z, h1, h2, h3, by decide, ?_, fun b _ => h b⟩
 have e1 : Array.range (2 * 2) = #[0, 1, 2, 3] := rfl
 simp [Instr.fill, Value.cells, rows, e1]
theorem BuildSl.pairs3 {t e : TypeId} {z : Value} {a b c d x y : Value} {K : Value → Hp → Prop} (h1 : P.underlying t = some (.slice e)) (h2 : sizeD P e = some 2) (h3 : zeroD P e = some z)
  (h : ∀ u, K (.slice (some ⟨u, 0, Option.none⟩) 3 3) ((u, .cells (rows [[a, b], [c, d], [x, y]]) e (0, 0)) :: H)) : BuildSl P t 3 [(0, .agg #[a, b]), (1, .agg #[c, d]), (2, .agg #[x, y])] H K := by
 refine ⟨rows [[a, b], [c, d], [x, y]], e, 2, z, h1, h2, h3, by decide, ?_, fun b _ => h b⟩
 have e1 : Array.range (3 * 2) = #[0, 1, 2, 3, 4, 5] := rfl
 simp [Instr.fill, Value.cells, rows, e1]
theorem BuildSl.ints4 {t e : TypeId} {kd : IntKind} {x y z u : Int} {K : Value → Hp → Prop} (h1 : P.underlying t = some (.slice e)) (h2 : sizeD P e = some 1) (h3 : zeroD P e = some (.int kd 0))
  (h : ∀ b, K (.slice (some ⟨b, 0, Option.none⟩) 4 4) ((b, .cells (icells kd [x, y, z, u]) e (0, 0)) :: H)) : BuildSl P t 4 [(0, .int kd x), (1, .int kd y), (2, .int kd z), (3, .int kd u)] H K := by
 refine ⟨icells kd [x, y, z, u], e, 1, _, h1, h2, h3, by decide, ?_, fun b _ => h b⟩
 have e1 : Array.range (4 * 1) = #[0, 1, 2, 3] := rfl
 simp [Instr.fill, Value.cells, icells, e1]
theorem SOwn.made {T : TypeId} {k b : Nat} (rs : List (List Value)) (h : ∀ r ∈ rs, r.length = k) : SOwn T k (.slice (some ⟨b, 0, none⟩) rs.length rs.length) rs [(b, .cells (rows rs) T (0, 0))] :=
 .inr ⟨b, [], by simp, by simp, by simpa using h⟩
end
end Go.Sx
namespace Bdd
open Tab
variable {n : Nat} {F : Nat → Nat} {ws us rs : List Nat}
def laidT (n : Nat) (F : Nat → Nat) : List Nat := (List.range (wN n)).map fun i => F i &&& fullN n
theorem laidT_frm (hn : n ≤ 16) : Frm n (laidT n F) := by
  refine ⟨hn, by simp [laidT], fun w hw => ?_⟩
  obtain ⟨i, _, rfl⟩ := List.mem_map.1 hw
  exact Nat.and_le_right
theorem laidT_bit {x : Nat} (hx : x < 2 ^ n) : bit (laidT n F) x = (F (x / 64)).testBit (x % 64) := by
  have hi := lt_words hx
  unfold bit
  have hget : (laidT n F).getD (x / 64) 0 = F (x / 64) &&& fullN n := by simp [laidT, hi]
  rw [hget, Nat.testBit_and, testBit_full]
  have hfb : decide (x % 64 < if 6 ≤ n then 64 else 2 ^ n) = true := by
    rw [decide_eq_true_eq]
    split
    · exact Nat.mod_lt _ (by decide)
    · have h1 : 2 ^ n ≤ 32 := Nat.pow_le_pow_right (n := 2) (by decide) (by omega : n ≤ 5)
      omega
  rw [hfb, Bool.and_true]
theorem fnT_laid {f : Fn} (h : ∀ x, x < 2 ^ n → (F (x / 64)).testBit (x % 64) = f x) (hf : ∀ x, f (x % 2 ^ n) = f x) : fnT n (laidT n F) = f := by
  funext x
  unfold fnT
  have hx : x % 2 ^ n < 2 ^ n := Nat.mod_lt _ (Nat.two_pow_pos n)
  rw [laidT_bit hx, h _ hx, hf]
theorem fnT_mod (x : Nat) : fnT n ws (x % 2 ^ n) = fnT n ws x := by unfold fnT; rw [Nat.mod_mod]
theorem word_bit {x : Nat} (hx : x < 2 ^ n) : (ws.getD (x / 64) 0).testBit (x % 64) = fnT n ws x := by
  unfold fnT bit; rw [Nat.mod_eq_of_lt hx]
theorem ones_bit {j : Nat} (hj : j < 64) : (18446744073709551615 : Nat).testBit j = true := by
  have : (18446744073709551615 : Nat) = 2 ^ 64 - 1 := by decide
  rw [this, Nat.testBit_two_pow_sub_one]; simpa using hj
theorem not_bit {w j : Nat} (hw : w < 18446744073709551616) (hj : j < 64) : (18446744073709551615 - w).testBit j = !w.testBit j := by
  have e : (18446744073709551615 - w) = 2 ^ 64 - (w + 1) := by have : (2 : Nat) ^ 64 = 18446744073709551616 := by decide
                                                               omega
  rw [e, Nat.testBit_two_pow_sub_succ (by have : (2 : Nat) ^ 64 = 18446744073709551616 := by decide
                                          omega)]
  simp [hj]
end Bdd
set_option maxRecDepth 100000
namespace Go.Proofs
open Go Go.Sx
open Bdd
section
variable {B : Hp}
def TabF (B : Hp) (v : Value) (n : Nat) (f : Bdd.Fn) : Prop := ∃ ws, Tbl B v ⟨n, ws⟩ ∧ Tab.Frm n ws ∧ fnT n ws = f
theorem TabF.mono {B B' : Hp} {v : Value} {n : Nat} {f : Bdd.Fn} (h : TabF B v n f) (hs : ∀ x ∈ B, x ∈ B') : TabF B' v n f := let ⟨ws, h1, h2, h3⟩ := h; ⟨ws, h1.mono hs, h2, h3⟩
theorem count_ok {n : Nat} (hn : n ≤ 16) (B : Hp) : Rd Tryz.prog 161 #[.int .i64 (n : Int)] B (· = .int .i64 0) := by
 intro g
 refine L161_sound (R := FnR _) ?_
 unfold L161
 exact Bin.lss (Br.decF (by omega) (Bin.gtN (b := 16) (Br.decF (by omega) (RdR.mk (.refl _) rfl))))
theorem tconst1_ok {b : Bool} {p : Value} {i : Int} (hb : Go.Sx.At B p [.bool b]) : Rd Tryz.prog 163 #[.int .i64 i, p] B (· = .int .u64 (((if b then 18446744073709551615 else 0 : Nat)) : Int)) := by
 intro g
 refine L163_sound (R := FnR _) ?_
 unfold L163
 refine Ld.at hb (fun _ h => h) ?_
 cases b
 ·exact Br.no (RdR.mk (.refl _) rfl)
 ·exact Br.yes (RdR.mk (.refl _) rfl)
theorem tconst_ok {n : Nat} (hn : n ≤ 16) (b : Bool) (B : Hp) : Px Tryz.prog 131 #[.int .i64 (n : Int), .bool b] B (fun r H => ∃ v, r = .tuple #[v, .int .i64 0] ∧ TabF H v n (fun _ => b)) := by
 intro g
 refine L131_sound (R := FnR _) ?_
 unfold L131
 intro b1 _ b3 _
 refine CallF.rd .here (count_ok hn _) ?_
 rintro w rfl
 refine Bin.neD (Br.decF (by decide) ?_)
 refine CallF.px (.cons .here) (laid_ok hn rfl (by kernel_rfl) (F := fun _ => if b then 18446744073709551615 else 0) (fun i _ => by cases b <;> decide) (B := (b1, .cells #[.bool b] 4 (0, 0)) :: B) fun i _ => tconst1_ok (Go.Sx.At.block (l := [.bool b]) (by repeat (first | assumption | exact List.Mem.head _ | apply List.Mem.tail | apply List.mem_append_right)))) ?_
 rintro v N ⟨s, rfl, hw⟩
 refine St.whole (r := [.int .i64 (n : Int), s]) (by exact .head _) rfl rfl ?_ ?_
 ·have := oneCell_words hw; simpa [Value.oneCell'] using this
 refine LdA.whole (r := [.int .i64 (n : Int), s]) (by exact .head _) rfl ?_
 refine PxR.mk (by repeat (first | exact Grow.refl _ | apply Grow.cons | apply Grow.app)) ⟨_, rfl, _, ⟨s, rfl, hw.mono (fun _ h => by repeat (first | exact h | apply List.mem_cons_of_mem | apply List.mem_append_right))⟩, laidT_frm hn, fnT_laid (fun x hx => ?_) (fun x => rfl)⟩
 cases b
 ·exact Nat.zero_testBit _
 ·exact ones_bit (Nat.mod_lt _ (by decide))
theorem tvar1_ok {v i : Nat} {p : Value} (hv : v < 64) (hi : i < 9223372036854775808) (hb : Go.Sx.At B p [.int .i64 (v : Int)]) : Rd Tryz.prog 170 #[.int .i64 (i : Int), p] B (· = .int .u64 ((if 6 ≤ v then (if (i >>> (v - 6)).testBit 0 then 18446744073709551615 else 0) else Tab.mask v : Nat) : Int)) := by
 intro g
 refine L170_sound (R := FnR _) ?_
 unfold L170
 refine Ld.at hb (fun _ h => h) ?_
 refine CallF.rd .here (column_ok hv (by omega) hi B) ?_
 rintro w rfl
 exact RdR.mk (.refl _) rfl
theorem tvar_ok {n v : Nat} (hn : n ≤ 16) (hv : v < n) (B : Hp) : Px Tryz.prog 146 #[.int .i64 (n : Int), .int .i64 (v : Int)] B (fun r H => ∃ t, r = .tuple #[t, .int .i64 0] ∧ TabF H t n (fun x => x.testBit v)) := by
 intro g
 refine L146_sound (R := FnR _) ?_
 unfold L146
 intro b1 _ b3 _
 refine CallF.rd .here (count_ok hn _) ?_
 rintro w rfl
 refine Bin.neD (Br.decF (by decide) ?_)
 refine Ld.mk (v := .int .i64 (v : Int)) (by exact .tail _ (.head _)) rfl ?_
 refine Bin.lss ?_
 rw [decide_eq_false (by omega)]
 refine Grp.or (a := false) false (fun _ => ?_) rfl fun gs => Br.no ?_
 ·refine Ld.mk (v := .int .i64 (v : Int)) (by exact .tail _ (.head _)) rfl ?_
  exact Bin.geN ⟨rfl, by rw [decide_eq_false (by omega)]⟩
 have hwl := Tab.wN_le hn
 refine CallF.px (.cons .here) (laid_ok hn rfl (by kernel_rfl) (F := fun i => if 6 ≤ v then (if (i >>> (v - 6)).testBit 0 then 18446744073709551615 else 0) else Tab.mask v) (fun i _ => by
  have := Tab.mask_lt v
  split
  ·split <;> decide
  ·exact this) (B := (b1, .cells #[.int .i64 (v : Int)] 3 (0, 0)) :: B) fun i hi => tvar1_ok (by omega) (by omega) (Go.Sx.At.block (l := [.int .i64 (v : Int)]) (by repeat (first | assumption | exact List.Mem.head _ | apply List.Mem.tail | apply List.mem_append_right)))) ?_
 rintro w N ⟨s, rfl, hw⟩
 refine St.whole (r := [.int .i64 (n : Int), s]) (by exact .head _) rfl rfl ?_ ?_
 ·have := oneCell_words hw; simpa [Value.oneCell'] using this
 refine LdA.whole (r := [.int .i64 (n : Int), s]) (by exact .head _) rfl ?_
 refine PxR.mk (by repeat (first | exact Grow.refl _ | apply Grow.cons | apply Grow.app)) ⟨_, rfl, _, ⟨s, rfl, hw.mono (fun _ h => by repeat (first | exact h | apply List.mem_cons_of_mem | apply List.mem_append_right))⟩, laidT_frm hn, fnT_laid (fun x hx => ?_) (fun x => ?_)⟩
 ·have hj : x % 64 < 64 := Nat.mod_lt _ (by decide)
  have hx64 : x = 64 * (x / 64) + x % 64 := by omega
  by_cases h6 : 6 ≤ v
  ·rw [if_pos h6]
   have e : x.testBit v = ((x / 64) >>> (v - 6)).testBit 0 := by
    rw [Nat.testBit_shiftRight, Nat.add_zero]
    have := Nat.testBit_div_two_pow (n := 6) x (v - 6)
    rw [show (2 : Nat) ^ 6 = 64 from rfl] at this
    rw [this]; congr 1; omega
   rw [e]
   cases ((x / 64) >>> (v - 6)).testBit 0
   ·exact Nat.zero_testBit _
   ·exact ones_bit hj
  ·rw [if_neg h6, Tab.testBit_mask]
   have := Nat.testBit_mod_two_pow x 6 v
   rw [show (2 : Nat) ^ 6 = 64 from rfl] at this
   rw [this]
   simp [hj]; omega
 ·rw [Nat.testBit_mod_two_pow]; simp [hv]
end
end Go.Proofs
