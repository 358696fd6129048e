import Derived.Test.YtilnmikgcbcmcaaGreatG3
import Derived.Test.YtilnmikgcbcmcaaGreatG2
import Derived.RangeFuncIn
import Derived.RangeFuncLeaves
import Derived.RangeFuncRecord
import Derived.RangeFuncSeq
set_option linter.unusedVariables false
set_option linter.unusedSimpArgs false
set_option linter.unusedSectionVars false
set_option maxRecDepth 100000
namespace Go.Proofs
open Go Go.Sx
open Bdd
structure KBs where
 pa : Nat
 pt : Nat
 vu : Value
 vh : Value
 vo : Value
 vl : Value
 vt : Value
 CA : Hp
 CT : Hp
 CU : Hp
 CH : Hp
 CO : Hp
 CL : Hp
 CR : Hp
def KBs.cells (b : KBs) (n : Nat) : Array Value := #[ptr b.pa, ptr b.pt, b.vu, b.vh, .int .i64 (n : Int), b.vo, b.vl, b.vt]
def KBs.hp (b : KBs) (kp n : Nat) : Hp := (kp, .cells (b.cells n) 96 (0, 0)) :: (b.CA ++ (b.CT ++ (b.CU ++ (b.CH ++ (b.CO ++ (b.CL ++ b.CR))))))
structure KOwn (b : KBs) (K : Kd) (ord lev tr : List Nat) : Prop where
 ar : ArRep b.pa K.cap K.used K.N b.CA
 ut : UtRep b.pt K.n K.T b.CT
 us : IOwn 21 .i32 b.vu (iw K.us) b.CU
 ho : IOwn 21 .i32 b.vh (iw K.ho) b.CH
 od : IOwn 3 .i64 b.vo (iw ord) b.CO
 lv : IOwn 3 .i64 b.vl (iw lev) b.CL
 tr : IOwn 3 .i64 b.vt (iw tr) b.CR
 ul : K.us.length = K.ho.length ∧ K.us.length ≤ 1048576
 n64 : K.n ≤ 64
 ol : ord.length = K.n ∧ lev.length = K.n
def KRep (kp : Nat) (K : Kd) (ord lev tr : List Nat) (C : Hp) : Prop := ∃ b : KBs, C = b.hp kp K.n ∧ KOwn b K ord lev tr
section
variable {kp : Nat} {K : Kd} {ord lev tr : List Nat} {C : Hp}
theorem KRep.cap (h : KRep kp K ord lev tr C) : K.cap ≤ 1048576 := by
 obtain ⟨b, rfl, hb⟩ := h
 exact (hb.ar.lt (r := 0) (.inl (by decide))).2
theorem KRep.lt (h : KRep kp K ord lev tr C) {r : Nat} (hr : live K.N r) : r < 1048576 := by
 obtain ⟨b, rfl, hb⟩ := h
 have := hb.ar.lt hr
 omega
theorem got_one (N : Sto) (r : Nat) : (got N r).length = 3 ∧ ∀ x ∈ got N r, x.oneCell' = true := by
 unfold got
 split
 ·exact ⟨rfl, by intro x hx; simp [u32] at hx; rcases hx with rfl | rfl | rfl <;> rfl⟩
 ·split
  ·exact ⟨rfl, by intro x hx; simp [nrow, u32] at hx; rcases hx with rfl | rfl | rfl <;> rfl⟩
  ·exact ⟨rfl, by intro x hx; simp [u32] at hx; rcases hx with rfl | rfl | rfl <;> rfl⟩
theorem klive_ok (h : KRep kp K ord lev tr C) {r : Nat} (hr : r < 4294967296) : Rd Tryz.prog 97 #[ptr kp, u32 r] C (· = .bool (liveB K.N r)) := by
 obtain ⟨b, rfl, hb⟩ := h
 intro g
 refine L97_sound (R := FnR _) ?_
 unfold L97
 refine Nil.ptr ?_
 refine FAddr.mk (Ld.mk (v := ptr b.pa) (by exact .head _) rfl ?_)
 refine CallF.rd (.cons .left) (get_ok hb.ar hr) ?_
 rintro v rfl
 refine Ext.mk rfl (Ext.mk rfl ?_)
 intro b8 _
 refine St.whole (r := got K.N r) (by exact .head _) rfl (got_one _ _).1 (got_one _ _).2 ?_
 refine Bin.eqD ?_
 refine RdR.mk .tail ?_
 cases liveB K.N r <;> rfl
theorem knode_ok (h : KRep kp K ord lev tr C) {r : Nat} (hr : r < 4294967296) : Rd Tryz.prog 104 #[ptr kp, u32 r] C (· = .agg (got K.N r).toArray) := by
 obtain ⟨b, rfl, hb⟩ := h
 intro g
 refine L104_sound (R := FnR _) ?_
 unfold L104
 intro b1 _
 refine Nil.ptr ?_
 refine FAddr.mk (Ld.mk (v := ptr b.pa) (by exact .tail _ (.head _)) rfl ?_)
 refine CallF.rd (.cons (.cons .left)) (get_ok hb.ar hr) ?_
 rintro v rfl
 refine Ext.mk rfl (Ext.mk rfl ?_)
 intro b10 _
 refine St.whole (r := got K.N r) (by exact .head _) rfl (got_one _ _).1 (got_one _ _).2 ?_
 refine LdA.whole (r := got K.N r) (by exact .head _) (got_one _ _).1 ?_
 refine St.whole (r := got K.N r) (by exact .tail (.head _)) rfl (got_one _ _).1 (got_one _ _).2 ?_
 refine LdA.whole (r := got K.N r) (by exact .tail _ (.head _)) (got_one _ _).1 ?_
 exact RdR.mk (.skip .tail) rfl
theorem kroom_ok (h : KRep kp K ord lev tr C) {m : Nat} (hm : m ≤ 1099511627776) (hu : K.used ≤ 1048576) : Rd Tryz.prog 49 #[ptr kp, .int .i64 (m : Int)] C (· = .bool (decide (K.used + m ≤ K.cap))) := by
 obtain ⟨b, rfl, hb⟩ := h
 intro g
 refine L49_sound (R := FnR _) ?_
 unfold L49
 refine DR.self ?_
 refine Nil.ptr ?_
 refine FAddr.mk (Ld.mk (v := ptr b.pa) (by exact .head _) rfl ?_)
 refine Nil.ptr ?_
 refine FAddr.mk (Ld.mk (v := ptr b.pa) (by exact .head _) rfl ?_)
 refine CallF.rd (.cons .left) (aused_ok hb.ar) ?_
 rintro v rfl
 refine ⟨.refl _, ?_⟩
 refine Bin.addN (by simp [lim]; omega) ?_
 refine CallF.rd (.cons .left) (aplaces_ok hb.ar) ?_
 rintro v rfl
 refine ⟨.refl _, ?_⟩
 refine Bin.leN ?_
 exact RdR.mk (.refl _) rfl
def usS (K : Kd) (r : Nat) : List Nat := if r < 2 then K.us else K.us.set r (K.use r + 1)
theorem usS_len (r : Nat) : (usS K r).length = K.us.length := by unfold usS; split <;> simp
theorem usS_same {r : Nat} (h2 : 2 ≤ r) (hr : r < K.us.length) : (usS K r).getD r 0 = K.use r + 1 := by
 unfold usS; rw [if_neg (by omega)]; simp [List.getD, hr]
theorem usS_ne {r s : Nat} (h : s ≠ r) : (usS K r).getD s 0 = K.use s := by
 unfold usS Kd.use
 split
 ·rfl
 ·simp [List.getD, List.getElem?_set_ne (Ne.symm h)]
theorem use_ok (h : KRep kp K ord lev tr C) {r : Nat} (hr : r < 2 ∨ r < K.us.length) (hb : K.use r + 1 < 2147483648) :
  Fc Tryz.prog 102 #[ptr kp, u32 r] C (fun v C' => v = .tuple #[] ∧ KRep kp { K with us := usS K r } ord lev tr C') := by
 obtain ⟨b, rfl, hO⟩ := h
 intro g
 refine L102_sound (R := FnR _) ?_
 unfold L102
 refine Bin.gtN (b := 1) (Br.dec (fun h1 => ?_) (fun h1 => ?_))
 ·have hr' : r < K.us.length := by omega
  refine Nil.ptr ?_
  refine FAddr.mk (Ld.mk (v := b.vu) (by exact .head _) rfl ?_)
  refine hO.us.ld (x := ((K.use r : Nat) : Int)) (iw_getD hr') (Hole.sub (.cons (.app (.app .left)))) ?_
  refine Bin.addN (b := 1) (by simp [lim]; omega) ?_
  refine hO.us.putH (.cons (.app (.app .left))) (by simpa using hr') fun C' ho => ?_
  refine FnR.here ⟨rfl, { b with CU := C' }, rfl, ?_⟩
  have e : usS K r = K.us.set r (K.use r + 1) := by unfold usS; rw [if_neg (by omega)]
  exact { hO with us := by rw [iw_set] at ho; rw [e]; exact ho, ul := by simp only [e, List.length_set]; exact hO.ul }
 ·refine FnR.here ⟨rfl, b, rfl, ?_⟩
  have e : usS K r = K.us := by unfold usS; rw [if_pos (by omega)]
  rw [e]; exact hO
end
end Go.Proofs
set_option maxRecDepth 100000
namespace Go.Proofs
open Go Go.Sx
open Bdd
section
variable {kp : Nat} {K : Kd} {ord lev tr : List Nat} {C : Hp}
theorem getD_set {l : List Nat} {r s x : Nat} (hr : r < l.length) : (l.set r x).getD s 0 = if s = r then x else l.getD s 0 := by
 simp only [List.getD, List.getElem?_set]
 by_cases e : r = s
 ·subst e; simp [hr]
 ·rw [if_neg e, if_neg (Ne.symm e)]
theorem getD_snoc0 (l : List Nat) (s : Nat) : (l ++ [0]).getD s 0 = l.getD s 0 := by
 simp only [List.getD, List.getElem?_append]
 split
 ·rfl
 ·rename_i h
  rw [List.getElem?_eq_none (by omega : l.length ≤ s)]
  cases hs : s - l.length <;> simp [hs]
def usLen : Hp → Nat
 | _ :: (_, Obj.cells c _ _) :: _ => (match c[2]? with | some (Value.slice _ n _) => n | _ => 0)
 | _ => 0
theorem usLen_hp {b : KBs} {x : Nat × Obj} {n m : Nat} {a : Option Addr} {cp : Nat} (h : b.vu = .slice a m cp) : usLen (x :: b.hp kp n) = m := by simp [usLen, KBs.hp, KBs.cells, h]
theorem take_ok (h : KRep kp K ord lev tr C) {d : Nd} (hd : NOk K.N d) (hv : d.v < K.n) (hT : K.T d = none) (hroom : K.used < K.cap) (hlo : d.lo < 2 ∨ d.lo < K.us.length) (hhi : d.hi < 2 ∨ d.hi < K.us.length)
  (hb : ∀ s, K.use s + 2 < 2147483648) :
  Fc Tryz.prog 50 #[ptr kp, nK d] C (fun v C' => ∃ r us' ho', v = u32 r ∧ K.N r = none ∧ 2 ≤ r ∧ r < K.cap ∧ us'.length = ho'.length ∧ r < us'.length ∧ K.us.length ≤ us'.length ∧ us'.getD r 0 = 0 ∧
   (∀ s, 2 ≤ s → s ≠ r → us'.getD s 0 = K.use s + e1 (some d) s) ∧ (∀ s, s < 2 → us'.getD s 0 = K.use s) ∧ ho'.getD r 0 = 0 ∧ (∀ s, s ≠ r → ho'.getD s 0 = K.hold s) ∧
   KRep kp { K with N := up K.N r (some d), T := upT K.T d (some r), used := K.used + 1, us := us', ho := ho' } ord lev tr C') := by
 have hcap := h.cap
 obtain ⟨b, rfl, hO⟩ := h
 have hul := hO.ul
 intro g
 refine L50_sound (R := FnR _) ?_
 unfold L50
 intro b1 _
 refine DR.of (R := (b1, .cells (Value.cells (nK d)) 103 (0, 0)) :: (kp, .cells (b.cells K.n) 96 (0, 0)) :: []) (.cons (.cons .nil)) ?_
 refine Nil.ptr ?_
 refine FAddr.mk (Ld.mk (v := ptr b.pa) (by exact .tail _ (.head _)) rfl ?_)
 refine LdA.whole (r := nrow d) (by exact .head _) rfl ?_
 refine CallF.fn (.cons (.cons .left)) (alloc_ok hO.ar hd hroom) ?_
 rintro v CA' ⟨r, rfl, h2, hrc, hN, har⟩
 refine ⟨.cons (.cons .nil), Ext.mk rfl (Ext.mk rfl ?_)⟩
 refine ⟨fun _ H => ∃ (b' : KBs) (us' ho' : List Nat), H = (b1, .cells (Value.cells (nK d)) 103 (0, 0)) :: b'.hp kp K.n ∧ KOwn b' { K with N := up K.N r (some d), used := K.used + 1, us := us', ho := ho' } ord lev tr ∧
   K.us.length ≤ us'.length ∧ (∀ s, us'.getD s 0 = K.use s) ∧ ∀ s, ho'.getD s 0 = K.hold s,
  fun _ H => r + 1 - usLen H, JE.mk ⟨{ b with CA := CA' }, K.us, K.ho, rfl, { hO with ar := har, ul := hul }, Nat.le_refl _, fun _ => rfl, fun _ => rfl⟩, ?_⟩
 rintro H ⟨b', us', ho', rfl, hO', hle, hu, hh⟩ gs
 have hul' := hO'.ul
 simp only at hul'
 refine ConvI.nat (by simp [lim]; omega) (Nil.ptr ?_)
 refine FAddr.mk (Ld.mk (v := b'.vu) (by exact .tail _ (.head _)) rfl ?_)
 refine hO'.us.lenS ?_
 rw [iw_length]
 refine Bin.geN (Br.dec (fun hge => ?_) (fun hge => ?_))
 ·have hge : us'.length ≤ r := hge
  refine Nil.ptr ?_
  refine FAddr.mk (Ld.mk (v := b'.vu) (by exact .tail _ (.head _)) rfl ?_)
  refine BuildSl.int (e := 21) (by kernel_rfl) (by kernel_rfl) (by kernel_rfl) fun bx => ?_
  refine hO'.us.appH (.cons (.cons (.cons (.app (.app .left))))) (by exact .head _) (by simp; omega) (by simp; omega) fun vu' CU' hu' => ?_
  refine Nil.ptr (FAddr.mk ?_)
  refine St.one (by exact .tail (.tail (.head _))) hu'.one (by simp [KBs.cells]) rfl ?_
  refine Nil.ptr ?_
  refine FAddr.mk (Ld.mk (v := b'.vh) (by exact .tail _ (.tail _ (.head _))) rfl ?_)
  refine BuildSl.int (e := 21) (by kernel_rfl) (by kernel_rfl) (by kernel_rfl) fun by' => ?_
  refine hO'.ho.appH (.cons (.cons (.cons (.cons (.app (.app (.app .left))))))) (by exact .head _) (by simp; omega) (by simp; omega) fun vh' CH' hh' => ?_
  refine Nil.ptr (FAddr.mk ?_)
  refine St.one (by exact .tail (.tail (.tail (.head _)))) hh'.one (by simp [KBs.cells]) rfl ?_
  have e0 : ∀ l : List Nat, iw l ++ [0] = iw (l ++ [0]) := fun l => by rw [iw_append]; rfl
  rw [e0] at hu' hh'
  refine Back.of (.skip (.skip (.refl _))) ⟨{ b' with vu := vu', vh := vh', CU := CU', CH := CH' }, us' ++ [0], ho' ++ [0], rfl, { hO' with us := hu', ho := hh', ul := by simp at hul' ⊢; omega }, by simp; omega, fun s => by rw [getD_snoc0, hu], fun s => by rw [getD_snoc0, hh]⟩ ?_
  obtain ⟨a1, c1, e1⟩ := SOwn.len hO'.us
  obtain ⟨a2, c2, e2⟩ := SOwn.len hu'
  have f1 := usLen_hp (b := b') (x := (b1, .cells (Value.cells (nK d)) 103 (0, 0))) (kp := kp) (n := K.n) e1
  have f2 := usLen_hp (b := { b' with vu := vu', vh := vh', CU := CU', CH := CH' }) (x := (b1, .cells (Value.cells (nK d)) 103 (0, 0))) (kp := kp) (n := K.n) e2
  rw [f1]
  refine Nat.lt_of_le_of_lt (Nat.le_of_eq (congrArg (fun z => r + 1 - z) f2)) ?_
  simp
  omega
 ·have hge : ¬ us'.length ≤ r := hge
  have hr1 : r < us'.length := by omega
  have hr2 : r < ho'.length := by omega
  refine DR.of (R := (kp, .cells (b'.cells K.n) 96 (0, 0)) :: []) (.skip (.cons .nil)) ?_
  refine Nil.ptr ?_
  refine FAddr.mk (Ld.mk (v := b'.vu) (by exact .head _) rfl ?_)
  refine Nil.ptr ?_
  refine FAddr.mk (Ld.mk (v := b'.vh) (by exact .head _) rfl ?_)
  refine hO'.us.putH (x := 0) (.cons (.cons (.app (.app .left)))) (by simpa using hr1) fun CU' hu' => ?_
  refine hO'.ho.putH (x := 0) (.cons (.cons (.app (.app (.app .left))))) (by simpa using hr2) fun CH' hh' => ?_
  have e0 : ∀ l : List Nat, (iw l).set r 0 = iw (l.set r 0) := fun l => iw_set l r 0
  rw [e0] at hu' hh'
  have lor : d.lo ≠ r := live_ne hd.lo h2 hN
  have hir : d.hi ≠ r := live_ne hd.hi h2 hN
  refine FAddr.mk (Ld.mk (v := u32 d.lo) (by exact .head _) rfl ?_)
  have u0 : ∀ s, (us'.set r 0).getD s 0 = if s = r then 0 else K.use s := fun s => by rw [getD_set hr1]; split; rfl; exact hu s
  have h0 : ∀ s, (ho'.set r 0).getD s 0 = if s = r then 0 else K.hold s := fun s => by rw [getD_set hr2]; split; rfl; exact hh s
  have hK1 : KRep kp { K with N := up K.N r (some d), used := K.used + 1, us := us'.set r 0, ho := ho'.set r 0 } ord lev tr (({ b' with CU := CU', CH := CH' } : KBs).hp kp K.n) := ⟨_, rfl, { hO' with us := hu', ho := hh', ul := by simp; omega }⟩
  refine CallF.fn (.cons .here) (use_ok hK1 (by simp; omega) (by have := hb d.lo; show (us'.set r 0).getD d.lo 0 + 1 < _; rw [u0, if_neg lor]; omega)) ?_
  rintro v C1 ⟨rfl, hK2⟩
  refine FAddr.mk (Ld.mk (v := u32 d.hi) (by exact .head _) rfl ?_)
  have u1 : ∀ s, (usS { K with N := up K.N r (some d), used := K.used + 1, us := us'.set r 0, ho := ho'.set r 0 } d.lo).getD s 0 = (if s = r then 0 else K.use s) + (if 2 ≤ s ∧ s = d.lo then 1 else 0) := fun s => by
   by_cases e : s = d.lo
   ·by_cases h2 : 2 ≤ s
    ·rw [if_pos (show 2 ≤ s ∧ s = d.lo from ⟨h2, e⟩), e, usS_same (by omega) (by simp; omega)]
     show (us'.set r 0).getD d.lo 0 + 1 = _
     rw [u0]
    ·rw [if_neg (show ¬ (2 ≤ s ∧ s = d.lo) by omega)]
     unfold usS
     rw [if_pos (by omega)]
     show (us'.set r 0).getD s 0 = _
     rw [u0]; rfl
   ·rw [if_neg (show ¬ (2 ≤ s ∧ s = d.lo) by omega), usS_ne e]
    show (us'.set r 0).getD s 0 = _
    rw [u0]; rfl
  refine CallF.fn (.cons .here) (use_ok hK2 (by rw [usS_len]; simp; omega) (by
   have := hb d.hi
   show (usS _ d.lo).getD d.hi 0 + 1 < _
   rw [u1, if_neg hir]; split <;> omega)) ?_
  rintro v C2 ⟨rfl, hK3⟩
  have hK30 := hK3
  obtain ⟨b3, rfl, hO3⟩ := hK3
  refine DR.self ?_
  refine Nil.ptr ?_
  refine FAddr.mk (Ld.mk (v := ptr b3.pt) (by exact .tail _ (.head _)) rfl ?_)
  refine LdA.whole (r := nrow d) (by exact .head _) rfl ?_
  refine CallF.fn (.cons (.cons (.app .left))) (uadd_ok hO3.ut hv hT) ?_
  rintro v CT' ⟨rfl, hut⟩
  have u2 : ∀ s, (usS { K with N := up K.N r (some d), used := K.used + 1, us := usS { K with N := up K.N r (some d), used := K.used + 1, us := us'.set r 0, ho := ho'.set r 0 } d.lo, ho := ho'.set r 0 } d.hi).getD s 0 = (if s = r then 0 else K.use s) + (if 2 ≤ s ∧ s = d.lo then 1 else 0) + (if 2 ≤ s ∧ s = d.hi then 1 else 0) := fun s => by
   by_cases e : s = d.hi
   ·by_cases h2 : 2 ≤ s
    ·rw [if_pos (show 2 ≤ s ∧ s = d.hi from ⟨h2, e⟩), e, usS_same (by omega) (by rw [usS_len]; simp; omega)]
     show (usS _ d.lo).getD d.hi 0 + 1 = _
     rw [u1]
    ·rw [if_neg (show ¬ (2 ≤ s ∧ s = d.hi) by omega)]
     unfold usS
     rw [if_pos (by omega)]
     show (usS _ d.lo).getD s 0 = _
     rw [u1]; rfl
   ·rw [if_neg (show ¬ (2 ≤ s ∧ s = d.hi) by omega), usS_ne e]
    show (usS _ d.lo).getD s 0 = _
    rw [u1]; rfl
  refine FnR.mk .tail ⟨r, _, _, rfl, hN, h2, hrc, ?_, ?_, ?_, ?_, ?_, ?_, ?_, ?_, { b3 with CT := CT' }, rfl, { hO3 with ut := hut }⟩
  ·rw [usS_len, usS_len]; simp; omega
  ·rw [usS_len, usS_len]; simp; omega
  ·rw [usS_len, usS_len]; simp; omega
  ·rw [u2, if_pos rfl, if_neg (show ¬ (2 ≤ r ∧ r = d.lo) by omega), if_neg (show ¬ (2 ≤ r ∧ r = d.hi) by omega)]
  ·intro s h2s hne
   rw [u2, if_neg hne, e1_some]
   have c1 : (2 ≤ s ∧ s = d.lo) ↔ d.lo = s := ⟨fun h => h.2.symm, fun h => ⟨h2s, h.symm⟩⟩
   have c2 : (2 ≤ s ∧ s = d.hi) ↔ d.hi = s := ⟨fun h => h.2.symm, fun h => ⟨h2s, h.symm⟩⟩
   simp only [c1, c2]
   omega
  ·intro s hs
   rw [u2, if_neg (show ¬ s = r by omega), if_neg (show ¬ (2 ≤ s ∧ s = d.lo) by omega), if_neg (show ¬ (2 ≤ s ∧ s = d.hi) by omega)]
   try simp
  ·rw [h0, if_pos rfl]
  ·intro s hne; rw [h0, if_neg hne]
end
end Go.Proofs
set_option maxRecDepth 100000
namespace Go.Proofs
open Go Go.Sx
open Bdd
section
variable {kp : Nat} {K : Kd} {ord lev tr : List Nat} {C : Hp} {S : Nat → Bdd.Fn}
theorem getS_ok (B : Hp) (v : Int) (r : Nat) (kv : Value) : Rd Tryz.prog 128 #[kv, .int .i64 v, u32 r, u32 r] B (· = u32 r) := by
 intro g
 refine L128_sound (R := FnR _) ?_
 unfold L128
 exact Bin.eqN (Br.decT rfl (RdR.mk (.refl _) rfl))
theorem getF_ok (h : KRep kp K ord lev tr C) {v lo hi r : Nat} (hne : lo ≠ hi) (hv : v < K.n) (hT : K.T ⟨v, lo, hi⟩ = some r) :
  Rd Tryz.prog 128 #[ptr kp, .int .i64 (v : Int), u32 lo, u32 hi] C (· = u32 r) := by
 obtain ⟨b, rfl, hO⟩ := h
 intro g
 refine L128_sound (R := FnR _) ?_
 unfold L128
 refine Bin.eqN (Br.decF hne ?_)
 refine Build.mk (cs := nrow ⟨v, lo, hi⟩) (by kernel_rfl) ?_
 intro b3 _
 refine St.whole (r := nrow ⟨v, lo, hi⟩) (by exact .head _) rfl rfl (fun x hx => by simp [nrow, u32] at hx; rcases hx with rfl | rfl | rfl <;> rfl) ?_
 refine DR.self ?_
 refine Nil.ptr ?_
 refine FAddr.mk (Ld.mk (v := ptr b.pt) (by exact .tail _ (.head _)) rfl ?_)
 refine LdA.whole (r := nrow ⟨v, lo, hi⟩) (by exact .head _) rfl ?_
 refine CallF.rd (.cons (.cons (.app .left))) (find_ok (d := ⟨v, lo, hi⟩) hO.ut hv) ?_
 rintro w rfl
 rw [hT]
 exact ⟨.refl _, Ext.mk rfl (Ext.mk rfl (Br.yes (RdR.mk .tail rfl)))⟩
theorem getN_ok (h : KRep kp K ord lev tr C) {d : Nd} (hne : d.lo ≠ d.hi) (hd : NOk K.N d) (hv : d.v < K.n) (hT : K.T d = none) (hroom : K.used < K.cap) (hlo : d.lo < 2 ∨ d.lo < K.us.length) (hhi : d.hi < 2 ∨ d.hi < K.us.length)
  (hb : ∀ s, K.use s + 2 < 2147483648) :
  Fc Tryz.prog 128 #[ptr kp, .int .i64 (d.v : Int), u32 d.lo, u32 d.hi] C (fun v C' => ∃ r us' ho', v = u32 r ∧ K.N r = none ∧ 2 ≤ r ∧ r < K.cap ∧ us'.length = ho'.length ∧ r < us'.length ∧ K.us.length ≤ us'.length ∧ us'.getD r 0 = 0 ∧
   (∀ s, 2 ≤ s → s ≠ r → us'.getD s 0 = K.use s + e1 (some d) s) ∧ (∀ s, s < 2 → us'.getD s 0 = K.use s) ∧ ho'.getD r 0 = 0 ∧ (∀ s, s ≠ r → ho'.getD s 0 = K.hold s) ∧
   KRep kp { K with N := up K.N r (some d), T := upT K.T d (some r), used := K.used + 1, us := us', ho := ho' } ord lev tr C') := by
 have h0 := h
 obtain ⟨b, rfl, hO⟩ := h
 intro g
 refine L128_sound (R := FnR _) ?_
 unfold L128
 refine Bin.eqN (Br.decF hne ?_)
 refine Build.mk (cs := nrow d) (by kernel_rfl) ?_
 intro b3 _
 refine St.whole (r := nrow d) (by exact .head _) rfl rfl (fun x hx => by simp [nrow, u32] at hx; rcases hx with rfl | rfl | rfl <;> rfl) ?_
 refine DR.self ?_
 refine Nil.ptr ?_
 refine FAddr.mk (Ld.mk (v := ptr b.pt) (by exact .tail _ (.head _)) rfl ?_)
 refine LdA.whole (r := nrow d) (by exact .head _) rfl ?_
 refine CallF.rd (.cons (.cons (.app .left))) (find_ok (d := d) hO.ut hv) ?_
 rintro w rfl
 rw [hT]
 refine ⟨.refl _, Ext.mk rfl (Ext.mk rfl (Br.no ?_))⟩
 refine LdA.whole (r := nrow d) (by exact .head _) rfl ?_
 refine CallF.fn (.cons .here) (take_ok h0 hd hv hT hroom hlo hhi hb) ?_
 rintro v C' ⟨r, us', ho', rfl, hh⟩
 exact FnR.mk .tail ⟨r, us', ho', rfl, hh⟩
structure Less (K' K : Kd) : Prop where
 N : ∀ {s d}, K'.N s = some d → K.N s = some d
 n : K'.n = K.n
 cap : K'.cap = K.cap
 ho : K'.ho = K.ho
 us : ∀ s, K'.use s ≤ K.use s
 idle : (∀ s, K.N s = none → K.use s = 0) → ∀ s, K'.N s = none → K'.use s = 0
theorem Less.refl (K : Kd) : Less K K := ⟨fun h => h, rfl, rfl, rfl, fun _ => Nat.le_refl _, fun h => h⟩
theorem Less.trans {A B C : Kd} (h : Less A B) (h' : Less B C) : Less A C := ⟨fun x => h'.N (h.N x), h.n.trans h'.n, h.cap.trans h'.cap, h.ho.trans h'.ho, fun s => Nat.le_trans (h.us s) (h'.us s), fun hi => h.idle (h'.idle hi)⟩
def PL (P : Nat → Nat) (N : Sto) : Prop := ∀ t, 2 ≤ t → 0 < P t → ∃ d, N t = some d
def cntP (P0 : Nat → Nat) (l : List Nat) : Nat → Nat := fun s => P0 s + l.count s
theorem cntP_snoc {P0 : Nat → Nat} {l : List Nat} {t : Nat} : up (cntP P0 (l ++ [t])) t (cntP P0 (l ++ [t]) t - 1) = cntP P0 l := by
 funext s
 unfold up cntP
 split
 ·rename_i e; subst e; simp
 ·rename_i e; simp [List.count_append, List.count_singleton, Ne.symm e]
theorem release_ok {P0 : Nat → Nat} (h : KRep kp K ord lev tr C) {r : Nat} (hm : Mid K S none' (cntP P0 [r])) (hp : Pos K) (hl : PL (cntP P0 [r]) K.N) (hr : r < 1048576) (hbu : ∀ s, K.use s < 2147483648) :
  Fc Tryz.prog 53 #[ptr kp, u32 r] C (fun v C' => v = .tuple #[] ∧ ∃ K', KRep kp K' ord lev tr C' ∧ Mid K' S none' P0 ∧ Pos K' ∧ PL P0 K'.N ∧ Less K' K) := by
 intro g
 refine L53_sound (R := FnR _) ?_
 unfold L53
 refine BuildSl.int (e := 31) (by kernel_rfl) (by kernel_rfl) (by kernel_rfl) fun bx => ?_
 refine loopJ (fun k vs H => ∃ (w : Value) (Ct C' : Hp) (todo : List Nat) (K' : Kd), vs = [w] ∧ H = Ct ++ C' ∧ IOwn 31 .u32 w (iw todo) Ct ∧ KRep kp K' ord lev tr C' ∧ Mid K' S none' (cntP P0 todo) ∧ Pos K' ∧ PL (cntP P0 todo) K'.N ∧ Less K' K ∧ (∀ t ∈ todo, t < 1048576) ∧ k = 3 * K'.used + todo.length ∧ k ≤ 3 * K.used + 1)
  _ ⟨_, [_], C, [r], K, rfl, rfl, IOwn.made [(r : Int)], h, hm, hp, hl, .refl K, by simpa using hr, rfl, by simp⟩ ?_
 rintro w H hJ gs
 obtain ⟨k, ⟨w', Ct, C', todo, K', hw, rfl, ht, hK, hM, hPos, hPL, hLess, hT, hk, hkb⟩, hkm⟩ := hJ.open
 simp only [List.cons.injEq, and_true] at hw
 subst hw
 refine ht.lenS ?_
 rw [iw_length]
 refine Bin.gtN (b := 0) (Br.dec (fun hpos => ?_) (fun hpos => ?_))
 ·have hc1 := hm.cap
  obtain ⟨pre, t, rfl⟩ : ∃ pre t, todo = pre ++ [t] := ⟨todo.dropLast, todo.getLast (by intro e; simp [e] at hpos), (List.dropLast_concat_getLast _).symm⟩
  have htl : (pre ++ [t]).length = pre.length + 1 := by simp
  have ht1 := hT t (by simp)
  refine ht.lenS ?_
  rw [iw_length, htl]
  refine Bin.subN (b := 1) ?_ (by omega) ?_
  ·simp [lim]; omega
  rw [Nat.add_sub_cancel]
  refine ht.ld (i := pre.length) (x := (t : Int)) (by rw [iw_append]; simp [iw]) (Hole.sub .left) ?_
  refine ht.cut (i := pre.length) (by simp) fun w' ht' => ?_
  have ht2 : IOwn 31 .u32 w' (iw pre) Ct := by
   rw [iw_append, List.take_left' (by simp)] at ht'; exact ht'
  have hTp : ∀ s ∈ pre, s < 1048576 := fun s hs => hT s (List.mem_append_left _ hs)
  refine Bin.leN (b := 1) (Br.dec (fun h1 => ?_) (fun h1 => ?_))
  ·have hc : ∀ s, 2 ≤ s → cntP P0 (pre ++ [t]) s = cntP P0 pre s := fun s hs => by
    unfold cntP; rw [List.count_append, List.count_singleton]; simp; omega
   exact SomeJ.back (.refl _) hkm (3 * K'.used + pre.length) ⟨w', Ct, C', pre, K', rfl, rfl, ht2, hK, hM.congr (fun _ => Iff.rfl) hc, hPos, fun s hs h0 => hPL s hs (by rw [hc s hs]; exact h0), hLess, hTp, rfl, by simp at hk; omega⟩ (by rw [hk]; simp)
  ·have hPt : 0 < cntP P0 (pre ++ [t]) t := by unfold cntP; simp; omega
   obtain ⟨d, hd⟩ := hPL t (by omega) hPt
   have hfit := hM.fit hd
   have hpo := hPos t d hd
   obtain ⟨b, rfl, hO⟩ := hK
   refine Nil.ptr ?_
   refine FAddr.mk (Ld.mk (v := b.vu) (List.mem_append_right _ (by exact .head _)) rfl ?_)
   refine hO.us.ld (x := ((K'.use t : Nat) : Int)) (iw_getD hfit) (Hole.sub (.app (.cons (.app (.app .left))))) ?_
   refine Bin.subN (b := 1) ?_ (by omega) ?_
   ·have := hLess.us t
    have := hbu t
    simp [lim]; omega
   refine hO.us.putH (x := ((K'.use t - 1 : Nat) : Int)) (.app (.cons (.app (.app .left)))) (by simpa using hfit) fun CU' hu' => ?_
   rw [iw_set] at hu'
   have g1 : ∀ s, (K'.us.set t (K'.use t - 1)).getD s 0 = if s = t then K'.use t - 1 else K'.use s := fun s => getD_set hfit
   have hM1 := hM.less (r := t) (us' := K'.us.set t (K'.use t - 1)) hPt (by simp) (by rw [g1, if_pos rfl]; omega) (fun s hs => by rw [g1, if_neg hs])
   rw [cntP_snoc] at hM1
   have hO1 : KOwn { b with CU := CU' } { K' with us := K'.us.set t (K'.use t - 1) } ord lev tr := { hO with us := hu', ul := by simp; exact hO.ul }
   have hL1 : Less { K' with us := K'.us.set t (K'.use t - 1) } K := ⟨hLess.N, hLess.n, hLess.cap, hLess.ho, fun s => by
    show (K'.us.set t (K'.use t - 1)).getD s 0 ≤ _
    rw [g1]
    have := hLess.us s
    split
    ·rename_i e; subst e; omega
    ·exact this, fun hi s hs => by
    show (K'.us.set t (K'.use t - 1)).getD s 0 = 0
    have hs' : K'.N s = none := hs
    rw [g1, if_neg (fun e => by subst e; rw [hd] at hs'; cases hs')]
    exact hLess.idle hi s hs'⟩
   have hPLp : PL (cntP P0 pre) K'.N := fun s hs h0 => hPL s hs (by unfold cntP at h0 ⊢; rw [List.count_append]; omega)
   refine Nil.ptr ?_
   refine FAddr.mk (Ld.mk (v := b.vu) (List.mem_append_right _ (by exact .head _)) rfl ?_)
   refine hu'.ld (x := ((K'.use t - 1 : Nat) : Int)) (by rw [← iw_set]; simp [hfit]) (Hole.sub (.app (.cons (.app (.app .left))))) ?_
   refine Bin.gtN (b := 0) (Br.dec (fun h3 => ?_) (fun h3 => ?_))
   ·refine SomeJ.back (.refl _) hkm (3 * K'.used + pre.length) ⟨w', Ct, _, pre, _, rfl, rfl, ht2, ⟨_, rfl, hO1⟩, hM1, fun s e hs => ?_, hPLp, hL1, hTp, rfl, by simp at hk; omega⟩ (by rw [hk]; simp)
    show 0 < (K'.us.set t (K'.use t - 1)).getD s 0
    rw [g1]
    split
    ·exact h3
    ·exact hPos s e hs
   ·have hu0 : K'.use t = 1 := by omega
    have hK1 : KRep kp { K' with us := K'.us.set t (K'.use t - 1) } ord lev tr (({ b with CU := CU' } : KBs).hp kp K'.n) := ⟨_, rfl, hO1⟩
    refine CallF.rd (.app .here) (knode_ok hK1 (by omega)) ?_
    rintro v rfl
    have h2t : 2 ≤ t := by omega
    have hgot : got K'.N t = nrow d := got_some hd h2t
    show New _ _ _
    intro b32 _
    rw [hgot]
    refine St.whole (r := nrow d) (by exact .head _) rfl rfl (fun x hx => by simp [nrow, u32] at hx; rcases hx with rfl | rfl | rfl <;> rfl) ?_
    refine DR.self ?_
    refine Nil.ptr ?_
    refine FAddr.mk (Ld.mk (v := ptr b.pt) (.tail _ (List.mem_append_right _ (by exact .head _))) rfl ?_)
    refine LdA.whole (r := nrow d) (by exact .head _) rfl ?_
    have hTd : K'.T d = some t := (hM.tab d t).2 ⟨hd, fun h => h⟩
    refine CallF.fn (.cons (.app (.cons (.app .left)))) (remove_ok hO1.ut (hM.var hd) hTd) ?_
    rintro v CT' ⟨rfl, hut⟩
    refine Nil.ptr ?_
    refine FAddr.mk (Ld.mk (v := ptr b.pa) (.tail _ (List.mem_append_right _ (by exact .head _))) rfl ?_)
    refine CallF.fn (.cons (.app (.cons .left))) (afree_ok hO1.ar ⟨d, hd⟩ h2t) ?_
    rintro v CA' ⟨rfl, har⟩
    refine FAddr.mk (Ld.mk (v := u32 d.lo) (by exact .head _) rfl ?_)
    refine FAddr.mk (Ld.mk (v := u32 d.hi) (by exact .head _) rfl ?_)
    refine BuildSl.ints2 (e := 31) (by kernel_rfl) (by kernel_rfl) (by kernel_rfl) fun bz => ?_
    refine ht2.appsH (.cons (.cons .left)) (Ints.block (l := [(d.lo : Int), (d.hi : Int)]) (by exact .head _) (by simp)) (by simp at hk ⊢; omega) (by simp at hk ⊢; omega) fun w2 Ct2 ht3 => ?_
    have e0 : iw pre ++ [(d.lo : Int), (d.hi : Int)] = iw (pre ++ [d.lo, d.hi]) := by rw [iw_append]; rfl
    rw [e0] at ht3
    have hu1 : ({ K' with us := K'.us.set t (K'.use t - 1) } : Kd).use t = 0 := by show (K'.us.set t (K'.use t - 1)).getD t 0 = 0; rw [g1, if_pos rfl]; omega
    have hM2 := hM1.free (r := t) (d := d) hd (fun h => h) hu1
    have hed : edges K'.N t K'.cap = 0 := by have := hM1.use hd; rw [hu1] at this; exact (by have h5 : edges K'.N t K'.cap + _ + _ = 0 := this.symm; omega)
    have hcl := edges_zero hed t (hM.two hd).2 d hd
    have hPt0 : cntP P0 pre t = 0 := by have := hM1.use hd; rw [hu1] at this; omega
    have hroom : 0 < K'.used := by have := hM.room; omega
    have hlt : ∀ x, live K'.N x → x < 1048576 := fun x hx => hK1.lt hx
    have hcnt : ∀ s, 2 ≤ s → cntP P0 pre s + e1 (some d) s = cntP P0 (pre ++ [d.lo, d.hi]) s := fun s _ => by
     unfold cntP
     rw [e1_some, List.count_append, List.count_cons, List.count_cons, List.count_nil]
     simp only [beq_iff_eq]
     omega
    refine SomeJ.back (.skip (.skip (.refl _))) hkm (3 * (K'.used - 1) + (pre ++ [d.lo, d.hi]).length) ⟨w2, Ct2, _, pre ++ [d.lo, d.hi], { K' with us := K'.us.set t (K'.use t - 1), N := up K'.N t none, T := upT K'.T d none, used := K'.used - 1 }, rfl, rfl, ht3,
     ⟨{ b with CU := CU', CT := CT', CA := CA' }, rfl, { hO1 with ar := har, ut := hut }⟩, hM2.congr (fun _ => Iff.rfl) hcnt, fun s e hs => ?_, fun s hs h0 => ?_, ⟨fun {s e} hs => ?_, hL1.n, hL1.cap, hL1.ho, hL1.us, fun hi s hs => ?_⟩, fun s hs => ?_, rfl, by simp at hk ⊢; omega⟩ (by simp at hk ⊢; omega)
    ·have hne : s ≠ t := fun e2 => by subst e2; have hs2 : up K'.N s none s = some e := hs; rw [up_same] at hs2; cases hs2
     show 0 < (K'.us.set t (K'.use t - 1)).getD s 0
     rw [g1, if_neg hne]
     have hs2 : up K'.N t none s = some e := hs
     rw [up_ne hne] at hs2
     exact hPos s e hs2
    ·have hne : s ≠ t := fun e2 => by
      subst e2
      rw [← hcnt s hs, hPt0] at h0
      rw [e1_some, if_neg hcl.1, if_neg hcl.2] at h0
      omega
     show ∃ e, up K'.N t none s = some e
     rw [up_ne hne]
     rw [← hcnt s hs] at h0
     by_cases h5 : 0 < cntP P0 pre s
     ·exact hPLp s hs h5
     ·rw [e1_some] at h0
      have : d.lo = s ∨ d.hi = s := by
       by_cases h6 : d.lo = s
       ·exact .inl h6
       ·by_cases h7 : d.hi = s
        ·exact .inr h7
        ·rw [if_neg h6, if_neg h7] at h0; omega
      rcases this with rfl | rfl
      ·rcases hM.lo hd with h8 | h8
       ·omega
       ·exact h8
      ·rcases hM.hi hd with h8 | h8
       ·omega
       ·exact h8
    ·have hs2 : up K'.N t none s = some e := hs
     by_cases e2 : s = t
     ·subst e2; rw [up_same] at hs2; cases hs2
     ·rw [up_ne e2] at hs2; exact hLess.N hs2
    ·have hs2 : up K'.N t none s = none := hs
     show (K'.us.set t (K'.use t - 1)).getD s 0 = 0
     by_cases e2 : s = t
     ·subst e2; rw [g1, if_pos rfl]; omega
     ·rw [up_ne e2] at hs2
      exact hL1.idle hi s hs2
    ·rcases List.mem_append.1 hs with hs | hs
     ·exact hTp s hs
     ·simp at hs
      rcases hs with rfl | rfl
      ·exact hlt _ (hM.lo hd)
      ·exact hlt _ (hM.hi hd)
 ·obtain rfl : todo = [] := List.eq_nil_of_length_eq_zero (by omega)
  exact FnR.mk .right ⟨rfl, K', hK, hM.congr (fun _ => Iff.rfl) (fun s _ => by simp [cntP]), hPos, fun s hs h0 => hPL s hs (by simpa [cntP] using h0), hLess⟩
end
end Go.Proofs
set_option maxRecDepth 100000
namespace Go.Proofs
open Go Go.Sx
open Bdd
abbrev lv (lev : List Nat) : Nat → Nat := fun v => lev.getD v 0
section
variable {kp : Nat} {K : Kd} {ord lev tr : List Nat} {C : Hp} {S : Nat → Bdd.Fn}
theorem kvar_ok (h : KRep kp K ord lev tr C) (v : Int) : Rd Tryz.prog 94 #[ptr kp, .int .i64 v] C (· = .bool (decide (0 ≤ v ∧ v < K.n))) := by
 obtain ⟨b, rfl, hO⟩ := h
 intro g
 refine L94_sound (R := FnR _) ?_
 unfold L94
 refine Bin.geq ?_
 refine Grp.and (decide (v < K.n)) (fun _ => ?_) rfl fun _ => RdR.mk (.refl _) (by rw [Bool.decide_and])
 refine Nil.ptr ?_
 refine FAddr.mk (Ld.mk (v := .int .i64 (K.n : Int)) (by exact .head _) rfl ?_)
 exact Bin.lss ⟨rfl, rfl⟩
theorem kdepth_ok (h : KRep kp K ord lev tr C) {r : Nat} (hl : live K.N r) (hv : ∀ d, K.N r = some d → d.v < K.n) (h01 : r < 2 → K.N r = none) : Rd Tryz.prog 98 #[ptr kp, u32 r] C (· = .int .i64 ((dep K.n (lv lev) K.N r : Nat) : Int)) := by
 have h0 := h
 have hr := h.lt hl
 obtain ⟨b, rfl, hO⟩ := h
 intro g
 refine L98_sound (R := FnR _) ?_
 unfold L98
 refine Nil.ptr (FAddr.mk ?_)
 refine CallF.rd .here (knode_ok h0 (by omega)) ?_
 rintro v rfl
 intro b5 _
 refine St.whole (r := got K.N r) (by exact .head _) rfl (got_one _ _).1 (got_one _ _).2 ?_
 by_cases h2 : r < 2
 ·rw [got_const h2, dep_none (h01 h2)]
  refine FAddr.mk (Ld.mk (v := .int .i64 (-1)) (by exact .head _) rfl ?_)
  refine Bin.geq (Br.no' (by decide) ?_)
  refine Nil.ptr ?_
  refine FAddr.mk (Ld.mk (v := .int .i64 (K.n : Int)) (by exact .tail _ (.head _)) rfl ?_)
  exact RdR.mk .tail rfl
 ·obtain ⟨d, hd⟩ : ∃ d, K.N r = some d := by rcases hl with hl | hl; omega; exact hl
  rw [got_some hd (by omega), dep_some hd]
  have hdv := hv d hd
  have hlen := hO.ol.2
  refine FAddr.mk (Ld.mk (v := .int .i64 (d.v : Int)) (by exact .head _) rfl ?_)
  refine Bin.geq (Br.yes' (by simp) ?_)
  refine Nil.ptr ?_
  refine FAddr.mk (Ld.mk (v := b.vl) (by exact .tail _ (.head _)) rfl ?_)
  refine FAddr.mk (Ld.mk (v := .int .i64 (d.v : Int)) (by exact .head _) rfl ?_)
  refine hO.lv.ld (x := ((lev.getD d.v 0 : Nat) : Int)) (iw_getD (by omega)) (Hole.sub (.cons (.cons (.app (.app (.app (.app (.app .left)))))))) ?_
  exact RdR.mk .tail rfl
def fitsE (K : Kd) (lev : List Nat) (v : Int) (lo hi : Nat) : Int :=
 if ¬ (0 ≤ v ∧ v < K.n) then 2 else if liveB K.N lo = false ∨ liveB K.N hi = false then 3 else if lo ≠ hi ∧ min (dep K.n (lv lev) K.N lo) (dep K.n (lv lev) K.N hi) ≤ lev.getD v.toNat 0 then 4 else 0
theorem fits_ok (h : KRep kp K ord lev tr C) (v : Int) {lo hi : Nat} (hlo : lo < 4294967296) (hhi : hi < 4294967296) (hv : ∀ r d, K.N r = some d → d.v < K.n ∧ 2 ≤ r) :
  Rd Tryz.prog 47 #[ptr kp, .int .i64 v, u32 lo, u32 hi] C (· = .int .i64 (fitsE K lev v lo hi)) := by
 have h0 := h
 have h01 : ∀ r, r < 2 → K.N r = none := fun r hr => by
  cases e : K.N r with
  | none => rfl
  | some d => have := (hv r d e).2; omega
 obtain ⟨b, rfl, hO⟩ := h
 intro g
 refine L47_sound (R := FnR _) ?_
 unfold L47
 refine CallF.rd .here (kvar_ok h0 v) ?_
 rintro x rfl
 refine Un.not ?_
 by_cases hvv : 0 ≤ v ∧ v < K.n
 rotate_left
 ·rw [decide_eq_false hvv]
  exact Br.yes (RdR.mk (.refl _) (by unfold fitsE; rw [if_pos hvv]))
 rw [decide_eq_true hvv]
 refine Br.no ?_
 obtain ⟨n, rfl⟩ : ∃ n : Nat, v = n := ⟨v.toNat, by omega⟩
 have hnv : n < K.n := by omega
 intro J hJ
 refine Nil.ptr (FAddr.mk ?_)
 refine CallF.rd .here (klive_ok h0 hlo) ?_
 rintro x rfl
 refine Un.not ?_
 by_cases hll : liveB K.N lo = true
 rotate_left
 ·have hll' : liveB K.N lo = false := by simpa using hll
  rw [hll']
  exact Split.past rfl (Pick.mk (JE.mk (hJ _ _ fun gs => Br.yes (RdR.mk (.refl _) (by unfold fitsE; rw [if_neg (by simpa using hvv), if_pos (.inl hll')])))))
 rw [hll]
 refine Split.go rfl ?_
 refine Nil.ptr (FAddr.mk ?_)
 refine CallF.rd .here (klive_ok h0 hhi) ?_
 rintro x rfl
 refine Un.not ?_
 by_cases hhl : liveB K.N hi = true
 rotate_left
 ·have hhl' : liveB K.N hi = false := by simpa using hhl
  rw [hhl']
  exact Pick.mk (JE.mk (hJ _ _ fun gs => Br.yes (RdR.mk (.refl _) (by unfold fitsE; rw [if_neg (by simpa using hvv), if_pos (.inr hhl')]))))
 rw [hhl]
 refine Pick.mk (JE.mk (hJ _ _ fun gs => Br.no ?_))
 intro J2 hJ2
 have hE : fitsE K lev n lo hi = if lo ≠ hi ∧ min (dep K.n (lv lev) K.N lo) (dep K.n (lv lev) K.N hi) ≤ lev.getD n 0 then 4 else 0 := by
  unfold fitsE
  rw [if_neg (by simpa using hvv), if_neg (by rw [hll, hhl]; simp)]
  rfl
 refine DR.self ?_
 refine Bin.neN ?_
 by_cases hne : lo ≠ hi
 rotate_left
 ·rw [decide_eq_false hne]
  exact Br.no (JE.mk (hJ2 _ _ fun gs => Br.no (RdR.mk (.refl _) (by rw [hE, if_neg (fun h => hne h.1)]))))
 rw [decide_eq_true hne]
 refine Br.yes ?_
 refine Nil.ptr ?_
 refine FAddr.mk (Ld.mk (v := b.vl) (by exact .head _) rfl ?_)
 have hlen := hO.ol.2
 refine hO.lv.ld (x := ((lev.getD n 0 : Nat) : Int)) (iw_getD (by omega)) (Hole.sub (.cons (.app (.app (.app (.app (.app .left))))))) ?_
 intro F
 refine CallF.rd .here (kdepth_ok h0 (liveB_iff.1 hll) (fun d hd => (hv _ _ hd).1) (h01 _)) ?_
 rintro x rfl
 refine ⟨.refl _, ?_⟩
 intro F2
 refine CallF.rd .here (kdepth_ok h0 (liveB_iff.1 hhl) (fun d hd => (hv _ _ hd).1) (h01 _)) ?_
 rintro x rfl
 refine ⟨.refl _, ?_⟩
 refine ⟨_, _, _, rfl, rfl, ?_⟩
 have hmin : (if ((dep K.n (lv lev) K.N hi : Nat) : Int) < ((dep K.n (lv lev) K.N lo : Nat) : Int) then ((dep K.n (lv lev) K.N hi : Nat) : Int) else ((dep K.n (lv lev) K.N lo : Nat) : Int)) = ((min (dep K.n (lv lev) K.N lo) (dep K.n (lv lev) K.N hi) : Nat) : Int) := by
  split <;> omega
 rw [hmin]
 refine Bin.geN ?_
 refine Pick.mk ?_
 by_cases hm : min (dep K.n (lv lev) K.N lo) (dep K.n (lv lev) K.N hi) ≤ lev.getD n 0
 ·rw [decide_eq_true hm]
  exact JE.mk (hJ2 _ _ fun gs => Br.yes (RdR.mk (.refl _) (by rw [hE, if_pos ⟨hne, hm⟩])))
 ·rw [decide_eq_false hm]
  exact JE.mk (hJ2 _ _ fun gs => Br.no (RdR.mk (.refl _) (by rw [hE, if_neg (fun h => hm h.2)])))
theorem seek_ok (h : KRep kp K ord lev tr C) {v lo hi : Nat} (hv : v < K.n) :
  Rd Tryz.prog 48 #[ptr kp, .int .i64 (v : Int), u32 lo, u32 hi] C (· = if lo = hi then .tuple #[u32 lo, .bool true] else .tuple #[u32 ((K.T ⟨v, lo, hi⟩).getD 0), .bool (K.T ⟨v, lo, hi⟩).isSome]) := by
 obtain ⟨b, rfl, hO⟩ := h
 intro g
 refine L48_sound (R := FnR _) ?_
 unfold L48
 refine Bin.eqN (Br.dec (fun he => RdR.mk (.refl _) (by rw [if_pos he])) (fun he => ?_))
 refine Nil.ptr (FAddr.mk ?_)
 refine FAddr.mk (Ld.mk (v := ptr b.pt) (by exact .head _) rfl ?_)
 refine Build.mk (cs := nrow ⟨v, lo, hi⟩) (by kernel_rfl) ?_
 refine CallF.rd (.cons (.app .left)) (find_ok (d := ⟨v, lo, hi⟩) hO.ut hv) ?_
 rintro x rfl
 exact Ext.mk rfl (Ext.mk rfl (RdR.mk (.refl _) (by rw [if_neg he]; rfl)))
theorem kheld_ok (h : KRep kp K ord lev tr C) {r : Nat} (hr : r < 4294967296) (hb : ∀ s, K.hold s < 2147483648) : Rd Tryz.prog 52 #[ptr kp, u32 r] C (· = .int .i64 ((K.hold r : Nat) : Int)) := by
 obtain ⟨b, rfl, hO⟩ := h
 intro g
 refine L52_sound (R := FnR _) ?_
 unfold L52
 refine Bin.ptrNil ?_
 refine Grp.or (decide (K.ho.length ≤ r)) (fun _ => ?_) (by simp) fun _ => ?_
 ·refine ConvI.nat (by simp [lim]; omega) (Nil.ptr (FAddr.mk ?_))
  refine FAddr.mk (Ld.mk (v := b.vh) (by exact .head _) rfl ?_)
  refine hO.ho.lenS ?_
  rw [iw_length]
  exact Bin.geN ⟨rfl, rfl⟩
 ·rw [Bool.false_or]
  refine Br.dec (fun hge => ?_) (fun hlt => ?_)
  ·refine RdR.mk (.refl _) ?_
   unfold Kd.hold; rw [List.getD, List.getElem?_eq_none hge]; rfl
  ·refine Nil.ptr (FAddr.mk ?_)
   refine FAddr.mk (Ld.mk (v := b.vh) (by exact .head _) rfl ?_)
   refine hO.ho.ld (x := ((K.hold r : Nat) : Int)) (iw_getD (by omega)) (Hole.sub (.cons (.app (.app (.app .left))))) ?_
   refine ConvI.nat (by have := hb r; simp [lim]; omega) ?_
   exact RdR.mk (.refl _) rfl
theorem klive_n (h : KRep kp K ord lev tr C) (h2 : 2 ≤ K.used) (hu : K.used ≤ 1048576) : Rd Tryz.prog 14 #[ptr kp] C (· = .int .i64 ((K.used - 2 : Nat) : Int)) := by
 obtain ⟨b, rfl, hO⟩ := h
 intro g
 refine L14_sound (R := FnR _) ?_
 unfold L14
 refine Bin.ptrNil (Br.no (Nil.ptr (FAddr.mk ?_)))
 refine FAddr.mk (Ld.mk (v := ptr b.pa) (by exact .head _) rfl ?_)
 refine CallF.rd (.cons .left) (aused_ok hO.ar) ?_
 rintro v rfl
 refine Bin.subN (b := 2) (by simp [lim]; omega) h2 ?_
 exact RdR.mk (.refl _) rfl
theorem ktrail_ok (h : KRep kp K ord lev tr C) : Rd Tryz.prog 15 #[ptr kp] C (· = .int .i64 ((tr.length : Nat) : Int)) := by
 obtain ⟨b, rfl, hO⟩ := h
 intro g
 refine L15_sound (R := FnR _) ?_
 unfold L15
 refine Bin.ptrNil (Br.no (Nil.ptr ?_))
 refine FAddr.mk (Ld.mk (v := b.vt) (by exact .head _) rfl ?_)
 refine hO.tr.lenS ?_
 rw [iw_length]
 exact RdR.mk (.refl _) rfl
theorem kvars_ok (h : KRep kp K ord lev tr C) : Rd Tryz.prog 56 #[ptr kp] C (· = .int .i64 ((K.n : Nat) : Int)) := by
 obtain ⟨b, rfl, hO⟩ := h
 intro g
 refine L56_sound (R := FnR _) ?_
 unfold L56
 refine Bin.ptrNil (Br.no (Nil.ptr ?_))
 refine FAddr.mk (Ld.mk (v := .int .i64 (K.n : Int)) (by exact .head _) rfl ?_)
 exact RdR.mk (.refl _) rfl
theorem kNode_ok (h : KRep kp K ord lev tr C) {r : Nat} (hr : r < 4294967296) : Rd Tryz.prog 60 #[ptr kp, u32 r] C (· = .tuple #[.agg (got K.N r).toArray, .int .i64 (if liveB K.N r then 0 else 3)]) := by
 have h0 := h
 obtain ⟨b, rfl, hO⟩ := h
 intro g
 refine L60_sound (R := FnR _) ?_
 unfold L60
 intro b1 _
 refine Bin.ptrNil (Br.no (Nil.ptr (FAddr.mk ?_)))
 refine CallF.rd (.cons .here) (klive_ok h0 hr) ?_
 rintro v rfl
 refine Un.not ?_
 cases hb : liveB K.N r with
 | false =>
  refine Br.yes ?_
  refine Build.mk (cs := [.int .i64 0, .int .u32 0, .int .u32 0]) (by kernel_rfl) ?_
  refine St.whole (r := [.int .i64 0, .int .u32 0, .int .u32 0]) (by exact .head _) rfl rfl (by simp [Value.oneCell']) ?_
  refine LdA.whole (r := [.int .i64 0, .int .u32 0, .int .u32 0]) (by exact .head _) rfl ?_
  exact RdR.mk .tail (by rw [got_none hb]; rfl)
 | true =>
  refine Br.no (Nil.ptr (FAddr.mk ?_))
  refine CallF.rd (.cons .here) (knode_ok h0 hr) ?_
  rintro v rfl
  refine St.whole (r := got K.N r) (by exact .head _) rfl (got_one _ _).1 (got_one _ _).2 ?_
  refine LdA.whole (r := got K.N r) (by exact .head _) (got_one _ _).1 ?_
  exact RdR.mk .tail rfl
end
theorem clone_ok {B : Hp} {v : Value} {l : List Int} (h : Ints .i64 B v l) (hl : l.length ≤ 1099511627776) : Fc Tryz.prog 46 #[v] B (fun r H => ∃ C, H = C ++ B ∧ IOwn 3 .i64 r l C) := by
 intro g
 refine L46_sound (R := FnR _) ?_
 unfold L46
 obtain ⟨a, c, rfl, hc⟩ := h.shape
 refine ⟨.bool a.isNone, by simp [binV], ?_⟩
 refine Br.mk (fun ha => ?_) (fun ha => ?_)
 ·have : l = [] := by
   rcases h.2 with ⟨_, _, h1, h2⟩ | ⟨b, o, cap, cs, T, fz, h1, _⟩
   ·simpa using h2
   ·simp at h1; rw [h1.1] at ha; simp at ha
  subst this
  exact FnR.here ⟨[], rfl, IOwn.nil⟩
 ·refine BuildSl.none (z := .int .i64 0) (e := 3) (k := 1) (by kernel_rfl) (by kernel_rfl) (by kernel_rfl) fun b => ?_
  refine (IOwn.made (T := 3) (kd := .i64) (b := b) []).appsH (l2 := l) .left ((show Ints .i64 B _ l from h).mono fun _ h => .tail _ h) (by simp; omega) (by simp; omega) fun v' C' ho => ?_
  exact FnR.here ⟨C', rfl, by simpa using ho⟩
theorem korder_ok {kp : Nat} {K : Kd} {ord lev tr : List Nat} {C : Hp} (h : KRep kp K ord lev tr C) : Fc Tryz.prog 13 #[ptr kp] C (fun r H => ∃ N, H = N ++ C ∧ IOwn 3 .i64 r (iw ord) N) := by
 obtain ⟨b, rfl, hO⟩ := h
 intro g
 refine L13_sound (R := FnR _) ?_
 unfold L13
 refine Bin.ptrNil (Br.no (Nil.ptr ?_))
 refine FAddr.mk (Ld.mk (v := b.vo) (by exact .head _) rfl ?_)
 refine CallF.fn .here (clone_ok (hO.od.ints.mono (Hole.sub (.cons (.app (.app (.app (.app .left))))))) (by have := hO.ol.1; have := hO.n64; simp; omega)) ?_
 rintro v C' ⟨N, rfl, ho⟩
 exact FnR.here ⟨N, rfl, ho⟩
end Go.Proofs
set_option maxRecDepth 100000
namespace Go.Proofs
open Go Go.Sx
def IsLen (x r : Nat) : Prop := x < 2 ^ r ∧ (r = 0 ∨ 2 ^ (r - 1) ≤ x)
theorem IsLen.up {x s t : Nat} (h : IsLen (x >>> s) t) (h0 : s = 0 ∨ x >>> s ≠ 0) : IsLen x (s + t) := by
 rw [Nat.shiftRight_eq_div_pow] at h h0
 have hp := Nat.two_pow_pos s
 refine ⟨?_, ?_⟩
 ·have := h.1
  rw [Nat.div_lt_iff_lt_mul hp] at this
  rw [Nat.pow_add, Nat.mul_comm]; exact this
 ·rcases h.2 with h2 | h2
  ·subst h2
   have := h.1
   rcases h0 with h0 | h0
   ·exact .inl (by omega)
   ·rw [Nat.pow_zero] at this; exact absurd (Nat.lt_one_iff.1 this) h0
  ·by_cases ht : t = 0
   ·subst ht
    rcases h0 with h0 | h0
    ·exact .inl (by omega)
    ·have := h.1; rw [Nat.pow_zero] at this; exact absurd (Nat.lt_one_iff.1 this) h0
   ·right
    have := (Nat.le_div_iff_mul_le hp).1 h2
    rw [show s + t - 1 = (t - 1) + s by omega, Nat.pow_add]; exact this
theorem len8_ok : ∀ y : Fin 256, ∃ b : UInt8, (ByteArray.mk #[0, 1, 2, 2, 3, 3, 3, 3, 4, 4, 4, 4, 4, 4, 4, 4, 5, 5, 5, 5, 5, 5, 5, 5, 5, 5, 5, 5, 5, 5, 5, 5, 6, 6, 6, 6, 6, 6, 6, 6, 6, 6, 6, 6, 6, 6, 6, 6, 6, 6, 6, 6, 6, 6, 6, 6, 6, 6, 6, 6, 6, 6, 6, 6, 7, 7, 7, 7, 7, 7, 7, 7, 7, 7, 7, 7, 7, 7, 7, 7, 7, 7, 7, 7, 7, 7, 7, 7, 7, 7, 7, 7, 7, 7, 7, 7, 7, 7, 7, 7, 7, 7, 7, 7, 7, 7, 7, 7, 7, 7, 7, 7, 7, 7, 7, 7, 7, 7, 7, 7, 7, 7, 7, 7, 7, 7, 7, 7, 8, 8, 8, 8, 8, 8, 8, 8, 8, 8, 8, 8, 8, 8, 8, 8, 8, 8, 8, 8, 8, 8, 8, 8, 8, 8, 8, 8, 8, 8, 8, 8, 8, 8, 8, 8, 8, 8, 8, 8, 8, 8, 8, 8, 8, 8, 8, 8, 8, 8, 8, 8, 8, 8, 8, 8, 8, 8, 8, 8, 8, 8, 8, 8, 8, 8, 8, 8, 8, 8, 8, 8, 8, 8, 8, 8, 8, 8, 8, 8, 8, 8, 8, 8, 8, 8, 8, 8, 8, 8, 8, 8, 8, 8, 8, 8, 8, 8, 8, 8, 8, 8, 8, 8, 8, 8, 8, 8, 8, 8, 8, 8, 8, 8, 8, 8, 8, 8, 8, 8, 8, 8, 8, 8, 8, 8, 8, 8])[y.1]? = some b ∧ (y.1 < 2 ^ b.toNat ∧ (b.toNat = 0 ∨ 2 ^ (b.toNat - 1) ≤ y.1)) := by
 have h : ∀ y : Fin 256, (match (ByteArray.mk #[0, 1, 2, 2, 3, 3, 3, 3, 4, 4, 4, 4, 4, 4, 4, 4, 5, 5, 5, 5, 5, 5, 5, 5, 5, 5, 5, 5, 5, 5, 5, 5, 6, 6, 6, 6, 6, 6, 6, 6, 6, 6, 6, 6, 6, 6, 6, 6, 6, 6, 6, 6, 6, 6, 6, 6, 6, 6, 6, 6, 6, 6, 6, 6, 7, 7, 7, 7, 7, 7, 7, 7, 7, 7, 7, 7, 7, 7, 7, 7, 7, 7, 7, 7, 7, 7, 7, 7, 7, 7, 7, 7, 7, 7, 7, 7, 7, 7, 7, 7, 7, 7, 7, 7, 7, 7, 7, 7, 7, 7, 7, 7, 7, 7, 7, 7, 7, 7, 7, 7, 7, 7, 7, 7, 7, 7, 7, 7, 8, 8, 8, 8, 8, 8, 8, 8, 8, 8, 8, 8, 8, 8, 8, 8, 8, 8, 8, 8, 8, 8, 8, 8, 8, 8, 8, 8, 8, 8, 8, 8, 8, 8, 8, 8, 8, 8, 8, 8, 8, 8, 8, 8, 8, 8, 8, 8, 8, 8, 8, 8, 8, 8, 8, 8, 8, 8, 8, 8, 8, 8, 8, 8, 8, 8, 8, 8, 8, 8, 8, 8, 8, 8, 8, 8, 8, 8, 8, 8, 8, 8, 8, 8, 8, 8, 8, 8, 8, 8, 8, 8, 8, 8, 8, 8, 8, 8, 8, 8, 8, 8, 8, 8, 8, 8, 8, 8, 8, 8, 8, 8, 8, 8, 8, 8, 8, 8, 8, 8, 8, 8, 8, 8, 8, 8, 8, 8])[y.1]? with | some b => decide (y.1 < 2 ^ b.toNat ∧ (b.toNat = 0 ∨ 2 ^ (b.toNat - 1) ≤ y.1)) | none => false) = true := by decide +kernel
 intro y
 have := h y
 split at this
 ·rename_i b hb
  exact ⟨b, hb, by simpa using this⟩
 ·cases this
theorem len64_ok {x : Nat} (hx : x < 18446744073709551616) (B : Hp) : Rd Tryz.prog 234 #[.int .u64 (x : Int)] B (fun v => ∃ r : Nat, IsLen x r ∧ v = .int .i64 (r : Int)) := by
 intro g
 refine L234_sound (R := FnR _) ?_
 unfold L234
 intro J1 hJ1
 have h1 : ∀ s, s ≤ 32 → x >>> s < 4294967296 → (s = 0 ∨ x >>> s ≠ 0) → J1 [.int .u64 ((x >>> s : Nat) : Int), .int .i64 (s : Int)] B := by
  intro s hs hlt h0
  refine hJ1 _ _ _ fun gs => ?_
  intro J2 hJ2
  have h2 : ∀ s, s ≤ 48 → x >>> s < 65536 → (s = 0 ∨ x >>> s ≠ 0) → J2 [.int .u64 ((x >>> s : Nat) : Int), .int .i64 (s : Int)] B := by
   intro s hs hlt h0
   refine hJ2 _ _ _ fun gs => ?_
   intro J3 hJ3
   have h3 : ∀ s, s ≤ 56 → x >>> s < 256 → (s = 0 ∨ x >>> s ≠ 0) → J3 [.int .u64 ((x >>> s : Nat) : Int), .int .i64 (s : Int)] B := by
    intro s hs hlt h0
    refine hJ3 _ _ _ fun gs => ?_
    refine ConvI.nat (show x >>> s < 256 from hlt) ?_
    obtain ⟨b, hb, hl⟩ := len8_ok ⟨x >>> s, hlt⟩
    refine ⟨_, _, _, b, rfl, rfl, Int.natCast_nonneg _, by rw [Int.toNat_natCast]; exact hb, ?_⟩
    have hbl : b.toNat < 256 := b.toNat_lt
    refine ConvI.nat (by simp [lim]; omega) ?_
    refine Bin.addN (by simp [lim]; omega) ?_
    exact RdR.mk (.refl _) ⟨s + b.toNat, IsLen.up (t := b.toNat) hl h0, rfl⟩
   refine Bin.geN (b := 256) (Br.dec (fun hge => ?_) (fun hge => JE.mk (h3 s (by omega) (by omega) h0)))
   refine Bin.shrN (b := 8) (by simp only [lim]; omega) ?_
   refine Bin.addN (b := 8) (by simp [lim]; omega) ?_
   rw [← Nat.shiftRight_add]
   have e : x >>> (s + 8) = x >>> s / 256 := by rw [Nat.shiftRight_add, Nat.shiftRight_eq_div_pow (x >>> s) 8]
   exact JE.mk (h3 (s + 8) (by omega) (by omega) (.inr (by omega)))
  refine Bin.geN (b := 65536) (Br.dec (fun hge => ?_) (fun hge => JE.mk (h2 s (by omega) (by omega) h0)))
  refine Bin.shrN (b := 16) (by simp only [lim]; omega) ?_
  refine Bin.addN (b := 16) (by simp [lim]; omega) ?_
  rw [← Nat.shiftRight_add]
  have e : x >>> (s + 16) = x >>> s / 65536 := by rw [Nat.shiftRight_add, Nat.shiftRight_eq_div_pow (x >>> s) 16]
  exact JE.mk (h2 (s + 16) (by omega) (by omega) (.inr (by omega)))
 refine Bin.geN (b := 4294967296) (Br.dec (fun hge => ?_) (fun hge => JE.mk (h1 0 (by omega) (by simp; omega) (.inl rfl))))
 refine Bin.shrN (b := 32) (by simp only [lim]; exact hx) ?_
 have e : x >>> 32 = x / 4294967296 := by rw [Nat.shiftRight_eq_div_pow]
 exact JE.mk (h1 32 (by omega) (by omega) (.inr (by omega)))
end Go.Proofs
namespace Go.Sx
open Go
section
variable {P : Program} {H C : Hp} {c : Hp → Hp}
theorem Hole.re (h : Hole C H c) (X : Hp) : Hole X (c X) c := by
 induction h with
 | here => exact .here
 | left => exact .left
 | cons _ ih => exact .cons ih
 | app _ ih => exact .app ih
def Dt (T : TypeId) (kd : IntKind) (v : Value) (l0 : List Int) (C : Hp) : Prop := ∃ l : List Int, l.Perm l0 ∧ IOwn T kd v l C
theorem swap_perm {l : List Int} {i j : Nat} {x y : Int} (hi : l[i]? = some x) (hj : l[j]? = some y) : ((l.set i y).set j x).Perm l := by
 have h1 := (List.getElem?_eq_some_iff.1 hi).1
 have h2 := (List.getElem?_eq_some_iff.1 hj).1
 rw [List.perm_iff_count]
 intro a
 by_cases e : i = j
 ·subst e
  rw [hi] at hj; cases hj
  rw [List.set_set]
  have : l.set i x = l := by
   have hx : l[i] = x := by rw [List.getElem?_eq_getElem h1] at hi; exact Option.some.inj hi
   rw [← hx]; exact List.set_getElem_self h1
  rw [this]
 ·have hx : l[i] = x := by rw [List.getElem?_eq_getElem h1] at hi; exact Option.some.inj hi
  have hy : l[j] = y := by rw [List.getElem?_eq_getElem h2] at hj; exact Option.some.inj hj
  rw [List.count_set (by simpa using h2), List.count_set h1]
  have : (l.set i y)[j]'(by simpa using h2) = y := by rw [List.getElem_set_ne e]; exact hy
  rw [this, hx]
  have c1 : l.count x ≥ 1 := List.one_le_count_iff.2 (hx ▸ List.getElem_mem h1)
  have c2 : l.count y ≥ 1 := List.one_le_count_iff.2 (hy ▸ List.getElem_mem h2)
  by_cases e1 : x = a
  ·subst e1
   by_cases e2 : y = x
   ·subst e2; simp <;> omega
   ·simp [e2, Ne.symm e2] <;> omega
  ·by_cases e2 : y = a
   ·subst e2; simp [e1] <;> omega
   ·simp [e1, e2] <;> omega
theorem Dt.ld {T : TypeId} {kd kd' : IntKind} {v : Value} {l0 : List Int} (h : Dt T kd v l0 C) (hC : ∀ y ∈ C, y ∈ H) {i : Nat} (hi : i < l0.length) {K : Value → Prop} (hk : ∀ x, K (.int kd x)) : IAddr 1 v (.int kd' (i : Int)) fun p => Ld H p K := by
 obtain ⟨l, hp, ho⟩ := h
 have : i < l.length := by rw [hp.length_eq]; exact hi
 exact ho.ld (List.getElem?_eq_getElem this) hC (hk _)
theorem Dt.swap {T : TypeId} {kd k1 k2 k3 k4 : IntKind} {v : Value} {l0 : List Int} (h : Dt T kd v l0 C) (hh : Hole C H c) {i j : Nat} (hi : i < l0.length) (hj : j < l0.length) {K : Hp → Prop} (hk : ∀ C', Dt T kd v l0 C' → K (c C')) :
  IAddr 1 v (.int k1 (j : Int)) fun p1 => Ld H p1 fun x => IAddr 1 v (.int k2 (i : Int)) fun p2 => Ld H p2 fun y => IAddr 1 v (.int k3 (i : Int)) fun p3 => St 1 H p3 x fun H1 => IAddr 1 v (.int k4 (j : Int)) fun p4 => St 1 H1 p4 y K := by
 obtain ⟨l, hp, ho⟩ := h
 have hl := hp.length_eq
 have hi' : l[i]? = some l[i] := List.getElem?_eq_getElem (by omega)
 have hj' : l[j]? = some l[j] := List.getElem?_eq_getElem (by omega)
 refine ho.ld hj' hh.sub ?_
 refine ho.ld hi' hh.sub ?_
 refine ho.putH hh (by omega) fun C1 h1 => ?_
 refine h1.putH (hh.re C1) (by simp; omega) fun C2 h2 => ?_
 exact hk C2 ⟨_, (swap_perm hi' hj').trans hp, h2⟩
theorem Dt.swapM {T : TypeId} {kd k1 k2 k3 k4 : IntKind} {v : Value} {l0 : List Int} (h : Dt T kd v l0 C) (hh : Hole C H c) {i j : Nat} (hi : i < l0.length) (hj : j < l0.length) {B : (Value → Prop) → Prop}
  (hB : ∀ k : Value → Prop, k (.int k2 (i : Int)) → B k) {K : Hp → Prop} (hk : ∀ C', Dt T kd v l0 C' → K (c C')) :
  IAddr 1 v (.int k1 (j : Int)) fun p1 => Ld H p1 fun x => B fun u => IAddr 1 v u fun p2 => Ld H p2 fun y => IAddr 1 v (.int k3 (i : Int)) fun p3 => St 1 H p3 x fun H1 => IAddr 1 v (.int k4 (j : Int)) fun p4 => St 1 H1 p4 y K := by
 obtain ⟨l, hp, ho⟩ := h
 have hl := hp.length_eq
 have hi' : l[i]? = some l[i] := List.getElem?_eq_getElem (by omega)
 have hj' : l[j]? = some l[j] := List.getElem?_eq_getElem (by omega)
 refine ho.ld hj' hh.sub (hB _ ?_)
 refine ho.ld hi' hh.sub ?_
 refine ho.putH hh (by omega) fun C1 h1 => ?_
 refine h1.putH (hh.re C1) (by simp; omega) fun C2 h2 => ?_
 exact hk C2 ⟨_, (swap_perm hi' hj').trans hp, h2⟩
theorem IOwn.dt {T : TypeId} {kd : IntKind} {v : Value} {l : List Int} (h : IOwn T kd v l C) : Dt T kd v l C := ⟨l, .refl _, h⟩
def up1 (vs : List Value) : Nat := match vs with
 | .int _ q :: _ => (q + 1).toNat
 | _ => 0
theorem up1_eq {k : IntKind} {q : Int} {r : List Value} : up1 (.int k q :: r) = (q + 1).toNat := rfl
end
end Go.Sx
set_option maxRecDepth 100000
namespace Go.Proofs
open Go Go.Sx
abbrev DT (v : Value) (l0 : List Int) (C : Hp) : Prop := Dt 31 .u32 v l0 C
def SQ (v : Value) (l0 : List Int) : Value → Hp → Prop := fun r C' => r = .tuple #[] ∧ DT v l0 C'
section
variable {v : Value} {l0 : List Int} {C : Hp}
theorem nan_ok (x : Int) (B : Hp) : Rd Tryz.prog 240 #[.int .u32 x] B (· = .bool false) := by
 intro g
 refine L240_sound (R := FnR _) ?_
 unfold L240
 refine Bin.neD ?_
 exact RdR.mk (.refl _) (by simp)
theorem less_ok (x y : Int) (B : Hp) : Rd Tryz.prog 230 #[.int .u32 x, .int .u32 y] B (· = .bool (decide (x < y))) := by
 intro g
 refine L230_sound (R := FnR _) ?_
 unfold L230
 intro J1 hJ1
 refine CallF.rd .here (nan_ok x B) ?_
 rintro w rfl
 refine Split.past rfl ?_
 refine Pick.mk ?_
 refine Bin.lss ?_
 refine Pick.mk ?_
 exact JE.mk (hJ1 _ _ fun gs => RdR.mk (.refl _) rfl)
theorem isort_ok (h : DT v l0 C) {a b : Nat} (hab : a ≤ b) (hb : b ≤ l0.length) (hmax : l0.length < 1152921504606846976) : Fc Tryz.prog 224 #[v, .int .i64 (a : Int), .int .i64 (b : Int)] C (SQ v l0) := by
 intro g
 refine L224_sound (R := FnR _) ?_
 unfold L224
 refine Bin.addN (b := 1) (by simp [lim]; omega) ?_
 refine ⟨fun vs H => ∃ i : Nat, vs = [.int .i64 (i : Int)] ∧ a < i ∧ DT v l0 H, fun vs _ => l0.length - nAt vs 0, JE.mk ⟨a + 1, rfl, by omega, h⟩, ?_⟩
 rintro w H ⟨i, hw, hi, hd⟩ gs
 simp only [List.cons.injEq, and_true] at hw
 subst hw
 refine Bin.ltN (Br.dec (fun hlt => ?_) (fun _ => FnR.here ⟨rfl, hd⟩))
 refine ⟨fun vs H => ∃ j : Nat, vs = [.int .i64 (j : Int)] ∧ a ≤ j ∧ j ≤ i ∧ DT v l0 H, fun vs _ => nAt vs 0, JE.mk ⟨i, rfl, by omega, Nat.le_refl _, hd⟩, ?_⟩
 rintro w H ⟨j, hw, haj, hji, hd⟩ gs
 simp only [List.cons.injEq, and_true] at hw
 subst hw
 intro J hJ
 have no : J [.bool false] H := hJ _ _ fun gs => Br.no (Bin.addN (b := 1) (by simp [lim]; omega) (Back.mk ⟨i + 1, rfl, by omega, hd⟩ (by simp [nAt]; omega)))
 have yes : a < j → J [.bool true] H := fun haj => hJ _ _ fun gs => Br.yes (DR.self (Bin.subN (b := 1) (by simp [lim]; omega) (by omega) (Bin.subN (b := 1) (by simp [lim]; omega) (by omega)
  (hd.swap .here (by omega) (by omega) fun C' hd' => Bin.subN (b := 1) (by simp [lim]; omega) (by omega) (Back.mk ⟨j - 1, rfl, by omega, by omega, hd'⟩ (by simp [nAt]; omega))))))
 refine DR.self (Bin.gtN (Br.dec (fun hgt => ?_) fun _ => JE.mk no))
 refine hd.ld (fun _ h => h) (by omega) fun x => ?_
 refine Bin.subN (b := 1) (by simp [lim]; omega) (by omega) ?_
 refine hd.ld (fun _ h => h) (by omega) fun y => ?_
 intro F
 refine CallF.rd .here (less_ok x y _) ?_
 rintro w rfl
 refine Pick.mk ?_
 by_cases e : x < y
 ·rw [decide_eq_true e]; exact JE.mk (yes hgt)
 ·rw [decide_eq_false e]; exact JE.mk no
theorem rev_ok (h : DT v l0 C) {a b : Nat} (hab : a < b) (hb : b ≤ l0.length) (hmax : l0.length < 1152921504606846976) : Fc Tryz.prog 228 #[v, .int .i64 (a : Int), .int .i64 (b : Int)] C (SQ v l0) := by
 intro g
 refine L228_sound (R := FnR _) ?_
 unfold L228
 refine Bin.subN (b := 1) (by simp [lim]; omega) (by omega) ?_
 refine ⟨fun vs H => ∃ i j : Nat, vs = [.int .i64 (i : Int), .int .i64 (j : Int)] ∧ j < l0.length ∧ DT v l0 H, fun vs _ => nAt vs 1 - nAt vs 0, JE.mk ⟨a, b - 1, rfl, by omega, h⟩, ?_⟩
 rintro w w' H ⟨i, j, hw, hj, hd⟩ gs
 simp only [List.cons.injEq, and_true] at hw
 obtain ⟨rfl, rfl⟩ := hw
 refine Bin.ltN (Br.dec (fun hlt => ?_) (fun _ => FnR.here ⟨rfl, hd⟩))
 refine DR.self (hd.swap .here (by omega) (by omega) fun C' hd' => ?_)
 refine Bin.addN (b := 1) (by simp [lim]; omega) ?_
 refine Bin.subN (b := 1) (by simp [lim]; omega) (by omega) ?_
 exact Back.mk ⟨i + 1, j - 1, rfl, by omega, hd'⟩ (by simp [nAt]; omega)
theorem pins_ok (h : DT v l0 C) {a b : Nat} (hab : a < b) (hb : b ≤ l0.length) (hmax : l0.length < 1152921504606846976) : Fc Tryz.prog 229 #[v, .int .i64 (a : Int), .int .i64 (b : Int)] C (fun r C' => (∃ t, r = .bool t) ∧ DT v l0 C') := by
 intro g
 refine L229_sound (R := FnR _) ?_
 unfold L229
 refine Bin.addN (b := 1) (by simp [lim]; omega) ?_
 refine ⟨fun vs H => ∃ i k : Nat, vs = [.int .i64 (i : Int), .int .i64 (k : Int)] ∧ a < i ∧ i ≤ b ∧ DT v l0 H, fun vs _ => 5 - nAt vs 1, JE.mk ⟨a + 1, 0, rfl, by omega, by omega, h⟩, ?_⟩
 rintro w w' H ⟨i, k, hw, hai, hib, hd⟩ gs
 simp only [List.cons.injEq, and_true] at hw
 obtain ⟨rfl, rfl⟩ := hw
 refine Bin.ltN (b := 5) (Br.dec (fun hk => ?_) (fun _ => FnR.here ⟨⟨_, rfl⟩, hd⟩))
 intro J9 hJ9
 have next : ∀ (i' : Nat) H', a < i' → i' ≤ b → DT v l0 H' → J9 [.int .i64 (i' : Int)] H' := fun i' H' h1 h2 hd' => hJ9 _ _ fun gs => Bin.addN (b := 1) (by simp [lim]; omega) (Back.mk ⟨i', k + 1, rfl, h1, h2, hd'⟩ (by simp [nAt]; omega))
 refine ⟨fun vs H => ∃ i : Nat, vs = [.int .i64 (i : Int)] ∧ a < i ∧ i ≤ b ∧ DT v l0 H, fun vs _ => b - nAt vs 0, JE.mk ⟨i, rfl, hai, hib, hd⟩, ?_⟩
 clear hd hai hib
 rintro w H ⟨i, hw, hai, hib, hd⟩ gs
 simp only [List.cons.injEq, and_true] at hw
 subst hw
 intro J19 hJ19
 have yes : i < b → J19 [.bool true] H := fun hlt => hJ19 _ _ fun gs => Br.yes (Bin.addN (b := 1) (by simp [lim]; omega) (Back.mk ⟨i + 1, rfl, by omega, by omega, hd⟩ (by simp [nAt]; omega)))
 have no : J19 [.bool false] H := by
  refine hJ19 _ _ fun gs => Br.no ?_
  refine Bin.eqN (Br.dec (fun he => FnR.here ⟨⟨_, rfl⟩, hd⟩) (fun hne => ?_))
  refine Bin.subN (by simp [lim]; omega) (by omega) ?_
  refine Bin.ltN (b := 50) (Br.dec (fun he => FnR.here ⟨⟨_, rfl⟩, hd⟩) (fun _ => ?_))
  refine DR.self ?_
  refine Bin.subN (b := 1) (by simp [lim]; omega) (by omega) ?_
  refine Bin.subN (b := 1) (by simp [lim]; omega) (by omega) ?_
  refine hd.swap .here (by omega) (by omega) fun C1 hd1 => ?_
  intro J38 hJ38
  have tail : ∀ H', DT v l0 H' → J38 [] H' := fun H' hd' => by
   refine hJ38 _ fun gs => ?_
   refine Bin.subN (by simp [lim]; omega) (by omega) ?_
   refine Bin.geN (b := 2) (Br.dec (fun h2 => ?_) (fun _ => JE.mk (next i _ hai hib hd')))
   refine Bin.addN (b := 1) (by simp [lim]; omega) ?_
   refine ⟨fun vs H => ∃ j : Nat, vs = [.int .i64 (j : Int)] ∧ 0 < j ∧ DT v l0 H, fun vs _ => b - nAt vs 0, JE.mk ⟨i + 1, rfl, by omega, hd'⟩, ?_⟩
   rintro w H ⟨j, hw, hj0, hdj⟩ gs
   simp only [List.cons.injEq, and_true] at hw
   subst hw
   refine Bin.ltN (Br.dec (fun hlt => ?_) (fun _ => JE.mk (next i _ hai hib hdj)))
   refine DR.self ?_
   refine hdj.ld (fun _ h => h) (by omega) fun x => ?_
   refine Bin.subN (b := 1) (by simp [lim]; omega) (by omega) ?_
   refine hdj.ld (fun _ h => h) (by omega) fun y => ?_
   refine CallF.rd .here (less_ok x y _) ?_
   rintro w rfl
   refine Un.not ?_
   refine Br.mk (fun _ => JE.mk (next i _ hai hib hdj)) (fun _ => ?_)
   refine DR.self ?_
   refine Bin.subN (b := 1) (by simp [lim]; omega) (by omega) ?_
   refine Bin.subN (b := 1) (by simp [lim]; omega) (by omega) ?_
   refine hdj.swap .here (by omega) (by omega) fun C2 hd2 => ?_
   refine Bin.addN (b := 1) (by simp [lim]; omega) ?_
   exact Back.mk ⟨j + 1, rfl, by omega, hd2⟩ (by simp [nAt]; omega)
  refine Bin.subN (by simp [lim]; omega) (by omega) ?_
  refine Bin.geN (b := 2) (Br.dec (fun h2 => ?_) (fun _ => JE.mk (tail _ hd1)))
  refine Bin.subN (b := 1) (by simp [lim]; omega) (by omega) ?_
  refine ⟨fun vs H => ∃ j : Nat, vs = [.int .i64 (j : Int)] ∧ j < l0.length ∧ DT v l0 H, fun vs _ => nAt vs 0, JE.mk ⟨i - 1, rfl, by omega, hd1⟩, ?_⟩
  rintro w H ⟨j, hw, hj0, hdj⟩ gs
  simp only [List.cons.injEq, and_true] at hw
  subst hw
  refine Bin.geN (b := 1) (Br.dec (fun hlt => ?_) (fun _ => JE.mk (tail _ hdj)))
  refine DR.self ?_
  refine hdj.ld (fun _ h => h) (by omega) fun x => ?_
  refine Bin.subN (b := 1) (by simp [lim]; omega) (by omega) ?_
  refine hdj.ld (fun _ h => h) (by omega) fun y => ?_
  refine CallF.rd .here (less_ok x y _) ?_
  rintro w rfl
  refine Un.not ?_
  refine Br.mk (fun _ => JE.mk (tail _ hdj)) (fun _ => ?_)
  refine DR.self ?_
  refine Bin.subN (b := 1) (by simp [lim]; omega) (by omega) ?_
  refine Bin.subN (b := 1) (by simp [lim]; omega) (by omega) ?_
  refine hdj.swap .here (by omega) (by omega) fun C2 hd2 => ?_
  refine Bin.subN (b := 1) (by simp [lim]; omega) (by omega) ?_
  exact Back.mk ⟨j - 1, rfl, by omega, hd2⟩ (by simp [nAt]; omega)
 refine DR.self (Bin.ltN (Br.dec (fun hlt => ?_) fun _ => JE.mk no))
 refine hd.ld (fun _ h => h) (by omega) fun x => ?_
 refine Bin.subN (b := 1) (by simp [lim]; omega) (by omega) ?_
 refine hd.ld (fun _ h => h) (by omega) fun y => ?_
 intro F
 refine CallF.rd .here (less_ok x y _) ?_
 rintro w rfl
 refine Un.not ?_
 refine Pick.mk ?_
 by_cases e : x < y
 ·rw [decide_eq_true e]; exact JE.mk no
 ·rw [decide_eq_false e]; exact JE.mk (yes hlt)
theorem parteq_ok (h : DT v l0 C) {a b p : Nat} (hp : a ≤ p ∧ p < b) (hb : b ≤ l0.length) (hmax : l0.length < 1152921504606846976) : Fc Tryz.prog 231 #[v, .int .i64 (a : Int), .int .i64 (b : Int), .int .i64 (p : Int)] C
  (fun r C' => (∃ m : Nat, r = .int .i64 (m : Int) ∧ a < m ∧ m ≤ b) ∧ DT v l0 C') := by
 intro g
 refine L231_sound (R := FnR _) ?_
 unfold L231
 refine DR.self (h.swap .here (by omega) (by omega) fun C1 hd => ?_)
 refine Bin.addN (b := 1) (by simp [lim]; omega) ?_
 refine Bin.subN (b := 1) (by simp [lim]; omega) (by omega) ?_
 refine ⟨fun vs H => ∃ i j : Nat, vs = [.int .i64 (i : Int), .int .i64 (j : Int)] ∧ a < i ∧ i ≤ b ∧ a ≤ j ∧ j < b ∧ DT v l0 H, fun vs _ => b - nAt vs 0, JE.mk ⟨a + 1, b - 1, rfl, by omega, by omega, by omega, by omega, hd⟩, ?_⟩
 clear hd
 rintro w w' H0 ⟨i0, j0, hw, hai, hib, haj, hjb, hd⟩ gs
 simp only [List.cons.injEq, and_true] at hw
 obtain ⟨rfl, rfl⟩ := hw
 refine ⟨fun vs H => ∃ i : Nat, vs = [.int .i64 (i : Int)] ∧ i0 ≤ i ∧ i ≤ b ∧ DT v l0 H, fun vs _ => b - nAt vs 0, JE.mk ⟨i0, rfl, Nat.le_refl _, hib, hd⟩, ?_⟩
 clear hd hib
 rintro w H ⟨i, hw, hi0, hib, hd⟩ gs
 simp only [List.cons.injEq, and_true] at hw
 subst hw
 intro J23 hJ23
 have yes : i ≤ j0 → J23 [.bool true] H := fun hle => hJ23 _ _ fun gs => Br.yes (Bin.addN (b := 1) (by simp [lim]; omega) (Back.mk ⟨i + 1, rfl, by omega, by omega, hd⟩ (by simp [nAt]; omega)))
 have no : J23 [.bool false] H := by
  refine hJ23 _ _ fun gs => Br.no ?_
  refine ⟨fun vs H => ∃ j : Nat, vs = [.int .i64 (j : Int)] ∧ a ≤ j ∧ j < b ∧ DT v l0 H, fun vs _ => nAt vs 0, JE.mk ⟨j0, rfl, haj, hjb, hd⟩, ?_⟩
  rintro w H' ⟨j, hw, haj', hjb', hd'⟩ gs
  simp only [List.cons.injEq, and_true] at hw
  subst hw
  intro J33 hJ33
  have yes2 : i ≤ j → J33 [.bool true] H' := fun hle => hJ33 _ _ fun gs => Br.yes (Bin.subN (b := 1) (by simp [lim]; omega) (by omega) (Back.mk ⟨j - 1, rfl, by omega, by omega, hd'⟩ (by simp [nAt]; omega)))
  have no2 : J33 [.bool false] H' := by
   refine hJ33 _ _ fun gs => Br.no ?_
   refine Bin.gtN (Br.dec (fun _ => FnR.here ⟨⟨i, rfl, by omega, hib⟩, hd'⟩) (fun hle => ?_))
   refine DR.self (hd'.swap .here (by omega) (by omega) fun C2 hd2 => ?_)
   refine Bin.addN (b := 1) (by simp [lim]; omega) ?_
   refine Bin.subN (b := 1) (by simp [lim]; omega) (by omega) ?_
   exact Back.mk ⟨i + 1, j - 1, rfl, by omega, by omega, by omega, by omega, hd2⟩ (by simp [nAt]; omega)
  refine DR.self (Bin.leN (Br.dec (fun hle => ?_) fun _ => JE.mk no2))
  refine hd'.ld (fun _ h => h) (by omega) fun x => ?_
  refine hd'.ld (fun _ h => h) (by omega) fun y => ?_
  intro F
  refine CallF.rd .here (less_ok x y _) ?_
  rintro w rfl
  refine Pick.mk ?_
  by_cases e : x < y
  ·rw [decide_eq_true e]; exact JE.mk (yes2 hle)
  ·rw [decide_eq_false e]; exact JE.mk no2
 refine DR.self (Bin.leN (Br.dec (fun hle => ?_) fun _ => JE.mk no))
 refine hd.ld (fun _ h => h) (by omega) fun x => ?_
 refine hd.ld (fun _ h => h) (by omega) fun y => ?_
 intro F
 refine CallF.rd .here (less_ok x y _) ?_
 rintro w rfl
 refine Un.not ?_
 refine Pick.mk ?_
 by_cases e : x < y
 ·rw [decide_eq_true e]; exact JE.mk no
 ·rw [decide_eq_false e]; exact JE.mk (yes hle)
end
end Go.Proofs
set_option maxRecDepth 100000
namespace Go.Proofs
open Go Go.Sx
section
variable {v : Value} {l0 : List Int} {C : Hp}
def PQ (v : Value) (l0 : List Int) (a b : Nat) : Value → Hp → Prop := fun r C' => (∃ (m : Nat) (t : Bool), r = .tuple #[.int .i64 (m : Int), .bool t] ∧ a ≤ m ∧ m < b) ∧ DT v l0 C'
theorem part_ok (h : DT v l0 C) {a b p : Nat} (hp : a ≤ p ∧ p < b) (hb : b ≤ l0.length) (hmax : l0.length < 1152921504606846976) : Fc Tryz.prog 232 #[v, .int .i64 (a : Int), .int .i64 (b : Int), .int .i64 (p : Int)] C (PQ v l0 a b) := by
 intro g
 refine L232_sound (R := FnR _) ?_
 unfold L232
 refine DR.self (h.swap .here (by omega) (by omega) fun C1 hd => ?_)
 refine Bin.addN (b := 1) (by simp [lim]; omega) ?_
 refine Bin.subN (b := 1) (by simp [lim]; omega) (by omega) ?_
 refine ⟨fun vs H => ∃ i : Nat, vs = [.int .i64 (i : Int)] ∧ a < i ∧ i ≤ b ∧ DT v l0 H, fun vs _ => b - nAt vs 0, JE.mk ⟨a + 1, rfl, by omega, by omega, hd⟩, ?_⟩
 clear hd
 rintro w H ⟨i, hw, hai, hib, hd⟩ gs
 simp only [List.cons.injEq, and_true] at hw
 subst hw
 intro J17 hJ17
 have yes : i < b → J17 [.bool true] H := fun hle => hJ17 _ _ fun gs => Br.yes (Bin.addN (b := 1) (by simp [lim]; omega) (Back.mk ⟨i + 1, rfl, by omega, by omega, hd⟩ (by simp [nAt]; omega)))
 have no : J17 [.bool false] H := by
  refine hJ17 _ _ fun gs => Br.no ?_
  refine ⟨fun vs H => ∃ j : Nat, vs = [.int .i64 (j : Int)] ∧ a ≤ j ∧ j < b ∧ DT v l0 H, fun vs _ => nAt vs 0, JE.mk ⟨b - 1, rfl, by omega, by omega, hd⟩, ?_⟩
  clear hd
  rintro w H ⟨j, hw, haj, hjb, hd⟩ gs
  simp only [List.cons.injEq, and_true] at hw
  subst hw
  intro J27 hJ27
  have yes2 : i ≤ j → J27 [.bool true] H := fun hle => hJ27 _ _ fun gs => Br.yes (Bin.subN (b := 1) (by simp [lim]; omega) (by omega) (Back.mk ⟨j - 1, rfl, by omega, by omega, hd⟩ (by simp [nAt]; omega)))
  have no2 : J27 [.bool false] H := by
   refine hJ27 _ _ fun gs => Br.no ?_
   refine Bin.gtN (Br.dec (fun _ => ?_) (fun hle => ?_))
   ·refine DR.self (hd.swap .here (by omega) (by omega) fun C2 hd2 => ?_)
    exact FnR.here ⟨⟨j, true, rfl, haj, hjb⟩, hd2⟩
   ·refine DR.self (hd.swap .here (by omega) (by omega) fun C2 hd2 => ?_)
    refine Bin.addN (b := 1) (by simp [lim]; omega) ?_
    refine Bin.subN (b := 1) (by simp [lim]; omega) (by omega) ?_
    refine ⟨fun vs H => ∃ i j : Nat, vs = [.int .i64 (i : Int), .int .i64 (j : Int)] ∧ a < i ∧ i ≤ b ∧ a ≤ j ∧ j < b ∧ DT v l0 H, fun vs _ => b - nAt vs 0, JE.mk ⟨i + 1, j - 1, rfl, by omega, by omega, by omega, by omega, hd2⟩, ?_⟩
    clear hd2 hd hai hib haj hjb hle yes2 hJ27 J27 hJ17 J17 yes
    rintro w w' H0 ⟨i0, j0, hw, hai, hib, haj, hjb, hd⟩ gs
    simp only [List.cons.injEq, and_true] at hw
    obtain ⟨rfl, rfl⟩ := hw
    refine ⟨fun vs H => ∃ i : Nat, vs = [.int .i64 (i : Int)] ∧ i0 ≤ i ∧ i ≤ b ∧ DT v l0 H, fun vs _ => b - nAt vs 0, JE.mk ⟨i0, rfl, Nat.le_refl _, hib, hd⟩, ?_⟩
    clear hd hib
    rintro w H ⟨i, hw, hi0, hib, hd⟩ gs
    simp only [List.cons.injEq, and_true] at hw
    subst hw
    intro J64 hJ64
    have yes : i ≤ j0 → J64 [.bool true] H := fun hle => hJ64 _ _ fun gs => Br.yes (Bin.addN (b := 1) (by simp [lim]; omega) (Back.mk ⟨i + 1, rfl, by omega, by omega, hd⟩ (by simp [nAt]; omega)))
    have no : J64 [.bool false] H := by
     refine hJ64 _ _ fun gs => Br.no ?_
     refine ⟨fun vs H => ∃ j : Nat, vs = [.int .i64 (j : Int)] ∧ a ≤ j ∧ j < b ∧ DT v l0 H, fun vs _ => nAt vs 0, JE.mk ⟨j0, rfl, haj, hjb, hd⟩, ?_⟩
     rintro w H' ⟨j, hw, haj', hjb', hd'⟩ gs
     simp only [List.cons.injEq, and_true] at hw
     subst hw
     intro J74 hJ74
     have yes2 : i ≤ j → J74 [.bool true] H' := fun hle => hJ74 _ _ fun gs => Br.yes (Bin.subN (b := 1) (by simp [lim]; omega) (by omega) (Back.mk ⟨j - 1, rfl, by omega, by omega, hd'⟩ (by simp [nAt]; omega)))
     have no2 : J74 [.bool false] H' := by
      refine hJ74 _ _ fun gs => Br.no ?_
      refine Bin.gtN (Br.dec (fun _ => ?_) (fun hle => ?_))
      ·refine DR.self (hd'.swap .here (by omega) (by omega) fun C2 hd2 => ?_)
       exact FnR.here ⟨⟨j, false, rfl, haj', hjb'⟩, hd2⟩
      ·refine DR.self (hd'.swap .here (by omega) (by omega) fun C2 hd2 => ?_)
       refine Bin.addN (b := 1) (by simp [lim]; omega) ?_
       refine Bin.subN (b := 1) (by simp [lim]; omega) (by omega) ?_
       exact Back.mk ⟨i + 1, j - 1, rfl, by omega, by omega, by omega, by omega, hd2⟩ (by simp [nAt]; omega)
     refine DR.self (Bin.leN (Br.dec (fun hle => ?_) fun _ => JE.mk no2))
     refine hd'.ld (fun _ h => h) (by omega) fun x => ?_
     refine hd'.ld (fun _ h => h) (by omega) fun y => ?_
     intro F
     refine CallF.rd .here (less_ok x y _) ?_
     rintro w rfl
     refine Un.not ?_
     refine Pick.mk ?_
     by_cases e : x < y
     ·rw [decide_eq_true e]; exact JE.mk no2
     ·rw [decide_eq_false e]; exact JE.mk (yes2 hle)
    refine DR.self (Bin.leN (Br.dec (fun hle => ?_) fun _ => JE.mk no))
    refine hd.ld (fun _ h => h) (by omega) fun x => ?_
    refine hd.ld (fun _ h => h) (by omega) fun y => ?_
    intro F
    refine CallF.rd .here (less_ok x y _) ?_
    rintro w rfl
    refine Pick.mk ?_
    by_cases e : x < y
    ·rw [decide_eq_true e]; exact JE.mk (yes hle)
    ·rw [decide_eq_false e]; exact JE.mk no
  refine DR.self (Bin.leN (Br.dec (fun hle => ?_) fun _ => JE.mk no2))
  refine hd.ld (fun _ h => h) (by omega) fun x => ?_
  refine hd.ld (fun _ h => h) (by omega) fun y => ?_
  intro F
  refine CallF.rd .here (less_ok x y _) ?_
  rintro w rfl
  refine Un.not ?_
  refine Pick.mk ?_
  by_cases e : x < y
  ·rw [decide_eq_true e]; exact JE.mk no2
  ·rw [decide_eq_false e]; exact JE.mk (yes2 hle)
 refine DR.self (Bin.leN (Br.dec (fun hle => ?_) fun _ => JE.mk no))
 refine hd.ld (fun _ h => h) (by omega) fun x => ?_
 refine hd.ld (fun _ h => h) (by omega) fun y => ?_
 intro F
 refine CallF.rd .here (less_ok x y _) ?_
 rintro w rfl
 refine Pick.mk ?_
 by_cases e : x < y
 ·rw [decide_eq_true e]; exact JE.mk (yes (by omega))
 ·rw [decide_eq_false e]; exact JE.mk no
theorem sift_ok (h : DT v l0 C) {lo hi f : Nat} (hlo : lo ≤ l0.length) (hb : f + hi ≤ l0.length) (hmax : l0.length < 1152921504606846976) : Fc Tryz.prog 235 #[v, .int .i64 (lo : Int), .int .i64 (hi : Int), .int .i64 (f : Int)] C (SQ v l0) := by
 intro g
 refine L235_sound (R := FnR _) ?_
 unfold L235
 refine ⟨fun vs H => ∃ i : Nat, vs = [.int .i64 (i : Int)] ∧ i ≤ l0.length ∧ DT v l0 H, fun vs _ => l0.length - nAt vs 0, JE.mk ⟨lo, rfl, hlo, h⟩, ?_⟩
 rintro w H ⟨r, hw, hr, hd⟩ gs
 simp only [List.cons.injEq, and_true] at hw
 subst hw
 refine Bin.mulN (a := 2) (by simp [lim]; omega) ?_
 refine Bin.addN (b := 1) (by simp [lim]; omega) ?_
 refine Bin.geN (Br.dec (fun _ => FnR.here ⟨rfl, hd⟩) (fun hlt => ?_))
 intro J9 hJ9
 have go : ∀ c : Nat, r < c → c < hi → J9 [.int .i64 (c : Int)] H := fun c hrc hchi => by
  refine hJ9 _ _ fun gs => ?_
  refine DR.self ?_
  refine Bin.addN (by simp [lim]; omega) ?_
  refine hd.ld (fun _ h => h) (by omega) fun x => ?_
  refine Bin.addN (by simp [lim]; omega) ?_
  refine hd.ld (fun _ h => h) (by omega) fun y => ?_
  refine CallF.rd .here (less_ok x y _) ?_
  rintro w rfl
  refine Un.not ?_
  refine Br.mk (fun _ => FnR.here ⟨rfl, hd⟩) (fun _ => ?_)
  refine DR.self ?_
  refine Bin.addN (by simp [lim]; omega) ?_
  refine Bin.addN (by simp [lim]; omega) ?_
  refine Bin.addN (by simp [lim]; omega) ?_
  refine hd.swapM .here (i := f + r) (j := f + c) (B := fun k => Bin .num .add (.int .i64 (f : Int)) (.int .i64 (r : Int)) k) (by omega) (by omega) (fun k hk => Bin.addN (by simp [lim]; omega) hk) fun C1 hd1 => ?_
  exact Back.mk ⟨c, rfl, by omega, hd1⟩ (by simp [nAt]; omega)
 intro J36 hJ36
 have stay : J36 [.bool false] H := hJ36 _ _ fun gs => Br.no (JE.mk (go _ (by omega) (by omega)))
 refine DR.self ?_
 refine Bin.addN (b := 1) (by simp [lim]; omega) ?_
 refine Bin.ltN (Br.dec (fun hc => ?_) fun _ => JE.mk stay)
 refine Bin.addN (by simp [lim]; omega) ?_
 refine hd.ld (fun _ h => h) (by omega) fun x => ?_
 refine Bin.addN (by simp [lim]; omega) ?_
 refine Bin.addN (b := 1) (by simp [lim]; omega) ?_
 refine hd.ld (fun _ h => h) (by omega) fun y => ?_
 intro F
 refine CallF.rd .here (less_ok x y _) ?_
 rintro w rfl
 refine Pick.mk ?_
 by_cases e : x < y
 ·rw [decide_eq_true e]
  exact JE.mk (hJ36 _ _ fun gs => Br.yes (Bin.addN (b := 1) (by simp [lim]; omega) (JE.mk (go _ (by omega) hc))))
 ·rw [decide_eq_false e]; exact JE.mk stay
theorem hsort_ok (h : DT v l0 C) {a b : Nat} (hab : a < b) (hb : b ≤ l0.length) (hmax : l0.length < 1152921504606846976) : Fc Tryz.prog 225 #[v, .int .i64 (a : Int), .int .i64 (b : Int)] C (SQ v l0) := by
 intro g
 refine L225_sound (R := FnR _) ?_
 unfold L225
 refine Bin.subN (by simp [lim]; omega) (by omega) ?_
 refine Bin.subN (b := 1) (by simp [lim]; omega) (by omega) ?_
 refine Bin.divN (b := 2) (by simp [lim]; omega) (by omega) ?_
 refine ⟨fun vs H => ∃ q : Int, vs = [.int .i64 q] ∧ -1 ≤ q ∧ q < (b : Int) - a ∧ DT v l0 H, fun vs _ => up1 vs, JE.mk ⟨(((b - a - 1) / 2 : Nat) : Int), rfl, by omega, by omega, h⟩, ?_⟩
 rintro w H ⟨q, hw, hq1, hq2, hd⟩ gs
 simp only [List.cons.injEq, and_true] at hw
 subst hw
 refine Bin.geq (Br.dec (fun h0 => ?_) (fun _ => ?_))
 ·obtain ⟨i, rfl⟩ : ∃ i : Nat, q = i := ⟨q.toNat, by omega⟩
  refine CallF.fn .here (sift_ok hd (by omega) (by omega) hmax) ?_
  rintro w C1 ⟨rfl, hd1⟩
  refine Bin.sub64 (c := (i : Int) - 1) rfl (by omega) ?_
  exact Back.mk ⟨(i : Int) - 1, rfl, by omega, by omega, hd1⟩ (by rw [up1_eq, up1_eq]; omega)
 ·refine Bin.subN (b := 1) (by simp [lim]; omega) (by omega) ?_
  refine ⟨fun vs H => ∃ q : Int, vs = [.int .i64 q] ∧ -1 ≤ q ∧ q < (b : Int) - a ∧ DT v l0 H, fun vs _ => up1 vs, JE.mk ⟨((b - a - 1 : Nat) : Int), rfl, by omega, by omega, hd⟩, ?_⟩
  clear hd
  rintro w H ⟨q, hw, hq1, hq2, hd⟩ gs
  simp only [List.cons.injEq, and_true] at hw
  subst hw
  refine Bin.geq (Br.dec (fun h0 => ?_) (fun _ => FnR.here ⟨rfl, hd⟩))
  obtain ⟨i, rfl⟩ : ∃ i : Nat, q = i := ⟨q.toNat, by omega⟩
  refine DR.self ?_
  refine Bin.addN (by simp [lim]; omega) ?_
  refine Bin.addN (by simp [lim]; omega) ?_
  refine hd.swap .here (by omega) (by omega) fun C1 hd1 => ?_
  refine CallF.fn .here (sift_ok hd1 (lo := 0) (by omega) (by omega) hmax) ?_
  rintro w C2 ⟨rfl, hd2⟩
  refine Bin.sub64 (c := (i : Int) - 1) rfl (by omega) ?_
  exact Back.mk ⟨(i : Int) - 1, rfl, by omega, by omega, hd2⟩ (by rw [up1_eq, up1_eq]; omega)
end
end Go.Proofs
set_option maxRecDepth 100000
namespace Go.Proofs
open Go Go.Sx
section
variable {v : Value} {l0 : List Int} {C : Hp}
theorem xlt {a b : Nat} (ha : a < 18446744073709551616) (hb : b < 18446744073709551616) : a ^^^ b < 18446744073709551616 := Nat.xor_lt_two_pow (n := 64) ha hb
theorem xnext_ok (b x : Nat) (hx : x < 18446744073709551616) : Fc Tryz.prog 237 #[ptr b] [(b, .cells #[.int .u64 (x : Int)] 295 (0, 0))]
  (fun r H => ∃ y : Nat, y < 18446744073709551616 ∧ r = .int .u64 (y : Int) ∧ H = [(b, .cells #[.int .u64 (y : Int)] 295 (0, 0))]) := by
 intro g
 refine L237_sound (R := FnR _) ?_
 unfold L237
 refine DR.self ?_
 refine Nil.ptr (Ld.mk (by exact .head _) rfl ?_)
 refine Nil.ptr (Ld.mk (by exact .head _) rfl ?_)
 refine Bin.shlU (b := 13) ?_
 refine Bin.xorN hx (Nat.mod_lt _ (by decide)) ?_
 have h1 := xlt hx (Nat.mod_lt (x <<< 13) (show 0 < 18446744073709551616 by decide))
 generalize x ^^^ x <<< 13 % 18446744073709551616 = x1 at h1
 refine Nil.ptr (St.one (by exact .head _) rfl (by simp) rfl ?_)
 refine DR.self ?_
 refine Nil.ptr (Ld.mk (by exact .head _) rfl ?_)
 refine Nil.ptr (Ld.mk (by exact .head _) rfl ?_)
 refine Bin.shrN (b := 7) h1 ?_
 have h2 : x1 >>> 7 < 18446744073709551616 := by rw [Nat.shiftRight_eq_div_pow]; omega
 refine Bin.xorN h1 h2 ?_
 have h3 := xlt h1 h2
 generalize x1 ^^^ x1 >>> 7 = x2 at h3
 refine Nil.ptr (St.one (by exact .head _) rfl (by simp) rfl ?_)
 refine DR.self ?_
 refine Nil.ptr (Ld.mk (by exact .head _) rfl ?_)
 refine Nil.ptr (Ld.mk (by exact .head _) rfl ?_)
 refine Bin.shlU (b := 17) ?_
 refine Bin.xorN h3 (Nat.mod_lt _ (by decide)) ?_
 have h4 := xlt h3 (Nat.mod_lt (x2 <<< 17) (show 0 < 18446744073709551616 by decide))
 generalize x2 ^^^ x2 <<< 17 % 18446744073709551616 = x3 at h4
 refine Nil.ptr (St.one (by exact .head _) rfl (by simp) rfl ?_)
 refine Nil.ptr (Ld.mk (by exact .head _) rfl ?_)
 exact FnR.here ⟨x3, h4, rfl, rfl⟩
theorem blen_ok {x : Nat} (hx : x < 18446744073709551616) (B : Hp) : Rd Tryz.prog 221 #[.int .u64 (x : Int)] B (fun v => ∃ r : Nat, IsLen x r ∧ v = .int .i64 (r : Int)) := by
 intro g
 refine L221_sound (R := FnR _) ?_
 unfold L221
 refine Br.no ?_
 refine CallF.rd .here (len64_ok hx B) ?_
 rintro w hw
 exact RdR.mk (.refl _) hw
theorem npow_ok {x : Nat} (h0 : 0 < x) (hx : x < 1152921504606846976) (B : Hp) : Rd Tryz.prog 236 #[.int .i64 (x : Int)] B (fun v => ∃ r : Nat, 0 < r ∧ r ≤ 2 * x ∧ v = .int .u64 (r : Int)) := by
 intro g
 refine L236_sound (R := FnR _) ?_
 unfold L236
 refine ConvI.nat (by simp [lim]; omega) ?_
 refine CallF.rd .here (blen_ok (by omega) B) ?_
 rintro w ⟨r, hr, rfl⟩
 have hr1 : 0 < r := by
  rcases Nat.eq_zero_or_pos r with e | e
  ·subst e; have := hr.1; omega
  ·exact e
 have h2 : 2 ^ (r - 1) ≤ x := by
  rcases hr.2 with e | e
  ·omega
  ·exact e
 have h3 : 2 ^ r = 2 * 2 ^ (r - 1) := by
  obtain ⟨k, rfl⟩ : ∃ k, r = k + 1 := ⟨r - 1, by omega⟩
  rw [Nat.add_sub_cancel, Nat.pow_succ]; omega
 refine Bin.shlU (a := 1) ?_
 have e : 1 <<< r % 18446744073709551616 = 2 ^ r := by
  rw [Nat.shiftLeft_eq, Nat.one_mul]
  exact Nat.mod_eq_of_lt (by omega)
 rw [e]
 exact RdR.mk (.refl _) ⟨2 ^ r, Nat.two_pow_pos r, by omega, rfl⟩
theorem brk_ok (h : DT v l0 C) {a b : Nat} (hab : a < b) (hb : b ≤ l0.length) (hmax : l0.length < 1152921504606846976) : Fc Tryz.prog 226 #[v, .int .i64 (a : Int), .int .i64 (b : Int)] C (SQ v l0) := by
 intro g
 refine L226_sound (R := FnR _) ?_
 unfold L226
 refine Bin.subN (by simp [lim]; omega) (by omega) ?_
 refine Bin.geN (b := 8) (Br.dec (fun h8 => ?_) (fun _ => FnR.here ⟨rfl, h⟩))
 refine ConvI.nat (by simp [lim]; omega) ?_
 intro b4 _
 refine St.one (by exact .head _) rfl (by simp) rfl ?_
 refine CallF.rd (.cons .here) (npow_ok (by omega) (by omega) C) ?_
 rintro w ⟨m, hm0, hm, rfl⟩
 refine Bin.divN (b := 4) (by simp [lim]; omega) (by omega) ?_
 refine Bin.mulN (b := 2) (by simp [lim]; omega) ?_
 refine Bin.addN (by simp [lim]; omega) ?_
 refine Bin.subN (b := 1) (by simp [lim]; omega) (by omega) ?_
 refine ⟨fun vs H => ∃ (i x : Nat) (C' : Hp), vs = [.int .i64 (i : Int)] ∧ x < 18446744073709551616 ∧ H = (b4, .cells #[.int .u64 (x : Int)] 295 (0, 0)) :: C' ∧ DT v l0 C', fun vs _ => b - nAt vs 0,
  JE.mk ⟨_, b - a, C, rfl, by omega, rfl, h⟩, ?_⟩
 rintro w H ⟨i, x, C', hw, hx, rfl, hd⟩ gs
 simp only [List.cons.injEq, and_true] at hw
 subst hw
 refine Bin.divN (b := 4) (by simp [lim]; omega) (by omega) ?_
 refine Bin.mulN (b := 2) (by simp [lim]; omega) ?_
 refine Bin.addN (by simp [lim]; omega) ?_
 refine Bin.addN (b := 1) (by simp [lim]; omega) ?_
 refine Bin.leN (Br.dec (fun hle => ?_) (fun _ => FnR.mk .tail ⟨rfl, hd⟩))
 refine CallF.fn (.left (A := C')) (xnext_ok b4 x hx) ?_
 rintro w H' ⟨y, hy, rfl, rfl⟩
 refine Bin.subN (b := 1) (by simp [lim]; omega) (by omega) ?_
 refine Bin.andN (by simp [lim]; omega) (by simp [lim]; omega) ?_
 have hand : y &&& (m - 1) < m := by have := Nat.and_le_right (n := y) (m := m - 1); omega
 generalize y &&& (m - 1) = z at hand
 refine ConvI.nat (by simp [lim]; omega) ?_
 intro J28 hJ28
 have go : ∀ o : Nat, o < b - a → J28 [.int .i64 (o : Int)] ([(b4, Obj.cells #[.int .u64 (y : Int)] 295 (0, 0))] ++ C') := fun o ho => by
  refine hJ28 _ _ fun gs => ?_
  refine DR.self ?_
  refine Bin.addN (by simp [lim]; omega) ?_
  refine Bin.addN (by simp [lim]; omega) ?_
  refine hd.swap (.cons .here) (by omega) (by omega) fun C1 hd1 => ?_
  refine Bin.addN (b := 1) (by simp [lim]; omega) ?_
  exact Back.mk ⟨i + 1, y, C1, rfl, hy, rfl, hd1⟩ (by simp [nAt]; omega)
 refine Bin.geN (Br.dec (fun hge => ?_) (fun hlt => JE.mk (go z (by omega))))
 refine Bin.subN (by simp [lim]; omega) (by omega) ?_
 exact JE.mk (go _ (by omega))
def OQ (b : Nat) (C : Hp) (i j : Nat) : Value → Hp → Prop := fun r H => (r = .tuple #[.int .i64 (i : Int), .int .i64 (j : Int)] ∨ r = .tuple #[.int .i64 (j : Int), .int .i64 (i : Int)]) ∧ ∃ z : Int, H = (b, .cells #[.int .i64 z] 3 (0, 0)) :: C
theorem ord2_ok (h : DT v l0 C) {b : Nat} {z : Int} {i j : Nat} (hi : i < l0.length) (hj : j < l0.length) :
  Fc Tryz.prog 241 #[v, .int .i64 (i : Int), .int .i64 (j : Int), ptr b] ((b, .cells #[.int .i64 z] 3 (0, 0)) :: C) (OQ b C i j) := by
 intro g
 refine L241_sound (R := FnR _) ?_
 unfold L241
 refine DR.self ?_
 refine h.ld (fun _ h => .tail _ h) hj fun x => ?_
 refine h.ld (fun _ h => .tail _ h) hi fun y => ?_
 refine CallF.rd .here (less_ok x y _) ?_
 rintro w rfl
 refine Br.mk (fun _ => ?_) (fun _ => FnR.here ⟨.inl rfl, z, rfl⟩)
 refine Nil.ptr (Ld.mk (by exact .head _) rfl ?_)
 refine Bin.add ?_
 refine Nil.ptr (St.one (by exact .head _) rfl (by simp) rfl ?_)
 exact FnR.here ⟨.inr rfl, _, rfl⟩
def MQ (b : Nat) (C : Hp) (p : Nat → Prop) : Value → Hp → Prop := fun r H => (∃ m : Nat, r = .int .i64 (m : Int) ∧ p m) ∧ ∃ z : Int, H = (b, .cells #[.int .i64 z] 3 (0, 0)) :: C
theorem med_ok (h : DT v l0 C) {b : Nat} {z : Int} {i j k : Nat} (hi : i < l0.length) (hj : j < l0.length) (hk : k < l0.length) :
  Fc Tryz.prog 239 #[v, .int .i64 (i : Int), .int .i64 (j : Int), .int .i64 (k : Int), ptr b] ((b, .cells #[.int .i64 z] 3 (0, 0)) :: C) (MQ b C fun m => m = i ∨ m = j ∨ m = k) := by
 intro g
 refine L239_sound (R := FnR _) ?_
 unfold L239
 refine CallF.fn .here (ord2_ok h hi hj) ?_
 rintro w H ⟨hw, z1, rfl⟩
 obtain ⟨i1, j1, rfl, hij⟩ : ∃ i1 j1 : Nat, w = .tuple #[.int .i64 (i1 : Int), .int .i64 (j1 : Int)] ∧ ((i1 = i ∧ j1 = j) ∨ (i1 = j ∧ j1 = i)) := by
  rcases hw with rfl | rfl
  ·exact ⟨i, j, rfl, .inl ⟨rfl, rfl⟩⟩
  ·exact ⟨j, i, rfl, .inr ⟨rfl, rfl⟩⟩
 refine Ext.mk rfl (Ext.mk rfl ?_)
 refine CallF.fn .here (ord2_ok h (i := j1) (j := k) (by omega) hk) ?_
 rintro w H ⟨hw, z2, rfl⟩
 obtain ⟨j2, k2, rfl, hjk⟩ : ∃ j2 k2 : Nat, w = .tuple #[.int .i64 (j2 : Int), .int .i64 (k2 : Int)] ∧ ((j2 = j1 ∧ k2 = k) ∨ (j2 = k ∧ k2 = j1)) := by
  rcases hw with rfl | rfl
  ·exact ⟨_, _, rfl, .inl ⟨rfl, rfl⟩⟩
  ·exact ⟨_, _, rfl, .inr ⟨rfl, rfl⟩⟩
 refine Ext.mk rfl (Ext.mk rfl ?_)
 refine CallF.fn .here (ord2_ok h (i := i1) (j := j2) (by omega) (by omega)) ?_
 rintro w H ⟨hw, z3, rfl⟩
 rcases hw with rfl | rfl
 ·exact Ext.mk rfl (Ext.mk rfl (FnR.here ⟨⟨_, rfl, by omega⟩, _, rfl⟩))
 ·exact Ext.mk rfl (Ext.mk rfl (FnR.here ⟨⟨_, rfl, by omega⟩, _, rfl⟩))
theorem meda_ok (h : DT v l0 C) {b : Nat} {z : Int} {i : Nat} (h0 : 0 < i) (hi : i + 1 < l0.length) (hmax : l0.length < 1152921504606846976) :
  Fc Tryz.prog 238 #[v, .int .i64 (i : Int), ptr b] ((b, .cells #[.int .i64 z] 3 (0, 0)) :: C) (MQ b C fun m => i ≤ m + 1 ∧ m ≤ i + 1) := by
 intro g
 refine L238_sound (R := FnR _) ?_
 unfold L238
 refine Bin.subN (b := 1) (by simp [lim]; omega) (by omega) ?_
 refine Bin.addN (b := 1) (by simp [lim]; omega) ?_
 refine CallF.fn .here (med_ok h (by omega) (by omega) hi) ?_
 rintro w H ⟨⟨m, rfl, hm⟩, z', rfl⟩
 exact FnR.here ⟨⟨m, rfl, by omega⟩, z', rfl⟩
theorem piv_ok (h : DT v l0 C) {a b : Nat} (hab : a < b) (hb : b ≤ l0.length) (hmax : l0.length < 1152921504606846976) :
  Rd Tryz.prog 227 #[v, .int .i64 (a : Int), .int .i64 (b : Int)] C (fun r => ∃ (p : Nat) (q : Int), r = .tuple #[.int .i64 (p : Int), .int .i64 q] ∧ a ≤ p ∧ p < b) := by
 intro g
 refine L227_sound (R := FnR _) ?_
 unfold L227
 refine Bin.subN (by simp [lim]; omega) (by omega) ?_
 intro b2 _
 refine Bin.divN (b := 4) (by simp [lim]; omega) (by omega) ?_
 refine Bin.mulN (b := 1) (by simp [lim]; omega) ?_
 refine Bin.addN (by simp [lim]; omega) ?_
 refine Bin.divN (b := 4) (by simp [lim]; omega) (by omega) ?_
 refine Bin.mulN (b := 2) (by simp [lim]; omega) ?_
 refine Bin.addN (by simp [lim]; omega) ?_
 refine Bin.divN (b := 4) (by simp [lim]; omega) (by omega) ?_
 refine Bin.mulN (b := 3) (by simp [lim]; omega) ?_
 refine Bin.addN (by simp [lim]; omega) ?_
 intro J13 hJ13
 have fin : ∀ (p : Nat) (z : Int), a ≤ p → p < b → J13 [.int .i64 (p : Int)] ((b2, .cells #[.int .i64 z] 3 (0, 0)) :: C) := fun p z hp1 hp2 => by
  refine hJ13 _ _ fun gs => ?_
  refine Ld.mk (by exact .head _) rfl ?_
  refine Bin.eqD (Br.dec (fun _ => RdR.mk .tail ⟨p, _, rfl, hp1, hp2⟩) (fun _ => ?_))
  exact Bin.eqD (Br.dec (fun _ => RdR.mk .tail ⟨p, _, rfl, hp1, hp2⟩) (fun _ => RdR.mk .tail ⟨p, _, rfl, hp1, hp2⟩))
 refine Bin.geN (b := 8) (Br.dec (fun h8 => ?_) (fun _ => JE.mk (fin _ _ (by omega) (by omega))))
 intro J21 hJ21
 have three : ∀ (x y u : Nat) (z : Int), a ≤ x ∧ x < b → a ≤ y ∧ y < b → a ≤ u ∧ u < b → J21 [.int .i64 (x : Int), .int .i64 (y : Int), .int .i64 (u : Int)] ((b2, .cells #[.int .i64 z] 3 (0, 0)) :: C) := fun x y u z hx hy hu => by
  refine hJ21 _ _ _ _ fun gs => ?_
  refine CallF.fn .here (med_ok h (by omega) (by omega) (by omega)) ?_
  rintro w H ⟨⟨m, rfl, hm⟩, z', rfl⟩
  exact JE.mk (fin _ _ (by omega) (by omega))
 refine Bin.geN (b := 50) (Br.dec (fun h50 => ?_) (fun _ => JE.mk (three _ _ _ _ (by omega) (by omega) (by omega))))
 refine CallF.fn .here (meda_ok h (by omega) (by omega) hmax) ?_
 rintro w H ⟨⟨m1, rfl, hm1⟩, z1, rfl⟩
 refine CallF.fn .here (meda_ok h (by omega) (by omega) hmax) ?_
 rintro w H ⟨⟨m2, rfl, hm2⟩, z2, rfl⟩
 refine CallF.fn .here (meda_ok h (by omega) (by omega) hmax) ?_
 rintro w H ⟨⟨m3, rfl, hm3⟩, z3, rfl⟩
 exact JE.mk (three _ _ _ _ (by omega) (by omega) (by omega))
theorem pdq_ok : ∀ (N : Nat) {C : Hp} (h : DT v l0 C) {a b : Nat} (hN : b - a ≤ N) (hab : a ≤ b) (hb : b ≤ l0.length) (hmax : l0.length < 1152921504606846976) (z : Int), Fc Tryz.prog 220 #[v, .int .i64 (a : Int), .int .i64 (b : Int), .int .i64 z] C (SQ v l0) := by
 intro N
 induction N with
 | zero =>
  intro C h a b hN hab hb hmax z g
  refine L220_sound (R := FnR _) ?_
  unfold L220
  refine ⟨fun vs H => vs = [.int .i64 (a : Int), .int .i64 (b : Int), .int .i64 z, .bool true, .bool true] ∧ H = C, fun _ _ => 0, JE.mk ⟨rfl, rfl⟩, ?_⟩
  rintro w1 w2 w3 w4 w5 H ⟨hw, rfl⟩ gs
  simp only [List.cons.injEq, and_true] at hw
  obtain ⟨rfl, rfl, rfl, rfl, rfl⟩ := hw
  refine Bin.subN (by simp [lim]; omega) (by omega) ?_
  refine Bin.leN (b := 12) (Br.decT (by omega) ?_)
  refine CallF.fn .here (isort_ok h hab hb hmax) ?_
  rintro w C' ⟨rfl, hd⟩
  exact FnR.here ⟨rfl, hd⟩
 | succ N ih =>
  intro C h a b hN hab hb hmax z g
  refine L220_sound (R := FnR _) ?_
  unfold L220
  refine ⟨fun vs H => ∃ (a b : Nat) (z : Int) (t1 t2 : Bool), vs = [.int .i64 (a : Int), .int .i64 (b : Int), .int .i64 z, .bool t1, .bool t2] ∧ b - a ≤ N + 1 ∧ a ≤ b ∧ b ≤ l0.length ∧ DT v l0 H, fun vs _ => nAt vs 1 - nAt vs 0, JE.mk ⟨a, b, z, true, true, rfl, hN, hab, hb, h⟩, ?_⟩
  clear h hN hab hb
  rintro w1 w2 w3 w4 w5 H ⟨a, b, z, t1, t2, hw, hN, hab, hb, h⟩ gs
  simp only [List.cons.injEq, and_true] at hw
  obtain ⟨rfl, rfl, rfl, rfl, rfl⟩ := hw
  refine Bin.subN (by simp [lim]; omega) (by omega) ?_
  refine Bin.leN (b := 12) (Br.dec (fun h12 => ?_) (fun h12 => ?_))
  ·refine CallF.fn .here (isort_ok h hab hb hmax) ?_
   rintro w C' ⟨rfl, hd⟩
   exact FnR.here ⟨rfl, hd⟩
  refine Bin.eqD (Br.dec (fun _ => ?_) (fun _ => ?_))
  ·refine CallF.fn .here (hsort_ok h (by omega) hb hmax) ?_
   rintro w C' ⟨rfl, hd⟩
   exact FnR.here ⟨rfl, hd⟩
  intro J17 hJ17
  have k17 : ∀ (z1 : Int) H1, DT v l0 H1 → J17 [.int .i64 z1] H1 := fun z1 H1 h1 => by
   refine hJ17 _ _ fun gs => ?_
   refine CallF.rd .here (piv_ok h1 (a := a) (b := b) (by omega) hb hmax) ?_
   rintro w ⟨p, q, rfl, hp1, hp2⟩
   refine Ext.mk rfl (Ext.mk rfl ?_)
   intro J25 hJ25
   have k25 : ∀ (p : Nat) (q : Int) H2, a ≤ p → p < b → DT v l0 H2 → J25 [.int .i64 (p : Int), .int .i64 q] H2 := fun p q H2 hp1 hp2 h2 => by
    refine hJ25 _ _ _ fun gs => ?_
    intro J30 hJ30
    have k30 : ∀ H3, DT v l0 H3 → J30 [] H3 := fun H3 h3 => by
     refine hJ30 _ fun gs => ?_
     intro J33 hJ33
     have k33 : ∀ (t : Bool), J33 [.bool t] H3 := fun t => by
      refine hJ33 _ _ fun gs => ?_
      refine Br.mk (fun _ => ?_) (fun _ => ?_)
      ·refine CallF.fn .here (parteq_ok h3 ⟨hp1, hp2⟩ hb hmax) ?_
       rintro w C' ⟨⟨m, rfl, hm1, hm2⟩, hd⟩
       exact Back.mk ⟨m, b, z1, t1, t2, rfl, by omega, by omega, hb, hd⟩ (by simp [nAt]; omega)
      ·refine CallF.fn .here (part_ok h3 ⟨hp1, hp2⟩ hb hmax) ?_
       rintro w C' ⟨⟨m, t, rfl, hm1, hm2⟩, hd⟩
       refine Ext.mk rfl (Ext.mk rfl ?_)
       refine Bin.subN (by simp [lim]; omega) (by omega) ?_
       refine Bin.subN (by simp [lim]; omega) (by omega) ?_
       refine Bin.divN (b := 8) (by simp [lim]; omega) (by omega) ?_
       refine Bin.ltN (Br.dec (fun _ => ?_) (fun _ => ?_))
       ·refine Bin.geN ?_
        refine CallF.fn .here (ih hd (a := a) (b := m) (by omega) (by omega) (by omega) hmax z1) ?_
        rintro w C' ⟨rfl, hd'⟩
        refine Bin.addN (b := 1) (by simp [lim]; omega) ?_
        exact Back.mk ⟨m + 1, b, z1, _, t, rfl, by omega, by omega, hb, hd'⟩ (by simp [nAt]; omega)
       ·refine Bin.geN ?_
        refine Bin.addN (b := 1) (by simp [lim]; omega) ?_
        refine CallF.fn .here (ih hd (a := m + 1) (b := b) (by omega) (by omega) (by omega) hmax z1) ?_
        rintro w C' ⟨rfl, hd'⟩
        exact Back.mk ⟨a, m, z1, _, t, rfl, by omega, by omega, by omega, hd'⟩ (by simp [nAt]; omega)
     refine DR.self ?_
     refine Bin.gtN (b := 0) (Br.dec (fun h0 => ?_) (fun _ => JE.mk (k33 false)))
     refine Bin.subN (b := 1) (by simp [lim]; omega) (by omega) ?_
     refine h3.ld (fun _ h => h) (by omega) fun x => ?_
     refine h3.ld (fun _ h => h) (by omega) fun y => ?_
     intro F
     refine CallF.rd .here (less_ok x y _) ?_
     rintro w rfl
     exact Un.not (Pick.mk (JE.mk (k33 _)))
    refine Grp.and t2 (fun _ => ⟨rfl, rfl⟩) rfl fun gs => ?_
    refine Grp.and (decide (q = 1)) (fun _ => Bin.eqD ⟨rfl, rfl⟩) rfl fun gs => ?_
    refine Br.mk (fun _ => ?_) (fun _ => JE.mk (k30 _ h2))
    refine CallF.fn .here (pins_ok h2 (by omega) hb hmax) ?_
    rintro w C' ⟨⟨t, rfl⟩, hd⟩
    exact Br.mk (fun _ => FnR.here ⟨rfl, hd⟩) (fun _ => JE.mk (k30 _ hd))
   refine Bin.eqD (Br.dec (fun _ => ?_) (fun _ => JE.mk (k25 p q _ hp1 hp2 h1)))
   refine CallF.fn .here (rev_ok h1 (a := a) (b := b) (by omega) hb hmax) ?_
   rintro w C' ⟨rfl, hd⟩
   refine Bin.subN (b := 1) (by simp [lim]; omega) (by omega) ?_
   refine Bin.subN (by simp [lim]; omega) (by omega) ?_
   refine Bin.subN (by simp [lim]; omega) (by omega) ?_
   exact JE.mk (k25 _ _ _ (by omega) (by omega) hd)
  refine Un.not ?_
  refine Br.mk (fun _ => ?_) (fun _ => JE.mk (k17 _ _ h))
  refine CallF.fn .here (brk_ok h (a := a) (b := b) (by omega) hb hmax) ?_
  rintro w C' ⟨rfl, hd⟩
  exact Bin.sub (JE.mk (k17 _ _ hd))
theorem sort_ok {l : List Int} (h : IOwn 31 .u32 v l C) (hmax : l.length < 1152921504606846976) : Fc Tryz.prog 207 #[v] C (fun r C' => r = .tuple #[] ∧ ∃ l', l'.Perm l ∧ IOwn 31 .u32 v l' C') := by
 intro g
 refine L207_sound (R := FnR _) ?_
 unfold L207
 refine h.lenS ?_
 refine ConvI.nat (by simp [lim]; omega) ?_
 refine CallF.rd .here (blen_ok (by omega) C) ?_
 rintro w ⟨r, _, rfl⟩
 refine CallF.fn .here (pdq_ok l.length h.dt (a := 0) (b := l.length) (by omega) (by omega) (Nat.le_refl _) hmax _) ?_
 rintro w C' ⟨rfl, hd⟩
 exact FnR.here ⟨rfl, hd⟩
end
end Go.Proofs
namespace Go.Sx
open Go
section
variable {P : Program} {g : Gh} {F : Fence} {n : Nat} {ops : Array Oper} {Q : Exit → Act → World → Prop} {rest : List Oper} {o : Oper} {a : Act} {fr : Fr} {w : World} {H : Hp}
abbrev AgD (ds : List Deferred) (n : Nat) (a : Act) (fr : Fr) : Prop := Agree ds n a fr
variable {ds : List Deferred}
theorem AgD.put (h : AgD ds n a fr) {d : Option Nat} (hd : okDst n d = true) (v : Value) : AgD ds n (a.put d v) (upd fr d v) := Agree.put h hd v
theorem stepP {v0 : Value} (hF : ∀ f, F.fn f) (hg : o.guard = none) (hnd : ∀ c, o.op ≠ .defer c) (hd : okDst n o.dst = true) (ha : AgD ds n a fr) (hw : Own g H w) (h : opP P g o (ev fr) H (· = v0))
  (k : ∀ a', AgD ds n a' (upd fr o.dst v0) → wpListIn F 0 P ops Q rest a' w) : wpListIn F 0 P ops Q (o :: rest) a w := by
 refine wpListIn_plain hg fun K hK => ⟨fun f _ => hF f, ?_⟩
 rw [Oper.semAt_eq _ _ _ hnd, ha.eval]
 obtain ⟨v, hv, hr, _⟩ := opP_val h
 rw [hr w hw]
 subst hv
 exact hK _ _ (k _ (ha.put hd _))
theorem stepS {s : Sem Value} {K : Value → Hp → Prop} (hF : ∀ f, F.fn f) (hg : o.guard = none) (hnd : ∀ c, o.op ≠ .defer c) (hd : okDst n o.dst = true) (ha : AgD ds n a fr) (he : execOp (ev fr) o = (do pure (.value (← s))))
  (h : ∃ v w' H', s.run P w = .ok v w' ∧ Own g H' w' ∧ K v H')
  (k : ∀ v H' w' a', K v H' → Own g H' w' → AgD ds n a' (upd fr o.dst v) → wpListIn F 0 P ops Q rest a' w') : wpListIn F 0 P ops Q (o :: rest) a w := by
 refine wpListIn_plain hg fun K hK => ⟨fun f _ => hF f, ?_⟩
 rw [Oper.semAt_eq _ _ _ hnd, ha.eval, he]
 obtain ⟨v, w', H', hr, ho, hk⟩ := h
 simp only [Sem.run_bind, hr, Result.andThen_ok, Sem.run_pure]
 exact hK _ _ (k v H' w' _ hk ho (ha.put hd _))
theorem stepV {s : Sem Value} {K : Value → Hp → Prop} (hF : ∀ f, F.fn f) (hg : o.guard = none) (hnd : ∀ c, o.op ≠ .defer c) (hd : okDst n o.dst = true) (ha : AgD ds n a fr) (hw : Own g H w) (he : execOp (ev fr) o = (do pure (.value (← s))))
  (h : opE P g o (ev fr) H K (fun _ _ => False))
  (k : ∀ v H' w' a', K v H' → Own g H' w' → AgD ds n a' (upd fr o.dst v) → wpListIn F 0 P ops Q rest a' w') : wpListIn F 0 P ops Q (o :: rest) a w := by
 have h1 := opE_op (ev_func fr) h w hw
 rw [he] at h1
 refine stepS (g := g) (K := K) hF hg hnd hd ha he ?_ k
 cases hs : s.run P w with
 | ok v w' =>
  simp only [Sem.run_bind, hs, Result.andThen_ok, Sem.run_pure, After] at h1
  obtain ⟨H', ho, hk⟩ := h1
  exact ⟨v, w', H', rfl, ho, hk⟩
 | halt x w' =>
  simp only [Sem.run_bind, hs, Result.andThen] at h1
  cases x <;> simp only [After] at h1
  obtain ⟨_, _, hk⟩ := h1; exact hk.elim
theorem stepU {s : Sem Unit} {K : Value → Hp → Prop} (hF : ∀ f, F.fn f) (hg : o.guard = none) (hnd : ∀ c, o.op ≠ .defer c) (hd : okDst n o.dst = true) (ha : AgD ds n a fr) (hw : Own g H w) (he : execOp (ev fr) o = (do s; pure .skip))
  (h : opE P g o (ev fr) H K (fun _ _ => False))
  (k : ∀ H' w' a', K undef H' → Own g H' w' → AgD ds n a' (upd fr o.dst undef) → wpListIn F 0 P ops Q rest a' w') : wpListIn F 0 P ops Q (o :: rest) a w := by
 have h1 := opE_op (ev_func fr) h w hw
 rw [he] at h1
 refine wpListIn_plain hg fun K hK => ⟨fun f _ => hF f, ?_⟩
 rw [Oper.semAt_eq _ _ _ hnd, ha.eval, he]
 cases hs : s.run P w with
 | ok v w' =>
  simp only [Sem.run_bind, hs, Result.andThen_ok, Sem.run_pure, After] at h1 ⊢
  obtain ⟨H', ho, hk⟩ := h1
  exact hK _ _ (k H' w' _ hk ho (ha.put hd _))
 | halt x w' =>
  simp only [Sem.run_bind, hs, Result.andThen] at h1
  cases x <;> simp only [After] at h1
  obtain ⟨_, _, hk⟩ := h1; exact hk.elim
theorem agree_init {m : Nat} {args : List Value} (hl : args.length ≤ m) : AgD [] m { tmps := args.toArray ++ Array.replicate (m - args.toArray.size) undef, defers := [] } (initFr args 0) := by
 refine ⟨rfl, by simp; omega, fun s => ?_⟩
 rw [initFr_get, Array.getD_eq_getD_getElem?, Array.getElem?_append]
 simp only [List.size_toArray, Nat.not_lt_zero, if_false, Nat.sub_zero]
 by_cases hs : s < args.length
 ·simp [hs, List.getD]
 ·rw [if_neg hs, Array.getElem?_replicate]
  have : args.getD s undef = undef := by simp [List.getD, List.getElem?_eq_none (Nat.le_of_not_lt hs)]
  rw [this]
  split <;> rfl
theorem Own.putObj {g : Gh} {H H' : Hp} {w : World} {b : Nat} {o o' : Obj} (h : Own g H w) (u : Upd b o o' H H') : Own g H' (w.putObj b o') := by
 have hb := h.lt u.mem
 exact h.upd u rfl rfl rfl (World.putObj_heap_same hb) fun c hc => World.putObj_heap_other hc
def Gives {α : Type} (P : Program) (f : FuncId) (cap : Array Value) (B : Hp) (enc : α → Value) (N : Nat) (S : List α → Prop) : Prop :=
 ∀ (g : Gh) (l : Nat) (G : List α → Hp → Prop),
  (∀ ss x A X W, G ss A → ss.length < N → Own g (A ++ X) W → YieldAt Fence.wide 0 P l #[enc x] W (fun e W' => e = .returned (.bool true) ∧ ∃ A', G (ss ++ [x]) A' ∧ Own g (A' ++ X) W')) →
  ∀ A W, G [] A → Own g (A ++ B) W → CallsIn Fence.wide 0 P f (#[.func (.yield l) #[] #[]] ++ cap) W (fun e W' => (∃ v, e = .returned v) ∧ ∃ ss A', S ss ∧ G ss A' ∧ Own g (A' ++ B) W')
open Classical in
noncomputable def leastOf (p : Nat → Prop) : Nat := if h : ∃ k, p k then Classical.choose (least_of h) else 0
theorem leastOf_le {p : Nat → Prop} {k : Nat} (h : p k) : leastOf p ≤ k := by
 unfold leastOf
 rw [dif_pos ⟨k, h⟩]
 exact (Classical.choose_spec (least_of ⟨k, h⟩)).2 k h
theorem leastOf_spec {p : Nat → Prop} (h : ∃ k, p k) : p (leastOf p) := by
 unfold leastOf
 rw [dif_pos h]
 exact (Classical.choose_spec (least_of h)).1
theorem wpIn_loopJ {c : Code} (J : Nat → Act → World → Prop) {k : Nat} (h0 : J k a w)
  (round : ∀ k a w, J k a w → c.wpIn F 0 P (Exit.then (fun a' w' => ∃ k', k' < k ∧ J k' a' w') Q) a w) : (Code.loop c).wpIn F 0 P Q a w := by
 refine wpIn_loop (fun a w => ∃ k, J k a w) (fun a w => leastOf fun k => J k a w) ⟨k, h0⟩ fun a w h => ?_
 refine Code.wpIn_mono (fun e a' w' hq => ?_) (round _ a w (leastOf_spec h))
 cases e with
 | normal =>
  obtain ⟨k', hlt, hj⟩ := hq
  exact ⟨⟨k', hj⟩, Nat.lt_of_le_of_lt (leastOf_le hj) hlt⟩
 | _ => exact hq
end
end Go.Sx
set_option maxRecDepth 100000
namespace Go.Proofs
open Go Go.Sx
open Bdd
section
variable {es : Array MapEntry} {ck b : Nat} {m : List (Nd × Nat)}
theorem values_ok (B : Hp) : Fc Tryz.prog 187 #[.map (some b)] B
  (fun v H => ∃ bm, v = .func (.func 208) #[] #[ptr bm] ∧ H = (bm, .cells #[.map (some b)] 147 (0, 0)) :: B) := by
 intro g
 refine L187_sound (R := FnR _) ?_
 unfold L187
 intro b1 _
 exact FnR.here ⟨b1, rfl, rfl⟩
noncomputable abbrev VF : Func := Tryz.f208
def VAt (g : Gh) (bi b : Nat) (l : Nat) (es : Array MapEntry) (ck : Nat) (m : List (Nd × Nat)) (G : List Nat → Hp → Prop) (B : Hp) (k : Nat) (a : Act) (w : World) : Prop :=
 ∃ (fr : Fr) (ss : List Nat) (A : Hp) (seen : Array Nat), AgD [] 15 a fr ∧ fr 0 = .func (.yield l) #[] #[] ∧ fr 6 = ptr bi ∧ G ss A ∧ Own g (A ++ ((bi, .mapIter (some b) ck seen ck) :: B)) w ∧
  (ss ++ (unseen es m seen).map Prod.snd).Perm (m.map Prod.snd) ∧ k = (unseen es m seen).length
theorem vals_gives {bm : Nat} {fz : Nat × Nat} (h : Ents nK vrR es ck m) : Gives Tryz.prog 208 #[ptr bm] [(bm, .cells #[.map (some b)] 147 fz), (b, .map es ck)] u32 m.length
  (fun ss => ss.Perm (m.map Prod.snd)) := by
 intro g l G hY A W h0 hW
 have hF : ∀ f, Fence.wide.fn f := fun _ => trivial
 refine callsIn_of_wp Tryz.func208 rfl trivial ?_
 have ha := agree_init (m := 15) (args := [.func (.yield l) #[] #[], ptr bm]) (by simp)
 refine wpIn_seq ?_
 refine wpIn_region_lit ?_
 obtain ⟨B, hB⟩ : ∃ B, B = [(bm, Obj.cells #[.map (some b)] 147 fz), (b, .map es ck)] := ⟨_, rfl⟩
 rw [← hB] at hW
 have hm1 : (bm, Obj.cells #[.map (some b)] 147 fz) ∈ A ++ B := by rw [hB]; exact List.mem_append_right _ (.head _)
 have hm2 : (b, Obj.map es ck) ∈ A ++ B := by rw [hB]; exact List.mem_append_right _ (.tail _ (.head _))
 have hmB : ∀ {X : Hp}, (b, Obj.map es ck) ∈ X ++ B := by intro X; rw [hB]; exact List.mem_append_right _ (.tail _ (.head _))
 rw [← hB]
 have e0 : opP Tryz.prog g (opAt VF 0 0) (ev (initFr [.func (.yield l) #[] #[], ptr bm] 0)) (A ++ B) (fun x => x = .map (some b)) = Ld (A ++ B) (ptr bm) (fun x => x = .map (some b)) := by kernel_rfl
 refine stepP (g := g) (n := 15) (v0 := .map (some b)) hF rfl (by intro c h; cases h) rfl ha hW (e0.mpr (Ld.mk hm1 rfl rfl)) fun a1 ha1 => ?_
 refine stepS (g := g) (n := 15) (s := Instr.range 147 (.map (some b))) (K := fun v H => ∃ bi, v = ptr bi ∧ H = (bi, .mapIter (some b) ck #[] ck) :: (A ++ B)) hF rfl (by intro c h; cases h) rfl ha1 rfl
  (Rng.run (.inr ⟨b, es, ck, rfl, hm2, fun bi _ => ⟨bi, rfl, rfl⟩⟩) hW (t := 147) (kt := 103) (e := 31) (by kernel_rfl)) fun v H' w1 a2 hv hw1 ha2 => ?_
 obtain ⟨bi, rfl, rfl⟩ := hv
 refine wpListIn_nil ?_
 have hw2 : Own g (A ++ ((bi, .mapIter (some b) ck #[] ck) :: B)) w1 := hw1.perm (List.perm_middle).symm
 clear hw1 ha1 ha hW hm1 hm2
 refine wpIn_block ?_
 refine wpIn_loopJ (VAt g bi b l es ck m G B) (k := (unseen es m #[]).length) ⟨_, [], A, #[], ha2, rfl, rfl, h0, hw2, by rw [unseen_all h]; exact .refl _, rfl⟩ ?_
 clear ha2 hw2 h0 e0 A
 rintro k a w ⟨fr, ss, A, seen, ha, f0, f6, hG, hw, hperm, hk⟩
 refine wpIn_seq ?_
 refine wpIn_region_lit ?_
 have e6 : ev fr (.tmp 6) = ptr bi := f6
 refine stepS (g := g) (n := 15) (s := Instr.next (ptr bi) false 0)
  (K := fun v H => (unseen es m seen = [] ∧ v = .tuple #[.bool false] ∧ H = A ++ ((bi, .mapIter (some b) ck seen ck) :: B)) ∨
   ∃ (e : MapEntry) (x : Nd × Nat) (seen' : Array Nat), v = .tuple #[.bool true, e.key, e.val] ∧ e.val = u32 x.2 ∧ (unseen es m seen).Perm (x :: unseen es m seen') ∧ seen'.back? = some e.born ∧ es.find? (·.born == e.born) = some e ∧
    H = A ++ ((bi, .mapIter (some b) ck seen' ck) :: B)) hF rfl (by intro c h; cases h) rfl ha ?_
  (Nxt.run (h.next (bi := bi) (bm := b) (seen := seen) (H := A ++ ((bi, .mapIter (some b) ck seen ck) :: B)) (List.mem_append_right _ (.tail _ (by rw [hB]; exact .tail _ (.head _)))) (List.mem_append_right _ (.head _))
   (fun e x seen' he hk hv hp hb hf => ⟨_, (Upd.head _).prepend A, .inr ⟨e, x, seen', rfl, hv, hp, hb, hf, rfl⟩⟩) (fun hu => .inl ⟨hu, rfl, rfl⟩)) hw) fun v H' w1 a1 hv hw1 ha1 => ?_
 ·rw [e6.symm]; rfl
 rcases hv with ⟨hu, rfl, rfl⟩ | ⟨e, x, seen', rfl, hev, hp, hbk, hfi, rfl⟩
 ·refine stepP (g := g) (n := 15) (v0 := .bool false) hF rfl (by intro c h; cases h) rfl ha1 hw1 ⟨_, _, rfl, rfl, rfl⟩ fun a2 ha2 => ?_
  refine wpListIn_nil ?_
  refine wpIn_seq ?_
  refine wpIn_cond_false (by rw [ha2.eval]; rfl) ?_
  refine wpIn_exit ?_
  simp only [Exit.then, Exit.inBlock, if_true, bodyPost]
  refine ⟨ha2.defers, _, results_none rfl _ _ _, ⟨_, rfl⟩, ss, A, ?_, hG, (hw1.perm List.perm_middle).tail⟩
  rw [hu, List.map_nil, List.append_nil] at hperm
  exact hperm
 ·refine stepP (g := g) (n := 15) (v0 := .bool true) hF rfl (by intro c h; cases h) rfl ha1 hw1 ⟨_, _, rfl, rfl, rfl⟩ fun a2 ha2 => ?_
  refine wpListIn_nil ?_
  refine wpIn_seq ?_
  refine wpIn_cond_true (by rw [ha2.eval]; rfl) ?_
  refine wpIn_skip ?_
  refine wpIn_block ?_
  refine wpIn_seq ?_
  refine wpIn_region_lit ?_
  refine stepS (g := g) (n := 15) (s := Instr.entry (ptr bi)) (K := fun v H => v = .tuple #[e.key, e.val] ∧ H = A ++ ((bi, .mapIter (some b) ck seen' ck) :: B)) hF rfl (by intro c h; cases h) rfl ha2 ?_ ?_ fun v H' w2 a3 hv hw2 ha3 => ?_
  ·rw [e6.symm]; rfl
  ·obtain ⟨v, hr, hv⟩ := Entr.run (P := Tryz.prog) (k := fun v => v = .tuple #[e.key, e.val]) ⟨bi, b, ck, seen', e.born, ck, es, e, rfl, List.mem_append_right _ (.head _), hbk, List.mem_append_right _ (.tail _ (by rw [hB]; exact .tail _ (.head _))), hfi, rfl⟩ hw1
   exact ⟨v, w1, _, hr, hw1, hv, rfl⟩
  obtain ⟨rfl, rfl⟩ := hv
  refine stepP (g := g) (n := 15) (v0 := u32 x.2) hF rfl (by intro c h; cases h) rfl ha3 hw2 ⟨_, _, rfl, rfl, hev⟩ fun a4 ha4 => ?_
  refine stepP (g := g) (n := 15) (v0 := u32 x.2) hF rfl (by intro c h; cases h) rfl ha4 hw2 (show u32 x.2 = u32 x.2 from rfl) fun a5 ha5 => ?_
  refine wpListIn_nil ?_
  refine wpIn_seq ?_
  refine wpIn_region_lit ?_
  refine stepP (g := g) (n := 15) (v0 := .func (.yield l) #[] #[]) hF rfl (by intro c h; cases h) rfl ha5 hw2 f0 fun a6 ha6 => ?_
  refine stepP (g := g) (n := 15) (v0 := u32 x.2) hF rfl (by intro c h; cases h) rfl ha6 hw2 (show u32 x.2 = u32 x.2 from rfl) fun a7 ha7 => ?_
  have hlen : (unseen es m seen).length = (unseen es m seen').length + 1 := by rw [hp.length_eq]; rfl
  have hlt : ss.length < m.length := by
   have := hperm.length_eq
   simp only [List.length_append, List.length_map] at this ⊢
   omega
  obtain ⟨fn, tmps, assign, body, hy, hR⟩ := hY _ x.2 A _ w2 hG hlt hw2
  refine wpListIn_plain rfl fun K hK => ⟨fun _ _ => trivial, ?_⟩
  rw [Oper.semAt_eq _ _ _ (by intro c h; cases h), ha7.eval]
  have hex : ∀ F7 : Fr, F7 = upd (upd (upd (upd (upd (upd (upd fr (some 7) (.tuple #[.bool true, e.key, e.val])) (some 8) (.bool true)) (some 9) (.tuple #[e.key, e.val])) (some 10) (u32 x.2)) (some 4) (u32 x.2)) (some 11) (.func (.yield l) #[] #[])) (some 12) (u32 x.2) → (execOp (ev F7) (opAt VF 3 2)).run Tryz.prog w2 = .ok (.round l fn tmps assign body) w2 := fun F7 hF7 => by
   have v11 : ev F7 (.tmp 11) = .func (.yield l) #[] #[] := by rw [hF7]; rfl
   have v12 : ev F7 (.tmp 12) = u32 x.2 := by rw [hF7]; rfl
   have e11 : execOp (ev F7) (opAt VF 3 2) = (do let d ← resolve (ev F7) { callee := .value (.tmp 11), args := #[.tmp 12], argTypes := #[31] } 4; invoke d.target d.args) := rfl
   rw [e11]
   simp [resolve, Deferred.ofValue, v11, v12, invoke, go_sem, hy]
  refine (congrArg (Oper.uponIn Fence.wide 0 Tryz.prog (opAt VF 3 2) a7 K _) (hex _ rfl)).mpr ⟨fun h => (by cases h), hR.mono ?_⟩
  rintro e' w3 ⟨rfl, A', hG', hw3⟩
  refine hK _ _ ?_
  have ha8 := ha7.put (d := some 13) rfl (.bool true)
  refine stepP (g := g) (n := 15) (v0 := .bool false) hF rfl (by intro c h; cases h) rfl ha8 hw3 ⟨_, rfl, rfl⟩ fun a9 ha9 => ?_
  refine wpListIn_nil ?_
  refine wpIn_cond_false (by rw [ha9.eval]; rfl) ?_
  refine wpIn_skip ?_
  refine ⟨(unseen es m seen').length, by omega, _, ss ++ [x.2], A', seen', ha9, f0, f6, hG', hw3, ?_, rfl⟩
  rw [List.append_assoc]
  exact ((hp.map Prod.snd).append_left ss).symm.trans hperm
end
end Go.Proofs
set_option maxRecDepth 100000
namespace Go.Proofs
open Go Go.Sx
open Bdd
section
noncomputable abbrev AF : Func := Tryz.f219
variable {f : FuncId} {cap : Array Value} {B : Hp} {N : Nat} {S : List Nat → Prop}
noncomputable def apAssign : Code := match AF.body with | some (.seq _ (.seq (.seq _ (.block _ (.rangeFunc _ _ c _))) _)) => c | _ => .skip
noncomputable def apBody : Code := match AF.body with | some (.seq _ (.seq (.seq _ (.block _ (.rangeFunc _ _ _ c))) _)) => c | _ => .skip
noncomputable def apOp (i : Nat) : Oper := match apBody with | .block _ (.region _ ops _) => (match ops[i]? with | some o => o | none => default) | _ => default
def apRec (fn : FuncId) (tmps : Array Value) (assign body : Code) (D : Nat) : Loop := { state := .ready, pending := none, fn, tmps, params := #[7], assign, body, defers := D }
def APG (l D bs : Nat) (fn : FuncId) (tmps : Array Value) (assign body : Code) (ss : List Nat) (A : Hp) : Prop :=
 ∃ v C', A = (l, .loop (apRec fn tmps assign body D)) :: (D, .deferred (some [])) :: (bs, .cells #[v] 48 (0, 0)) :: C' ∧ IOwn 31 .u32 v (iw ss) C'
theorem ap_yield {g : Gh} {l D bs : Nat} {fn : FuncId} {tmps : Array Value} {fr : Fr} (hsz : tmps.size = 13) (hget : ∀ s, tmps.getD s undef = fr s) (f2 : fr 2 = ptr bs) {ss : List Nat} {x : Nat} {A X : Hp} {W : World}
  (hG : APG l D bs fn tmps apAssign apBody ss A) (hl : ss.length < 1099511627776) (hW : Own g (A ++ X) W) :
  YieldAt Fence.wide 0 Tryz.prog l #[u32 x] W (fun e W' => e = .returned (.bool true) ∧ ∃ A', APG l D bs fn tmps apAssign apBody (ss ++ [x]) A' ∧ Own g (A' ++ X) W') := by
 obtain ⟨v, C', rfl, ho⟩ := hG
 have hF : ∀ f, (Fence.wide.inRound l).fn f := fun _ => trivial
 have hL : W.heap[l]? = some (.loop (apRec fn tmps apAssign apBody D)) := hW.has _ (.head _)
 refine ⟨fn, _, apAssign, apBody, run_yield hL rfl, roundIn_of_wpIn trivial ?_⟩
 have ha : AgD [] 13 { tmps := tmps.setIfInBounds 7 (u32 x), defers := [] } (upd fr (some 7) (u32 x)) := (AgD.put (a := { tmps := tmps, defers := [] }) (d := some 7) ⟨rfl, hsz, hget⟩ rfl (u32 x))
 have ha : AgD [] 13 { tmps := (#[7].zip #[u32 x]).foldl (fun tmps (t, a) => tmps.setIfInBounds t a) tmps, defers := [] } (upd fr (some 7) (u32 x)) := by simpa using ha
 change Code.wpIn _ 0 Tryz.prog (.region _ #[_] false) _ _ _
 refine wpIn_region_lit ?_
 refine stepP (g := g) (n := 13) (v0 := u32 x) hF rfl (by intro c h; cases h) rfl ha hW rfl fun a1 ha1 => ?_
 refine wpListIn_nil ?_
 have hbr := run_beginRound (P := Tryz.prog) hL rfl
 refine ⟨_, hbr, ?_⟩
 have hW1 := hW.putObj (o' := .loop { apRec fn tmps apAssign apBody D with state := .busy }) (.head _)
 change Code.wpIn _ 0 Tryz.prog (.block _ (.region _ #[_, _, _, _, _] false)) _ _ _
 refine wpIn_block ?_
 refine wpIn_region_lit ?_
 obtain ⟨H1, hH1⟩ : ∃ H1, H1 = (l, Obj.loop { apRec fn tmps apAssign apBody D with state := .busy }) :: (((D, .deferred (some [])) :: (bs, .cells #[v] 48 (0, 0)) :: C') ++ X) := ⟨_, rfl⟩
 replace hW1 : Own g H1 (W.putObj l (.loop { apRec fn tmps apAssign apBody D with state := .busy })) := by rw [hH1]; exact hW1
 have e0 : opP Tryz.prog g (apOp 0) (ev (upd (upd fr (some 7) (u32 x)) (some 5) (u32 x))) H1 (fun z => z = v) = Ld H1 (fr 2) (fun z => z = v) := by kernel_rfl
 refine stepP (g := g) (n := 13) (v0 := v) hF rfl (by intro c h; cases h) rfl ha1 hW1 (e0.mpr (by rw [f2]; exact Ld.mk (by rw [hH1]; exact .tail _ (.tail _ (.head _))) rfl rfl)) fun a2 ha2 => ?_
 refine stepP (g := g) (n := 13) (v0 := u32 x) hF rfl (by intro c h; cases h) rfl ha2 hW1 rfl fun a3 ha3 => ?_
 have eb : ∀ K : Value → Hp → Prop, BuildSl Tryz.prog 48 1 [(0, .int .u32 (x : Int))] H1 K = opE Tryz.prog g (apOp 2) (ev (upd (upd (upd (upd fr (some 7) (u32 x)) (some 5) (u32 x)) (some 8) v) (some 9) (u32 x))) H1 K (fun _ _ => False) := fun K => by kernel_rfl
 refine stepV (g := g) (n := 13) (s := _) (K := fun v H => ∃ b, v = .slice (some ⟨b, 0, none⟩) 1 1 ∧ H = (b, .cells (icells .u32 [(x : Int)]) 31 (0, 0)) :: H1) hF rfl (by intro c h; cases h) rfl ha3 hW1 rfl
  ((eb _).mp (BuildSl.int (by kernel_rfl) (by kernel_rfl) (by kernel_rfl) fun b => ⟨b, rfl, rfl⟩)) fun v1 H2 w2 a4 hv hW2 ha4 => ?_
 obtain ⟨b, rfl, rfl⟩ := hv
 have hn : (iw ss).length = ss.length := iw_length ss
 obtain ⟨H2, hH2⟩ : ∃ H2, H2 = (b, Obj.cells (icells .u32 [(x : Int)]) 31 (0, 0)) :: H1 := ⟨_, rfl⟩
 rw [← hH2] at hW2
 refine stepV (g := g) (n := 13) (s := _) (K := fun v' H => ∃ C2, IOwn 31 .u32 v' (iw (ss ++ [x])) C2 ∧ H = (b, Obj.cells (icells .u32 [(x : Int)]) 31 (0, 0)) :: (l, Obj.loop { apRec fn tmps apAssign apBody D with state := .busy }) :: (D, .deferred (some [])) :: (bs, .cells #[v] 48 (0, 0)) :: (C2 ++ X))
  hF rfl (by intro c h; cases h) rfl ha4 hW2 (by simp only [execOp, resolve, invoke, builtin]; simp [bind, Sem.bind]; rfl) ?_ fun v2 H3 w3 a5 hv hW3 ha5 => ?_
 ·have e1 : ∀ K : Value → Hp → Prop, App Tryz.prog 31 1 4 (.int .u32 0) H2 v (.slice (some ⟨b, 0, none⟩) 1 1) K =
   opE Tryz.prog g (apOp 3) (ev (upd (upd (upd (upd (upd fr (some 7) (u32 x)) (some 5) (u32 x)) (some 8) v) (some 9) (u32 x)) (some 10) (.slice (some ⟨b, 0, none⟩) 1 1))) H2 K (fun _ _ => False) := fun K => by kernel_rfl
  refine (e1 _).mp ?_
  rw [hH2, hH1]
  refine ho.appH (.cons (.cons (.cons (.cons .left)))) (by exact .head _) (by omega) (by omega) fun v' C2 ho2 => ⟨C2, ?_, rfl⟩
  rw [iw_append]; exact ho2
 obtain ⟨C2, ho2, rfl⟩ := hv
 have es : ∀ (H : Hp) (K : Value → Hp → Prop), St 1 H (fr 2) v2 (fun H' => K undef H') = opE Tryz.prog g (apOp 4) (ev (upd (upd (upd (upd (upd (upd fr (some 7) (u32 x)) (some 5) (u32 x)) (some 8) v) (some 9) (u32 x)) (some 10) (.slice (some ⟨b, 0, none⟩) 1 1)) (some 11) v2)) H K (fun _ _ => False) := fun H K => by kernel_rfl
 refine stepU (g := g) (n := 13) (s := _) (K := fun _ H => H = (b, Obj.cells (icells .u32 [(x : Int)]) 31 (0, 0)) :: (l, Obj.loop { apRec fn tmps apAssign apBody D with state := .busy }) :: (D, .deferred (some [])) :: (bs, .cells #[v2] 48 (0, 0)) :: (C2 ++ X))
  hF rfl (by intro c h; cases h) rfl ha5 hW3 rfl ((es _ _).mp ?_) fun H4 w4 a6 hv hW4 ha6 => ?_
 ·rw [f2]
  exact St.one (.tail (.tail (.tail (.head _)))) ho2.one (by simp) rfl rfl
 subst hv
 refine wpListIn_nil ?_
 simp only [Exit.inBlock, roundPost]
 refine ⟨_, _, run_endRound none (hW4.has _ (.tail _ (.head _))), rfl, _, ⟨v2, C2, rfl, ho2⟩, ?_⟩
 exact (hW4.putObj (.tail (.head _))).tail
theorem appseq_ok (hg : Gives Tryz.prog f cap B u32 N S) (hc : callable Tryz.prog f = true) (hN : N ≤ 1099511627776) :
  Fc Tryz.prog 219 #[.slice none 0 0, .func (.func f) #[] cap] B (fun v H => ∃ ss C', S ss ∧ H = C' ++ B ∧ IOwn 31 .u32 v (iw ss) C') := by
 intro g w hw
 rw [← callsIn_wide (n := 0)]
 have hF : ∀ f, Fence.wide.fn f := fun _ => trivial
 refine callsIn_of_wp_marks Tryz.func219 rfl trivial ?_
 have ha := agree_init (m := 13) (args := [.slice none 0 0, .func (.func f) #[] cap]) (by simp)
 refine wpIn_seq ?_
 refine wpIn_region_lit ?_
 refine stepV (g := g) (n := 13) (s := _) (K := fun v H => ∃ bs, v = ptr bs ∧ H = (bs, .cells #[.slice none 0 0] 48 (0, 0)) :: B) hF rfl (by intro c h; cases h) rfl ha hw rfl (fun bs _ => ⟨bs, rfl, rfl⟩) fun v H1 w1 a1 hv hw1 ha1 => ?_
 obtain ⟨bs, rfl, rfl⟩ := hv
 refine stepP (g := g) (n := 13) (v0 := .slice none 0 0) hF rfl (by intro c h; cases h) rfl ha1 hw1 rfl fun a2 ha2 => ?_
 refine wpListIn_nil ?_
 refine wpIn_seq ?_
 refine wpIn_seq ?_
 refine wpIn_region_lit ?_
 refine stepP (g := g) (n := 13) (v0 := .func (.func f) #[] cap) hF rfl (by intro c h; cases h) rfl ha2 hw1 rfl fun a3 ha3 => ?_
 refine wpListIn_nil ?_
 refine wpIn_block ?_
 refine wpIn_rangeFunc fun fn hfn => ?_
 have ho1 := (hw1.alloc (.deferred (some []))).alloc (.loop (apRec fn a3.tmps apAssign apBody w1.heap.size))
 have f6 : a3.tmps[6]?.getD undef = .func (.func f) #[] cap := by have := ha3.get 6; rw [Array.getD_eq_getD_getElem?] at this; exact this
 obtain ⟨W1, hW1⟩ : ∃ W1, W1 = (w1.alloc (.deferred (some []))).alloc (.loop (apRec fn a3.tmps apAssign apBody w1.heap.size)) := ⟨_, rfl⟩
 rw [← hW1] at ho1
 refine ⟨w1.heap.size + 1, [{ target := .collected w1.heap.size, args := #[] }], W1, { target := .fn (.func f) cap, args := #[.func (.yield (w1.heap.size + 1)) #[] #[]] }, W1, f, #[.func (.yield (w1.heap.size + 1)) #[] #[]] ++ cap, W1, ?_, ?_, fun _ _ => trivial, ?_, fun h => (by cases h), ?_⟩
 ·rw [hW1]; exact run_enterLoop_outer fn a3.tmps #[7] _ _
 ·simp [resolve, Deferred.ofValue, f6, go_sem]
 ·simp [invoke, go_sem]
  exact callable_run hc _ _
 have hsz : (w1.alloc (.deferred (some []))).heap.size = w1.heap.size + 1 := by simp
 rw [hsz] at ho1
 refine CallsIn.mono (hg g (w1.heap.size + 1) (APG (w1.heap.size + 1) w1.heap.size bs fn a3.tmps apAssign apBody) (fun ss x A X W hG hl hW => ap_yield ha3.size ha3.get rfl hG (by omega) hW) [_, _, _] W1 ⟨_, [], rfl, IOwn.nil⟩ ho1) ?_
 rintro e W2 ⟨⟨v0, rfl⟩, ss, A', hS, ⟨v, C', rfl, ho⟩, hW2⟩
 refine ⟨none, _, run_endLoop (hW2.has _ (.head _)) (by simp [apRec]), ?_⟩
 have hW3 := hW2.putObj (o' := .loop { apRec fn a3.tmps apAssign apBody w1.heap.size with state := .exhausted }) (.head _)
 simp only [Exit.then, Exit.inBlock]
 have ha4 : AgD [{ target := .collected w1.heap.size, args := #[] }] 13 { a3 with defers := [{ target := .collected w1.heap.size, args := #[] }] ++ a3.defers } (upd (upd (upd (initFr [.slice none 0 0, .func (.func f) #[] cap] 0) (some 2) (ptr bs)) (some 4) (.slice none 0 0)) (some 6) (.func (.func f) #[] cap)) :=
  ⟨by rw [ha3.defers]; rfl, ha3.size, ha3.get⟩
 refine wpIn_seq ?_
 refine wpIn_region_lit ?_
 obtain ⟨H3, hH3⟩ : ∃ H3, H3 = (w1.heap.size + 1, Obj.loop { apRec fn a3.tmps apAssign apBody w1.heap.size with state := .exhausted }) :: (((w1.heap.size, .deferred (some [])) :: (bs, .cells #[v] 48 (0, 0)) :: C') ++ B) := ⟨_, rfl⟩
 replace hW3 : Own g H3 (W2.putObj (w1.heap.size + 1) (.loop { apRec fn a3.tmps apAssign apBody w1.heap.size with state := .exhausted })) := by rw [hH3]; exact hW3
 have e0 : opP Tryz.prog g (opAt AF 4 0) (ev (upd (upd (upd (initFr [.slice none 0 0, .func (.func f) #[] cap] 0) (some 2) (ptr bs)) (some 4) (.slice none 0 0)) (some 6) (.func (.func f) #[] cap))) H3 (fun z => z = v) = Ld H3 (ptr bs) (fun z => z = v) := by kernel_rfl
 refine stepP (g := g) (n := 13) (v0 := v) hF rfl (by intro c h; cases h) rfl ha4 hW3 (e0.mpr (Ld.mk (by rw [hH3]; exact .tail _ (.tail _ (.head _))) rfl rfl)) fun a5 ha5 => ?_
 refine stepP (g := g) (n := 13) (v0 := v) hF rfl (by intro c h; cases h) rfl ha5 hW3 rfl fun a6 ha6 => ?_
 refine wpListIn_nil ?_
 refine wpIn_ret ?_
 simp only [Exit.then, bodyPostM]
 rw [ha6.defers]
 rw [hH3] at hW3
 refine ⟨by simp, .inl ⟨w1.heap.size, _, rfl, run_takeDeferred (hW3.has _ (.tail _ (.head _))), ?_⟩⟩
 have hW4 := hW3.putObj (o' := .deferred none) (.tail (.head _))
 refine ⟨_, results_tmp rfl _ _ _, C' ++ B, hW4.tail.tail.tail, v, C' ++ B, ?_, .refl _, ss, C', hS, rfl, ho⟩
 have := ha6.get 4
 rw [this]
 rfl
end
end Go.Proofs
set_option maxRecDepth 100000
namespace Go.Proofs
open Go Go.Sx
open Bdd
section
variable {f : FuncId} {cap : Array Value} {B : Hp} {N : Nat} {S : List Nat → Prop}
theorem collect_ok (hg : Gives Tryz.prog f cap B u32 N S) (hc : callable Tryz.prog f = true) (hN : N ≤ 1099511627776) :
  Fc Tryz.prog 206 #[.func (.func f) #[] cap] B (fun v H => ∃ ss C', S ss ∧ H = C' ++ B ∧ IOwn 31 .u32 v (iw ss) C') := by
 intro g
 refine L206_sound (R := FnR _) ?_
 unfold L206
 refine CallF.fn .here (appseq_ok hg hc hN) ?_
 rintro v H h
 exact FnR.here h
theorem perm_iw {l' : List Int} {ss : List Nat} (h : l'.Perm (iw ss)) : ∃ l : List Nat, l.Perm ss ∧ l' = iw l := by
 refine ⟨l'.map Int.toNat, ?_, ?_⟩
 ·have := h.map Int.toNat
  rw [iw, List.map_map] at this
  have e : (Int.toNat ∘ (Nat.cast : Nat → Int)) = id := by funext x; simp
  rw [e, List.map_id] at this
  exact this
 ·unfold iw
  rw [List.map_map]
  have : ∀ x ∈ l', ((Nat.cast : Nat → Int) ∘ Int.toNat) x = x := fun x hx => by
   obtain ⟨n, _, rfl⟩ := List.mem_map.1 (h.mem_iff.1 hx)
   simp
  rw [List.map_congr_left this, List.map_id']
theorem sorted_ok (hg : Gives Tryz.prog f cap B u32 N S) (hS : ∀ ss, S ss → ss.length ≤ N) (hc : callable Tryz.prog f = true) (hN : N ≤ 1099511627776) :
  Fc Tryz.prog 186 #[.func (.func f) #[] cap] B (fun v H => ∃ ss l C', S ss ∧ l.Perm ss ∧ H = C' ++ B ∧ IOwn 31 .u32 v (iw l) C') := by
 intro g
 refine L186_sound (R := FnR _) ?_
 unfold L186
 refine CallF.fn .here (collect_ok hg hc hN) ?_
 rintro v H ⟨ss, C', hs, rfl, ho⟩
 have hlen := hS ss hs
 refine CallF.fn (.left (A := B)) (sort_ok ho (by rw [iw_length]; omega)) ?_
 rintro w C2 ⟨rfl, l', hp, ho'⟩
 obtain ⟨l, hl, rfl⟩ := perm_iw hp
 exact FnR.here ⟨ss, l, C2, hs, hl, rfl, ho'⟩
end
theorem refs_ok {pt n v : Nat} {T : Nd → Option Nat} {C : Hp} (h : UtRep pt n T C) (hv : v < n) (hinj : ∀ d d' r, T d = some r → T d' = some r → d = d') (hb : ∀ d r, T d = some r → r < 1048576) :
  Fc Tryz.prog 158 #[ptr pt, .int .i64 (v : Int)] C (fun r H => ∃ w l N, r = .tuple #[w, .int .i64 0] ∧ H = N ++ C ∧ IOwn 31 .u32 w (iw l) N ∧ l.Nodup ∧ ∀ r, r ∈ l ↔ ∃ d, T d = some r ∧ d.v = v) := by
 have h0 := h
 obtain ⟨vs, Cs, ms, rfl, hs, ho⟩ := h
 obtain ⟨m, hm⟩ : ∃ m, ms[v]? = some m := ⟨_, List.getElem?_eq_getElem (by rw [ho.len]; exact hv)⟩
 have he := ho.ent v m hm
 have hT : ∀ d : Nd, d.v = v → T d = mget m.l d := fun d hd => by rw [ho.T, hd, hm]; rfl
 have hmem : ∀ d r, (d, r) ∈ m.l ↔ T d = some r ∧ d.v = v := fun d r => by
  constructor
  ·intro hx
   have hd := ho.var v m hm _ hx
   exact ⟨by rw [hT d hd]; exact (mget_mem he.nd).2 hx, hd⟩
  ·rintro ⟨h1, h2⟩
   rw [hT d h2] at h1
   exact (mget_mem he.nd).1 h1
 have hnd : (m.l.map Prod.snd).Nodup := by
  refine List.pairwise_map.2 ((List.pairwise_map.1 he.nd).imp_of_mem fun {a b} ha hb' hne e => hne ?_)
  have h1 := ((hmem a.1 a.2).1 ha).1
  have h2 := ((hmem b.1 b.2).1 hb').1
  rw [← e] at h2
  exact hinj _ _ _ h1 h2
 have hlen : m.l.length ≤ 1048576 := by
  have := length_le_of_sub (l' := List.range 1048576) hnd fun x hx => by
   obtain ⟨y, hy, rfl⟩ := List.mem_map.1 hx
   exact List.mem_range.2 (hb _ _ ((hmem y.1 y.2).1 hy).1)
  simpa using this
 intro g
 refine L158_sound (R := FnR _) ?_
 unfold L158
 refine CallF.rd .here (ucheck_ok h0 hv) ?_
 rintro w rfl
 refine Bin.neD (Br.decF (by simp) ?_)
 refine Nil.ptr ?_
 refine FAddr.mk (Ld.mk (by repeat (first | assumption | exact List.Mem.head _ | apply List.Mem.tail | apply List.mem_append_right)) rfl ?_)
 refine hs.ld1 (x := .map (some m.b)) (by rw [List.getElem?_map, hm]; rfl) (fun _ h => by exact .tail _ (List.mem_append_left _ h)) ?_
 refine CallF.fn .here (values_ok (b := m.b) _) ?_
 rintro w H ⟨bm, rfl, rfl⟩
 obtain ⟨X, Y, hXY⟩ := List.append_of_mem (mbl_mem hm)
 have hperm : ((bm, Obj.cells #[.map (some m.b)] 147 (0, 0)) :: (pt, .cells #[vs] 146 (0, 0)) :: (Cs ++ mbl ms)).Perm
   ([(bm, .cells #[.map (some m.b)] 147 (0, 0)), (m.b, .map m.es m.ck)] ++ ((pt, .cells #[vs] 146 (0, 0)) :: (Cs ++ (X ++ Y)))) := by
  rw [hXY]
  refine .cons _ ?_
  show ((pt, _) :: (Cs ++ (X ++ (m.b, _) :: Y))).Perm ((m.b, _) :: (pt, _) :: (Cs ++ (X ++ Y)))
  refine .trans (.cons _ ?_) (.swap _ _ _)
  rw [← List.append_assoc, ← List.append_assoc]
  exact List.perm_middle
 refine CallF.pre (.perm hperm) ?_
 refine CallF.fn .left (sorted_ok (vals_gives he) (fun ss hss => by rw [hss.length_eq, List.length_map]; exact Nat.le_refl _) (by kernel_rfl) (by omega)) ?_
 rintro w H ⟨ss, l, C', hss, hl, rfl, hown⟩
 have hl2 : l.Perm (m.l.map Prod.snd) := hl.trans hss
 refine FnR.mk (H'' := C' ++ ((pt, .cells #[vs] 146 (0, 0)) :: (Cs ++ mbl ms))) ?_ ⟨w, l, C', rfl, rfl, hown, hl2.nodup_iff.2 hnd, fun r => ?_⟩
 ·rw [List.append_assoc]
  refine Ent.prep ?_ C'
  exact (Ent.perm hperm.symm).trans .tail
 ·rw [hl2.mem_iff, List.mem_map]
  constructor
  ·rintro ⟨y, hy, rfl⟩; exact ⟨y.1, (hmem y.1 y.2).1 hy⟩
  ·rintro ⟨d, hd⟩; exact ⟨(d, r), (hmem d r).2 hd, rfl⟩
end Go.Proofs
namespace Go.Sx
open Go
section
variable {P : Program} {g : Gh} {H : Hp} {κ β : Type} [DecidableEq κ] {ke : κ → Value} {vr : Value → β → Prop} {es : Array MapEntry} {ck b : Nat} {m : List (κ × β)} {K : Value → Hp → Prop} {KP : List PanicEntry → Hp → Prop}
omit [DecidableEq κ] in
theorem Ents.sameKey (h : Ents ke vr es ck m) {i : Nat} {k : κ} {x : β} (hi : m[i]? = some (k, x)) : es.modify i (fun e => { e with key := ke k }) = es := by
 apply Array.ext_getElem?
 intro j
 rw [Array.getElem?_modify]
 split
 ·rename_i e; subst e
  cases he : es[i]? with
  | none => rfl
  | some e0 => rw [Option.map_some, ← (h.key i e0 _ he hi).1]
 ·rfl
theorem Ents.entryOp {o : Oper} {ρ : Operand → Value} {t kt e : TypeId} {kd : TypeDesc} {mo ko : Operand} {z : Value} {k : κ} {y0 : β} (hk : ∀ a b, EqV P kt (ke a) (ke b) (decide (a = b))) (hc : ∀ a, ChkV P kt (ke a)) (hb : ∀ a, Instr.sameBits 10000 (ke a) (ke a) = true)
  (ho : o.op = .mapEntry t mo ko) (hm' : ρ mo = .map (some b)) (hk' : ρ ko = ke k) (ht : P.underlying t = some (.map kt e)) (hkt : P.underlying kt = some kd) (hagg : isAggD kd = true) (hzd : zeroD P e = some z) (hvz : vr z y0)
  (h : Ents ke vr es ck m) {c : Obj → Hp} (hcu : ∀ o o', Upd b o o' (c o) (c o'))
  (h1 : ∀ es' ck' v st, Ents ke vr es' ck' (if k ∈ m.map Prod.fst then m else m ++ [(k, y0)]) → (∃ e ∈ es'.toList, e.born = st) → K (.tuple #[v, .int .i64 (st : Int)]) (c (.map es' ck'))) : Op1 P g o ρ (c (.map es ck)) K KP := by
 have hmm : (b, Obj.map es ck) ∈ c (.map es ck) := (hcu _ (.map es ck)).mem
 obtain ⟨i, hi, hiz⟩ := zeroD_spec hzd
 refine Op1.ofValue (s := Instr.mapEntry t (.map (some b)) (ke k)) (by simp only [execOp, ho, hm', hk']) fun w hw => ?_
 have hchk := fun b => hc k b w
 rcases h.findS hk k with ⟨j, x, e0, g1, g2, g3, g4⟩ | ⟨g1, g2⟩
 ·have hfk := run_findKeyS (P := P) hkt hagg g4 w
  have hj := (Array.getElem?_eq_some_iff.1 g1).1
  have hkey : es[j].key = ke k := (h.key j _ _ (Array.getElem?_eq_getElem hj) g2).1
  have hmem : k ∈ m.map Prod.fst := List.mem_map.2 ⟨_, List.mem_of_getElem? g2, rfl⟩
  obtain ⟨w', hs, hown⟩ := run_setObj_own (P := P) hw (es.modify j fun e => { e with key := ke k }) ck (by rw [h.sameKey g2]; exact hcu _ (.map es ck))
  refine ⟨.tuple #[e0.val, .int .i64 (es[j].born : Int)], w', _, ?_, hown, h1 es ck e0.val es[j].born (by rw [if_pos hmem]; exact h) ⟨es[j], by simp, rfl⟩⟩
  simp [Instr.mapEntry, run_underlying ht, run_getObj_own hw hmm, hchk, hfk, hj, Instr.keyThatStays, hkey, hb k, hs, goInt]
 ·have hfk := run_findKeyS (P := P) hkt hagg g2 w
  obtain ⟨w', hs, hown⟩ := run_setObj_own (P := P) hw (es.push { key := ke k, val := z, born := ck }) (ck + 1) (hcu _ _)
  have hm2 := h.more (k := k) g1 hvz
  have e2 : mset m k y0 = m ++ [(k, y0)] := by unfold mset; rw [if_neg g1]
  rw [e2] at hm2
  refine ⟨.tuple #[z, .int .i64 (ck : Int)], w', _, ?_, hown, h1 _ _ z ck (by rw [if_neg g1]; exact hm2) ⟨_, by rw [Array.toList_push]; exact List.mem_append_right _ (.head _), rfl⟩⟩
  simp [Instr.mapEntry, run_underlying ht, run_getObj_own hw hmm, hchk, hfk, run_zero hi hiz, hs, goInt]
omit [DecidableEq κ] in
theorem Ents.storeOp {o : Oper} {ρ : Operand → Value} {t : TypeId} {mo so xo : Operand} {st : Nat} (ho : o.op = .entryStore t mo so xo) (hm' : ρ mo = .map (some b)) (hs' : ρ so = .int .i64 (st : Int))
  (h : Ents ke vr es ck m) (hst : ∃ e ∈ es.toList, e.born = st) (hv : ∀ x, vr (ρ xo) x) {c : Obj → Hp} (hcu : ∀ o o', Upd b o o' (c o) (c o'))
  (h1 : ∀ es', Ents ke vr es' ck m → K undef (c (.map es' ck))) : Op1 P g o ρ (c (.map es ck)) K KP := by
 have hmm : (b, Obj.map es ck) ∈ c (.map es ck) := (hcu _ (.map es ck)).mem
 refine Op1.ofUnit (s := Instr.entryStore t (.map (some b)) (.int .i64 (st : Int)) (ρ xo)) (by simp only [execOp, ho, hm', hs']) fun w hw => ?_
 obtain ⟨i, hi⟩ : ∃ i, es.findIdx? (fun e => (e.born : Int) == (st : Int)) = some i := by
  obtain ⟨e, he, rfl⟩ := hst
  rw [← Option.isSome_iff_exists, Array.findIdx?_isSome]
  rw [Array.any_eq_true']
  exact ⟨e, by simpa using he, by simp⟩
 obtain ⟨w', hs, hown⟩ := run_setObj_own (P := P) hw (es.modify i fun e => { e with val := ρ xo }) ck (hcu _ _)
 have hbn : ((es.modify i fun e => { e with val := ρ xo }).toList.map MapEntry.born) = es.toList.map MapEntry.born := by
  apply List.ext_getElem?; intro j
  simp only [List.getElem?_map, Array.getElem?_toList, Array.getElem?_modify]
  split
  ·cases es[j]? <;> rfl
  ·rfl
 refine ⟨w', _, ?_, hown, h1 _ ⟨by simp [h.len], fun j e x he hx => ?_, h.nd, by rw [hbn]; exact h.born, fun e he => ?_⟩⟩
 ·simp only [Instr.entryStore, Sem.run_bind, run_getObj_own hw hmm, Result.andThen_ok, asInt, asIntOf, Sem.run_pure]
  simp only [hi, hs]
 ·rw [Array.getElem?_modify] at he
  split at he
  ·cases h0 : es[j]? with
   | none => rw [h0] at he; simp at he
   | some e0 =>
    rw [h0] at he
    simp only [Option.map_some, Option.some.injEq] at he
    subst he
    exact ⟨(h.key j _ _ h0 hx).1, hv _⟩
  ·exact h.key j _ _ he hx
 ·have : e.born ∈ (es.modify i fun e => { e with val := ρ xo }).toList.map MapEntry.born := List.mem_map_of_mem he
  rw [hbn] at this
  obtain ⟨e0, h1, h2⟩ := List.mem_map.1 this
  rw [← h2]; exact h.lt e0 h1
end
theorem Hole.out {C H : Hp} {c : Hp → Hp} (h : Hole C H c) (N : Hp) : Ent (c (N ++ C)) (N ++ H) := by
 obtain ⟨e, F, hp⟩ := h.spec
 refine .perm ((hp (N ++ C)).trans ?_)
 rw [List.append_assoc]
 refine List.Perm.append_left N ?_
 have := hp C
 rw [← e] at this
 exact this.symm
end Go.Sx
set_option maxRecDepth 100000
namespace Go.Proofs
open Go Go.Sx
open Bdd
section
variable {kp : Nat} {K : Kd} {ord lev tr : List Nat} {C : Hp} {S : Nat → Bdd.Fn}
def vrI (N : Sto) (r : Nat) : Int := match N r with | some d => (d.v : Int) | none => -1
theorem got_live {N : Sto} {r : Nat} (hl : live N r) (h2 : ∀ d, N r = some d → 2 ≤ r) : ∃ lo hi, got N r = [.int .i64 (vrI N r), u32 lo, u32 hi] ∧ ∀ e, N r = some e → lo = e.lo ∧ hi = e.hi := by
 cases h : N r with
 | some d =>
  refine ⟨d.lo, d.hi, ?_, fun e he => by cases he; exact ⟨rfl, rfl⟩⟩
  rw [got_some h (h2 d h)]; simp [nrow, vrI, h]
 | none =>
  have hr : r < 2 := by
   rcases hl with hl | ⟨d, hd⟩
   ·exact hl
   ·rw [h] at hd; cases hd
  refine ⟨r, r, ?_, fun e he => by cases he⟩
  rw [got_const hr]; simp [vrI, h]
theorem parts_ok (h : KRep kp K ord lev tr C) {r : Nat} (hr : r < 4294967296) (hl : live K.N r) (h2 : ∀ d, K.N r = some d → 2 ≤ r) (y : Nat) :
  Rd Tryz.prog 159 #[ptr kp, u32 r, .int .i64 (y : Int)] C (· = .tuple #[u32 (pl K.N y r), u32 (ph K.N y r)]) := by
 have h0 := h
 obtain ⟨b, rfl, hO⟩ := h
 obtain ⟨lo, hi, hg, he⟩ := got_live hl h2
 intro g
 refine L159_sound (R := FnR _) ?_
 unfold L159
 refine Nil.ptr (FAddr.mk ?_)
 refine CallF.rd .here (knode_ok h0 hr) ?_
 rintro v rfl
 intro b5 _
 refine St.whole (r := got K.N r) (by exact .head _) rfl (got_one _ _).1 (got_one _ _).2 ?_
 rw [hg]
 refine FAddr.mk (Ld.mk (by exact .head _) rfl ?_)
 refine Bin.eqD (Br.dec (fun e => ?_) (fun e => ?_))
 ·refine FAddr.mk (Ld.mk (by exact .head _) rfl ?_)
  refine FAddr.mk (Ld.mk (by exact .head _) rfl ?_)
  cases hN : K.N r with
  | none => simp [vrI, hN] at e <;> omega
  | some d =>
   obtain ⟨rfl, rfl⟩ := he d hN
   have hv : d.v = y := by simp [vrI, hN] at e; omega
   obtain ⟨e1, e2⟩ := pl_y hN hv
   exact RdR.mk .tail (by rw [e1, e2]; rfl)
 ·obtain ⟨e1, e2⟩ := pl_o (N := K.N) (y := y) (r := r) fun d hd => by simp [vrI, hd] at e <;> omega
  exact RdR.mk .tail (by rw [e1, e2])
def CRow (c : Cx) : List Value := [u32 c.r, .int .i64 (c.d.v : Int), u32 c.d.lo, u32 c.d.hi, u32 c.a00, u32 c.a01, u32 c.a10, u32 c.a11]
theorem crow_one (c : Cx) : ∀ x ∈ CRow c, x.oneCell' = true := by intro x hx; simp [CRow, u32] at hx; rcases hx with rfl | rfl | rfl | rfl | rfl | rfl | rfl | rfl <;> rfl
structure CxIn (N : Sto) (x y : Nat) (l : List Nat) (all : List Cx) : Prop where
 nd : (all.map Cx.r).Nodup
 mem : ∀ c, c ∈ all ↔ c.r ∈ l ∧ crosses N x y c.r c.d ∧ c = cxOf N y c.r c.d
theorem CxIn.skip {N : Sto} {x y r : Nat} {l : List Nat} {all : List Cx} {d : Nd} (h : CxIn N x y l all) (hd : N r = some d) (hn : ¬ crosses N x y r d) : CxIn N x y (l ++ [r]) all where
 nd := h.nd
 mem := fun c => by
  rw [h.mem, List.mem_append]
  constructor
  ·rintro ⟨h1, h2⟩; exact ⟨.inl h1, h2⟩
  ·rintro ⟨h1 | h1, h2, h3⟩
   ·exact ⟨h1, h2, h3⟩
   ·simp at h1
    have := h2.1
    rw [h1, hd] at this; cases this
    rw [h1] at h2; exact absurd h2 hn
theorem CxIn.more {N : Sto} {x y r : Nat} {l : List Nat} {all : List Cx} {d : Nd} (h : CxIn N x y l all) (hr : r ∉ l) (hn : crosses N x y r d) : CxIn N x y (l ++ [r]) (all ++ [cxOf N y r d]) where
 nd := by
  rw [List.map_append]
  refine List.nodup_append.2 ⟨h.nd, by simp, fun a ha b hb e => ?_⟩
  simp [cxOf] at hb
  subst e
  obtain ⟨c, hc, rfl⟩ := List.mem_map.1 ha
  exact hr (hb ▸ ((h.mem c).1 hc).1)
 mem := fun c => by
  rw [List.mem_append, h.mem, List.mem_append, List.mem_singleton, List.mem_singleton]
  constructor
  ·rintro (⟨h1, h2⟩ | rfl)
   ·exact ⟨.inl h1, h2⟩
   ·exact ⟨.inr rfl, hn, rfl⟩
  ·rintro ⟨h1 | h1, h2, h3⟩
   ·exact .inl ⟨h1, h2, h3⟩
   ·right
    have h4 := h2.1
    rw [h1, hn.1] at h4; cases h4
    exact h3.trans (by rw [h1])
theorem CxIn.all {N : Sto} {x y : Nat} {l : List Nat} {all : List Cx} (h : CxIn N x y l all) (hl : ∀ r d, N r = some d → d.v = x → r ∈ l) : CxAll N x y all where
 nd := h.nd
 mem := fun c => by
  rw [h.mem]
  exact ⟨fun h => h.2, fun h => ⟨hl _ _ h.1.1 h.1.2.1, h⟩⟩
theorem node_rd (h : KRep kp K ord lev tr C) {r : Nat} (hl : live K.N r) (h2 : ∀ d, K.N r = some d → 2 ≤ r) {H : Hp} {c : Hp → Hp} (hh : Hole C H c) {g : Gh} {Q : Value → Hp → Prop} {KP : List PanicEntry → Hp → Prop}
  (hk : ∀ lo hi, got K.N r = [.int .i64 (vrI K.N r), u32 lo, u32 hi] → (∀ e, K.N r = some e → lo = e.lo ∧ hi = e.hi) → Q (.agg #[.int .i64 (vrI K.N r), u32 lo, u32 hi]) H) : CallF Tryz.prog g 104 #[ptr kp, u32 r] H Q KP := by
 have hr := h.lt hl
 obtain ⟨lo, hi, hg, he⟩ := got_live hl h2
 refine CallF.rd hh (knode_ok h (by omega)) ?_
 rintro v rfl
 have := hk lo hi hg he
 rw [hg]
 exact this
theorem crossings_ok (h : KRep kp K ord lev tr C) (hok : Ok K S (lv lev)) {x y : Nat} (hx : x < K.n) :
  Fc Tryz.prog 126 #[ptr kp, .int .i64 (x : Int), .int .i64 (y : Int)] C (fun r H => ∃ all Na, H = Na ++ C ∧ SOwn 186 8 r (all.map CRow) Na ∧ CxAll K.N x y all ∧ all.length ≤ 1048576) := by
 have hcap := h.cap
 have h0 := h
 obtain ⟨b, hC, hO⟩ := h
 have htab : ∀ d r, K.T d = some r ↔ K.N r = some d := fun d r => by rw [hok.mid.tab]; exact ⟨fun h => h.1, fun h => ⟨h, fun x => x⟩⟩
 have two : ∀ {r d}, K.N r = some d → 2 ≤ r := fun hd => (hok.mid.two hd).1
 intro g
 refine L126_sound (R := FnR _) ?_
 unfold L126
 rw [hC]
 refine Nil.ptr (FAddr.mk (FAddr.mk ?_))
 refine Ld.mk (v := ptr b.pt) (by exact .head _) rfl ?_
 refine CallF.fn (.cons (.app .left)) (refs_ok hO.ut hx (fun d d' r h1 h2 => by rw [htab] at h1 h2; rw [h1] at h2; cases h2; rfl) (fun d r h1 => by have := (hok.mid.two ((htab d r).1 h1)).2; omega)) ?_
 rintro w H ⟨sl, l, Nr, rfl, rfl, hsl, hnd, hmem⟩
 refine Ext.mk rfl (Ext.mk rfl ?_)
 refine hsl.lenS ?_
 rw [iw_length]
 have hl : ∀ r ∈ l, ∃ d, K.N r = some d ∧ d.v = x := fun r hr => by obtain ⟨d, h1, h2⟩ := (hmem r).1 hr; exact ⟨d, (htab d r).1 h1, h2⟩
 have hlen : l.length ≤ 1048576 := by
  have := length_le_of_sub (l' := List.range 1048576) hnd fun r hr => by
   obtain ⟨d, hd, _⟩ := hl r hr
   have := (hok.mid.two hd).2
   exact List.mem_range.2 (by omega)
  simpa using this
 refine ⟨fun vs H => ∃ (v : Value) (i : Nat) (all : List Cx) (Na : Hp), vs = [v, .int .i64 (i : Int)] ∧ H = Na ++ (Nr ++ C) ∧ i ≤ l.length ∧ SOwn 186 8 v (all.map CRow) Na ∧ CxIn K.N x y (l.take i) all ∧ all.length ≤ i,
  fun vs _ => l.length - nAt vs 1, JE.of (Hole.out (C := b.CT) (.cons (.app .left)) Nr) ⟨_, 0, [], [], rfl, by rw [hC]; rfl, Nat.zero_le _, SOwn.nil _ _, ⟨by simp, by simp⟩, Nat.le_refl _⟩, ?_⟩
 rintro w w' H ⟨v, i, all, Na, hw, rfl, hi, ho, hcx, hal⟩ gs
 simp only [List.cons.injEq, and_true] at hw
 obtain ⟨rfl, rfl⟩ := hw
 refine Bin.ltN (Br.dec (fun hlt => ?_) (fun hge => ?_))
 rotate_left
 ·have : i = l.length := by omega
  subst this
  rw [List.take_length] at hcx
  refine FnR.mk (H'' := Na ++ C) ?_ ⟨all, Na, by rw [hC], ho, hcx.all fun r d hd hv => (hmem r).2 ⟨d, (htab d r).2 hd, hv⟩, by omega⟩
  exact Ent.prep .right Na
 obtain ⟨r, hri⟩ : ∃ r, l[i]? = some r := ⟨_, List.getElem?_eq_getElem hlt⟩
 have htk : l.take (i + 1) = l.take i ++ [r] := by rw [List.take_add_one, hri]; rfl
 have hrn : r ∉ l.take i := fun hm => by
  have : (l.take (i + 1)).Nodup := hnd.sublist (List.take_sublist _ _)
  rw [htk] at this
  exact (List.nodup_append.1 this).2.2 r hm r (by simp) rfl
 obtain ⟨d, hd, hdv⟩ := hl r (List.mem_of_getElem? hri)
 have hdlo := hok.mid.lo hd
 have hdhi := hok.mid.hi hd
 intro J17 hJ17
 have next : ∀ v' all' Na', SOwn 186 8 v' (all'.map CRow) Na' → CxIn K.N x y (l.take (i + 1)) all' → all'.length ≤ i + 1 → J17 [v'] (Na' ++ (Nr ++ C)) := fun v' all' Na' h1 h2 h3 =>
  hJ17 _ _ fun gs => Bin.addN (b := 1) (by simp [lim]; omega) (Back.mk ⟨v', i + 1, all', Na', rfl, rfl, by omega, h1, h2, h3⟩ (by simp [nAt]; omega))
 refine hsl.ld (x := (r : Int)) (iw_get hri) (fun y hy => List.mem_append_right _ (List.mem_append_left _ hy)) ?_
 refine Nil.ptr (FAddr.mk ?_)
 refine node_rd h0 (.inr ⟨d, hd⟩) (fun _ h => two h) (.app (.app .here)) fun lo hi hg he => ?_
 obtain ⟨rfl, rfl⟩ := he d hd
 have hvr : vrI K.N r = (x : Int) := by simp [vrI, hd, hdv]
 rw [hvr]
 intro b28 _
 refine St.whole (r := [.int .i64 (x : Int), u32 d.lo, u32 d.hi]) (by exact .head _) rfl rfl (by intro z hz; simp [u32] at hz; rcases hz with rfl | rfl | rfl <;> rfl) ?_
 obtain ⟨H0, hH0⟩ : ∃ H0, H0 = (b28, Obj.cells #[.int .i64 (x : Int), u32 d.lo, u32 d.hi] 103 (0, 0)) :: (Na ++ (Nr ++ C)) := ⟨_, rfl⟩
 have hEq : ((b28, Obj.cells [Value.int .i64 (x : Int), u32 d.lo, u32 d.hi].toArray 103 (0, 0)) :: (Na ++ (Nr ++ C))) = H0 := hH0.symm
 rw [hEq]
 intro J31 hJ31
 have skip : ¬ crosses K.N x y r d → J31 [.bool true] H0 := fun hn => hJ31 _ _ fun gs => Br.yes (JE.of (by rw [hH0]; exact .tail) (next w all Na ho (by rw [htk]; exact hcx.skip hd hn) (by omega)))
 have take : crosses K.N x y r d → J31 [.bool false] H0 := fun hn => by
  refine hJ31 _ _ fun gs => Br.no ?_
  rw [hH0]
  refine LdA.whole (r := [.int .i64 (x : Int), u32 d.lo, u32 d.hi]) (by exact .head _) rfl ?_
  refine Build.mk (cs := CRow ⟨r, ⟨x, d.lo, d.hi⟩, 0, 0, 0, 0⟩) (by kernel_rfl) ?_
  intro b37 _
  refine St.whole (r := CRow ⟨r, ⟨x, d.lo, d.hi⟩, 0, 0, 0, 0⟩) (by exact .head _) rfl rfl (crow_one _) ?_
  refine FAddr.mk (Ld.mk (by exact .tail _ (.head _)) rfl ?_)
  refine CallF.rd (.cons (.cons (.app (.app .here)))) (parts_ok h0 (by have := h0.lt hdlo; omega) hdlo (fun _ h => two h) y) ?_
  rintro w rfl
  refine Ext.mk rfl (Ext.mk rfl ?_)
  refine FAddr.mk (St.one (by exact .head _) rfl (by simp [CRow]) rfl ?_)
  refine FAddr.mk (St.one (by exact .head _) rfl (by simp [CRow]) rfl ?_)
  refine FAddr.mk (Ld.mk (by exact .tail _ (.head _)) rfl ?_)
  refine CallF.rd (.cons (.cons (.app (.app .here)))) (parts_ok h0 (by have := h0.lt hdhi; omega) hdhi (fun _ h => two h) y) ?_
  rintro w rfl
  refine Ext.mk rfl (Ext.mk rfl ?_)
  refine FAddr.mk (St.one (by exact .head _) rfl (by simp [CRow]) rfl ?_)
  refine FAddr.mk (St.one (by exact .head _) rfl (by simp [CRow]) rfl ?_)
  have hd' : d = ⟨x, d.lo, d.hi⟩ := by cases d; simp at hdv; subst hdv; rfl
  have hcell : CRow (cxOf K.N y r d) = [u32 r, .int .i64 (x : Int), u32 d.lo, u32 d.hi, u32 (pl K.N y d.lo), u32 (ph K.N y d.lo), u32 (pl K.N y d.hi), u32 (ph K.N y d.hi)] := by
   simp [CRow, cxOf, hdv]
  refine LdA.whole (r := CRow (cxOf K.N y r d)) (by rw [hcell]; exact .head _) rfl ?_
  refine BuildSl.one (e := 186) (z := .agg #[.int .u32 0, .int .i64 0, .int .u32 0, .int .u32 0, .int .u32 0, .int .u32 0, .int .u32 0, .int .u32 0]) (k := 8) (r := CRow (cxOf K.N y r d)) (by kernel_rfl) (by kernel_rfl) (by kernel_rfl) (by decide) rfl fun xb => ?_
  refine ho.appH (.cons (.cons (.cons .left))) (by exact .head _) rfl (crow_one _) ⟨_, rfl, rfl⟩ (by simp; omega) (by simp; omega) fun v' Na' ho' => ?_
  refine JE.of (.skip (.skip .tail)) (next v' (all ++ [cxOf K.N y r d]) Na' (by rw [List.map_append]; exact ho') (by rw [htk]; exact hcx.more hrn hn) (by simp; omega))
 refine DR.of (R := [(b28, Obj.cells #[.int .i64 (x : Int), u32 d.lo, u32 d.hi] 103 (0, 0))]) (by rw [hH0]; exact .left (A := [_])) ?_
 refine Nil.ptr (FAddr.mk (FAddr.mk (Ld.mk (by exact .head _) rfl ?_)))
 have heR : Ent H0 [(b28, Obj.cells #[.int .i64 (x : Int), u32 d.lo, u32 d.hi] 103 (0, 0))] := by rw [hH0]; exact .left (A := [_])
 intro F
 rw [hH0]
 refine node_rd h0 hdlo (fun _ h => two h) (.cons (.app (.app .here))) fun lo1 hi1 hg1 he1 => ?_
 rw [← hH0]
 refine ⟨heR, Fld.mk rfl (Bin.neD (Br.dec (fun hne => ?_) (fun he => ?_)))⟩
 ·refine Nil.ptr (FAddr.mk (FAddr.mk (Ld.mk (by exact .head _) rfl ?_)))
  intro F2
  rw [hH0]
  refine node_rd h0 hdhi (fun _ h => two h) (.cons (.app (.app .here))) fun lo2 hi2 hg2 he2 => ?_
  rw [← hH0]
  refine ⟨heR, Fld.mk rfl (Bin.neD (Pick.mk ?_))⟩
  by_cases e2 : vrI K.N d.hi = (y : Int)
  ·rw [decide_eq_false (by simpa using e2)]
   refine JE.mk (take ⟨hd, hdv, .inr ?_⟩)
   cases hN : K.N d.hi with
   | none => simp [vrI, hN] at e2 <;> omega
   | some f => exact ⟨f, rfl, by simp [vrI, hN] at e2; omega⟩
  ·rw [decide_eq_true (by simpa using e2)]
   refine JE.mk (skip ?_)
   rintro ⟨_, _, ⟨f, hf, hfv⟩ | ⟨f, hf, hfv⟩⟩
   ·exact hne (by simp [vrI, hf, hfv])
   ·exact e2 (by simp [vrI, hf, hfv])
 ·have e1 : vrI K.N d.lo = (y : Int) := by simpa using he
  refine JE.mk (take ⟨hd, hdv, .inl ?_⟩)
  cases hN : K.N d.lo with
  | none => simp [vrI, hN] at e1 <;> omega
  | some f => exact ⟨f, rfl, by simp [vrI, hN] at e1; omega⟩
end
end Go.Proofs
set_option maxRecDepth 100000
namespace Go.Proofs
open Go Go.Sx
open Bdd
section
def zOf : Value → Int
 | .int _ z => z
 | _ => 0
abbrev vrZ (v : Value) (z : Int) : Prop := v = .int .i64 z
def MapK (es : Array MapEntry) (ck : Nat) (ks : List Nd) : Prop := ∃ m : List (Nd × Int), Ents nK vrZ es ck m ∧ m.map Prod.fst = ks
theorem MapK.empty : MapK #[] 0 [] := ⟨[], Ents.empty, rfl⟩
theorem MapK.of {es : Array MapEntry} {ck : Nat} {m : List (Nd × Int)} (h : Ents nK (fun v _ => ∃ z, v = .int .i64 z) es ck m) : MapK es ck (m.map Prod.fst) := by
 have hlen : es.toList.length = m.length := by simpa using h.len
 have hz : ((es.toList.zip m).map fun p => ((p.2.1, zOf p.1.val) : Nd × Int)).map Prod.fst = m.map Prod.fst := by
  rw [List.map_map]
  have : (Prod.fst ∘ fun (p : MapEntry × (Nd × Int)) => ((p.2.1, zOf p.1.val) : Nd × Int)) = Prod.fst ∘ Prod.snd := rfl
  rw [this, ← List.map_map, List.map_snd_zip (by omega)]
 refine ⟨_, ⟨?_, fun i e x he hx => ?_, by rw [hz]; exact h.nd, h.born, h.lt⟩, hz⟩
 ·simp [h.len]
 ·have hi := (Array.getElem?_eq_some_iff.1 he).1
  have hi2 : i < m.length := by rw [← h.len]; exact hi
  have hm : m[i]? = some m[i] := List.getElem?_eq_getElem hi2
  obtain ⟨h1, z, h2⟩ := h.key i e _ he hm
  have hx' : x = (m[i].1, zOf e.val) := by
   have e1 : es.toList[i]? = some e := by rw [Array.getElem?_toList]; exact he
   rw [List.getElem?_map, (List.getElem?_zip_eq_some (z := (e, m[i]))).2 ⟨e1, hm⟩] at hx
   simpa using hx.symm
  subst hx'
  exact ⟨h1, by rw [h2]; rfl⟩
theorem Own.sub {g : Gh} {H : Hp} {w : World} (h : Own g H w) {y : Nat × Obj} (hy : y ∈ H) : Own g [y] w := by
 obtain ⟨X, Y, rfl⟩ := List.append_of_mem hy
 exact (h.perm List.perm_middle).left (A := [y])
noncomputable abbrev FF : Func := Tryz.f127
theorem six {i : Nat} (hi : i < 6) : ¬ notOn .any (regO FF 10) i 6 := fun h => by
 have e6 : (regO FF 10)[6]? = some (opAt FF 10 6) := by kernel_rfl
 have := h _ e6
 have hm : (⟨i, .phase⟩ : Edge) ∈ (opAt FF 10 6).after := by
  have ea : (opAt FF 10 6).after = #[⟨0, .data⟩, ⟨5, .data⟩, ⟨3, .data⟩, ⟨4, .chain⟩, ⟨0, .phase⟩, ⟨1, .phase⟩, ⟨2, .phase⟩, ⟨3, .phase⟩, ⟨4, .phase⟩, ⟨5, .phase⟩] := by kernel_rfl
  rw [ea]
  rcases i with _ | _ | _ | _ | _ | _ | i
  all_goals first | omega | simp
 exact this _ hm rfl rfl
end
end Go.Proofs
set_option maxRecDepth 100000
namespace Go.Proofs
open Go Go.Sx
open Bdd
section
theorem incr_ok {g : Gh} {mb nb : Nat} {es : Array MapEntry} {ck : Nat} {ks : List Nd} {d : Nd} (hmk : MapK es ck ks) {c : Obj → Hp} (hcu : ∀ o o', Upd mb o o' (c o) (c o')) (hcn : ∀ o, (nb, Obj.cells (nrow d).toArray 103 (0, 0)) ∈ c o) {K : Hp → Prop}
  (hk : ∀ es' ck', MapK es' ck' (if d ∈ ks then ks else ks ++ [d]) → K (c (.map es' ck'))) :
  RawR Tryz.prog g 10 (regO FF 10) [7, 11] [.map (some mb), ptr nb] (c (.map es ck)) K := by
 have hm : (mb, Obj.map es ck) ∈ c (.map es ck) := (hcu _ (.map es ck)).mem
 have hn := hcn (.map es ck)
 obtain ⟨m, hE, rfl⟩ := hmk
 intro a w hok hvs hw
 simp only [List.map_cons, List.map_nil, List.cons.injEq, and_true] at hvs
 obtain ⟨h7, h11⟩ := hvs
 obtain ⟨n, hnn⟩ : ∃ n, n = a.tmps.size := ⟨_, rfl⟩
 obtain ⟨fr, hfr⟩ : ∃ fr : Fr, fr = fun s => a.tmps.getD s undef := ⟨_, rfl⟩
 have ha : Agree a.defers n a fr := ⟨rfl, hnn.symm, fun s => by rw [hfr]⟩
 have f7 : fr 7 = .map (some mb) := by rw [hfr]; exact h7
 have f11 : fr 11 = ptr nb := by rw [hfr]; exact h11
 rw [← hnn] at hok
 have eok : okDsts n (regO FF 10).toList = (Nat.blt 58 n && (Nat.blt 59 n && (Nat.blt 60 n && (Nat.blt 61 n && (Nat.blt 62 n && (Nat.blt 63 n && (true && true))))))) := by kernel_rfl
 rw [eok] at hok
 simp only [Bool.and_eq_true, Bool.and_true] at hok
 obtain ⟨k58, k59, k60, k61, k62, k63⟩ := hok
 refine wp_region_any (by kernel_rfl) ?_
 obtain ⟨z0, hz0⟩ : ∃ z0 : Int, z0 = (mget m d).getD 0 := ⟨_, rfl⟩
 obtain ⟨S0, hS0⟩ : ∃ S0 : World → Prop, S0 = fun w => Own g [(nb, Obj.cells (nrow d).toArray 103 (0, 0))] w ∧ (Instr.lookup 219 (.map (some mb)) (nK d) false).run Tryz.prog w = .ok (.int .i64 z0) w := ⟨_, rfl⟩
 have look : ∀ {es' : Array MapEntry} {ck' : Nat} {m' : List (Nd × Int)} {H' : Hp} {w' : World}, Ents nK vrZ es' ck' m' → (mb, Obj.map es' ck') ∈ H' → Own g H' w' → (mget m' d).getD 0 = z0 → (Instr.lookup 219 (.map (some mb)) (nK d) false).run Tryz.prog w' = .ok (.int .i64 z0) w' := by
  intro es' ck' m' H' w' h1 h2 h3 h4
  have hL : LookS Tryz.prog 103 (.int .i64 0) false H' (.map (some mb)) (nK d) (· = .int .i64 z0) := by
   cases hg : mget m' d with
   | some z => exact Ents.hitS (ke := nK) (k := d) nK_eq nK_chk h1 h2 hg (by rintro v rfl; rw [hg] at h4; simp at h4; rw [h4]; rfl)
   | none => exact Ents.missS (ke := nK) (k := d) nK_eq nK_chk h1 h2 hg (by rw [hg] at h4; simp at h4; rw [← h4]; rfl)
  obtain ⟨v, hr, rfl⟩ := hL.run (P := Tryz.prog) h3 (t := 219) (kt := 103) (e := 3) (kd := .struct (Tryz.prog.fieldsOf 103)) (i := (Tryz.prog.info? 3).get (by kernel_rfl)) (by kernel_rfl) node_ty rfl (by kernel_rfl) (by kernel_rfl)
  exact hr
 have hw0 := hw.drew'
 have s0 : S0 { w with drawn := w.drawn + 1 } := by rw [hS0]; exact ⟨Own.sub hw0 hn, look hE hm hw0 hz0.symm⟩
 have hQp : ∀ {o : Oper} {v : Value} (c : List PanicEntry) (a' : Act) (w' : World), (fun (e : Exit) (a' : Act) (w' : World) => e = .normal ∧ a'.defers = a.defers ∧ a'.tmps.size = a.tmps.size ∧ (∀ s, inDsts (regO FF 10).toList s = false → a'.tmps.getD s undef = a.tmps.getD s undef) ∧ ∃ H', Own g H' w' ∧ K H') (.panic c) (a'.put o.dst v) w' →
   (fun (e : Exit) (a' : Act) (w' : World) => e = .normal ∧ a'.defers = a.defers ∧ a'.tmps.size = a.tmps.size ∧ (∀ s, inDsts (regO FF 10).toList s = false → a'.tmps.getD s undef = a.tmps.getD s undef) ∧ ∃ H', Own g H' w' ∧ K H') (.panic c) a' w' := by
  rintro _ _ _ _ _ ⟨h, _⟩; cases h
 have hsel : Region.noSelect (regO FF 10) = true := by kernel_rfl
 have hkeep : ∀ i, i < 6 → ∀ (j : Nat) (oj : Oper) (w w' : World), (regO FF 10)[j]? = some oj → j ≠ i → notOn .any (regO FF 10) i j → S0 w → (j ≠ 6 → S0 w → S0 w') → S0 w' := fun i hi j oj w w' _ _ hno h0 hs => by
  by_cases e : j = 6
  ·subst e; exact absurd hno (six hi)
  ·exact hs e h0
 refine AnyS.any (S := fun j w w' => j ≠ 6 → S0 w → S0 w') ?_
 have hsz : (regO FF 10).size = 7 := by kernel_rfl
 rw [hsz]
 refine AnyS.take (S0 := S0) (i := 0) (oi := opAt FF 10 0) (v := .map (some mb)) (by kernel_rfl) hsel (by kernel_rfl) (by kernel_rfl) hQp (fun _ h _ _ => h) (hkeep 0 (by decide)) (.inl ⟨rfl, fun w hw => ?_⟩) s0 ?_
 ·rw [ha.eval]; have : (execOp (ev fr) (opAt FF 10 0)) = pure (.value (fr 7)) := rfl
  rw [this, f7]; rfl
 have ha1 := ha.put (d := some 58) k58 (.map (some mb))
 change AnyS _ _ _ _ _ 6 _ (a.put (some 58) (.map (some mb))) _
 refine AnyS.take (S0 := S0) (i := 1) (oi := opAt FF 10 1) (v := nK d) (by kernel_rfl) hsel (by kernel_rfl) (by kernel_rfl) hQp (fun _ h _ _ => h) (hkeep 1 (by decide)) (.inl ⟨rfl, fun w hw => ?_⟩) s0 ?_
 ·rw [ha1.eval]
  have e : opP Tryz.prog g (opAt FF 10 1) (ev (upd fr (some 58) (.map (some mb)))) [(nb, Obj.cells (nrow d).toArray 103 (0, 0))] (fun v => v = nK d) = LdA 3 [(nb, Obj.cells (nrow d).toArray 103 (0, 0))] (fr 11) (fun v => v = nK d) := by kernel_rfl
  obtain ⟨v, rfl, hr, _⟩ := opP_val (e.mpr (by rw [f11]; exact LdA.whole (r := nrow d) (.head _) rfl rfl))
  rw [hS0] at hw
  exact hr _ hw.1
 have ha2 := ha1.put (d := some 59) k59 (nK d)
 change AnyS _ _ _ _ _ 5 _ ((a.put (some 58) (.map (some mb))).put (some 59) (nK d)) _
 refine AnyS.take (S0 := S0) (i := 2) (oi := opAt FF 10 2) (v := .int .i64 z0) (by kernel_rfl) hsel (by kernel_rfl) (by kernel_rfl) hQp (fun _ h _ _ => h) (hkeep 2 (by decide)) (.inl ⟨rfl, fun w hw => ?_⟩) s0 ?_
 ·rw [ha2.eval]
  have e : execOp (ev (upd (upd fr (some 58) (.map (some mb))) (some 59) (nK d))) (opAt FF 10 2) = (do pure (.value (← Instr.lookup 219 (.map (some mb)) (nK d) false))) := rfl
  rw [hS0] at hw
  rw [e]
  simp only [Sem.run_bind, hw.2, Result.andThen_ok, Sem.run_pure]
 have ha3 := ha2.put (d := some 60) k60 (.int .i64 z0)
 change AnyS _ _ _ _ _ 4 _ (((a.put (some 58) (.map (some mb))).put (some 59) (nK d)).put (some 60) (.int .i64 z0)) _
 refine AnyS.take (S0 := S0) (i := 3) (oi := opAt FF 10 3) (v := .int .i64 (IntKind.i64.wrap (z0 + 1))) (by kernel_rfl) hsel (by kernel_rfl) (by kernel_rfl) hQp (fun _ h _ _ => h) (hkeep 3 (by decide)) (.inl ⟨rfl, fun w hw => ?_⟩) s0 ?_
 ·rw [ha3.eval]
  have e : opP Tryz.prog g (opAt FF 10 3) (ev (upd (upd (upd fr (some 58) (.map (some mb))) (some 59) (nK d)) (some 60) (.int .i64 z0))) [(nb, Obj.cells (nrow d).toArray 103 (0, 0))] (fun v => v = .int .i64 (IntKind.i64.wrap (z0 + 1))) = Bin .num .add (.int .i64 z0) (.int .i64 1) (fun v => v = .int .i64 (IntKind.i64.wrap (z0 + 1))) := by kernel_rfl
  obtain ⟨v, rfl, hr, _⟩ := opP_val (e.mpr (Bin.add rfl))
  rw [hS0] at hw
  exact hr _ hw.1
 have ha4 := ha3.put (d := some 61) k61 (.int .i64 (IntKind.i64.wrap (z0 + 1)))
 change AnyS _ _ _ _ _ 3 _ ((((a.put (some 58) (.map (some mb))).put (some 59) (nK d)).put (some 60) (.int .i64 z0)).put (some 61) (.int .i64 (IntKind.i64.wrap (z0 + 1)))) _
 generalize (((a.put (some 58) (.map (some mb))).put (some 59) (nK d)).put (some 60) (.int .i64 z0)).put (some 61) (.int .i64 (IntKind.i64.wrap (z0 + 1))) = a4 at ha4
 refine AnyS.all (rs := [4]) (by kernel_rfl) (by simp) fun i hi => ?_
 simp only [List.mem_singleton] at hi
 subst hi
 have e4 : (regO FF 10)[4]? = some (opAt FF 10 4) := by kernel_rfl
 unfold wpOp
 rw [e4]
 simp only
 rw [if_pos (show Region.wanted (opAt FF 10 4) (yielded (regO FF 10) a4.tmps) = true from rfl)]
 refine .inl ?_
 show (opAt FF 10 4).upon Tryz.prog a4 _ _ ((execOp a4.eval (opAt FF 10 4)).run Tryz.prog _)
 rw [ha4.eval]
 refine After.upon (g := g) (KP := fun _ _ => False) (Ents.entryOp (K := fun v H' => ∃ es' ck' v0 st, Ents nK vrZ es' ck' (if d ∈ m.map Prod.fst then m else m ++ [(d, 0)]) ∧ (∃ e ∈ es'.toList, e.born = st) ∧ H' = c (.map es' ck') ∧ v = .tuple #[v0, .int .i64 (st : Int)])
  (t := 219) (kt := 103) (e := 3) (z := .int .i64 0) (k := d) (y0 := (0 : Int)) nK_eq nK_chk nK_bits (o := opAt FF 10 4) (mo := .tmp 58) (ko := .tmp 59) rfl rfl rfl (by kernel_rfl) node_ty rfl (by kernel_rfl) rfl hE hcu
  (fun es' ck' v st h1 h2 => ⟨es', ck', v, st, h1, h2, rfl, rfl⟩) _ hw0) ?_ (fun _ _ _ _ h => h.elim)
 rintro v H1 w1 hw1 ⟨es1, ck1, v0, st, hE1, hst, rfl, rfl⟩
 have hn1 : (nb, Obj.cells (nrow d).toArray 103 (0, 0)) ∈ c (.map es1 ck1) := hcn _
 have hm1 : (mb, Obj.map es1 ck1) ∈ c (.map es1 ck1) := (hcu _ (.map es1 ck1)).mem
 have s1 : S0 w1 := by
  rw [hS0]
  refine ⟨Own.sub hw1 hn1, look hE1 hm1 hw1 ?_⟩
  rw [hz0]
  split
  ·rfl
  ·rename_i hd'
   have e1 := mget_none.2 hd'
   have e2 : mget (m ++ [(d, 0)]) d = some 0 := (mget_mem (by
    have := hE1.nd; rw [if_neg hd'] at this; exact this)).2 (by simp)
   rw [e1, e2]; rfl
 refine ⟨fun _ _ => s1, ?_⟩
 have ha5 := ha4.put (d := some 62) k62 (.tuple #[v0, .int .i64 (st : Int)])
 change AnyS _ _ _ _ _ 2 _ (a4.put (some 62) (.tuple #[v0, .int .i64 (st : Int)])) _
 generalize a4.put (some 62) (.tuple #[v0, .int .i64 (st : Int)]) = a5 at ha5
 refine AnyS.take (S0 := S0) (i := 5) (oi := opAt FF 10 5) (v := .int .i64 (st : Int)) (by kernel_rfl) hsel (by kernel_rfl) (by kernel_rfl) hQp (fun _ h _ _ => h) (hkeep 5 (by decide)) (.inl ⟨rfl, fun w hw => ?_⟩) s1 ?_
 ·rw [ha5.eval]
  obtain ⟨v, rfl, hr, _⟩ := opP_val (P := Tryz.prog) (g := g) (o := opAt FF 10 5) (H := [(nb, Obj.cells (nrow d).toArray 103 (0, 0))]) (k := fun v => v = .int .i64 (st : Int))
   (ρ := ev (upd (upd (upd (upd (upd fr (some 58) (.map (some mb))) (some 59) (nK d)) (some 60) (.int .i64 z0)) (some 61) (.int .i64 (IntKind.i64.wrap (z0 + 1)))) (some 62) (.tuple #[v0, .int .i64 (st : Int)]))) ⟨_, _, rfl, rfl, rfl⟩
  rw [hS0] at hw
  exact hr _ hw.1
 have ha6 := ha5.put (d := some 63) k63 (.int .i64 (st : Int))
 change AnyS _ _ _ _ _ 1 _ (a5.put (some 63) (.int .i64 (st : Int))) _
 generalize a5.put (some 63) (.int .i64 (st : Int)) = a6 at ha6
 refine AnyS.all (rs := [6]) (by kernel_rfl) (by simp) fun i hi => ?_
 simp only [List.mem_singleton] at hi
 subst hi
 have e6 : (regO FF 10)[6]? = some (opAt FF 10 6) := by kernel_rfl
 unfold wpOp
 rw [e6]
 simp only
 rw [if_pos (show Region.wanted (opAt FF 10 6) (yielded (regO FF 10) a6.tmps) = true from rfl)]
 refine .inl ?_
 show (opAt FF 10 6).upon Tryz.prog a6 _ _ ((execOp a6.eval (opAt FF 10 6)).run Tryz.prog _)
 rw [ha6.eval]
 refine After.upon (g := g) (KP := fun _ _ => False) (Ents.storeOp (vr := fun v _ => ∃ z : Int, v = .int .i64 z) (K := fun _ H' => ∃ es', Ents nK (fun v _ => ∃ z : Int, v = .int .i64 z) es' ck1 (if d ∈ m.map Prod.fst then m else m ++ [(d, 0)]) ∧ H' = c (.map es' ck1))
  (o := opAt FF 10 6) (t := 219) (mo := .tmp 58) (so := .tmp 63) (xo := .tmp 61) rfl rfl rfl (hE1.mono fun v z h => ⟨z, h⟩) hst (fun _ => ⟨_, rfl⟩) hcu
  (fun es' h1 => ⟨es', h1, rfl⟩) _ hw1) ?_ (fun _ _ _ _ h => h.elim)
 rintro v H2 w2 hw2 ⟨es2, hE2, rfl⟩
 refine ⟨fun h => absurd rfl h, ?_⟩
 have ha7 : Agree a.defers n a6 _ := ha6
 change AnyS _ _ _ _ _ 0 _ a6 _
 refine AnyS.done (by kernel_rfl) ⟨rfl, ha7.defers, by rw [ha7.size, hnn], fun s hs => ?_, _, hw2, hk es2 ck1 ?_⟩ 0
 ·have eD : inDsts (regO FF 10).toList s = (Nat.beq s 58 || (Nat.beq s 59 || (Nat.beq s 60 || (Nat.beq s 61 || (Nat.beq s 62 || (Nat.beq s 63 || (false || false))))))) := by kernel_rfl
  rw [eD] at hs
  simp only [Bool.or_eq_false_iff] at hs
  rw [ha7.get]
  simp only [upd, hs, cond_false]
  rw [hfr]
 ·have := MapK.of hE2
  have e : (if d ∈ m.map Prod.fst then m else m ++ [(d, (0 : Int))]).map Prod.fst = if d ∈ m.map Prod.fst then m.map Prod.fst else m.map Prod.fst ++ [d] := by
   split <;> simp
  rw [e] at this
  exact this
end
end Go.Proofs
set_option maxRecDepth 100000
namespace Go.Proofs
open Go Go.Sx
open Bdd
section
variable {kp : Nat} {K : Kd} {ord lev tr : List Nat} {C : Hp} {S : Nat → Bdd.Fn}
theorem buildTwo {H : Hp} (a b : Nd) {K : Value → Hp → Prop} (h : ∀ x, K (.slice (some ⟨x, 0, none⟩) 2 2) ((x, .cells (rows [nrow a, nrow b]) 103 (0, 0)) :: H)) :
  BuildSl Tryz.prog 220 2 [(0, nK a), (1, nK b)] H K := by
 refine ⟨rows [nrow a, nrow b], 103, 3, .agg #[.int .i64 0, .int .u32 0, .int .u32 0], by kernel_rfl, by kernel_rfl, by kernel_rfl, by decide, ?_, fun x _ => h x⟩
 have e1 : Array.range (2 * 3) = #[0, 1, 2, 3, 4, 5] := rfl
 simp [Instr.fill, Value.cells, nK, nrow, e1, rows, u32]
def MadeIn (K : Kd) (x : Nat) (l : List Cx) (ks : List Nd) (m : List Nd) : Prop := m.Nodup ∧ ∀ k, k ∈ m ↔ ((∃ c ∈ l, k ∈ keys x c) ∨ k ∈ ks) ∧ K.T k = none ∧ k.lo ≠ k.hi
theorem MadeIn.step {x : Nat} {l : List Cx} {ks m : List Nd} {d : Nd} (h : MadeIn K x l ks m) (hd : K.T d = none ∧ d.lo ≠ d.hi) : MadeIn K x l (ks ++ [d]) (if d ∈ m then m else m ++ [d]) := by
 obtain ⟨h1, h2⟩ := h
 constructor
 ·split
  ·exact h1
  ·rename_i hn
   exact List.nodup_append.2 ⟨h1, by simp, fun a ha b hb e => by simp at hb; subst hb; subst e; exact hn ha⟩
 ·intro k
  by_cases hm : d ∈ m
  ·rw [if_pos hm, h2, List.mem_append, List.mem_singleton]
   constructor
   ·rintro ⟨h3 | h3, h4⟩
    ·exact ⟨.inl h3, h4⟩
    ·exact ⟨.inr (.inl h3), h4⟩
   ·rintro ⟨h3 | h3 | rfl, h4⟩
    ·exact ⟨.inl h3, h4⟩
    ·exact ⟨.inr h3, h4⟩
    ·exact (h2 _).1 hm
  ·rw [if_neg hm, List.mem_append, List.mem_singleton, h2, List.mem_append, List.mem_singleton]
   constructor
   ·rintro (⟨h3 | h3, h4⟩ | rfl)
    ·exact ⟨.inl h3, h4⟩
    ·exact ⟨.inr (.inl h3), h4⟩
    ·exact ⟨.inr (.inr rfl), hd⟩
   ·rintro ⟨h3 | h3 | rfl, h4⟩
    ·exact .inl ⟨.inl h3, h4⟩
    ·exact .inl ⟨.inr h3, h4⟩
    ·exact .inr rfl
theorem MadeIn.skip {x : Nat} {l : List Cx} {ks m : List Nd} {d : Nd} (h : MadeIn K x l ks m) (hd : ¬ (K.T d = none ∧ d.lo ≠ d.hi)) : MadeIn K x l (ks ++ [d]) m := by
 obtain ⟨h1, h2⟩ := h
 refine ⟨h1, fun k => ?_⟩
 rw [h2, List.mem_append, List.mem_singleton]
 constructor
 ·rintro ⟨h3 | h3, h4⟩
  ·exact ⟨.inl h3, h4⟩
  ·exact ⟨.inr (.inl h3), h4⟩
 ·rintro ⟨h3 | h3 | rfl, h4⟩
  ·exact ⟨.inl h3, h4⟩
  ·exact ⟨.inr h3, h4⟩
  ·exact absurd h4 hd
theorem MadeIn.turn {x : Nat} {l : List Cx} {c : Cx} {m : List Nd} (h : MadeIn K x l (keys x c) m) : MadeIn K x (l ++ [c]) [] m := by
 obtain ⟨h1, h2⟩ := h
 refine ⟨h1, fun k => ?_⟩
 rw [h2]
 constructor
 ·rintro ⟨⟨c', hc, hk⟩ | h3, h4⟩
  ·exact ⟨.inl ⟨c', List.mem_append_left _ hc, hk⟩, h4⟩
  ·exact ⟨.inl ⟨c, by simp, h3⟩, h4⟩
 ·rintro ⟨⟨c', hc, hk⟩ | h3, h4⟩
  ·rcases List.mem_append.1 hc with hc | hc
   ·exact ⟨.inl ⟨c', hc, hk⟩, h4⟩
   ·simp at hc; subst hc; exact ⟨.inr hk, h4⟩
  ·cases h3
theorem fresh_ok (h : KRep kp K ord lev tr C) {x : Nat} (hx : x < K.n) {v : Value} {all : List Cx} {Na : Hp} (ha : SOwn 186 8 v (all.map CRow) Na) (hlen : all.length ≤ 1048576) :
  Rd Tryz.prog 127 #[ptr kp, .int .i64 (x : Int), v] (Na ++ C) (fun r => ∃ made, r = .int .i64 ((made.length : Nat) : Int) ∧ Made K x all made) := by
 have h0 := h
 obtain ⟨b, hC, hO⟩ := h
 intro g
 refine L127_sound (R := FnR _) ?_
 unfold L127
 intro mb _
 refine ha.lenS ?_
 rw [List.length_map]
 refine ⟨fun vs H => ∃ (i : Nat) (es : Array MapEntry) (ck : Nat) (m : List Nd), vs = [.int .i64 (i : Int)] ∧ H = (mb, .map es ck) :: (Na ++ C) ∧ i ≤ all.length ∧ MapK es ck m ∧ MadeIn K x (all.take i) [] m,
  fun vs _ => all.length - nAt vs 0, JE.mk ⟨0, _, _, [], rfl, rfl, Nat.zero_le _, MapK.empty, by simp, by simp⟩, ?_⟩
 rintro w H ⟨i, es, ck, m, hw, rfl, hi, hmk, hmd⟩ gs
 simp only [List.cons.injEq, and_true] at hw
 subst hw
 refine Bin.ltN (Br.dec (fun hlt => ?_) (fun hge => ?_))
 rotate_left
 ·have : i = all.length := by omega
  subst this
  rw [List.take_length] at hmd
  obtain ⟨m', he, rfl⟩ := hmk
  refine Ents.len_ok he (.head _) ?_
  refine RdR.mk .tail ⟨m'.map Prod.fst, by rw [List.length_map], hmd.1, fun k => ?_⟩
  rw [hmd.2]
  constructor
  ·rintro ⟨h3 | h3, h4⟩
   ·exact ⟨h3, h4⟩
   ·cases h3
  ·rintro ⟨h3, h4⟩; exact ⟨.inl h3, h4⟩
 obtain ⟨c, hci⟩ : ∃ c, all[i]? = some c := ⟨_, List.getElem?_eq_getElem hlt⟩
 have htk : all.take (i + 1) = all.take i ++ [c] := by rw [List.take_add_one, hci]; rfl
 refine ha.ldRow (r := CRow c) (by rw [List.getElem?_map, hci]; rfl) (fun y hy => .tail _ (List.mem_append_left _ hy)) ?_
 intro b12 _
 refine St.whole (r := CRow c) (by exact .head _) rfl rfl (crow_one _) ?_
 refine FAddr.mk (Ld.mk (by exact .head _) rfl ?_)
 refine FAddr.mk (Ld.mk (by exact .head _) rfl ?_)
 refine Build.mk (cs := nrow ⟨x, c.a00, c.a10⟩) (by kernel_rfl) ?_
 refine FAddr.mk (Ld.mk (by exact .head _) rfl ?_)
 refine FAddr.mk (Ld.mk (by exact .head _) rfl ?_)
 refine Build.mk (cs := nrow ⟨x, c.a01, c.a11⟩) (by kernel_rfl) ?_
 refine buildTwo _ _ fun xb => ?_
 refine LenS.mk ?_
 refine ⟨fun vs H => ∃ (j : Nat) (es : Array MapEntry) (ck : Nat) (m : List Nd), vs = [.int .i64 (j : Int)] ∧ H = (xb, .cells (rows [nrow ⟨x, c.a00, c.a10⟩, nrow ⟨x, c.a01, c.a11⟩]) 103 (0, 0)) :: (mb, .map es ck) :: (Na ++ C) ∧ j ≤ 2 ∧ MapK es ck m ∧ MadeIn K x (all.take i) ((keys x c).take j) m,
  fun vs _ => 2 - nAt vs 0, JE.of (.cons .tail) ⟨0, es, ck, m, rfl, rfl, Nat.zero_le _, hmk, hmd⟩, ?_⟩
 clear hmk hmd
 rintro w H ⟨j, es, ck, m, hw, rfl, hj, hmk, hmd⟩ gs
 simp only [List.cons.injEq, and_true] at hw
 subst hw
 refine Bin.ltN (b := 2) (Br.dec (fun hlt2 => ?_) (fun hge => ?_))
 rotate_left
 ·have : j = 2 := by omega
  subst this
  refine Bin.addN (b := 1) (by simp [lim]; omega) ?_
  refine Back.of .tail ⟨i + 1, es, ck, m, rfl, rfl, by omega, hmk, ?_⟩ (by simp [nAt]; omega)
  rw [htk]
  exact MadeIn.turn hmd
 obtain ⟨d, hdj, hdv⟩ : ∃ d, (keys x c)[j]? = some d ∧ d.v = x := by
  rcases j with _ | _ | j
  ·exact ⟨_, rfl, rfl⟩
  ·exact ⟨_, rfl, rfl⟩
  ·omega
 have htj : (keys x c).take (j + 1) = (keys x c).take j ++ [d] := by rw [List.take_add_one, hdj]; rfl
 have hrow : [nrow ⟨x, c.a00, c.a10⟩, nrow ⟨x, c.a01, c.a11⟩][j]? = some (nrow d) := by
  have : [nrow ⟨x, c.a00, c.a10⟩, nrow ⟨x, c.a01, c.a11⟩] = (keys x c).map nrow := rfl
  rw [this, List.getElem?_map, hdj]; rfl
 intro J34 hJ34
 have next : ∀ es' ck' m' H', MapK es' ck' m' → MadeIn K x (all.take i) ((keys x c).take (j + 1)) m' → Ent H' ((xb, .cells (rows [nrow ⟨x, c.a00, c.a10⟩, nrow ⟨x, c.a01, c.a11⟩]) 103 (0, 0)) :: (mb, .map es' ck') :: (Na ++ C)) → JE J34 [] H' := fun es' ck' m' H' h1 h2 h3 =>
  JE.mk (hJ34 _ fun gs => Bin.addN (b := 1) (by simp [lim]; omega) (Back.of h3 ⟨j + 1, es', ck', m', rfl, rfl, by omega, h1, h2⟩ (by simp [nAt]; omega)))
 refine IAddr.nat hlt2 ?_
 have hmem : (xb, Obj.cells (rows [nrow ⟨x, c.a00, c.a10⟩, nrow ⟨x, c.a01, c.a11⟩]) 103 (0, 0)) ∈ (xb, Obj.cells (rows [nrow ⟨x, c.a00, c.a10⟩, nrow ⟨x, c.a01, c.a11⟩]) 103 (0, 0)) :: (mb, .map es ck) :: (Na ++ C) := .head _
 refine LdA.row (k := 3) hmem (by simp [nrow]) hrow ?_
 intro b40 _
 refine St.whole (r := nrow d) (by exact .head _) rfl rfl (fun z hz => by simp [nrow, u32] at hz; rcases hz with rfl | rfl | rfl <;> rfl) ?_
 refine DR.self ?_
 rw [hC]
 refine Nil.ptr (FAddr.mk (FAddr.mk (Ld.mk (v := ptr b.pt) (.tail _ (.tail _ (.tail _ (List.mem_append_right _ (.head _))))) rfl ?_)))
 refine LdA.whole (r := nrow d) (by exact .head _) rfl ?_
 refine CallF.rd (.cons (.cons (.cons (.app (.cons (.app .left)))))) (find_ok (d := d) hO.ut (by rw [hdv]; exact hx)) ?_
 rintro w rfl
 refine ⟨.refl _, Ext.mk rfl (Ext.mk rfl (Un.not ?_))⟩
 have hsk : (!(K.T d).isSome) = decide (K.T d = none) := by cases K.T d <;> simp
 rw [hsk]
 refine Grp.and (decide (d.lo ≠ d.hi)) (fun _ => ?_) rfl fun gs => ?_
 ·refine FAddr.mk (Ld.mk (by exact .head _) rfl ?_)
  refine FAddr.mk (Ld.mk (by exact .head _) rfl ?_)
  exact Bin.neN ⟨rfl, rfl⟩
 rw [← Bool.decide_and]
 rw [← hC]
 refine Br.dec (fun hd => ?_) (fun hd => ?_)
 ·refine incr_ok hmk (c := fun o => (b40, .cells (nrow d).toArray 103 (0, 0)) :: (xb, .cells (rows [nrow ⟨x, c.a00, c.a10⟩, nrow ⟨x, c.a01, c.a11⟩]) 103 (0, 0)) :: (mb, o) :: (Na ++ C)) (fun o o' => .tail (.tail (.head _))) (fun o => .head _) fun es' ck' h1 gs => ?_
  exact next es' ck' _ _ h1 (by rw [htj]; exact hmd.step hd) .tail
 ·exact next es ck m _ hmk (by rw [htj]; exact hmd.skip hd) .tail
end
end Go.Proofs
set_option maxRecDepth 100000
namespace Go.Proofs
open Go Go.Sx
open Bdd
def pend (l : List Cx) : Nat → Nat := fun s => (l.map fun c => e1 (some c.d) s).sum
theorem pend_cons (c : Cx) (l : List Cx) (s : Nat) : pend (c :: l) s = e1 (some c.d) s + pend l s := by simp [pend]
theorem pend_snoc (c : Cx) (l : List Cx) (s : Nat) : pend (l ++ [c]) s = pend l s + e1 (some c.d) s := by simp [pend]
theorem e1_le (d : Nd) (s : Nat) : e1 (some d) s ≤ 2 := by rw [e1_some]; split <;> split <;> omega
theorem pend_le (s : Nat) : ∀ l : List Cx, pend l s ≤ 2 * l.length
 | [] => Nat.le_refl _
 | c :: l => by rw [pend_cons, List.length_cons]; have := pend_le s l; have := e1_le c.d s; omega
theorem pend_pos {s : Nat} : ∀ {l : List Cx}, 0 < pend l s → ∃ c ∈ l, c.d.lo = s ∨ c.d.hi = s
 | [], h => by simp [pend] at h
 | c :: l, h => by
  rw [pend_cons] at h
  by_cases h0 : 0 < e1 (some c.d) s
  ·refine ⟨c, by simp, ?_⟩
   rw [e1_some] at h0
   by_cases h1 : c.d.lo = s
   ·exact .inl h1
   ·by_cases h2 : c.d.hi = s
    ·exact .inr h2
    ·simp [h1, h2] at h0
  ·obtain ⟨c', hc, h1⟩ := pend_pos (s := s) (l := l) (by omega)
   exact ⟨c', by simp [hc], h1⟩
theorem pend_of {s : Nat} {c : Cx} (hs : c.d.lo = s ∨ c.d.hi = s) : ∀ {l : List Cx}, c ∈ l → 0 < pend l s
 | c' :: l, h => by
  rw [pend_cons]
  rcases List.mem_cons.1 h with rfl | h
  ·rw [e1_some]
   rcases hs with hs | hs
   ·rw [if_pos hs]; omega
   ·rw [if_pos hs]; omega
  ·have := pend_of hs h; omega
def Idle (K : Kd) : Prop := ∀ s, K.N s = none → K.use s = 0
theorem use_le {K : Kd} {S : Nat → Bdd.Fn} {E : Nat → Prop} {P : Nat → Nat} (hm : Mid K S E P) (hi : Idle K) {M : Nat} (hP : ∀ s, P s ≤ M) (s : Nat) : K.use s ≤ 2097153 + M := by
 cases h : K.N s with
 | none => rw [hi s h]; omega
 | some d =>
  rw [hm.use h]
  have := edges_le (N := K.N) (r := s) K.cap
  have := hm.cap.2
  have := hP s
  split <;> omega
section
variable {kp : Nat} {K K0 : Kd} {ord lev tr : List Nat} {C : Hp} {S S0 : Nat → Bdd.Fn} {lv' : Nat → Nat} {x y l : Nat} {all done rest : List Cx} {made : List Nd} {P : Nat → Nat}
theorem get_ti (b : TB K0 S0 lv' x y l all made) (h : KRep kp K ord lev tr C) (ht : TI K0 S0 lv' x y l made K S done rest P) (hd : ∀ c ∈ done, c ∈ all) (hr : ∀ c ∈ rest, c ∈ all) {c : Cx} (hc : c ∈ all) {k : Nd} (hk : k ∈ keys x c)
  (hPL : PL P K.N) (hid : Idle K) (hP : ∀ s, P s ≤ 4194304) :
  Fc Tryz.prog 128 #[ptr kp, .int .i64 (k.v : Int), u32 k.lo, u32 k.hi] C (fun v C' => ∃ r K' S', v = u32 r ∧ KRep kp K' ord lev tr C' ∧ TI K0 S0 lv' x y l made K' S' done rest P ∧ Kid K0 K' lv' x l r ∧
   ((k.lo = k.hi ∧ r = k.lo) ∨ K'.N r = some k) ∧ PL P K'.N ∧ Idle K' ∧ (∀ s d, K.N s = some d → K'.N s = some d) ∧ (∀ s d, K'.N s = some d → s = r ∨ (K.N s = some d ∧ K.use s ≤ K'.use s))) := by
 have hn64 : K.n ≤ 64 := by obtain ⟨_, _, hO⟩ := h; exact hO.n64
 have hlow := b.lowa hc
 have hkv : k.v = x ∧ Low K0 lv' l k.lo ∧ Low K0 lv' l k.hi := by
  simp only [keys, List.mem_cons, List.not_mem_nil, or_false] at hk
  rcases hk with rfl | rfl
  ·exact ⟨rfl, hlow.1.1, hlow.1.2⟩
  ·exact ⟨rfl, hlow.2.1, hlow.2.2⟩
 have hl1 := ht.lowLive b hd hkv.2.1
 have hl2 := ht.lowLive b hd hkv.2.2
 have hxn : k.v < K.n := by rw [hkv.1, ht.n]; exact b.nb.xn
 by_cases he : k.lo = k.hi
 ·refine Fc.mono (by rw [← he]; exact getS_ok C _ k.lo _) ?_
  rintro v C' ⟨rfl, rfl⟩
  exact ⟨k.lo, K, S, rfl, h, ht, .inl hkv.2.1, .inl ⟨he, rfl⟩, hPL, hid, fun _ _ h => h, fun s d h => .inr ⟨h, Nat.le_refl _⟩⟩
 cases hT : K.T k with
 | some r =>
  obtain ⟨h1, h2⟩ := ht.found b hc hk hT
  refine Fc.mono (getF_ok h he hxn hT) ?_
  rintro v C' ⟨rfl, rfl⟩
  exact ⟨r, K, S, rfl, h, ht, h2, .inr h1, hPL, hid, fun _ _ h => h, fun s d h => .inr ⟨h, Nat.le_refl _⟩⟩
 | none =>
  have hfit : ∀ {t : Nat}, live K.N t → t < 2 ∨ t < K.us.length := fun ht' => by
   rcases ht' with ht' | ⟨d, hd'⟩
   ·exact .inl ht'
   ·exact .inr (ht.mid.fit hd')
  have hkm := ht.inMade b hd hr hc hk he hkv.2.1 hkv.2.2 hT
  refine Fc.mono (getN_ok h (d := k) he ⟨by omega, hl1, hl2⟩ hxn hT (ht.fits b hkm hT) (hfit hl1) (hfit hl2) (fun s => by have := use_le ht.mid hid hP s; omega)) ?_
  rintro v C' ⟨r, us', ho', rfl, hN, h2, hrc, hlen, hru, hul, u0, u1, u2, o0, o1, hK'⟩
  have hPr : P r = 0 := by
   apply Decidable.byContradiction
   intro hne
   obtain ⟨d, hd'⟩ := hPL r h2 (by omega)
   rw [hN] at hd'; cases hd'
  obtain ⟨g1, g2⟩ := ht.lay b hd hr hc hk he hT hN ⟨h2, hrc⟩ hlen ⟨hru, hul⟩ u0 u1 o0 o1 hPr
  have hup : ∀ s d, K.N s = some d → up K.N r (some k) s = some d := fun s d hs => by
   rw [up_ne (fun e => by rw [e, hN] at hs; cases hs)]; exact hs
  refine ⟨r, _, _, rfl, hK', g1, g2, .inr up_same, fun t h2t h0 => ?_, fun s hs => ?_, hup, fun s d hs => ?_⟩
  ·obtain ⟨d, hd'⟩ := hPL t h2t h0
   exact ⟨d, hup t d hd'⟩
  ·have hs' : up K.N r (some k) s = none := hs
   have hne : s ≠ r := fun e => by subst e; rw [up_same] at hs'; cases hs'
   rw [up_ne hne] at hs'
   show us'.getD s 0 = 0
   by_cases h2s : 2 ≤ s
   ·rw [u1 s h2s hne, hid s hs', e1_some]
    have a1 : k.lo ≠ s := fun e => by
     rcases hl1 with h5 | ⟨d, h5⟩
     ·omega
     ·rw [e, hs'] at h5; cases h5
    have a2 : k.hi ≠ s := fun e => by
     rcases hl2 with h5 | ⟨d, h5⟩
     ·omega
     ·rw [e, hs'] at h5; cases h5
    simp [a1, a2]
   ·rw [u2 s (by omega), hid s hs']
  ·have hs' : up K.N r (some k) s = some d := hs
   by_cases e : s = r
   ·exact .inl e
   ·rw [up_ne e] at hs'
    refine .inr ⟨hs', ?_⟩
    show K.use s ≤ us'.getD s 0
    rw [u1 s (ht.mid.two hs').1 e]; omega
theorem use_ti (h : KRep kp K ord lev tr C) (ht : TI K0 S0 lv' x y l made K S done rest P) (hPL : PL P K.N) (hid : Idle K) (hP : ∀ s, P s ≤ 4194304) {r : Nat} (hr : live K.N r) :
  Fc Tryz.prog 102 #[ptr kp, u32 r] C (fun v C' => ∃ K', v = .tuple #[] ∧ KRep kp K' ord lev tr C' ∧ TI K0 S0 lv' x y l made K' S done rest (fun s => P s + if s = r then 1 else 0) ∧ PL (fun s => P s + if s = r then 1 else 0) K'.N ∧ Idle K' ∧
   K'.N = K.N ∧ (∀ s, K.use s ≤ K'.use s) ∧ (2 ≤ r → 0 < K'.use r)) := by
 have hfit : r < 2 ∨ r < K.us.length := by
  rcases hr with hr | ⟨d, hd⟩
  ·exact .inl hr
  ·exact .inr (ht.mid.fit hd)
 refine Fc.mono (use_ok h hfit (by have := use_le ht.mid hid hP r; omega)) ?_
 rintro v C' ⟨rfl, hK'⟩
 by_cases h2 : 2 ≤ r
 ·have hrd : ∃ d, K.N r = some d := by
   rcases hr with hr | hr
   ·omega
   ·exact hr
  have hlt : r < K.us.length := by omega
  refine ⟨_, rfl, hK', (ht.use (usS_len r) (usS_same h2 hlt) (fun s hs => usS_ne hs)).congr (fun s _ => ?_), fun t h2t h0 => ?_, fun s hs => ?_, rfl, fun s => ?_, fun _ => ?_⟩
  ·unfold up
   split
   ·rename_i e; subst e; rfl
   ·rfl
  ·by_cases e : t = r
   ·subst e; exact hrd
   ·simp [e] at h0; exact hPL t h2t h0
  ·show (usS K r).getD s 0 = 0
   have hne : s ≠ r := fun e => by
    obtain ⟨d, hd⟩ := hrd
    have hs' : K.N s = none := hs
    rw [e, hd] at hs'; cases hs'
   rw [usS_ne hne]; exact hid s hs
  ·show K.use s ≤ (usS K r).getD s 0
   by_cases e : s = r
   ·subst e; rw [usS_same h2 hlt]; omega
   ·rw [usS_ne e]; exact Nat.le_refl _
  ·show 0 < (usS K r).getD r 0
   rw [usS_same h2 hlt]; omega
 ·have e : usS K r = K.us := by unfold usS; rw [if_pos (by omega)]
  have eK : ({ K with us := usS K r } : Kd) = K := by rw [e]
  rw [eK] at hK'
  refine ⟨K, rfl, hK', ht.congr (fun s hs => ?_), fun t h2t h0 => ?_, hid, rfl, fun _ => Nat.le_refl _, fun h => absurd h h2⟩
  ·rw [if_neg (by omega)]; rfl
  ·have h0' : 0 < P t + if t = r then 1 else 0 := h0
   rw [if_neg (by omega)] at h0'; exact hPL t h2t h0'
theorem Kid.mono {K K' : Kd} (h : Kid K0 K lv' x l y) (hm : ∀ s d, K.N s = some d → K'.N s = some d) : Kid K0 K' lv' x l y := by
 rcases h with h | ⟨e, h1, h2⟩
 ·exact .inl h
 ·exact .inr ⟨e, hm _ _ h1, h2⟩
end
end Go.Proofs
set_option maxRecDepth 100000
namespace Go.Proofs
open Go Go.Sx
open Bdd
section
variable {kp : Nat} {K : Kd} {ord lev tr : List Nat} {C : Hp} {S : Nat → Bdd.Fn}
structure Kept (K : Kd) (S : Nat → Bdd.Fn) (K' : Kd) (S' : Nat → Bdd.Fn) : Prop where
 n : K'.n = K.n
 cap : K'.cap = K.cap
 hold : ∀ r, K'.hold r = K.hold r
 held : ∀ g, K'.held S' g ↔ K.held S g
 fn : ∀ r, K.hold r ≠ 0 → S' r = S r
theorem lv_swl {x y l : Nat} (hne : x ≠ y) (hx : x < lev.length) (hy : y < lev.length) : lv ((lev.set x (l + 1)).set y l) = swl (lv lev) x y l := by
 funext v
 show ((lev.set x (l + 1)).set y l).getD v 0 = _
 rw [getD_set (by simpa using hy), getD_set hx]
 unfold swl
 by_cases e : v = y
 ·rw [if_pos e, if_neg (by rw [e]; exact Ne.symm hne), if_pos e]
 ·rw [if_neg e, if_neg e]
theorem pend_cnt (c : Cx) (rest : List Cx) : pend (c :: rest) = cntP (cntP (pend rest) [c.d.hi]) [c.d.lo] := by
 funext s
 rw [pend_cons, e1_some]
 unfold cntP
 simp only [List.count_cons, List.count_nil, beq_iff_eq]
 omega
theorem made_len {x : Nat} {all : List Cx} {made : List Nd} (h : Made K x all made) : made.length ≤ 2 * all.length := by
 have h1 := length_le_of_sub (l' := all.flatMap (keys x)) h.nd fun k hk => by
  obtain ⟨⟨c, hc, hk'⟩, _⟩ := (h.mem k).1 hk
  exact List.mem_flatMap.2 ⟨c, hc, hk'⟩
 have h2 : (all.flatMap (keys x)).length = 2 * all.length := by
  clear h1 h
  induction all with
  | nil => rfl
  | cons c all ih => rw [List.flatMap_cons, List.length_append, ih, List.length_cons]; simp [keys]; omega
 omega
theorem turn_pos {x y l : Nat} {K1 : Kd} {S1 : Nat → Bdd.Fn} {all : List Cx} {made : List Nd} (b : TB K S (lv lev) x y l all made) (h : TI K S (lv lev) x y l made K1 S1 all [] (pend all)) (hnew : ∀ r d, K.N r = none → K1.N r = some d → 0 < K1.use r) : Pos K1 := by
 intro r d hd
 cases hN : K.N r with
 | none => exact hnew r d hN hd
 | some d0 =>
  rw [h.mid.use hd]
  rcases b.ok.reach r d0 hN with hh | ⟨p, e, hp, hpe⟩
  ·have hh' : K1.hold r ≠ 0 := by rw [h.hold]; exact hh
   rw [if_neg hh']; omega
  ·by_cases hm : p ∈ all.map Cx.r
   ·obtain ⟨c, hc, rfl⟩ := List.mem_map.1 hm
    have hcd := (b.cross hc).1
    rw [hp] at hcd; cases hcd
    have := pend_of (s := r) hpe hc
    omega
   ·have hp1 := h.old hp hm
    have : edges K1.N r K1.cap ≠ 0 := fun he => by
     have := edges_zero he p (h.mid.two hp1).2 e hp1
     rcases hpe with hpe | hpe
     ·exact this.1 hpe
     ·exact this.2 hpe
    omega
theorem turn_ok (h : KRep kp K ord lev tr C) (hok : Ok K S (lv lev)) (ho : Ord K.n (lv lev) ord) (hid : Idle K) {l : Nat} (hl : l + 1 < K.n) :
  Fc Tryz.prog 76 #[ptr kp, .int .i64 (l : Int)] C (fun r C' =>
   (usz K.n ord l (K.held S) + 2 ≤ K.cap ∧ r = .bool true ∧ ∃ K' S' lev', KRep kp K' (swp ord l) lev' tr C' ∧ Ok K' S' (lv lev') ∧ Ord K'.n (lv lev') (swp ord l) ∧ Idle K' ∧ Kept K S K' S') ∨
   (K.cap < usz K.n ord l (K.held S) + 2 ∧ r = .bool false ∧ C' = C)) := by
 have h0 := h
 have hcap := h.cap
 obtain ⟨b, hC, hO⟩ := h
 have hol := hO.ol
 have hn64 := hO.n64
 have nb := ho.nb hl
 obtain ⟨x, hx⟩ : ∃ x, x = ord.getD l 0 := ⟨_, rfl⟩
 obtain ⟨y, hy⟩ : ∃ y, y = ord.getD (l + 1) 0 := ⟨_, rfl⟩
 rw [← hx, ← hy] at nb
 intro g
 refine L76_sound (R := FnR _) ?_
 unfold L76
 have hmk : (kp, Obj.cells (b.cells K.n) 96 (0, 0)) ∈ C := by rw [hC]; exact .head _
 have hsubO : ∀ z ∈ b.CO, z ∈ C := by rw [hC]; exact Hole.sub (.cons (.app (.app (.app (.app .left)))))
 refine Nil.ptr (FAddr.mk (Ld.mk (v := b.vo) hmk rfl ?_))
 refine hO.od.ld (x := (x : Int)) (by rw [hx]; exact iw_getD (by omega)) hsubO ?_
 refine Nil.ptr (FAddr.mk (Ld.mk (v := b.vo) hmk rfl ?_))
 refine Bin.addN (b := 1) (by simp [lim]; omega) ?_
 refine hO.od.ld (x := (y : Int)) (by rw [hy]; exact iw_getD (by omega)) hsubO ?_
 refine CallF.fn .here (crossings_ok h0 hok nb.xn) ?_
 rintro w H ⟨all, Na, rfl, hall, hcx, hlen⟩
 refine DR.self (Nil.ptr (FAddr.mk ?_))
 refine CallF.rd .here (fresh_ok h0 nb.xn hall hlen) ?_
 rintro w ⟨made, rfl, hmade⟩
 have hml := made_len hmade
 have hused := hok.mid.cap
 have hused2 := hok.mid.room
 refine CallF.rd (.app .here) (kroom_ok h0 (m := made.length) (by omega) (by omega)) ?_
 rintro w rfl
 have husz : usz K.n ord l (K.held S) = K.used - 2 + made.length := usz_eq (turn_cnt hok ho hl (by rw [← hx, ← hy]; exact hcx) (by rw [← hx]; exact hmade))
 refine Un.not ?_
 by_cases hroom : K.used + made.length ≤ K.cap
 rotate_left
 ·rw [decide_eq_false hroom]
  exact Br.yes (FnR.mk .right (.inr ⟨by omega, rfl, rfl⟩))
 rw [decide_eq_true hroom]
 refine Br.no ?_
 have tb : TB K S (lv lev) x y l all made := ⟨hok, nb, hcx, hmade, hroom⟩
 have hnd := hcx.nd
 have hge : ∀ {i : Nat} {c : Cx}, all[i]? = some c → c.r ∉ (all.take i).map Cx.r := fun {i c} hci hm => by
  have h1 : (all.take (i + 1)).map Cx.r = (all.take i).map Cx.r ++ [c.r] := by rw [List.take_add_one, hci, List.map_append]; rfl
  have h2 : ((all.take (i + 1)).map Cx.r).Nodup := hnd.sublist ((List.take_sublist _ _).map _)
  rw [h1] at h2
  exact (List.nodup_append.1 h2).2.2 _ hm _ (by simp) rfl
 have htk : ∀ {i : Nat} {c : Cx}, all[i]? = some c → all.take (i + 1) = all.take i ++ [c] := fun hci => by rw [List.take_add_one, hci]; rfl
 have hdr : ∀ {i : Nat} {c : Cx}, all[i]? = some c → all.drop i = c :: all.drop (i + 1) := fun {i c} hci => by
  obtain ⟨hi, e⟩ := List.getElem?_eq_some_iff.1 hci
  rw [List.drop_eq_getElem_cons hi, e]
 have hmT : ∀ {i : Nat}, ∀ c ∈ all.take i, c ∈ all := fun c hc => List.mem_of_mem_take hc
 have hmD : ∀ {i : Nat}, ∀ c ∈ all.drop i, c ∈ all := fun c hc => List.mem_of_mem_drop hc
 refine hall.lenS ?_
 rw [List.length_map]
 refine ⟨fun vs H => ∃ (i : Nat) (T' : Nd → Option Nat) (C1 : Hp), vs = [.int .i64 (i : Int)] ∧ H = Na ++ C1 ∧ i ≤ all.length ∧ KRep kp { K with T := T' } ord lev tr C1 ∧ Mid { K with T := T' } S (fun s => ∃ c ∈ all.take i, s = c.r) zero' ∧ (∀ d, T' d = none ∨ T' d = K.T d),
  fun vs _ => all.length - nAt vs 0, JE.mk ⟨0, K.T, C, rfl, rfl, Nat.zero_le _, h0, hok.mid.congr (fun s => by simp [none']) (fun _ _ => rfl), fun _ => .inr rfl⟩, ?_⟩
 rintro w H ⟨i, T', C1, hw, rfl, hi, hK1, hM1, hT1⟩ gs
 simp only [List.cons.injEq, and_true] at hw
 subst hw
 refine Bin.ltN (Br.dec (fun hlt => ?_) (fun hge' => ?_))
 ·obtain ⟨c, hci⟩ : ∃ c, all[i]? = some c := ⟨_, List.getElem?_eq_getElem hlt⟩
  have hcm : c ∈ all := List.mem_of_getElem? hci
  obtain ⟨hcN, hcx', hce⟩ := tb.cross hcm
  refine hall.ldRow (r := CRow c) (by rw [List.getElem?_map, hci]; rfl) (fun z hz => List.mem_append_left _ hz) ?_
  intro b31 _
  refine St.whole (r := CRow c) (by exact .head _) rfl rfl (crow_one _) ?_
  obtain ⟨b1, rfl, hO1⟩ := hK1
  refine DR.self (Nil.ptr (FAddr.mk (FAddr.mk (Ld.mk (v := ptr b1.pt) (.tail _ (List.mem_append_right _ (.head _))) rfl ?_))))
  refine FAddr.mk (LdA.mk (vs := (nrow c.d).toArray) (.head _) (by simp [CRow]) rfl ?_)
  have hTc : T' c.d = some c.r := (hM1.tab c.d c.r).2 ⟨hcN, by rintro ⟨c', hc', e⟩; exact hge hci (e ▸ List.mem_map_of_mem hc')⟩
  refine CallF.fn (.cons (.app (.cons (.app .left)))) (remove_ok (d := c.d) hO1.ut (hok.mid.var hcN) hTc) ?_
  rintro v CT' ⟨rfl, hut⟩
  refine Bin.addN (b := 1) (by simp [lim]; omega) ?_
  refine Back.of .tail ⟨i + 1, upT T' c.d none, _, rfl, rfl, by omega, ⟨{ b1 with CT := CT' }, rfl, { hO1 with ut := hut }⟩, (hM1.hide (r := c.r) (d := c.d) hcN ?_).congr (fun s => ?_) (fun _ _ => rfl), fun d => ?_⟩ (by simp [nAt]; omega)
  ·rintro ⟨c', hc', e⟩; exact hge hci (e ▸ List.mem_map_of_mem hc')
  ·rw [htk hci]
   constructor
   ·rintro (⟨c', hc', e⟩ | e)
    ·exact ⟨c', List.mem_append_left _ hc', e⟩
    ·exact ⟨c, by simp, e⟩
   ·rintro ⟨c', hc', e⟩
    rcases List.mem_append.1 hc' with hc' | hc'
    ·exact .inl ⟨c', hc', e⟩
    ·simp at hc'; subst hc'; exact .inr e
  ·unfold upT
   split
   ·exact .inl rfl
   ·exact hT1 d
 have hi' : i = all.length := by omega
 subst hi'
 rw [List.take_length] at hM1
 have hTI := tb.start hM1 hT1
 refine hall.lenS ?_
 rw [List.length_map]
 refine ⟨fun vs H => ∃ (i : Nat) (K1 : Kd) (S1 : Nat → Bdd.Fn) (C1 : Hp), vs = [.int .i64 (i : Int)] ∧ H = Na ++ C1 ∧ i ≤ all.length ∧ KRep kp K1 ord lev tr C1 ∧ TI K S (lv lev) x y l made K1 S1 (all.take i) (all.drop i) (pend (all.take i)) ∧
   PL (pend (all.take i)) K1.N ∧ Idle K1 ∧ (∀ r d, K.N r = none → K1.N r = some d → 0 < K1.use r),
  fun vs _ => all.length - nAt vs 0, JE.mk ⟨0, _, S, C1, rfl, rfl, Nat.zero_le _, hK1, hTI, fun t _ h => by simp [pend] at h, hid, fun r d h1 h2 => by rw [h1] at h2; cases h2⟩, ?_⟩
 clear hTI hM1 hT1 hK1 T' C1 hge' hi
 rintro w H ⟨i, K1, S1, C1, hw, rfl, hi, hK1, hT1, hPL1, hid1, hnew1⟩ gs
 simp only [List.cons.injEq, and_true] at hw
 subst hw
 refine Bin.ltN (Br.dec (fun hlt => ?_) (fun hge' => ?_))
 ·obtain ⟨c, hci⟩ : ∃ c, all[i]? = some c := ⟨_, List.getElem?_eq_getElem hlt⟩
  have hcm : c ∈ all := List.mem_of_getElem? hci
  obtain ⟨hcN, hcx', hce⟩ := tb.cross hcm
  rw [hdr hci] at hT1
  have hrest : ∀ c' ∈ c :: all.drop (i + 1), c' ∈ all := by rw [← hdr hci]; exact hmD
  have hPb : ∀ s, pend (all.take i) s ≤ 2097152 := fun s => by have := pend_le s (all.take i); rw [List.length_take] at this; omega
  refine hall.ldRow (r := CRow c) (by rw [List.getElem?_map, hci]; rfl) (fun z hz => List.mem_append_left _ hz) ?_
  intro b53 _
  refine St.whole (r := CRow c) (by exact .head _) rfl rfl (crow_one _) ?_
  refine DR.self (Nil.ptr (FAddr.mk ?_))
  refine FAddr.mk (Ld.mk (by exact .head _) rfl ?_)
  refine FAddr.mk (Ld.mk (by exact .head _) rfl ?_)
  refine CallF.fn (.cons (.app .here)) (get_ti tb hK1 hT1 hmT hrest hcm (k := ⟨x, c.a00, c.a10⟩) (by simp [keys]) hPL1 hid1 (fun s => by have := hPb s; omega)) ?_
  rintro w C2 ⟨t0, K2, S2, rfl, hK2, hT2, kid0, g0, hPL2, hid2, mono2, new2⟩
  refine Nil.ptr (FAddr.mk ?_)
  refine CallF.fn (.cons (.app .here)) (use_ti hK2 hT2 hPL2 hid2 (fun s => by have := hPb s; omega) (hT2.kidLive tb hmT kid0)) ?_
  rintro w C3 ⟨K3, rfl, hK3, hT3, hPL3, hid3, hN3, hus3, hpos3⟩
  have hPb3 : ∀ s, (pend (all.take i) s + if s = t0 then 1 else 0) ≤ 2097153 := fun s => by have := hPb s; split <;> omega
  refine DR.self (Nil.ptr (FAddr.mk ?_))
  refine FAddr.mk (Ld.mk (by exact .head _) rfl ?_)
  refine FAddr.mk (Ld.mk (by exact .head _) rfl ?_)
  refine CallF.fn (.cons (.app .here)) (get_ti tb hK3 hT3 hmT hrest hcm (k := ⟨x, c.a01, c.a11⟩) (by simp [keys]) hPL3 hid3 (fun s => by have := hPb3 s; omega)) ?_
  rintro w C4 ⟨t1, K4, S4, rfl, hK4, hT4, kid1, g1, hPL4, hid4, mono4, new4⟩
  refine Nil.ptr (FAddr.mk ?_)
  refine CallF.fn (.cons (.app .here)) (use_ti hK4 hT4 hPL4 hid4 (fun s => by have := hPb3 s; omega) (hT4.kidLive tb hmT kid1)) ?_
  rintro w C5 ⟨K5, rfl, hK5, hT5, hPL5, hid5, hN5, hus5, hpos5⟩
  have kid0' : Kid K K5 (lv lev) x l t0 := Kid.mono kid0 (fun s d hs => by rw [hN5]; exact mono4 s d (by rw [hN3]; exact hs))
  have kid1' : Kid K K5 (lv lev) x l t1 := Kid.mono kid1 (fun s d hs => by rw [hN5]; exact hs)
  have g0' : (c.a00 = c.a10 ∧ t0 = c.a00) ∨ K5.N t0 = some ⟨x, c.a00, c.a10⟩ := by
   rcases g0 with g0 | g0
   ·exact .inl g0
   ·exact .inr (by rw [hN5]; exact mono4 _ _ (by rw [hN3]; exact g0))
  have g1' : (c.a01 = c.a11 ∧ t1 = c.a01) ∨ K5.N t1 = some ⟨x, c.a01, c.a11⟩ := by
   rcases g1 with g1 | g1
   ·exact .inl g1
   ·exact .inr (by rw [hN5]; exact g1)
  have hndr : ((all.take i ++ c :: all.drop (i + 1)).map Cx.r).Nodup := by rw [← hdr hci, List.take_append_drop]; exact hnd
  obtain ⟨hTn, hT6⟩ := hT5.turn tb hmT hrest hndr kid0' kid1' g0' g1' (P' := pend (all.take (i + 1))) (fun s _ => by
   rw [htk hci, pend_snoc, e1_some ⟨y, t0, t1⟩]
   have e1' : (if t0 = s then 1 else 0) = (if s = t0 then 1 else 0 : Nat) := by split <;> split <;> first | rfl | (exfalso; omega)
   have e2' : (if t1 = s then 1 else 0) = (if s = t1 then 1 else 0 : Nat) := by split <;> split <;> first | rfl | (exfalso; omega)
   simp only [e1', e2']
   omega)
  have hlive5 : ∀ {t : Nat}, Kid K K5 (lv lev) x l t → live K5.N t := fun hk => hT5.kidLive tb hmT hk
  have hcr : ∃ e, K5.N c.r = some e := hT5.kept hcN
  refine Build.mk (cs := nrow ⟨y, t0, t1⟩) (by kernel_rfl) ?_
  intro b83 _
  refine St.whole (r := nrow ⟨y, t0, t1⟩) (by exact .head _) rfl rfl (fun z hz => by simp [nrow, u32] at hz; rcases hz with rfl | rfl | rfl <;> rfl) ?_
  obtain ⟨b5, rfl, hO5⟩ := hK5
  refine DR.self (Nil.ptr (FAddr.mk (FAddr.mk (Ld.mk (v := ptr b5.pa) (.tail _ (.tail _ (List.mem_append_right _ (.head _)))) rfl ?_))))
  refine FAddr.mk (Ld.mk (by exact .tail _ (.head _)) rfl ?_)
  refine LdA.whole (r := nrow ⟨y, t0, t1⟩) (by exact .head _) rfl ?_
  have hyn : y < K5.n := by rw [hT5.n]; exact nb.yn
  refine CallF.fn (.cons (.cons (.app (.cons .left)))) (aset_ok (d := ⟨y, t0, t1⟩) hO5.ar ⟨by show y < 64; have := hO5.n64; omega, hlive5 kid0', hlive5 kid1'⟩ hcr (tb.ok.mid.two hcN).1) ?_
  rintro w CA' ⟨rfl, har⟩
  refine DR.self (Nil.ptr (FAddr.mk (FAddr.mk (Ld.mk (v := ptr b5.pt) (.tail _ (.tail _ (List.mem_append_right _ (.head _)))) rfl ?_))))
  refine LdA.whole (r := nrow ⟨y, t0, t1⟩) (by exact .head _) rfl ?_
  refine FAddr.mk (Ld.mk (by exact .tail _ (.head _)) rfl ?_)
  refine CallF.fn (.cons (.cons (.app (.cons (.app .left))))) (uadd_ok (d := ⟨y, t0, t1⟩) (r := c.r) hO5.ut hyn hTn) ?_
  rintro w CT' ⟨rfl, hut⟩
  refine Bin.addN (b := 1) (by simp [lim]; omega) ?_
  refine Back.of (.skip .tail) ⟨i + 1, { K5 with N := up K5.N c.r (some ⟨y, t0, t1⟩), T := upT K5.T ⟨y, t0, t1⟩ (some c.r) }, S4, _, rfl, rfl, by omega, ⟨{ b5 with CA := CA', CT := CT' }, rfl, { hO5 with ar := har, ut := hut }⟩, by rw [htk hci] at hT6 ⊢; exact hT6, fun t h2t hp => ?_, fun s hs => ?_, fun r d hr0 hrd => ?_⟩ (by simp [nAt]; omega)
  ·obtain ⟨c', hc', hch⟩ := pend_pos hp
   have hc'm := hmT c' hc'
   have hc'N := (tb.cross hc'm).1
   have hlv : live K.N t := by
    rcases hch with rfl | rfl
    ·exact tb.ok.mid.lo hc'N
    ·exact tb.ok.mid.hi hc'N
   rcases hlv with hlv | ⟨d, hd⟩
   ·omega
   ·exact hT6.kept hd
  ·have hs' : up K5.N c.r (some ⟨y, t0, t1⟩) s = none := hs
   have hne : s ≠ c.r := fun e => by subst e; rw [up_same] at hs'; cases hs'
   rw [up_ne hne] at hs'
   exact hid5 s hs'
  ·have hrd' : up K5.N c.r (some ⟨y, t0, t1⟩) r = some d := hrd
   have hne : r ≠ c.r := fun e => by rw [e, hcN] at hr0; cases hr0
   rw [up_ne hne, hN5] at hrd'
   have h2r : 2 ≤ r := (hT4.mid.two hrd').1
   show 0 < K5.use r
   rcases new4 r d hrd' with e | ⟨h3, hu3⟩
   ·rw [e] at h2r ⊢; exact hpos5 h2r
   ·rw [hN3] at h3
    have h5 := hus5 r
    rcases new2 r d h3 with e | ⟨h1, hu1⟩
    ·rw [e] at h2r ⊢ h5 hu3; have := hpos3 h2r; omega
    ·have := hnew1 r d hr0 h1
     have := hus3 r
     omega
 have hi' : i = all.length := by omega
 subst hi'
 rw [List.take_length, List.drop_length] at hT1
 rw [List.take_length] at hPL1
 have hp1 := turn_pos tb hT1 hnew1
 refine hall.lenS ?_
 rw [List.length_map]
 refine ⟨fun vs H => ∃ (i : Nat) (K2 : Kd) (C2 : Hp), vs = [.int .i64 (i : Int)] ∧ H = Na ++ C2 ∧ i ≤ all.length ∧ KRep kp K2 ord lev tr C2 ∧ Mid K2 S1 none' (pend (all.drop i)) ∧ Pos K2 ∧ PL (pend (all.drop i)) K2.N ∧ Less K2 K1,
  fun vs _ => all.length - nAt vs 0, JE.mk ⟨0, K1, C1, rfl, rfl, Nat.zero_le _, hK1, hT1.mid.congr (fun s => by simp [none']) (fun _ _ => rfl), hp1, hPL1, .refl K1⟩, ?_⟩
 clear hK1 hPL1 hi hge' C1
 rintro w H ⟨i, K2, C2, hw, rfl, hi, hK2, hM2, hp2, hPL2, hless⟩ gs
 simp only [List.cons.injEq, and_true] at hw
 subst hw
 refine Bin.ltN (Br.dec (fun hlt => ?_) (fun hge' => ?_))
 ·obtain ⟨c, hci⟩ : ∃ c, all[i]? = some c := ⟨_, List.getElem?_eq_getElem hlt⟩
  have hcm : c ∈ all := List.mem_of_getElem? hci
  obtain ⟨hcN, hcx', hce⟩ := tb.cross hcm
  have hPb : ∀ s, pend (all.drop i) s ≤ 2097152 := fun s => by have := pend_le s (all.drop i); rw [List.length_drop] at this; omega
  have hlo := h0.lt (hok.mid.lo hcN)
  have hhi := h0.lt (hok.mid.hi hcN)
  refine hall.ldRow (r := CRow c) (by rw [List.getElem?_map, hci]; rfl) (fun z hz => List.mem_append_left _ hz) ?_
  intro b116 _
  refine St.whole (r := CRow c) (by exact .head _) rfl rfl (crow_one _) ?_
  refine DR.self (Nil.ptr (FAddr.mk ?_))
  refine FAddr.mk (FAddr.mk (Ld.mk (by exact .head _) rfl ?_))
  have hid2 : Idle K2 := hless.idle hid1
  have hub : ∀ s, K2.use s < 2147483648 := fun s => by have := use_le hM2 hid2 hPb s; omega
  rw [hdr hci, pend_cnt] at hM2 hPL2
  refine CallF.fn (.cons (.app .here)) (release_ok hK2 hM2 hp2 hPL2 hlo hub) ?_
  rintro w C3 ⟨rfl, K3, hK3, hM3, hp3, hPL3, hless3⟩
  refine DR.self (Nil.ptr (FAddr.mk ?_))
  refine FAddr.mk (FAddr.mk (Ld.mk (by exact .head _) rfl ?_))
  refine CallF.fn (.cons (.app .here)) (release_ok hK3 hM3 hp3 hPL3 hhi (fun s => Nat.lt_of_le_of_lt (hless3.us s) (hub s))) ?_
  rintro w C4 ⟨rfl, K4, hK4, hM4, hp4, hPL4, hless4⟩
  refine Bin.addN (b := 1) (by simp [lim]; omega) ?_
  exact Back.of .tail ⟨i + 1, K4, C4, rfl, rfl, by omega, hK4, hM4, hp4, hPL4, hless4.trans (hless3.trans hless)⟩ (by simp [nAt]; omega)
 have hi' : i = all.length := by omega
 subst hi'
 rw [List.drop_length] at hM2
 have hid2 : Idle K2 := hless.idle hid1
 obtain ⟨f1, f2, f3⟩ := hT1.fin tb (K' := K2) (hM2.congr (fun _ => Iff.rfl) (fun _ _ => rfl)) hp2 (fun h => hless.N h) hless.n (fun r => by show K2.ho.getD r 0 = K1.ho.getD r 0; rw [hless.ho])
 have hn2 : K2.n = K.n := by rw [hless.n, hT1.n]
 obtain ⟨b2, rfl, hO2⟩ := hK2
 refine DR.self (Nil.ptr (FAddr.mk (Ld.mk (v := b2.vo) (List.mem_append_right _ (.head _)) rfl ?_)))
 refine Nil.ptr (FAddr.mk (Ld.mk (v := b2.vo) (List.mem_append_right _ (.head _)) rfl ?_))
 refine Bin.addN (b := 1) (by simp [lim]; omega) ?_
 refine hO2.od.putH (x := (y : Int)) (.app (.cons (.app (.app (.app (.app .left)))))) (by rw [iw_length]; omega) fun CO1 ho1 => ?_
 refine ho1.putH (x := (x : Int)) (.app (.cons (.app (.app (.app (.app .left)))))) (by rw [List.length_set, iw_length]; omega) fun CO2 ho2 => ?_
 refine DR.self (Nil.ptr (FAddr.mk (Ld.mk (v := b2.vl) (List.mem_append_right _ (.head _)) rfl ?_)))
 refine Nil.ptr (FAddr.mk (Ld.mk (v := b2.vl) (List.mem_append_right _ (.head _)) rfl ?_))
 refine Bin.addN (b := 1) (by simp [lim]; omega) ?_
 have hll := hO2.ol.2
 have hxn := nb.xn
 have hyn := nb.yn
 refine hO2.lv.putH (x := ((l + 1 : Nat) : Int)) (.app (.cons (.app (.app (.app (.app (.app .left))))))) (by rw [iw_length]; omega) fun CL1 hl1 => ?_
 refine hl1.putH (x := (l : Int)) (.app (.cons (.app (.app (.app (.app (.app .left))))))) (by rw [List.length_set, iw_length]; omega) fun CL2 hl2 => ?_
 rw [iw_set, iw_set] at ho2 hl2
 have hsw : (ord.set l y).set (l + 1) x = swp ord l := by rw [hx, hy]; rfl
 rw [hsw] at ho2
 have hlv : lv ((lev.set x (l + 1)).set y l) = swl (lv lev) x y l := lv_swl nb.ne (by omega) (by omega)
 refine FnR.mk .right (.inl ⟨by omega, rfl, K2, S1, _, ⟨{ b2 with CO := CO2, CL := CL2 }, rfl, { hO2 with od := ho2, lv := hl2, ol := ?_ }⟩, by rw [hlv]; exact f1, by rw [hlv, hn2, hx, hy]; exact swp_ord ho hl, hid2, hn2, by rw [hless.cap, hT1.cap], fun r => ?_, f2, f3⟩)
 ·rw [swp_len]; simp; exact hO2.ol
 ·show K2.ho.getD r 0 = K.hold r
  rw [hless.ho]; exact hT1.hold r
end
end Go.Proofs
set_option maxRecDepth 100000
namespace Go.Proofs
open Go Go.Sx
open Bdd
structure KSt (kp : Nat) (K : Kd) (S : Nat → Bdd.Fn) (ord lev tr : List Nat) (C : Hp) : Prop where
 rep : KRep kp K ord lev tr C
 ok : Ok K S (lv lev)
 od : Ord K.n (lv lev) ord
 idle : Idle K
 tr : TrOk K.n K.cap (K.held S) ord tr.reverse
theorem Kept.refl (K : Kd) (S : Nat → Bdd.Fn) : Kept K S K S := ⟨rfl, rfl, fun _ => rfl, fun _ => Iff.rfl, fun _ _ => rfl⟩
theorem Kept.trans {K K' K2 : Kd} {S S' S2 : Nat → Bdd.Fn} (h : Kept K S K' S') (h' : Kept K' S' K2 S2) : Kept K S K2 S2 :=
 ⟨h'.n.trans h.n, h'.cap.trans h.cap, fun r => (h'.hold r).trans (h.hold r), fun g => (h'.held g).trans (h.held g), fun r hr => (h'.fn r (by rw [h.hold]; exact hr)).trans (h.fn r hr)⟩
section
variable {kp : Nat} {K : Kd} {ord lev tr : List Nat} {C : Hp} {S : Nat → Bdd.Fn}
theorem exch_ok (h : KSt kp K S ord lev tr C) {l : Nat} (hl : l + 1 < K.n) (htr : tr.length < 1099511627776) : Fc Tryz.prog 28 #[ptr kp, .int .i64 (l : Int)] C (fun r C' =>
   (usz K.n ord l (K.held S) + 2 ≤ K.cap ∧ r = .int .i64 0 ∧ ∃ K' S' lev', KSt kp K' S' (swp ord l) lev' (tr ++ [l]) C' ∧ Kept K S K' S') ∨
   (K.cap < usz K.n ord l (K.held S) + 2 ∧ r = .int .i64 9 ∧ C' = C)) := by
 have h0 := h
 obtain ⟨b, hC, hO⟩ := h.rep
 have hn := hO.n64
 intro g
 refine L28_sound (R := FnR _) ?_
 unfold L28
 refine Bin.ptrNil (Br.no (Bin.lss ?_))
 refine Grp.or (decide ((K.n : Int) - 2 < l)) (fun _ => ?_) (by simp) fun gs => ?_
 ·refine Nil.ptr (FAddr.mk (Ld.mk (v := .int .i64 (K.n : Int)) (by rw [hC]; exact .head _) rfl ?_))
  refine Bin.sub64 (c := (K.n : Int) - 2) rfl (by omega) ?_
  exact Bin.gtr ⟨rfl, rfl⟩
 ·rw [← Bool.decide_or]
  refine Br.decF (by omega) ?_
  refine CallF.fn .here (turn_ok h.rep h.ok h.od h.idle hl) ?_
  rintro w C' (⟨hfit, rfl, K', S', lev', hK', hok', hod', hid', hkept⟩ | ⟨hno, rfl, rfl⟩)
  ·refine Un.not (Br.no ?_)
   obtain ⟨b', rfl, hO'⟩ := hK'
   refine Nil.ptr (FAddr.mk (Ld.mk (v := b'.vt) (by exact .head _) rfl ?_))
   refine BuildSl.int (e := 3) (by kernel_rfl) (by kernel_rfl) (by kernel_rfl) fun bx => ?_
   refine hO'.tr.appH (.cons (.cons (.app (.app (.app (.app (.app (.app .here)))))))) (by exact .head _) (by rw [iw_length]; omega) (by rw [iw_length]; omega) fun v' CR' ho' => ?_
   refine Nil.ptr (FAddr.mk (St.one (by exact .tail (.head _)) ho'.one (by simp [KBs.cells]) rfl ?_))
   refine FnR.mk .tail (.inl ⟨hfit, rfl, K', S', lev', ⟨⟨{ b' with vt := v', CR := CR' }, rfl, { hO' with tr := by rw [iw_append]; exact ho' }⟩, hok', hod', hid', ?_⟩, hkept⟩)
   rw [hkept.n, hkept.cap]
   exact (TrOk.exch hO.ol.1 hl hfit h.tr).congr fun g => (hkept.held g).symm
  ·exact Un.not (Br.yes (FnR.here (.inr ⟨hno, rfl, rfl⟩)))
theorem undo_ok {l : Nat} (h : KSt kp K S ord lev (tr ++ [l]) C) (htr : tr.length < 1099511627776) : Fc Tryz.prog 29 #[ptr kp] C (fun r C' =>
   r = .tuple #[.int .i64 (l : Int), .int .i64 0] ∧ l + 1 < K.n ∧ ∃ K' S' lev', KSt kp K' S' (swp ord l) lev' tr C' ∧ Kept K S K' S') := by
 have h0 := h
 obtain ⟨b, hC, hO⟩ := h.rep
 have hn := hO.n64
 have htr' := h.tr
 rw [List.reverse_append] at htr'
 obtain ⟨hl, hfit, htr2⟩ : l + 1 < K.n ∧ usz K.n ord l (K.held S) + 2 ≤ K.cap ∧ TrOk K.n K.cap (K.held S) (swp ord l) tr.reverse := htr'
 have hmk : (kp, Obj.cells (b.cells K.n) 96 (0, 0)) ∈ C := by rw [hC]; exact .head _
 intro g
 refine L29_sound (R := FnR _) ?_
 unfold L29
 refine Bin.ptrNil ?_
 refine Grp.or false (fun _ => ?_) rfl fun gs => Br.no ?_
 ·refine Nil.ptr (FAddr.mk (Ld.mk (v := b.vt) hmk rfl ?_))
  refine hO.tr.lenS ?_
  refine Bin.eqD ⟨rfl, ?_⟩
  rw [decide_eq_false]
  rw [iw_length, List.length_append]; simp; omega
 refine Nil.ptr (FAddr.mk (Ld.mk (v := b.vt) hmk rfl ?_))
 refine hO.tr.lenS ?_
 rw [iw_length, List.length_append]
 refine Bin.subN (a := tr.length + 1) (b := 1) (by simp [lim]; omega) (by omega) ?_
 rw [Nat.add_sub_cancel]
 refine Nil.ptr (FAddr.mk (Ld.mk (v := b.vt) hmk rfl ?_))
 refine hO.tr.ld (i := tr.length) (x := (l : Int)) (by rw [iw_append]; simp [iw]) (by rw [hC]; exact Hole.sub (.cons (.app (.app (.app (.app (.app (.app .here)))))))) ?_
 refine CallF.fn .here (turn_ok h.rep h.ok h.od h.idle hl) ?_
 rintro w C' (⟨_, rfl, K', S', lev', hK', hok', hod', hid', hkept⟩ | ⟨hno, rfl, rfl⟩)
 rotate_left
 ·omega
 obtain ⟨b', rfl, hO'⟩ := hK'
 refine Nil.ptr (FAddr.mk (Ld.mk (v := b'.vt) (by exact .head _) rfl ?_))
 refine hO'.tr.cut (i := tr.length) (by rw [iw_length]; simp) fun v' hv' => ?_
 refine Nil.ptr (FAddr.mk (St.one (by exact .head _) hv'.one (by simp [KBs.cells]) rfl ?_))
 refine FnR.here ⟨rfl, hl, K', S', lev', ⟨⟨{ b' with vt := v' }, rfl, { hO' with tr := by rw [iw_append, List.take_left' (by simp)] at hv'; exact hv' }⟩, hok', hod', hid', ?_⟩, hkept⟩
 rw [hkept.n, hkept.cap]
 exact htr2.congr fun g => (hkept.held g).symm
theorem KSt.live_lt (h : KSt kp K S ord lev tr C) {r : Nat} (hl : live K.N r) : r < 1048576 := h.rep.lt hl
theorem KSt.hold_le (h : KSt kp K S ord lev tr C) (r : Nat) : K.hold r ≤ 65535 := h.ok.mid.mx r
theorem KSt.use_lt (h : KSt kp K S ord lev tr C) (r : Nat) : K.use r ≤ 2097153 := by have := use_le h.ok.mid h.idle (M := 0) (fun _ => Nat.le_refl _) r; omega
structure More (K K' : Kd) (r : Nat) : Prop where
 n : K'.n = K.n
 cap : K'.cap = K.cap
 used : K'.used = K.used
 N : K'.N = K.N
 hold : ∀ s, K'.hold s = if s = r ∧ 2 ≤ r then K.hold s + 1 else K.hold s
theorem keep_full (h : KSt kp K S ord lev tr C) {r : Nat} (hl : live K.N r) (h2 : 2 ≤ r) (hf : K.hold r = 65535) : Rd Tryz.prog 51 #[ptr kp, u32 r] C (· = .int .i64 8) := by
 have hr := h.live_lt hl
 obtain ⟨b, hC, hO⟩ := h.rep
 have hfit : r < K.ho.length := by
  rcases hl with hl | ⟨d, hd⟩
  ·omega
  ·rw [← hO.ul.1]; exact h.ok.mid.fit hd
 intro g
 refine L51_sound (R := FnR _) ?_
 unfold L51
 refine Bin.ptrNil (Br.no (Nil.ptr (FAddr.mk ?_)))
 refine CallF.rd .here (klive_ok h.rep (by omega)) ?_
 rintro w rfl
 rw [liveB_iff.2 hl]
 refine Un.not (Br.no ?_)
 intro J7 _
 refine Bin.gtN (b := 1) (Br.decT (by omega) ?_)
 refine Nil.ptr (FAddr.mk (FAddr.mk (Ld.mk (v := b.vh) (by rw [hC]; exact .head _) rfl ?_)))
 refine hO.ho.ld (x := ((K.hold r : Nat) : Int)) (iw_getD hfit) (by rw [hC]; exact Hole.sub (.cons (.app (.app (.app .left))))) ?_
 rw [hf]
 exact Bin.eqD (Br.decT rfl (RdR.mk (.refl _) rfl))
theorem keep_mid (h : KRep kp K ord lev tr C) (hM0 : Mid K S none' zero') (hid0 : Idle K) {r : Nat} (hl : live K.N r) (hf : 2 ≤ r → K.hold r < 65535) : Fc Tryz.prog 51 #[ptr kp, u32 r] C (fun v C' => v = .int .i64 0 ∧ ∃ K', KRep kp K' ord lev [] C' ∧
  Mid K' S none' zero' ∧ Idle K' ∧ More K K' r ∧ (∀ s, K.use s ≤ K'.use s) ∧ (2 ≤ r → 0 < K'.use r)) := by
 have hr := h.lt hl
 have h0 := h
 obtain ⟨b, hC, hO⟩ := h
 intro g
 refine L51_sound (R := FnR _) ?_
 unfold L51
 refine Bin.ptrNil (Br.no (Nil.ptr (FAddr.mk ?_)))
 refine CallF.rd .here (klive_ok h0 (by omega)) ?_
 rintro w rfl
 rw [liveB_iff.2 hl]
 refine Un.not (Br.no ?_)
 intro J7 hJ7
 have fin : ∀ (K' : Kd) C1, KRep kp K' ord lev tr C1 → Mid K' S none' zero' → Idle K' → More K K' r → (∀ s, K.use s ≤ K'.use s) → (2 ≤ r → 0 < K'.use r) → J7 [] C1 := fun K' C1 hK' hok' hid' hm hu hp => by
  refine hJ7 _ fun gs => ?_
  obtain ⟨b', rfl, hO'⟩ := hK'
  refine Nil.ptr (FAddr.mk (St.one (by exact .head _) rfl (by simp [KBs.cells]) rfl ?_))
  refine FnR.mk (H'' := ({ b' with vt := .slice none 0 0, CR := [] } : KBs).hp kp K'.n) ?_ ⟨rfl, K', ⟨{ b' with vt := .slice none 0 0, CR := [] }, rfl, { hO' with tr := IOwn.nil }⟩, hok', hid', hm, hu, hp⟩
  refine .cons (.prep (.prep (.prep (.prep (.prep (.prep .nil _) _) _) _) _) _)
 refine Bin.gtN (b := 1) (Br.dec (fun h2 => ?_) (fun h2 => ?_))
 rotate_left
 ·refine JE.mk (fin K C h0 hM0 hid0 ⟨rfl, rfl, rfl, rfl, fun s => ?_⟩ (fun _ => Nat.le_refl _) (fun h => by omega))
  rw [if_neg (by omega)]
 have h2' : 2 ≤ r := by omega
 have hf' := hf h2'
 obtain ⟨d, hd⟩ : ∃ d, K.N r = some d := by
  rcases hl with hl | hl
  ·omega
  ·exact hl
 have hfu := hM0.fit hd
 have hul := hO.ul
 have hfit : r < K.ho.length := by omega
 subst hC
 refine Nil.ptr (FAddr.mk (FAddr.mk (Ld.mk (v := b.vh) (by exact .head _) rfl ?_)))
 refine hO.ho.ld (x := ((K.hold r : Nat) : Int)) (iw_getD hfit) (Hole.sub (.cons (.app (.app (.app .left))))) ?_
 refine Bin.eqD (Br.decF (by omega) ?_)
 refine Nil.ptr (FAddr.mk (FAddr.mk (Ld.mk (v := b.vh) (by exact .head _) rfl ?_)))
 refine hO.ho.ld (x := ((K.hold r : Nat) : Int)) (iw_getD hfit) (Hole.sub (.cons (.app (.app (.app .left))))) ?_
 refine Bin.addN (b := 1) (by simp [lim]; omega) ?_
 refine hO.ho.putH (x := ((K.hold r + 1 : Nat) : Int)) (.cons (.app (.app (.app .left)))) (by rw [iw_length]; exact hfit) fun CH' hh' => ?_
 rw [iw_set] at hh'
 have g1 : ∀ s, (K.ho.set r (K.hold r + 1)).getD s 0 = if s = r then K.hold r + 1 else K.hold s := fun s => getD_set hfit
 refine Nil.ptr (FAddr.mk (FAddr.mk (Ld.mk (v := b.vh) (by exact .head _) rfl ?_)))
 refine hh'.ld (x := ((K.hold r + 1 : Nat) : Int)) (by rw [iw_getD (by simpa using hfit), g1, if_pos rfl]) (Hole.sub (.cons (.app (.app (.app .left))))) ?_
 refine Bin.eqN (b := 1) (Br.dec (fun h3 => ?_) (fun h3 => ?_))
 ·refine Nil.ptr (FAddr.mk (FAddr.mk (Ld.mk (v := b.vu) (by exact .head _) rfl ?_)))
  refine hO.us.ld (x := ((K.use r : Nat) : Int)) (iw_getD hfu) (Hole.sub (.cons (.app (.app .left)))) ?_
  have hub := use_le hM0 hid0 (M := 0) (fun _ => Nat.le_refl _) r
  refine Bin.addN (b := 1) (by simp [lim]; omega) ?_
  refine hO.us.putH (x := ((K.use r + 1 : Nat) : Int)) (.cons (.app (.app .left))) (by rw [iw_length]; exact hfu) fun CU' hu' => ?_
  rw [iw_set] at hu'
  have g2 : ∀ s, (K.us.set r (K.use r + 1)).getD s 0 = if s = r then K.use r + 1 else K.use s := fun s => getD_set hfu
  have hM := hM0.keep (r := r) (us' := K.us.set r (K.use r + 1)) (ho' := K.ho.set r (K.hold r + 1)) ⟨d, hd⟩ hf' (by simp) (by rw [g1, if_pos rfl]) (fun s hs => by rw [g1, if_neg hs]) (by rw [g2, if_pos rfl, if_pos (by omega)]) (fun s hs => by rw [g2, if_neg hs])
  refine JE.mk (fin { K with us := K.us.set r (K.use r + 1), ho := K.ho.set r (K.hold r + 1) } _ ⟨{ b with CU := CU', CH := CH' }, rfl, { hO with us := hu', ho := hh', ul := by simp; exact hul }⟩ hM (fun s hs => ?_) ⟨rfl, rfl, rfl, rfl, fun s => ?_⟩ (fun s => ?_) (fun _ => ?_))
  ·show (K.us.set r (K.use r + 1)).getD s 0 = 0
   have hs' : K.N s = none := hs
   rw [g2, if_neg (fun e => by rw [e, hd] at hs'; cases hs')]; exact hid0 s hs'
  ·show (K.ho.set r (K.hold r + 1)).getD s 0 = _
   rw [g1]
   by_cases e : s = r
   ·subst e; rw [if_pos rfl, if_pos ⟨rfl, h2'⟩]
   ·rw [if_neg e, if_neg (fun h => e h.1)]
  ·show K.use s ≤ (K.us.set r (K.use r + 1)).getD s 0
   rw [g2]; split
   ·rename_i e; subst e; omega
   ·exact Nat.le_refl _
  ·show 0 < (K.us.set r (K.use r + 1)).getD r 0
   rw [g2, if_pos rfl]; omega
 ·have hM := hM0.keep (r := r) (us' := K.us) (ho' := K.ho.set r (K.hold r + 1)) ⟨d, hd⟩ hf' (by simp) (by rw [g1, if_pos rfl]) (fun s hs => by rw [g1, if_neg hs]) (by show K.use r = _; rw [if_neg (by omega)]; rfl) (fun s hs => rfl)
  refine JE.mk (fin { K with ho := K.ho.set r (K.hold r + 1) } _ ⟨{ b with CH := CH' }, rfl, { hO with ho := hh', ul := by simp; exact hul }⟩ hM hid0 ⟨rfl, rfl, rfl, rfl, fun s => ?_⟩ (fun _ => Nat.le_refl _) (fun _ => ?_))
  rotate_left
  ·show 0 < K.use r
   rw [hM0.use hd, if_neg (by omega)]; omega
  show (K.ho.set r (K.hold r + 1)).getD s 0 = _
  rw [g1]
  by_cases e : s = r
  ·subst e; rw [if_pos rfl, if_pos ⟨rfl, h2'⟩]
  ·rw [if_neg e, if_neg (fun h => e h.1)]
theorem keep_ok (h : KSt kp K S ord lev tr C) {r : Nat} (hl : live K.N r) (hf : 2 ≤ r → K.hold r < 65535) : Fc Tryz.prog 51 #[ptr kp, u32 r] C (fun v C' => v = .int .i64 0 ∧ ∃ K', KSt kp K' S ord lev [] C' ∧ More K K' r) := by
 refine (keep_mid h.rep h.ok.mid h.idle hl hf).mono ?_
 rintro v C' ⟨rfl, K', hK', hM', hid', hm, hu, hp⟩
 refine ⟨rfl, K', ⟨hK', ⟨hM', fun s d hs => ?_, by rw [hm.n]; exact h.ok.lv, by rw [hm.n, hm.N]; exact h.ok.wf⟩, by rw [hm.n]; exact h.od, hid', trivial⟩, hm⟩
 rw [hm.N] at hs
 exact Nat.lt_of_lt_of_le (h.ok.pos s d hs) (hu s)
end
end Go.Proofs
set_option maxRecDepth 100000
namespace Go.Proofs
open Go Go.Sx
open Bdd
section
variable {kp : Nat} {K : Kd} {ord lev tr : List Nat} {C : Hp} {S : Nat → Bdd.Fn}
theorem less_wf {K' : Kd} {P : Nat → Nat} (hw : WF K.n (lv lev) K.N) (hM : Mid K' S none' P) (hN : ∀ {s d}, K'.N s = some d → K.N s = some d) (hn : K'.n = K.n) : WF K'.n (lv lev) K'.N := by
 have same : ∀ {t}, live K'.N t → dep K'.n (lv lev) K'.N t = dep K.n (lv lev) K.N t := fun {t} ht => by
  cases e : K'.N t with
  | some f => rw [dep_some e, dep_some (hN e)]
  | none =>
   have ht2 : t < 2 := by
    rcases ht with ht | ⟨f, hf⟩
    ·exact ht
    ·rw [e] at hf; cases hf
   rw [dep_none e, dep_none (hw.const ht2), hn]
 refine hM.wf fun {s d} hs => ?_
 rw [same (hM.lo hs), same (hM.hi hs)]
 exact ⟨(hw.lo (hN hs)).2, (hw.hi (hN hs)).2⟩
structure Fewer (K K' : Kd) (r : Nat) : Prop where
 n : K'.n = K.n
 cap : K'.cap = K.cap
 N : ∀ s d, K'.N s = some d → K.N s = some d
 hold : ∀ s, K'.hold s = if s = r ∧ 2 ≤ r then K.hold s - 1 else K.hold s
theorem drop_ref (h : KSt kp K S ord lev tr C) {r : Nat} (hr : r < 4294967296) (h2 : 2 ≤ r) (h0 : K.hold r = 0) : Rd Tryz.prog 12 #[ptr kp, u32 r] C (· = .int .i64 3) := by
 intro g
 refine L12_sound (R := FnR _) ?_
 unfold L12
 refine Bin.ptrNil (Br.no ?_)
 intro J2 _
 refine Bin.gtN (b := 1) (Br.decT (by omega) ?_)
 refine CallF.rd .here (kheld_ok h.rep hr (fun s => by have := h.hold_le s; omega)) ?_
 rintro w rfl
 rw [h0]
 exact Bin.eqD (Br.decT rfl (RdR.mk (.refl _) rfl))
theorem drop_ok (h : KSt kp K S ord lev tr C) {r : Nat} (hr : r < 4294967296) (hh : 2 ≤ r → K.hold r ≠ 0) : Fc Tryz.prog 12 #[ptr kp, u32 r] C (fun v C' => v = .int .i64 0 ∧ ∃ K', KSt kp K' S ord lev [] C' ∧ Fewer K K' r) := by
 have h0 := h
 obtain ⟨b, hC, hO⟩ := h.rep
 intro g
 refine L12_sound (R := FnR _) ?_
 unfold L12
 refine Bin.ptrNil (Br.no ?_)
 intro J2 hJ2
 have fin : ∀ (K' : Kd) C1, KRep kp K' ord lev tr C1 → Ok K' S (lv lev) → Idle K' → Fewer K K' r → J2 [] C1 := fun K' C1 hK' hok' hid' hm => by
  refine hJ2 _ fun gs => ?_
  obtain ⟨b', rfl, hO'⟩ := hK'
  refine Nil.ptr (FAddr.mk (St.one (by exact .head _) rfl (by simp [KBs.cells]) rfl ?_))
  have hod : Ord K'.n (lv lev) ord := by rw [hm.n]; exact h.od
  refine FnR.mk (H'' := ({ b' with vt := .slice none 0 0, CR := [] } : KBs).hp kp K'.n) ?_ ⟨rfl, K', ⟨⟨{ b' with vt := .slice none 0 0, CR := [] }, rfl, { hO' with tr := IOwn.nil }⟩, hok', hod, hid', trivial⟩, hm⟩
  refine .cons (.prep (.prep (.prep (.prep (.prep (.prep .nil _) _) _) _) _) _)
 refine Bin.gtN (b := 1) (Br.dec (fun h2 => ?_) (fun h2 => ?_))
 rotate_left
 ·exact JE.mk (fin K C h.rep h.ok h.idle ⟨rfl, rfl, fun _ _ h => h, fun s => by rw [if_neg (by omega)]⟩)
 have h2' : 2 ≤ r := by omega
 have hh' := hh h2'
 obtain ⟨d, hd⟩ := h.ok.mid.held r hh'
 have hfu := h.ok.mid.fit hd
 have hul := hO.ul
 have hfit : r < K.ho.length := by omega
 have hle := h.hold_le r
 refine CallF.rd .here (kheld_ok h.rep hr (fun s => by have := h.hold_le s; omega)) ?_
 rintro w rfl
 refine Bin.eqD (Br.decF (by omega) ?_)
 subst hC
 refine Nil.ptr (FAddr.mk (FAddr.mk (Ld.mk (v := b.vh) (by exact .head _) rfl ?_)))
 refine hO.ho.ld (x := ((K.hold r : Nat) : Int)) (iw_getD hfit) (Hole.sub (.cons (.app (.app (.app .left))))) ?_
 refine Bin.subN (b := 1) (by simp [lim]; omega) (by omega) ?_
 refine hO.ho.putH (x := ((K.hold r - 1 : Nat) : Int)) (.cons (.app (.app (.app .left)))) (by rw [iw_length]; exact hfit) fun CH' hhh => ?_
 rw [iw_set] at hhh
 have g1 : ∀ s, (K.ho.set r (K.hold r - 1)).getD s 0 = if s = r then K.hold r - 1 else K.hold s := fun s => getD_set hfit
 have hM := h.ok.mid.drop (r := r) (ho' := K.ho.set r (K.hold r - 1)) (by omega) (by simp) (by rw [g1, if_pos rfl]; omega) (fun s hs => by rw [g1, if_neg hs])
 have hK1 : KRep kp { K with ho := K.ho.set r (K.hold r - 1) } ord lev tr (({ b with CH := CH' } : KBs).hp kp K.n) := ⟨_, rfl, { hO with ho := hhh, ul := by simp; exact hul }⟩
 have hho : ∀ s, (K.ho.set r (K.hold r - 1)).getD s 0 = if s = r ∧ 2 ≤ r then K.hold s - 1 else K.hold s := fun s => by
  rw [g1]
  by_cases e : s = r
  ·subst e; rw [if_pos rfl, if_pos ⟨rfl, h2'⟩]
  ·rw [if_neg e, if_neg (fun h => e h.1)]
 refine Nil.ptr (FAddr.mk (FAddr.mk (Ld.mk (v := b.vh) (by exact .head _) rfl ?_)))
 refine hhh.ld (x := ((K.hold r - 1 : Nat) : Int)) (by rw [iw_getD (by simpa using hfit), g1, if_pos rfl]) (Hole.sub (.cons (.app (.app (.app .left))))) ?_
 refine Bin.eqN (b := 0) (Br.dec (fun h3 => ?_) (fun h3 => ?_))
 rotate_left
 ·rw [if_neg (by omega)] at hM
  exact JE.mk (fin { K with ho := K.ho.set r (K.hold r - 1) } _ hK1 ⟨hM, h.ok.pos, h.ok.lv, h.ok.wf⟩ h.idle ⟨rfl, rfl, fun _ _ h => h, hho⟩)
 rw [if_pos (by omega)] at hM
 refine Nil.ptr (FAddr.mk ?_)
 have hM2 : Mid { K with ho := K.ho.set r (K.hold r - 1) } S none' (cntP zero' [r]) := hM.congr (fun _ => Iff.rfl) fun s _ => by
  unfold up cntP zero'
  by_cases e : s = r
  ·subst e; simp
  ·simp [e, Ne.symm e]
 refine CallF.fn .here (release_ok (P0 := zero') hK1 hM2 h.ok.pos (fun t h2t h0 => ?_) (h.live_lt (.inr ⟨d, hd⟩)) (fun s => by have := h.use_lt s; show K.use s < _; omega)) ?_
 ·by_cases e : t = r
  ·subst e; exact ⟨d, hd⟩
  ·have h0' : 0 < zero' t + [r].count t := h0
   simp [zero', Ne.symm e] at h0'
 rintro w C2 ⟨rfl, K2, hK2, hM3, hp3, _, hless⟩
 refine JE.mk (fin K2 _ hK2 ⟨hM3, hp3, by rw [hless.n]; exact h.ok.lv, less_wf h.ok.wf hM3 (fun h => hless.N h) hless.n⟩ (hless.idle h.idle) ⟨hless.n, hless.cap, fun s e hs => hless.N hs, fun s => ?_⟩)
 show K2.ho.getD s 0 = _
 rw [hless.ho]
 exact hho s
structure MakeR (K : Kd) (S : Nat → Bdd.Fn) (K' : Kd) (S' : Nat → Bdd.Fn) (f : Bdd.Fn) (r : Nat) : Prop where
 n : K'.n = K.n
 cap : K'.cap = K.cap
 used : K'.used ≤ K.used + 1
 N : ∀ s d, K.N s = some d → K'.N s = some d
 fn : ∀ s, live K.N s → S' s = S s
 live : live K'.N r
 is : S' r = f
 hold : ∀ s, K'.hold s = if s = r ∧ 2 ≤ r then K.hold s + 1 else K.hold s
theorem make_ok (h : KSt kp K S ord lev tr C) {v lo hi : Nat} (hv : v < K.n) (hlo : live K.N lo) (hhi : live K.N hi) (hlt : lo = hi ∨ (lv lev v < dep K.n (lv lev) K.N lo ∧ lv lev v < dep K.n (lv lev) K.N hi)) :
  Fc Tryz.prog 11 #[ptr kp, .int .i64 (v : Int), u32 lo, u32 hi] C (fun w C' =>
   (∃ r K' S', w = .tuple #[u32 r, .int .i64 0] ∧ KSt kp K' S' ord lev [] C' ∧ MakeR K S K' S' (ite S ⟨v, lo, hi⟩) r) ∨
   (∃ r, w = .tuple #[u32 0, .int .i64 8] ∧ C' = C ∧ live K.N r ∧ 2 ≤ r ∧ K.hold r = 65535 ∧ S r = ite S ⟨v, lo, hi⟩) ∨
   (w = .tuple #[u32 0, .int .i64 9] ∧ C' = C ∧ K.cap ≤ K.used ∧ lo ≠ hi ∧ K.T ⟨v, lo, hi⟩ = none)) := by
 have h0 := h
 have hlo' := h.live_lt hlo
 have hhi' := h.live_lt hhi
 have hl1 := liveB_iff.2 hlo
 have hl2 := liveB_iff.2 hhi
 have hfe : fitsE K lev (v : Int) lo hi = 0 := by
  unfold fitsE
  rw [if_neg (by omega), if_neg (by rw [hl1, hl2]; simp), if_neg]
  rintro ⟨hne, hmin⟩
  rcases hlt with e | ⟨a, b⟩
  ·exact hne e
  ·simp only [Int.toNat_natCast, lv] at hmin a b; omega
 intro g
 refine L11_sound (R := FnR _) ?_
 unfold L11
 refine Bin.ptrNil (Br.no ?_)
 refine CallF.rd .here (fits_ok h.rep (v : Int) (by omega) (by omega) (fun r d hd => ⟨h.ok.mid.var hd, (h.ok.mid.two hd).1⟩)) ?_
 rintro w rfl
 rw [hfe]
 refine Bin.neD (Br.decF (by simp) ?_)
 refine CallF.rd .here (seek_ok h.rep (lo := lo) (hi := hi) hv) ?_
 rintro w hw
 have there : ∀ (J9 : List Value → Hp → Prop), (∀ w12 : Value, ∀ H11 : Hp, (∀ gs10 : Fr, CallF Tryz.prog g 51 #[ptr kp, w12] H11 (fun v13 H14 => Bin .num .neq v13 (Value.int .i64 0) fun v15 => Br v15
   (FnR (fun w C' => (∃ r K' S', w = .tuple #[u32 r, .int .i64 0] ∧ KSt kp K' S' ord lev [] C' ∧ MakeR K S K' S' (ite S ⟨v, lo, hi⟩) r) ∨
   (∃ r, w = .tuple #[u32 0, .int .i64 8] ∧ C' = C ∧ live K.N r ∧ 2 ≤ r ∧ K.hold r = 65535 ∧ S r = ite S ⟨v, lo, hi⟩) ∨
   (w = .tuple #[u32 0, .int .i64 9] ∧ C' = C ∧ K.cap ≤ K.used ∧ lo ≠ hi ∧ K.T ⟨v, lo, hi⟩ = none)) (.returned (.tuple #[(Value.int .u32 0), v13])) H14) (FnR (fun w C' => (∃ r K' S', w = .tuple #[u32 r, .int .i64 0] ∧ KSt kp K' S' ord lev [] C' ∧ MakeR K S K' S' (ite S ⟨v, lo, hi⟩) r) ∨
   (∃ r, w = .tuple #[u32 0, .int .i64 8] ∧ C' = C ∧ live K.N r ∧ 2 ≤ r ∧ K.hold r = 65535 ∧ S r = ite S ⟨v, lo, hi⟩) ∨
   (w = .tuple #[u32 0, .int .i64 9] ∧ C' = C ∧ K.cap ≤ K.used ∧ lo ≠ hi ∧ K.T ⟨v, lo, hi⟩ = none)) (.returned (.tuple #[w12, (Value.int .i64 0)])) H14)) (PanR (FnR (fun w C' => (∃ r K' S', w = .tuple #[u32 r, .int .i64 0] ∧ KSt kp K' S' ord lev [] C' ∧ MakeR K S K' S' (ite S ⟨v, lo, hi⟩) r) ∨
   (∃ r, w = .tuple #[u32 0, .int .i64 8] ∧ C' = C ∧ live K.N r ∧ 2 ≤ r ∧ K.hold r = 65535 ∧ S r = ite S ⟨v, lo, hi⟩) ∨
   (w = .tuple #[u32 0, .int .i64 9] ∧ C' = C ∧ K.cap ≤ K.used ∧ lo ≠ hi ∧ K.T ⟨v, lo, hi⟩ = none))))) → J9 [w12] H11) →
   ∀ r, live K.N r → S r = ite S ⟨v, lo, hi⟩ → J9 [u32 r] C := fun J9 hJ9 r hr hS => by
  refine hJ9 _ _ fun gs => ?_
  by_cases hf : 2 ≤ r ∧ K.hold r = 65535
  ·refine CallF.rd .here (keep_full h hr hf.1 hf.2) ?_
   rintro w rfl
   exact Bin.neD (Br.decT (by simp) (FnR.here (.inr (.inl ⟨r, rfl, rfl, hr, hf.1, hf.2, hS⟩))))
  ·refine CallF.fn .here (keep_ok h hr (fun h2 => by have := h.hold_le r; omega)) ?_
   rintro w C' ⟨rfl, K', hK', hm⟩
   refine Bin.neD (Br.decF (by simp) (FnR.here (.inl ⟨r, K', S, rfl, hK', ⟨hm.n, hm.cap, by rw [hm.used]; omega, fun s d hs => by rw [hm.N]; exact hs, fun _ _ => rfl, by rw [hm.N]; exact hr, hS, hm.hold⟩⟩)))
 by_cases he : lo = hi
 ·rw [if_pos he] at hw
  subst hw
  refine Ext.mk rfl (Ext.mk rfl ?_)
  intro J9 hJ9
  refine Un.not (Br.no (JE.mk (there J9 hJ9 lo hlo ?_)))
  funext z
  unfold Bdd.ite
  simp [he]
 rw [if_neg he] at hw
 have hlt' : lv lev v < dep K.n (lv lev) K.N lo ∧ lv lev v < dep K.n (lv lev) K.N hi := by
  rcases hlt with e | e
  ·exact absurd e he
  ·exact e
 obtain ⟨o, ho⟩ : ∃ o, o = K.T ⟨v, lo, hi⟩ := ⟨_, rfl⟩
 cases o with
 | some r =>
  have hT : K.T ⟨v, lo, hi⟩ = some r := ho.symm
  rw [hT] at hw
  subst hw
  refine Ext.mk rfl (Ext.mk rfl ?_)
  intro J9 hJ9
  have hN := ((h.ok.mid.tab _ r).1 hT).1
  refine Un.not (Br.no (JE.mk (there J9 hJ9 r (.inr ⟨_, hN⟩) ?_)))
  funext z
  rw [h.ok.mid.int.node hN]
  rfl
 | none =>
  have hT : K.T ⟨v, lo, hi⟩ = none := ho.symm
  rw [hT] at hw
  subst hw
  refine Ext.mk rfl (Ext.mk rfl ?_)
  intro J9 hJ9
  refine Un.not (Br.yes (Nil.ptr (FAddr.mk ?_)))
  have hcap := h.ok.mid.cap
  refine CallF.rd .here (kroom_ok h.rep (m := 1) (by omega) (by omega)) ?_
  rintro w rfl
  refine Un.not ?_
  by_cases hroom : K.used + 1 ≤ K.cap
  rotate_left
  ·rw [decide_eq_false hroom]
   exact Br.yes (FnR.here (.inr (.inr ⟨rfl, rfl, by omega, he, hT⟩)))
  rw [decide_eq_true hroom]
  refine Br.no (Nil.ptr (FAddr.mk ?_))
  refine Build.mk (cs := nrow ⟨v, lo, hi⟩) (by kernel_rfl) ?_
  have hfit : ∀ {t : Nat}, live K.N t → t < 2 ∨ t < K.us.length := fun ht' => by
   rcases ht' with ht' | ⟨d, hd'⟩
   ·exact .inl ht'
   ·exact .inr (h.ok.mid.fit hd')
  have hn64 : K.n ≤ 64 := by obtain ⟨_, _, hO⟩ := h.rep; exact hO.n64
  refine CallF.fn .here (take_ok h.rep (d := ⟨v, lo, hi⟩) ⟨by show v < 64; omega, hlo, hhi⟩ hv hT (by omega) (hfit hlo) (hfit hhi) (fun s => by have := h.use_lt s; omega)) ?_
  rintro w C1 ⟨r, us', ho', rfl, hN, h2, hrc, hlen, hru, hul, u0, u1, u2, o0, o1, hK1⟩
  have hM1 := h.ok.mid.lay (r := r) (d := ⟨v, lo, hi⟩) hN ⟨h2, hrc⟩ hv he hlo hhi hT (fun h => h) rfl (by omega) hlen ⟨hru, hul⟩ u0 u1 o0 o1
  have hNup : ∀ s d, K.N s = some d → up K.N r (some ⟨v, lo, hi⟩) s = some d := fun s d hs => by rw [up_ne (fun e => by rw [e, hN] at hs; cases hs)]; exact hs
  have hne : ∀ {t : Nat}, live K.N t → t ≠ r := fun ht => live_ne ht h2 hN
  have hid1 : Idle { K with N := up K.N r (some ⟨v, lo, hi⟩), T := upT K.T ⟨v, lo, hi⟩ (some r), used := K.used + 1, us := us', ho := ho' } := fun s hs => by
   have hs' : up K.N r (some ⟨v, lo, hi⟩) s = none := hs
   have hsr : s ≠ r := fun e => by subst e; rw [up_same] at hs'; cases hs'
   rw [up_ne hsr] at hs'
   show us'.getD s 0 = 0
   by_cases h2s : 2 ≤ s
   ·rw [u1 s h2s hsr, h.idle s hs', e1_some]
    have a1 : lo ≠ s := fun e => by
     rcases hlo with h5 | ⟨d, h5⟩
     ·omega
     ·rw [e, hs'] at h5; cases h5
    have a2 : hi ≠ s := fun e => by
     rcases hhi with h5 | ⟨d, h5⟩
     ·omega
     ·rw [e, hs'] at h5; cases h5
    simp [a1, a2]
   ·rw [u2 s (by omega), h.idle s hs']
  refine JE.mk (hJ9 _ _ fun gs => ?_)
  refine CallF.fn .here (keep_mid hK1 hM1 hid1 (r := r) (.inr ⟨_, up_same⟩) (fun _ => by show ho'.getD r 0 < 65535; rw [o0]; omega)) ?_
  rintro w C2 ⟨rfl, K2, hK2, hM2, hid2, hm, hu, hp⟩
  refine Bin.neD (Br.decF (by simp) ?_)
  have hn2 : K2.n = K.n := hm.n
  have hN2 : K2.N = up K.N r (some ⟨v, lo, hi⟩) := hm.N
  have hpos : Pos K2 := fun s d hs => by
   by_cases e : s = r
   ·rw [e]; exact hp h2
   ·rw [hN2, up_ne e] at hs
    have h3 := hu s
    have h4 : ({ K with N := up K.N r (some ⟨v, lo, hi⟩), T := upT K.T ⟨v, lo, hi⟩ (some r), used := K.used + 1, us := us', ho := ho' } : Kd).use s = us'.getD s 0 := rfl
    rw [h4, u1 s (h.ok.mid.two hs).1 e] at h3
    have := h.ok.pos s d hs
    omega
  have hdep : ∀ {t : Nat}, live K.N t → dep K2.n (lv lev) K2.N t = dep K.n (lv lev) K.N t := fun {t} ht => by
   rw [hN2, hn2]
   unfold dep
   rw [up_ne (hne ht)]
  have hwf2 : WF K2.n (lv lev) K2.N := hM2.wf fun {s d} hs => by
   rw [hN2] at hs
   by_cases e : s = r
   ·rw [e, up_same] at hs; cases hs
    rw [hdep hlo, hdep hhi]; exact hlt'
   ·rw [up_ne e] at hs
    rw [hdep (h.ok.wf.lo hs).1, hdep (h.ok.wf.hi hs).1]
    exact ⟨(h.ok.wf.lo hs).2, (h.ok.wf.hi hs).2⟩
  have hS : ∀ s, live K.N s → up S r (ite S ⟨v, lo, hi⟩) s = S s := fun s hs => up_ne (hne hs)
  refine FnR.here (.inl ⟨r, K2, up S r (ite S ⟨v, lo, hi⟩), rfl, ⟨hK2, ⟨hM2, hpos, by rw [hn2]; exact h.ok.lv, hwf2⟩, by rw [hn2]; exact h.od, hid2, trivial⟩, ⟨hn2, hm.cap, by rw [hm.used]; exact Nat.le_refl _, fun s d hs => by rw [hN2]; exact hNup s d hs, hS, .inr ⟨_, by rw [hN2]; exact up_same⟩, up_same, fun s => ?_⟩⟩)
  rw [hm.hold]
  show (if s = r ∧ 2 ≤ r then ho'.getD s 0 + 1 else ho'.getD s 0) = _
  by_cases e : s = r
  ·subst e
   rw [if_pos ⟨rfl, h2⟩, if_pos ⟨rfl, h2⟩, o0]
   have : K.hold s = 0 := by
    apply Decidable.byContradiction
    intro hne
    obtain ⟨d, hd⟩ := h.ok.mid.held s hne
    rw [hN] at hd; cases hd
   omega
  ·rw [if_neg (fun h => e h.1), if_neg (fun h => e h.1), o1 s e]
end
end Go.Proofs
set_option maxRecDepth 100000
namespace Go.Proofs
open Go Go.Sx
open Bdd
theorem hnew {H : Hp} : Hole [] H (fun X => X ++ H) := Hole.left
theorem ident_ok {n : Nat} (hn : n ≤ 64) : Fc Tryz.prog 95 #[.int .i64 (n : Int)] [] (fun v H => IOwn 3 .i64 v (iw (List.range n)) H) := by
 intro g
 refine L95_sound (R := FnR _) ?_
 unfold L95
 refine MkSlice.ints (by omega) (by omega) fun b => ?_
 have h0 : IOwn 3 .i64 (.slice (some ⟨b, 0, none⟩) n n) (List.replicate n 0) [(b, .cells (icells .i64 (List.replicate n 0)) 3 (0, 0))] := by
  have := IOwn.made (T := 3) (kd := .i64) (b := b) (List.replicate n (0 : Int))
  rw [List.length_replicate] at this; exact this
 refine ⟨fun vs H => ∃ j : Nat, vs = [.int .i64 (j : Int)] ∧ j ≤ n ∧ IOwn 3 .i64 (.slice (some ⟨b, 0, none⟩) n n) (iw (List.range j) ++ List.replicate (n - j) 0) H, fun vs _ => n - nAt vs 0, JE.mk ⟨0, rfl, by omega, by simpa [iw] using h0⟩, ?_⟩
 rintro w H ⟨j, hw, hj, hs⟩ gs
 simp only [List.cons.injEq, and_true] at hw
 subst hw
 refine Bin.ltN (Br.dec (fun hlt => ?_) (fun hlt => ?_))
 ·refine hs.putH (x := (j : Int)) .here (by simp; omega) fun C' hs' => ?_
  refine Bin.addN (b := 1) (by simp [lim]; omega) ?_
  have e : (iw (List.range j) ++ List.replicate (n - j) 0).set j (j : Int) = iw (List.range (j + 1)) ++ List.replicate (n - (j + 1)) 0 := by
   rw [List.set_append_right _ _ (by simp)]
   rw [show n - j = (n - (j + 1)) + 1 by omega, List.replicate_succ, List.range_succ, iw_append]
   simp [iw]
  rw [e] at hs'
  exact Back.of (.refl _) ⟨j + 1, rfl, by omega, hs'⟩ (by show n - (((j + 1 : Nat) : Int).toNat) < n - (((j : Nat) : Int).toNat); omega)
 ·obtain rfl : j = n := by omega
  exact FnR.here (by simpa using hs)
theorem identity_ok {n : Nat} (hn : n ≤ 64) : Fc Tryz.prog 43 #[.int .i64 (n : Int)] [] (fun v H => ∃ s, v = .tuple #[s, .int .i64 0] ∧ IOwn 3 .i64 s (iw (List.range n)) H) := by
 intro g
 refine L43_sound (R := FnR _) ?_
 unfold L43
 refine Bin.lss ?_
 rw [decide_eq_false (by omega)]
 refine Grp.or false (fun _ => Bin.gtr ⟨rfl, by rw [decide_eq_false (by omega)]⟩) rfl fun _ => Br.no ?_
 refine CallF.fn .here (ident_ok hn) ?_
 intro s H hs
 exact FnR.here ⟨s, rfl, hs⟩
def K0 (n cap : Nat) : Kd := ⟨n, cap, 2, fun _ => none, fun _ => none, [], []⟩
def S0 : Nat → Bdd.Fn := fun r _ => decide (r = 1)
theorem lv_range {n v : Nat} (hv : v < n) : lv (List.range n) v = v := by
 show (List.range n).getD v 0 = v
 simp [List.getD, hv]
theorem K0_ok {n cap : Nat} (hc : 2 ≤ cap ∧ cap ≤ 1048576) : Ok (K0 n cap) S0 (lv (List.range n)) := by
 have c0 : ∀ k, cntD (fun _ => none) k = 0 := fun k => by induction k with | zero => rfl | succ k ih => rw [cntD, ih]; rfl
 have hm : Mid (K0 n cap) S0 none' zero' := {
  two := fun h => nomatch h
  var := fun h => nomatch h
  ne := fun h => nomatch h
  lo := fun h => nomatch h
  hi := fun h => nomatch h
  int := ⟨fun _ => rfl, fun _ => rfl, fun h => nomatch h⟩
  tab := fun d r => ⟨fun h => (nomatch h), fun h => nomatch h.1⟩
  use := fun h => nomatch h
  len := rfl
  fit := fun h => nomatch h
  held := fun r h => absurd (by simp [Kd.hold, K0]) h
  mx := fun r => by simp [Kd.hold, K0]
  room := by show 2 = 2 + cntD (fun _ => none) _; rw [c0]
  cap := hc }
 refine ⟨hm, fun r d h => (nomatch h), ⟨fun v hv => ?_, fun u v hu hv h => ?_⟩, ⟨fun h => (nomatch h), fun h => (nomatch h), fun h => (nomatch h), fun h => (nomatch h), fun h => (nomatch h), fun h => (nomatch h)⟩⟩
 ·have hv' : v < n := hv
  rw [lv_range hv']; exact hv
 ·have hu' : u < n := hu
  have hv' : v < n := hv
  rwa [lv_range hu', lv_range hv'] at h
theorem newStore_ok {pt n cap : Nat} {CT : Hp} (hu : UtRep pt n (fun _ => none) CT) (hc : 2 ≤ cap ∧ cap ≤ 1048576) : Fc Tryz.prog 45 #[.int .i64 (cap : Int), ptr pt] CT (fun v H => ∃ pa CA, v = .tuple #[.agg #[ptr pa, ptr pt, .slice none 0 0, .slice none 0 0], .int .i64 0] ∧ ArRep pa cap 2 (fun _ => none) CA ∧ H = CA ++ CT) := by
 intro g
 refine L45_sound (R := FnR _) ?_
 unfold L45
 intro b1 _
 refine CallF.fn hnew (anew_ok hc) ?_
 rintro v C ⟨pa, rfl, hA⟩
 refine Ext.mk rfl (Ext.mk rfl ?_)
 refine Build.mk (cs := [ptr pa, ptr pt, .slice none 0 0, .slice none 0 0]) (by kernel_rfl) ?_
 refine St.whole (r := [ptr pa, ptr pt, .slice none 0 0, .slice none 0 0]) (Upd.prepend (.head _) _) rfl rfl (by simp [Value.oneCell']) ?_
 refine LdA.whole (r := [ptr pa, ptr pt, .slice none 0 0, .slice none 0 0]) (by exact List.mem_append_right _ (.head _)) rfl ?_
 exact FnR.mk (.prep .tail _) ⟨pa, C, rfl, hA, rfl⟩
theorem new_ok {n cap : Nat} (hn : 1 ≤ n ∧ n ≤ 64) (hc : 2 ≤ cap ∧ cap ≤ 1048576) : Fc Tryz.prog 10 #[.int .i64 (n : Int), .int .i64 (cap : Int)] [] (fun v C => ∃ kp, v = .tuple #[ptr kp, .int .i64 0] ∧ KSt kp (K0 n cap) S0 (List.range n) (List.range n) [] C) := by
 intro g
 refine L10_sound (R := FnR _) ?_
 unfold L10
 refine CallF.fn .here (identity_ok hn.2) ?_
 rintro v CO ⟨s, rfl, hO⟩
 obtain ⟨sa, sl, sc, hse⟩ : ∃ a l c, s = Value.slice a l c := by obtain ⟨a, c, h⟩ := SOwn.len hO; exact ⟨a, _, c, h⟩
 refine Ext.mk rfl (Ext.mk rfl ?_)
 refine Bin.neD ?_
 refine Grp.or false (fun _ => Bin.lss ⟨rfl, by rw [decide_eq_false (by omega)]⟩) rfl fun gs => ?_
 refine Grp.or false (fun _ => Bin.lss ⟨rfl, by rw [decide_eq_false (by omega)]⟩) rfl fun gs => ?_
 refine Grp.or false (fun _ => Bin.gtr ⟨rfl, by rw [decide_eq_false (by omega)]⟩) rfl fun gs => Br.no ?_
 refine CallF.fn hnew (unew_ok hn) ?_
 rintro v CT ⟨pt, rfl, hT⟩
 refine Ext.mk rfl (Ext.mk rfl ?_)
 refine Bin.neD (Br.no ?_)
 refine CallF.fn .left (newStore_ok hT hc) ?_
 rintro v H ⟨pa, CA, rfl, hA, rfl⟩
 refine Ext.mk rfl (Ext.mk rfl ?_)
 intro b24 _
 refine St.whole (r := [ptr pa, ptr pt, .slice none 0 0, .slice none 0 0]) (by exact .head _) rfl rfl (by simp [Value.oneCell']) ?_
 refine Bin.neD (Br.no (DR.self ?_))
 refine LdA.whole (r := [ptr pa, ptr pt, .slice none 0 0, .slice none 0 0]) (by exact .head _) rfl ?_
 refine CallF.fn (.cons (.app .here)) (clone_ok (hO.ints.mono fun _ h => h) (by simp; omega)) ?_
 rintro v H ⟨CL, rfl, hL⟩
 obtain ⟨la, ll, lc, hle⟩ : ∃ a l c, v = Value.slice a l c := by obtain ⟨a, c, h⟩ := SOwn.len hL; exact ⟨a, _, c, h⟩
 refine ⟨(.cons (.prep .right _)), ?_⟩
 subst hse hle
 refine Build.mk (cs := [ptr pa, ptr pt, .slice none 0 0, .slice none 0 0, .int .i64 (n : Int), .slice sa sl sc, .slice la ll lc, .slice none 0 0]) (by kernel_rfl) ?_
 intro b33 _
 refine ⟨(.skip (.cons (.prep .right _))), ?_⟩
 let kb : KBs := ⟨pa, pt, .slice none 0 0, .slice none 0 0, .slice sa sl sc, .slice la ll lc, .slice none 0 0, CA, CT, [], [], CO, CL, []⟩
 refine FnR.mk (H'' := kb.hp b33 n) ?_ ⟨b33, rfl, ⟨kb, rfl, ⟨hA, hT, IOwn.nil, IOwn.nil, hO, hL, IOwn.nil, ⟨rfl, by simp [K0]⟩, hn.2, by simp [K0]⟩⟩, K0_ok hc, ⟨by simp [K0], fun l hl => ?_⟩, fun s _ => by simp [Kd.use, K0], trivial⟩
 ·refine .cons (.skip ((Ent.assoc).trans ?_))
  show Ent (CA ++ (CT ++ (CL ++ CO))) (CA ++ (CT ++ ([] ++ ([] ++ (CO ++ (CL ++ []))))))
  simp only [List.nil_append, List.append_nil]
  exact .prep (.prep (.perm List.perm_append_comm) _) _
 ·have hl' : l < n := hl
  have e : (List.range n).getD l 0 = l := lv_range hl'
  rw [e]; exact ⟨hl, lv_range hl'⟩
end Go.Proofs
namespace Bdd
def swps (ord path : List Nat) : List Nat := path.foldl swp ord
theorem swps_snoc {ord path : List Nat} {l : Nat} : swps ord (path ++ [l]) = swp (swps ord path) l := by simp [swps]
theorem swps_app {ord path q : List Nat} : swps ord (path ++ q) = swps (swps ord path) q := by simp [swps]
theorem swps_len {ord : List Nat} : ∀ {path : List Nat}, (swps ord path).length = ord.length := by
 intro path
 unfold swps
 induction path generalizing ord with
 | nil => rfl
 | cons l r ih => rw [List.foldl_cons, ih]; simp [swp]
structure Rm where
 n : Nat
 size : List Nat → Nat
 fit : List Nat → Nat → Bool
def Rm.goes (m : Rm) (p : Nat) : List Nat → List Nat → List Nat
 | [], _ => []
 | c :: cs, ord => if m.fit ord (p + c) then (p + c) :: m.goes p cs (swp ord (p + c)) else []
theorem Rm.goes_len (m : Rm) (p : Nat) : ∀ cs ord, (m.goes p cs ord).length ≤ cs.length
 | [], _ => by simp [goes]
 | c :: cs, ord => by
  rw [goes]
  split
  ·have := m.goes_len p cs (swp ord (p + c)); simp only [List.length_cons]; omega
  ·simp
theorem Rm.goes_get (m : Rm) (p : Nat) : ∀ cs ord i, i < (m.goes p cs ord).length → (m.goes p cs ord)[i]? = (cs[i]?).map (p + ·) ∧ ∃ c, cs[i]? = some c ∧ m.fit (swps ord ((m.goes p cs ord).take i)) (p + c) = true
 | [], _, i, h => by simp [goes] at h
 | c :: cs, ord, i, h => by
  by_cases hf : m.fit ord (p + c) = true
  ·rw [goes, if_pos hf] at h ⊢
   cases i with
   | zero => exact ⟨by simp, c, rfl, hf⟩
   | succ i =>
    obtain ⟨h1, c', h2, h3⟩ := m.goes_get p cs (swp ord (p + c)) i (by simpa using h)
    exact ⟨by simpa using h1, c', by simpa using h2, by simpa [swps] using h3⟩
  ·rw [goes, if_neg hf] at h; simp at h
theorem Rm.goes_end (m : Rm) (p : Nat) : ∀ cs ord c, cs[(m.goes p cs ord).length]? = some c → m.fit (swps ord (m.goes p cs ord)) (p + c) = false
 | [], _, c, h => by simp at h
 | c' :: cs, ord, c, h => by
  by_cases hf : m.fit ord (p + c') = true
  ·rw [goes, if_pos hf] at h ⊢
   have := m.goes_end p cs (swp ord (p + c')) c (by simpa using h)
   simpa [swps] using this
  ·rw [goes, if_neg hf] at h ⊢
   simp only [List.length_nil, List.getElem?_cons_zero, Option.some.injEq] at h
   subst h
   simpa [swps] using hf
end Bdd
set_option maxRecDepth 100000
namespace Go.Proofs
open Go Go.Sx
open Bdd
def At (kp : Nat) (K : Kd) (S : Nat → Bdd.Fn) (ord tr : List Nat) (C : Hp) : Prop := ∃ K' S' lev', KSt kp K' S' ord lev' tr C ∧ Kept K S K' S'
noncomputable def ksz (K : Kd) (S : Nat → Bdd.Fn) (ord : List Nat) : Nat := sz K.n ord (K.held S)
def kfit (K : Kd) (S : Nat → Bdd.Fn) (ord : List Nat) (l : Nat) : Prop := usz K.n ord l (K.held S) + 2 ≤ K.cap
section
variable {kp : Nat} {K : Kd} {S : Nat → Bdd.Fn} {ord tr : List Nat} {C : Hp}
theorem KSt.at' {lev : List Nat} (h : KSt kp K S ord lev tr C) : At kp K S ord tr C := ⟨K, S, lev, h, .refl _ _⟩
theorem kst_size {lev : List Nat} (h : KSt kp K S ord lev tr C) : K.used = ksz K S ord + 2 := by
 have h1 := sz_eq (h.ok.size h.od)
 have h2 := h.ok.mid.room
 unfold ksz
 omega
theorem kept_ksz {K' : Kd} {S' : Nat → Bdd.Fn} (h : Kept K S K' S') (ord : List Nat) : ksz K' S' ord = ksz K S ord := by
 unfold ksz; rw [h.n]; exact sz_congr h.held
theorem kept_kfit {K' : Kd} {S' : Nat → Bdd.Fn} (h : Kept K S K' S') (ord : List Nat) (l : Nat) : kfit K' S' ord l ↔ kfit K S ord l := by
 unfold kfit; rw [h.n, h.cap, usz_congr h.held]
theorem At.len (h : At kp K S ord tr C) : ord.length = K.n := by
 obtain ⟨K', S', lev', h, hk⟩ := h
 rw [← hk.n]; exact h.od.len
theorem At.n64 (h : At kp K S ord tr C) : K.n ≤ 64 := by
 obtain ⟨K', S', lev', h, hk⟩ := h
 obtain ⟨b, _, hO⟩ := h.rep
 rw [← hk.n]; exact hO.n64
theorem at_live (h : At kp K S ord tr C) : Rd Tryz.prog 14 #[ptr kp] C (· = .int .i64 ((ksz K S ord : Nat) : Int)) := by
 obtain ⟨K', S', lev', h, hk⟩ := h
 have hs := kst_size h
 have hc := h.ok.mid.cap
 refine (klive_n h.rep (by omega) (by omega)).mono ?_
 rintro v H ⟨rfl, rfl⟩
 exact ⟨rfl, by rw [hs, kept_ksz hk]; rfl⟩
theorem at_trail (h : At kp K S ord tr C) : Rd Tryz.prog 15 #[ptr kp] C (· = .int .i64 ((tr.length : Nat) : Int)) := by
 obtain ⟨K', S', lev', h, hk⟩ := h
 exact ktrail_ok h.rep
theorem at_vars (h : At kp K S ord tr C) : Rd Tryz.prog 56 #[ptr kp] C (· = .int .i64 ((K.n : Nat) : Int)) := by
 obtain ⟨K', S', lev', h, hk⟩ := h
 rw [← hk.n]; exact kvars_ok h.rep
theorem at_order (h : At kp K S ord tr C) : Fc Tryz.prog 13 #[ptr kp] C (fun r H => ∃ N, H = N ++ C ∧ IOwn 3 .i64 r (iw ord) N) := by
 obtain ⟨K', S', lev', h, hk⟩ := h
 exact korder_ok h.rep
theorem at_exch (h : At kp K S ord tr C) {l : Nat} (hl : l + 1 < K.n) (htr : tr.length < 1099511627776) (hf : kfit K S ord l) : Fc Tryz.prog 28 #[ptr kp, .int .i64 (l : Int)] C (fun r C' => r = .int .i64 0 ∧ At kp K S (swp ord l) (tr ++ [l]) C') := by
 obtain ⟨K', S', lev', h, hk⟩ := h
 refine (exch_ok h (by rw [hk.n]; exact hl) htr).mono ?_
 rintro v C' (⟨_, rfl, K2, S2, lev2, h2, hk2⟩ | ⟨hno, _, _⟩)
 ·exact ⟨rfl, K2, S2, lev2, h2, hk.trans hk2⟩
 ·have := (kept_kfit hk ord l).2 hf
  unfold kfit at this; omega
theorem at_exch_no (h : At kp K S ord tr C) {l : Nat} (hl : l + 1 < K.n) (htr : tr.length < 1099511627776) (hf : ¬ kfit K S ord l) : Rd Tryz.prog 28 #[ptr kp, .int .i64 (l : Int)] C (· = .int .i64 9) := by
 obtain ⟨K', S', lev', h, hk⟩ := h
 refine (exch_ok h (by rw [hk.n]; exact hl) htr).mono ?_
 rintro v C' (⟨hyes, _⟩ | ⟨hno, rfl, rfl⟩)
 ·exact absurd ((kept_kfit hk ord l).1 hyes) hf
 ·exact ⟨rfl, rfl⟩
theorem at_undo {l : Nat} (h : At kp K S ord (tr ++ [l]) C) (htr : tr.length < 1099511627776) : Fc Tryz.prog 29 #[ptr kp] C (fun r C' => r = .tuple #[.int .i64 (l : Int), .int .i64 0] ∧ At kp K S (swp ord l) tr C') := by
 obtain ⟨K', S', lev', h, hk⟩ := h
 refine (undo_ok h htr).mono ?_
 rintro v C' ⟨rfl, _, K2, S2, lev2, h2, hk2⟩
 exact ⟨rfl, K2, S2, lev2, h2, hk.trans hk2⟩
theorem back_ok {path : List Nat} (h : At kp K S (swps ord path) (tr ++ path) C) (hp : ∀ l ∈ path, l + 1 < K.n) {k : Nat} (hk : k ≤ path.length) (htr : (tr ++ path).length < 1099511627776) : Fc Tryz.prog 109 #[ptr kp, .int .i64 ((tr.length + k : Nat) : Int)] C (fun r C' =>
   r = .tuple #[.int .i64 ((path.length - k : Nat) : Int), .int .i64 0] ∧ At kp K S (swps ord (path.take k)) (tr ++ path.take k) C') := by
 have hlen := h.len
 rw [swps_len] at hlen
 rw [List.length_append] at htr
 intro g
 refine L109_sound (R := FnR _) ?_
 unfold L109
 refine Bin.ptrNil (Br.no ?_)
 intro J2 hJ2
 refine Bin.lss ?_
 rw [decide_eq_false (by omega)]
 refine Split.go rfl ?_
 refine CallF.rd .here (at_trail h) ?_
 rintro v rfl
 refine Bin.gtr ?_
 rw [decide_eq_false (by rw [List.length_append]; omega)]
 refine Pick.mk ?_
 refine JE.mk (hJ2 _ _ fun gs => Br.no ?_)
 refine ⟨fun vs H => ∃ m, m ≤ path.length ∧ k ≤ m ∧ vs = [.int .i64 ((path.length - m : Nat) : Int)] ∧ At kp K S (swps ord (path.take m)) (tr ++ path.take m) H, fun vs _ => path.length - nAt vs 0, JE.mk ⟨path.length, Nat.le_refl _, hk, by simp, by simpa using h⟩, ?_⟩
 rintro w H ⟨m, hm, hkm, hw, hat⟩ gs
 simp only [List.cons.injEq, and_true] at hw
 subst hw
 refine CallF.rd .here (at_trail hat) ?_
 rintro v rfl
 refine Bin.gtN (Br.dec (fun hlt => ?_) (fun hlt => ?_))
 ·rw [List.length_append, List.length_take] at hlt
  obtain ⟨m, rfl⟩ : ∃ m', m = m' + 1 := ⟨m - 1, by omega⟩
  have e : path.take (m + 1) = path.take m ++ [path[m]] := by rw [List.take_add_one, List.getElem?_eq_getElem (by omega)]; rfl
  rw [e, ← List.append_assoc, swps_snoc] at hat
  refine CallF.fn .here (at_undo hat (by simp; omega)) ?_
  rintro v C' ⟨rfl, h'⟩
  rw [swp_swp (by rw [swps_len, hlen]; exact hp _ (List.getElem_mem _))] at h'
  refine Bin.addN (b := 1) (by simp [lim]; omega) ?_
  refine Back.of (.refl _) ⟨m, by omega, by omega, by rw [show path.length - (m + 1) + 1 = path.length - m by omega], h'⟩ ?_
  show path.length - (((path.length - (m + 1) + 1 : Nat) : Int).toNat) < path.length - (((path.length - (m + 1) : Nat) : Int).toNat)
  omega
 ·rw [List.length_append, List.length_take] at hlt
  obtain rfl : m = k := by omega
  exact FnR.here ⟨rfl, hat⟩
end
end Go.Proofs
namespace Go.Sx
open Go
section
variable {P : Program} {g : Gh} {H : Hp}
theorem AAddr.nat {len size b o j : Nat} {kd : IntKind} {k : Value → Prop} (h1 : j < len) (h : k (.pointer (some ⟨b, o + j * size, none⟩))) : AAddr len size (.pointer (some ⟨b, o, none⟩)) (.int kd (j : Int)) k :=
 ⟨b, o, kd, (j : Int), rfl, rfl, by omega, by omega, by simpa using h⟩
theorem RunP.arrIx {o : Oper} {ρ : Operand → Value} {k : Value → Prop} {t e : TypeId} {q kd : IntKind} {n j : Nat} {x i : Operand} {l : List Int} {z : Int} (ho : o.op = .index t x i) (hx : ρ x = .agg (icells q l)) (hi : ρ i = .int kd (j : Int))
  (ht : P.underlying t = some (.array n e)) (hu : P.underlying e = some (.int q)) (hz : sizeD P e = some 1) (hj : j < n) (hl : l[j]? = some z) (hk : k (.int q z)) : RunP P g o ρ H k := by
 obtain ⟨inf, hinf, hs⟩ := sizeD_spec hz
 refine ⟨_, fun w _ => ?_, hk⟩
 have hp := part_int (P := P) hu hl w
 have hcond : (0 : Int) ≤ (j : Int) ∧ (j : Int) < (n : Int) := by omega
 simp only [execOp, ho, Instr.index, hx, hi, asIntOf, Sem.run_bind, Sem.run_pure, Result.andThen_ok, run_underlying ht, run_sizeOf hinf, hs, if_pos hcond, Int.toNat_natCast, Nat.mul_one, hp]
end
end Go.Sx
namespace Bdd
open Tab
def clr (m v : Nat) : Nat := if m.testBit v then m ^^^ 2 ^ v else m
def rest (m : Nat) (ord : List Nat) : Nat → Nat
 | 0 => m
 | k + 1 => clr (rest m ord k) (ord.getD k 0)
section
variable {n m o : Nat} {ord : List Nat} {F : Fn → Prop}
theorem getD_inj (hn : ord.Nodup) {i j : Nat} (hi : i < ord.length) (hj : j < ord.length) (e : ord.getD i 0 = ord.getD j 0) : i = j := by
 rw [List.getD_eq_getElem?_getD, List.getD_eq_getElem?_getD, List.getElem?_eq_getElem hi, List.getElem?_eq_getElem hj] at e
 exact (List.getElem_inj hn).1 e
theorem swp_perm {l : Nat} (hl : l + 1 < ord.length) : (swp ord l).Perm ord := by
 unfold swp
 have e1 : ord = ord.take l ++ ord.getD l 0 :: ord.getD (l + 1) 0 :: ord.drop (l + 2) := by
  conv => lhs; rw [← List.take_append_drop l ord]
  congr 1
  rw [List.drop_eq_getElem_cons (by omega), List.drop_eq_getElem_cons (by omega)]
  simp [List.getD, List.getElem?_eq_getElem (show l < ord.length by omega), List.getElem?_eq_getElem hl]
 have ht : (ord.take l).length = l := by simp; omega
 have e2 : (ord.set l (ord.getD (l + 1) 0)).set (l + 1) (ord.getD l 0) = ord.take l ++ ord.getD (l + 1) 0 :: ord.getD l 0 :: ord.drop (l + 2) := by
  generalize hx : ord.getD l 0 = x at *
  generalize hy : ord.getD (l + 1) 0 = y at *
  conv => lhs; rw [e1]
  rw [List.set_append_right _ _ (by omega), ht, Nat.sub_self, List.set_cons_zero, List.set_append_right _ _ (by omega), ht, Nat.add_sub_cancel_left, List.set_cons_succ, List.set_cons_zero]
 rw [e2]
 conv => rhs; rw [e1]
 exact List.Perm.append_left _ (List.Perm.swap _ _ _)
theorem swps_perm : ∀ {path : List Nat} {ord : List Nat}, (∀ l ∈ path, l + 1 < ord.length) → (swps ord path).Perm ord
 | [], _, _ => .refl _
 | l :: r, ord, h => by
  show (swps (swp ord l) r).Perm ord
  have h1 := h l (by simp)
  exact (swps_perm fun x hx => by rw [swp_len]; exact h x (by simp [hx])).trans (swp_perm h1)
end
def flat (n s : Nat) : Rm := ⟨n, fun _ => s, fun _ _ => true⟩
end Bdd
namespace Bdd
def bub (i : Nat) : Nat → List Nat
 | 0 => []
 | j + 1 => if i ≤ j then j :: bub i j else []
theorem bub_le {i j : Nat} (h : j ≤ i) : bub i j = [] := by
 cases j with
 | zero => rfl
 | succ j => rw [bub, if_neg (by omega)]
theorem bub_succ {i j : Nat} (h : i ≤ j) : bub i (j + 1) = j :: bub i j := by rw [bub, if_pos h]
theorem bub_mem {i l : Nat} : ∀ {j}, l ∈ bub i j → i ≤ l ∧ l < j
 | 0, h => by simp [bub] at h
 | j + 1, h => by
  by_cases e : i ≤ j
  ·rw [bub_succ e] at h
   rcases List.mem_cons.1 h with rfl | h
   ·omega
   ·have := bub_mem h; omega
  ·rw [bub_le (by omega)] at h; simp at h
theorem bub_len (i : Nat) : ∀ j, (bub i j).length = j - i
 | 0 => by simp [bub]
 | j + 1 => by
  by_cases e : i ≤ j
  ·rw [bub_succ e, List.length_cons, bub_len i j]; omega
  ·rw [bub_le (by omega)]; simp; omega
theorem bub_get {i k : Nat} : ∀ {j : Nat} {a : List Nat}, i ≤ j → j < a.length → (k ≤ i → (swps a (bub i j)).getD k 0 = if k = i then a.getD j 0 else a.getD k 0)
 | 0, a, hi, hj, hk => by
  obtain rfl : i = 0 := by omega
  obtain rfl : k = 0 := by omega
  simp [bub, swps]
 | j + 1, a, hi, hj, hk => by
  by_cases e : i ≤ j
  ·rw [bub_succ e]
   show (swps (swp a j) (bub i j)).getD k 0 = _
   rw [bub_get (j := j) e (by rw [swp_len]; omega) hk, swp_get (by omega), swp_get (by omega)]
   by_cases h : k = i
   ·subst h; simp
   ·rw [if_neg h, if_neg h, if_neg (by omega), if_neg (by omega)]
  ·obtain rfl : i = j + 1 := by omega
   rw [bub_le (Nat.le_refl _)]
   show a.getD k 0 = _
   split
   ·rename_i h; rw [h]
   ·rfl
def plc (p : List Nat) (x : Nat) : Nat := p.idxOf x
def pathN (p q : List Nat) : Nat → List Nat
 | 0 => []
 | i + 1 => pathN p q i ++ bub i (plc (swps p (pathN p q i)) (q.getD i 0))
def path (p q : List Nat) : List Nat := pathN p q q.length
theorem plc_lt {p : List Nat} {x : Nat} (h : x ∈ p) : plc p x < p.length := List.idxOf_lt_length_iff.2 h
theorem plc_get {p : List Nat} {x : Nat} (h : x ∈ p) : p.getD (plc p x) 0 = x := by
 have h1 := plc_lt h
 rw [List.getD_eq_getElem?_getD, List.getElem?_eq_getElem h1]
 show p[p.idxOf x] = x
 exact List.getElem_idxOf h1
section
variable {p q : List Nat}
theorem pathN_spec (hq : q.Nodup) (hp : p.Perm q) : ∀ i, i ≤ q.length → (∀ l ∈ pathN p q i, l + 1 < p.length) ∧ (∀ k, k < i → (swps p (pathN p q i)).getD k 0 = q.getD k 0) ∧ (i < q.length → i ≤ plc (swps p (pathN p q i)) (q.getD i 0) ∧ plc (swps p (pathN p q i)) (q.getD i 0) < p.length)
 | i, hi => by
  have hlen := hp.length_eq
  have base : (∀ l ∈ pathN p q i, l + 1 < p.length) ∧ (∀ k, k < i → (swps p (pathN p q i)).getD k 0 = q.getD k 0) := by
   cases i with
   | zero => exact ⟨fun l hl => by simp [pathN] at hl, fun k hk => absurd hk (Nat.not_lt_zero _)⟩
   | succ i =>
    obtain ⟨h1, h2, h3⟩ := pathN_spec hq hp i (by omega)
    obtain ⟨h4, h5⟩ := h3 (by omega)
    have hm : q.getD i 0 ∈ swps p (pathN p q i) := by
     have : q.getD i 0 ∈ q := by rw [List.getD_eq_getElem?_getD, List.getElem?_eq_getElem (show i < q.length by omega)]; exact List.getElem_mem _
     exact ((swps_perm h1).trans hp).mem_iff.2 this
    refine ⟨fun l hl => ?_, fun k hk => ?_⟩
    ·rcases List.mem_append.1 hl with hl | hl
     ·exact h1 l hl
     ·have := bub_mem hl; omega
    ·rw [pathN, swps_app, bub_get h4 (by rw [swps_len]; exact h5) (by omega)]
     split
     ·rename_i e; subst e; exact plc_get hm
     ·exact h2 k (by omega)
  refine ⟨base.1, base.2, fun hlt => ?_⟩
  have hm : q.getD i 0 ∈ swps p (pathN p q i) := by
   have : q.getD i 0 ∈ q := by rw [List.getD_eq_getElem?_getD, List.getElem?_eq_getElem hlt]; exact List.getElem_mem _
   exact ((swps_perm base.1).trans hp).mem_iff.2 this
  have h5 := plc_lt hm
  rw [swps_len] at h5
  refine ⟨?_, h5⟩
  refine Classical.byContradiction fun hlt2 => ?_
  have := base.2 _ (Nat.lt_of_not_le hlt2)
  rw [plc_get hm] at this
  have := getD_inj hq hlt (by omega) this
  omega
theorem path_ok (hq : q.Nodup) (hp : p.Perm q) : swps p (path p q) = q ∧ ∀ l ∈ path p q, l + 1 < p.length := by
 obtain ⟨h1, h2, _⟩ := pathN_spec hq hp q.length (Nat.le_refl _)
 refine ⟨ext_getD (by rw [swps_len]; exact hp.length_eq) fun i hi => h2 i ?_, h1⟩
 rw [swps_len, hp.length_eq] at hi; exact hi
theorem pathN_len (hq : q.Nodup) (hp : p.Perm q) : ∀ i, i ≤ q.length → (pathN p q i).length ≤ i * p.length
 | 0, _ => by simp [pathN]
 | i + 1, hi => by
  have := pathN_len hq hp i (by omega)
  obtain ⟨_, _, h3⟩ := pathN_spec hq hp i (by omega)
  rw [pathN, List.length_append, bub_len, Nat.succ_mul]
  have := (h3 (by omega)).2
  omega
end
end Bdd
namespace Bdd
open Tab
section
variable {n l : Nat} {ord : List Nat} {F G : Fn → Prop} {f c : Fn}
theorem fs_or : ∀ l g, fs ord (fun g => F g ∨ G g) l g ↔ fs ord F l g ∨ fs ord G l g
 | 0, g => Iff.rfl
 | l + 1, g => by
  constructor
  ·rintro ⟨f, hf, b, rfl⟩
   rcases (fs_or l f).1 hf with h | h
   ·exact .inl ⟨f, h, b, rfl⟩
   ·exact .inr ⟨f, h, b, rfl⟩
  ·rintro (⟨f, hf, b, rfl⟩ | ⟨f, hf, b, rfl⟩)
   ·exact ⟨f, (fs_or l f).2 (.inl hf), b, rfl⟩
   ·exact ⟨f, (fs_or l f).2 (.inr hf), b, rfl⟩
theorem nodes_or (g : Fn) : NodeSet n ord (fun g => F g ∨ G g) g ↔ NodeSet n ord F g ∨ NodeSet n ord G g := by
 constructor
 ·rintro ⟨l, hl, hf, hh⟩
  rcases (fs_or l g).1 hf with h | h
  ·exact .inl ⟨l, hl, h, hh⟩
  ·exact .inr ⟨l, hl, h, hh⟩
 ·rintro (⟨l, hl, hf, hh⟩ | ⟨l, hl, hf, hh⟩)
  ·exact ⟨l, hl, (fs_or l g).2 (.inl hf), hh⟩
  ·exact ⟨l, hl, (fs_or l g).2 (.inr hf), hh⟩
theorem not_hangs_set {v : Nat} (h : ¬ hangs f v) (x : Nat) (b : Bool) : f (setb x v b) = f x := by
 have h0 : f (setb x v false) = f (setb x v true) := Classical.byContradiction fun hne => h ⟨x, hne⟩
 have h1 := setb_self x v
 conv => rhs; rw [← h1]
 cases b <;> cases x.testBit v <;> simp [h0]
theorem fs_self (hi : ∀ j, j < l → ¬ hangs f (ord.getD j 0)) : ∀ k, k ≤ l → fs ord (fun g => g = f) k f
 | 0, _ => rfl
 | k + 1, hk => ⟨f, fs_self hi k (by omega), false, funext fun x => (not_hangs_set (hi k (by omega)) x false).symm⟩
theorem fs_only (hi : ∀ j, j < l → ¬ hangs f (ord.getD j 0)) : ∀ k, k ≤ l → ∀ g, fs ord (fun g => g = f) k g → g = f
 | 0, _, g, h => h
 | k + 1, hk, g, h => by
  obtain ⟨f', hf, b, rfl⟩ := h
  obtain rfl := fs_only hi k (by omega) f' hf
  exact funext fun x => not_hangs_set (hi k (by omega)) x b
theorem sub_child (hi : ∀ j, j < l → ¬ hangs f (ord.getD j 0)) {b : Bool} (hc : c = fun x => f (setb x (ord.getD l 0) b)) :
  (∀ j, j < l + 1 → ¬ hangs c (ord.getD j 0)) ∧ ∀ g, NodeSet n ord (fun g => g = c) g → NodeSet n ord (fun g => g = f) g := by
 have h1 : fs ord (fun g => g = f) (l + 1) c := ⟨f, fs_self hi l (Nat.le_refl _), b, hc⟩
 have h2 : ∀ j, j < l + 1 → ¬ hangs c (ord.getD j 0) := fun j hj => fs_indep (l + 1) c h1 j hj
 refine ⟨h2, ?_⟩
 rintro g ⟨m, hm, hf, hh⟩
 by_cases e : m < l + 1
 ·obtain rfl := fs_only h2 m (by omega) g hf
  exact absurd hh (h2 m e)
 ·have key : ∀ d g, fs ord (fun g => g = c) (l + 1 + d) g → fs ord (fun g => g = f) (l + 1 + d) g := fun d => by
   induction d with
   | zero => intro g hg; obtain rfl := fs_only h2 (l + 1) (Nat.le_refl _) g hg; exact h1
   | succ d ih => rintro g ⟨f', hf', b', rfl⟩; exact ⟨f', ih f' hf', b', rfl⟩
  obtain ⟨d, rfl⟩ : ∃ d, m = l + 1 + d := ⟨m - (l + 1), by omega⟩
  exact ⟨_, hm, key d g hf, hh⟩
theorem self_node (hi : ∀ j, j < l → ¬ hangs f (ord.getD j 0)) (hl : l < n) (hh : hangs f (ord.getD l 0)) : NodeSet n ord (fun g => g = f) f := ⟨l, hl, fs_self hi l (Nat.le_refl _), hh⟩
end
section
variable {K : Kd} {S : Nat → Fn} {lev : Nat → Nat} {ord : List Nat}
theorem Ok.below (h : Ok K S lev) (ho : Ord K.n lev ord) {r l : Nat} (hr : live K.N r) (hl : l ≤ K.n) (hi : ∀ j, j < l → ¬ hangs (S r) (ord.getD j 0)) : l ≤ dep K.n lev K.N r := by
 cases e : K.N r with
 | none => rw [dep_none e]; exact hl
 | some d =>
  rw [dep_some e]
  refine Classical.byContradiction fun hlt => ?_
  have hlt' : lev d.v < l := Nat.lt_of_not_le hlt
  have := hi _ hlt'
  rw [ho.of h.lv (h.mid.var e)] at this
  exact this (node_hangs h.wf h.lv h.mid.int e)
theorem Ok.roomFor (h : Ok K S lev) (ho : Ord K.n lev ord) {U : Fn → Prop} {k : Nat} (hk : Cnt U k) (hfit : k + 2 ≤ K.cap) (hU : ∀ g, NodeSet K.n ord (K.held S) g → U g) {d : Nd}
  (hlo : live K.N d.lo) (hhi : live K.N d.hi) (hne : d.lo ≠ d.hi) (hv : d.v < K.n) (hlt : lev d.v < dep K.n lev K.N d.lo ∧ lev d.v < dep K.n lev K.N d.hi) (hg : U (ite S d)) (hT : K.T d = none) : K.used < K.cap := by
 have hs := h.size ho
 have hu := h.mid.room
 obtain ⟨l1, a1, a2, a3⟩ := hs
 have hnot : ite S d ∉ l1 := fun hm => by
  obtain ⟨r, e, hr, he⟩ := (nodeSet_iff h.wf h.lv ho h.mid.int (fun r hr => .inr (h.mid.held r hr)) h.reach (ite S d)).1 ((a3 _).2 hm)
  have hTd : ¬ K.N r = some d := fun hN => by
   have := (h.mid.tab d r).2 ⟨hN, fun x => x⟩
   rw [hT] at this; cases this
  apply hTd
  have hsr : S r = ite S d := he.symm
  have hvar : e.v = d.v := by
   have e1 := h.lv.lt e.v (h.mid.var hr)
   have e2 := h.lv.lt d.v hv
   rcases Nat.lt_trichotomy (lev e.v) (lev d.v) with hh | hh | hh
   ·exfalso
    obtain ⟨z, hz⟩ := node_hangs h.wf h.lv h.mid.int hr
    rw [hsr] at hz
    apply hz
    unfold ite
    have i1 := h.wf.indep' h.lv h.mid.int hlo (h.mid.var hr) (by omega)
    have i2 := h.wf.indep' h.lv h.mid.int hhi (h.mid.var hr) (by omega)
    have hev : d.v ≠ e.v := fun hh' => by rw [hh'] at hh; omega
    simp only [testBit_setb, if_neg hev, i1, i2]
   ·exact h.lv.inj _ _ (h.mid.var hr) hv hh
   ·exfalso
    have hx := h.wf.indep' h.lv h.mid.int (r := r) (.inr ⟨e, hr⟩) hv (by rw [dep_some hr]; exact hh)
    apply hne
    refine h.wf.same h.lv h.mid.int hlo hhi fun x => ?_
    have i1 := h.wf.indep' h.lv h.mid.int hlo hv hlt.1
    have i2 := h.wf.indep' h.lv h.mid.int hhi hv hlt.2
    have q1 := hx x false
    have q2 := hx x true
    rw [hsr] at q1 q2
    have q3 := q1.trans q2.symm
    unfold ite at q3
    simp only [testBit_setb, if_true, i1, i2, Bool.false_eq_true, if_false] at q3
    exact q3
  have hch : ∀ (b : Bool) x, S (if b then e.hi else e.lo) x = S (if b then d.hi else d.lo) x := fun b x => by
   rw [← h.wf.child h.lv h.mid.int hr x b, hsr, hvar]
   have i1 := h.wf.indep' h.lv h.mid.int hlo hv hlt.1
   have i2 := h.wf.indep' h.lv h.mid.int hhi hv hlt.2
   unfold ite
   rw [testBit_setb, if_pos rfl, i1, i2]
   cases b <;> rfl
  have e1 : e.lo = d.lo := h.wf.same h.lv h.mid.int (h.mid.lo hr) hlo fun x => hch false x
  have e2 : e.hi = d.hi := h.wf.same h.lv h.mid.int (h.mid.hi hr) hhi fun x => hch true x
  have hed : ∀ a b : Nd, a.v = b.v → a.lo = b.lo → a.hi = b.hi → a = b := fun a b h1 h2 h3 => by
   cases a; cases b; cases h1; cases h2; cases h3; rfl
  rw [hr, hed e d hvar e1 e2]
 obtain ⟨l2, b1, b2, b3⟩ := hk
 have := length_le_of_sub (l := ite S d :: l1) (l' := l2) (List.nodup_cons.2 ⟨hnot, a1⟩) fun g hg' => by
  rcases List.mem_cons.1 hg' with rfl | hg'
  ·exact (b3 _).1 hg
  ·exact (b3 _).1 (hU g ((a3 g).2 hg'))
 rw [List.length_cons] at this
 omega
end
end Bdd
namespace Bdd
open Tab
def cofr (N : Sto) (v : Nat) (b : Bool) (r : Nat) : Nat := match N r with
 | some d => if d.v = v then (if b then d.hi else d.lo) else r
 | none => r
def cofq (N : Sto) (v : Nat) (b : Bool) (q : List Nat) : List Nat := q.map (cofr N v b)
structure TopV (n : Nat) (lev : Nat → Nat) (N : Sto) (q : List Nat) (v : Nat) : Prop where
 lt : v < n
 ex : ∃ r ∈ q, ∃ d, N r = some d ∧ d.v = v
 le : ∀ r ∈ q, lev v ≤ dep n lev N r
inductive Tree (n : Nat) (lev : Nat → Nat) (N : Sto) : List Nat → Nat → Prop
 | leaf {q : List Nat} (h : ∀ r ∈ q, N r = none) : Tree n lev N q 0
 | node {q : List Nat} {v a b : Nat} (h : TopV n lev N q v) (ha : Tree n lev N (cofq N v false q) a) (hb : Tree n lev N (cofq N v true q) b) : Tree n lev N q (a + b + 1)
def evq (t : Bool → Bool → Bool → Bool) (S : Nat → Fn) (q : List Nat) : Fn := fun x => t (S (q.getD 0 0) x) (S (q.getD 1 0) x) (S (q.getD 2 0) x)
section
variable {n : Nat} {lev : Nat → Nat} {N : Sto} {S : Nat → Fn} {q : List Nat} {v : Nat}
theorem TopV.uniq (hl : Lev n lev) {u : Nat} (h : TopV n lev N q v) (h' : TopV n lev N q u) : v = u := by
 obtain ⟨r, hr, d, hd, rfl⟩ := h.ex
 obtain ⟨s, hs, e, he, rfl⟩ := h'.ex
 have a := h.le s hs
 have b := h'.le r hr
 rw [dep_some he] at a
 rw [dep_some hd] at b
 exact hl.inj _ _ h.lt h'.lt (by omega)
theorem cofr_ok (h : WF n lev N) (hl : Lev n lev) (hi : Interp N S) {r : Nat} (hr : live N r) (hv : v < n) (hle : lev v ≤ dep n lev N r) (b : Bool) :
  (∀ x, S (cofr N v b r) x = S r (setb x v b)) ∧ live N (cofr N v b r) ∧ lev v + 1 ≤ dep n lev N (cofr N v b r) := by
 have hlt := hl.lt v hv
 unfold cofr
 cases e : N r with
 | none =>
  simp only
  refine ⟨fun x => ?_, hr, by rw [dep_none e]; omega⟩
  exact (h.indep' hl hi hr hv (by rw [dep_none e]; exact hlt) x b).symm
 | some d =>
  simp only
  rw [dep_some e] at hle
  by_cases ev : d.v = v
  ·rw [if_pos ev]
   subst ev
   refine ⟨fun x => (h.child hl hi e x b).symm, ?_, ?_⟩
   ·cases b
    ·exact (h.lo e).1
    ·exact (h.hi e).1
   ·cases b
    ·exact (h.lo e).2
    ·exact (h.hi e).2
  ·rw [if_neg ev]
   have hne : lev v ≠ lev d.v := fun e2 => ev (hl.inj _ _ (h.var e) hv e2.symm)
   refine ⟨fun x => (h.indep' hl hi hr hv (by rw [dep_some e]; omega) x b).symm, hr, by rw [dep_some e]; omega⟩
theorem cofq_len (b : Bool) : (cofq N v b q).length = q.length := by simp [cofq]
theorem cofq_get {b : Bool} {i : Nat} (hi : i < q.length) : (cofq N v b q).getD i 0 = cofr N v b (q.getD i 0) := by
 simp [cofq, List.getD, List.getElem?_eq_getElem hi]
theorem cofq_ok (h : WF n lev N) (hl : Lev n lev) (hi : Interp N S) (hq : ∀ r ∈ q, live N r) (ht : TopV n lev N q v) (b : Bool) :
  (∀ r ∈ cofq N v b q, live N r) ∧ (∀ r ∈ cofq N v b q, lev v + 1 ≤ dep n lev N r) := by
 constructor
 ·intro r hr
  obtain ⟨s, hs, rfl⟩ := List.mem_map.1 hr
  exact (cofr_ok h hl hi (hq s hs) ht.lt (ht.le s hs) b).2.1
 ·intro r hr
  obtain ⟨s, hs, rfl⟩ := List.mem_map.1 hr
  exact (cofr_ok h hl hi (hq s hs) ht.lt (ht.le s hs) b).2.2
theorem evq_cof (h : WF n lev N) (hl : Lev n lev) (hi : Interp N S) (h3 : q.length = 3) (hq : ∀ r ∈ q, live N r) (ht : TopV n lev N q v) (t : Bool → Bool → Bool → Bool) (b : Bool) : evq t S (cofq N v b q) = fun x => evq t S q (setb x v b) := by
 funext x
 have key : ∀ i, i < 3 → S ((cofq N v b q).getD i 0) x = S (q.getD i 0) (setb x v b) := fun i hi3 => by
  have hi' : i < q.length := by omega
  rw [cofq_get hi']
  have hm : q.getD i 0 ∈ q := by rw [List.getD_eq_getElem?_getD, List.getElem?_eq_getElem hi']; exact List.getElem_mem _
  exact (cofr_ok h hl hi (hq _ hm) ht.lt (ht.le _ hm) b).1 x
 unfold evq
 rw [key 0 (by omega), key 1 (by omega), key 2 (by omega)]
theorem evq_indep (h : WF n lev N) (hl : Lev n lev) (hi : Interp N S) {ord : List Nat} (ho : Ord n lev ord) (h3 : q.length = 3) (hq : ∀ r ∈ q, live N r) {l : Nat} (hln : l ≤ n) (hle : ∀ r ∈ q, l ≤ dep n lev N r) (t : Bool → Bool → Bool → Bool) : ∀ j, j < l → ¬ hangs (evq t S q) (ord.getD j 0) := by
 rintro j hj ⟨x, hx⟩
 apply hx
 obtain ⟨o1, o2⟩ := ho.at' j (by omega)
 have key : ∀ i, i < 3 → ∀ b, S (q.getD i 0) (setb x (ord.getD j 0) b) = S (q.getD i 0) x := fun i hi3 b => by
  have hi' : i < q.length := by omega
  have hm : q.getD i 0 ∈ q := by rw [List.getD_eq_getElem?_getD, List.getElem?_eq_getElem hi']; exact List.getElem_mem _
  exact h.indep' hl hi (hq _ hm) o1 (by rw [o2]; exact Nat.lt_of_lt_of_le hj (hle _ hm)) x b
 unfold evq
 simp only [key 0 (by omega), key 1 (by omega), key 2 (by omega)]
theorem evq_const (hi : Interp N S) (h3 : q.length = 3) (hq : ∀ r ∈ q, r < 2) (t : Bool → Bool → Bool → Bool) (x : Nat) : evq t S q x = t (decide (q.getD 0 0 = 1)) (decide (q.getD 1 0 = 1)) (decide (q.getD 2 0 = 1)) := by
 have key : ∀ i, i < 3 → S (q.getD i 0) x = decide (q.getD i 0 = 1) := fun i hi3 => by
  have hi' : i < q.length := by omega
  have hm : q.getD i 0 ∈ q := by rw [List.getD_eq_getElem?_getD, List.getElem?_eq_getElem hi']; exact List.getElem_mem _
  have := hq _ hm
  have h2 : q.getD i 0 = 0 ∨ q.getD i 0 = 1 := by omega
  rcases h2 with e | e <;> rw [e]
  ·rw [hi.zero]; rfl
  ·rw [hi.one]; rfl
 unfold evq
 rw [key 0 (by omega), key 1 (by omega), key 2 (by omega)]
theorem top_ex (h : WF n lev N) : ∀ {q : List Nat}, (∃ r ∈ q, ∃ d, N r = some d) → (hl : Lev n lev) → ∃ v, TopV n lev N q v
 | [], he, _ => by obtain ⟨r, hr, _⟩ := he; cases hr
 | s :: q, he, hl => by
  by_cases hq : ∃ r ∈ q, ∃ d, N r = some d
  ·obtain ⟨v, hv⟩ := top_ex h hq hl
   cases es : N s with
   | none =>
    refine ⟨v, hv.lt, ?_, fun r hr => ?_⟩
    ·obtain ⟨r, hr, x⟩ := hv.ex; exact ⟨r, by simp [hr], x⟩
    ·rcases List.mem_cons.1 hr with rfl | hr
     ·rw [dep_none es]; exact Nat.le_of_lt (hl.lt v hv.lt)
     ·exact hv.le r hr
   | some d =>
    by_cases hlt : lev d.v ≤ lev v
    ·refine ⟨d.v, h.var es, ⟨s, by simp, d, es, rfl⟩, fun r hr => ?_⟩
     rcases List.mem_cons.1 hr with rfl | hr
     ·rw [dep_some es]; exact Nat.le_refl _
     ·exact Nat.le_trans hlt (hv.le r hr)
    ·refine ⟨v, hv.lt, ?_, fun r hr => ?_⟩
     ·obtain ⟨r, hr, x⟩ := hv.ex; exact ⟨r, by simp [hr], x⟩
     ·rcases List.mem_cons.1 hr with rfl | hr
      ·rw [dep_some es]; omega
      ·exact hv.le r hr
  ·obtain ⟨r, hr, d, hd⟩ := he
   rcases List.mem_cons.1 hr with rfl | hr
   ·refine ⟨d.v, h.var hd, ⟨r, by simp, d, hd, rfl⟩, fun s hs => ?_⟩
    rcases List.mem_cons.1 hs with rfl | hs
    ·rw [dep_some hd]; exact Nat.le_refl _
    ·have : N s = none := by
      cases e : N s with
      | none => rfl
      | some d' => exact absurd ⟨s, hs, d', e⟩ hq
     rw [dep_none this]; exact Nat.le_of_lt (hl.lt _ (h.var hd))
   ·exact absurd ⟨r, hr, d, hd⟩ hq
theorem tree_ex (h : WF n lev N) (hl : Lev n lev) (hi : Interp N S) : ∀ (k l : Nat) (q : List Nat), n - l ≤ k → l ≤ n → (∀ r ∈ q, live N r) → (∀ r ∈ q, l ≤ dep n lev N r) → ∃ c, Tree n lev N q c ∧ c + 1 ≤ 2 ^ (n - l) := by
 intro k
 induction k with
 | zero =>
  intro l q hk hln hq hd
  refine ⟨0, .leaf fun r hr => ?_, Nat.one_le_two_pow⟩
  cases e : N r with
  | none => rfl
  | some d => have := hd r hr; rw [dep_some e] at this; have := hl.lt _ (h.var e); omega
 | succ k ih =>
  intro l q hk hln hq hd
  by_cases he : ∃ r ∈ q, ∃ d, N r = some d
  ·obtain ⟨v, hv⟩ := top_ex h he hl
   have hlv := hl.lt v hv.lt
   have hll : l ≤ lev v := by
    obtain ⟨r, hr, d, hd', rfl⟩ := hv.ex
    have := hd r hr
    rwa [dep_some hd'] at this
   obtain ⟨f1, f2⟩ := cofq_ok (S := S) h hl hi hq hv false
   obtain ⟨t1, t2⟩ := cofq_ok (S := S) h hl hi hq hv true
   obtain ⟨a, ha, ha2⟩ := ih (lev v + 1) _ (by omega) hlv f1 f2
   obtain ⟨b, hb, hb2⟩ := ih (lev v + 1) _ (by omega) hlv t1 t2
   refine ⟨a + b + 1, .node hv ha hb, ?_⟩
   have e1 : 2 ^ (n - lev v) = 2 * 2 ^ (n - (lev v + 1)) := by
    rw [show n - lev v = (n - (lev v + 1)) + 1 by omega, Nat.pow_succ, Nat.mul_comm]
   have e2 : 2 ^ (n - lev v) ≤ 2 ^ (n - l) := Nat.pow_le_pow_right (by decide) (by omega)
   omega
  ·refine ⟨0, .leaf fun r hr => ?_, Nat.one_le_two_pow⟩
   cases e : N r with
   | none => rfl
   | some d => exact absurd ⟨r, hr, d, e⟩ he
def mixq (N : Sto) (v : Nat) (b : Bool) (q : List Nat) (i : Nat) : List Nat := (cofq N v b q).take i ++ q.drop i
theorem mixq_len {b : Bool} {i : Nat} (hi : i ≤ q.length) : (mixq N v b q i).length = q.length := by simp [mixq, cofq]; omega
theorem mixq_zero (b : Bool) : mixq N v b q 0 = q := by simp [mixq]
theorem mixq_all (b : Bool) : mixq N v b q q.length = cofq N v b q := by
 unfold mixq
 rw [List.take_of_length_le (by rw [cofq_len]; exact Nat.le_refl _), List.drop_length, List.append_nil]
theorem mixq_step {b : Bool} {i r : Nat} (hr : q[i]? = some r) : (mixq N v b q i).set i (cofr N v b r) = mixq N v b q (i + 1) := by
 have hi := (List.getElem?_eq_some_iff.1 hr).1
 have he := (List.getElem?_eq_some_iff.1 hr).2
 have hl : ((cofq N v b q).take i).length = i := by simp [cofq]; omega
 have hc : (cofq N v b q)[i]? = some (cofr N v b r) := by simp [cofq, hr]
 unfold mixq
 rw [List.set_append_right _ _ (by omega), hl, Nat.sub_self, List.drop_eq_getElem_cons hi, List.set_cons_zero, List.take_add_one, hc, List.append_assoc]
 rfl
theorem mixq_stay {b : Bool} {i r : Nat} (hr : q[i]? = some r) (h : cofr N v b r = r) : mixq N v b q (i + 1) = mixq N v b q i := by
 rw [← mixq_step hr, h]
 have hi := (List.getElem?_eq_some_iff.1 hr).1
 have he := (List.getElem?_eq_some_iff.1 hr).2
 have hl : ((cofq N v b q).take i).length = i := by simp [cofq]; omega
 unfold mixq
 rw [List.set_append_right _ _ (by omega), hl, Nat.sub_self, List.drop_eq_getElem_cons hi, List.set_cons_zero, he]
end
end Bdd
set_option maxRecDepth 100000
namespace Go.Proofs
open Go Go.Sx
open Bdd
noncomputable instance {K : Kd} {S : Nat → Bdd.Fn} {ord : List Nat} {l : Nat} : Decidable (kfit K S ord l) := Nat.decLe _ _
noncomputable def rm (K : Kd) (S : Nat → Bdd.Fn) : Rm := ⟨K.n, ksz K S, fun ord l => decide (kfit K S ord l)⟩
theorem rm_fit {K : Kd} {S : Nat → Bdd.Fn} {ord : List Nat} {l : Nat} : (rm K S).fit ord l = true ↔ kfit K S ord l := by
 show decide (kfit K S ord l) = true ↔ _
 exact decide_eq_true_iff
end Go.Proofs
set_option maxRecDepth 100000
namespace Go.Proofs
open Go Go.Sx
open Bdd
def rep (b a s : Nat) : Value := .agg #[.int .i64 (b : Int), .int .i64 (a : Int), .int .i64 (s : Int), .bool false]
end Go.Proofs
namespace Bdd
open Tab
section
variable {n v : Nat} {bs : List Bool} {lo hi ws : List Nat}
theorem fnT_flat (h : ∀ v, v < n → ¬ hangs (fnT n ws) v) (x : Nat) : fnT n ws x = fnT n ws 0 := by
 have key : ∀ k, k ≤ n → fnT n ws (x % 2 ^ k) = fnT n ws 0 := fun k => by
  induction k with
  | zero => intro _; rw [show x % 2 ^ 0 = 0 from Nat.mod_one x]
  | succ k ih =>
   intro hk
   rw [← ih (by omega)]
   have e : x % 2 ^ (k + 1) = setb (x % 2 ^ k) k (x.testBit k) := by
    apply Nat.eq_of_testBit_eq; intro i
    rw [testBit_setb, Nat.testBit_mod_two_pow, Nat.testBit_mod_two_pow]
    by_cases e : i = k
    ·subst e; simp
    ·rw [if_neg e]
     congr 1
     exact decide_eq_decide.2 (by omega)
   rw [e, not_hangs_set (h k (by omega))]
 have := key n (Nat.le_refl _)
 rw [← this]
 unfold fnT
 rw [Nat.mod_mod]
end
end Bdd
set_option maxRecDepth 100000
namespace Go.Proofs
open Go Go.Sx
open Bdd
theorem iw_getD {ws : List Nat} {i : Nat} (h : i < ws.length) : (iw ws)[i]? = some ((ws.getD i 0 : Nat) : Int) := by
 rw [iw_get (w := ws.getD i 0)]
 rw [List.getD_eq_getElem?_getD, List.getElem?_eq_getElem h]; rfl
def isPm (n : Nat) (p : List Int) : Prop := p.length = n ∧ ∀ v : Nat, v < n → p.count (v : Int) = 1
instance (n : Nat) (p : List Int) : Decidable (isPm n p) := by unfold isPm; infer_instance
theorem idx_take {p : List Int} {x : Int} {i : Nat} (h : x ∉ p.take i) (hi : i < p.length) (he : p[i] = x) : p.idxOf x = i := by
 have e : p = p.take i ++ p[i] :: p.drop (i + 1) := by
  conv => lhs; rw [← List.take_append_drop i p]
  rw [List.drop_eq_getElem_cons hi]
 conv => lhs; rw [e]
 rw [List.idxOf_append, if_neg h, he, List.idxOf_cons_self, List.length_take]; omega
def allIn (p : List Int) : Prop := ∀ v : Nat, v < p.length → (v : Int) ∈ p
theorem allIn_iw {p : List Nat} {n : Nat} (hp : p.Perm (List.range n)) : allIn (iw p) := fun v hv => by
 rw [iw_length, hp.length_eq, List.length_range] at hv
 exact List.mem_map.2 ⟨v, hp.mem_iff.2 (List.mem_range.2 hv), rfl⟩
theorem mem_iw {q : List Nat} {x : Nat} : (x : Int) ∈ iw q ↔ x ∈ q := by
 unfold iw
 rw [List.mem_map]
 exact ⟨fun ⟨y, hy, e⟩ => by rw [← Int.ofNat.inj e]; exact hy, fun h => ⟨x, h, rfl⟩⟩
theorem idx_iw (q : List Nat) (x : Nat) : (iw q).idxOf (x : Int) = q.idxOf x := by
 induction q with
 | nil => rfl
 | cons y q ih =>
  show (((y : Nat) : Int) :: iw q).idxOf (x : Int) = _
  rw [List.idxOf_cons, List.idxOf_cons, ih]
  have : (((y : Nat) : Int) == (x : Int)) = (y == x) := by
   rw [Bool.eq_iff_iff]; simp [Int.natCast_inj]
  rw [this]
end Go.Proofs
set_option maxRecDepth 100000
namespace Go.Proofs
open Go Go.Sx
open Bdd
section
variable {n : Nat} {ord : List Nat} {L : Tab.Fs}
theorem cur_len : ∀ k, (cur n ord L k).length ≤ 2 ^ k * L.length
 | 0 => by rw [cur, Nat.pow_zero, Nat.one_mul]; exact unlike_le L
 | k + 1 => by
  have h1 := given_le n (ord.getD k 0) (cur n ord L k)
  have h2 := cur_len k
  rw [cur, Nat.pow_succ, Nat.mul_comm (2 ^ k) 2, Nat.mul_assoc]
  omega
end
end Go.Proofs
set_option maxRecDepth 100000
namespace Go.Proofs
open Go Go.Sx
open Bdd
theorem fsMono {ord : List Nat} {F G : Bdd.Fn → Prop} (h : ∀ g, F g → G g) : ∀ l g, fs ord F l g → fs ord G l g
 | 0, g, hg => h g hg
 | l + 1, g, ⟨f, hf, b, e⟩ => ⟨f, fsMono h l f hf, b, e⟩
theorem nodesMono {n : Nat} {ord : List Nat} {F G : Bdd.Fn → Prop} (h : ∀ g, F g → G g) {g : Bdd.Fn} (hg : NodeSet n ord F g) : NodeSet n ord G g := let ⟨l, a, b, c⟩ := hg; ⟨l, a, fsMono h l g b, c⟩
structure GrowR (K : Kd) (S : Nat → Bdd.Fn) (K' : Kd) (S' : Nat → Bdd.Fn) (f : Bdd.Fn) (r : Nat) : Prop where
 n : K'.n = K.n
 cap : K'.cap = K.cap
 N : ∀ s d, K.N s = some d → K'.N s = some d
 fn : ∀ s, live K.N s → S' s = S s
 live : live K'.N r
 is : S' r = f
 hold : ∀ s, K'.hold s = K.hold s + if s = r ∧ 2 ≤ r then 1 else 0
theorem live_mono {N N' : Sto} (h : ∀ s d, N s = some d → N' s = some d) {s : Nat} (hs : live N s) : live N' s := by
 rcases hs with hs | ⟨d, hd⟩
 ·exact .inl hs
 ·exact .inr ⟨d, h s d hd⟩
theorem keep_nodes {K K5 : Kd} {S S5 : Nat → Bdd.Fn} {lev : Nat → Nat} (hK : Ok K S lev) (hK5 : Ok K5 S5 lev) (hold : ∀ s, K.hold s ≠ 0 → K5.hold s ≠ 0) (h3 : ∀ s d d', K.N s = some d → K5.N s = some d' → d' = d) :
  ∀ (k s : Nat) (d : Nd), K.N s = some d → lev d.v ≤ k → K5.N s = some d := by
 intro k
 induction k with
 | zero =>
  intro s d hd hl
  have fin : live K5.N s → K5.N s = some d := fun hs => by
   rcases hs with hs | ⟨d', hd'⟩
   ·have := (hK.mid.two hd).1; omega
   ·rw [hd', h3 s d d' hd hd']
  rcases hK.reach s d hd with h | ⟨p, e, hp, he⟩
  ·exact fin (.inr (hK5.mid.held s (hold s h)))
  ·have h1 := hK.wf.lo hp
   have h2 := hK.wf.hi hp
   rcases he with rfl | rfl
   ·have := h1.2; rw [dep_some hd] at this; omega
   ·have := h2.2; rw [dep_some hd] at this; omega
 | succ k ih =>
  intro s d hd hl
  have fin : live K5.N s → K5.N s = some d := fun hs => by
   rcases hs with hs | ⟨d', hd'⟩
   ·have := (hK.mid.two hd).1; omega
   ·rw [hd', h3 s d d' hd hd']
  rcases hK.reach s d hd with h | ⟨p, e, hp, he⟩
  ·exact fin (.inr (hK5.mid.held s (hold s h)))
  ·have h1 := hK.wf.lo hp
   have h2 := hK.wf.hi hp
   rcases he with rfl | rfl
   ·have := h1.2; rw [dep_some hd] at this
    exact fin (hK5.mid.lo (ih p e hp (by omega)))
   ·have := h2.2; rw [dep_some hd] at this
    exact fin (hK5.mid.hi (ih p e hp (by omega)))
theorem GrowR.held {K K' : Kd} {S S' : Nat → Bdd.Fn} {f : Bdd.Fn} {r : Nat} (h : GrowR K S K' S' f r) (hm : ∀ s, K.hold s ≠ 0 → Bdd.live K.N s) (g : Bdd.Fn) (hg : K'.held S' g) : K.held S g ∨ g = f := by
 obtain ⟨s, hs, rfl⟩ := hg
 by_cases h0 : K.hold s = 0
 ·right
  have := h.hold s
  have hs' : K'.hold s ≠ 0 := hs
  rw [h0] at this
  by_cases e : s = r ∧ 2 ≤ r
  ·rw [e.1]; exact h.is
  ·rw [if_neg e] at this; omega
 ·exact .inl ⟨s, h0, h.fn s (hm s h0)⟩
end Go.Proofs
