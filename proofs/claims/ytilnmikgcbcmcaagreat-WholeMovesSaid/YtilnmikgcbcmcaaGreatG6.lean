import Derived.Test.YtilnmikgcbcmcaaGreatG5
import Derived.Test.YtilnmikgcbcmcaaGreatG2
import Derived.Test.YtilnmikgcbcmcaaGreatG4
import Derived.Deep.Slices
import Derived.SizedLaws
set_option linter.unusedVariables false
set_option linter.unusedSimpArgs false
set_option linter.unusedSectionVars false
set_option maxRecDepth 100000
namespace Go.Proofs
open Go Go.Sx
open Bdd
section
variable {B : Hp}
theorem getD_lt {n i : Nat} {ws : List Nat} (hf : Tab.Frm n ws) : ws.getD i 0 < 18446744073709551616 := by
 by_cases h : i < ws.length
 ·rw [List.getD_eq_getElem?_getD, List.getElem?_eq_getElem h]; exact hf.lt (List.getElem_mem h)
 ·rw [List.getD_eq_getElem?_getD, List.getElem?_eq_none (by omega)]; decide
theorem getD_get {n i : Nat} {ws : List Nat} (hf : Tab.Frm n ws) (hi : i < Tab.wN n) : ws[i]? = some (ws.getD i 0) := by
 rw [List.getD_eq_getElem?_getD, List.getElem?_eq_getElem (by rw [hf.len]; exact hi)]; rfl
theorem tnot1_ok {pa s : Value} {n i : Nat} {ws : List Nat} (ha : Go.Sx.At B pa [.int .i64 (n : Int), s]) (hw : Words B s ws) (hf : Tab.Frm n ws) (hi : i < Tab.wN n) :
  Rd Tryz.prog 173 #[.int .i64 (i : Int), pa] B (· = .int .u64 ((18446744073709551615 - ws.getD i 0 : Nat) : Int)) := by
 intro g
 refine L173_sound (R := FnR _) ?_
 unfold L173
 refine FAddr.at ha fun q hq => Ld.at hq (fun _ h => h) ?_
 refine hw.1.ld (iw_get (getD_get hf hi)) (fun _ h => h) ?_
 exact Un.xorU (getD_lt hf) (RdR.mk (.refl _) rfl)
theorem tnot_ok {v : Value} {n : Nat} {f : Bdd.Fn} (ht : TabF B v n f) : Px Tryz.prog 147 #[v] B (fun r H => ∃ t, r = .tuple #[t, .int .i64 0] ∧ TabF H t n (fun x => !f x)) := by
 obtain ⟨ws, ⟨s, rfl, hw⟩, hf, rfl⟩ := ht
 intro g
 refine L147_sound (R := FnR _) ?_
 unfold L147
 intro b1 _ b3 _
 refine LdA.whole (r := [.int .i64 (n : Int), s]) (by exact .tail _ (.head _)) rfl ?_
 refine buildOne fun bx => ?_
 refine CallF.rd .here (formone_ok (t := ⟨n, ws⟩) (by exact .head _) (hw.mono (fun _ h => by repeat (first | exact h | apply List.mem_cons_of_mem | apply List.mem_append_right)))) ?_
 rintro w rfl
 rw [decide_eq_true (show TF ⟨(n : Int), ws⟩ from ⟨by simp, by simpa using hf⟩)]
 refine Un.not (Br.no ?_)
 refine FAddr.mk (Ld.mk (v := .int .i64 (n : Int)) (by exact .tail _ (.tail _ (.head _))) rfl ?_)
 refine CallF.pre (H' := (b3, .cells #[.int .i64 0, .slice none 0 0] 55 (0, 0)) :: (b1, .cells #[.int .i64 (n : Int), s] 55 (0, 0)) :: B) .tail ?_
 refine CallF.px (.cons .here) (laid_ok hf.n16 rfl (by kernel_rfl) (F := fun i => 18446744073709551615 - ws.getD i 0) (fun i _ => by omega) (B := (b1, .cells #[.int .i64 (n : Int), s] 55 (0, 0)) :: B) fun i hi => tnot1_ok (Go.Sx.At.block (l := [.int .i64 (n : Int), s]) (by repeat (first | assumption | exact List.Mem.head _ | apply List.Mem.tail | apply List.mem_append_right))) (hw.mono (fun _ h => by repeat (first | exact h | apply List.mem_cons_of_mem | apply List.mem_append_right))) hf hi) ?_
 rintro w N ⟨s', rfl, hw'⟩
 refine St.whole (r := [.int .i64 (n : Int), s']) (by exact .head _) rfl rfl ?_ ?_
 ·have := oneCell_words hw'; simpa [Value.oneCell'] using this
 refine LdA.whole (r := [.int .i64 (n : Int), s']) (by exact .head _) rfl ?_
 refine PxR.mk (by repeat (first | exact Grow.refl _ | apply Grow.cons | apply Grow.app)) ⟨_, rfl, _, ⟨s', rfl, hw'.mono (fun _ h => by repeat (first | exact h | apply List.mem_cons_of_mem | apply List.mem_append_right))⟩, laidT_frm hf.n16, fnT_laid (fun x hx => ?_) (fun x => by rw [fnT_mod])⟩
 rw [not_bit (getD_lt hf) (Nat.mod_lt _ (by decide)), word_bit hx]
def binP (op w u : Nat) : Nat → Nat
 | 0 => 0
 | k + 1 => if op.testBit k then binP op w u k ||| ([(18446744073709551615 - w) &&& (18446744073709551615 - u), (18446744073709551615 - w) &&& u, w &&& (18446744073709551615 - u), w &&& u].getD k 0) else binP op w u k
theorem part_lt {w u k : Nat} (hw : w < 18446744073709551616) (hu : u < 18446744073709551616) : [(18446744073709551615 - w) &&& (18446744073709551615 - u), (18446744073709551615 - w) &&& u, w &&& (18446744073709551615 - u), w &&& u].getD k 0 < 18446744073709551616 := by
 have h1 : ∀ a b : Nat, a < 18446744073709551616 → a &&& b < 18446744073709551616 := fun a b h => Nat.lt_of_le_of_lt Nat.and_le_left h
 match k with
 | 0 => exact h1 _ _ (by omega)
 | 1 => exact h1 _ _ (by omega)
 | 2 => exact h1 _ _ hw
 | 3 => exact h1 _ _ hw
 | k + 4 => exact (by decide : (0 : Nat) < 18446744073709551616)
theorem binP_lt {op w u : Nat} (hw : w < 18446744073709551616) (hu : u < 18446744073709551616) : ∀ k, binP op w u k < 18446744073709551616
 | 0 => by show (0 : Nat) < 18446744073709551616; decide
 | k + 1 => by
  unfold binP
  split
  ·exact Nat.or_lt_two_pow (n := 64) (binP_lt hw hu k) (part_lt hw hu)
  ·exact binP_lt hw hu k
theorem binP_bit {op w u j : Nat} (hw : w < 18446744073709551616) (hu : u < 18446744073709551616) (hj : j < 64) : (binP op w u 4).testBit j = opB op (w.testBit j) (u.testBit j) := by
 have nw := not_bit hw hj
 have nu := not_bit hu hj
 simp only [binP, List.getD_cons_zero, List.getD_cons_succ]
 unfold opB
 cases h0 : op.testBit 0 <;> cases h1 : op.testBit 1 <;> cases h2 : op.testBit 2 <;> cases h3 : op.testBit 3 <;>
  simp only [if_true, Bool.false_eq_true, if_false, Nat.testBit_or, Nat.testBit_and, nw, nu, Nat.zero_testBit] <;>
  cases w.testBit j <;> cases u.testBit j <;> simp [h0, h1, h2, h3]
theorem tbin1_ok {p1 p2 p3 s1 s2 : Value} {n i op : Nat} {ws us : List Nat} (h1 : Go.Sx.At B p1 [.int .i64 (n : Int), s1]) (h2 : Go.Sx.At B p2 [.int .i64 (n : Int), s2]) (h3 : Go.Sx.At B p3 [.int .u8 (op : Int)]) (hw : Words B s1 ws) (hu : Words B s2 us) (hf : Tab.Frm n ws) (hg : Tab.Frm n us) (hop : op < 16) (hi : i < Tab.wN n) :
  Rd Tryz.prog 174 #[.int .i64 (i : Int), p1, p2, p3] B (· = .int .u64 ((binP op (ws.getD i 0) (us.getD i 0) 4 : Nat) : Int)) := by
 have lw := getD_lt (i := i) hf
 have lu := getD_lt (i := i) hg
 intro g
 refine L174_sound (R := FnR _) ?_
 unfold L174
 refine FAddr.at h1 fun q hq => Ld.at hq (fun _ h => h) ?_
 refine hw.1.ld (iw_get (getD_get hf hi)) (fun _ h => h) ?_
 refine FAddr.at h2 fun q hq => Ld.at hq (fun _ h => h) ?_
 refine hu.1.ld (iw_get (getD_get hg hi)) (fun _ h => h) ?_
 generalize ws.getD i 0 = w at *
 generalize us.getD i 0 = u at *
 refine Un.xorU lw (Un.xorU lu ?_)
 refine Bin.andN (by simp only [lim]; omega) (by simp only [lim]; omega) ?_
 refine Un.xorU lw ?_
 refine Bin.andN (by simp only [lim]; omega) (by simp only [lim]; omega) ?_
 refine Un.xorU lu ?_
 refine Bin.andN (by simp only [lim]; omega) (by simp only [lim]; omega) ?_
 refine Bin.andN (by simp only [lim]; omega) (by simp only [lim]; omega) ?_
 refine BuildSl.ints4 (e := 29) (by kernel_rfl) (by kernel_rfl) (by kernel_rfl) fun bx => ?_
 obtain ⟨ps, hps⟩ : ∃ ps, ps = [(18446744073709551615 - w) &&& (18446744073709551615 - u), (18446744073709551615 - w) &&& u, w &&& (18446744073709551615 - u), w &&& u] := ⟨_, rfl⟩
 have hI : Ints .u64 [(bx, Obj.cells (icells .u64 (iw ps)) 29 (0, 0))] (.slice (some ⟨bx, 0, none⟩) 4 4) (iw ps) := by
  have := (IOwn.made (T := 29) (kd := .u64) (b := bx) (iw ps)).ints
  have hl : (iw ps).length = 4 := by rw [hps]; rfl
  rw [hl] at this; exact this
 have hpl : ps.length = 4 := by rw [hps]; rfl
 have hH : (bx, Obj.cells (icells .u64 [((((18446744073709551615 - w) &&& (18446744073709551615 - u) : Nat)) : Int), ((((18446744073709551615 - w) &&& u : Nat)) : Int), (((w &&& (18446744073709551615 - u) : Nat)) : Int), ((w &&& u : Nat) : Int)]) 29 (0, 0)) = (bx, Obj.cells (icells .u64 (iw ps)) 29 (0, 0)) := by rw [hps]; rfl
 rw [hH]
 refine LenS.mk ?_
 refine ⟨fun vs H => ∃ k : Nat, vs = [.int .u64 ((binP op w u k : Nat) : Int), .int .i64 (k : Int)] ∧ k ≤ 4 ∧ H = (bx, Obj.cells (icells .u64 (iw ps)) 29 (0, 0)) :: B, fun vs _ => 4 - nAt vs 1, JE.mk ⟨0, rfl, by omega, rfl⟩, ?_⟩
 rintro w24 w25 H ⟨k, hv, hk, rfl⟩ gs
 simp only [List.cons.injEq, and_true] at hv
 obtain ⟨rfl, rfl⟩ := hv
 refine Bin.ltN (b := 4) (Br.dec (fun hlt => ?_) (fun hlt => ?_))
 ·intro J hJ
  refine hI.ld (n := ((ps.getD k 0 : Nat) : Int)) (iw_getD (by omega)) (fun _ h => by simp at h; rw [h]; exact .head _) ?_
  refine Ld.at h3 (fun _ h => .tail _ h) ?_
  refine Bin.shrN (by simp only [lim]; omega) ?_
  refine Bin.andN (b := 1) (by have := Nat.shiftRight_le op k; simp only [lim]; omega) (by decide) ?_
  have hbit : (op >>> k) &&& 1 = (op.testBit k).toNat := by
   rw [Tab.and_one_eq, Nat.testBit_shiftRight, Nat.add_zero]
   cases op.testBit k <;> rfl
  rw [hbit]
  refine Bin.eqN (b := 1) ?_
  have hplt : ps.getD k 0 < 18446744073709551616 := by rw [hps]; exact part_lt lw lu
  cases hb : op.testBit k with
  | true =>
   refine Br.decT rfl ?_
   refine Bin.orN (by simpa only [lim] using binP_lt lw lu k) (by simpa only [lim] using hplt) ?_
   refine JE.mk (hJ _ _ fun gs => ?_)
   refine Bin.addN (b := 1) (by simp [lim]; omega) ?_
   exact Back.mk ⟨k + 1, by rw [binP, if_pos hb, hps], by omega, rfl⟩ (by simp only [nAt]; omega)
  | false =>
   refine Br.decF (by decide) ?_
   refine JE.mk (hJ _ _ fun gs => ?_)
   refine Bin.addN (b := 1) (by simp [lim]; omega) ?_
   exact Back.mk ⟨k + 1, by rw [binP, if_neg (by rw [hb]; decide)], by omega, rfl⟩ (by simp only [nAt]; omega)
 ·obtain rfl : k = 4 := by omega
  exact RdR.mk .tail rfl
theorem tbls2 {bx n : Nat} {s1 s2 : Value} {ws us : List Nat} (h1 : Words B s1 ws) (h2 : Words B s2 us) : Tbls ((bx, .cells (rows [[.int .i64 (n : Int), s1], [.int .i64 (n : Int), s2]]) 55 (0, 0)) :: B) (.slice (some ⟨bx, 0, none⟩) 2 2) [⟨n, ws⟩, ⟨n, us⟩] := by
 refine ⟨[[.int .i64 (n : Int), s1], [.int .i64 (n : Int), s2]], (Sl.ofOwn (SOwn.made (T := 55) (k := 2) (b := bx) _ (by simp)) (by decide)).mono fun _ h => by simp at h; rw [h]; exact .head _, rfl, fun i r x hr hx => ?_⟩
 match i with
 | 0 => simp at hr hx; subst hr; subst hx; exact ⟨s1, rfl, h1.mono fun _ h => .tail _ h⟩
 | 1 => simp at hr hx; subst hr; subst hx; exact ⟨s2, rfl, h2.mono fun _ h => .tail _ h⟩
 | i + 2 => simp at hr
theorem tbin_ok {v1 v2 : Value} {n op : Nat} {f1 f2 : Bdd.Fn} (hop : op < 16) (h1 : TabF B v1 n f1) (h2 : TabF B v2 n f2) : Px Tryz.prog 148 #[.int .u8 (op : Int), v1, v2] B (fun r H => ∃ t, r = .tuple #[t, .int .i64 0] ∧ TabF H t n (fun x => opB op (f1 x) (f2 x))) := by
 obtain ⟨ws, ⟨s1, rfl, hw⟩, hf, rfl⟩ := h1
 obtain ⟨us, ⟨s2, rfl, hu⟩, hg, rfl⟩ := h2
 intro g
 refine L148_sound (R := FnR _) ?_
 unfold L148
 intro b1 _ b3 _ b5 _ b7 _
 refine Ld.mk (v := .int .u8 (op : Int)) (by exact .tail _ (.tail _ (.tail _ (.head _)))) rfl ?_
 refine Bin.gtN (b := 15) (Br.decF (by omega) ?_)
 refine LdA.whole (r := [.int .i64 (n : Int), s1]) (by exact .tail _ (.tail _ (.head _))) rfl ?_
 refine LdA.whole (r := [.int .i64 (n : Int), s2]) (by exact .tail _ (.head _)) rfl ?_
 refine BuildSl.pairs2 (e := 55) (z := .agg #[.int .i64 0, .slice none 0 0]) (by kernel_rfl) (by kernel_rfl) (by kernel_rfl) fun bx => ?_
 refine CallF.rd .here (formv_ok (tbls2 (n := n) (hw.mono (fun _ h => by repeat (first | exact h | apply List.mem_cons_of_mem | apply List.mem_append_right))) (hu.mono (fun _ h => by repeat (first | exact h | apply List.mem_cons_of_mem | apply List.mem_append_right)))) (by show 2 < 2 ^ 62; decide)) ?_
 rintro w rfl
 rw [decide_eq_true (by
  intro t ht
  simp only [List.mem_cons, List.not_mem_nil, or_false] at ht
  rcases ht with rfl | rfl
  ·exact ⟨⟨by simp, by simpa using hf⟩, rfl⟩
  ·exact ⟨⟨by simp, by simpa using hg⟩, rfl⟩)]
 refine Un.not (Br.no ?_)
 refine FAddr.mk (Ld.mk (v := .int .i64 (n : Int)) (by exact .tail _ (.tail _ (.tail _ (.head _)))) rfl ?_)
 refine CallF.pre (H' := (b7, .cells #[.int .i64 0, .slice none 0 0] 55 (0, 0)) :: (b5, .cells #[.int .i64 (n : Int), s2] 55 (0, 0)) :: (b3, .cells #[.int .i64 (n : Int), s1] 55 (0, 0)) :: (b1, .cells #[.int .u8 (op : Int)] 5 (0, 0)) :: B) .tail ?_
 refine CallF.px (.cons .here) (laid_ok hf.n16 rfl (by kernel_rfl) (F := fun i => binP op (ws.getD i 0) (us.getD i 0) 4) (fun i _ => binP_lt (getD_lt hf) (getD_lt hg) 4) (B := (b5, .cells #[.int .i64 (n : Int), s2] 55 (0, 0)) :: (b3, .cells #[.int .i64 (n : Int), s1] 55 (0, 0)) :: (b1, .cells #[.int .u8 (op : Int)] 5 (0, 0)) :: B)
  fun i hi => tbin1_ok (Go.Sx.At.block (l := [.int .i64 (n : Int), s1]) (by repeat (first | assumption | exact List.Mem.head _ | apply List.Mem.tail | apply List.mem_append_right))) (Go.Sx.At.block (l := [.int .i64 (n : Int), s2]) (by repeat (first | assumption | exact List.Mem.head _ | apply List.Mem.tail | apply List.mem_append_right))) (Go.Sx.At.block (l := [.int .u8 (op : Int)]) (by repeat (first | assumption | exact List.Mem.head _ | apply List.Mem.tail | apply List.mem_append_right))) (hw.mono (fun _ h => by repeat (first | exact h | apply List.mem_cons_of_mem | apply List.mem_append_right))) (hu.mono (fun _ h => by repeat (first | exact h | apply List.mem_cons_of_mem | apply List.mem_append_right))) hf hg hop hi) ?_
 rintro w N ⟨s', rfl, hw'⟩
 refine St.whole (r := [.int .i64 (n : Int), s']) (by exact .head _) rfl rfl ?_ ?_
 ·have := oneCell_words hw'; simpa [Value.oneCell'] using this
 refine LdA.whole (r := [.int .i64 (n : Int), s']) (by exact .head _) rfl ?_
 refine PxR.mk (by repeat (first | exact Grow.refl _ | apply Grow.cons | apply Grow.app)) ⟨_, rfl, _, ⟨s', rfl, hw'.mono (fun _ h => by repeat (first | exact h | apply List.mem_cons_of_mem | apply List.mem_append_right))⟩, laidT_frm hf.n16, fnT_laid (fun x hx => ?_) (fun x => by rw [fnT_mod, fnT_mod])⟩
 rw [binP_bit (getD_lt hf) (getD_lt hg) (Nat.mod_lt _ (by decide)), word_bit hx, word_bit hx]
theorem tite1_ok {p1 p2 p3 s1 s2 s3 : Value} {n i : Nat} {ws us rs : List Nat} (h1 : Go.Sx.At B p1 [.int .i64 (n : Int), s1]) (h2 : Go.Sx.At B p2 [.int .i64 (n : Int), s2]) (h3 : Go.Sx.At B p3 [.int .i64 (n : Int), s3]) (hw : Words B s1 ws) (hu : Words B s2 us) (hr : Words B s3 rs) (hf : Tab.Frm n ws) (hg : Tab.Frm n us) (hh : Tab.Frm n rs) (hi : i < Tab.wN n) :
  Rd Tryz.prog 175 #[.int .i64 (i : Int), p1, p2, p3] B (· = .int .u64 (((ws.getD i 0 &&& us.getD i 0) ||| ((18446744073709551615 - ws.getD i 0) &&& rs.getD i 0) : Nat) : Int)) := by
 have lw := getD_lt (i := i) hf
 have lu := getD_lt (i := i) hg
 have lr := getD_lt (i := i) hh
 intro g
 refine L175_sound (R := FnR _) ?_
 unfold L175
 refine FAddr.at h1 fun q hq => Ld.at hq (fun _ h => h) ?_
 refine hw.1.ld (iw_get (getD_get hf hi)) (fun _ h => h) ?_
 refine FAddr.at h2 fun q hq => Ld.at hq (fun _ h => h) ?_
 refine hu.1.ld (iw_get (getD_get hg hi)) (fun _ h => h) ?_
 refine Bin.andN (by simpa only [lim] using lw) (by simpa only [lim] using lu) ?_
 refine FAddr.at h1 fun q hq => Ld.at hq (fun _ h => h) ?_
 refine hw.1.ld (iw_get (getD_get hf hi)) (fun _ h => h) ?_
 refine Un.xorU lw ?_
 refine FAddr.at h3 fun q hq => Ld.at hq (fun _ h => h) ?_
 refine hr.1.ld (iw_get (getD_get hh hi)) (fun _ h => h) ?_
 refine Bin.andN (by simp only [lim]; omega) (by simpa only [lim] using lr) ?_
 refine Bin.orN (Nat.lt_of_le_of_lt Nat.and_le_left (by simpa only [lim] using lw)) (Nat.lt_of_le_of_lt Nat.and_le_left (by simp only [lim]; omega)) ?_
 exact RdR.mk (.refl _) rfl
theorem tbls3 {bx n : Nat} {s1 s2 s3 : Value} {ws us rs : List Nat} (h1 : Words B s1 ws) (h2 : Words B s2 us) (h3 : Words B s3 rs) : Tbls ((bx, .cells (rows [[.int .i64 (n : Int), s1], [.int .i64 (n : Int), s2], [.int .i64 (n : Int), s3]]) 55 (0, 0)) :: B) (.slice (some ⟨bx, 0, none⟩) 3 3) [⟨n, ws⟩, ⟨n, us⟩, ⟨n, rs⟩] := by
 refine ⟨[[.int .i64 (n : Int), s1], [.int .i64 (n : Int), s2], [.int .i64 (n : Int), s3]], (Sl.ofOwn (SOwn.made (T := 55) (k := 2) (b := bx) _ (by simp)) (by decide)).mono fun _ h => by simp at h; rw [h]; exact .head _, rfl, fun i r x hr hx => ?_⟩
 match i with
 | 0 => simp at hr hx; subst hr; subst hx; exact ⟨s1, rfl, h1.mono fun _ h => .tail _ h⟩
 | 1 => simp at hr hx; subst hr; subst hx; exact ⟨s2, rfl, h2.mono fun _ h => .tail _ h⟩
 | 2 => simp at hr hx; subst hr; subst hx; exact ⟨s3, rfl, h3.mono fun _ h => .tail _ h⟩
 | i + 3 => simp at hr
theorem tite_ok {v1 v2 v3 : Value} {n : Nat} {f1 f2 f3 : Bdd.Fn} (h1 : TabF B v1 n f1) (h2 : TabF B v2 n f2) (h3 : TabF B v3 n f3) : Px Tryz.prog 149 #[v1, v2, v3] B (fun r H => ∃ t, r = .tuple #[t, .int .i64 0] ∧ TabF H t n (fun x => if f1 x then f2 x else f3 x)) := by
 obtain ⟨ws, ⟨s1, rfl, hw⟩, hf, rfl⟩ := h1
 obtain ⟨us, ⟨s2, rfl, hu⟩, hg, rfl⟩ := h2
 obtain ⟨rs, ⟨s3, rfl, hr⟩, hh, rfl⟩ := h3
 intro g
 refine L149_sound (R := FnR _) ?_
 unfold L149
 intro b1 _ b3 _ b5 _ b7 _
 refine LdA.whole (r := [.int .i64 (n : Int), s1]) (by exact .tail _ (.tail _ (.tail _ (.head _)))) rfl ?_
 refine LdA.whole (r := [.int .i64 (n : Int), s2]) (by exact .tail _ (.tail _ (.head _))) rfl ?_
 refine LdA.whole (r := [.int .i64 (n : Int), s3]) (by exact .tail _ (.head _)) rfl ?_
 refine BuildSl.pairs3 (e := 55) (z := .agg #[.int .i64 0, .slice none 0 0]) (by kernel_rfl) (by kernel_rfl) (by kernel_rfl) fun bx => ?_
 refine CallF.rd .here (formv_ok (tbls3 (n := n) (hw.mono (fun _ h => by repeat (first | exact h | apply List.mem_cons_of_mem | apply List.mem_append_right))) (hu.mono (fun _ h => by repeat (first | exact h | apply List.mem_cons_of_mem | apply List.mem_append_right))) (hr.mono (fun _ h => by repeat (first | exact h | apply List.mem_cons_of_mem | apply List.mem_append_right)))) (by show 3 < 2 ^ 62; decide)) ?_
 rintro w rfl
 rw [decide_eq_true (by
  intro t ht
  simp only [List.mem_cons, List.not_mem_nil, or_false] at ht
  rcases ht with rfl | rfl | rfl
  ·exact ⟨⟨by simp, by simpa using hf⟩, rfl⟩
  ·exact ⟨⟨by simp, by simpa using hg⟩, rfl⟩
  ·exact ⟨⟨by simp, by simpa using hh⟩, rfl⟩)]
 refine Un.not (Br.no ?_)
 refine FAddr.mk (Ld.mk (v := .int .i64 (n : Int)) (by exact .tail _ (.tail _ (.tail _ (.tail _ (.head _))))) rfl ?_)
 refine CallF.pre (H' := (b7, .cells #[.int .i64 0, .slice none 0 0] 55 (0, 0)) :: (b5, .cells #[.int .i64 (n : Int), s3] 55 (0, 0)) :: (b3, .cells #[.int .i64 (n : Int), s2] 55 (0, 0)) :: (b1, .cells #[.int .i64 (n : Int), s1] 55 (0, 0)) :: B) .tail ?_
 have ol : ∀ i, (ws.getD i 0 &&& us.getD i 0) ||| ((18446744073709551615 - ws.getD i 0) &&& rs.getD i 0) < 18446744073709551616 := fun i =>
  Nat.or_lt_two_pow (n := 64) (Nat.lt_of_le_of_lt Nat.and_le_left (getD_lt hf)) (Nat.lt_of_le_of_lt Nat.and_le_right (getD_lt hh))
 refine CallF.px (.cons .here) (laid_ok hf.n16 rfl (by kernel_rfl) (F := fun i => (ws.getD i 0 &&& us.getD i 0) ||| ((18446744073709551615 - ws.getD i 0) &&& rs.getD i 0)) (fun i _ => ol i) (B := (b5, .cells #[.int .i64 (n : Int), s3] 55 (0, 0)) :: (b3, .cells #[.int .i64 (n : Int), s2] 55 (0, 0)) :: (b1, .cells #[.int .i64 (n : Int), s1] 55 (0, 0)) :: B)
  fun i hi => tite1_ok (Go.Sx.At.block (l := [.int .i64 (n : Int), s1]) (by repeat (first | assumption | exact List.Mem.head _ | apply List.Mem.tail | apply List.mem_append_right))) (Go.Sx.At.block (l := [.int .i64 (n : Int), s2]) (by repeat (first | assumption | exact List.Mem.head _ | apply List.Mem.tail | apply List.mem_append_right))) (Go.Sx.At.block (l := [.int .i64 (n : Int), s3]) (by repeat (first | assumption | exact List.Mem.head _ | apply List.Mem.tail | apply List.mem_append_right))) (hw.mono (fun _ h => by repeat (first | exact h | apply List.mem_cons_of_mem | apply List.mem_append_right))) (hu.mono (fun _ h => by repeat (first | exact h | apply List.mem_cons_of_mem | apply List.mem_append_right))) (hr.mono (fun _ h => by repeat (first | exact h | apply List.mem_cons_of_mem | apply List.mem_append_right))) hf hg hh hi) ?_
 rintro w N ⟨s', rfl, hw'⟩
 refine St.whole (r := [.int .i64 (n : Int), s']) (by exact .head _) rfl rfl ?_ ?_
 ·have := oneCell_words hw'; simpa [Value.oneCell'] using this
 refine LdA.whole (r := [.int .i64 (n : Int), s']) (by exact .head _) rfl ?_
 refine PxR.mk (by repeat (first | exact Grow.refl _ | apply Grow.cons | apply Grow.app)) ⟨_, rfl, _, ⟨s', rfl, hw'.mono (fun _ h => by repeat (first | exact h | apply List.mem_cons_of_mem | apply List.mem_append_right))⟩, laidT_frm hf.n16, fnT_laid (fun x hx => ?_) (fun x => by rw [fnT_mod, fnT_mod, fnT_mod])⟩
 rw [Nat.testBit_or, Nat.testBit_and, Nat.testBit_and, not_bit (getD_lt hf) (Nat.mod_lt _ (by decide)), word_bit hx, word_bit hx, word_bit hx]
 cases fnT n ws x <;> cases fnT n us x <;> cases fnT n rs x <;> rfl
theorem tcofF_ok {v : Value} {n u : Nat} {c : Bool} {f : Bdd.Fn} (ht : TabF B v n f) (hu : u < n) : Px Tryz.prog 132 #[v, .int .i64 (u : Int), .bool c] B (fun r H => ∃ t, r = .tuple #[t, .int .i64 0] ∧ TabF H t n (fun x => f (Tab.setb x u c))) := by
 obtain ⟨ws, ht, hf, rfl⟩ := ht
 refine (tcof_ok ht hf hu).mono fun v H h => ?_
 obtain ⟨hg, v', rfl, ht'⟩ := h
 exact ⟨hg, v', rfl, _, ht', Tab.frm_cof hf.n16, fnT_cof hf hu c⟩
end
end Go.Proofs
namespace Go.Sx
open Go
section
variable {P : Program} {g : Gh} {H C : Hp} {c : Hp → Hp}
theorem SOwn.appsH {elem k bytes : Nat} {zero : Value} {v x : Value} {rs r2 : List (List Value)} (h : SOwn elem k v rs C) (hh : Hole C H c) (hx : Sl k H x r2) (h1 : ∀ r ∈ r2, ∀ u ∈ r, u.oneCell' = true) (hz : ∃ z : List Value, zero.cells = z.toArray ∧ z.length = k)
  (hb : (rs.length + r2.length) * bytes ≤ 140737488355328) (hm : rs.length + r2.length ≤ 9223372036854775807) {K : Value → Hp → Prop} (hk : ∀ v' C', SOwn elem k v' (rs ++ r2) C' → K v' (c C')) : App P elem k bytes zero H v x K := by
 obtain ⟨A, B, e⟩ := hh.split
 have e2 := hh.spec.1
 rw [e] at e2
 subst e2
 obtain ⟨a, cap, rfl, hc⟩ := Sl.cells hx
 exact SOwn.apps h hc hx.1 h1 hz hb hm fun v' C' ho => by have := hk v' C' ho; rwa [e] at this
theorem Bin.remN {kd : IntKind} {a b : Nat} {k : Value → Prop} (hb : b ≠ 0) (h : k (.int kd ((a % b : Nat) : Int))) : Bin .num .rem (.int kd a) (.int kd b) k :=
 Bin.rem64 (by omega) rfl (by have : ((a : Int)).tmod (b : Int) = ((a % b : Nat) : Int) := rfl; rw [this]; exact h)
end
end Go.Sx
set_option maxRecDepth 100000
namespace Go.Proofs
open Go Go.Sx
open Bdd
abbrev gcell (gb kp n : Nat) (vr vf : Value) : Nat × Obj := (gb, .cells #[ptr kp, .int .i64 (n : Int), vr, vf] 63 (0, 0))
structure GLook (gb kp n : Nat) (vr vf : Value) (refs : List Nat) (fs : List (List Nat)) (M G : Hp) : Prop where
 cell : gcell gb kp n vr vf ∈ G
 rf : Ints .u32 G vr (iw refs)
 fn : ∃ rs, Sl 2 G vf rs ∧ Each (TRow M) rs (fs.map fun ws => ⟨n, ws⟩)
theorem GLook.grow {gb kp n : Nat} {vr vf : Value} {refs : List Nat} {fs : List (List Nat)} {M M' G : Hp} (h : GLook gb kp n vr vf refs fs M G) (hs : ∀ x ∈ M, x ∈ M') : GLook gb kp n vr vf refs fs M' G :=
 ⟨h.cell, h.rf, let ⟨rs, h1, h2⟩ := h.fn; ⟨rs, h1, h2.mono fun _ _ h => h.mono hs⟩⟩
def PxL (P : Program) (f : FuncId) (args : Array Value) (M G : Hp) (Q : Value → Hp → Prop) : Prop := Fc P f args (M ++ G) (fun w H => ∃ M', H = M' ++ G ∧ Grow M M' ∧ Q w M')
structure GIn (gb kp n : Nat) (vr vf : Value) (refs : List Nat) (fs : List (List Nat)) (C B : Hp) : Prop where
 cell : gcell gb kp n vr vf ∈ B
 rf : Ints .u32 B vr (iw refs)
 fn : Tbls B vf (fs.map fun ws => ⟨n, ws⟩)
 hole : ∃ c, Hole C B c ∧ ∀ Z, gcell gb kp n vr vf ∈ c Z
theorem GIn.cons {gb kp n : Nat} {vr vf : Value} {refs : List Nat} {fs : List (List Nat)} {C B : Hp} (h : GIn gb kp n vr vf refs fs C B) (x : Nat × Obj) : GIn gb kp n vr vf refs fs C (x :: B) :=
 ⟨.tail _ h.cell, h.rf.mono fun _ h => .tail _ h, h.fn.mono fun _ h => .tail _ h, let ⟨c, hc, hm⟩ := h.hole; ⟨_, .cons hc, fun Z => .tail _ (hm Z)⟩⟩
theorem GIn.app {gb kp n : Nat} {vr vf : Value} {refs : List Nat} {fs : List (List Nat)} {C B : Hp} (h : GIn gb kp n vr vf refs fs C B) (N : Hp) : GIn gb kp n vr vf refs fs C (N ++ B) :=
 ⟨List.mem_append_right _ h.cell, h.rf.mono fun _ h => List.mem_append_right _ h, h.fn.mono fun _ h => List.mem_append_right _ h, let ⟨c, hc, hm⟩ := h.hole; ⟨_, .app hc, fun Z => List.mem_append_right _ (hm Z)⟩⟩
theorem GIn.grow {gb kp n : Nat} {vr vf : Value} {refs : List Nat} {fs : List (List Nat)} {C B B' : Hp} (h : GIn gb kp n vr vf refs fs C B) (hg : Grow B B') : GIn gb kp n vr vf refs fs C B' := by
 obtain ⟨N, rfl⟩ := hg.spec; exact h.app N
structure Gar (K : Kd) (S : Nat → Bdd.Fn) (refs : List Nat) (fs : List (List Nat)) : Prop where
 len : refs.length = fs.length
 frm : ∀ t ∈ fs, Tab.Frm K.n t
 is : ∀ i, i < refs.length → 2 ≤ refs.getD i 0 ∧ fnT K.n (fs.getD i []) = S (refs.getD i 0)
 hold : ∀ s, K.hold s = refs.count s
section
variable {kp gb n : Nat} {vr vf : Value} {refs : List Nat} {fs : List (List Nat)} {K : Kd} {S : Nat → Bdd.Fn} {ord lev tr : List Nat} {C B : Hp}
theorem Gar.mem (h : Gar K S refs fs) {s : Nat} : K.hold s ≠ 0 ↔ s ∈ refs := by
 rw [h.hold]
 constructor
 ·intro h0; exact List.count_pos_iff.1 (by omega)
 ·intro h1; have := List.count_pos_iff.2 h1; omega
theorem Gar.live (h : Gar K S refs fs) (hK : KSt kp K S ord lev tr C) {s : Nat} (hs : s ∈ refs) : live K.N s := .inr (hK.ok.mid.held s (h.mem.2 hs))
theorem Gar.held (h : Gar K S refs fs) (g : Bdd.Fn) : K.held S g ↔ FT K.n fs g := by
 constructor
 ·rintro ⟨s, hs, rfl⟩
  have hs' := h.mem.1 hs
  obtain ⟨i, hi, rfl⟩ := List.mem_iff_getElem.1 hs'
  obtain ⟨h2, h3⟩ := h.is i hi
  have e : refs.getD i 0 = refs[i] := by rw [List.getD_eq_getElem?_getD, List.getElem?_eq_getElem hi]; rfl
  have hi' : i < fs.length := by rw [← h.len]; exact hi
  have e' : fs.getD i [] = fs[i] := by rw [List.getD_eq_getElem?_getD, List.getElem?_eq_getElem hi']; rfl
  rw [e, e'] at h3
  exact ⟨fs[i], List.getElem_mem hi', h3.symm⟩
 ·rintro ⟨t, ht, rfl⟩
  obtain ⟨i, hi, rfl⟩ := List.mem_iff_getElem.1 ht
  have hi' : i < refs.length := by rw [h.len]; exact hi
  obtain ⟨h2, h3⟩ := h.is i hi'
  have e : refs.getD i 0 = refs[i] := by rw [List.getD_eq_getElem?_getD, List.getElem?_eq_getElem hi']; rfl
  have e' : fs.getD i [] = fs[i] := by rw [List.getD_eq_getElem?_getD, List.getElem?_eq_getElem hi]; rfl
  rw [e, e'] at h3
  exact ⟨refs[i], h.mem.2 (List.getElem_mem hi'), h3⟩
theorem sameTable_ok {a b : Value} {f f' : Bdd.Fn} (h1 : TabF B a n f) (h2 : TabF B b n f') : Rd Tryz.prog 80 #[a, b] B (fun r => ∃ x : Bool, r = .bool x ∧ (x = true ↔ f = f')) := by
 obtain ⟨ws, ⟨s1, rfl, hw⟩, hf, rfl⟩ := h1
 obtain ⟨us, ⟨s2, rfl, hu⟩, hg, rfl⟩ := h2
 have hlw := hf.len
 have hlu := hg.len
 have hwl := Tab.wN_le hf.n16
 intro g
 refine L80_sound (R := FnR _) ?_
 unfold L80
 intro b1 _ b3 _
 refine FAddr.mk (Ld.mk (v := .int .i64 (n : Int)) (by exact .tail _ (.head _)) rfl ?_)
 refine FAddr.mk (Ld.mk (v := .int .i64 (n : Int)) (by exact .head _) rfl ?_)
 refine Bin.neN ?_
 rw [decide_eq_false (by simp)]
 refine Grp.or (a := false) false (fun _ => ?_) rfl fun gs => Br.no ?_
 ·refine FAddr.mk (Ld.mk (v := s1) (by exact .tail _ (.head _)) rfl ?_)
  refine hw.1.lenS ?_
  refine FAddr.mk (Ld.mk (v := s2) (by exact .head _) rfl ?_)
  refine hu.1.lenS ?_
  rw [iw_length, iw_length]
  refine Bin.neN ⟨rfl, ?_⟩
  simp only
  rw [decide_eq_false]
  show ¬ ws.length ≠ us.length
  omega
 refine ⟨fun vs H => ∃ i : Nat, vs = [.int .i64 (i : Int)] ∧ i ≤ ws.length ∧ H = (b3, .cells #[.int .i64 (n : Int), s2] 55 (0, 0)) :: (b1, .cells #[.int .i64 (n : Int), s1] 55 (0, 0)) :: B ∧ ws.take i = us.take i, fun vs _ => ws.length - nAt vs 0, JE.mk ⟨0, rfl, Nat.zero_le _, rfl, rfl⟩, ?_⟩
 rintro w23 H ⟨i, hv, hi, rfl, htk⟩ gs
 simp only [List.cons.injEq, and_true] at hv
 subst hv
 refine FAddr.mk (Ld.mk (v := s1) (by exact .tail _ (.head _)) rfl ?_)
 refine hw.1.lenS ?_
 rw [iw_length]
 show Bin .num .lss (.int .i64 (i : Int)) (.int .i64 ((ws.length : Nat) : Int)) _
 refine Bin.ltN (Br.dec (fun hlt => ?_) (fun hlt => ?_))
 ·have hlt2 : i < us.length := by omega
  refine FAddr.mk (Ld.mk (v := s1) (by exact .tail _ (.head _)) rfl ?_)
  refine hw.1.ld (iw_get (List.getElem?_eq_getElem hlt)) (fun _ h => .tail _ (.tail _ h)) ?_
  refine FAddr.mk (Ld.mk (v := s2) (by exact .head _) rfl ?_)
  refine hu.1.ld (iw_get (List.getElem?_eq_getElem hlt2)) (fun _ h => .tail _ (.tail _ h)) ?_
  refine Bin.neN (Br.dec (fun hne => ?_) (fun hne => ?_))
  ·refine RdR.mk (.skip .tail) ⟨false, rfl, by simp; intro h; exact hne (by have e := fnT_inj hf hg h; subst e; rfl)⟩
  ·refine Bin.addN (b := 1) (by simp [lim]; omega) ?_
   refine Back.mk ⟨i + 1, rfl, hlt, rfl, ?_⟩ (by simp only [nAt]; omega)
   rw [List.take_succ_eq_append_getElem hlt, List.take_succ_eq_append_getElem hlt2, htk]
   congr 2
   exact Classical.byContradiction hne
 ·obtain rfl : i = ws.length := by omega
  rw [List.take_length, show ws.length = us.length by omega, List.take_length] at htk
  exact RdR.mk (.skip .tail) ⟨true, rfl, by simp [htk]⟩
end
end Go.Proofs
set_option maxRecDepth 100000
namespace Go.Proofs
open Go Go.Sx
open Bdd
section
variable {kp gb n : Nat} {vr vf : Value} {refs : List Nat} {fs : List (List Nat)} {K : Kd} {S : Nat → Bdd.Fn} {ord lev tr : List Nat} {C B M G : Hp}
theorem pick_ok (hG : GLook gb kp K.n vr vf refs fs M G) (hg : Gar K S refs fs) (hK : KSt kp K S ord lev tr C) (hn : K.n ≤ 16) (hm : refs.length < 1048576) {a : Nat} (ha : a < 256) :
  PxL Tryz.prog 122 #[ptr gb, .int .u8 (a : Int)] M G (fun w H => ∃ r t, w = .tuple #[u32 r, t] ∧ live K.N r ∧ TabF H t K.n (S r)) := by
 have hint := hK.ok.mid.int
 intro g
 refine L122_sound (R := FnR _) ?_
 unfold L122
 intro b1 _
 refine ConvI.nat (by simp [lim]; omega) ?_
 refine Nil.ptr (FAddr.mk (Ld.mk (v := vr) (by exact .tail _ (List.mem_append_right _ hG.cell)) rfl ?_))
 refine hG.rf.lenS ?_
 rw [iw_length]
 refine Bin.addN (b := 2) (by simp [lim]; omega) ?_
 refine Bin.remN (by omega) ?_
 have hlt := Nat.mod_lt a (show 0 < refs.length + 2 by omega)
 generalize a % (refs.length + 2) = i at *
 refine Bin.ltN (b := 2) (Br.dec (fun h2 => ?_) (fun h2 => ?_))
 ·refine Nil.ptr (FAddr.mk (Ld.mk (v := .int .i64 (K.n : Int)) (by exact .tail _ (List.mem_append_right _ hG.cell)) rfl ?_))
  refine Bin.eqN (b := 1) ?_
  refine CallF.px (.cons .left) (tconst_ok hn (decide (i = 1)) M) ?_
  rintro w N ⟨v, rfl, ws, ⟨s, rfl, hw⟩, hf, he⟩
  refine Ext.mk rfl (Ext.mk rfl ?_)
  intro b19 _
  have h1 : ∀ x ∈ [Value.int .i64 (K.n : Int), s], x.oneCell' = true := by have := oneCell_words hw; simpa [Value.oneCell'] using this
  refine St.whole (r := [.int .i64 (K.n : Int), s]) (by exact .head _) rfl rfl h1 ?_
  refine DR.self ?_
  refine ConvI.nat (by simp [lim]; omega) ?_
  refine LdA.whole (r := [.int .i64 (K.n : Int), s]) (by exact .head _) rfl ?_
  refine St.whole (r := [.int .i64 (K.n : Int), s]) (by exact .tail (.head _)) rfl rfl h1 ?_
  refine LdA.whole (r := [.int .i64 (K.n : Int), s]) (by exact .tail _ (.head _)) rfl ?_
  refine FnR.here ⟨_ :: _ :: (N ++ M), rfl, .cons (.cons (.app (.refl _))), i, _, rfl, .inl h2, ws, ⟨s, rfl, hw.mono (fun _ h => by repeat (first | exact h | apply List.mem_cons_of_mem | apply List.mem_append_right))⟩, hf, he.trans ?_⟩
  have : i = 0 ∨ i = 1 := by omega
  rcases this with rfl | rfl
  ·exact funext fun x => (hint.zero x).symm
  ·exact funext fun x => (hint.one x).symm
 ·refine DR.self ?_
  refine Nil.ptr (FAddr.mk (Ld.mk (v := vr) (by exact .tail _ (List.mem_append_right _ hG.cell)) rfl ?_))
  refine Bin.subN (b := 2) (by simp [lim]; omega) (by omega) ?_
  have hi : i - 2 < refs.length := by omega
  refine hG.rf.ld (n := ((refs.getD (i - 2) 0 : Nat) : Int)) (iw_getD hi) (fun _ h => .tail _ (List.mem_append_right _ h)) ?_
  refine Nil.ptr (FAddr.mk (Ld.mk (v := vf) (by exact .tail _ (List.mem_append_right _ hG.cell)) rfl ?_))
  refine Bin.subN (b := 2) (by simp [lim]; omega) (by omega) ?_
  have hi' : i - 2 < fs.length := by rw [← hg.len]; exact hi
  have e' : fs.getD (i - 2) [] = fs[i - 2] := by rw [List.getD_eq_getElem?_getD, List.getElem?_eq_getElem hi']; rfl
  obtain ⟨rs, hSl, hE⟩ := hG.fn
  obtain ⟨row, hrow, s, rfl, hw⟩ := hE.get (i := i - 2) (x := ⟨K.n, fs[i - 2]⟩) (by rw [List.getElem?_map, List.getElem?_eq_getElem hi']; rfl)
  refine IAddr.sl hSl hrow fun p hp => ?_
  refine LdA.at hp rfl (by decide) (fun _ h => .tail _ (List.mem_append_right _ h)) ?_
  have h1 : ∀ x ∈ [Value.int .i64 (K.n : Int), s], x.oneCell' = true := by have := oneCell_words hw; simpa [Value.oneCell'] using this
  refine St.whole (r := [.int .i64 (K.n : Int), s]) (by exact .head _) rfl rfl h1 ?_
  refine LdA.whole (r := [.int .i64 (K.n : Int), s]) (by exact .head _) rfl ?_
  obtain ⟨h2', h3⟩ := hg.is (i - 2) hi
  have hmem : refs.getD (i - 2) 0 ∈ refs := by rw [List.getD_eq_getElem?_getD, List.getElem?_eq_getElem hi]; exact List.getElem_mem hi
  exact FnR.here ⟨_ :: M, rfl, .cons (.refl _), refs.getD (i - 2) 0, _, rfl, hg.live hK hmem, fs[i - 2], ⟨s, rfl, hw.mono (fun _ h => by repeat (first | exact h | apply List.mem_cons_of_mem | apply List.mem_append_right))⟩, hg.frm _ (List.getElem_mem hi'), by rw [← e']; exact h3⟩
def opF (k v x : Nat) (f h i : Bdd.Fn) : Bdd.Fn := match k with
 | 0 => fun y => y.testBit v
 | 1 => fun y => !f y
 | 2 => fun y => opB (x % 16) (f y) (h y)
 | 3 => fun y => opB (x % 16) (f y) (h y)
 | 4 => fun y => if f y then h y else i y
 | 5 => fun y => f (Tab.setb y v (decide (x % 2 = 1)))
 | 6 => fun y => opB 14 (f (Tab.setb y v false)) (f (Tab.setb y v true))
 | 7 => fun y => opB 8 (f (Tab.setb y v false)) (f (Tab.setb y v true))
 | _ => fun y => if h y then f (Tab.setb y v true) else f (Tab.setb y v false)
structure OpV where
 k : Nat
 v : Nat
 a : Nat
 b : Nat
 c : Nat
 x : Nat
structure OpV.Ok (o : OpV) : Prop where
 k : o.k < 256
 v : o.v < 256
 a : o.a < 256
 b : o.b < 256
 c : o.c < 256
 x : o.x < 18446744073709551616
def OpV.cells (o : OpV) : List Value := [.int .u8 (o.k : Int), .int .u8 (o.v : Int), .int .u8 (o.a : Int), .int .u8 (o.b : Int), .int .u8 (o.c : Int), .int .u64 (o.x : Int)]
set_option maxHeartbeats 1000000 in
theorem told'_ok (hG : GLook gb kp K.n vr vf refs fs M G) (hn : K.n ≤ 16) (hn1 : 1 ≤ K.n) {o : OpV} (ho : o.Ok) {ft ht it : Value} {f h i : Bdd.Fn} (hf : TabF M ft K.n f) (hh : TabF M ht K.n h) (hi : TabF M it K.n i) :
  PxL Tryz.prog 123 #[ptr gb, .agg o.cells.toArray, ft, ht, it] M G (fun w H => ∃ t, w = .tuple #[t, .int .i64 0] ∧ TabF H t K.n (opF (o.k % 9) (o.v % K.n) o.x f h i)) := by
 obtain ⟨ws, ⟨s1, rfl, hw⟩, hwf, rfl⟩ := hf
 obtain ⟨us, ⟨s2, rfl, hu⟩, huf, rfl⟩ := hh
 obtain ⟨rs, ⟨s3, rfl, hr⟩, hrf, rfl⟩ := hi
 intro g
 refine L123_sound (R := FnR _) ?_
 unfold L123
 intro b1 _ b3 _ b5 _ b7 _ b9 _
 refine FAddr.mk (Ld.mk (v := .int .u8 (o.v : Int)) (by exact .tail _ (.tail _ (.tail _ (.tail _ (.head _))))) rfl ?_)
 refine ConvI.nat (by have := ho.v; simp [lim]; omega) ?_
 refine Nil.ptr (FAddr.mk (Ld.mk (v := .int .i64 (K.n : Int)) (by exact .tail _ (.tail _ (.tail _ (.tail _ (.tail _ (List.mem_append_right _ hG.cell)))))) rfl ?_))
 refine Bin.remN (by omega) ?_
 have hv := Nat.mod_lt o.v (show 0 < K.n by omega)
 generalize o.v % K.n = v at *
 refine Nil.ptr (FAddr.mk (Ld.mk (v := .int .i64 (K.n : Int)) (by exact .tail _ (.tail _ (.tail _ (.tail _ (.tail _ (List.mem_append_right _ hG.cell)))))) rfl ?_))
 obtain ⟨B1, hB1⟩ : ∃ B1 : Hp, B1 = (b7, Obj.cells #[.int .i64 (K.n : Int), s3] 55 (0, 0)) :: (b5, .cells #[.int .i64 (K.n : Int), s2] 55 (0, 0)) :: (b3, .cells #[.int .i64 (K.n : Int), s1] 55 (0, 0)) :: (b1, .cells o.cells.toArray 134 (0, 0)) :: M := ⟨_, rfl⟩
 have m7 : (b7, Obj.cells #[.int .i64 (K.n : Int), s3] 55 (0, 0)) ∈ B1 := by rw [hB1]; exact .head _
 have m5 : (b5, Obj.cells #[.int .i64 (K.n : Int), s2] 55 (0, 0)) ∈ B1 := by rw [hB1]; exact .tail _ (.head _)
 have m3 : (b3, Obj.cells #[.int .i64 (K.n : Int), s1] 55 (0, 0)) ∈ B1 := by rw [hB1]; exact .tail _ (.tail _ (.head _))
 have m1 : (b1, Obj.cells o.cells.toArray 134 (0, 0)) ∈ B1 := by rw [hB1]; exact .tail _ (.tail _ (.tail _ (.head _)))
 have hsub : ∀ x ∈ M, x ∈ B1 := fun x hx => by rw [hB1]; exact .tail _ (.tail _ (.tail _ (.tail _ hx)))
 have hgr : Grow M B1 := by rw [hB1]; exact .cons (.cons (.cons (.cons (.refl _))))
 change CallF Tryz.prog g _ _ ((b9, Obj.cells #[.int .i64 0, .slice none 0 0] 55 (0, 0)) :: (((b7, Obj.cells #[.int .i64 (K.n : Int), s3] 55 (0, 0)) :: (b5, .cells #[.int .i64 (K.n : Int), s2] 55 (0, 0)) :: (b3, .cells #[.int .i64 (K.n : Int), s1] 55 (0, 0)) :: (b1, .cells o.cells.toArray 134 (0, 0)) :: M) ++ G)) _ _
 rw [← hB1]
 have t1 : TabF B1 (.agg #[.int .i64 (K.n : Int), s1]) K.n (fnT K.n ws) := ⟨ws, ⟨s1, rfl, hw.mono hsub⟩, hwf, rfl⟩
 have t2 : TabF B1 (.agg #[.int .i64 (K.n : Int), s2]) K.n (fnT K.n us) := ⟨us, ⟨s2, rfl, hu.mono hsub⟩, huf, rfl⟩
 have t3 : TabF B1 (.agg #[.int .i64 (K.n : Int), s3]) K.n (fnT K.n rs) := ⟨rs, ⟨s3, rfl, hr.mono hsub⟩, hrf, rfl⟩
 clear hB1 hw hu hr
 have one : ∀ {X : Hp} {s : Value} {l : List Nat}, Words X s l → ∀ x ∈ [Value.int .i64 (K.n : Int), s], x.oneCell' = true := fun hw => by have := oneCell_words hw; simpa [Value.oneCell'] using this
 refine CallF.px (.cons .left) (tvar_ok hn hv B1) ?_
 rintro w N1 ⟨_, rfl, w4, ⟨s4, rfl, hw4⟩, hf4, he4⟩
 refine Ext.mk rfl (Ext.mk rfl ?_)
 intro b25 _
 refine St.whole (r := [.int .i64 (K.n : Int), s4]) (by exact .head _) rfl rfl (one hw4) ?_
 refine LdA.whole (r := [.int .i64 (K.n : Int), s1]) (by exact .tail _ (.tail _ (List.mem_append_left _ (List.mem_append_right _ m3)))) rfl ?_
 refine CallF.px (.cons (.cons .left)) (tcofF_ok (c := false) (t1.mono (fun _ h => by repeat (first | exact h | apply List.mem_cons_of_mem | apply List.mem_append_right))) hv) ?_
 rintro w N2 ⟨_, rfl, w5, ⟨s5, rfl, hw5⟩, hf5, he5⟩
 refine Ext.mk rfl (Ext.mk rfl ?_)
 intro b33 _
 refine St.whole (r := [.int .i64 (K.n : Int), s5]) (by exact .head _) rfl rfl (one hw5) ?_
 refine LdA.whole (r := [.int .i64 (K.n : Int), s1]) (by exact .tail _ (.tail _ (.tail _ (List.mem_append_left _ (List.mem_append_right _ (List.mem_append_right _ m3)))))) rfl ?_
 refine CallF.px (.cons (.cons (.cons .left))) (tcofF_ok (c := true) (t1.mono (fun _ h => by repeat (first | exact h | apply List.mem_cons_of_mem | apply List.mem_append_right))) hv) ?_
 rintro w N3 ⟨_, rfl, w6, ⟨s6, rfl, hw6⟩, hf6, he6⟩
 refine Ext.mk rfl (Ext.mk rfl ?_)
 intro b41 _
 refine St.whole (r := [.int .i64 (K.n : Int), s6]) (by exact .head _) rfl rfl (one hw6) ?_
 obtain ⟨Q, hQ⟩ : ∃ Q : Hp, Q = N3 ++ (N2 ++ (N1 ++ B1)) := ⟨_, rfl⟩
 have q4 : TabF Q (.agg #[.int .i64 (K.n : Int), s4]) K.n (fun y => y.testBit v) := by rw [hQ]; exact ⟨w4, ⟨s4, rfl, hw4.mono (fun _ h => by repeat (first | exact h | apply List.mem_cons_of_mem | apply List.mem_append_right))⟩, hf4, he4⟩
 have q5 : TabF Q (.agg #[.int .i64 (K.n : Int), s5]) K.n (fun y => fnT K.n ws (Tab.setb y v false)) := by rw [hQ]; exact ⟨w5, ⟨s5, rfl, hw5.mono (fun _ h => by repeat (first | exact h | apply List.mem_cons_of_mem | apply List.mem_append_right))⟩, hf5, he5⟩
 have q6 : TabF Q (.agg #[.int .i64 (K.n : Int), s6]) K.n (fun y => fnT K.n ws (Tab.setb y v true)) := by rw [hQ]; exact ⟨w6, ⟨s6, rfl, hw6⟩, hf6, he6⟩
 have hBQ : ∀ x ∈ B1, x ∈ Q := fun x hx => by rw [hQ]; exact List.mem_append_right _ (List.mem_append_right _ (List.mem_append_right _ hx))
 have hgQ : Grow M Q := by rw [hQ]; exact .app (.app (.app hgr))
 rw [← hQ]
 have t1 := t1.mono hBQ
 have t2 := t2.mono hBQ
 have t3 := t3.mono hBQ
 have m1 := hBQ _ m1
 have m3 := hBQ _ m3
 have m5 := hBQ _ m5
 have m7 := hBQ _ m7
 clear hQ hBQ hgr hsub hw4 hw5 hw6
 have fin : ∀ (N4 : Hp) (f : Bdd.Fn) (u : Value), TabF (N4 ++ Q) u K.n f → f = opF (o.k % 9) v o.x (fnT K.n ws) (fnT K.n us) (fnT K.n rs) →
   St 2 ((b41, .cells #[.int .i64 (K.n : Int), s6] 55 (0, 0)) :: (b33, .cells #[.int .i64 (K.n : Int), s5] 55 (0, 0)) :: (b25, .cells #[.int .i64 (K.n : Int), s4] 55 (0, 0)) :: (b9, .cells #[.int .i64 0, .slice none 0 0] 55 (0, 0)) :: ((N4 ++ Q) ++ G)) (ptr b9) u fun H => LdA 2 H (ptr b9) fun r =>
    FnR (fun w H => ∃ M', H = M' ++ G ∧ Grow M M' ∧ ∃ t, w = .tuple #[t, .int .i64 0] ∧ TabF M' t K.n (opF (o.k % 9) v o.x (fnT K.n ws) (fnT K.n us) (fnT K.n rs))) (.returned (.tuple #[r, .int .i64 0])) H := by
  rintro N4 f u ⟨w7, ⟨s7, rfl, hw7⟩, hf7, he7⟩ e
  refine St.whole (r := [.int .i64 (K.n : Int), s7]) (by exact .tail (.tail (.tail (.head _)))) rfl rfl (one hw7) ?_
  refine LdA.whole (r := [.int .i64 (K.n : Int), s7]) (by exact .tail _ (.tail _ (.tail _ (.head _)))) rfl ?_
  exact FnR.here ⟨_ :: _ :: _ :: _ :: (N4 ++ Q), rfl, .cons (.cons (.cons (.cons (.app hgQ)))), _, rfl, w7, ⟨s7, rfl, hw7.mono (fun _ h => by repeat (first | exact h | apply List.mem_cons_of_mem | apply List.mem_append_right))⟩, hf7, he7.trans e⟩
 have ld3 : ∀ {k : Value → Prop}, k (.agg #[.int .i64 (K.n : Int), s1]) → LdA 2 ((b41, .cells #[.int .i64 (K.n : Int), s6] 55 (0, 0)) :: (b33, .cells #[.int .i64 (K.n : Int), s5] 55 (0, 0)) :: (b25, .cells #[.int .i64 (K.n : Int), s4] 55 (0, 0)) :: (b9, .cells #[.int .i64 0, .slice none 0 0] 55 (0, 0)) :: (Q ++ G)) (ptr b3) k := fun hk =>
  LdA.whole (r := [.int .i64 (K.n : Int), s1]) (by exact .tail _ (.tail _ (.tail _ (.tail _ (List.mem_append_left _ m3))))) rfl hk
 have ld5 : ∀ {k : Value → Prop}, k (.agg #[.int .i64 (K.n : Int), s2]) → LdA 2 ((b41, .cells #[.int .i64 (K.n : Int), s6] 55 (0, 0)) :: (b33, .cells #[.int .i64 (K.n : Int), s5] 55 (0, 0)) :: (b25, .cells #[.int .i64 (K.n : Int), s4] 55 (0, 0)) :: (b9, .cells #[.int .i64 0, .slice none 0 0] 55 (0, 0)) :: (Q ++ G)) (ptr b5) k := fun hk =>
  LdA.whole (r := [.int .i64 (K.n : Int), s2]) (by exact .tail _ (.tail _ (.tail _ (.tail _ (List.mem_append_left _ m5))))) rfl hk
 have ld7 : ∀ {k : Value → Prop}, k (.agg #[.int .i64 (K.n : Int), s3]) → LdA 2 ((b41, .cells #[.int .i64 (K.n : Int), s6] 55 (0, 0)) :: (b33, .cells #[.int .i64 (K.n : Int), s5] 55 (0, 0)) :: (b25, .cells #[.int .i64 (K.n : Int), s4] 55 (0, 0)) :: (b9, .cells #[.int .i64 0, .slice none 0 0] 55 (0, 0)) :: (Q ++ G)) (ptr b7) k := fun hk =>
  LdA.whole (r := [.int .i64 (K.n : Int), s3]) (by exact .tail _ (.tail _ (.tail _ (.tail _ (List.mem_append_left _ m7))))) rfl hk
 have ld33 : ∀ {k : Value → Prop}, k (.agg #[.int .i64 (K.n : Int), s5]) → LdA 2 ((b41, .cells #[.int .i64 (K.n : Int), s6] 55 (0, 0)) :: (b33, .cells #[.int .i64 (K.n : Int), s5] 55 (0, 0)) :: (b25, .cells #[.int .i64 (K.n : Int), s4] 55 (0, 0)) :: (b9, .cells #[.int .i64 0, .slice none 0 0] 55 (0, 0)) :: (Q ++ G)) (ptr b33) k := fun hk =>
  LdA.whole (r := [.int .i64 (K.n : Int), s5]) (by exact .tail _ (.head _)) rfl hk
 have ld41 : ∀ {k : Value → Prop}, k (.agg #[.int .i64 (K.n : Int), s6]) → LdA 2 ((b41, .cells #[.int .i64 (K.n : Int), s6] 55 (0, 0)) :: (b33, .cells #[.int .i64 (K.n : Int), s5] 55 (0, 0)) :: (b25, .cells #[.int .i64 (K.n : Int), s4] 55 (0, 0)) :: (b9, .cells #[.int .i64 0, .slice none 0 0] 55 (0, 0)) :: (Q ++ G)) (ptr b41) k := fun hk =>
  LdA.whole (r := [.int .i64 (K.n : Int), s6]) (by exact .head _) rfl hk
 have ldop : ∀ (i : Nat) (x : Value) {k : Value → Prop}, o.cells[i]? = some x → k x → FAddr i (ptr b1) fun p => Ld ((b41, .cells #[.int .i64 (K.n : Int), s6] 55 (0, 0)) :: (b33, .cells #[.int .i64 (K.n : Int), s5] 55 (0, 0)) :: (b25, .cells #[.int .i64 (K.n : Int), s4] 55 (0, 0)) :: (b9, .cells #[.int .i64 0, .slice none 0 0] 55 (0, 0)) :: (Q ++ G)) p k := fun i x _ hx hk =>
  FAddr.mk (Ld.mk (v := x) (by exact .tail _ (.tail _ (.tail _ (.tail _ (List.mem_append_left _ m1))))) (by simpa using hx) hk)
 refine ldop 0 _ rfl ?_
 refine Bin.remN (b := 9) (by decide) ?_
 have hk9 := Nat.mod_lt o.k (show 0 < 9 by decide)
 have hx := ho.x
 generalize o.k % 9 = k at *
 refine Bin.eqN (b := 0) (Br.dec (fun h0 => ?_) (fun h0 => ?_))
 ·subst h0
  refine LdA.whole (r := [.int .i64 (K.n : Int), s4]) (by exact .tail _ (.tail _ (.head _))) rfl ?_
  exact fin [] _ _ q4 rfl
 refine Bin.eqN (b := 1) (Br.dec (fun h0 => ?_) (fun h0 => ?_))
 ·subst h0
  refine ld3 ?_
  refine CallF.px (.cons (.cons (.cons (.cons .left)))) (tnot_ok t1) ?_
  rintro w N4 ⟨u, rfl, hu⟩
  exact Ext.mk rfl (Ext.mk rfl (fin N4 _ u hu rfl))
 intro J hJ
 have hJ' : J [.bool (decide (k = 2 ∨ k = 3))] ((b41, .cells #[.int .i64 (K.n : Int), s6] 55 (0, 0)) :: (b33, .cells #[.int .i64 (K.n : Int), s5] 55 (0, 0)) :: (b25, .cells #[.int .i64 (K.n : Int), s4] 55 (0, 0)) :: (b9, .cells #[.int .i64 0, .slice none 0 0] 55 (0, 0)) :: (Q ++ G)) := by
  refine hJ _ _ fun gs => ?_
  refine Br.dec (fun h23 => ?_) (fun h23 => ?_)
  ·refine ldop 5 _ rfl ?_
   refine Bin.remN (b := 16) (by decide) ?_
   have h16 := Nat.mod_lt o.x (show 0 < 16 by decide)
   refine ConvI.nat (by simp [lim]; omega) ?_
   refine ld3 (ld5 ?_)
   refine CallF.px (.cons (.cons (.cons (.cons .left)))) (tbin_ok h16 t1 t2) ?_
   rintro w N4 ⟨u, rfl, hu⟩
   refine Ext.mk rfl (Ext.mk rfl (fin N4 _ u hu ?_))
   rcases h23 with rfl | rfl <;> rfl
  refine Bin.eqN (b := 4) (Br.dec (fun h0 => ?_) (fun h0 => ?_))
  ·subst h0
   refine ld3 (ld5 (ld7 ?_))
   refine CallF.px (.cons (.cons (.cons (.cons .left)))) (tite_ok t1 t2 t3) ?_
   rintro w N4 ⟨u, rfl, hu⟩
   exact Ext.mk rfl (Ext.mk rfl (fin N4 _ u hu rfl))
  refine Bin.eqN (b := 5) (Br.dec (fun h0 => ?_) (fun h0 => ?_))
  ·subst h0
   refine ld3 (ldop 5 _ rfl ?_)
   refine Bin.remN (b := 2) (by decide) ?_
   refine Bin.eqN (b := 1) ?_
   refine CallF.px (.cons (.cons (.cons (.cons .left)))) (tcofF_ok t1 hv) ?_
   rintro w N4 ⟨u, rfl, hu⟩
   exact Ext.mk rfl (Ext.mk rfl (fin N4 _ u hu rfl))
  refine Bin.eqN (b := 6) (Br.dec (fun h0 => ?_) (fun h0 => ?_))
  ·subst h0
   refine ld33 (ld41 ?_)
   refine CallF.px (.cons (.cons (.cons (.cons .left)))) (tbin_ok (op := 14) (by decide) q5 q6) ?_
   rintro w N4 ⟨u, rfl, hu⟩
   exact Ext.mk rfl (Ext.mk rfl (fin N4 _ u hu rfl))
  refine Bin.eqN (b := 7) (Br.dec (fun h0 => ?_) (fun h0 => ?_))
  ·subst h0
   refine ld33 (ld41 ?_)
   refine CallF.px (.cons (.cons (.cons (.cons .left)))) (tbin_ok (op := 8) (by decide) q5 q6) ?_
   rintro w N4 ⟨u, rfl, hu⟩
   exact Ext.mk rfl (Ext.mk rfl (fin N4 _ u hu rfl))
  ·have : k = 8 := by omega
   subst this
   refine ld5 (ld41 (ld33 ?_))
   refine CallF.px (.cons (.cons (.cons (.cons .left)))) (tite_ok t2 q6 q5) ?_
   rintro w N4 ⟨u, rfl, hu⟩
   exact Ext.mk rfl (Ext.mk rfl (fin N4 _ u hu rfl))
 refine Bin.eqN (b := 2) (Br.dec (fun h2 => ?_) (fun h2 => ?_))
 ·have : decide (k = 2) = decide (k = 2 ∨ k = 3) := by simp [h2]
  rw [this]; exact JE.mk hJ'
 ·refine Bin.eqN (b := 3) ?_
  have : decide (k = 3) = decide (k = 2 ∨ k = 3) := by simp [h2]
  rw [this]; exact JE.mk hJ'
end
end Go.Proofs
namespace Go.Sx
open Go
section
variable {P : Program} {g : Gh} {H B : Hp} {c : Hp → Hp}
theorem CallF.top {f : FuncId} {args : Array Value} {Q : Value → Hp → Prop} {K : Value → Hp → Prop} {KP : List PanicEntry → Hp → Prop} (hh : Hole B H c) (hc : Fc P f args B (fun r H' => ∃ N, H' = N ++ B ∧ Q r N)) (hk : ∀ r N, Q r N → K r (N ++ H)) : CallF P g f args H K KP := by
 refine (CallF.fn (K := fun r H' => ∃ N, H' = c (N ++ B) ∧ Q r N) (KP := KP) hh hc fun r C' ⟨N, h1, h2⟩ => ⟨N, by rw [h1], h2⟩).post ?_
 intro e H' h
 cases e with
 | returned v =>
  obtain ⟨N, rfl, hq⟩ := h
  refine ⟨N ++ H, ?_, hk v N hq⟩
  obtain ⟨h1, F, h2⟩ := hh.spec
  refine .perm ((h2 (N ++ B)).trans ?_)
  rw [h1, List.append_assoc]
  exact List.Perm.append_left N (h2 B).symm
 | panicked ch => exact ⟨H', .refl _, h⟩
 | outgrown => exact ⟨H', .refl _, h⟩
theorem Un.neg64 {a : Int} {c : Int} {k : Value → Prop} (e : 0 - a = c) (hb : -9223372036854775808 ≤ c ∧ c ≤ 9223372036854775807) (h : k (.int .i64 c)) : Un .neg (.int .i64 a) k :=
 ⟨_, by simp only [unV]; rw [e, wrap_i64 hb], h⟩
theorem Ent.mem1 {x : Nat × Obj} (h : x ∈ H) : Ent H [x] := by
 obtain ⟨A, D, rfl⟩ := List.append_of_mem h
 exact .skips (Ent.left (A := [x]))
end
end Go.Sx
set_option maxRecDepth 100000
namespace Go.Proofs
open Go Go.Sx
open Bdd
section
variable {kp gb n : Nat} {vr vf : Value} {refs : List Nat} {fs : List (List Nat)} {K : Kd} {S : Nat → Bdd.Fn} {ord lev tr : List Nat} {C B : Hp}
theorem KSt.perm (hK : KSt kp K S ord lev tr C) : ord.Perm (List.range K.n) := by
 have hod := hK.od
 refine perm_of_sub ?_ (fun x hx => ?_) (by rw [List.length_range, hod.len]; exact Nat.le_refl _)
 ·refine List.pairwise_iff_getElem.2 fun i j hi hj hij e => ?_
  have g1 := (hod.at' i (by rw [← hod.len]; exact hi)).2
  have g2 := (hod.at' j (by rw [← hod.len]; exact hj)).2
  rw [List.getD_eq_getElem?_getD, List.getElem?_eq_getElem hi, e] at g1
  rw [List.getD_eq_getElem?_getD, List.getElem?_eq_getElem hj] at g2
  omega
 ·obtain ⟨i, hi, rfl⟩ := List.mem_iff_getElem.1 hx
  rw [hod.len] at hi
  have := (hod.at' i hi).1
  rw [List.getD_eq_getElem?_getD, List.getElem?_eq_getElem (by rw [hod.len]; exact hi)] at this
  exact List.mem_range.2 this
theorem allIn_perm {p : List Nat} {m : Nat} (h : p.Perm (List.range m)) : allIn (iw p) := by
 rw [allIn_iff, iw_length, h.length_eq, List.length_range]
 exact h.map _
def AskOut (kp : Nat) (K : Kd) (S : Nat → Bdd.Fn) (ord lev tr : List Nat) (lo hi f : Bdd.Fn) (w : Value) (H : Hp) : Prop :=
 (∃ x K' S', w = .tuple #[u32 x, .int .i64 0] ∧ KSt kp K' S' ord lev [] H ∧ GrowR K S K' S' f x) ∨
 (w = .tuple #[u32 0, .int .i64 9] ∧ (∃ K' S' tr', KSt kp K' S' ord lev tr' H ∧ (tr' = [] ∨ tr' = tr) ∧ Kept K S K' S') ∧ ¬ Fits (NodeSet K.n ord (fun g => ((K.held S g ∨ g = lo) ∨ g = hi) ∨ g = f)) K.cap)
theorem Done.ask {lo hi f : Bdd.Fn} {w : Value} {H : Hp} (h : Done kp K S ord lev tr f w H) : AskOut kp K S ord lev tr lo hi f w H := by
 rcases h with h | ⟨h1, h2, h3⟩
 ·exact .inl h
 ·exact .inr ⟨h1, h2, fun hf => h3 (Fits.mono (fun g hg => nodesMono (fun g h => h.imp (fun h => .inl (.inl h)) id) hg) hf)⟩
theorem CompOut.ask {lo hi f : Bdd.Fn} {w : Value} {H : Hp} (h : CompOut kp K S ord lev tr lo hi f w H) : AskOut kp K S ord lev tr lo hi f w H := by
 rcases h with h | ⟨h1, h2, h3⟩
 ·exact .inl h
 ·refine .inr ⟨h1, h2, fun hf => ?_⟩
  rcases h3 with h3 | h3 | h3
  ·exact h3 (Fits.mono (fun g hg => nodesMono (fun g h => .inl (.inl h)) hg) hf)
  ·exact h3 (Fits.mono (fun g hg => nodesMono (fun g h => .inl h) hg) hf)
  ·exact h3 hf
theorem AskOut.two {lo hi f : Bdd.Fn} {w : Value} {H : Hp} (h : AskOut kp K S ord lev tr lo hi f w H) : ∃ x y, w = .tuple #[x, y] := by
 rcases h with ⟨x, K', S', rfl, _⟩ | ⟨rfl, _⟩
 ·exact ⟨_, _, rfl⟩
 ·exact ⟨_, _, rfl⟩
theorem asked_ok {c : Hp → Hp} (hc : Hole C B c) (hcell : ∀ Z, gcell gb kp K.n vr vf ∈ c Z) (hK : KSt kp K S ord lev tr C) (hn1 : 1 ≤ K.n) {o : OpV} (ho : o.Ok) {r h i : Nat} (hr : live K.N r) (hh : live K.N h) (hi : live K.N i) (hB : ∀ s, K.hold s + 2 + 2 ^ K.n ≤ 65535) :
  Fc Tryz.prog 124 #[ptr gb, .agg o.cells.toArray, u32 r, u32 h, u32 i] B (fun w H => ∃ C', H = c C' ∧ AskOut kp K S ord lev tr (fun x => S r (Tab.setb x (o.v % K.n) false)) (fun x => S r (Tab.setb x (o.v % K.n) true)) (opF (o.k % 9) (o.v % K.n) o.x (S r) (S h) (S i)) w C') := by
 have hp1 : 1 ≤ 2 ^ K.n := Nat.one_le_two_pow
 have hn64 := hK.at'.n64
 have hgc : gcell gb kp K.n vr vf ∈ B := by rw [hc.spec.1]; exact hcell C
 have hB1 : ∀ s, K.hold s + 2 ^ K.n ≤ 65535 := fun s => by have := hB s; omega
 have hf2 : ∀ s, K.hold s + 2 < 65535 := fun s => by have := hB s; omega
 have hf1 : ∀ s, K.hold s + 1 < 65535 := fun s => by have := hB s; omega
 intro g
 refine L124_sound (R := FnR _) ?_
 unfold L124
 intro b1 _
 refine FAddr.mk (Ld.mk (v := .int .u8 (o.v : Int)) (by exact .head _) rfl ?_)
 refine ConvI.nat (by have := ho.v; simp [lim]; omega) ?_
 refine Nil.ptr (FAddr.mk (Ld.mk (v := .int .i64 (K.n : Int)) (by exact .tail _ hgc) rfl ?_))
 refine Bin.remN (by omega) ?_
 have hv := Nat.mod_lt o.v (show 0 < K.n by omega)
 generalize o.v % K.n = v at *
 have hx := ho.x
 refine FAddr.mk (Ld.mk (v := .int .u8 (o.k : Int)) (by exact .head _) rfl ?_)
 refine Bin.remN (b := 9) (by decide) ?_
 have hk9 := Nat.mod_lt o.k (show 0 < 9 by decide)
 generalize o.k % 9 = k at *
 obtain ⟨Q, hQ⟩ : ∃ Q : Value → Hp → Prop, Q = fun w H => ∃ C', H = c C' ∧ AskOut kp K S ord lev tr (fun x => S r (Tab.setb x v false)) (fun x => S r (Tab.setb x v true)) (opF k v o.x (S r) (S h) (S i)) w C' := ⟨_, rfl⟩
 rw [← hQ]
 have fin : ∀ w C', AskOut kp K S ord lev tr (fun x => S r (Tab.setb x v false)) (fun x => S r (Tab.setb x v true)) (opF k v o.x (S r) (S h) (S i)) w C' →
   Ext 0 w fun u => Ext 1 w fun u' => FnR Q (.returned (.tuple #[u, u'])) ((b1, .cells o.cells.toArray 134 (0, 0)) :: c C') := fun w C' hA => by
  obtain ⟨x, y, rfl⟩ := hA.two
  refine Ext.mk rfl (Ext.mk rfl (FnR.mk .tail ?_))
  rw [hQ]; exact ⟨C', rfl, hA⟩
 have ent : ∀ C', Ent ((b1, .cells o.cells.toArray 134 (0, 0)) :: c C') [(b1, .cells o.cells.toArray 134 (0, 0)), gcell gb kp K.n vr vf] := fun C' => .cons (.mem1 (hcell C'))
 refine Bin.eqN (b := 0) (Br.dec (fun h0 => ?_) (fun h0 => ?_))
 ·subst h0
  refine Nil.ptr (FAddr.mk (Ld.mk (v := ptr kp) (by exact .tail _ hgc) rfl ?_))
  refine CallF.fn (.cons hc) (avar_ok hK hv (fun s => by have := hB s; omega)) ?_
  intro w C' hD
  exact fin w C' hD.ask
 refine Bin.eqN (b := 1) (Br.dec (fun h0 => ?_) (fun h0 => ?_))
 ·subst h0
  refine Nil.ptr (FAddr.mk (Ld.mk (v := ptr kp) (by exact .tail _ hgc) rfl ?_))
  refine CallF.fn (.cons hc) (anot_ok hK hr hB1) ?_
  intro w C' hD
  exact fin w C' hD.ask
 intro J hJ
 have hJ' : J [.bool (decide (k = 2 ∨ k = 3))] ((b1, .cells o.cells.toArray 134 (0, 0)) :: B) := by
  refine hJ _ _ fun gs => ?_
  refine Br.dec (fun h23 => ?_) (fun h23 => ?_)
  ·refine DR.of (R := [(b1, .cells o.cells.toArray 134 (0, 0)), gcell gb kp K.n vr vf]) (by have := ent C; rwa [← hc.spec.1] at this) ?_
   refine Nil.ptr (FAddr.mk (Ld.mk (v := ptr kp) (by exact .tail _ (.head _)) rfl ?_))
   refine FAddr.mk (Ld.mk (v := .int .u64 (o.x : Int)) (by exact .head _) rfl ?_)
   refine Bin.remN (b := 16) (by decide) ?_
   have h16 := Nat.mod_lt o.x (show 0 < 16 by decide)
   refine ConvI.nat (by simp [lim]; omega) ?_
   refine CallF.fn (.cons hc) (abinary_ok hK h16 hr hh hB1) ?_
   intro w C' hD
   refine ⟨ent C', fin w C' ?_⟩
   rcases h23 with rfl | rfl
   ·exact hD.ask
   ·exact hD.ask
  refine Bin.eqN (b := 4) (Br.dec (fun h0 => ?_) (fun h0 => ?_))
  ·subst h0
   refine Nil.ptr (FAddr.mk (Ld.mk (v := ptr kp) (by exact .tail _ hgc) rfl ?_))
   refine CallF.fn (.cons hc) (aite_ok hK hr hh hi hB1) ?_
   intro w C' hD
   exact fin w C' hD.ask
  refine Bin.eqN (b := 5) (Br.dec (fun h0 => ?_) (fun h0 => ?_))
  ·subst h0
   refine DR.of (R := [(b1, .cells o.cells.toArray 134 (0, 0)), gcell gb kp K.n vr vf]) (by have := ent C; rwa [← hc.spec.1] at this) ?_
   refine Nil.ptr (FAddr.mk (Ld.mk (v := ptr kp) (by exact .tail _ (.head _)) rfl ?_))
   refine FAddr.mk (Ld.mk (v := .int .u64 (o.x : Int)) (by exact .head _) rfl ?_)
   refine Bin.remN (b := 2) (by decide) ?_
   refine Bin.eqN (b := 1) ?_
   refine CallF.fn (.cons hc) (qRestrict_ok hK hr hv hf1) ?_
   intro w C' hD
   exact ⟨ent C', fin w C' hD.ask⟩
  have h64 : 2 ^ v < 18446744073709551616 := Nat.lt_of_lt_of_le (mask_lt hv) (Nat.pow_le_pow_right (n := 2) (by decide) hn64)
  have eq6 : ∀ e : Bool, qf e v (S r) = fun y => opB (if e then 14 else 8) (S r (Tab.setb y v false)) (S r (Tab.setb y v true)) := fun e => by
   funext y
   show (if e then S r (Tab.setb y v false) || S r (Tab.setb y v true) else S r (Tab.setb y v false) && S r (Tab.setb y v true)) = _
   cases e <;> cases S r (Tab.setb y v false) <;> cases S r (Tab.setb y v true) <;> rfl
  refine Bin.eqN (b := 6) (Br.dec (fun h0 => ?_) (fun h0 => ?_))
  ·subst h0
   refine DR.of (R := [(b1, .cells o.cells.toArray 134 (0, 0)), gcell gb kp K.n vr vf]) (by have := ent C; rwa [← hc.spec.1] at this) ?_
   refine Nil.ptr (FAddr.mk (Ld.mk (v := ptr kp) (by exact .tail _ (.head _)) rfl ?_))
   refine Bin.shlN (a := 1) (by simp [IntKind.bits]; omega) (by rw [Nat.one_shiftLeft]; simpa [lim] using h64) ?_
   rw [Nat.one_shiftLeft]
   refine CallF.fn (.cons hc) (exists_ok hK hr (mask_lt hv) hf2) ?_
   intro w C' hD
   have := (EachOut.one hv hD).ask (lo := fun x => S r (Tab.setb x v false)) (hi := fun x => S r (Tab.setb x v true))
   rw [eq6 true] at this
   exact ⟨ent C', fin w C' this⟩
  refine Bin.eqN (b := 7) (Br.dec (fun h0 => ?_) (fun h0 => ?_))
  ·subst h0
   refine DR.of (R := [(b1, .cells o.cells.toArray 134 (0, 0)), gcell gb kp K.n vr vf]) (by have := ent C; rwa [← hc.spec.1] at this) ?_
   refine Nil.ptr (FAddr.mk (Ld.mk (v := ptr kp) (by exact .tail _ (.head _)) rfl ?_))
   refine Bin.shlN (a := 1) (by simp [IntKind.bits]; omega) (by rw [Nat.one_shiftLeft]; simpa [lim] using h64) ?_
   rw [Nat.one_shiftLeft]
   refine CallF.fn (.cons hc) (forall_ok hK hr (mask_lt hv) hf2) ?_
   intro w C' hD
   have := (EachOut.one hv hD).ask (lo := fun x => S r (Tab.setb x v false)) (hi := fun x => S r (Tab.setb x v true))
   rw [eq6 false] at this
   exact ⟨ent C', fin w C' this⟩
  ·have : k = 8 := by omega
   subst this
   refine Nil.ptr (FAddr.mk (Ld.mk (v := ptr kp) (by exact .tail _ hgc) rfl ?_))
   refine CallF.fn (.cons hc) (comp_ok hK hr hv hh hB) ?_
   intro w C' hD
   exact fin w C' hD.ask
 refine Bin.eqN (b := 2) (Br.dec (fun h2 => ?_) (fun h2 => ?_))
 ·have : decide (k = 2) = decide (k = 2 ∨ k = 3) := by simp [h2]
  rw [this]; exact JE.mk hJ'
 ·refine Bin.eqN (b := 3) ?_
  have : decide (k = 3) = decide (k = 2 ∨ k = 3) := by simp [h2]
  rw [this]; exact JE.mk hJ'
theorem gsize_ok (hG : GIn gb kp K.n vr vf refs fs C B) (hfr : ∀ t ∈ fs, Tab.Frm K.n t) (hK : KSt kp K S ord lev tr C) (hm : fs.length < 65536) {more : Value} {ms : List (List Nat)} (hmo : Tbls B more (ms.map fun ws => ⟨K.n, ws⟩)) (hmf : ∀ t ∈ ms, Tab.Frm K.n t) (hml : ms.length ≤ 1) (hne : fs ++ ms ≠ []) :
  Px Tryz.prog 77 #[ptr gb, more] B (fun w H => w = .int .i64 ((sizeN K.n ord (fs ++ ms) K.n : Nat) : Int)) := by
 intro g
 refine L77_sound (R := FnR _) ?_
 unfold L77
 refine BuildSl.none (e := 55) (k := 2) (z := .agg #[.int .i64 0, .slice none 0 0]) (by kernel_rfl) (by kernel_rfl) (by kernel_rfl) fun bx => ?_
 refine Nil.ptr (FAddr.mk (Ld.mk (v := vf) (by exact .tail _ hG.cell) rfl ?_))
 obtain ⟨rf, hSf, hEf⟩ := hG.fn
 obtain ⟨rm, hSm, hEm⟩ := hmo
 have lf : rf.length = fs.length := by rw [hEf.1, List.length_map]
 have lm : rm.length = ms.length := by rw [hEm.1, List.length_map]
 have oneRow : ∀ {X : Hp} {rs : List (List Value)} {ts : List Tb}, Each (TRow X) rs ts → ∀ r ∈ rs, ∀ u ∈ r, u.oneCell' = true := fun hE r hr u hu => by
  obtain ⟨i, hi, rfl⟩ := List.mem_iff_getElem.1 hr
  obtain ⟨s, hs, hw⟩ := hE.2 i _ _ (List.getElem?_eq_getElem hi) (List.getElem?_eq_getElem (by rw [← hE.1]; exact hi))
  rw [hs] at hu
  simp only [List.mem_cons, List.not_mem_nil, or_false] at hu
  rcases hu with rfl | rfl
  ·rfl
  ·exact oneCell_words hw
 have hS0 : SOwn 55 2 (.slice (some ⟨bx, 0, none⟩) 0 0) [] [(bx, .cells (rows []) 55 (0, 0))] := SOwn.made [] (by simp)
 refine hS0.appsH (C := [(bx, .cells (rows []) 55 (0, 0))]) (c := fun X => X ++ B) (Hole.left (C := [(bx, .cells (rows []) 55 (0, 0))])) (hSf.mono (fun _ h => by repeat (first | exact h | apply List.mem_cons_of_mem | apply List.mem_append_right))) (oneRow hEf) ⟨[.int .i64 0, .slice none 0 0], rfl, rfl⟩ (by simp only [List.length_nil]; omega) (by simp only [List.length_nil]; omega) fun v8 C8 h8 => ?_
 refine h8.appsH .left (hSm.mono fun _ h => List.mem_append_right _ h) (oneRow hEm) ⟨[.int .i64 0, .slice none 0 0], rfl, rfl⟩ (by simp only [List.nil_append]; omega) (by simp only [List.nil_append]; omega) fun v12 C12 h12 => ?_
 refine Nil.ptr (FAddr.mk (Ld.mk (v := ptr kp) (by exact List.mem_append_right _ hG.cell) rfl ?_))
 obtain ⟨c, hc, _⟩ := hG.hole
 refine CallF.top (Q := fun r N => IOwn 3 .i64 r (iw ord) N) (.app hc) (korder_ok hK.rep) ?_
 intro vo N ho
 have hT : Tbls (N ++ (C12 ++ B)) v12 ((fs ++ ms).map fun ws => ⟨K.n, ws⟩) := by
  refine ⟨[] ++ rf ++ rm, (Sl.ofOwn h12 (by decide)).mono fun _ h => List.mem_append_right _ (List.mem_append_left _ h), ?_, fun i r x hr hx => ?_⟩
  ·simp only [List.nil_append, List.length_append, List.length_map]; omega
  ·rw [List.nil_append] at hr
   rw [List.map_append] at hx
   by_cases hi : i < rf.length
   ·rw [List.getElem?_append_left hi] at hr
    rw [List.getElem?_append_left (by rw [List.length_map]; omega)] at hx
    obtain ⟨s, h1, h2⟩ := hEf.2 i r x hr hx
    exact ⟨s, h1, h2.mono (fun _ h => by repeat (first | exact h | apply List.mem_cons_of_mem | apply List.mem_append_right))⟩
   ·rw [List.getElem?_append_right (by omega)] at hr
    rw [List.getElem?_append_right (by rw [List.length_map]; omega)] at hx
    rw [List.length_map, ← lf] at hx
    obtain ⟨s, h1, h2⟩ := hEm.2 _ r x hr hx
    exact ⟨s, h1, h2.mono (fun _ h => by repeat (first | exact h | apply List.mem_cons_of_mem | apply List.mem_append_right))⟩
 refine CallF.px .here (size_ok hT (fun t ht => (List.mem_append.1 ht).elim (hfr t) (hmf t)) hne (by rw [List.length_append]; omega) (ho.ints.mono fun _ h => List.mem_append_left _ h) hK.od.len (allIn_perm hK.perm)) ?_
 rintro w N2 rfl
 refine Ext.mk rfl (Ext.mk rfl ?_)
 refine Bin.neD (Br.decF (by decide) ?_)
 exact PxR.mk (by repeat (first | exact Grow.refl _ | apply Grow.cons | apply Grow.app)) rfl
end
end Go.Proofs
set_option maxRecDepth 100000
namespace Go.Proofs
open Go Go.Sx
open Bdd
section
variable {kp gb n : Nat} {vr vf : Value} {refs : List Nat} {fs : List (List Nat)} {K : Kd} {S : Nat → Bdd.Fn} {ord lev tr : List Nat} {C B : Hp}
theorem SOwn.one {T : TypeId} {k : Nat} {v : Value} {l : List (List Value)} (h : SOwn T k v l C) : v.oneCell' = true := by obtain ⟨a, c, e⟩ := SOwn.len h; rw [e]; rfl
theorem gain_no {r : Nat} (h2 : r < 2) {s : Value} (B : Hp) : Fc Tryz.prog 125 #[ptr gb, u32 r, .agg #[.int .i64 (n : Int), s]] B (fun _ H => H = B) := by
 intro g
 refine L125_sound (R := FnR _) ?_
 unfold L125
 intro b1 _
 exact Bin.gtN (b := 1) (Br.decF (by omega) (FnR.mk .tail rfl))
theorem gain_ok {r : Nat} (h2 : 2 ≤ r) {s : Value} {CR CF D : Hp} {rs : List (List Value)} (hr : IOwn 31 .u32 vr (iw refs) CR) (hf : SOwn 55 2 vf rs CF) (hs : s.oneCell' = true) (hl1 : refs.length < 1048576) (hl2 : rs.length < 1048576) :
  Fc Tryz.prog 125 #[ptr gb, u32 r, .agg #[.int .i64 (n : Int), s]] (gcell gb kp n vr vf :: (CR ++ (CF ++ D))) (fun _ H => ∃ vr' vf' CR' CF', H = gcell gb kp n vr' vf' :: (CR' ++ (CF' ++ D)) ∧ IOwn 31 .u32 vr' (iw (refs ++ [r])) CR' ∧ SOwn 55 2 vf' (rs ++ [[.int .i64 (n : Int), s]]) CF') := by
 intro g
 refine L125_sound (R := FnR _) ?_
 unfold L125
 intro b1 _
 refine Bin.gtN (b := 1) (Br.decT (by omega) ?_)
 refine Nil.ptr (FAddr.mk (Ld.mk (v := vr) (by exact .tail _ (.head _)) rfl ?_))
 refine BuildSl.int (e := 31) (by kernel_rfl) (by kernel_rfl) (by kernel_rfl) fun bx => ?_
 refine hr.appH (x := (r : Int)) (.cons (.cons (.cons .left))) (by exact .head _) (by rw [iw_length]; omega) (by rw [iw_length]; omega) fun vr' CR' hr' => ?_
 refine Nil.ptr (FAddr.mk (St.one (by exact .tail (.tail (.head _))) hr'.one (by simp) rfl ?_))
 refine DR.of (R := [(b1, .cells #[.int .i64 (n : Int), s] 55 (0, 0)), gcell gb kp n vr' vf]) (.skip (.cons (Ent.left (A := [_])))) ?_
 refine Nil.ptr (FAddr.mk (Ld.mk (v := vf) (by exact .tail _ (.head _)) rfl ?_))
 refine LdA.whole (r := [.int .i64 (n : Int), s]) (by exact .head _) rfl ?_
 refine buildOne fun by' => ?_
 refine ⟨.skip (.skip (.cons (Ent.left (A := [_])))), ?_⟩
 have h1 : ∀ u ∈ [Value.int .i64 (n : Int), s], u.oneCell' = true := by simpa [Value.oneCell'] using hs
 refine hf.appH (r := [.int .i64 (n : Int), s]) (.cons (.cons (.cons (.cons (.app .left))))) (by exact .head _) rfl h1 ⟨[.int .i64 0, .slice none 0 0], rfl, rfl⟩ (by omega) (by omega) fun vf' CF' hf' => ?_
 refine ⟨.skip (.skip (.cons (Ent.left (A := [_])))), ?_⟩
 refine Nil.ptr (FAddr.mk (St.one (by exact .tail (.tail (.tail (.head _)))) (SOwn.one hf') (by simp) rfl ?_))
 refine FnR.mk (.skip (.skip .tail)) ⟨vr', vf', CR', CF', rfl, ?_, hf'⟩
 rw [iw_append]; exact hr'
structure GOk (gb kp : Nat) (K : Kd) (S : Nat → Bdd.Fn) (ord lev tr : List Nat) (refs : List Nat) (fs : List (List Nat)) (vr vf : Value) (M CR CF C : Hp) (rs : List (List Value)) : Prop where
 ks : KSt kp K S ord lev tr C
 gar : Gar K S refs fs
 rf : IOwn 31 .u32 vr (iw refs) CR
 fn : SOwn 55 2 vf rs CF
 row : Each (TRow M) rs (fs.map fun ws => ⟨K.n, ws⟩)
abbrev gG (gb kp n : Nat) (vr vf : Value) (CR CF C : Hp) : Hp := gcell gb kp n vr vf :: (CR ++ (CF ++ C))
theorem GOk.look {rs : List (List Value)} {M CR CF : Hp} (h : GOk gb kp K S ord lev tr refs fs vr vf M CR CF C rs) : GLook gb kp K.n vr vf refs fs M (gG gb kp K.n vr vf CR CF C) :=
 ⟨.head _, h.rf.ints.mono fun _ h => .tail _ (List.mem_append_left _ h), rs, (Sl.ofOwn h.fn (by decide)).mono fun _ h => .tail _ (List.mem_append_right _ (List.mem_append_left _ h)), h.row⟩
theorem GOk.rlen {rs : List (List Value)} {M CR CF : Hp} (h : GOk gb kp K S ord lev tr refs fs vr vf M CR CF C rs) : rs.length = refs.length := by
 rw [h.row.1, List.length_map, h.gar.len]
theorem fits_few (hn : K.n ≤ 6) (hcap : K.cap = 4000) (hod : Bdd.Ord K.n (lv lev) ord) {L : List (List Nat)} (hf : ∀ t ∈ L, Tab.Frm K.n t) (hl : L.length ≤ 60) : Fits (NodeSet K.n ord (FT K.n L)) K.cap := by
 refine ⟨_, cnt_FT hf (by omega) (fun i hi => (hod.at' i hi).1), ?_⟩
 have h1 := sizeN_le2 K.n ord L K.n
 have h2 : 2 ^ K.n * L.length ≤ 64 * L.length := Nat.mul_le_mul_right _ (Nat.pow_le_pow_right (n := 2) (by decide) hn)
 rw [hcap]; omega
theorem Gar.more (h : Gar K S refs fs) (hK : KSt kp K S ord lev tr C) {K' : Kd} {S' : Nat → Bdd.Fn} {f : Bdd.Fn} {x : Nat} {t : List Nat} (hg : GrowR K S K' S' f x) (hf : Tab.Frm K.n t) (ht : fnT K.n t = f) : (2 ≤ x → Gar K' S' (refs ++ [x]) (fs ++ [t])) ∧ (x < 2 → Gar K' S' refs fs) := by
 have old : ∀ i, i < refs.length → 2 ≤ refs.getD i 0 ∧ fnT K'.n (fs.getD i []) = S' (refs.getD i 0) := fun i hi => by
  obtain ⟨h1, h2⟩ := h.is i hi
  have hm : refs.getD i 0 ∈ refs := by rw [List.getD_eq_getElem?_getD, List.getElem?_eq_getElem hi]; exact List.getElem_mem hi
  exact ⟨h1, by rw [hg.n, h2, hg.fn _ (h.live hK hm)]⟩
 refine ⟨fun h2 => ⟨by simp [h.len], fun u hu => ?_, fun i hi => ?_, fun s => ?_⟩, fun h2 => ⟨h.len, by rw [hg.n]; exact h.frm, old, fun s => by rw [hg.hold, h.hold, if_neg (by omega)]; rfl⟩⟩
 ·rw [hg.n]
  rcases List.mem_append.1 hu with hu | hu
  ·exact h.frm u hu
  ·simp at hu; subst hu; exact hf
 ·by_cases hi' : i < refs.length
  ·have e1 : (refs ++ [x]).getD i 0 = refs.getD i 0 := by rw [List.getD_eq_getElem?_getD, List.getElem?_append_left hi', ← List.getD_eq_getElem?_getD]
   have e2 : (fs ++ [t]).getD i [] = fs.getD i [] := by rw [List.getD_eq_getElem?_getD, List.getElem?_append_left (by rw [← h.len]; exact hi'), ← List.getD_eq_getElem?_getD]
   rw [e1, e2]; exact old i hi'
  ·have hie : i = refs.length := by rw [List.length_append, List.length_singleton] at hi; omega
   have e1 : (refs ++ [x]).getD i 0 = x := by rw [List.getD_eq_getElem?_getD, List.getElem?_append_right (by omega), hie, Nat.sub_self]; rfl
   have e2 : (fs ++ [t]).getD i [] = t := by rw [List.getD_eq_getElem?_getD, List.getElem?_append_right (by rw [← h.len]; omega), hie, h.len, Nat.sub_self]; rfl
   rw [e1, e2, hg.n, ht, hg.is]
   exact ⟨h2, rfl⟩
 ·rw [hg.hold, h.hold, List.count_append, List.count_singleton]
  by_cases e : s = x
  ·subst e; simp [h2]
  ·have : (x == s) = false := by simpa using fun e' => e e'.symm
   simp [e, this]
def OpOut (gb kp : Nat) (K : Kd) (S : Nat → Bdd.Fn) (ord lev : List Nat) (refs : List Nat) (M0 : Hp) (o : OpV) (w : Value) (H : Hp) : Prop :=
 w = .bool true ∧ ∃ (x a b c : Nat) (K' : Kd) (S' : Nat → Bdd.Fn) (refs' : List Nat) (fs' : List (List Nat)) (vr vf : Value) (M CR CF C : Hp) (rs : List (List Value)), H = M ++ gG gb kp K.n vr vf CR CF C ∧ Grow M0 M ∧ GOk gb kp K' S' ord lev [] refs' fs' vr vf M CR CF C rs ∧ K'.n = K.n ∧ K'.cap = K.cap ∧
  refs' = refs ++ (if 2 ≤ x then [x] else []) ∧ S' x = opF (o.k % 9) (o.v % K.n) o.x (S a) (S b) (S c) ∧ live K'.N x ∧ (∀ s, live K.N s → S' s = S s)
set_option maxHeartbeats 1000000 in
theorem op_ok {M CR CF : Hp} {rs : List (List Value)} (h : GOk gb kp K S ord lev tr refs fs vr vf M CR CF C rs) (hn1 : 1 ≤ K.n) (hn : K.n ≤ 6) (hcap : K.cap = 4000) (hl : refs.length ≤ 50) {o : OpV} (ho : o.Ok) :
  Fc Tryz.prog 75 #[ptr gb, .agg o.cells.toArray] (M ++ gG gb kp K.n vr vf CR CF C) (OpOut gb kp K S ord lev refs M o) := by
 have hK := h.ks
 have hod := hK.od
 have hlf : fs.length ≤ 50 := by rw [← h.gar.len]; exact hl
 have one : ∀ {X : Hp} {s : Value} {l : List Nat}, Words X s l → ∀ x ∈ [Value.int .i64 (K.n : Int), s], x.oneCell' = true := fun hw => by have := oneCell_words hw; simpa [Value.oneCell'] using this
 intro g
 refine L75_sound (R := FnR _) ?_
 unfold L75
 intro b1 _
 refine FAddr.mk (Ld.mk (v := .int .u8 (o.a : Int)) (by exact .head _) rfl ?_)
 have look1 : GLook gb kp K.n vr vf refs fs ((b1, Obj.cells o.cells.toArray 134 (0, 0)) :: M) (gG gb kp K.n vr vf CR CF C) := h.look.grow fun _ h => .tail _ h
 refine CallF.fn (C := ((b1, Obj.cells o.cells.toArray 134 (0, 0)) :: M) ++ gG gb kp K.n vr vf CR CF C) .here (pick_ok look1 h.gar hK (by omega) (by omega) ho.a) ?_
 rintro w H ⟨M1, rfl, g1, r, _, rfl, lr, w1, ⟨s1, rfl, hw1⟩, hf1, he1⟩
 have m1 := g1.sub _ (List.Mem.head _)
 refine Ext.mk rfl (Ext.mk rfl ?_)
 intro b9 _
 refine St.whole (r := [.int .i64 (K.n : Int), s1]) (by exact .head _) rfl rfl (one hw1) ?_
 refine FAddr.mk (Ld.mk (v := .int .u8 (o.b : Int)) (by exact .tail _ (List.mem_append_left _ m1)) rfl ?_)
 have look2 : GLook gb kp K.n vr vf refs fs ((b9, Obj.cells #[.int .i64 (K.n : Int), s1] 55 (0, 0)) :: M1) (gG gb kp K.n vr vf CR CF C) := (look1.grow g1.sub).grow fun _ h => .tail _ h
 refine CallF.fn (C := ((b9, Obj.cells #[.int .i64 (K.n : Int), s1] 55 (0, 0)) :: M1) ++ gG gb kp K.n vr vf CR CF C) .here (pick_ok look2 h.gar hK (by omega) (by omega) ho.b) ?_
 rintro w H ⟨M2, rfl, g2, q, _, rfl, lq, w2, ⟨s2, rfl, hw2⟩, hf2, he2⟩
 have m1 := g2.sub _ (List.Mem.tail _ m1)
 have m9 := g2.sub _ (List.Mem.head _)
 refine Ext.mk rfl (Ext.mk rfl ?_)
 intro b18 _
 refine St.whole (r := [.int .i64 (K.n : Int), s2]) (by exact .head _) rfl rfl (one hw2) ?_
 refine FAddr.mk (Ld.mk (v := .int .u8 (o.c : Int)) (by exact .tail _ (List.mem_append_left _ m1)) rfl ?_)
 have look3 : GLook gb kp K.n vr vf refs fs ((b18, Obj.cells #[.int .i64 (K.n : Int), s2] 55 (0, 0)) :: M2) (gG gb kp K.n vr vf CR CF C) := (look2.grow g2.sub).grow fun _ h => .tail _ h
 refine CallF.fn (C := ((b18, Obj.cells #[.int .i64 (K.n : Int), s2] 55 (0, 0)) :: M2) ++ gG gb kp K.n vr vf CR CF C) .here (pick_ok look3 h.gar hK (by omega) (by omega) ho.c) ?_
 rintro w H ⟨M3, rfl, g3, p, _, rfl, lp, w3, ⟨s3, rfl, hw3⟩, hf3, he3⟩
 have m1 := g3.sub _ (List.Mem.tail _ m1)
 have m9 := g3.sub _ (List.Mem.tail _ m9)
 have m18 := g3.sub _ (List.Mem.head _)
 refine Ext.mk rfl (Ext.mk rfl ?_)
 intro b27 _
 refine St.whole (r := [.int .i64 (K.n : Int), s3]) (by exact .head _) rfl rfl (one hw3) ?_
 refine LdA.whole (r := o.cells) (by exact .tail _ (List.mem_append_left _ m1)) rfl ?_
 refine LdA.whole (r := [.int .i64 (K.n : Int), s1]) (by exact .tail _ (List.mem_append_left _ m9)) rfl ?_
 refine LdA.whole (r := [.int .i64 (K.n : Int), s2]) (by exact .tail _ (List.mem_append_left _ m18)) rfl ?_
 refine LdA.whole (r := [.int .i64 (K.n : Int), s3]) (by exact .head _) rfl ?_
 have look4 : GLook gb kp K.n vr vf refs fs ((b27, Obj.cells #[.int .i64 (K.n : Int), s3] 55 (0, 0)) :: M3) (gG gb kp K.n vr vf CR CF C) := (look3.grow g3.sub).grow fun _ h => .tail _ h
 have t1 : TabF ((b27, Obj.cells #[.int .i64 (K.n : Int), s3] 55 (0, 0)) :: M3) (.agg #[.int .i64 (K.n : Int), s1]) K.n (S r) := ⟨w1, ⟨s1, rfl, hw1.mono fun x hx => .tail _ (g3.sub _ (.tail _ (g2.sub _ (.tail _ hx))))⟩, hf1, he1⟩
 have t2 : TabF ((b27, Obj.cells #[.int .i64 (K.n : Int), s3] 55 (0, 0)) :: M3) (.agg #[.int .i64 (K.n : Int), s2]) K.n (S q) := ⟨w2, ⟨s2, rfl, hw2.mono fun x hx => .tail _ (g3.sub _ (.tail _ hx))⟩, hf2, he2⟩
 have t3 : TabF ((b27, Obj.cells #[.int .i64 (K.n : Int), s3] 55 (0, 0)) :: M3) (.agg #[.int .i64 (K.n : Int), s3]) K.n (S p) := ⟨w3, ⟨s3, rfl, hw3.mono fun x hx => .tail _ hx⟩, hf3, he3⟩
 refine CallF.fn (C := ((b27, Obj.cells #[.int .i64 (K.n : Int), s3] 55 (0, 0)) :: M3) ++ gG gb kp K.n vr vf CR CF C) .here (told'_ok look4 (by omega) hn1 ho t1 t2 t3) ?_
 rintro w H ⟨M4, rfl, g4, _, rfl, w4, ⟨s4, rfl, hw4⟩, hf4, he4⟩
 have m1 := g4.sub _ (List.Mem.tail _ m1)
 refine Ext.mk rfl (Ext.mk rfl ?_)
 intro b38 _
 refine St.whole (r := [.int .i64 (K.n : Int), s4]) (by exact .head _) rfl rfl (one hw4) ?_
 refine LdA.whole (r := o.cells) (by exact .tail _ (List.mem_append_left _ m1)) rfl ?_
 have hcnt : ∀ s, K.hold s ≤ 50 := fun s => by
  rw [h.gar.hold]
  have := List.count_le_length (a := s) (l := refs)
  omega
 have h64 : 2 ^ K.n ≤ 64 := Nat.pow_le_pow_right (n := 2) (by decide) hn
 have hv := Nat.mod_lt o.v (show 0 < K.n by omega)
 obtain ⟨M5, hM5⟩ : ∃ M5 : Hp, M5 = (b38, Obj.cells #[.int .i64 (K.n : Int), s4] 55 (0, 0)) :: M4 := ⟨_, rfl⟩
 have look5 : GLook gb kp K.n vr vf refs fs M5 (gG gb kp K.n vr vf CR CF C) := by rw [hM5]; exact (look4.grow g4.sub).grow fun _ h => .tail _ h
 have m38 : (b38, Obj.cells #[.int .i64 (K.n : Int), s4] 55 (0, 0)) ∈ M5 := by rw [hM5]; exact .head _
 have hw5 : Words M5 s4 w4 := by rw [hM5]; exact hw4.mono fun _ h => .tail _ h
 have gM : Grow M M5 := by rw [hM5]; exact .cons ((((Grow.refl M).cons.trans g1).cons.trans g2).cons.trans g3 |>.cons.trans g4)
 change CallF Tryz.prog g _ _ (((b38, Obj.cells #[.int .i64 (K.n : Int), s4] 55 (0, 0)) :: M4) ++ gG gb kp K.n vr vf CR CF C) _ _
 rw [← hM5]
 refine CallF.fn (args := #[ptr gb, .agg o.cells.toArray, u32 r, u32 q, u32 p]) .here (asked_ok (gb := gb) (vr := vr) (vf := vf) (c := fun Z => M5 ++ gG gb kp K.n vr vf CR CF Z) (.app (.cons (.app (.app .here)))) (fun Z => List.mem_append_right _ (.head _)) hK hn1 ho lr lq lp (fun s => by have := hcnt s; omega)) ?_
 rintro w H ⟨C', rfl, (⟨x, K', S', rfl, hK', hgr⟩ | ⟨rfl, _, hno⟩)⟩
 rotate_left
 ·exfalso
  refine hno (Fits.mono (fun g hg => nodesMono (fun g h' => ?_) hg) (fits_few hn hcap hod (L := fs ++ [Tab.cof K.n w1 (o.v % K.n) false, Tab.cof K.n w1 (o.v % K.n) true, w4]) (fun t ht => ?_) (by rw [List.length_append]; simp; omega)))
  ·rcases h' with ((h' | h') | h') | h'
   ·obtain ⟨t, ht, e⟩ := (h.gar.held g).1 h'
    exact ⟨t, List.mem_append_left _ ht, e⟩
   ·exact ⟨Tab.cof K.n w1 (o.v % K.n) false, by simp, by rw [fnT_cof hf1 hv, he1]; exact h'⟩
   ·exact ⟨Tab.cof K.n w1 (o.v % K.n) true, by simp, by rw [fnT_cof hf1 hv, he1]; exact h'⟩
   ·exact ⟨w4, by simp, by rw [he4]; exact h'⟩
  ·rcases List.mem_append.1 ht with ht | ht
   ·exact h.gar.frm t ht
   ·simp only [List.mem_cons, List.not_mem_nil, or_false] at ht
    rcases ht with rfl | rfl | rfl
    ·exact Tab.frm_cof (by omega)
    ·exact Tab.frm_cof (by omega)
    ·exact hf4
 refine Ext.mk rfl (Ext.mk rfl ?_)
 refine Bin.neD (Br.decF (by decide) ?_)
 refine DR.self ?_
 refine LdA.whole (r := [.int .i64 (K.n : Int), s4]) (by exact List.mem_append_left _ m38) rfl ?_
 refine Nil.ptr (FAddr.mk (Ld.mk (v := ptr kp) (by exact List.mem_append_right _ (.head _)) rfl ?_))
 refine buildOne fun bs => ?_
 refine ⟨.tail, ?_⟩
 obtain ⟨rs', hSl, hE⟩ := look5.fn
 have hgin : GIn gb kp K'.n vr vf refs fs C' ((bs, Obj.cells #[.int .i64 (K.n : Int), s4] 55 (0, 0)) :: (M5 ++ gG gb kp K.n vr vf CR CF C')) := by
  rw [hgr.n]
  refine GIn.cons ?_ _
  refine ⟨List.mem_append_right _ (.head _), h.rf.ints.mono fun _ h => List.mem_append_right _ (.tail _ (List.mem_append_left _ h)), ⟨rs, (Sl.ofOwn h.fn (by decide)).mono fun _ h => List.mem_append_right _ (.tail _ (List.mem_append_right _ (List.mem_append_left _ h))), h.row.mono fun _ _ h => h.mono fun _ h => List.mem_append_left _ (gM.sub _ h)⟩,
   _, .app (.cons (.app (.app .here))), fun Z => List.mem_append_right _ (.head _)⟩
 have hmore : Tbls ((bs, Obj.cells #[.int .i64 (K.n : Int), s4] 55 (0, 0)) :: (M5 ++ gG gb kp K.n vr vf CR CF C')) (.slice (some ⟨bs, 0, none⟩) 1 1) ([w4].map fun ws => ⟨K'.n, ws⟩) := by
  rw [hgr.n]
  exact Tbls.one (cap := 0) (t := ⟨K.n, w4⟩) (.head _) (hw5.mono fun _ h => .tail _ (List.mem_append_left _ h))
 refine CallF.px .here (gsize_ok (ms := [w4]) hgin (by rw [hgr.n]; exact h.gar.frm) hK' (by omega) hmore (by rw [hgr.n]; intro t ht; simp at ht; subst ht; exact hf4) (by simp) (by simp)) ?_
 rintro w N5 rfl
 refine ⟨.skips .tail, ?_⟩
 have hsz := sizeN_le2 K'.n ord (fs ++ [w4]) K'.n
 have hsz2 : 2 ^ K'.n * (fs ++ [w4]).length ≤ 64 * 51 := by rw [hgr.n, List.length_append]; exact Nat.mul_le_mul h64 (by simp; omega)
 refine Bin.addN (b := 2) (by simp only [lim]; omega) ?_
 refine CallF.rd (.app (.cons (.app (.cons (.app (.app .here)))))) (knodes_ok hK'.rep) ?_
 rintro w rfl
 refine ⟨.skips .tail, ?_⟩
 refine Bin.leN ?_
 rw [hgr.cap, hcap, decide_eq_true (by omega)]
 refine Bin.eqD (Br.decF (by decide) ?_)
 refine Bin.neD ?_
 refine Grp.or (a := decide ((0 : Int) ≠ 0)) false (fun _ => Un.not ⟨rfl, rfl⟩) (by simp) fun gs => ?_
 refine Br.mk (fun hb => by simp at hb) (fun _ => ?_)
 refine LdA.whole (r := [.int .i64 (K.n : Int), s4]) (by exact List.mem_append_right _ (.tail _ (List.mem_append_left _ m38))) rfl ?_
 have more := h.gar.more hK hgr hf4 he4
 have row' : Each (TRow (N5 ++ (bs, Obj.cells #[.int .i64 (K.n : Int), s4] 55 (0, 0)) :: M5)) rs (fs.map fun ws => ⟨K'.n, ws⟩) := by
  rw [hgr.n]
  exact h.row.mono fun _ _ h => h.mono fun _ h => List.mem_append_right _ (.tail _ (gM.sub _ h))
 have eH : N5 ++ (bs, Obj.cells #[.int .i64 (K.n : Int), s4] 55 (0, 0)) :: (M5 ++ gG gb kp K.n vr vf CR CF C') = (N5 ++ (bs, Obj.cells #[.int .i64 (K.n : Int), s4] 55 (0, 0)) :: M5) ++ gG gb kp K.n vr vf CR CF C' := by rw [List.append_assoc]; rfl
 rw [eH]
 by_cases hx2 : 2 ≤ x
 ·refine CallF.fn (.app .here) (gain_ok (n := K.n) hx2 (s := s4) h.rf h.fn (oneCell_words hw4) (by omega) (by rw [h.rlen]; omega)) ?_
  rintro w H ⟨vr', vf', CR', CF', rfl, hr', hf'⟩
  refine FnR.here ⟨rfl, x, r, q, p, K', S', refs ++ [x], fs ++ [w4], vr', vf', _, CR', CF', C', rs ++ [[.int .i64 (K.n : Int), s4]], rfl, .app (.cons gM), ⟨hK', more.1 hx2, hr', hf', ?_⟩, hgr.n, hgr.cap, by rw [if_pos hx2], hgr.is, hgr.live, hgr.fn⟩
  refine ⟨by rw [List.length_append, row'.1, List.map_append, List.length_append]; rfl, fun i row t hr ht => ?_⟩
  rw [List.map_append] at ht
  by_cases hi : i < rs.length
  ·rw [List.getElem?_append_left hi] at hr
   rw [List.getElem?_append_left (by rw [← row'.1]; exact hi)] at ht
   exact row'.2 i row t hr ht
  ·rw [List.getElem?_append_right (by omega)] at hr
   rw [List.getElem?_append_right (by rw [← row'.1]; omega), ← row'.1] at ht
   have h0 : i - rs.length = 0 := by
    have := (List.getElem?_eq_some_iff.1 hr).1
    simp at this; omega
   rw [h0] at hr ht
   simp at hr ht
   subst hr; subst ht
   exact ⟨s4, by rw [hgr.n], hw5.mono fun _ h => List.mem_append_right _ (.tail _ h)⟩
 ·refine CallF.fn .here (gain_no (gb := gb) (n := K.n) (r := x) (by omega) _) ?_
  rintro w H rfl
  exact FnR.here ⟨rfl, x, r, q, p, K', S', refs, fs, vr, vf, _, CR, CF, C', rs, rfl, .app (.cons gM), ⟨hK', more.2 (by omega), h.rf, h.fn, row'⟩, hgr.n, hgr.cap, by rw [if_neg hx2, List.append_nil], hgr.is, hgr.live, hgr.fn⟩
end
end Go.Proofs
set_option maxRecDepth 100000
namespace Go.Proofs
open Go Go.Sx
open Bdd
section
variable {kp gb n : Nat} {vr vf : Value} {refs : List Nat} {fs : List (List Nat)} {K : Kd} {S : Nat → Bdd.Fn} {ord lev tr : List Nat} {C B : Hp}
theorem below_ok (hG : GIn gb kp K.n vr vf refs fs C B) (hK : KSt kp K S ord lev tr C) {r l : Nat} (hr : live K.N r) (hl : l < dep K.n (lv lev) K.N r) :
  Rd Tryz.prog 133 #[ptr gb, u32 r, .int .i64 (l : Int)] B (· = .bool true) := by
 obtain ⟨c, hc, _⟩ := hG.hole
 have hlt := hK.live_lt hr
 intro g
 refine L133_sound (R := FnR _) ?_
 unfold L133
 refine Nil.ptr (FAddr.mk (Ld.mk (v := ptr kp) (by exact hG.cell) rfl ?_))
 refine CallF.rd (args := #[ptr kp, u32 r]) hc (kNode_ok hK.rep (by omega)) ?_
 rw [liveB_iff.2 hr]
 rintro w rfl
 refine Ext.mk rfl (Ext.mk rfl ?_)
 intro b8 _
 refine St.whole (r := got K.N r) (by exact .head _) rfl (got_one _ _).1 (got_one _ _).2 ?_
 refine Bin.neD ?_
 rw [show decide ((if true = true then (0 : Int) else 3) ≠ 0) = false by decide]
 refine Grp.or (a := false) (decide (r < 2)) (fun _ => Bin.ltN (b := 2) ⟨rfl, rfl⟩) rfl fun gs => ?_
 rw [Bool.false_or]
 refine Br.dec (fun h2 => ?_) (fun h2 => ?_)
 ·exact Bin.eqD (RdR.mk .tail rfl)
 ·obtain ⟨d, hd⟩ : ∃ d, K.N r = some d := by rcases hr with h | h; exact absurd h h2; exact h
  have hv := hK.ok.wf.var hd
  rw [dep_some hd] at hl
  refine DR.self ?_
  refine Nil.ptr (FAddr.mk (Ld.mk (v := ptr kp) (by exact .tail _ hG.cell) rfl ?_))
  rw [got_some hd (by omega)]
  refine FAddr.mk (Ld.mk (v := .int .i64 (d.v : Int)) (by exact .head _) rfl ?_)
  refine CallF.rd (.cons hc) (kLevel_ok hK.rep (d.v : Int)) ?_
  rw [if_pos (by omega)]
  rintro w rfl
  refine ⟨.refl _, ?_⟩
  refine Ext.mk rfl (Ext.mk rfl ?_)
  refine Bin.eqD ?_
  refine Grp.and (a := decide ((0 : Int) = 0)) (decide (l < lv lev d.v)) (fun _ => Bin.gtN ⟨rfl, rfl⟩) (by simp) fun gs => ?_
  rw [decide_eq_true hl]
  exact RdR.mk .tail rfl
set_option maxHeartbeats 1000000 in
theorem says_ok (hn : K.n ≤ 16) (hK : KSt kp K S ord lev tr C) : ∀ (k : Nat) (r deep : Nat), K.n - dep K.n (lv lev) K.N r ≤ k → k + 1 ≤ deep → deep ≤ 1000 → ∀ (B : Hp) (t : Value), GIn gb kp K.n vr vf refs fs C B → live K.N r → TabF B t K.n (S r) →
  Px Tryz.prog 79 #[ptr gb, u32 r, t, .int .i64 (deep : Int)] B (fun w _ => w = .bool true) := by
 have hW := hK.ok.wf
 have hL := hK.ok.lv
 have hI := hK.ok.mid.int
 intro k
 induction k with
 | zero =>
  intro r deep hk hd hdm B t hG hr ht
  obtain ⟨c, hc, _⟩ := hG.hole
  have hlt := hK.live_lt hr
  obtain ⟨ws, ⟨s, rfl, hw⟩, hf, he⟩ := ht
  have h2 : r < 2 := by
   rcases hr with h | ⟨d, hd'⟩
   ·exact h
   ·rw [dep_some hd'] at hk
    have := hL.lt _ (hW.var hd'); omega
  have h1 : ∀ {s : Value} {X : Hp} {l : List Nat}, Words X s l → ∀ x ∈ [Value.int .i64 (K.n : Int), s], x.oneCell' = true := fun hw => by have := oneCell_words hw; simpa [Value.oneCell'] using this
  intro g
  refine L79_sound (R := FnR _) ?_
  unfold L79
  intro b1 _
  refine Bin.eqN (b := 0) (Br.decF (by omega) ?_)
  refine Nil.ptr (FAddr.mk (Ld.mk (v := ptr kp) (by exact .tail _ hG.cell) rfl ?_))
  refine CallF.rd (args := #[ptr kp, u32 r]) (.cons hc) (kNode_ok hK.rep (by omega)) ?_
  rw [liveB_iff.2 hr]
  rintro w rfl
  refine Ext.mk rfl (Ext.mk rfl ?_)
  intro b11 _
  refine St.whole (r := got K.N r) (by exact .head _) rfl (got_one _ _).1 (got_one _ _).2 ?_
  rw [got_const h2]
  refine Bin.neD (Br.decF (by decide) ?_)
  refine Bin.ltN (b := 2) (Br.decT h2 ?_)
  refine Nil.ptr (FAddr.mk (Ld.mk (v := .int .i64 (K.n : Int)) (by exact .tail _ (.tail _ hG.cell)) rfl ?_))
  refine Bin.eqN (b := 1) ?_
  refine CallF.px .here (tconst_ok hn (decide (r = 1)) _) ?_
  rintro w N ⟨_, rfl, ws', ⟨s', rfl, hw'⟩, hf', he'⟩
  refine Ext.mk rfl (Ext.mk rfl ?_)
  intro b24 _
  refine St.whole (r := [.int .i64 (K.n : Int), s']) (by exact .head _) rfl rfl (h1 hw') ?_
  intro J hJ
  refine Bin.eqD ?_
  refine Split.go (by decide) ?_
  refine FAddr.mk (Ld.mk (v := .int .i64 (-1)) (by exact .tail _ (List.mem_append_right _ (.head _))) rfl ?_)
  refine Bin.eqD (Pick.mk ?_)
  refine Split.go (by decide) ?_
  refine LdA.whole (r := [.int .i64 (K.n : Int), s']) (by exact .head _) rfl ?_
  refine LdA.whole (r := [.int .i64 (K.n : Int), s]) (by exact .tail _ (List.mem_append_right _ (.tail _ (.head _)))) rfl ?_
  refine CallF.rd .here (sameTable_ok (n := K.n) (f := fun _ => decide (r = 1)) (f' := S r) ⟨ws', ⟨s', rfl, hw'.mono (fun _ h => by repeat (first | exact h | apply List.mem_cons_of_mem | apply List.mem_append_right))⟩, hf', he'⟩ ⟨ws, ⟨s, rfl, hw.mono (fun _ h => by repeat (first | exact h | apply List.mem_cons_of_mem | apply List.mem_append_right))⟩, hf, he⟩) ?_
  rintro w ⟨x, rfl, hx⟩
  have : x = true := hx.2 (by
   have : r = 0 ∨ r = 1 := by omega
   rcases this with rfl | rfl
   ·exact funext fun x => (hI.zero x).symm
   ·exact funext fun x => (hI.one x).symm)
  subst this
  refine Pick.mk (JE.mk (hJ _ _ fun gs => ?_))
  exact PxR.mk (by repeat (first | exact Grow.refl _ | apply Grow.cons | apply Grow.app)) rfl
 | succ k ih =>
  intro r deep hk hd hdm B t hG hr ht
  by_cases hk0 : K.n - dep K.n (lv lev) K.N r ≤ k
  ·exact ih r deep hk0 (by omega) hdm B t hG hr ht
  obtain ⟨c, hc, _⟩ := hG.hole
  have hlt := hK.live_lt hr
  have h0 := ht
  obtain ⟨ws, ⟨s, hts, hw⟩, hf, he⟩ := ht
  have hts : t = .agg #[.int .i64 (K.n : Int), s] := hts
  subst hts
  obtain ⟨d, hd'⟩ : ∃ d, K.N r = some d := by
   cases e : K.N r with
   | none => rw [dep_none e] at hk0; omega
   | some d => exact ⟨d, rfl⟩
  have h2 := hW.two hd'
  have hv := hW.var hd'
  have ed := dep_some (n := K.n) (lev := lv lev) hd'
  have hlo := hW.lo hd'
  have hhi := hW.hi hd'
  have hne := hK.ok.mid.ne hd'
  have h1 : ∀ {s : Value} {X : Hp} {l : List Nat}, Words X s l → ∀ x ∈ [Value.int .i64 (K.n : Int), s], x.oneCell' = true := fun hw => by have := oneCell_words hw; simpa [Value.oneCell'] using this
  intro g
  refine L79_sound (R := FnR _) ?_
  unfold L79
  intro b1 _
  refine Bin.eqN (b := 0) (Br.decF (by omega) ?_)
  refine Nil.ptr (FAddr.mk (Ld.mk (v := ptr kp) (by exact .tail _ hG.cell) rfl ?_))
  refine CallF.rd (args := #[ptr kp, u32 r]) (.cons hc) (kNode_ok hK.rep (by omega)) ?_
  rw [liveB_iff.2 hr]
  rintro w rfl
  refine Ext.mk rfl (Ext.mk rfl ?_)
  intro b11 _
  refine St.whole (r := got K.N r) (by exact .head _) rfl (got_one _ _).1 (got_one _ _).2 ?_
  rw [got_some hd' h2]
  refine Bin.neD (Br.decF (by decide) ?_)
  refine Bin.ltN (b := 2) (Br.decF (by omega) ?_)
  refine DR.self ?_
  refine Nil.ptr (FAddr.mk (Ld.mk (v := ptr kp) (by exact .tail _ (.tail _ hG.cell)) rfl ?_))
  refine FAddr.mk (Ld.mk (v := .int .i64 (d.v : Int)) (by exact .head _) rfl ?_)
  refine CallF.rd (.cons (.cons hc)) (kLevel_ok hK.rep (d.v : Int)) ?_
  rw [if_pos (by omega)]
  rintro w rfl
  refine ⟨.refl _, ?_⟩
  refine Ext.mk rfl (Ext.mk rfl ?_)
  refine LdA.whole (r := [.int .i64 (K.n : Int), s]) (by exact .tail _ (.head _)) rfl ?_
  refine FAddr.mk (Ld.mk (v := .int .i64 (d.v : Int)) (by exact .head _) rfl ?_)
  refine CallF.px .here (tcofF_ok (c := false) (h0.mono (fun _ h => by repeat (first | exact h | apply List.mem_cons_of_mem | apply List.mem_append_right))) hv) ?_
  rintro w N1 ⟨_, rfl, w1, ⟨s1, rfl, hw1⟩, hf1, he1⟩
  refine Ext.mk rfl (Ext.mk rfl ?_)
  intro b61 _
  refine St.whole (r := [.int .i64 (K.n : Int), s1]) (by exact .head _) rfl rfl (h1 hw1) ?_
  refine LdA.whole (r := [.int .i64 (K.n : Int), s]) (by exact .tail _ (List.mem_append_right _ (.tail _ (.head _)))) rfl ?_
  refine FAddr.mk (Ld.mk (v := .int .i64 (d.v : Int)) (by exact .tail _ (List.mem_append_right _ (.head _))) rfl ?_)
  refine CallF.px .here (tcofF_ok (c := true) (h0.mono (fun _ h => by repeat (first | exact h | apply List.mem_cons_of_mem | apply List.mem_append_right))) hv) ?_
  rintro w N2 ⟨_, rfl, w2, ⟨s2, rfl, hw2⟩, hf2, he2⟩
  refine Ext.mk rfl (Ext.mk rfl ?_)
  intro b71 _
  refine St.whole (r := [.int .i64 (K.n : Int), s2]) (by exact .head _) rfl rfl (h1 hw2) ?_
  obtain ⟨Q, hQ⟩ : ∃ Q : Hp, Q = (b71, Obj.cells #[.int .i64 (K.n : Int), s2] 55 (0, 0)) :: (N2 ++ ((b61, .cells #[.int .i64 (K.n : Int), s1] 55 (0, 0)) :: (N1 ++ ((b11, .cells (nrow d).toArray 103 (0, 0)) :: (b1, .cells (Value.agg #[.int .i64 (K.n : Int), s]).cells 55 (0, 0)) :: B)))) := ⟨_, rfl⟩
  have gQ : Grow B Q := by rw [hQ]; exact .cons (.app (.cons (.app (.cons (.cons (.refl _))))))
  have q11 : (b11, Obj.cells (nrow d).toArray 103 (0, 0)) ∈ Q := by rw [hQ]; exact .tail _ (List.mem_append_right _ (.tail _ (List.mem_append_right _ (.head _))))
  have q61 : (b61, Obj.cells #[.int .i64 (K.n : Int), s1] 55 (0, 0)) ∈ Q := by rw [hQ]; exact .tail _ (List.mem_append_right _ (.head _))
  have q71 : (b71, Obj.cells #[.int .i64 (K.n : Int), s2] 55 (0, 0)) ∈ Q := by rw [hQ]; exact .head _
  have hGQ := hG.grow gQ
  have tlo : TabF Q (.agg #[.int .i64 (K.n : Int), s1]) K.n (S d.lo) := by
   rw [hQ]
   exact ⟨w1, ⟨s1, rfl, hw1.mono (fun _ h => by repeat (first | exact h | apply List.mem_cons_of_mem | apply List.mem_append_right))⟩, hf1, he1.trans (funext fun x => hW.child hL hI hd' x false)⟩
  have thi : TabF Q (.agg #[.int .i64 (K.n : Int), s2]) K.n (S d.hi) := by
   rw [hQ]
   exact ⟨w2, ⟨s2, rfl, hw2.mono (fun _ h => by repeat (first | exact h | apply List.mem_cons_of_mem | apply List.mem_append_right))⟩, hf2, he2.trans (funext fun x => hW.child hL hI hd' x true)⟩
  intro J hJ
  have hJ' : J [.bool false] Q := by
   refine hJ _ _ fun gs => Br.no ?_
   intro J2 hJ2
   refine FAddr.mk (Ld.mk (v := u32 d.lo) (by exact q11) rfl ?_)
   refine LdA.whole (r := [.int .i64 (K.n : Int), s1]) (by exact q61) rfl ?_
   refine Bin.subN (b := 1) (by simp [lim]; omega) (by omega) ?_
   refine CallF.px .here (ih d.lo (deep - 1) (by omega) (by omega) (by omega) Q _ hGQ hlo.1 tlo) ?_
   rintro w N3 rfl
   refine Split.go rfl ?_
   refine FAddr.mk (Ld.mk (v := u32 d.hi) (by exact List.mem_append_right _ q11) rfl ?_)
   refine LdA.whole (r := [.int .i64 (K.n : Int), s2]) (by exact List.mem_append_right _ q71) rfl ?_
   refine Bin.subN (b := 1) (by simp [lim]; omega) (by omega) ?_
   refine CallF.px .here (ih d.hi (deep - 1) (by omega) (by omega) (by omega) (N3 ++ Q) _ (hGQ.app N3) hhi.1 (thi.mono (fun _ h => by repeat (first | exact h | apply List.mem_cons_of_mem | apply List.mem_append_right)))) ?_
   rintro w N4 rfl
   refine Pick.mk (JE.mk (hJ2 _ _ fun gs => ?_))
   exact PxR.mk (.app (.app gQ)) rfl
  rw [← hQ]
  refine Bin.neD ?_
  refine Split.go (by decide) ?_
  refine Bin.neD (Pick.mk ?_)
  refine Split.go (by decide) ?_
  refine Bin.neD (Pick.mk ?_)
  refine Split.go (by decide) ?_
  refine FAddr.mk (Ld.mk (v := u32 d.lo) (by exact q11) rfl ?_)
  refine FAddr.mk (Ld.mk (v := u32 d.hi) (by exact q11) rfl ?_)
  refine Bin.eqN (Pick.mk ?_)
  rw [decide_eq_false hne]
  refine Split.go rfl ?_
  refine FAddr.mk (Ld.mk (v := u32 d.lo) (by exact q11) rfl ?_)
  refine CallF.rd .here (below_ok hGQ hK hlo.1 hlo.2) ?_
  rintro w rfl
  refine Un.not (Pick.mk ?_)
  refine Split.go rfl ?_
  refine FAddr.mk (Ld.mk (v := u32 d.hi) (by exact q11) rfl ?_)
  refine CallF.rd .here (below_ok hGQ hK hhi.1 hhi.2) ?_
  rintro w rfl
  refine Un.not (Pick.mk (JE.mk hJ'))
theorem fine_ok (hG : GIn gb kp K.n vr vf refs fs C B) (hg : Gar K S refs fs) (hK : KSt kp K S ord lev tr C) (hn : K.n ≤ 16) (hm : refs.length < 65536) (hne : refs ≠ []) :
  Px Tryz.prog 31 #[ptr gb] B (fun w _ => w = .bool true) := by
 obtain ⟨c, hc, _⟩ := hG.hole
 have hcap := hK.ok.mid.cap
 have hroom := hK.ok.mid.room
 have hfl : fs.length = refs.length := hg.len.symm
 have hfne : fs ≠ [] := fun e => hne (List.length_eq_zero_iff.1 (by rw [← hfl, e]; rfl))
 have hsize : K.used - 2 = sizeN K.n ord fs K.n := by
  have h1 := hK.ok.size hK.od
  have h2 := cnt_FT (n := K.n) (ord := ord) (L := fs) hg.frm hn (fun i hi => (hK.od.at' i hi).1)
  rw [show K.held S = FT K.n fs from funext fun g => propext (hg.held g)] at h1
  exact h1.uniq h2
 have inj : ∀ i j, i < refs.length → j < refs.length → (refs.getD i 0 = refs.getD j 0 ↔ fnT K.n (fs.getD i []) = fnT K.n (fs.getD j [])) := fun i j hi hj => by
  obtain ⟨_, e1⟩ := hg.is i hi
  obtain ⟨_, e2⟩ := hg.is j hj
  have m1 : refs.getD i 0 ∈ refs := by rw [List.getD_eq_getElem?_getD, List.getElem?_eq_getElem hi]; exact List.getElem_mem hi
  have m2 : refs.getD j 0 ∈ refs := by rw [List.getD_eq_getElem?_getD, List.getElem?_eq_getElem hj]; exact List.getElem_mem hj
  rw [e1, e2]
  exact ⟨fun h => by rw [h], fun h => hK.ok.wf.same hK.ok.lv hK.ok.mid.int (hg.live hK m1) (hg.live hK m2) (congrFun h)⟩
 have tab : ∀ {X : Hp} {i : Nat} {k : Value → Prop} {R : Hp}, Tbls X vf (fs.map fun ws => ⟨K.n, ws⟩) → i < refs.length → (∀ x ∈ X, x ∈ R) → (∀ t, TabF X t K.n (fnT K.n (fs.getD i [])) → k t) → IAddr 2 vf (.int .i64 (i : Int)) fun p => LdA 2 R p k := fun {X i k R} hT hi hs hk => by
  have hi' : i < fs.length := by omega
  have e' : fs.getD i [] = fs[i] := by rw [List.getD_eq_getElem?_getD, List.getElem?_eq_getElem hi']; rfl
  refine hT.ld (i := i) (t := ⟨K.n, fs[i]⟩) (by rw [List.getElem?_map, List.getElem?_eq_getElem hi']; rfl) hs fun s hw => hk _ ?_
  exact ⟨fs[i], ⟨s, rfl, hw⟩, hg.frm _ (List.getElem_mem hi'), by rw [e']⟩
 intro g
 refine L31_sound (R := FnR _) ?_
 unfold L31
 intro J1 hJ1
 have hJ : ∀ N : Hp, J1 [.bool false] (N ++ B) := by
  intro N
  refine hJ1 _ _ fun gs => Br.no ?_
  refine ⟨fun vs H => ∃ i : Nat, vs = [.int .i64 (i : Int)] ∧ i ≤ refs.length ∧ Grow B H, fun vs _ => refs.length - nAt vs 0, JE.mk ⟨0, rfl, Nat.zero_le _, .app (.refl _)⟩, ?_⟩
  rintro w9 H ⟨i, hv, hi, hgr⟩ gs
  simp only [List.cons.injEq, and_true] at hv
  subst hv
  have hGH := hG.grow hgr
  refine Nil.ptr (FAddr.mk (Ld.mk (v := vr) (by exact hGH.cell) rfl ?_))
  refine hGH.rf.lenS ?_
  rw [iw_length]
  refine Bin.ltN (Br.dec (fun hlt => ?_) (fun hlt => ?_))
  rotate_left
  ·exact PxR.mk hgr rfl
  refine DR.self ?_
  refine Nil.ptr (FAddr.mk (Ld.mk (v := vr) (by exact hGH.cell) rfl ?_))
  refine hGH.rf.ld (n := ((refs.getD i 0 : Nat) : Int)) (iw_getD hlt) (fun _ h => h) ?_
  refine Nil.ptr (FAddr.mk (Ld.mk (v := vf) (by exact hGH.cell) rfl ?_))
  refine tab hGH.fn hlt (fun _ h => h) fun t ht => ?_
  refine Nil.ptr (FAddr.mk (Ld.mk (v := .int .i64 (K.n : Int)) (by exact hGH.cell) rfl ?_))
  refine Bin.mulN (a := 2) (by simp [lim]; omega) ?_
  refine Bin.addN (b := 2) (by simp [lim]; omega) ?_
  obtain ⟨_, e1⟩ := hg.is i hlt
  have mi : refs.getD i 0 ∈ refs := by rw [List.getD_eq_getElem?_getD, List.getElem?_eq_getElem hlt]; exact List.getElem_mem hlt
  rw [e1] at ht
  refine CallF.px .here (says_ok hn hK K.n (refs.getD i 0) (2 * K.n + 2) (by omega) (by omega) (by omega) H t hGH (hg.live hK mi) ht) ?_
  rintro w N2 rfl
  refine ⟨.right, Un.not (Br.no ?_)⟩
  refine ⟨fun vs H' => ∃ j : Nat, vs = [.int .i64 (j : Int)] ∧ j ≤ i ∧ Grow B H', fun vs _ => i - nAt vs 0, JE.mk ⟨0, rfl, Nat.zero_le _, .app hgr⟩, ?_⟩
  rintro w38 H2 ⟨j, hv, hj, hgr2⟩ gs
  simp only [List.cons.injEq, and_true] at hv
  subst hv
  have hG2 := hG.grow hgr2
  refine Bin.ltN (Br.dec (fun hlt2 => ?_) (fun hlt2 => ?_))
  ·refine DR.self ?_
   have hjl : j < refs.length := by omega
   refine Nil.ptr (FAddr.mk (Ld.mk (v := vr) (by exact hG2.cell) rfl ?_))
   refine hG2.rf.ld (n := ((refs.getD i 0 : Nat) : Int)) (iw_getD hlt) (fun _ h => h) ?_
   refine Nil.ptr (FAddr.mk (Ld.mk (v := vr) (by exact hG2.cell) rfl ?_))
   refine hG2.rf.ld (n := ((refs.getD j 0 : Nat) : Int)) (iw_getD hjl) (fun _ h => h) ?_
   refine Bin.eqN ?_
   refine Nil.ptr (FAddr.mk (Ld.mk (v := vf) (by exact hG2.cell) rfl ?_))
   refine tab hG2.fn hlt (fun _ h => h) fun t1 ht1 => ?_
   refine Nil.ptr (FAddr.mk (Ld.mk (v := vf) (by exact hG2.cell) rfl ?_))
   refine tab hG2.fn hjl (fun _ h => h) fun t2 ht2 => ?_
   refine CallF.rd .here (sameTable_ok ht1 ht2) ?_
   rintro w ⟨x, rfl, hx⟩
   refine ⟨.refl _, ?_⟩
   have ex : x = decide (refs.getD i 0 = refs.getD j 0) := by
    by_cases e : refs.getD i 0 = refs.getD j 0
    ·rw [decide_eq_true e]; exact hx.2 ((inj i j hlt hjl).1 e)
    ·rw [decide_eq_false e]
     cases x with
     | false => rfl
     | true => exact absurd ((inj i j hlt hjl).2 (hx.1 rfl)) e
   rw [ex]
   refine Bin.neqB (Br.mk (fun hb => by simp at hb) fun _ => ?_)
   refine Bin.addN (b := 1) (by simp [lim]; omega) ?_
   exact Back.mk ⟨j + 1, rfl, by omega, hgr2⟩ (by simp only [nAt]; omega)
  ·refine Bin.addN (b := 1) (by simp [lim]; omega) ?_
   exact Back.mk ⟨i + 1, rfl, hlt, hgr2⟩ (by simp only [nAt]; omega)
 refine DR.self ?_
 refine Nil.ptr (FAddr.mk (Ld.mk (v := ptr kp) (by exact hG.cell) rfl ?_))
 intro F
 refine CallF.rd hc (klive_n hK.rep (by omega) (by omega)) ?_
 rintro w rfl
 refine ⟨.refl _, ?_⟩
 intro F
 have hmore : Tbls B (.slice none 0 0) (([] : List (List Nat)).map fun ws => ⟨K.n, ws⟩) := ⟨[], Sl.nil _ _, Each.nil⟩
 refine CallF.px .here (gsize_ok (ms := []) hG hg.frm hK (by omega) hmore (by simp) (by simp) (by simpa using hfne)) ?_
 rintro w N1 rfl
 rw [List.append_nil, ← hsize]
 refine ⟨.right, ?_⟩
 refine Bin.neN (Br.decF (by simp) ?_)
 refine Nil.ptr (FAddr.mk (Ld.mk (v := ptr kp) (by exact hG.cell) rfl ?_))
 refine Nil.ptr (FAddr.mk (Ld.mk (v := ptr kp) (by exact hG.cell) rfl ?_))
 intro F
 refine CallF.rd (.app hc) (klive_n hK.rep (by omega) (by omega)) ?_
 rintro w rfl
 refine ⟨.right, ?_⟩
 refine Bin.addN (b := 2) (by simp only [lim]; omega) ?_
 intro F
 refine CallF.rd (.app hc) (knodes_ok hK.rep) ?_
 rintro w rfl
 refine ⟨.right, ?_⟩
 refine Bin.gtN ?_
 rw [decide_eq_false (by omega)]
 exact Pick.mk (JE.mk (hJ N1))
end
end Go.Proofs
set_option maxRecDepth 100000
namespace Go.Proofs
open Go Go.Sx
open Bdd
section
variable {B : Hp}
theorem perm_take {L : List Nat} {j z : Nat} (hj : j < L.length) (hz : L[L.length - 1]? = some z) : ((L.set j z).take (L.length - 1) ++ [L.getD j 0]).Perm L := by
 obtain ⟨L', z', rfl⟩ : ∃ L' z', L = L' ++ [z'] := ⟨L.dropLast, L.getLast (List.ne_nil_of_length_pos (by omega)), (List.dropLast_concat_getLast _).symm⟩
 have hl : (L' ++ [z']).length - 1 = L'.length := by simp
 rw [hl] at hz ⊢
 have ez : z' = z := by rw [List.getElem?_append_right (Nat.le_refl _), Nat.sub_self] at hz; simpa using hz
 subst ez
 by_cases hj' : j < L'.length
 ·rw [List.set_append_left _ _ hj', List.take_left' (by simp)]
  have e : (L' ++ [z']).getD j 0 = L'[j] := by rw [List.getD_eq_getElem?_getD, List.getElem?_append_left hj', List.getElem?_eq_getElem hj']; rfl
  rw [e]
  classical
  rw [List.perm_iff_count]
  intro x
  rw [List.count_append, List.count_append, List.count_set hj', List.count_singleton, List.count_singleton]
  have hc : (L'[j] == x) = true → 0 < L'.count x := fun h => by
   have : L'[j] = x := by simpa using h
   exact List.count_pos_iff.2 (this ▸ List.getElem_mem hj')
  split <;> split <;> simp_all <;> omega
 ·have : j = L'.length := by rw [List.length_append, List.length_singleton] at hj; omega
  subst this
  rw [List.set_append_right _ _ (Nat.le_refl _), Nat.sub_self, List.take_left' rfl]
  have e : (L' ++ [z']).getD L'.length 0 = z' := by rw [List.getD_eq_getElem?_getD, List.getElem?_append_right (Nat.le_refl _), Nat.sub_self]; rfl
  rw [e]
theorem torder_ok {n : Nat} (hn : n ≤ 1048576) {v : Value} {l : List Nat} (hl : Ints .u8 B v (iw l)) (h8 : ∀ x ∈ l, x < 256) (hmax : l.length < 9223372036854775808) :
  Fc Tryz.prog 41 #[.int .i64 (n : Int), v] B (fun w H => ∃ p N, H = N ++ B ∧ p.Perm (List.range n) ∧ IOwn 3 .i64 w (iw p) N) := by
 intro g
 refine L41_sound (R := FnR _) ?_
 unfold L41
 refine ⟨fun vs H => ∃ (i : Nat) (s : Value) (CL : Hp), vs = [s, .int .i64 (i : Int)] ∧ i ≤ n ∧ H = CL ++ B ∧ IOwn 3 .i64 s (iw (List.range i)) CL, fun vs _ => n - nAt vs 1, JE.mk ⟨0, _, [], rfl, Nat.zero_le _, rfl, IOwn.nil⟩, ?_⟩
 rintro w5 w6 H ⟨i, s, CL, hv, hi, rfl, hL⟩ gs
 simp only [List.cons.injEq, and_true] at hv
 obtain ⟨rfl, rfl⟩ := hv
 refine Bin.ltN (Br.dec (fun hlt => ?_) (fun hlt => ?_))
 ·refine BuildSl.int (e := 3) (by kernel_rfl) (by kernel_rfl) (by kernel_rfl) fun bx => ?_
  refine hL.appH (x := (i : Int)) (.cons .left) (by exact .head _) (by rw [iw_length, List.length_range]; omega) (by rw [iw_length, List.length_range]; omega) fun s' CL' hL' => ?_
  refine Bin.addN (b := 1) (by simp [lim]; omega) ?_
  refine Back.of .tail ⟨i + 1, s', CL', rfl, hlt, rfl, ?_⟩ (by simp only [nAt]; omega)
  rw [List.range_succ, iw_append]; exact hL'
 obtain rfl : i = n := by omega
 refine ⟨fun vs H => ∃ (k : Nat) (s t : Value) (L p : List Nat) (CL CP : Hp), vs = [s, t, .int .i64 (k : Int)] ∧ k ≤ i ∧ H = CL ++ (CP ++ B) ∧ IOwn 3 .i64 s (iw L) CL ∧ IOwn 3 .i64 t (iw p) CP ∧ L.length = i - k ∧ p.length = k ∧ (p ++ L).Perm (List.range i), fun vs _ => i - nAt vs 2,
  JE.mk ⟨0, _, _, _, [], CL, [], rfl, Nat.zero_le _, rfl, hL, IOwn.nil, by simp, rfl, .refl _⟩, ?_⟩
 clear hL
 rintro w19 w20 w21 H ⟨k, s, t, L, p, CL, CP, hv, hk, rfl, hL, hP, hLl, hpl, hperm⟩ gs
 simp only [List.cons.injEq, and_true] at hv
 obtain ⟨rfl, rfl, rfl⟩ := hv
 refine Bin.ltN (Br.dec (fun hlt => ?_) (fun hlt => ?_))
 rotate_left
 ·obtain rfl : k = i := by omega
  have : L = [] := List.length_eq_zero_iff.1 (by omega)
  subst this
  rw [List.append_nil] at hperm
  exact FnR.mk .right ⟨p, CP, rfl, hperm, hP⟩
 intro J hJ
 have hJ' : ∀ j, j < L.length → J [.int .i64 (j : Int)] (CL ++ (CP ++ B)) := fun j hj => by
  refine hJ _ _ fun gs => ?_
  refine hL.ld (x := ((L.getD j 0 : Nat) : Int)) (iw_getD hj) (fun _ h => List.mem_append_left _ h) ?_
  refine BuildSl.int (e := 3) (by kernel_rfl) (by kernel_rfl) (by kernel_rfl) fun bx => ?_
  refine hP.appH (x := ((L.getD j 0 : Nat) : Int)) (.cons (.app .left)) (by exact .head _) (by rw [iw_length]; omega) (by rw [iw_length]; omega) fun t' CP' hP' => ?_
  refine hL.lenS ?_
  rw [iw_length]
  refine Bin.subN (b := 1) (by simp [lim]; omega) (by omega) ?_
  obtain ⟨z, hz⟩ : ∃ z, L[L.length - 1]? = some z := ⟨_, List.getElem?_eq_getElem (by omega)⟩
  refine hL.ld (x := (z : Int)) (iw_get hz) (fun _ h => .tail _ (List.mem_append_left _ h)) ?_
  refine hL.putH (x := (z : Int)) (.cons .left) (by rw [iw_length]; exact hj) fun CL' hL' => ?_
  rw [iw_set] at hL'
  refine hL'.lenS ?_
  rw [iw_length, List.length_set]
  refine Bin.subN (b := 1) (by simp [lim]; omega) (by omega) ?_
  refine hL'.cut (i := L.length - 1) (by rw [iw_length, List.length_set]; omega) fun s' hs' => ?_
  refine Bin.addN (b := 1) (by simp [lim]; omega) ?_
  have e : (iw (L.set j z)).take (L.length - 1) = iw ((L.set j z).take (L.length - 1)) := by unfold iw; rw [List.map_take]
  rw [e] at hs'
  refine Back.of .tail ⟨k + 1, s', t', (L.set j z).take (L.length - 1), p ++ [L.getD j 0], CL', CP', rfl, hlt, rfl, hs', by rw [iw_append]; exact hP', by rw [List.length_take, List.length_set]; omega, by simp [hpl], ?_⟩ (by simp only [nAt]; omega)
  refine List.Perm.trans ?_ hperm
  rw [List.append_assoc]
  refine List.Perm.append_left _ ?_
  exact List.perm_append_comm.trans (perm_take hj hz)
 refine hl.lenS ?_
 rw [iw_length]
 refine Bin.ltN (Br.dec (fun h1 => ?_) (fun h1 => ?_))
 ·refine hl.ld (n := ((l[k] : Nat) : Int)) (iw_get (List.getElem?_eq_getElem h1)) (fun _ h => List.mem_append_right _ (List.mem_append_right _ h)) ?_
  have := h8 _ (List.getElem_mem h1)
  refine ConvI.nat (by simp [lim]; omega) ?_
  refine hL.lenS ?_
  rw [iw_length]
  refine Bin.remN (by omega) ?_
  exact JE.mk (hJ' _ (Nat.mod_lt _ (by omega)))
 ·exact JE.mk (hJ' 0 (by omega))
theorem sameList_ok {v1 v2 : Value} {a b : List Int} (h1 : Ints .i64 B v1 a) (h2 : Ints .i64 B v2 b) (hmax : a.length < 9223372036854775807) : Rd Tryz.prog 30 #[v1, v2] B (· = .bool (decide (a = b))) := by
 intro g
 refine L30_sound (R := FnR _) ?_
 unfold L30
 refine h1.lenS (h2.lenS ?_)
 refine Bin.neN (Br.dec (fun h => ?_) (fun h => ?_))
 ·exact RdR.mk (.refl _) (by rw [decide_eq_false (fun e => h (by rw [e]))])
 refine ⟨fun vs H => ∃ i : Nat, vs = [.int .i64 (i : Int)] ∧ i ≤ a.length ∧ H = B ∧ a.take i = b.take i, fun vs _ => a.length - nAt vs 0, JE.mk ⟨0, rfl, Nat.zero_le _, rfl, rfl⟩, ?_⟩
 rintro w8 H ⟨i, hv, hi, rfl, htk⟩ gs
 simp only [List.cons.injEq, and_true] at hv
 subst hv
 refine h1.lenS ?_
 show Bin .num .lss (.int .i64 (i : Int)) (.int .i64 ((a.length : Nat) : Int)) _
 refine Bin.ltN (Br.dec (fun hlt => ?_) (fun hlt => ?_))
 ·have hlt2 : i < b.length := by omega
  refine h1.ld (List.getElem?_eq_getElem hlt) (fun _ h => h) ?_
  refine h2.ld (List.getElem?_eq_getElem hlt2) (fun _ h => h) ?_
  refine Bin.neD (Br.dec (fun hne => ?_) (fun hne => ?_))
  ·refine RdR.mk (.refl _) (by rw [decide_eq_false]; intro e; subst e; exact hne rfl)
  ·refine Bin.addN (b := 1) (by simp [lim]; omega) ?_
   refine Back.mk ⟨i + 1, rfl, hlt, rfl, ?_⟩ (by simp only [nAt]; omega)
   rw [List.take_succ_eq_append_getElem hlt, List.take_succ_eq_append_getElem hlt2, htk]
   congr 2
   exact Classical.byContradiction hne
 ·obtain rfl : i = a.length := by omega
  rw [List.take_length, show a.length = b.length by omega, List.take_length] at htk
  exact RdR.mk (.refl _) (by rw [decide_eq_true htk])
end
end Go.Proofs
set_option maxRecDepth 100000
namespace Go.Proofs
open Go Go.Sx
open Bdd
section
variable {Y : Hp}
theorem planted_ok {n cap : Nat} (hn : 1 ≤ n ∧ n ≤ 64) (hc : 2 ≤ cap ∧ cap ≤ 1048576) : Fc Tryz.prog 74 #[.int .i64 (n : Int), .int .i64 (cap : Int)] Y (fun w H => ∃ gb kp C, w = ptr gb ∧ H = Y ++ gG gb kp n (.slice none 0 0) (.slice none 0 0) [] [] C ∧ KSt kp (K0 n cap) S0 (List.range n) (List.range n) [] C) := by
 intro g
 refine L74_sound (R := FnR _) ?_
 unfold L74
 refine CallF.fn (Hole.left (C := []) (A := Y)) (new_ok hn hc) ?_
 rintro w C ⟨kp, rfl, hK⟩
 refine Ext.mk rfl (Ext.mk rfl ?_)
 intro J hJ
 have hJ' : J [.bool false] (C ++ Y) := by
  refine hJ _ _ fun gs => Br.no ?_
  refine Build.mk (cs := [ptr kp, .int .i64 (n : Int), .slice none 0 0, .slice none 0 0]) (by kernel_rfl) ?_
  intro gb _
  refine FnR.mk ?_ ⟨gb, kp, C, rfl, rfl, hK⟩
  refine .perm ?_
  show ((gb, _) :: (C ++ Y)).Perm (Y ++ (gcell gb kp n (.slice none 0 0) (.slice none 0 0) :: C))
  exact (List.perm_append_comm (l₁ := _ :: C) (l₂ := Y))
 refine Bin.neD ?_
 refine Split.go (by decide) ?_
 refine Bin.ptrNil (Pick.mk ?_)
 refine Split.go rfl ?_
 refine CallF.rd .left (kvars_ok hK.rep) ?_
 rintro w rfl
 refine Bin.neD (Pick.mk ?_)
 refine Split.go (by show decide _ = false; exact decide_eq_false (fun h => h rfl)) ?_
 refine CallF.rd .left (knodes_ok hK.rep) ?_
 rintro w rfl
 refine Bin.neD (Pick.mk ?_)
 refine Split.go (by show decide _ = false; exact decide_eq_false (fun h => h rfl)) ?_
 refine CallF.rd .left (klive_n hK.rep (by show 2 ≤ 2; omega) (by show 2 ≤ 1048576; omega)) ?_
 rintro w rfl
 refine Bin.neD (Pick.mk ?_)
 exact JE.mk hJ'
def Grown (n : Nat) (Y : Hp) (w : Value) (H : Hp) : Prop :=
 ∃ (gb kp : Nat) (K : Kd) (S : Nat → Bdd.Fn) (refs : List Nat) (fs : List (List Nat)) (vr vf : Value) (M CR CF C : Hp) (rs : List (List Value)) (tr : List Nat), w = ptr gb ∧ H = M ++ gG gb kp n vr vf CR CF C ∧ Grow Y M ∧ GOk gb kp K S (List.range n) (List.range n) tr refs fs vr vf M CR CF C rs ∧ K.n = n ∧ K.cap = 4000 ∧ n ≤ refs.length ∧ refs.length ≤ n + 30 ∧ tr = []
theorem gar0 {n cap : Nat} : Gar (K0 n cap) S0 [] [] := ⟨rfl, by simp, fun i hi => absurd hi (by simp), fun s => by simp [K0, Kd.hold]⟩
theorem two_of_var {kp : Nat} {K : Kd} {S : Nat → Bdd.Fn} {ord lev tr : List Nat} {C : Hp} (hK : KSt kp K S ord lev tr C) {x v : Nat} (h : S x = fun y => y.testBit v) : 2 ≤ x := by
 refine Classical.byContradiction fun h2 => ?_
 have hint := hK.ok.mid.int
 have h01 : x = 0 ∨ x = 1 := by omega
 rcases h01 with rfl | rfl
 ·have := congrFun h (2 ^ v)
  rw [hint.zero, Nat.testBit_two_pow_self] at this
  cases this
 ·have := congrFun h 0
  rw [hint.one, Nat.zero_testBit] at this
  cases this
theorem grown_ok {n : Nat} (hn : 1 ≤ n ∧ n ≤ 6) {sv : Value} {ops : List OpV} (hs : Sl 6 Y sv (ops.map OpV.cells)) (ho : ∀ o ∈ ops, o.Ok) (hmax : ops.length < 9223372036854775808) :
  Fc Tryz.prog 25 #[.int .i64 (n : Int), sv] Y (Grown n Y) := by
 intro g
 refine L25_sound (R := FnR _) ?_
 unfold L25
 refine CallF.fn (args := #[.int .i64 (n : Int), .int .i64 ((4000 : Nat) : Int)]) .here (planted_ok (Y := Y) (n := n) (cap := 4000) ⟨hn.1, by omega⟩ (by decide)) ?_
 rintro w H ⟨gb, kp, C0, rfl, rfl, hK0⟩
 refine Bin.ptrNil (Br.no ?_)
 obtain ⟨St0, hSt0⟩ : ∃ St0 : Nat → Hp → Prop, St0 = fun m H => ∃ (K : Kd) (S : Nat → Bdd.Fn) (refs : List Nat) (fs : List (List Nat)) (vr vf : Value) (M CR CF C : Hp) (rs : List (List Value)), H = M ++ gG gb kp n vr vf CR CF C ∧ Grow Y M ∧ GOk gb kp K S (List.range n) (List.range n) [] refs fs vr vf M CR CF C rs ∧ K.n = n ∧ K.cap = 4000 ∧ n ≤ refs.length ∧ refs.length ≤ m := ⟨_, rfl⟩
 refine ⟨fun vs H => ∃ (i : Nat) (K : Kd) (S : Nat → Bdd.Fn) (refs : List Nat) (fs : List (List Nat)) (vr vf : Value) (M CR CF C : Hp) (rs : List (List Value)), vs = [.int .i64 (i : Int)] ∧ i ≤ n ∧ H = M ++ gG gb kp n vr vf CR CF C ∧ Grow Y M ∧ GOk gb kp K S (List.range n) (List.range n) [] refs fs vr vf M CR CF C rs ∧ K.n = n ∧ K.cap = 4000 ∧ refs.length = i, fun vs _ => n - nAt vs 0,
  JE.mk ⟨0, K0 n 4000, S0, [], [], _, _, Y, [], [], C0, [], rfl, Nat.zero_le _, rfl, .refl _, ⟨hK0, gar0, IOwn.nil, SOwn.nil _ _, Each.nil⟩, rfl, rfl, rfl⟩, ?_⟩
 rintro w8 H ⟨i, K, S, refs, fs, vr, vf, M, CR, CF, C, rs, hv, hi, rfl, hY, hG, hKn, hKc, hrl⟩ gs
 simp only [List.cons.injEq, and_true] at hv
 subst hv
 refine Bin.ltN (Br.dec (fun hlt => ?_) (fun hlt => ?_))
 ·refine ConvI.nat (by simp [lim]; omega) ?_
  refine Build.mk (cs := (OpV.mk 0 i 0 0 0 0).cells) (by kernel_rfl) ?_
  subst hKn
  refine CallF.fn (args := #[ptr gb, .agg (OpV.mk 0 i 0 0 0 0).cells.toArray]) .here (op_ok hG hn.1 hn.2 hKc (by omega) (o := OpV.mk 0 i 0 0 0 0) ⟨by show 0 < 256; omega, by show i < 256; omega, by show 0 < 256; omega, by show 0 < 256; omega, by show 0 < 256; omega, by show 0 < 18446744073709551616; omega⟩) ?_
  rintro w H ⟨rfl, x, a, b, c, K', S', refs', fs', vr', vf', M', CR', CF', C', rs', rfl, gM, hG', hn', hc', rfl, hx, hlx, _⟩
  refine Un.not (Br.no ?_)
  refine Bin.addN (b := 1) (by simp [lim]; omega) ?_
  have h2 : 2 ≤ x := two_of_var hG'.ks hx
  rw [if_pos h2] at hG'
  exact Back.mk ⟨i + 1, K', S', refs ++ [x], fs', vr', vf', M', CR', CF', C', rs', rfl, hlt, rfl, hY.trans gM, hG', hn', hc'.trans hKc, by simp [hrl]⟩ (by simp only [nAt]; omega)
 obtain rfl : i = n := by omega
 refine Nil.ptr (FAddr.mk (Ld.mk (v := vr) (by exact List.mem_append_right _ (.head _)) rfl ?_))
 refine hG.rf.lenS ?_
 rw [iw_length, hrl]
 refine Bin.neN (Br.decF (by simp) ?_)
 refine ⟨fun vs H => ∃ k : Nat, vs = [.int .i64 (k : Int)] ∧ k ≤ ops.length ∧ k ≤ 30 ∧ St0 (i + k) H, fun vs _ => 30 - nAt vs 0, JE.mk ⟨0, rfl, Nat.zero_le _, by omega, by rw [hSt0]; exact ⟨K, S, refs, fs, vr, vf, M, CR, CF, C, rs, rfl, hY, hG, hKn, hKc, by omega, by omega⟩⟩, ?_⟩
 clear hY hG hKn hKc hrl
 rintro w25 H ⟨k, hv, hk, hk30, hst⟩ gs
 simp only [List.cons.injEq, and_true] at hv
 subst hv
 rw [hSt0] at hst
 obtain ⟨K, S, refs, fs, vr, vf, M, CR, CF, C, rs, rfl, hY, hG, hKn, hKc, hr1, hr2⟩ := hst
 refine (hs.mono (B' := Y) fun _ h => h).lenS ?_
 rw [List.length_map]
 refine Bin.ltN ?_
 refine Grp.and (a := decide (k < ops.length)) (decide (k < 30)) (fun _ => Bin.ltN (b := 30) ⟨rfl, rfl⟩) rfl fun gs => ?_
 refine Br.mk (fun hb => ?_) (fun hb => ?_)
 ·simp only [Bool.and_eq_true, decide_eq_true_eq] at hb
  obtain ⟨h1, h3⟩ := hb
  refine IAddr.sl hs (i := k) (r := ops[k].cells) (by rw [List.getElem?_map, List.getElem?_eq_getElem h1]; rfl) fun p hp => ?_
  refine LdA.at hp rfl (by decide) (fun _ h => List.mem_append_left _ (hY.sub _ h)) ?_
  subst hKn
  refine CallF.fn (args := #[ptr gb, .agg ops[k].cells.toArray]) .here (op_ok hG hn.1 hn.2 hKc (by omega) (ho _ (List.getElem_mem h1))) ?_
  rintro w H ⟨rfl, x, a, b, c, K', S', refs', fs', vr', vf', M', CR', CF', C', rs', rfl, gM, hG', hn', hc', rfl, hx, hlx, _⟩
  refine Un.not (Br.no ?_)
  refine Bin.addN (b := 1) (by simp [lim]; omega) ?_
  refine Back.mk ⟨k + 1, rfl, h1, by omega, ?_⟩ (by simp only [nAt]; omega)
  rw [hSt0]
  refine ⟨K', S', _, fs', vr', vf', M', CR', CF', C', rs', rfl, hY.trans gM, hG', hn', hc'.trans hKc, ?_, ?_⟩
  ·rw [List.length_append]; omega
  ·rw [List.length_append]; split <;> simp <;> omega
 ·exact FnR.here ⟨gb, kp, K, S, refs, fs, vr, vf, M, CR, CF, C, rs, [], rfl, rfl, hY, hG, hKn, hKc, hr1, by omega, rfl⟩
end
end Go.Proofs
set_option maxRecDepth 100000
namespace Go.Proofs
open Go Go.Sx
open Bdd
theorem ppath_ok {B : Hp} {v1 v2 : Value} {p q : List Nat} {n : Nat} (h1 : Ints .i64 B v1 (iw p)) (h2 : Ints .i64 B v2 (iw q)) (hp : p.Perm (List.range n)) (hq : q.Perm (List.range n)) (hn : n ≤ 64) :
  Fc Tryz.prog 85 #[v1, v2] B (fun r H => ∃ s C, r = .tuple #[s, .int .i64 0] ∧ H = C ++ B ∧ IOwn 3 .i64 s (iw (path p q)) C) := by
 have e1 : p.length = n := by rw [hp.length_eq, List.length_range]
 have e2 : q.length = n := by rw [hq.length_eq, List.length_range]
 have hnd : q.Nodup := hq.nodup_iff.2 List.nodup_range
 have hpq := hp.trans hq.symm
 intro g
 refine L85_sound (R := FnR _) ?_
 unfold L85
 refine CallF.rd .here (both_ok h1 h2 hp hq hn) ?_
 rintro v rfl
 refine Bin.neD (Br.decF (by decide) ?_)
 refine CallF.fn .here (clone_ok h1 (by rw [iw_length]; omega)) ?_
 rintro va H ⟨CA, rfl, hA⟩
 refine h2.lenS ?_
 rw [iw_length]
 refine ⟨fun vs H => ∃ (i : Nat) (w9 : Value) (C N : Hp), vs = [w9, .int .i64 (i : Int)] ∧ i ≤ n ∧ H = C ++ (N ++ B) ∧ IOwn 3 .i64 w9 (iw (pathN p q i)) C ∧ IOwn 3 .i64 va (iw (swps p (pathN p q i))) N, fun vs _ => n - nAt vs 1,
  JE.mk ⟨0, _, [], CA, rfl, Nat.zero_le _, rfl, IOwn.nil, hA⟩, ?_⟩
 rintro w9 w10 H ⟨i, u9, C, N, hv, hi, rfl, ho, hw⟩ gs
 simp only [List.cons.injEq, and_true] at hv
 obtain ⟨rfl, rfl⟩ := hv
 refine Bin.ltN (Br.dec (fun hlt => ?_) (fun hlt => ?_))
 rotate_left
 ·obtain rfl : i = q.length := by omega
  exact FnR.mk (.prep .right _) ⟨w9, C, rfl, rfl, ho⟩
 have spec := pathN_spec hnd hpq i (by omega)
 obtain ⟨s1, s2, s3⟩ := spec
 obtain ⟨s4, s5⟩ := s3 hlt
 have hlen1 := pathN_len hnd hpq (i + 1) (by omega)
 have hl2 : (i + 1) * p.length ≤ 64 * 64 := Nat.mul_le_mul (by omega) (by omega)
 refine h2.ld (n := ((q.getD i 0 : Nat) : Int)) (iw_getD hlt) (fun _ h => List.mem_append_right _ (List.mem_append_right _ h)) ?_
 have hmem : q.getD i 0 ∈ swps p (pathN p q i) := by
  have : q.getD i 0 ∈ q := by rw [List.getD_eq_getElem?_getD, List.getElem?_eq_getElem hlt]; exact List.getElem_mem _
  exact ((swps_perm s1).trans hpq).mem_iff.2 this
 refine CallF.rd (.app .left) (sindex_ok hw.ints (by rw [iw_length, swps_len]; omega)) ?_
 rintro v rfl
 rw [if_pos (mem_iw.2 hmem), idx_iw]
 refine ⟨fun vs H => ∃ (j : Nat) (u9 : Value) (P : List Nat) (C N : Hp), vs = [u9, .int .i64 (j : Int)] ∧ i ≤ j ∧ j < n ∧ P ++ bub i j = pathN p q (i + 1) ∧ H = C ++ (N ++ B) ∧ IOwn 3 .i64 u9 (iw P) C ∧ IOwn 3 .i64 va (iw (swps p P)) N, fun vs _ => nAt vs 1,
  JE.mk ⟨plc (swps p (pathN p q i)) (q.getD i 0), w9, pathN p q i, C, N, rfl, s4, by omega, rfl, rfl, ho, hw⟩, ?_⟩
 rintro w22 w23 H ⟨j, u9, P, C2, N2, hv, hij, hjn, hP, rfl, ho2, hw2⟩ gs
 simp only [List.cons.injEq, and_true] at hv
 obtain ⟨rfl, rfl⟩ := hv
 refine Bin.gtN (Br.dec (fun hgt => ?_) (fun hgt => ?_))
 ·obtain ⟨j, rfl⟩ : ∃ k, j = k + 1 := ⟨j - 1, by omega⟩
  have hPl : P.length ≤ 4096 := by
   have := congrArg List.length hP
   rw [List.length_append] at this; omega
  have hlen : (swps p P).length = n := by rw [swps_len, e1]
  refine DR.self ?_
  refine Bin.subN (b := 1) (by simp [lim]; omega) (by omega) ?_
  rw [Nat.add_sub_cancel]
  refine hw2.ld (x := (((swps p P).getD (j + 1) 0 : Nat) : Int)) (iw_getD (by omega)) (fun _ h => List.mem_append_right _ (List.mem_append_left _ h)) ?_
  refine Bin.subN (b := 1) (by simp [lim]; omega) (by omega) ?_
  rw [Nat.add_sub_cancel]
  refine hw2.ld (x := (((swps p P).getD j 0 : Nat) : Int)) (iw_getD (by omega)) (fun _ h => List.mem_append_right _ (List.mem_append_left _ h)) ?_
  refine hw2.putH (x := (((swps p P).getD (j + 1) 0 : Nat) : Int)) (.app .left) (by rw [iw_length]; omega) fun N3 hw3 => ?_
  refine hw3.putH (x := (((swps p P).getD j 0 : Nat) : Int)) (.app .left) (by rw [List.length_set, iw_length]; omega) fun N4 hw4 => ?_
  have e : ((iw (swps p P)).set j (((swps p P).getD (j + 1) 0 : Nat) : Int)).set (j + 1) (((swps p P).getD j 0 : Nat) : Int) = iw (swps p (P ++ [j])) := by
   rw [swps_snoc]; unfold swp; rw [iw_set, iw_set]
  rw [e] at hw4
  refine Bin.subN (b := 1) (by simp [lim]; omega) (by omega) ?_
  rw [Nat.add_sub_cancel]
  refine BuildSl.int (e := 3) (by kernel_rfl) (by kernel_rfl) (by kernel_rfl) fun bx => ?_
  refine ho2.appH (.cons .left) (by exact .head _) (by rw [iw_length]; omega) (by rw [iw_length]; omega) fun v' C3 ho3 => ?_
  refine Bin.subN (b := 1) (by simp [lim]; omega) (by omega) ?_
  rw [Nat.add_sub_cancel]
  refine Back.of .tail ⟨j, v', P ++ [j], C3, N4, rfl, by omega, by omega, ?_, rfl, by rw [iw_append]; exact ho3, hw4⟩ ?_
  ·rw [← hP, bub_succ (show i ≤ j by omega), List.append_assoc]; rfl
  ·simp only [nAt]; omega
 ·obtain rfl : j = i := by omega
  rw [bub_le (Nat.le_refl _), List.append_nil] at hP
  subst hP
  refine Bin.addN (b := 1) (by simp [lim]; omega) ?_
  exact Back.of (.refl _) ⟨j + 1, w22, C2, N2, rfl, by omega, rfl, ho2, hw2⟩ (by simp only [nAt]; omega)
theorem road_ok {a b : Nat} (ha : a ≤ 1048576) (hb : b ≤ 1048576) : Fc Tryz.prog 83 #[.int .i64 (a : Int), .int .i64 (b : Int)] [] (fun r H => IOwn 3 .i64 r (iw (road a b)) H) := by
 intro g
 refine L83_sound (R := FnR _) ?_
 unfold L83
 refine ⟨fun vs H => ∃ (i : Nat) (u : Value), vs = [.int .i64 ((a + i : Nat) : Int), u] ∧ i ≤ b - a ∧ IOwn 3 .i64 u (iw (List.range' a i)) H, fun vs _ => b - nAt vs 0, JE.mk ⟨0, _, rfl, Nat.zero_le _, IOwn.nil⟩, ?_⟩
 rintro w5 w6 H ⟨i, u, hv, hi, ho⟩ gs
 simp only [List.cons.injEq, and_true] at hv
 obtain ⟨rfl, rfl⟩ := hv
 refine Bin.ltN (Br.dec (fun hlt => ?_) (fun hlt => ?_))
 ·refine BuildSl.int (e := 3) (by kernel_rfl) (by kernel_rfl) (by kernel_rfl) fun bx => ?_
  refine ho.appH (.cons .here) (by exact .head _) (by rw [iw_length]; simp; omega) (by rw [iw_length]; simp; omega) fun v' C3 ho3 => ?_
  refine Bin.addN (b := 1) (by simp [lim]; omega) ?_
  refine Back.of .tail ⟨i + 1, v', rfl, by omega, ?_⟩ (by simp only [nAt]; omega)
  rw [List.range'_1_concat, iw_append]; exact ho3
 ·obtain rfl : i = b - a := by omega
  refine ⟨fun vs H => ∃ (k : Nat) (u : Value), vs = [.int .i64 ((max a b - k : Nat) : Int), u] ∧ k ≤ a - b ∧ IOwn 3 .i64 u (iw (List.range' a (b - a) ++ (List.range' (max a b - k) k).reverse)) H, fun vs _ => nAt vs 0,
   JE.mk ⟨0, _, by rw [show a + (b - a) = max a b - 0 by omega], Nat.zero_le _, by simpa using ho⟩, ?_⟩
  rintro w19 w20 H ⟨k, u, hv, hk, ho2⟩ gs
  simp only [List.cons.injEq, and_true] at hv
  obtain ⟨rfl, rfl⟩ := hv
  refine Bin.gtN (Br.dec (fun hlt2 => ?_) (fun hlt2 => ?_))
  ·have e : max a b - k - 1 = max a b - (k + 1) := by omega
   refine Bin.subN (b := 1) (by simp [lim]; omega) (by omega) ?_
   rw [e]
   refine BuildSl.int (e := 3) (by kernel_rfl) (by kernel_rfl) (by kernel_rfl) fun bx => ?_
   refine ho2.appH (.cons .here) (by exact .head _) (by rw [iw_length]; simp; omega) (by rw [iw_length]; simp; omega) fun v' C3 ho3 => ?_
   refine Bin.subN (b := 1) (by simp [lim]; omega) (by omega) ?_
   rw [e]
   refine Back.of .tail ⟨k + 1, v', rfl, by omega, ?_⟩ (by simp only [nAt]; omega)
   have e2 : List.range' (max a b - (k + 1)) (k + 1) = (max a b - (k + 1)) :: List.range' (max a b - k) k := by
    rw [List.range'_succ, show max a b - (k + 1) + 1 = max a b - k by omega]
   rw [e2, List.reverse_cons, ← List.append_assoc, iw_append]; exact ho3
  ·obtain rfl : k = a - b := by omega
   refine FnR.here ?_
   unfold road
   by_cases hab : a ≤ b
   ·have e0 : a - b = 0 := by omega
    rw [e0] at ho2 ⊢; simpa using ho2
   ·rw [show max a b - (a - b) = b by omega] at ho2; exact ho2
end Go.Proofs
set_option maxRecDepth 100000
namespace Go.Proofs
open Go Go.Sx
open Bdd
def wk (b kp f d : Nat) (ok : Bool) : Nat × Obj := (b, .cells #[ptr kp, .int .i64 (f : Int), .int .i64 (d : Int), .bool ok] 194 (0, 0))
section
variable {kp b f d : Nat} {K : Kd} {S : Nat → Bdd.Fn} {ord tr : List Nat} {C : Hp}
theorem wbegin_ok (h : At kp K S ord tr C) : Fc Tryz.prog 89 #[ptr kp] C (fun r H => ∃ b, r = ptr b ∧ H = wk b kp tr.length 0 false :: C) := by
 intro g
 refine L89_sound (R := FnR _) ?_
 unfold L89
 refine CallF.rd .here (at_trail h) ?_
 rintro v rfl
 refine Build.mk (cs := [ptr kp, .int .i64 ((tr.length : Nat) : Int), .int .i64 0, .bool false]) (by kernel_rfl) ?_
 intro b _
 exact FnR.here ⟨b, rfl, rfl⟩
theorem wstep_ok (h : At kp K S ord tr C) {l : Nat} (hl : l + 1 < K.n) (htr : tr.length < 1099511627776) (hf : kfit K S ord l) (hd : d < 4611686018427387904) :
  Fc Tryz.prog 91 #[ptr b, .int .i64 (l : Int)] (wk b kp f d false :: C) (fun r H => r = .int .i64 0 ∧ ∃ C', H = wk b kp f (d + 1) false :: C' ∧ At kp K S (swp ord l) (tr ++ [l]) C') := by
 intro g
 refine L91_sound (R := FnR _) ?_
 unfold L91
 refine Nil.ptr (FAddr.mk (Ld.mk (v := ptr kp) (by exact .head _) rfl ?_))
 refine CallF.fn (.cons .here) (at_exch h hl htr hf) ?_
 rintro v C' ⟨rfl, h'⟩
 intro J hJ
 refine Bin.eqD (Br.decT rfl ?_)
 refine Nil.ptr (FAddr.mk (Ld.mk (v := .int .i64 (d : Int)) (by exact .head _) rfl ?_))
 refine Bin.addN (b := 1) (by simp [lim]; omega) ?_
 refine Nil.ptr (FAddr.mk (St.one (by exact .head _) rfl (by simp) rfl ?_))
 exact JE.mk (hJ _ fun gs => FnR.here ⟨rfl, C', rfl, h'⟩)
theorem wstep_no (h : At kp K S ord tr C) {l : Nat} (hl : l + 1 < K.n) (htr : tr.length < 1099511627776) (hf : ¬ kfit K S ord l) :
  Rd Tryz.prog 91 #[ptr b, .int .i64 (l : Int)] (wk b kp f d false :: C) (· = .int .i64 9) := by
 intro g
 refine L91_sound (R := FnR _) ?_
 unfold L91
 refine Nil.ptr (FAddr.mk (Ld.mk (v := ptr kp) (by exact .head _) rfl ?_))
 refine CallF.rd (.cons .here) (at_exch_no h hl htr hf) ?_
 rintro v rfl
 intro J hJ
 refine Bin.eqD (Br.decF (by decide) ?_)
 exact JE.mk (hJ _ fun gs => RdR.mk (.refl _) rfl)
theorem wback_ok {ok : Bool} {path : List Nat} (h : At kp K S (swps ord path) (tr ++ path) C) (hp : ∀ l ∈ path, l + 1 < K.n) (htr : (tr ++ path).length < 1099511627776) (hd : d < 4611686018427387904) :
  Fc Tryz.prog 92 #[ptr b] (wk b kp tr.length d ok :: C) (fun r H => r = .tuple #[] ∧ ∃ C', H = wk b kp tr.length (d + path.length) ok :: C' ∧ At kp K S ord tr C') := by
 have hpl : path.length < 1099511627776 := by rw [List.length_append] at htr; omega
 intro g
 refine L92_sound (R := FnR _) ?_
 unfold L92
 refine DR.of (R := [wk b kp tr.length d ok]) (Ent.left (A := [_]) (B := C)) ?_
 refine Nil.ptr (FAddr.mk (Ld.mk (v := ptr kp) (by exact .head _) rfl ?_))
 refine Nil.ptr (FAddr.mk (Ld.mk (v := .int .i64 ((tr.length : Nat) : Int)) (by exact .head _) rfl ?_))
 refine CallF.fn (args := #[ptr kp, .int .i64 ((tr.length + 0 : Nat) : Int)]) (.cons .here) (back_ok h hp (Nat.zero_le _) htr) ?_
 rintro v C' ⟨rfl, h'⟩
 rw [List.take_zero, List.append_nil] at h'
 refine ⟨Ent.left (A := [_]) (B := C'), ?_⟩
 refine Ext.mk rfl (Ext.mk rfl ?_)
 refine Nil.ptr (FAddr.mk (Ld.mk (v := .int .i64 (d : Int)) (by exact .head _) rfl ?_))
 refine Bin.addN (by simp [lim]; omega) ?_
 refine Nil.ptr (FAddr.mk (St.one (by exact .head _) rfl (by simp) rfl ?_))
 exact FnR.here ⟨rfl, C', rfl, h'⟩
theorem wend_keep : Rd Tryz.prog 90 #[ptr b] (wk b kp f d true :: C) (· = .tuple #[]) := by
 intro g
 refine L90_sound (R := FnR _) ?_
 unfold L90
 refine Nil.ptr (FAddr.mk (Ld.mk (v := .bool true) (by exact .head _) rfl ?_))
 exact Un.not (Br.no (RdR.mk (.refl _) rfl))
theorem wend_back {path : List Nat} (h : At kp K S (swps ord path) (tr ++ path) C) (hp : ∀ l ∈ path, l + 1 < K.n) (htr : (tr ++ path).length < 1099511627776) (hd : d < 4611686018427387904) :
  Fc Tryz.prog 90 #[ptr b] (wk b kp tr.length d false :: C) (fun r H => r = .tuple #[] ∧ ∃ C', H = wk b kp tr.length (d + path.length) false :: C' ∧ At kp K S ord tr C') := by
 intro g
 refine L90_sound (R := FnR _) ?_
 unfold L90
 refine Nil.ptr (FAddr.mk (Ld.mk (v := .bool false) (by exact .head _) rfl ?_))
 refine Un.not (Br.yes ?_)
 refine CallF.fn .here (wback_ok h hp htr hd) ?_
 rintro v H ⟨rfl, C', rfl, h'⟩
 exact FnR.here ⟨rfl, C', rfl, h'⟩
theorem at_level (h : At kp K S ord tr C) {v : Nat} (hv : v < K.n) : Rd Tryz.prog 42 #[ptr kp, .int .i64 (v : Int)] C (fun r => ∃ p, p < K.n ∧ ord.getD p 0 = v ∧ r = .tuple #[.int .i64 (p : Int), .int .i64 0]) := by
 obtain ⟨K', S', lev', h, hk⟩ := h
 obtain ⟨b, rfl, hO⟩ := h.rep
 have hn := hO.n64
 have hv' : v < K'.n := by rw [hk.n]; exact hv
 have hlen : v < lev'.length := by rw [hO.ol.2]; exact hv'
 intro g
 refine L42_sound (R := FnR _) ?_
 unfold L42
 refine Bin.ptrNil (Br.no ?_)
 refine CallF.rd .here (kvar_ok h.rep (v : Int)) ?_
 rintro r rfl
 rw [decide_eq_true (by omega)]
 refine Un.not (Br.no ?_)
 refine Nil.ptr (FAddr.mk (Ld.mk (v := b.vl) (by exact .head _) rfl ?_))
 refine hO.lv.ld (x := ((lev'.getD v 0 : Nat) : Int)) (iw_getD hlen) (Hole.sub (.cons (.app (.app (.app (.app (.app .left))))))) ?_
 refine RdR.mk (.refl _) ⟨lev'.getD v 0, ?_, ?_, rfl⟩
 ·rw [← hk.n]; exact h.ok.lv.lt v hv'
 ·exact h.od.of h.ok.lv hv'
def Moved (kp : Nat) (K : Kd) (S : Nat → Bdd.Fn) (ord tr ls : List Nat) (r : Value) (C : Hp) : Prop :=
 ((rm K S).can ord ls = true ∧ r = .tuple #[.int .i64 ((ls.length : Nat) : Int), .int .i64 0] ∧ At kp K S (swps ord ls) (tr ++ ls) C) ∨
 ((rm K S).can ord ls = false ∧ r = .tuple #[.int .i64 ((2 * ((rm K S).goes 0 ls ord).length : Nat) : Int), .int .i64 9] ∧ At kp K S ord tr C)
theorem mall_ok {Y : Hp} {v : Value} {ls : List Nat} (h : At kp K S ord tr C) (hI : Ints .i64 Y v (iw ls)) (hp : ∀ l ∈ ls, l + 1 < K.n) (htr : tr.length + ls.length < 1099511627776) :
  Fc Tryz.prog 82 #[ptr kp, v] (Y ++ C) (fun r H => ∃ C', H = Y ++ C' ∧ Moved kp K S ord tr ls r C') := by
 let m := rm K S
 have hgl := m.goes_len 0 ls ord
 have hpt : ∀ i, ∀ l ∈ ls.take i, l + 1 < K.n := fun i l hl => hp l (List.mem_of_mem_take hl)
 intro g
 refine L82_sound (R := FnR _) ?_
 unfold L82
 intro b1 _
 refine CallF.fn (.cons (.app .here)) (wbegin_ok h) ?_
 rintro v3 H ⟨b, rfl, rfl⟩
 intro b5 _
 refine St.one (by exact .head _) rfl (by simp) rfl ?_
 refine hI.lenS ?_
 rw [iw_length]
 refine ⟨fun vs H => ∃ i C2, i ≤ (m.goes 0 ls ord).length ∧ vs = [.int .i64 (i : Int)] ∧ H = (b5, .cells #[ptr b] 141 (0, 0)) :: (b1, .cells #[.int .i64 0] 3 (0, 0)) :: (Y ++ (wk b kp tr.length i false :: C2)) ∧ At kp K S (swps ord (ls.take i)) (tr ++ ls.take i) C2,
  fun vs _ => ls.length - nAt vs 0, JE.mk ⟨0, C, Nat.zero_le _, rfl, rfl, by simpa [swps] using h⟩, ?_⟩
 rintro w13 H ⟨i, C2, hi, hv, rfl, h2⟩ gs
 simp only [List.cons.injEq, and_true] at hv
 subst hv
 have hlen2 : (tr ++ ls.take i).length < 1099511627776 := by rw [List.length_append, List.length_take]; omega
 refine Bin.ltN (Br.dec (fun hlt => ?_) (fun hlt => ?_))
 ·refine hI.ld (n := ((ls.getD i 0 : Nat) : Int)) (iw_getD hlt) (fun _ h => .tail _ (.tail _ (List.mem_append_left _ h))) ?_
  have eg : ls.getD i 0 = ls[i] := by rw [List.getD_eq_getElem?_getD, List.getElem?_eq_getElem hlt]; rfl
  have hl1 : ls.getD i 0 + 1 < K.n := by rw [eg]; exact hp _ (List.getElem_mem hlt)
  have eq : ls[i]? = some (ls.getD i 0) := by rw [eg]; exact List.getElem?_eq_getElem hlt
  refine Ld.mk (v := ptr b) (by exact .head _) rfl ?_
  by_cases hg : i < (m.goes 0 ls ord).length
  ·have hf : kfit K S (swps ord (ls.take i)) (ls.getD i 0) := rm_fit.1 (m.goes_fit hg eq)
   refine CallF.fn (.cons (.cons (.app .here))) (wstep_ok h2 hl1 hlen2 hf (by omega)) ?_
   rintro r H ⟨rfl, C3, rfl, h3⟩
   refine Bin.neD (Br.decF (by decide) ?_)
   refine Bin.addN (b := 1) (by simp [lim]; omega) ?_
   refine Back.mk ⟨i + 1, C3, hg, rfl, rfl, ?_⟩ (by simp only [nAt]; omega)
   have e : ls.take (i + 1) = ls.take i ++ [ls.getD i 0] := by rw [List.take_add_one, eq]; rfl
   rw [e, swps_snoc, ← List.append_assoc]; exact h3
  ·obtain rfl : i = (m.goes 0 ls ord).length := by omega
   have hf : ¬ kfit K S (swps ord (ls.take (m.goes 0 ls ord).length)) (ls.getD (m.goes 0 ls ord).length 0) := fun hf => by
    have h8 := m.goes_stop eq
    have h9 := rm_fit.2 hf
    rw [show (rm K S).fit _ _ = false from h8] at h9; cases h9
   refine CallF.rd (.cons (.cons (.app .here))) (wstep_no h2 hl1 hlen2 hf) ?_
   rintro r rfl
   refine Bin.neD (Br.decT (by decide) ?_)
   refine St.one (by exact .tail (.head _)) rfl (by simp) rfl ?_
   refine L134_soundD (R := _) ?_
   unfold L134
   refine Ld.mk (v := ptr b) (by exact .head _) rfl ?_
   refine CallF.fn (.cons (.cons (.app .here))) (wend_back h2 (hpt _) hlen2 (by omega)) ?_
   rintro r H ⟨rfl, C3, rfl, h3⟩
   refine Ld.mk (v := ptr b) (by exact .head _) rfl ?_
   have eD : (m.goes 0 ls ord).length + (ls.take (m.goes 0 ls ord).length).length = 2 * (m.goes 0 ls ord).length := by rw [List.length_take]; omega
   rw [eD]
   refine Nil.ptr (FAddr.mk (Ld.mk (v := .int .i64 ((2 * (m.goes 0 ls ord).length : Nat) : Int)) (by exact .tail _ (.tail _ (List.mem_append_right _ (.head _)))) rfl ?_))
   refine St.one (by exact .tail (.head _)) rfl (by simp) rfl ?_
   refine ⟨⟨_, rfl⟩, ?_⟩
   refine Ld.mk (v := .int .i64 ((2 * (m.goes 0 ls ord).length : Nat) : Int)) (by exact .tail _ (.head _)) rfl ?_
   refine FnR.mk (.skip (.skip (.prep .tail _))) ⟨C3, rfl, .inr ⟨decide_eq_false (show ¬ (m.goes 0 ls ord).length = ls.length by omega), rfl, h3⟩⟩
 ·have hil : i = ls.length := by omega
  subst hil
  rw [List.take_length] at h2
  have hcan : (rm K S).can ord ls = true := decide_eq_true (show (m.goes 0 ls ord).length = ls.length by omega)
  refine Ld.mk (v := ptr b) (by exact .head _) rfl ?_
  refine Nil.ptr (FAddr.mk (St.one (Upd.tail (Upd.tail (Upd.prepend (.head _) _))) rfl (by simp) rfl ?_))
  refine St.one (by exact .tail (.head _)) rfl (by simp) rfl ?_
  refine L134_soundD (R := _) ?_
  unfold L134
  refine Ld.mk (v := ptr b) (by exact .head _) rfl ?_
  refine CallF.rd (B := wk b kp tr.length ls.length true :: C2) (.cons (.cons (.app .here))) wend_keep ?_
  rintro r rfl
  refine Ld.mk (v := ptr b) (by exact .head _) rfl ?_
  refine Nil.ptr (FAddr.mk (Ld.mk (v := .int .i64 ((ls.length : Nat) : Int)) (by exact .tail _ (.tail _ (List.mem_append_right _ (.head _)))) rfl ?_))
  refine St.one (by exact .tail (.head _)) rfl (by simp) rfl ?_
  refine ⟨⟨_, rfl⟩, ?_⟩
  refine Ld.mk (v := .int .i64 ((ls.length : Nat) : Int)) (by exact .tail _ (.head _)) rfl ?_
  refine FnR.mk (.skip (.skip (.prep .tail _))) ⟨C2, rfl, .inl ⟨hcan, rfl, h2⟩⟩
end
end Go.Proofs
namespace Bdd
def Rm.szAt (m : Rm) (ord : List Nat) (p j : Nat) : Nat := if p ≤ j then m.size (swps ord ((road p (m.n - 1)).take (j - p))) else m.size (swps ord ((road p 0).take (p - j)))
def Rm.szs (m : Rm) (ord : List Nat) (p lo hi : Nat) : List Nat := (List.range m.n).map fun j => if lo ≤ j ∧ j ≤ hi then m.szAt ord p j else 0
def Rm.sizes (m : Rm) (ord : List Nat) (p : Nat) : List Nat := (List.range m.n).map fun j => m.szAt ord p j
theorem Rm.szs_len (m : Rm) (ord : List Nat) (p lo hi : Nat) : (m.szs ord p lo hi).length = m.n := by simp [szs]
theorem Rm.szs_all (m : Rm) (ord : List Nat) (p : Nat) : m.szs ord p 0 (m.n - 1) = m.sizes ord p := by
 refine List.map_congr_left fun j hj => if_pos ?_
 have := List.mem_range.1 hj; omega
theorem Rm.szs_set (m : Rm) {ord : List Nat} {p lo hi j lo' hi' : Nat} (hj : j < m.n) (h : ∀ k, (lo' ≤ k ∧ k ≤ hi') ↔ ((lo ≤ k ∧ k ≤ hi) ∨ k = j)) : (m.szs ord p lo hi).set j (m.szAt ord p j) = m.szs ord p lo' hi' := by
 apply List.ext_getElem?
 intro k
 by_cases hk : k < m.n
 ·by_cases e : j = k
  ·subst e
   rw [List.getElem?_set_self (by rw [szs_len]; exact hj)]
   simp only [szs, List.getElem?_map, List.getElem?_range hk, Option.map_some]
   rw [if_pos ((h j).2 (.inr rfl))]
  ·rw [List.getElem?_set_ne e]
   simp only [szs, List.getElem?_map, List.getElem?_range hk, Option.map_some]
   congr 1
   have := h k
   by_cases h1 : lo ≤ k ∧ k ≤ hi
   ·rw [if_pos h1, if_pos (this.2 (.inl h1))]
   ·rw [if_neg h1, if_neg (fun h2 => (this.1 h2).elim h1 fun h3 => e h3.symm)]
 ·rw [List.getElem?_eq_none (by rw [List.length_set, szs_len]; omega), List.getElem?_eq_none (by rw [szs_len]; omega)]
theorem Rm.szs_one (m : Rm) {ord : List Nat} {p : Nat} (hp : p < m.n) : (List.replicate m.n 0).set p (m.size ord) = m.szs ord p p p := by
 apply List.ext_getElem?
 intro k
 by_cases hk : k < m.n
 ·by_cases e : p = k
  ·subst e
   rw [List.getElem?_set_self (by simpa using hp)]
   simp [szs, hk, szAt, swps]
  ·rw [List.getElem?_set_ne e]
   have : ¬ (p ≤ k ∧ k ≤ p) := by omega
   simp [szs, hk, this]
 ·rw [List.getElem?_eq_none (by simp; omega), List.getElem?_eq_none (by rw [szs_len]; omega)]
theorem road_down {p n k : Nat} (hp : p < n) (hk : k < (road p (n - 1)).length) : (road p (n - 1))[k]? = some (p + k) ∧ p + k + 1 < n := by
 unfold road at hk ⊢
 have e : p - (n - 1) = 0 := by omega
 rw [e] at hk ⊢
 simp only [List.range'_zero, List.reverse_nil, List.append_nil, List.length_range'] at hk ⊢
 exact ⟨by rw [List.getElem?_range' hk, Nat.one_mul], by omega⟩
theorem road_up {p k : Nat} (hk : k < (road p 0).length) : (road p 0)[k]? = some (p - 1 - k) ∧ k < p := by
 unfold road at hk ⊢
 simp only [Nat.zero_sub, List.range'_zero, List.nil_append, List.length_reverse, List.length_range', Nat.sub_zero] at hk ⊢
 refine ⟨?_, hk⟩
 rw [List.getElem?_reverse (by simpa using hk), List.length_range', List.getElem?_range' (by omega)]
 congr 1; omega
theorem road_down_len {p n : Nat} (hp : p < n) : (road p (n - 1)).length = n - 1 - p := by rw [road_len]; omega
theorem road_up_len (p : Nat) : (road p 0).length = p := by rw [road_len]; omega
end Bdd
set_option maxRecDepth 100000
namespace Go.Proofs
open Go Go.Sx
open Bdd
section
variable {kp b f d : Nat} {K : Kd} {S : Nat → Bdd.Fn} {ord tr : List Nat} {C : Hp}
theorem Moved.tup {ls : List Nat} {r : Value} (h : Moved kp K S ord tr ls r C) : ∃ x y, r = .tuple #[x, y] := by
 rcases h with ⟨_, rfl, _⟩ | ⟨_, rfl, _⟩ <;> exact ⟨_, _, rfl⟩
theorem to_ok (h : At kp K S ord tr C) {v l : Nat} (hv : v < K.n) (hl : l < K.n) (htr : tr.length < 549755813888) :
  Fc Tryz.prog 33 #[ptr kp, .int .i64 (v : Int), .int .i64 (l : Int)] C (fun r C' => ∃ p, p < K.n ∧ ord.getD p 0 = v ∧ Moved kp K S ord tr (road p l) r C') := by
 have hn := h.n64
 intro g
 refine L33_sound (R := FnR _) ?_
 unfold L33
 refine Bin.ptrNil (Br.no ?_)
 intro J2 hJ2
 refine Bin.lss ?_
 rw [decide_eq_false (by omega)]
 refine Split.go rfl ?_
 refine CallF.rd .here (at_vars h) ?_
 rintro r rfl
 refine Bin.geq ?_
 rw [decide_eq_false (by omega)]
 refine Pick.mk (JE.mk (hJ2 _ _ fun gs => Br.no ?_))
 refine CallF.rd .here (at_level h hv) ?_
 rintro r ⟨p, hp, he, rfl⟩
 refine Ext.mk rfl (Ext.mk rfl (Bin.neD (Br.decF (by decide) ?_)))
 refine CallF.fn hnew (road_ok (a := p) (b := l) (by omega) (by omega)) ?_
 rintro r CR hR
 have hrl := road_len p l
 refine CallF.fn .here (mall_ok h hR.ints (fun x hx => road_mem hp hl hx) (by omega)) ?_
 rintro r H ⟨C', rfl, hM⟩
 obtain ⟨x, y, rfl⟩ := hM.tup
 refine Ext.mk rfl (Ext.mk rfl ?_)
 exact FnR.mk .right ⟨p, hp, he, hM⟩
theorem order_ok {Y : Hp} {v : Value} {q : List Nat} (h : At kp K S ord tr C) (hI : Ints .i64 Y v (iw q)) (hpo : ord.Perm (List.range K.n)) (hpq : q.Perm (List.range K.n)) (htr : tr.length < 549755813888) :
  Fc Tryz.prog 34 #[ptr kp, v] (Y ++ C) (fun r H => ∃ C', H = Y ++ C' ∧ Moved kp K S ord tr (path ord q) r C') := by
 have hn := h.n64
 have hol : ord.length = K.n := by rw [hpo.length_eq, List.length_range]
 have hql : q.length = K.n := by rw [hpq.length_eq, List.length_range]
 have hnd : q.Nodup := hpq.nodup_iff.2 List.nodup_range
 intro g
 refine L34_sound (R := FnR _) ?_
 unfold L34
 refine Bin.ptrNil (Br.no ?_)
 intro J2 hJ2
 refine CallF.rd .left (pcheck_ok hI (by rw [iw_length]; omega)) ?_
 rintro r (⟨rfl, ha, hl⟩ | ⟨_, _, hl⟩ | ⟨_, hno⟩)
 rotate_left
 ·rw [iw_length] at hl; omega
 ·exact absurd (allIn_iw hpq) hno
 refine Bin.neD (Split.go (by decide) ?_)
 refine hI.lenS ?_
 refine CallF.rd (.app .here) (at_vars h) ?_
 rintro r rfl
 refine Bin.neN ?_
 rw [decide_eq_false (by rw [iw_length]; omega)]
 refine Pick.mk (JE.mk (hJ2 _ _ fun gs => Br.no ?_))
 refine CallF.fn (.app .here) (at_order h) ?_
 rintro vo H ⟨N, rfl, ho⟩
 refine CallF.pre (H' := (N ++ Y) ++ C) (.perm (by rw [List.append_assoc, ← List.append_assoc, ← List.append_assoc]; exact List.perm_append_comm.append_right C)) ?_
 refine CallF.fn .left (ppath_ok (ho.ints.mono fun _ h => List.mem_append_left _ h) (hI.mono fun _ h => List.mem_append_right _ h) hpo hpq hn) ?_
 rintro r H ⟨s, CP, rfl, rfl, hP⟩
 refine Ext.mk rfl (Ext.mk rfl (Bin.neD (Br.decF (by decide) ?_)))
 obtain ⟨_, hpl⟩ := path_ok hnd (hpo.trans hpq.symm)
 have hplen : (path ord q).length ≤ 4096 := by
  have := pathN_len hnd (hpo.trans hpq.symm) q.length (Nat.le_refl _)
  have h2 : q.length * ord.length ≤ 64 * 64 := Nat.mul_le_mul (by omega) (by omega)
  unfold path; omega
 refine CallF.fn .here (mall_ok h (hP.ints.mono fun _ h => List.mem_append_left _ h) (fun x hx => by have := hpl x hx; omega) (by omega)) ?_
 rintro r H ⟨C', rfl, hM⟩
 obtain ⟨x, y, rfl⟩ := hM.tup
 refine Ext.mk rfl (Ext.mk rfl ?_)
 refine FnR.mk ?_ ⟨C', rfl, hM⟩
 rw [List.append_assoc, List.append_assoc]
 exact Ent.right.trans .right
def endOf (n : Nat) : Nat → Nat
 | 0 => n - 1
 | _ => 0
def loOf (p : Nat) : Nat → Nat → Nat
 | 0, _ => p
 | _, k => p - k
def hiOf (n p : Nat) : Nat → Nat → Nat
 | 0, k => p + k
 | _, _ => n - 1
def plOf (p : Nat) : Nat → Nat → Nat
 | 0, k => p + k
 | _, k => p - k
theorem sizes_ok (h : At kp K S ord tr C) {v : Nat} (hv : v < K.n) (htr : tr.length < 549755813888)
  (hcan : ∀ p, p < K.n → ord.getD p 0 = v → (rm K S).can ord (road p (K.n - 1)) = true ∧ (rm K S).can ord (road p 0) = true) :
  Fc Tryz.prog 39 #[ptr kp, .int .i64 (v : Int)] C (fun r H => ∃ p s CS C', p < K.n ∧ ord.getD p 0 = v ∧ r = .tuple #[s, .int .i64 0] ∧ H = CS ++ C' ∧ IOwn 3 .i64 s (iw ((rm K S).sizes ord p)) CS ∧ At kp K S ord tr C') := by
 let m := rm K S
 have hmn : m.n = K.n := rfl
 have hn := h.n64
 intro g
 refine L39_sound (R := FnR _) ?_
 unfold L39
 refine CallF.rd .here (at_level h hv) ?_
 rintro r ⟨p, hp, he, rfl⟩
 have hc : ∀ e, m.can ord (road p (endOf K.n e)) = true := fun e => by
  cases e with
  | zero => exact (hcan p hp he).1
  | succ e => exact (hcan p hp he).2
 refine Ext.mk rfl (Ext.mk rfl (Bin.neD (Br.decF (by decide) ?_)))
 refine CallF.fn .here (wbegin_ok h) ?_
 rintro r H ⟨b, rfl, rfl⟩
 refine CallF.rd (.cons .here) (at_vars h) ?_
 rintro r rfl
 refine MkSlice.ints (by omega) (by omega) fun bs => ?_
 refine CallF.rd (.cons (.cons .here)) (at_live h) ?_
 rintro r rfl
 refine IAddr.nat hp ?_
 refine St.ints (l := List.replicate K.n 0) (x := ((ksz K S ord : Nat) : Int)) (by exact .head _) (by simpa using hp) ?_
 have e1 : (List.replicate K.n (0 : Int)).set p ((ksz K S ord : Nat) : Int) = iw (m.szs ord p p p) := by
  have : List.replicate K.n (0 : Int) = iw (List.replicate m.n 0) := by simp [iw, hmn]
  rw [this, iw_set, ← m.szs_one hp]; rfl
 rw [e1]
 refine CallF.rd (.cons (.cons .here)) (at_vars h) ?_
 rintro r rfl
 refine Bin.subN (b := 1) (by simp [lim]; omega) (by omega) ?_
 refine BuildSl.ints2 (e := 3) (by kernel_rfl) (by kernel_rfl) (by kernel_rfl) fun b19 => ?_
 refine LenS.mk ?_
 have hI2 : ∀ {Z : Hp}, Ints .i64 ((b19, .cells (icells .i64 [((K.n - 1 : Nat) : Int), 0]) 3 (0, 0)) :: Z) (.slice (some ⟨b19, 0, none⟩) 2 2) [((K.n - 1 : Nat) : Int), 0] := fun {Z} => Ints.block (l := [((K.n - 1 : Nat) : Int), 0]) (cap := 2) (.head _) (by simp)
 have hsl := IOwn.made (T := 3) (kd := .i64) (b := bs) (iw (m.szs ord p p p))
 rw [iw_length, m.szs_len, hmn] at hsl
 generalize hsv : Value.slice (some ⟨bs, 0, none⟩) K.n K.n = sv at *
 refine ⟨fun vs H => ∃ (i d : Nat) (CS C2 : Hp), i ≤ 2 ∧ d ≤ 200 * i ∧ vs = [.int .i64 (i : Int)] ∧ H = (b19, .cells (icells .i64 [((K.n - 1 : Nat) : Int), 0]) 3 (0, 0)) :: (CS ++ (wk b kp tr.length d false :: C2)) ∧ IOwn 3 .i64 sv (iw (m.szs ord p (if i = 2 then 0 else p) (if i = 0 then p else K.n - 1))) CS ∧ At kp K S ord tr C2,
  fun vs _ => 2 - nAt vs 0, JE.mk ⟨0, 0, _, C, by omega, by omega, rfl, rfl, hsl, h⟩, ?_⟩
 rintro w26 H ⟨i, d, CS, C2, hi, hd, hv', rfl, hS, h2⟩ gs
 simp only [List.cons.injEq, and_true] at hv'
 subst hv'
 refine Bin.ltN (b := 2) (Br.dec (fun hlt => ?_) (fun hlt => ?_))
 ·refine hI2.ld (n := ((endOf K.n i : Nat) : Int)) (by rcases i with _ | _ | i <;> first | rfl | omega) (fun _ h => h) ?_
  have hee : endOf K.n i < K.n := by rcases i with _ | i <;> simp [endOf] <;> omega
  refine CallF.fn hnew (road_ok (a := p) (b := endOf K.n i) (by omega) (by omega)) ?_
  rintro r CR hR
  have hrl : (road p (endOf K.n i)).length ≤ 64 := by rw [road_len]; omega
  refine hR.lenS ?_
  rw [iw_length]
  refine ⟨fun vs H => ∃ (k : Nat) (CS C3 : Hp), k ≤ (road p (endOf K.n i)).length ∧ vs = [.int .i64 ((plOf p i k : Nat) : Int), .int .i64 (k : Int)] ∧ H = CR ++ ((b19, .cells (icells .i64 [((K.n - 1 : Nat) : Int), 0]) 3 (0, 0)) :: (CS ++ (wk b kp tr.length (d + k) false :: C3))) ∧
    IOwn 3 .i64 sv (iw (m.szs ord p (loOf p i k) (hiOf K.n p i k))) CS ∧ At kp K S (swps ord ((road p (endOf K.n i)).take k)) (tr ++ (road p (endOf K.n i)).take k) C3,
   fun vs _ => (road p (endOf K.n i)).length - nAt vs 1, JE.mk ⟨0, CS, C2, Nat.zero_le _, ?_, rfl, ?_, by simpa [swps] using h2⟩, ?_⟩
  ·rcases i with _ | i <;> rfl
  ·rcases i with _ | _ | i
   ·exact hS
   ·exact hS
   ·omega
  rintro w37 w38 H ⟨k, CS, C3, hk, hv', rfl, hS, h3⟩ gs
  simp only [List.cons.injEq, and_true] at hv'
  obtain ⟨rfl, rfl⟩ := hv'
  have hlen3 : (tr ++ (road p (endOf K.n i)).take k).length < 1099511627776 := by rw [List.length_append, List.length_take]; omega
  refine Bin.ltN (Br.dec (fun hlt2 => ?_) (fun hlt2 => ?_))
  ·obtain ⟨l, hl⟩ : ∃ l, (road p (endOf K.n i))[k]? = some l := ⟨_, List.getElem?_eq_getElem hlt2⟩
   have hl1 : l + 1 < K.n := road_mem hp hee (List.mem_of_getElem? hl)
   refine hR.ld (x := (l : Int)) (iw_get hl) (fun _ h => List.mem_append_left _ h) ?_
   have hgl : (m.goes 0 (road p (endOf K.n i)) ord).length = (road p (endOf K.n i)).length := of_decide_eq_true (hc i)
   have hf : kfit K S (swps ord ((road p (endOf K.n i)).take k)) l := rm_fit.1 (m.goes_fit (by omega) hl)
   refine CallF.fn (.app (.cons (.app .here))) (wstep_ok h3 hl1 hlen3 hf (by omega)) ?_
   rintro r H ⟨rfl, C4, rfl, h4⟩
   refine Bin.neD (Br.decF (by decide) ?_)
   have hpl : plOf p i k = l ∨ plOf p i k = l + 1 := by
    rcases i with _ | i
    ·have := (road_down hp hlt2).1; rw [show road p (K.n - 1) = road p (endOf K.n 0) from rfl, hl] at this; simp at this; left; exact this.symm
    ·have ⟨h8, h9⟩ := road_up (p := p) (k := k) hlt2
     rw [show road p 0 = road p (endOf K.n (i + 1)) from rfl, hl] at h8; simp at h8; right
     show p - k = l + 1; omega
   have hpl2 : plOf p i (k + 1) + plOf p i k = 2 * l + 1 := by
    rcases i with _ | i
    ·have := (road_down hp hlt2).1; rw [show road p (K.n - 1) = road p (endOf K.n 0) from rfl, hl] at this; simp at this
     show p + (k + 1) + (p + k) = _; omega
    ·have ⟨h8, h9⟩ := road_up (p := p) (k := k) hlt2
     rw [show road p 0 = road p (endOf K.n (i + 1)) from rfl, hl] at h8; simp at h8
     show p - (k + 1) + (p - k) = _; omega
   have hpl3 : plOf p i (k + 1) < K.n := by omega
   refine Bin.addN (by simp [lim]; omega) (Bin.addN (b := 1) (by simp [lim]; omega) ?_)
   refine Bin.sub64 (c := ((l + l + 1 : Nat) : Int) - (plOf p i k : Nat)) rfl (by omega) (Bin.sub64 (c := ((l + l + 1 : Nat) : Int) - (plOf p i k : Nat) - (plOf p i k : Nat)) rfl (by omega) (Bin.add64 (c := ((plOf p i (k + 1) : Nat) : Int)) (by omega) (by omega) ?_))
   have e : (road p (endOf K.n i)).take (k + 1) = (road p (endOf K.n i)).take k ++ [l] := by rw [List.take_add_one, hl]; rfl
   rw [← swps_snoc, List.append_assoc, ← e] at h4
   refine CallF.rd (.app (.cons (.app (.cons .here)))) (at_live h4) ?_
   rintro r rfl
   refine hS.putH (x := ((ksz K S (swps ord ((road p (endOf K.n i)).take (k + 1))) : Nat) : Int)) (.app (.cons .left)) (by rw [iw_length, m.szs_len, hmn]; exact hpl3) fun CS' hS' => ?_
   have ez : ksz K S (swps ord ((road p (endOf K.n i)).take (k + 1))) = m.szAt ord p (plOf p i (k + 1)) := by
    unfold Rm.szAt
    rcases i with _ | i
    ·rw [if_pos (show p ≤ plOf p 0 (k + 1) from Nat.le_add_right _ _), show plOf p 0 (k + 1) - p = k + 1 from Nat.add_sub_cancel_left _ _]; rfl
    ·have ⟨_, h9⟩ := road_up (p := p) (k := k) hlt2
     rw [if_neg (show ¬ p ≤ plOf p (i + 1) (k + 1) from (show ¬ p ≤ p - (k + 1) by omega)), show p - plOf p (i + 1) (k + 1) = k + 1 from (show p - (p - (k + 1)) = k + 1 by omega)]; rfl
   have es : (m.szs ord p (loOf p i k) (hiOf K.n p i k)).set (plOf p i (k + 1)) (m.szAt ord p (plOf p i (k + 1))) = m.szs ord p (loOf p i (k + 1)) (hiOf K.n p i (k + 1)) := m.szs_set hpl3 fun j => by
    rcases i with _ | i
    ·show (p ≤ j ∧ j ≤ p + (k + 1)) ↔ ((p ≤ j ∧ j ≤ p + k) ∨ j = p + (k + 1)); omega
    ·have ⟨_, h9⟩ := road_up (p := p) (k := k) hlt2
     show (p - (k + 1) ≤ j ∧ j ≤ K.n - 1) ↔ ((p - k ≤ j ∧ j ≤ K.n - 1) ∨ j = p - (k + 1)); omega
   rw [iw_set, ez, es] at hS'
   refine Bin.addN (b := 1) (by simp [lim]; omega) ?_
   exact Back.mk ⟨k + 1, CS', C4, hlt2, rfl, rfl, hS', h4⟩ (by simp only [nAt]; omega)
  ·obtain rfl : k = (road p (endOf K.n i)).length := by omega
   rw [List.take_length] at h3 hlen3
   refine CallF.fn (.app (.cons (.app .here))) (wback_ok h3 (fun x hx => road_mem hp hee hx) hlen3 (by omega)) ?_
   rintro r H ⟨rfl, C4, rfl, h4⟩
   refine Bin.addN (b := 1) (by simp [lim]; omega) ?_
   refine Back.of .right ⟨i + 1, _, CS, C4, by omega, ?_, rfl, rfl, ?_, h4⟩ (by simp only [nAt]; omega)
   ·omega
   ·rcases i with _ | _ | i
    ·have e2 : loOf p 0 (road p (endOf K.n 0)).length = p := rfl
     have e3 : hiOf K.n p 0 (road p (endOf K.n 0)).length = K.n - 1 := by show p + (road p (K.n - 1)).length = _; rw [road_down_len hp]; omega
     rw [e2, e3] at hS; exact hS
    ·have e2 : loOf p 1 (road p (endOf K.n 1)).length = 0 := by show p - (road p 0).length = _; rw [road_up_len]; omega
     rw [show (0 + 1 : Nat) = 1 from rfl, e2] at hS; exact hS
    ·omega
 ·obtain rfl : i = 2 := by omega
  refine L90_soundD (R := _) ?_
  unfold L90
  refine Nil.ptr (FAddr.mk (Ld.mk (v := .bool false) (by exact .tail _ (List.mem_append_right _ (.head _))) rfl ?_))
  refine Un.not (Br.yes ?_)
  refine CallF.fn (.cons (.app .here)) (wback_ok (path := []) (by simpa [swps] using h2) (by simp) (by rw [List.append_nil]; omega) (by omega)) ?_
  rintro r H ⟨rfl, C4, rfl, h4⟩
  refine ⟨⟨_, rfl⟩, ?_⟩
  have e9 : m.szs ord p 0 (K.n - 1) = m.sizes ord p := m.szs_all ord p
  refine FnR.mk (.skip (.prep .tail _)) ⟨p, sv, CS, C4, hp, he, rfl, rfl, ?_, h4⟩
  rw [← e9]; exact hS
end
end Go.Proofs
namespace Bdd
open Tab
section
variable {n : Nat} {ord : List Nat} {L : Tab.Fs}
theorem only_one {n v : Nat} {t : List Nat} (hn : n ≤ 16) (hf : Frm n t) (hv : v < n) (h : ∀ u, u < n → u ≠ v → ¬ hangs (fnT n t) u) (x : Nat) : fnT n t x = fnT n t (setb 0 v (x.testBit v)) := by
 have key : ∀ b, fnT n t (setb x v b) = fnT n t (setb 0 v b) := fun b => by
  have e := fnT_cof hf hv b
  have hflat := fnT_flat (n := n) (ws := cof n t v b) (fun u hu => by
   rw [e]
   rintro ⟨y, hy⟩
   simp only at hy
   by_cases huv : u = v
   ·subst huv
    rw [setb_setb, setb_setb] at hy; exact hy rfl
   ·rw [setb_comm huv, setb_comm huv] at hy
    exact h u hu huv ⟨_, hy⟩)
  have := hflat x
  rw [e] at this; exact this
 have := key (x.testBit v)
 rwa [setb_self] at this
theorem lev_last (hL : ∀ t ∈ L, Frm n t) (hn : n ≤ 16) (hn1 : 1 ≤ n) (hp : ord.Perm (List.range n)) : (levN n ord L (n - 1)).length ≤ 2 := by
 have hol : ord.length = n := by rw [hp.length_eq, List.length_range]
 have hmem : ∀ i, i < n → ord.getD i 0 < n := fun i hi => by
  have : ord.getD i 0 ∈ ord := by rw [List.getD_eq_getElem?_getD, List.getElem?_eq_getElem (by omega)]; exact List.getElem_mem _
  exact List.mem_range.1 (hp.mem_iff.1 this)
 have hall : ∀ u, u < n → ∃ j, j < n ∧ ord.getD j 0 = u := fun u hu => by
  obtain ⟨j, hj, e⟩ := List.mem_iff_getElem.1 (hp.mem_iff.2 (List.mem_range.2 hu))
  exact ⟨j, by omega, by rw [List.getD_eq_getElem?_getD, List.getElem?_eq_getElem hj]; exact e⟩
 have hv := hmem (n - 1) (by omega)
 have facts : ∀ t ∈ levN n ord L (n - 1), Frm n t ∧ (∀ x, fnT n t x = if x.testBit (ord.getD (n - 1) 0) then !fnT n t 0 else fnT n t 0) := by
  intro t ht
  obtain ⟨h1, h2⟩ := mem_levN.1 ht
  have hf := cur_frm hL hn (n - 1) t h1
  have hfs := (fs_cur hL hn hmem (n - 1) (by omega) (fnT n t)).2 ⟨t, h1, rfl⟩
  have hone := only_one hn hf hv (fun u hu hne => by
   obtain ⟨j, hj, e⟩ := hall u hu
   rw [← e]
   exact fs_indep (n - 1) _ hfs j (by
    have : j ≠ n - 1 := fun h => hne (by rw [← e, h])
    omega))
  have h0 : fnT n t (setb 0 (ord.getD (n - 1) 0) false) = fnT n t 0 := by
   have := hone 0
   rw [Nat.zero_testBit] at this; exact this.symm
  obtain ⟨x, hx⟩ := (fnT_hangs hf hv).2 h2
  have e1 := hone (setb x (ord.getD (n - 1) 0) false)
  have e2 := hone (setb x (ord.getD (n - 1) 0) true)
  rw [testBit_setb, if_pos rfl] at e1 e2
  rw [e1, e2, h0] at hx
  refine ⟨hf, fun y => ?_⟩
  rw [hone y]
  cases hb : y.testBit (ord.getD (n - 1) 0)
  ·rw [h0]; simp
  ·rw [if_pos rfl]
   have key : ∀ a b : Bool, a ≠ b → b = !a := by decide
   exact key _ _ hx
 have hnd : (levN n ord L (n - 1)).Nodup := (cur_nodup (n - 1)).filter _
 have h1 : ((levN n ord L (n - 1)).map fun t => fnT n t 0).Nodup := by
  refine List.pairwise_map.2 (hnd.imp_of_mem fun {a b} ha hb hne heq => hne ?_)
  obtain ⟨fa, ga⟩ := facts a ha
  obtain ⟨fb, gb⟩ := facts b hb
  exact fnT_inj fa fb (funext fun x => by rw [ga, gb, heq])
 have := length_le_of_sub h1 (l' := [true, false]) fun b _ => by cases b <;> simp
 simpa using this
end
end Bdd
namespace Bdd
theorem swp_parts (A D : List Nat) (a b : Nat) : swp (A ++ a :: b :: D) A.length = A ++ b :: a :: D := by
 unfold swp
 have h1 : (A ++ a :: b :: D).getD (A.length + 1) 0 = b := by rw [List.getD_eq_getElem?_getD, List.getElem?_append_right (by omega), Nat.add_sub_cancel_left]; rfl
 have h2 : (A ++ a :: b :: D).getD A.length 0 = a := by rw [List.getD_eq_getElem?_getD, List.getElem?_append_right (Nat.le_refl _), Nat.sub_self]; rfl
 rw [h1, h2, List.set_append_right _ _ (Nat.le_refl _), Nat.sub_self, List.set_cons_zero, List.set_append_right _ _ (by omega), Nat.add_sub_cancel_left]
 rfl
theorem split2 {ord : List Nat} {l : Nat} (hl : l + 1 < ord.length) : ∃ A D a b, ord = A ++ a :: b :: D ∧ A.length = l ∧ ord.getD l 0 = a ∧ ord.getD (l + 1) 0 = b := by
 refine ⟨ord.take l, ord.drop (l + 2), ord[l], ord[l + 1], ?_, by rw [List.length_take]; omega, ?_, ?_⟩
 ·conv => lhs; rw [← List.take_append_drop l ord, List.drop_eq_getElem_cons (show l < ord.length by omega), List.drop_eq_getElem_cons hl]
 ·rw [List.getD_eq_getElem?_getD, List.getElem?_eq_getElem (by omega)]; rfl
 ·rw [List.getD_eq_getElem?_getD, List.getElem?_eq_getElem hl]; rfl
theorem swp_rest {ord : List Nat} {l x : Nat} (hl : l + 1 < ord.length) (hx : ord.getD l 0 = x ∨ ord.getD (l + 1) 0 = x) : (swp ord l).filter (fun y => decide (y ≠ x)) = ord.filter (fun y => decide (y ≠ x)) := by
 obtain ⟨A, D, a, b, e, hA, ha, hb⟩ := split2 hl
 rw [e, ← hA, swp_parts, List.filter_append, List.filter_append]
 congr 1
 rw [List.filter_cons, List.filter_cons, List.filter_cons, List.filter_cons]
 rw [ha, hb] at hx
 rcases hx with h | h
 ·subst h; simp
 ·subst h; simp
theorem road_more {p j : Nat} (h : p ≤ j) : road p (j + 1) = road p j ++ [j] := by
 unfold road
 rw [show p - (j + 1) = 0 by omega, show p - j = 0 by omega, show j + 1 - p = (j - p) + 1 by omega, List.range'_concat]
 simp; omega
theorem road_less {p j : Nat} (h : j < p) : road p j = road p (j + 1) ++ [j] := by
 unfold road
 rw [show j - p = 0 by omega, show j + 1 - p = 0 by omega, show p - j = (p - (j + 1)) + 1 by omega, List.range'_succ]
 simp
theorem road_self (p : Nat) : road p p = [] := by unfold road; simp
theorem moved_ok {ord : List Nat} {p : Nat} (hp : p < ord.length) : ∀ (k j : Nat), (j - p) + (p - j) = k → j < ord.length → (swps ord (road p j)).getD j 0 = ord.getD p 0 ∧ (swps ord (road p j)).filter (fun y => decide (y ≠ ord.getD p 0)) = ord.filter (fun y => decide (y ≠ ord.getD p 0)) := by
 intro k
 induction k with
 | zero =>
  intro j hk hj
  obtain rfl : j = p := by omega
  rw [road_self]; exact ⟨rfl, rfl⟩
 | succ k ih =>
  intro j hk hj
  by_cases h : p < j
  ·obtain ⟨i, rfl⟩ : ∃ i, j = i + 1 := ⟨j - 1, by omega⟩
   obtain ⟨h1, h2⟩ := ih i (by omega) (by omega)
   rw [road_more (by omega), swps_snoc]
   have hl : i + 1 < (swps ord (road p i)).length := by rw [swps_len]; exact hj
   refine ⟨?_, ?_⟩
   ·rw [swp_get hl, if_neg (by omega), if_pos rfl, h1]
   ·rw [swp_rest hl (.inl h1), h2]
  ·obtain ⟨h1, h2⟩ := ih (j + 1) (by omega) (by omega)
   rw [road_less (by omega), swps_snoc]
   have hl : j + 1 < (swps ord (road p (j + 1))).length := by rw [swps_len]; omega
   refine ⟨?_, ?_⟩
   ·rw [swp_get hl, if_pos rfl, h1]
   ·rw [swp_rest hl (.inr h1), h2]
theorem range'_take (s n k : Nat) (h : k ≤ n) : (List.range' s n).take k = List.range' s k := by
 apply List.ext_getElem?
 intro i
 rw [List.getElem?_take]
 by_cases hi : i < k
 ·rw [if_pos hi, List.getElem?_range' (by omega), List.getElem?_range' hi]
 ·rw [if_neg hi, List.getElem?_eq_none (by simp; omega)]
theorem range'_drop (s n k : Nat) (h : k ≤ n) : (List.range' s n).drop k = List.range' (s + k) (n - k) := by
 apply List.ext_getElem?
 intro i
 rw [List.getElem?_drop]
 by_cases hi : i < n - k
 ·rw [List.getElem?_range' (by omega), List.getElem?_range' hi]; congr 1; omega
 ·rw [List.getElem?_eq_none (by simp; omega), List.getElem?_eq_none (by simp; omega)]
theorem szAt_road (m : Rm) {ord : List Nat} {p j : Nat} (hp : p < m.n) (hj : j < m.n) : m.szAt ord p j = m.size (swps ord (road p j)) := by
 unfold Rm.szAt
 split
 ·rename_i h
  congr 2
  unfold road
  rw [show p - (m.n - 1) = 0 by omega, show p - j = 0 by omega]
  simp only [List.range'_zero, List.reverse_nil, List.append_nil]
  rw [range'_take _ _ _ (by omega)]
 ·rename_i h
  congr 2
  unfold road
  rw [show 0 - p = 0 by omega, show j - p = 0 by omega, Nat.sub_zero]
  simp only [List.range'_zero, List.nil_append]
  rw [List.take_reverse, List.length_range', range'_drop _ _ _ (by omega)]
  congr 2 <;> omega
theorem can_all (m : Rm) {Q : List Nat → Prop} (hs : ∀ ord l, Q ord → l + 1 < m.n → Q (swp ord l)) (hf : ∀ ord l, Q ord → l + 1 < m.n → m.fit ord l = true) : ∀ {ls : List Nat} {ord : List Nat}, Q ord → (∀ x ∈ ls, x + 1 < m.n) → m.can ord ls = true
 | [], _, _, _ => decide_eq_true rfl
 | l :: ls, ord, hq, hl => by
  have h1 := hl l (by simp)
  have ih := can_all m hs hf (ls := ls) (hs ord l hq h1) (fun x hx => hl x (by simp [hx]))
  unfold Rm.can at ih ⊢
  have := of_decide_eq_true ih
  rw [Rm.goes, Nat.zero_add, if_pos (hf ord l hq h1), List.length_cons, List.length_cons, this]
  exact decide_eq_true rfl
end Bdd
set_option maxRecDepth 100000
namespace Go.Proofs
open Go Go.Sx
open Bdd
section
variable {kp gb n : Nat} {vr vf : Value} {refs : List Nat} {fs : List (List Nat)} {K : Kd} {S : Nat → Bdd.Fn} {ord tr : List Nat} {C Z : Hp}
theorem perm_lt {ord : List Nat} (hp : ord.Perm (List.range n)) : ∀ i, i < n → ord.getD i 0 < n := fun i hi => by
 have hol : ord.length = n := by rw [hp.length_eq, List.length_range]
 have : ord.getD i 0 ∈ ord := by rw [List.getD_eq_getElem?_getD, List.getElem?_eq_getElem (by omega)]; exact List.getElem_mem _
 exact List.mem_range.1 (hp.mem_iff.1 this)
theorem size_few {L : List (List Nat)} (hn : n ≤ 6) (hn1 : 1 ≤ n) (hf : ∀ t ∈ L, Tab.Frm n t) (hl : L.length ≤ 36) (hp : ord.Perm (List.range n)) : sizeN n ord L n ≤ 1118 := by
 have h1 := sizeN_le2 n ord L (n - 1)
 have h2 := lev_last (L := L) hf (by omega) hn1 hp
 have h3 : 2 ^ (n - 1) * L.length ≤ 32 * 36 := Nat.mul_le_mul (Nat.le_trans (Nat.pow_le_pow_right (by decide) (show n - 1 ≤ 5 by omega)) (by decide)) hl
 have h4 : 2 ^ (n - 1) * L.length ≤ 32 * L.length := Nat.mul_le_mul_right _ (Nat.le_trans (Nat.pow_le_pow_right (by decide) (show n - 1 ≤ 5 by omega)) (by decide))
 have e : sizeN n ord L n = sizeN n ord L (n - 1) + (levN n ord L (n - 1)).length := by
  obtain ⟨m, rfl⟩ : ∃ m, n = m + 1 := ⟨n - 1, by omega⟩
  rfl
 rw [e]
 omega
theorem swp_permR {l : Nat} (hp : ord.Perm (List.range n)) (hl : l + 1 < n) : (swp ord l).Perm (List.range n) := by
 have := swps_perm (path := [l]) (ord := ord) (fun x hx => by simp at hx; subst hx; rw [hp.length_eq, List.length_range]; exact hl)
 exact this.trans hp
theorem kfit_few (hg : Gar K S refs fs) (hn : K.n ≤ 6) (hn1 : 1 ≤ K.n) (hcap : K.cap = 4000) (hl : refs.length ≤ 36) (hp : ord.Perm (List.range K.n)) {l : Nat} (hll : l + 1 < K.n) : kfit K S ord l := by
 have hol : ord.length = K.n := by rw [hp.length_eq, List.length_range]
 unfold kfit
 rw [show K.held S = FT K.n fs from funext fun g => propext (hg.held g), usz_FT hg.frm (by omega) (perm_lt hp) hll hol]
 have h1 := size_few (ord := ord) (L := fs) hn hn1 hg.frm (by rw [← hg.len]; exact hl) hp
 have h2 := size_few (ord := swp ord l) (L := fs) hn hn1 hg.frm (by rw [← hg.len]; exact hl) (swp_permR hp hll)
 have h3 : (bothN K.n ord l fs).length ≤ (allN K.n ord fs K.n ++ allN K.n (swp ord l) fs K.n).length := length_le_of_sub (Tab.unlike_nodup _) fun x hx => Tab.mem_unlike.1 hx
 rw [List.length_append, allN_length, allN_length] at h3
 omega
theorem can_few (hg : Gar K S refs fs) (hn : K.n ≤ 6) (hn1 : 1 ≤ K.n) (hcap : K.cap = 4000) (hl : refs.length ≤ 36) (hp : ord.Perm (List.range K.n)) {ls : List Nat} (hls : ∀ x ∈ ls, x + 1 < K.n) : (rm K S).can ord ls = true :=
 can_all (rm K S) (Q := fun ord => ord.Perm (List.range K.n)) (fun o l hq h => swp_permR hq h) (fun o l hq h => rm_fit.2 (kfit_few hg hn hn1 hcap hl hq h)) hp hls
theorem Gar.kept {K' : Kd} {S' : Nat → Bdd.Fn} (h : Gar K S refs fs) (hk : Kept K S K' S') : Gar K' S' refs fs := by
 refine ⟨h.len, by rw [hk.n]; exact h.frm, fun i hi => ?_, fun s => by rw [hk.hold, h.hold]⟩
 obtain ⟨h1, h2⟩ := h.is i hi
 have hm : refs.getD i 0 ∈ refs := by rw [List.getD_eq_getElem?_getD, List.getElem?_eq_getElem hi]; exact List.getElem_mem hi
 exact ⟨h1, by rw [hk.n, h2, hk.fn _ (h.mem.2 hm)]⟩
structure GZ (gb kp n : Nat) (vr vf : Value) (refs : List Nat) (fs : List (List Nat)) (Z : Hp) : Prop where
 cell : gcell gb kp n vr vf ∈ Z
 rf : Ints .u32 Z vr (iw refs)
 fn : Tbls Z vf (fs.map fun ws => ⟨n, ws⟩)
theorem GZ.mono {Z' : Hp} (h : GZ gb kp n vr vf refs fs Z) (hs : ∀ x ∈ Z, x ∈ Z') : GZ gb kp n vr vf refs fs Z' := ⟨hs _ h.cell, h.rf.mono hs, h.fn.mono hs⟩
theorem GZ.gin (h : GZ gb kp n vr vf refs fs Z) (C : Hp) : GIn gb kp n vr vf refs fs C (Z ++ C) :=
 ⟨List.mem_append_left _ h.cell, h.rf.mono fun _ h => List.mem_append_left _ h, h.fn.mono fun _ h => List.mem_append_left _ h, _, .app .here, fun X => List.mem_append_left _ h.cell⟩
theorem fine_at (hz : GZ gb kp K.n vr vf refs fs Z) (hg : Gar K S refs fs) (hA : At kp K S ord tr C) (hn : K.n ≤ 16) (hm : refs.length < 65536) (hne : refs ≠ []) : Px Tryz.prog 31 #[ptr gb] (Z ++ C) (fun w _ => w = .bool true) := by
 obtain ⟨K', S', lev', h, hk⟩ := hA
 refine fine_ok (vr := vr) (vf := vf) (K := K') (S := S') ?_ (hg.kept hk) h (by rw [hk.n]; exact hn) hm hne
 rw [hk.n]; exact hz.gin C
end
end Go.Proofs
namespace Go.Sx
open Go
theorem Ent.sub {H Y : Hp} (hn : (Y.map Prod.fst).Nodup) (hs : ∀ x ∈ Y, x ∈ H) : Ent H Y := by
 intro g w h
 refine ⟨h.os, h.out, h.tape, ?_, fun x hx => h.has0 x ?_⟩
 ·have h1 := h.nd
  rw [List.map_append, List.nodup_append] at h1 ⊢
  refine ⟨hn, h1.2.1, fun a ha b hb => h1.2.2 a ?_ b hb⟩
  obtain ⟨x, hx, rfl⟩ := List.mem_map.1 ha
  exact List.mem_map_of_mem (hs x hx)
 ·rcases List.mem_append.1 hx with hx | hx
  ·exact List.mem_append_left _ (hs x hx)
  ·exact List.mem_append_right _ hx
end Go.Sx
set_option maxRecDepth 100000
namespace Go.Proofs
open Go Go.Sx
open Bdd
section
variable {kp gb n : Nat} {vr vf : Value} {refs : List Nat} {fs : List (List Nat)} {K : Kd} {S : Nat → Bdd.Fn} {ord tr : List Nat} {C Z Y : Hp}
theorem Grown.gz {n : Nat} {w : Value} {H : Hp} (h : Grown n Y w H) : ∃ (gb kp : Nat) (K : Kd) (S : Nat → Bdd.Fn) (refs : List Nat) (fs : List (List Nat)) (vr vf : Value) (Z C : Hp), w = ptr gb ∧ H = Z ++ C ∧ (∀ x ∈ Y, x ∈ Z) ∧ GZ gb kp n vr vf refs fs Z ∧ Gar K S refs fs ∧ At kp K S (List.range n) [] C ∧ K.n = n ∧ K.cap = 4000 ∧ n ≤ refs.length ∧ refs.length ≤ n + 30 := by
 obtain ⟨gb, kp, K, S, refs, fs, vr, vf, M, CR, CF, C, rs, tr, rfl, rfl, hY, hG, hKn, hKc, h1, h2, rfl⟩ := h
 refine ⟨gb, kp, K, S, refs, fs, vr, vf, M ++ (gcell gb kp n vr vf :: (CR ++ CF)), C, rfl, by simp [List.append_assoc], fun x hx => List.mem_append_left _ (hY.sub _ hx), ⟨List.mem_append_right _ (.head _), hG.rf.ints.mono fun _ h => List.mem_append_right _ (.tail _ (List.mem_append_left _ h)), rs, (Sl.ofOwn hG.fn (by decide)).mono fun _ h => List.mem_append_right _ (.tail _ (List.mem_append_right _ h)), ?_⟩, hG.gar, hG.ks.at', hKn, hKc, h1, h2⟩
 subst hKn
 exact hG.row.mono fun _ _ h => h.mono fun _ h => List.mem_append_left _ h
theorem fil_succ {l : List Nat} {x i : Nat} (hi : i < l.length) : (l.take (i + 1)).filter (fun y => decide (y ≠ x)) = (l.take i).filter (fun y => decide (y ≠ x)) ++ if l[i] ≠ x then [l[i]] else [] := by
 rw [List.take_succ_eq_append_getElem hi, List.filter_append, List.filter_cons, List.filter_nil]
 by_cases h : l[i] = x <;> simp [h]
theorem fil_at {l : List Nat} {x i : Nat} (hi : i < l.length) (hx : l[i] ≠ x) : (l.filter (fun y => decide (y ≠ x)))[((l.take i).filter (fun y => decide (y ≠ x))).length]? = some l[i] := by
 conv => lhs; rw [← List.take_append_drop i l, List.drop_eq_getElem_cons hi]
 rw [List.take_append_of_le_length (by rw [List.length_take]; omega), List.take_take, Nat.min_self, List.filter_append, List.getElem?_append_right (Nat.le_refl _), Nat.sub_self, List.filter_cons, if_pos (by simpa using hx)]
 rfl
theorem whole_moves_ok {a v to : Nat} {sv lv' : Value} {ops : List OpV} {l : List Nat} (ha : a < 256) (hv : v < 256) (hto : to < 256) (hs : Sl 6 Y sv (ops.map OpV.cells)) (ho : ∀ o ∈ ops, o.Ok) (hmax : ops.length < 9223372036854775808) (hl : Ints .u8 Y lv' (iw l)) (h8 : ∀ x ∈ l, x < 256) (hlm : l.length < 9223372036854775808) (hYn : (Y.map Prod.fst).Nodup) :
  Rd Tryz.prog 8 #[.int .u8 (a : Int), sv, lv', .int .u8 (v : Int), .int .u8 (to : Int)] Y (· = .bool true) := by
 intro g
 refine L8_sound (R := FnR _) ?_
 unfold L8
 refine ConvI.nat (by simp [lim]; omega) ?_
 refine Bin.remN (b := 6) (by decide) ?_
 have hn6 := Nat.mod_lt a (show 0 < 6 by decide)
 refine Bin.addN (a := 1) (by simp [lim]; omega) ?_
 obtain ⟨n, hn⟩ : ∃ n, n = 1 + a % 6 := ⟨_, rfl⟩
 rw [← hn]
 refine CallF.fn .here (grown_ok (n := n) ⟨by omega, by omega⟩ hs ho hmax) ?_
 intro w H hgr
 obtain ⟨gb, kp, K, S, refs, fs, vr, vf, Z0, C0, rfl, rfl, hYZ, hz0, hg, hA0, rfl, hcap, hr1, hr2⟩ := hgr.gz
 have hKn1 : 1 ≤ K.n := by omega
 have hKn6 : K.n ≤ 6 := by omega
 have hne : refs ≠ [] := fun e => by rw [e] at hr1; simp at hr1; omega
 refine Bin.ptrNil (Br.no ?_)
 refine CallF.fn .here (torder_ok (n := K.n) (by omega) (B := Z0 ++ C0) (hl.mono fun _ h => List.mem_append_left _ (hYZ _ h)) h8 hlm) ?_
 rintro w H ⟨p, N, rfl, hp, hN⟩
 rw [← List.append_assoc]
 have hz1 : GZ gb kp K.n vr vf refs fs (N ++ Z0) := hz0.mono fun _ h => List.mem_append_right _ h
 have hv7 : Ints .i64 (N ++ Z0) w (iw p) := hN.ints.mono fun _ h => List.mem_append_left _ h
 have hYZ : ∀ x ∈ Y, x ∈ N ++ Z0 := fun x hx => List.mem_append_right _ (hYZ x hx)
 generalize N ++ Z0 = Z at *
 clear hN hz0
 have hpl : p.length = K.n := by rw [hp.length_eq, List.length_range]
 have hpnd : p.Nodup := hp.nodup_iff.2 List.nodup_range
 have hplt := perm_lt hp
 refine Nil.ptr (FAddr.mk (Ld.mk (v := ptr kp) (by exact List.mem_append_left _ hz1.cell) rfl ?_))
 refine CallF.fn .here (order_ok hA0 hv7 (.refl _) hp (by simp)) ?_
 rintro w2 H ⟨C1, rfl, hM⟩
 obtain ⟨hpath, hpm⟩ := path_ok hpnd ((List.Perm.refl (List.range K.n)).trans hp.symm)
 have hcan := can_few hg hKn6 hKn1 hcap (by omega) (List.Perm.refl (List.range K.n)) (ls := path (List.range K.n) p) (fun x hx => by have := hpm x hx; rw [List.length_range] at this; exact this)
 rcases hM with ⟨_, rfl, hA1⟩ | ⟨h0, _, _⟩
 rotate_left
 ·rw [hcan] at h0; cases h0
 rw [hpath, List.nil_append] at hA1
 have hpathl : (path (List.range K.n) p).length ≤ 4096 := by
  have := pathN_len hpnd ((List.Perm.refl (List.range K.n)).trans hp.symm) p.length (Nat.le_refl _)
  have h2 : p.length * (List.range K.n).length ≤ 64 * 64 := Nat.mul_le_mul (by omega) (by rw [List.length_range]; omega)
  unfold path; omega
 generalize path (List.range K.n) p = tr1 at *
 refine Ext.mk rfl (Ext.mk rfl ?_)
 intro J16 h16
 have good : ∀ Z' : Hp, (∀ x ∈ Z, x ∈ Z') → J16 [.bool false] (Z' ++ C1) := by
  intro Z' hZ'
  refine h16 _ _ fun gs => Br.no ?_
  have hz2 := hz1.mono hZ'
  have hv72 : Ints .i64 Z' w (iw p) := hv7.mono hZ'
  refine ConvI.nat (by simp [lim]; omega) ?_
  refine Bin.remN (by omega) ?_
  have hvn := Nat.mod_lt v (show 0 < K.n by omega)
  refine ConvI.nat (by simp [lim]; omega) ?_
  refine Bin.remN (by omega) ?_
  have htn := Nat.mod_lt to (show 0 < K.n by omega)
  generalize v % K.n = x at *
  generalize to % K.n = t at *
  refine Nil.ptr (FAddr.mk (Ld.mk (v := ptr kp) (by exact List.mem_append_left _ hz2.cell) rfl ?_))
  refine CallF.fn (.app .here) (sizes_ok hA1 (v := x) hvn (by omega) fun q hq hqx => ⟨can_few hg hKn6 hKn1 hcap (by omega) hp (fun y hy => road_mem hq (by omega) hy), can_few hg hKn6 hKn1 hcap (by omega) hp (fun y hy => road_mem hq (by omega) hy)⟩) ?_
  rintro w3 H ⟨q, s, CS, C2, hq, hqx, rfl, rfl, hCS, hA2⟩
  rw [← List.append_assoc]
  refine Ext.mk rfl (Ext.mk rfl ?_)
  have hYZ2 : ∀ y ∈ Y, y ∈ Z' ++ CS := fun y hy => List.mem_append_left _ (hZ' y (hYZ y hy))
  have hz3 : GZ gb kp K.n vr vf refs fs (Z' ++ CS) := hz2.mono fun _ h => List.mem_append_left _ h
  have hv73 : Ints .i64 (Z' ++ CS) w (iw p) := hv72.mono fun _ h => List.mem_append_left _ h
  have hs3 : Ints .i64 (Z' ++ CS) s (iw ((rm K S).sizes p q)) := hCS.ints.mono fun _ h => List.mem_append_right _ h
  clear hz2 hv72 hCS
  generalize Z' ++ CS = Z2 at *
  have hszl : ((rm K S).sizes p q).length = K.n := by unfold Rm.sizes; rw [List.length_map, List.length_range]; rfl
  have hszt : ((rm K S).sizes p q)[t]? = some (ksz K S (swps p (road q t))) := by
   unfold Rm.sizes
   rw [List.getElem?_map, List.getElem?_range (show t < (rm K S).n from htn)]
   show some ((rm K S).szAt p q t) = _
   rw [szAt_road (rm K S) hq htn]; rfl
  intro J31 h31
  have good31 : ∀ Z3 : Hp, (∀ y ∈ Z2, y ∈ Z3) → J31 [.bool false] (Z3 ++ C2) := by
   intro Z3 hZ3
   refine h31 _ _ fun gs => Br.no ?_
   have hz4 := hz3.mono hZ3
   have hv74 := hv73.mono hZ3
   have hs4 := hs3.mono hZ3
   refine Nil.ptr (FAddr.mk (Ld.mk (v := ptr kp) (by exact List.mem_append_left _ hz4.cell) rfl ?_))
   refine CallF.rd (.app .here) (at_level hA2 hvn) ?_
   rintro w6 ⟨q', hq', hqx', rfl⟩
   obtain rfl : q' = q := getD_inj hpnd (by omega) (by omega) (hqx'.trans hqx.symm)
   refine Ext.mk rfl (Ext.mk rfl ?_)
   refine Nil.ptr (FAddr.mk (Ld.mk (v := ptr kp) (by exact List.mem_append_left _ hz4.cell) rfl ?_))
   refine CallF.fn (.app .here) (to_ok hA2 hvn htn (by omega)) ?_
   rintro w7 C3 ⟨q2, hq2, hqx2, hM⟩
   obtain rfl : q2 = q' := getD_inj hpnd (by omega) (by omega) (hqx2.trans hqx.symm)
   have hcan2 := can_few hg hKn6 hKn1 hcap (by omega) hp (ls := road q2 t) (fun y hy => road_mem hq2 htn hy)
   rcases hM with ⟨_, rfl, hA3⟩ | ⟨h0, _, _⟩
   rotate_left
   ·rw [hcan2] at h0; cases h0
   obtain ⟨hmv1, hmv2⟩ := moved_ok (ord := p) (p := q2) (by omega) _ t rfl (by omega)
   rw [hqx2] at hmv1 hmv2
   have hrl := road_len q2 t
   have ho2p : (swps p (road q2 t)).Perm (List.range K.n) := (swps_perm (fun y hy => by rw [hpl]; exact road_mem hq2 htn hy)).trans hp
   generalize swps p (road q2 t) = o2 at *
   generalize road q2 t = rd at *
   refine Ext.mk rfl (Ext.mk rfl ?_)
   refine Bin.sub64 (c := (t : Int) - (q2 : Int)) rfl (by omega) ?_
   intro J50 h50
   have good50 : J50 [.int .i64 ((rd.length : Nat) : Int)] (Z3 ++ C3) := by
    refine h50 _ _ fun gs => ?_
    intro J54 h54
    have good54 : ∀ Z4 : Hp, (∀ y ∈ Z3, y ∈ Z4) → J54 [.bool false] (Z4 ++ C3) := by
     intro Z4 hZ4
     refine h54 _ _ fun gs => Br.no ?_
     have hz5 := hz4.mono hZ4
     have hv75 := hv74.mono hZ4
     have hol : o2.length = K.n := by rw [ho2p.length_eq, List.length_range]
     refine Nil.ptr (FAddr.mk (Ld.mk (v := ptr kp) (by exact List.mem_append_left _ hz5.cell) rfl ?_))
     refine CallF.top (Q := fun r N => IOwn 3 .i64 r (iw o2) N) (.app .here) (at_order hA3) ?_
     intro vo N ho2
     have hb1 : Ints .i64 (N ++ (Z4 ++ C3)) vo (iw o2) := ho2.ints.mono fun _ h => List.mem_append_left _ h
     have hb2 : Ints .i64 (N ++ (Z4 ++ C3)) w (iw p) := hv75.mono fun _ h => List.mem_append_right _ (List.mem_append_left _ h)
     have hYB : ∀ y ∈ Y, y ∈ N ++ (Z4 ++ C3) := fun y hy => List.mem_append_right _ (List.mem_append_left _ (hZ4 y (hZ3 y (hYZ2 y hy))))
     generalize N ++ (Z4 ++ C3) = B at *
     refine ⟨fun vs H => ∃ (i : Nat) (sl : Value) (CL : Hp), vs = [sl, .int .i64 (i : Int)] ∧ i ≤ K.n ∧ H = CL ++ B ∧ IOwn 3 .i64 sl (iw ((o2.take i).filter fun y => decide (y ≠ x))) CL, fun vs _ => K.n - nAt vs 1, JE.mk ⟨0, _, [], rfl, Nat.zero_le _, rfl, IOwn.nil⟩, ?_⟩
     rintro w67 w68 H ⟨i, sl, CL, hvv, hi, rfl, hL⟩ gs
     simp only [List.cons.injEq, and_true] at hvv
     obtain ⟨rfl, rfl⟩ := hvv
     refine Bin.ltN (Br.dec (fun hlt => ?_) (fun hlt => ?_))
     ·intro J70 h70
      have hio : i < o2.length := by omega
      refine hb1.ld (n := ((o2[i] : Nat) : Int)) (iw_get (List.getElem?_eq_getElem hio)) (fun _ h => List.mem_append_right _ h) ?_
      refine Bin.neN (Br.dec (fun hne2 => ?_) (fun hne2 => ?_))
      ·refine hb1.ld (n := ((o2[i] : Nat) : Int)) (iw_get (List.getElem?_eq_getElem hio)) (fun _ h => List.mem_append_right _ h) ?_
       refine BuildSl.int (e := 3) (by kernel_rfl) (by kernel_rfl) (by kernel_rfl) fun bx => ?_
       have hfl : ((o2.take i).filter fun y => decide (y ≠ x)).length ≤ 6 := Nat.le_trans (List.length_filter_le _ _) (by rw [List.length_take]; omega)
       refine hL.appH (x := ((o2[i] : Nat) : Int)) (.cons .left) (by exact .head _) (by rw [iw_length]; omega) (by rw [iw_length]; omega) fun sl' CL' hL' => ?_
       refine JE.of .tail (h70 _ _ fun gs => ?_)
       refine Bin.addN (b := 1) (by simp [lim]; omega) ?_
       refine Back.mk ⟨i + 1, sl', CL', rfl, hlt, rfl, ?_⟩ (by simp only [nAt]; omega)
       rw [fil_succ hio, if_pos hne2, iw_append]; exact hL'
      ·refine JE.mk (h70 _ _ fun gs => ?_)
       refine Bin.addN (b := 1) (by simp [lim]; omega) ?_
       refine Back.mk ⟨i + 1, _, CL, rfl, hlt, rfl, ?_⟩ (by simp only [nAt]; omega)
       rw [fil_succ hio, if_neg hne2, List.append_nil]; exact hL
     have hin : i = K.n := by omega
     have htake : o2.take i = o2 := List.take_of_length_le (by omega)
     rw [htake, hmv2] at hL
     refine ⟨fun vs H => ∃ j : Nat, vs = [.int .i64 ((((p.take j).filter fun y => decide (y ≠ x)).length : Nat) : Int), .int .i64 (j : Int)] ∧ j ≤ K.n ∧ H = CL ++ B, fun vs _ => K.n - nAt vs 1, JE.mk ⟨0, rfl, Nat.zero_le _, rfl⟩, ?_⟩
     rintro w90 w91 H ⟨j, hvv, hj, rfl⟩ gs
     simp only [List.cons.injEq, and_true] at hvv
     obtain ⟨rfl, rfl⟩ := hvv
     refine Bin.ltN (Br.dec (fun hlt2 => ?_) (fun hlt2 => ?_))
     ·intro J93 h93
      have hjp : j < p.length := by omega
      refine hb2.ld (n := ((p[j] : Nat) : Int)) (iw_get (List.getElem?_eq_getElem hjp)) (fun _ h => List.mem_append_right _ h) ?_
      refine Bin.eqN (Br.dec (fun heq => ?_) (fun heq => ?_))
      ·refine JE.mk (h93 _ _ fun gs => ?_)
       refine Bin.addN (b := 1) (by simp [lim]; omega) ?_
       refine Back.mk ⟨j + 1, ?_, hlt2, rfl⟩ (by simp only [nAt]; omega)
       rw [fil_succ hjp, if_neg (by simpa using heq), List.append_nil]
      ·have hfa := fil_at hjp heq
       have hfl := (List.getElem?_eq_some_iff.1 hfa).1
       have hfp : (p.filter fun y => decide (y ≠ x)).length ≤ 6 := Nat.le_trans (List.length_filter_le _ _) (by omega)
       refine hL.lenS ?_
       rw [iw_length]
       refine Bin.geN ?_
       rw [decide_eq_false (by omega)]
       refine Grp.or (a := false) false (fun _ => ?_) rfl fun gs => Br.no ?_
       ·refine hL.ld (x := ((p[j] : Nat) : Int)) (iw_get hfa) (fun _ h => List.mem_append_left _ h) ?_
        refine hb2.ld (n := ((p[j] : Nat) : Int)) (iw_get (List.getElem?_eq_getElem hjp)) (fun _ h => List.mem_append_right _ h) ?_
        exact Bin.neN ⟨rfl, by simp⟩
       refine Bin.addN (b := 1) (by simp only [lim]; omega) ?_
       refine JE.mk (h93 _ _ fun gs => ?_)
       refine Bin.addN (b := 1) (by simp [lim]; omega) ?_
       refine Back.mk ⟨j + 1, ?_, hlt2, rfl⟩ (by simp only [nAt]; omega)
       rw [fil_succ hjp, if_pos heq, List.length_append]; rfl
     ·refine hb1.ld (n := ((o2.getD t 0 : Nat) : Int)) (iw_getD (by omega)) (fun _ h => List.mem_append_right _ h) ?_
      rw [hmv1]
      exact Bin.eqN (RdR.mk (.sub hYn fun y hy => List.mem_append_right _ (hYB y hy)) (by rw [decide_eq_true rfl]))
    refine DR.self ?_
    refine Bin.neD (Br.decF (by decide) ?_)
    refine Bin.neD (Pick.mk ?_)
    refine Br.mk (fun hb => by simp at hb) fun _ => ?_
    refine Bin.neN (Pick.mk ?_)
    refine Br.mk (fun hb => by simp at hb) fun _ => ?_
    refine hs4.ld (n := ((ksz K S o2 : Nat) : Int)) (iw_get hszt) (fun _ h => List.mem_append_left _ h) ?_
    refine Nil.ptr (FAddr.mk (Ld.mk (v := ptr kp) (by exact List.mem_append_left _ hz4.cell) rfl ?_))
    intro F
    refine CallF.rd (.app .here) (at_live hA3) ?_
    rintro w8 rfl
    refine ⟨.refl _, ?_⟩
    refine Bin.neN (Pick.mk ?_)
    refine Br.mk (fun hb => by simp at hb) fun _ => ?_
    intro F
    refine CallF.px .here (fine_at hz4 hg hA3 (by omega) (by omega) hne) ?_
    rintro w9 N4 rfl
    refine ⟨.right, ?_⟩
    refine Un.not (Pick.mk ?_)
    rw [← List.append_assoc]
    exact JE.mk (good54 _ fun y hy => List.mem_append_right _ hy)
   refine Bin.lss (Br.dec (fun hlt => ?_) (fun hlt => ?_))
   ·refine Un.neg64 (c := ((rd.length : Nat) : Int)) (by omega) (by omega) ?_
    exact JE.mk good50
   ·have e : (t : Int) - (q2 : Int) = ((rd.length : Nat) : Int) := by omega
    rw [e]; exact JE.mk good50
  refine Bin.neD ?_
  refine Split.go (by decide) ?_
  refine hs3.lenS ?_
  rw [iw_length, hszl]
  refine Bin.neN (Pick.mk ?_)
  refine Split.go (by simp) ?_
  refine Nil.ptr (FAddr.mk (Ld.mk (v := ptr kp) (by exact List.mem_append_left _ hz3.cell) rfl ?_))
  refine CallF.top (Q := fun r N => IOwn 3 .i64 r (iw p) N) (.app .here) (at_order hA2) ?_
  intro vo N1 ho1
  refine CallF.rd .here (sameList_ok (a := iw p) (b := iw p) (ho1.ints.mono fun _ h => List.mem_append_left _ h) (hv73.mono fun _ h => List.mem_append_right _ (List.mem_append_left _ h)) (by rw [iw_length]; omega)) ?_
  rintro w4 rfl
  refine Un.not (Pick.mk ?_)
  simp only [decide_true, Bool.not_true, cond_false]
  rw [← List.append_assoc]
  exact JE.mk (good31 _ fun y hy => List.mem_append_right _ hy)
 refine Bin.neD ?_
 refine Split.go (by decide) ?_
 refine Nil.ptr (FAddr.mk (Ld.mk (v := ptr kp) (by exact List.mem_append_left _ hz1.cell) rfl ?_))
 refine CallF.top (Q := fun r N => IOwn 3 .i64 r (iw p) N) (.app .here) (at_order hA1) ?_
 intro vo N1 ho1
 refine CallF.rd .here (sameList_ok (a := iw p) (b := iw p) (ho1.ints.mono fun _ h => List.mem_append_left _ h) (hv7.mono fun _ h => List.mem_append_right _ (List.mem_append_left _ h)) (by rw [iw_length]; omega)) ?_
 rintro w4 rfl
 refine Un.not (Pick.mk ?_)
 refine Split.go (by simp) ?_
 rw [← List.append_assoc]
 refine CallF.px .here (fine_at (hz1.mono fun _ h => List.mem_append_right N1 h) hg hA1 (by omega) (by omega) hne) ?_
 rintro w5 N2 rfl
 refine Un.not (Pick.mk ?_)
 rw [← List.append_assoc]
 exact JE.mk (good _ fun y hy => List.mem_append_right _ (List.mem_append_right _ hy))
end
end Go.Proofs
namespace Go.Sx
open Go Go.ChangeShapes Go.WideShapes Go.Deep
section
variable {H : Type} {enc : TypeId × Value → H} {P : Program} {W : World} {base : Nat} {spare : Nat → Bool} {held : Bool}
theorem add_block (a : Addr) (n : Nat) : (a.add n).block = a.block := by unfold Addr.add; split <;> rfl
theorem add_off (a : Addr) (n : Nat) : (a.add n).off = a.off + n := by unfold Addr.add; split <;> simp_all
theorem cells_block {b : Nat} {a : Addr} {k : Nat} {cs : List Value} (hk : 0 < k) (h : W.cells? b a k = some cs) :
  a.spot = none ∧ ∃ c T fz, W.heap[a.block]? = some (.cells c T fz) ∧ a.off + k ≤ c.size ∧ c.extract a.off (a.off + k) = cs.toArray := by
 obtain ⟨_, hl, hg⟩ := World.cells?_some h
 have h0 := hg 0 hk
 have hc0 : W.cell? a = some (cs[0]'(by omega)) := by
  have : a.add 0 = a := by simp [Addr.add]
  rw [this] at h0; rw [h0]; exact List.getElem?_eq_getElem (by omega)
 unfold World.cell? at hc0
 split at hc0
 ·rename_i c T fz hb
  cases hs : a.spot with
  | some s => rw [hs] at hc0; simp at hc0
  | none =>
   have hcell : ∀ i, i < k → c[a.off + i]? = cs[i]? := fun i hi => by
    have := hg i hi
    unfold World.cell? at this
    rw [add_block, hb] at this
    simp only [add_off] at this
    have hsp : (a.add i).spot.isSome = false := by unfold Addr.add; split <;> simp [hs]
    rw [hsp] at this
    simpa using this
   have hsz : a.off + k ≤ c.size := by
    have := hcell (k - 1) (by omega)
    rw [List.getElem?_eq_getElem (by omega)] at this
    have := (Array.getElem?_eq_some_iff.1 this).1
    omega
   refine ⟨rfl, c, T, fz, hb, hsz, ?_⟩
   apply Array.ext_getElem?
   intro i
   rw [Array.getElem?_extract]
   by_cases hi : i < k
   ·rw [if_pos (by omega), hcell i hi]; simp
   ·rw [if_neg (by omega)]; simp; omega
 ·simp at hc0
theorem open_rows {t e : TypeId} {v : Value} {d : DataW H} {ps : List MemPlace} {r : Reach} {b0 k : Nat} (ht : P.underlying t = some (.slice e)) (hk : P.cellsOf e = k) (hk0 : 0 < k) (hv : Value.okWide P W r b0 t v) (h : DataW.Trod enc P W base spare held t v d ps) :
  (v = .slice none 0 0 ∧ d = .nil) ∨ ∃ (a : Addr) (n cap : Nat) (es sp : List (DataW H)), v = .slice (some a) n cap ∧ d = .slice es sp ∧ es.length = n ∧ n ≤ cap ∧
   ∀ i, i < n → ∃ c T fz cs, a.spot = none ∧ (a.block, Obj.cells c T fz) ∈ whole W ∧ a.off + i * k + k ≤ c.size ∧ c.extract (a.off + i * k) (a.off + i * k + k) = cs.toArray ∧ ∃ fuel y, DataW.trod enc P W base spare held fuel e cs = some y ∧ cs.length = k := by
 obtain ⟨a0, n0, c0, rfl⟩ := okWide_slice ht hv
 obtain ⟨fuel, hf⟩ := h
 rcases open_slice ht hf with ⟨h1, h2⟩ | ⟨a, len, cap, m, n, D, Pl, hcs, hb, hl, hm, hmm, hx, hi⟩
 ·left
  simp only [Value.cells, List.cons.injEq, and_true] at h1
  simp only [Prod.mk.injEq] at h2
  exact ⟨by simpa using h1, h2.1⟩
 ·right
  simp only [Prod.mk.injEq] at hx
  have hv' : Value.slice a0 n0 c0 = .slice (some a) len cap := by simpa [Value.cells] using hcs
  have hlm : len ≤ m := by rw [hmm]; split <;> omega
  refine ⟨a, len, cap, _, _, hv', hx.1, by simp, hl, fun i hin => ?_⟩
  have hkk := hk
  have hspot : a.spot = none := by
   obtain ⟨cs0, hc0, _⟩ := hi 0 (by omega)
   rw [hk] at hc0
   rw [show a.add (0 * k) = a by simp [Addr.add]] at hc0
   exact (cells_block hk0 hc0).1
  obtain ⟨cs, hc, hd⟩ := hi i (by omega)
  rw [hk] at hc
  obtain ⟨_, hlen, _⟩ := World.cells?_some hc
  obtain ⟨_, c, T, fz, h1, h2, h3⟩ := cells_block hk0 hc
  rw [add_block] at h1
  rw [add_off] at h2 h3
  exact ⟨c, T, fz, cs, hspot, mem_whole h1, h2, h3, n, _, hd, hlen⟩
theorem trod_rows {t e : TypeId} {cs : List Value} {x : DataW H × List MemPlace} {fuel k : Nat} (ht : P.underlying t = some (.slice e)) (hk : P.cellsOf e = k) (hk0 : 0 < k) (h : DataW.trod enc P W base spare held fuel t cs = some x) :
  ∃ (v : Value) (rs : List (List Value)), cs = [v] ∧ Sl k (whole W) v rs ∧ ((rs = [] ∧ x.1 = .nil) ∨ ∃ es sp, x.1 = .slice es sp ∧ es.length = rs.length) ∧
   ∀ (i : Nat) (r : List Value), rs[i]? = some r → ∃ (fuel : Nat) (y : DataW H × List MemPlace) (es sp : List (DataW H)), DataW.trod enc P W base spare held fuel e r = some y ∧ x.1 = .slice es sp ∧ es[i]? = some y.1 := by
 rcases open_slice ht h with ⟨h1, h2⟩ | ⟨a, len, cap, m, n, D, Pl, hcs, hb, hl, hm, hmm, hx, hi⟩
 ·exact ⟨_, [], h1, Sl.nil _ _, .inl ⟨rfl, by rw [h2]⟩, fun i r hr => by simp at hr⟩
 ·have hlm : len ≤ m := by rw [hmm]; split <;> omega
  have hex : ∃ rs : List (List Value), rs.length = len ∧ ∀ i r, rs[i]? = some r → W.cells? base (a.add (i * k)) k = some r ∧ DataW.trod enc P W base spare held n e r = some (D i, Pl i) := by
   clear hcs hx hl hmm
   induction len with
   | zero => exact ⟨[], rfl, fun i r hr => by simp at hr⟩
   | succ len ih =>
    obtain ⟨rs, h1, h2⟩ := ih (by omega)
    obtain ⟨r, h3, h4⟩ := hi len (by omega)
    rw [hk] at h3
    refine ⟨rs ++ [r], by simp [h1], fun i r' hr => ?_⟩
    by_cases hlt : i < rs.length
    ·rw [List.getElem?_append_left hlt] at hr; exact h2 i r' hr
    ·rw [List.getElem?_append_right (by omega)] at hr
     have hi0 : i - rs.length = 0 := by
      by_cases e : i - rs.length = 0
      ·exact e
      ·rw [List.getElem?_eq_none (by simp; omega)] at hr; cases hr
     rw [hi0] at hr
     simp only [List.getElem?_cons_zero, Option.some.injEq] at hr
     subst hr
     obtain rfl : i = len := by omega
     exact ⟨h3, h4⟩
  obtain ⟨rs, hrl, hrs⟩ := hex
  have hall : ∀ r ∈ rs, r.length = k := fun r hr => by
   obtain ⟨i, hi, e⟩ := List.mem_iff_getElem.1 hr
   obtain ⟨hc, _⟩ := hrs i r (by rw [List.getElem?_eq_getElem hi, e])
   exact (World.cells?_some hc).2.1
  refine ⟨.slice (some a) len cap, rs, hcs, ⟨hall, ?_⟩, .inr ⟨_, _, by rw [hx], by simp [hrl]⟩, fun i r hr => ?_⟩
  ·cases rs with
   | nil => exact .inl ⟨some a, cap, by rw [← hrl]; rfl, rfl⟩
   | cons r0 rest =>
    right
    obtain ⟨hc0, _⟩ := hrs 0 r0 rfl
    obtain ⟨hspot, c, T, fz, hb0, _, _⟩ := cells_block hk0 hc0
    rw [show a.add (0 * k) = a by simp [Addr.add]] at hspot hb0
    obtain ⟨ab, ao, asp⟩ := a
    simp only at hspot hb0
    subst hspot
    have hblk : ∀ i r, (r0 :: rest)[i]? = some r → ao + i * k + k ≤ c.size ∧ c.extract (ao + i * k) (ao + i * k + k) = r.toArray := fun i r hr => by
     obtain ⟨hc, _⟩ := hrs i r hr
     obtain ⟨_, c', T', fz', h1, h2, h3⟩ := cells_block hk0 hc
     rw [add_block] at h1
     rw [add_off] at h2 h3
     simp only at h1 h2 h3
     rw [hb0] at h1
     simp only [Option.some.injEq, Obj.cells.injEq] at h1
     obtain ⟨rfl, _, _⟩ := h1
     exact ⟨h2, h3⟩
    refine ⟨ab, ao, cap, c, T, fz, by rw [hrl], by omega, mem_whole hb0, ?_, fun i r hr j v hj => ?_⟩
    ·have hlast := hblk (rest.length) ((r0 :: rest)[rest.length]'(by simp)) (List.getElem?_eq_getElem (by simp))
     have := hlast.1
     simp only [List.length_cons, Nat.succ_mul]; omega
    ·obtain ⟨h1, h2⟩ := hblk i r hr
     have hjk : j < k := by
      have := (List.getElem?_eq_some_iff.1 hj).1
      rw [hall r (List.mem_of_getElem? hr)] at this; exact this
     have h3 := congrArg (fun z : Array Value => z[j]?) h2
     simp only [Array.getElem?_extract, List.getElem?_toArray] at h3
     rw [hj] at h3
     rw [← h3, if_pos (by omega)]
  ·obtain ⟨_, hd⟩ := hrs i r hr
   have hil : i < len := by rw [← hrl]; exact (List.getElem?_eq_some_iff.1 hr).1
   exact ⟨n, _, _, _, hd, by rw [hx], by simp [hil]⟩
theorem trod_ints {t e : TypeId} {q : IntKind} {cs : List Value} {x : DataW H × List MemPlace} {fuel : Nat} (ht : P.underlying t = some (.slice e)) (he : P.underlying e = some (.int q)) (hk : P.cellsOf e = 1) (h : DataW.trod enc P W base spare held fuel t cs = some x) :
  ∃ (v : Value) (l : List Int), cs = [v] ∧ Ints q (whole W) v l ∧ (∀ n ∈ l, (Lit.int q n).wf = true) ∧ ((l = [] ∧ x.1 = .nil) ∨ ∃ es sp, x.1 = .slice es sp ∧ es.length = l.length) := by
 obtain ⟨v, rs, hcs, hsl, hx, hr⟩ := trod_rows ht hk (by decide) h
 have hone : ∀ r ∈ rs, ∃ n, r = [.int q n] ∧ (Lit.int q n).wf = true := fun r hm => by
  obtain ⟨i, hi, e⟩ := List.mem_iff_getElem.1 hm
  obtain ⟨f, y, _, _, hy, _⟩ := hr i r (by rw [List.getElem?_eq_getElem hi, e])
  obtain ⟨n, h1, _, h2⟩ := DataW.trod_int he hy
  exact ⟨n, h1, h2⟩
 have hex : ∃ l : List Int, rs = l.map (fun n => [Value.int q n]) ∧ ∀ n ∈ l, (Lit.int q n).wf = true := by
  clear hsl hx hr hcs
  induction rs with
  | nil => exact ⟨[], rfl, by simp⟩
  | cons r rest ih =>
   obtain ⟨l, h1, h2⟩ := ih fun r hm => hone r (by simp [hm])
   obtain ⟨n, h3, h4⟩ := hone r (by simp)
   exact ⟨n :: l, by simp [h1, h3], fun m hm => by rcases List.mem_cons.1 hm with rfl | hm; exact h4; exact h2 m hm⟩
 obtain ⟨l, rfl, hwf⟩ := hex
 refine ⟨v, l, hcs, hsl, hwf, ?_⟩
 rcases hx with ⟨h1, h2⟩ | ⟨es, sp, h1, h2⟩
 ·exact .inl ⟨by simpa using h1, h2⟩
 ·exact .inr ⟨es, sp, h1, by simpa using h2⟩
end
end Go.Sx
set_option maxRecDepth 100000
namespace Go.Proofs
open Go Go.Sx
section
open Go.ChangeShapes Go.WideShapes Go.Deep
variable {H : Type} {enc : TypeId × Value → H} {W : World} {base : Nat} {spare : Nat → Bool} {held : Bool}
theorem law_rdV {f : FuncId} {args : Array Value} {W : World} (h : Rd Tryz.prog f args (whole W) (· = .bool true)) :
  Calls Tryz.prog f args W fun e W' => e = .returned (.bool true) ∧ Go.RowKit.Below W.heap.size W W' :=
 law_px (h.mono fun _ _ ⟨h1, h2⟩ => ⟨by rw [h1]; exact .refl _, h2⟩)
theorem whole_nodup (W : World) : ((whole W).map Prod.fst).Nodup := by
 have := (own_whole W).nd
 rwa [List.append_nil] at this
theorem nat_of_u8 {l : List Int} (hb : ∀ x ∈ l, 0 ≤ x ∧ x ≤ 255) : iw (l.map Int.toNat) = l := by
 unfold iw
 rw [List.map_map]
 conv => rhs; rw [← List.map_id l]
 apply List.map_congr_left
 intro x hx
 have := hb x hx
 show ((x.toNat : Nat) : Int) = x
 omega
theorem bytes_of {v : Value} {d : DataW H} {ps : List MemPlace} (h : DataW.Trod enc Tryz.prog W base spare held 82 v d ps) (hv : ∃ a n c, v = .slice a n c) :
  ∃ l : List Nat, Ints .u8 (whole W) v (iw l) ∧ (∀ x ∈ l, x < 256) ∧ ((∀ n ∈ d.weights Tryz.prog 82, n ≤ reachBytes) → l.length ≤ 140737488351232) := by
 obtain ⟨fuel, hf⟩ := h
 have k3 : Tryz.prog.cellsOf 5 = 1 := by kernel_rfl
 obtain ⟨v', l, hcs, hi, hwf, hw⟩ := trod_ints Tryz.underlying82 Tryz.underlying5 k3 hf
 have hvv : v' = v := by
  obtain ⟨a, n, c, rfl⟩ := hv
  simpa [Value.cells] using hcs.symm
 subst hvv
 have hb : ∀ x ∈ l, 0 ≤ x ∧ x ≤ 255 := fun x hx => bounds_u8 (hwf x hx)
 refine ⟨l.map Int.toNat, by rw [nat_of_u8 hb]; exact hi, fun x hx => ?_, fun hall => ?_⟩
 ·obtain ⟨y, hy, rfl⟩ := List.mem_map.1 hx
  have := hb y hy; omega
 rw [List.length_map]
 rcases hw with ⟨h1, _⟩ | ⟨es, sp, h1, h2⟩
 ·subst h1; simp
 ·simp only at h1
  have := hall ((es.length + sp.length) * Tryz.prog.bytesOf 5) (by rw [h1, DataW.weights, Tryz.underlying82]; exact List.mem_cons_self ..)
  rw [show Tryz.prog.bytesOf 5 = 1 by kernel_rfl] at this
  have h3 : reachBytes = 140737488351232 := rfl
  omega
theorem opv_of {fuel : Nat} {cs : List Value} {y : DataW H × List MemPlace} (hl : cs.length = 6) (h : DataW.trod enc Tryz.prog W base spare held fuel 134 cs = some y) : ∃ o : OpV, cs = o.cells ∧ o.Ok := by
 obtain ⟨xs, n, _, _, _, hx, hf⟩ := DataW.trod_struct Tryz.underlying134 h
 match cs, hl with
 | [c0, c1, c2, c3, c4, c5], _ =>
  have hx6 : xs.length = 6 := hx
  have k8 : Tryz.prog.cellsOf 5 = 1 := by kernel_rfl
  have k64 : Tryz.prog.cellsOf 29 = 1 := by kernel_rfl
  have g0 : DataW.trod enc Tryz.prog W base spare held n 5 (List.take (Tryz.prog.cellsOf 5) [c0, c1, c2, c3, c4, c5]) = xs[0]? := hf 0 _ rfl
  have g1 : DataW.trod enc Tryz.prog W base spare held n 5 (List.take (Tryz.prog.cellsOf 5) [c1, c2, c3, c4, c5]) = xs[1]? := hf 1 _ rfl
  have g2 : DataW.trod enc Tryz.prog W base spare held n 5 (List.take (Tryz.prog.cellsOf 5) [c2, c3, c4, c5]) = xs[2]? := hf 2 _ rfl
  have g3 : DataW.trod enc Tryz.prog W base spare held n 5 (List.take (Tryz.prog.cellsOf 5) [c3, c4, c5]) = xs[3]? := hf 3 _ rfl
  have g4 : DataW.trod enc Tryz.prog W base spare held n 5 (List.take (Tryz.prog.cellsOf 5) [c4, c5]) = xs[4]? := hf 4 _ rfl
  have g5 : DataW.trod enc Tryz.prog W base spare held n 29 (List.take (Tryz.prog.cellsOf 29) [c5]) = xs[5]? := hf 5 _ rfl
  rw [k8, List.getElem?_eq_getElem (by omega)] at g0 g1 g2 g3 g4
  rw [k64, List.getElem?_eq_getElem (by omega)] at g5
  simp only [List.take_succ_cons, List.take_zero] at g0 g1 g2 g3 g4 g5
  obtain ⟨n0, e0, _, w0⟩ := DataW.trod_int Tryz.underlying5 g0
  obtain ⟨n1, e1, _, w1⟩ := DataW.trod_int Tryz.underlying5 g1
  obtain ⟨n2, e2, _, w2⟩ := DataW.trod_int Tryz.underlying5 g2
  obtain ⟨n3, e3, _, w3⟩ := DataW.trod_int Tryz.underlying5 g3
  obtain ⟨n4, e4, _, w4⟩ := DataW.trod_int Tryz.underlying5 g4
  obtain ⟨n5, e5, _, w5⟩ := DataW.trod_int Tryz.underlying29 g5
  have b0 := bounds_u8 w0
  have b1 := bounds_u8 w1
  have b2 := bounds_u8 w2
  have b3 := bounds_u8 w3
  have b4 := bounds_u8 w4
  have b5 := bounds_u64 w5
  simp only [List.cons.injEq, and_true] at e0 e1 e2 e3 e4 e5
  refine ⟨⟨n0.toNat, n1.toNat, n2.toNat, n3.toNat, n4.toNat, n5.toNat⟩, ?_, ⟨?_, ?_, ?_, ?_, ?_, ?_⟩⟩
  ·have z0 : ((n0.toNat : Nat) : Int) = n0 := by omega
   have z1 : ((n1.toNat : Nat) : Int) = n1 := by omega
   have z2 : ((n2.toNat : Nat) : Int) = n2 := by omega
   have z3 : ((n3.toNat : Nat) : Int) = n3 := by omega
   have z4 : ((n4.toNat : Nat) : Int) = n4 := by omega
   have z5 : ((n5.toNat : Nat) : Int) = n5 := by omega
   unfold OpV.cells
   simp only
   rw [e0, e1, e2, e3, e4, e5, z0, z1, z2, z3, z4, z5]
  all_goals simp only; omega
theorem ops_of {v : Value} {d : DataW H} {ps : List MemPlace} (h : DataW.Trod enc Tryz.prog W base spare held 59 v d ps) (hv : ∃ a n c, v = .slice a n c) :
  ∃ ops : List OpV, Sl 6 (whole W) v (ops.map OpV.cells) ∧ (∀ o ∈ ops, o.Ok) ∧ ((∀ n ∈ d.weights Tryz.prog 59, n ≤ reachBytes) → ops.length ≤ 140737488351232) := by
 obtain ⟨fuel, hf⟩ := h
 have k6 : Tryz.prog.cellsOf 134 = 6 := by kernel_rfl
 obtain ⟨v', rs, hcs, hsl, hw, hr⟩ := trod_rows Tryz.underlying59 k6 (by decide) hf
 have hvv : v' = v := by
  obtain ⟨a, n, c, rfl⟩ := hv
  simpa [Value.cells] using hcs.symm
 subst hvv
 have hone : ∀ r ∈ rs, ∃ o : OpV, r = o.cells ∧ o.Ok := fun r hm => by
  obtain ⟨i, hi, e⟩ := List.mem_iff_getElem.1 hm
  obtain ⟨f, y, _, _, hy, _⟩ := hr i r (by rw [List.getElem?_eq_getElem hi, e])
  exact opv_of (hsl.1 r hm) hy
 have hex : ∃ ops : List OpV, rs = ops.map OpV.cells ∧ ∀ o ∈ ops, o.Ok := by
  clear hsl hw hr hcs
  induction rs with
  | nil => exact ⟨[], rfl, by simp⟩
  | cons r rest ih =>
   obtain ⟨l, h1, h2⟩ := ih fun r hm => hone r (by simp [hm])
   obtain ⟨o, h3, h4⟩ := hone r (by simp)
   exact ⟨o :: l, by simp [h1, h3], fun m hm => by rcases List.mem_cons.1 hm with rfl | hm; exact h4; exact h2 m hm⟩
 obtain ⟨ops, rfl, hok⟩ := hex
 refine ⟨ops, hsl, hok, fun hall => ?_⟩
 rcases hw with ⟨h1, _⟩ | ⟨es, sp, h1, h2⟩
 ·have : ops = [] := by simpa using h1
  subst this; simp
 ·simp only at h1
  have := hall ((es.length + sp.length) * Tryz.prog.bytesOf 134) (by rw [h1, DataW.weights, Tryz.underlying59]; exact List.mem_cons_self ..)
  rw [show Tryz.prog.bytesOf 134 = 16 by kernel_rfl] at this
  have h3 : reachBytes = 140737488351232 := rfl
  rw [List.length_map] at h2
  omega
end
end Go.Proofs
