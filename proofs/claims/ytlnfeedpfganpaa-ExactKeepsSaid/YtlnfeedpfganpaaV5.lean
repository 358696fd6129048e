import Derived.Test.YtlnfeedpfganpaaV4
import Derived.Test.YtlnfeedpfganpaaE4
set_option linter.unusedVariables false
set_option linter.unusedSimpArgs false
set_option maxRecDepth 100000
namespace Go.Proofs
open Go Go.Sx
/-- a table whose words stand in front of 51, 52 in an array of their own -/
structure Fz where
  t : Tb
  b : Nat
  junk : List (List Value)
def Fz.row (z : Fz) : List Value := [.int .i64 z.t.n, .slice (some ⟨z.b, 0, none⟩) z.t.ws.length (z.t.ws.length + 2 + z.junk.length)]
def Fz.val (z : Fz) : Value := .slice (some ⟨z.b, 0, none⟩) (z.t.ws.length + 2) (z.t.ws.length + 2 + z.junk.length)
def Fz.cls (z : Fz) : List (List Value) := ((iw z.t.ws ++ [51, 52]).map fun n => [Value.int .u64 n]) ++ z.junk
def Fz.blk (z : Fz) : Nat × Obj := (z.b, .cells (rows z.cls) 33 (0, 0))
structure Fz.ok (z : Fz) : Prop where
  lt : ∀ w ∈ z.t.ws, w < 18446744073709551616
  junk : ∀ r ∈ z.junk, r.length = 1
theorem Fz.ok.all {z : Fz} (h : z.ok) : ∀ r ∈ z.cls, r.length = 1 := fun r hr => by
  unfold Fz.cls at hr
  rcases List.mem_append.1 hr with hr | hr
  · obtain ⟨n, _, rfl⟩ := List.mem_map.1 hr; rfl
  · exact h.junk r hr
theorem Fz.full {z : Fz} {H : Hp} (h : z.ok) (hm : z.blk ∈ H) : Ints .u64 H z.val (iw z.t.ws ++ [51, 52]) := by
  have := SOwn.mk (T := 33) (k := 1) (b := z.b) (rs := (iw z.t.ws ++ [51, 52]).map fun n => [Value.int .u64 n]) (junk := z.junk) h.all
  have h2 := (Sl.ofOwn this (by decide)).mono (B' := H) (fun x hx => by rw [List.mem_singleton.1 hx]; exact hm)
  unfold Ints
  unfold Fz.val
  simpa using h2
theorem Fz.words {z : Fz} {H : Hp} (h : z.ok) (hm : z.blk ∈ H) : Words H (.slice (some ⟨z.b, 0, none⟩) z.t.ws.length (z.t.ws.length + 2 + z.junk.length)) z.t.ws := by
  have h2 := Fz.full h hm
  refine ⟨?_, h.lt⟩
  unfold Fz.val Ints at h2
  obtain ⟨_, ⟨a, cap, h3, h4⟩ | ⟨b, o, cap, c, T, fz, h3, h4, h5, h6, h7⟩⟩ := h2
  · simp at h4
  · simp only [Value.slice.injEq, Option.some.injEq, Addr.mk.injEq] at h3
    obtain ⟨⟨rfl, rfl, _⟩, h8, rfl⟩ := h3
    refine ⟨by simp, .inr ⟨z.b, 0, z.t.ws.length + 2 + z.junk.length, c, T, fz, by simp, by simp only [List.length_map, iw_length]; omega, h5, ?_, fun i r hr j v hv => ?_⟩⟩
    · simp at h6 ⊢; omega
    · refine h7 i r ?_ j v hv
      rw [List.map_append, List.getElem?_append_left]
      · exact hr
      · exact (List.getElem?_eq_some_iff.1 hr).1
theorem Fz.tbls {zs : List Fz} {H : Hp} {v : Value} (hs : Sl 2 H v (zs.map Fz.row)) (hz : ∀ z ∈ zs, z.ok ∧ z.blk ∈ H) : Tbls H v (zs.map Fz.t) := by
  refine ⟨_, hs, by simp, fun i r x hr hx => ?_⟩
  rw [List.getElem?_map] at hr hx
  cases hg : zs[i]? with
  | none => rw [hg] at hr; cases hr
  | some z =>
    rw [hg] at hr hx
    cases hr; cases hx
    obtain ⟨h1, h2⟩ := hz z (List.mem_of_getElem? hg)
    exact ⟨_, rfl, Fz.words h1 h2⟩
/-- the same but for the words -/
def Sh (zs zs' : List Fz) : Prop := zs'.map (fun z => (z.t.n, z.t.ws.length, z.b, z.junk)) = zs.map (fun z => (z.t.n, z.t.ws.length, z.b, z.junk))
theorem Sh.row {zs zs' : List Fz} (h : Sh zs zs') : zs'.map Fz.row = zs.map Fz.row := by
  have := congrArg (List.map fun (x : Int × Nat × Nat × List (List Value)) => [Value.int .i64 x.1, .slice (some ⟨x.2.2.1, 0, none⟩) x.2.1 (x.2.1 + 2 + x.2.2.2.length)]) h
  rw [List.map_map, List.map_map] at this; exact this
theorem Sh.len {zs zs' : List Fz} (h : Sh zs zs') : zs'.length = zs.length := by have := congrArg List.length h; simpa using this
theorem Sh.set {zs zs' : List Fz} (h : Sh zs zs') {i : Nat} {z z' : Fz} (hi : zs'[i]? = some z) (hz : (z'.t.n, z'.t.ws.length, z'.b, z'.junk) = (z.t.n, z.t.ws.length, z.b, z.junk)) : Sh zs (zs'.set i z') := by
  unfold Sh
  rw [List.map_set, hz, ← h]
  apply List.ext_getElem?
  intro j
  by_cases e : i = j
  · subst e
    rw [List.getElem?_set_self (by rw [List.length_map]; exact (List.getElem?_eq_some_iff.1 hi).1), List.getElem?_map, hi]; rfl
  · rw [List.getElem?_set_ne e]
theorem Sh.ts {zs zs' : List Fz} (h : Sh zs zs') : (zs'.map Fz.t).length = (zs.map Fz.t).length ∧ ∀ t ∈ zs'.map Fz.t, ∃ t' ∈ zs.map Fz.t, t.ws.length = t'.ws.length := by
  refine ⟨by rw [List.length_map, List.length_map, h.len], fun t ht => ?_⟩
  obtain ⟨z, hz, rfl⟩ := List.mem_map.1 ht
  obtain ⟨i, hi, rfl⟩ := List.mem_iff_getElem.1 hz
  have h1 := congrArg (fun l => l[i]?) h
  simp only [List.getElem?_map, List.getElem?_eq_getElem hi, Option.map_some, List.getElem?_eq_getElem (by rw [← h.len]; exact hi : i < zs.length), Option.some.injEq, Prod.mk.injEq] at h1
  exact ⟨_, List.mem_map.2 ⟨_, List.getElem_mem _, rfl⟩, h1.2.1⟩
theorem upd_map {zs : List Fz} {i : Nat} {z z' : Fz} (hi : zs[i]? = some z) (hb : z'.b = z.b) (M : Hp) : Upd z.b z.blk.2 z'.blk.2 (zs.map Fz.blk ++ M) ((zs.set i z').map Fz.blk ++ M) := by
  induction zs generalizing i with
  | nil => simp at hi
  | cons y r ih =>
    cases i with
    | zero =>
      simp only [List.getElem?_cons_zero, Option.some.injEq] at hi
      subst hi
      have e : z'.blk = (y.b, z'.blk.2) := by rw [← hb]; rfl
      rw [List.set_cons_zero, List.map_cons, List.map_cons, e]
      exact .head _
    | succ i => exact .tail (ih (by simpa using hi))
/-- the word i of z is x now -/
def Fz.put (z : Fz) (i x : Nat) : Fz := ⟨⟨z.t.n, z.t.ws.set i x⟩, z.b, z.junk⟩
theorem Fz.put_cls {z : Fz} {i x : Nat} (hi : i < z.t.ws.length) : (z.put i x).cls = z.cls.set i [.int .u64 (x : Int)] := by
  unfold Fz.cls Fz.put
  simp only
  rw [iw_set, List.set_append_left _ _ (by simp; omega), List.map_append, List.map_append, List.set_append_left _ _ (by simp; omega), List.map_set]
theorem Fz.put_ok {z : Fz} {i x : Nat} (h : z.ok) (hx : x < 18446744073709551616) : (z.put i x).ok := by
  refine ⟨fun w hw => ?_, h.junk⟩
  rcases List.mem_or_eq_of_mem_set hw with hw | rfl
  · exact h.lt w hw
  · exact hx
/-- what exact.Best answers, as far as it hangs on the tables alone -/
theorem bestq_get {ts : List Tb} {B N : Hp} {r : Value} (h : BestQ ts B r (N ++ B)) : ∃ (x e : Int) (s : Value) (l : List Int) (C N' : Hp), r = .tuple #[.int .i64 x, s, .int .i64 e] ∧ IOwn 3 .i64 s l C ∧ l.length ≤ 16 ∧ N ++ B = C ++ (N' ++ B) ∧
    ∀ {B2 N2 : Hp} {r2 : Value}, BestQ ts B2 r2 (N2 ++ B2) → ∃ s2 C2 N2', r2 = .tuple #[.int .i64 x, s2, .int .i64 e] ∧ IOwn 3 .i64 s2 l C2 ∧ N2 ++ B2 = C2 ++ (N2' ++ B2) := by
  rcases h with ⟨hO, rfl⟩ | ⟨hO, n, L, rfl, hn0, hn16, hf, h⟩
  · refine ⟨0, 5, _, [], [], N, rfl, IOwn.nil, by simp, rfl, ?_⟩
    rintro B2 N2 r2 (⟨_, rfl⟩ | ⟨h, _⟩)
    · exact ⟨_, [], N2, rfl, IOwn.nil, rfl⟩
    · exact absurd h hO
  · rcases h with ⟨h13, rfl⟩ | ⟨h12, s, C, N', rfl, ho, hH⟩
    · refine ⟨0, 6, _, [], [], N, rfl, IOwn.nil, by simp, rfl, ?_⟩
      rintro B2 N2 r2 (⟨h, _⟩ | ⟨_, m, M, e, hm0, _, _, h⟩)
      · exact absurd hO h
      · obtain ⟨rfl, rfl⟩ := tbs_inj e hn0 hm0
        rcases h with ⟨_, rfl⟩ | ⟨h, _⟩
        · exact ⟨_, [], N2, rfl, IOwn.nil, rfl⟩
        · omega
    · refine ⟨_, 0, s, _, C, N', rfl, ho, by rw [iw_length]; have := ord_len n (Tab.lvl n L) n 0; omega, hH, ?_⟩
      intro B2 N2 r2 h
      obtain ⟨s2, C2, N2', rfl, ho2, hH2⟩ := best_of hn0 hO h12 h
      exact ⟨s2, C2, N2', rfl, ho2, hH2⟩
theorem BuildSl.ints2 {P : Program} {H : Hp} {t e : Nat} {kd : IntKind} {x y : Int} {K : Value → Hp → Prop} (h1 : P.underlying t = some (.slice e)) (h2 : sizeD P e = some 1) (h3 : zeroD P e = some (.int kd 0))
    (h : ∀ b, K (.slice (some ⟨b, 0, Option.none⟩) 2 2) ((b, .cells (icells kd [x, y]) e (0, 0)) :: H)) : BuildSl P t 2 [(0, .int kd x), (1, .int kd y)] H K := by
  refine ⟨icells kd [x, y], e, 1, _, h1, h2, h3, by decide, ?_, fun b _ => h b⟩
  have e1 : Array.range (2 * 1) = #[0, 1] := rfl
  simp [Instr.fill, Value.cells, icells, e1]
/-- the first of a slice that owns its array -/
theorem sl_front {T : TypeId} {k b j cap : Nat} {rs junk : List (List Value)} {H : Hp} (hall : ∀ r ∈ rs ++ junk, r.length = k) (hm : (b, Obj.cells (rows (rs ++ junk)) T (0, 0)) ∈ H) (hj : j ≤ rs.length) (hc : j ≤ cap) : Sl k H (.slice (some ⟨b, 0, none⟩) j cap) (rs.take j) := by
  have h1 := (Sl.ofOwn (SOwn.mk (T := T) (b := b) hall)) 
  have hk : ∀ r ∈ rs.take j, r.length = k := fun r hr => hall r (List.mem_append_left _ (List.mem_of_mem_take hr))
  have hlen : (rs.take j).length = j := by rw [List.length_take]; omega
  refine ⟨hk, .inr ⟨b, 0, cap, _, T, (0, 0), by rw [hlen], by omega, hm, ?_, fun i r hr j' v hv => ?_⟩⟩
  · rw [rows_size hall, hlen, Nat.zero_add]
    exact Nat.mul_le_mul_right _ (by rw [List.length_append]; omega)
  · have hr' : r.length = k := hk r (List.mem_of_getElem? hr)
    have hj' : j' < k := by rw [← hr']; exact (List.getElem?_eq_some_iff.1 hv).1
    rw [Nat.zero_add, rows_get hall hj']
    rw [List.getElem?_take] at hr
    split at hr
    · rename_i hlt
      rw [List.getElem?_append_left (by omega), hr]; exact hv
    · cases hr
theorem IOwn.put {T : TypeId} {kd : IntKind} {v : Value} {l : List Int} {C A B : Hp} (hs : IOwn T kd v l C) {i : Nat} (hi : i < l.length) {x : Int} {K : Hp → Prop}
    (hk : ∀ C', IOwn T kd v (l.set i x) C' → K (A ++ (C' ++ B))) : IAddr 1 v (.int .i64 (i : Int)) fun p => St 1 (A ++ (C ++ B)) p (.int kd x) K := by
  refine SOwn.put1 (y := .int kd l[i]) hs (by simpa using hi) (by simp [hi]) rfl fun C' h => hk C' ?_
  unfold IOwn
  rw [List.map_set]; exact h
theorem ent_move {z : Nat × Obj} {C1 C2 F M : Hp} : Ent (z :: (C1 ++ (C2 ++ (F ++ M)))) (C1 ++ (C2 ++ ((F ++ [z]) ++ M))) := .perm (by
  have h1 : (z :: (C1 ++ (C2 ++ (F ++ M)))).Perm ([z] ++ (C1 ++ (C2 ++ (F ++ M)))) := .refl _
  refine h1.trans ((List.perm_append_comm_assoc [z] C1 _).trans (List.Perm.append_left _ ((List.perm_append_comm_assoc [z] C2 _).trans (List.Perm.append_left _ ?_))))
  rw [List.append_assoc]
  exact List.perm_append_comm_assoc [z] F M)

end Go.Proofs
set_option linter.unusedVariables false
set_option linter.unusedSimpArgs false
set_option maxRecDepth 100000
namespace Go.Proofs
open Go Go.Sx
theorem perm_d {α : Type} (D2 D1 D0 D C2 F X : List α) : (D2 ++ (D1 ++ (D0 ++ (D ++ (C2 ++ (F ++ X)))))).Perm (D1 ++ (D2 ++ (D ++ (C2 ++ (F ++ (D0 ++ X)))))) :=
  (List.perm_append_comm_assoc D2 D1 _).trans (List.Perm.append_left _ (List.Perm.append_left _ ((List.perm_append_comm_assoc D0 D _).trans (List.Perm.append_left _ ((List.perm_append_comm_assoc D0 C2 _).trans (List.Perm.append_left _ (List.perm_append_comm_assoc D0 F X)))))))
theorem keeps_law {B : Hp} {v : Value} {ts : List Tb} (ht : Tbls B v ts) (hfit : TFit ts) {A : Nat} (hA : A < 18446744073709551616) : Px Try.prog 5 #[v, .int .u64 (A : Int)] B (fun r _ => r = .bool true) := by
  intro g
  refine L5_sound (R := FnR _) ?_
  unfold L5
  refine CallF.px .here (awake_ok B) ?_
  rintro v N rfl
  refine Un.not (Br.no ?_)
  refine CallF.rd .here (few_ok (ht.mono (fun _ h => by repeat (first | exact h | apply List.mem_cons_of_mem | apply List.mem_append_right))) (by have := hfit.1; omega)) ?_
  rintro v ⟨b, rfl, hb⟩
  cases b with
  | false => exact Un.not (Br.yes (PxR.mk (by repeat (first | exact Grow.refl _ | apply Grow.cons | apply Grow.app)) rfl))
  | true =>
  have h12 := hb rfl
  refine Un.not (Br.no ?_)
  refine ht.lenS ?_
  refine ⟨fun vs H => ∃ (j : Nat) (s1 s2 : Value) (C1 C2 : Hp) (zs : List Fz), vs = [s1, s2, .int .i64 (j : Int)] ∧ j ≤ ts.length ∧ SOwn 42 2 s1 (zs.map Fz.row) C1 ∧ SOwn 40 1 s2 (zs.map fun z => [z.val]) C2 ∧
      zs.map Fz.t = ts.take j ∧ (∀ z ∈ zs, z.ok) ∧ H = C1 ++ (C2 ++ (zs.map Fz.blk ++ (N ++ B))),
    fun vs _ => ts.length - nAt vs 2, JE.mk ⟨0, _, _, [], [], [], rfl, by omega, SOwn.nil _ _, SOwn.nil _ _, rfl, by simp, rfl⟩, ?_⟩
  rintro w12 w13 w14 H ⟨j, s1, s2, C1, C2, zs, hv, hj, ho1, ho2, hzt, hzo, rfl⟩ gs
  simp only [List.cons.injEq, and_true] at hv
  obtain ⟨rfl, rfl, rfl⟩ := hv
  have hzl : zs.length = j := by have := congrArg List.length hzt; simpa [Nat.min_eq_left hj] using this
  refine Bin.ltN (Br.dec (fun hlt => ?_) (fun hlt => ?_))
  · have hg : ts[j]? = some ts[j] := List.getElem?_eq_getElem hlt
    have hfj := hfit.2 ts[j] (List.getElem_mem hlt)
    refine ht.ld hg (fun x hx => List.mem_append_right _ (List.mem_append_right _ (List.mem_append_right _ (List.mem_append_right _ hx)))) fun sw hw => ?_
    intro b18 _
    refine St.whole (r := [.int .i64 ts[j].n, sw]) (by exact .head _) rfl rfl (by have := oneCell_words hw; simpa [Value.oneCell'] using this) ?_
    refine BuildSl.none (e := 33) (k := 1) (z := .int .u64 0) (by kernel_rfl) (by kernel_rfl) (by kernel_rfl) fun b21 => ?_
    refine FAddr.mk (Ld.mk (by exact .tail _ (.head _)) rfl ?_)
    refine IOwn.apps (A := []) (C := [_]) (l := []) (.inr ⟨b21, [], rfl, rfl, by simp⟩) (hw.1.mono fun x hx => .tail _ (.tail _ (List.mem_append_right _ (List.mem_append_right _ (List.mem_append_right _ (List.mem_append_right _ hx)))))) (by simp; omega) (by simp; omega) fun v27 C3 ho3 => ?_
    rw [List.nil_append] at ho3
    rw [List.nil_append]
    refine BuildSl.ints2 (e := 33) (by kernel_rfl) (by kernel_rfl) (by kernel_rfl) fun b29 => ?_
    refine IOwn.apps (A := [_]) ho3 (Ints.block (l := [51, 52]) (cap := 2) (.head _) (by simp)) (by simp; omega) (by simp; omega) fun v33 C4 ho4 => ?_
    obtain ⟨bz, junk, rfl, rfl, hall⟩ := SOwn.pos ho4 (by simp)
    obtain ⟨z, hz⟩ : ∃ z : Fz, z = ⟨ts[j], bz, junk⟩ := ⟨_, rfl⟩
    have hzt' : z.t = ts[j] := by rw [hz]
    have hzok : z.ok := by rw [hz]; exact ⟨hw.2, fun r hr => hall r (List.mem_append_right _ hr)⟩
    have e1 : Value.slice (some ⟨bz, 0, none⟩) (List.map (fun n => [Value.int .u64 n]) (iw ts[j].ws ++ [51, 52])).length ((List.map (fun n => [Value.int .u64 n]) (iw ts[j].ws ++ [51, 52])).length + junk.length) = z.val := by
      rw [hz]; unfold Fz.val; simp
    have e2 : ((bz, Obj.cells (rows (List.map (fun n => [Value.int .u64 n]) (iw ts[j].ws ++ [51, 52]) ++ junk)) 33 (0, 0)) : Nat × Obj) = z.blk := by rw [hz]; rfl
    rw [e1, e2]
    refine BuildSl.cell (e := 40) (z := .slice none 0 0) (by kernel_rfl) (by kernel_rfl) (by kernel_rfl) rfl fun b35 => ?_
    refine SOwn.app' (elem := 40) (k := 1) (bytes := 24) (zero := .slice none 0 0) (A := [_, _, _, _] ++ C1) (r := [z.val]) ho2 (by exact .head _) rfl (by intro u hu; rw [List.mem_singleton.1 hu]; rfl) ⟨[.slice none 0 0], rfl, rfl⟩ (by rw [List.length_map]; omega) (by rw [List.length_map]; omega) fun v39 C2' ho2' => ?_
    refine DR.of (R := [z.blk, (b18, .cells (List.toArray [.int .i64 ts[j].n, sw]) 42 (0, 0))]) ?_ ?_
    · exact .skip (.skip (.cons (.cons (fun g w h => by have := Own.left (A := []) h; exact this))))
    refine FAddr.mk (Ld.mk (by exact .tail _ (.head _)) rfl ?_)
    refine FAddr.mk (Ld.mk (by exact .tail _ (.head _)) rfl ?_)
    refine hw.1.lenS ?_
    rw [iw_length]
    unfold Fz.val
    refine SliceE.upto (by rw [hzt']; omega) ?_
    rw [show Value.slice (some ⟨z.b, 0, none⟩) ts[j].ws.length (z.t.ws.length + 2 + z.junk.length) = Value.slice (some ⟨z.b, 0, none⟩) z.t.ws.length (z.t.ws.length + 2 + z.junk.length) by rw [hzt']]
    refine Build.mk (cs := [.int .i64 ts[j].n, .slice (some ⟨z.b, 0, none⟩) z.t.ws.length (z.t.ws.length + 2 + z.junk.length)]) (by kernel_rfl) ?_
    refine buildOne fun b49 => ?_
    refine ⟨.skip (.skip (.skip (.cons (.cons (fun g w h => by have := Own.left (A := []) h; exact this))))), ?_⟩
    refine SOwn.app' (elem := 42) (k := 2) (bytes := 32) (zero := .agg #[.int .i64 0, .slice none 0 0]) (A := [_, _, _, _, _]) (C := C1) (B := C2' ++ (zs.map Fz.blk ++ (N ++ B))) (r := [.int .i64 ts[j].n, .slice (some ⟨z.b, 0, none⟩) z.t.ws.length (z.t.ws.length + 2 + z.junk.length)]) ho1 (by exact .head _) rfl (by intro u hu; simp at hu; rcases hu with rfl | rfl <;> rfl) ⟨[.int .i64 0, .slice none 0 0], rfl, rfl⟩ (by rw [List.length_map]; omega) (by rw [List.length_map]; omega) fun v53 C1' ho1' => ?_
    refine ⟨.skip (.skip (.skip (.cons (.cons (fun g w h => by have := Own.left (A := []) h; exact this))))), ?_⟩
    refine Bin.addN (b := 1) (by simp [lim]; omega) ?_
    refine Back.of (H' := C1' ++ (C2' ++ ((zs ++ [z]).map Fz.blk ++ (N ++ B)))) (.skip (.skip (.skip (.trans (.cons (.skip (.refl _))) ?_)))) ⟨j + 1, v53, v39, C1', C2', zs ++ [z], rfl, by omega, ?_, ?_, ?_, ?_, rfl⟩ (by rw [nAt_succ, nAt_succ, nAt_succ, nAt_succ]; show ts.length - (((j:Int)+1).toNat) < ts.length - ((j:Int).toNat); omega)
    · rw [List.map_append]; exact ent_move (z := z.blk) (C1 := C1') (C2 := C2') (F := zs.map Fz.blk) (M := N ++ B)
    · rw [List.map_append]; rw [← hzt'] at ho1'; exact ho1'
    · rw [List.map_append]; exact ho2'
    · rw [List.map_append, hzt, List.take_succ_eq_append_getElem hlt, ← hzt']; rfl
    · intro y hy
      rcases List.mem_append.1 hy with hy | hy
      · exact hzo y hy
      · rw [List.mem_singleton.1 hy]; exact hzok
  · obtain rfl : j = ts.length := by omega
    rw [List.take_length] at hzt
    clear hj hlt
    have hgB : ∀ X, Grow B (X ++ (N ++ B)) := fun X => .app (.app (.refl _))
    refine CallF.px (.app (.app (.app .here))) (choice_ok (N ++ B)) ?_
    rintro _ N1 ⟨sc, rfl, hwc⟩
    refine buildOne fun b58 => ?_
    refine SOwn.app' (elem := 42) (k := 2) (bytes := 32) (zero := .agg #[.int .i64 0, .slice none 0 0]) (A := [_]) (C := C1) (B := C2 ++ (zs.map Fz.blk ++ (N1 ++ (N ++ B)))) (r := [.int .i64 3, sc]) ho1 (by exact .head _) rfl (by
      have := oneCell_words hwc
      intro u hu; simp at hu; rcases hu with rfl | rfl
      · rfl
      · exact this) ⟨[.int .i64 0, .slice none 0 0], rfl, rfl⟩ (by rw [List.length_map]; omega) (by rw [List.length_map]; omega) fun v62 C1' ho1' => ?_
    obtain ⟨b62, junk, rfl, rfl, hall⟩ := ho1'.pos (by simp)
    have hln : (zs.map Fz.row ++ [[Value.int .i64 3, sc]]).length = ts.length + 1 := by simp [hzl]
    rw [hln]
    refine ht.lenS ?_
    refine SliceE.upto (by omega) ?_
    generalize hX0 : N1 ++ (N ++ B) = X0 at hwc ⊢
    have hBX0 : Grow B X0 := by rw [← hX0]; exact .app (.app (.refl _))
    clear hX0 hgB
    have hsl : ∀ {H : Hp}, (∀ x ∈ [(b62, Obj.cells (rows (zs.map Fz.row ++ [[Value.int .i64 3, sc]] ++ junk)) 42 (0, 0))], x ∈ H) → Sl 2 H (.slice (some ⟨b62, 0, none⟩) ts.length (ts.length + 1 + junk.length)) (zs.map Fz.row) := fun h => by
      have := sl_front (j := ts.length) (cap := ts.length + 1 + junk.length) hall (h _ (.head _)) (by rw [hln]; omega) (by omega)
      rw [List.take_append_of_le_length (by rw [List.length_map]; omega), List.take_of_length_le (by rw [List.length_map]; omega)] at this
      exact this
    have hslc : ∀ {H : Hp}, (∀ x ∈ [(b62, Obj.cells (rows (zs.map Fz.row ++ [[Value.int .i64 3, sc]] ++ junk)) 42 (0, 0))], x ∈ H) → Sl 2 H (.slice (some ⟨b62, 0, none⟩) (ts.length + 1) (ts.length + 1 + junk.length)) (zs.map Fz.row ++ [[Value.int .i64 3, sc]]) := fun h => by
      have := sl_front (j := ts.length + 1) (cap := ts.length + 1 + junk.length) hall (h _ (.head _)) (by rw [hln]; omega) (by omega)
      rw [List.take_of_length_le (by omega)] at this
      exact this
    generalize hcap : ts.length + 1 + junk.length = cap at hsl hslc ⊢
    generalize hC1 : [(b62, Obj.cells (rows (zs.map Fz.row ++ [[Value.int .i64 3, sc]] ++ junk)) 42 (0, 0))] = D at hsl hslc ho1' ⊢
    clear hall ho1 ho1' hln hC1
    have hgive : ∀ {H : Hp}, (∀ x ∈ D, x ∈ H) → (∀ x ∈ zs.map Fz.blk, x ∈ H) → Tbls H (.slice (some ⟨b62, 0, none⟩) ts.length cap) ts := fun h1 h2 => by
      have := Fz.tbls (hsl h1) (fun z hz => ⟨hzo z hz, h2 _ (List.mem_map.2 ⟨z, hz, rfl⟩)⟩)
      rw [hzt] at this; exact this
    have hmB : ∀ x ∈ B, x ∈ [(b58, Obj.cells #[Value.int .i64 3, sc] 42 (0, 0))] ++ (D ++ (C2 ++ (zs.map Fz.blk ++ X0))) := fun x hx => List.mem_append_right _ (List.mem_append_right _ (List.mem_append_right _ (List.mem_append_right _ (hBX0.sub x hx))))
    refine CallF.px .here (docBest_ok (ht.mono hmB) (by omega)) ?_
    intro r0 N2 hq0
    obtain ⟨x, e, want, l, D0, E0, rfl, hi0, hl16, hH0, hdet⟩ := bestq_get hq0
    refine Ext.mk rfl (Ext.mk rfl (Ext.mk rfl ?_))
    rw [hH0]
    clear hq0 hH0
    refine CallF.px .here (best_ok (hgive (fun x hx => ?_) (fun x hx => ?_)) (by omega)) ?_
    · exact List.mem_append_right _ (List.mem_append_right _ (List.mem_append_right _ (List.mem_append_left _ hx)))
    · exact List.mem_append_right _ (List.mem_append_right _ (List.mem_append_right _ (List.mem_append_right _ (List.mem_append_right _ (List.mem_append_left _ hx)))))
    intro r1 N3 hq1
    obtain ⟨one, D1, E1, rfl, hi1, hH1⟩ := hdet hq1
    refine Ext.mk rfl (Ext.mk rfl (Ext.mk rfl ?_))
    rw [hH1]
    clear hq1 hH1
    refine CallF.px .here (best_ok (hgive (fun x hx => ?_) (fun x hx => ?_)) (by omega)) ?_
    · exact List.mem_append_right _ (List.mem_append_right _ (List.mem_append_right _ (List.mem_append_right _ (List.mem_append_right _ (List.mem_append_left _ hx)))))
    · exact List.mem_append_right _ (List.mem_append_right _ (List.mem_append_right _ (List.mem_append_right _ (List.mem_append_right _ (List.mem_append_right _ (List.mem_append_right _ (List.mem_append_left _ hx)))))))
    intro r2 N4 hq2
    obtain ⟨two, D2, E2, rfl, hi2, hH2⟩ := hdet hq2
    refine Ext.mk rfl (Ext.mk rfl (Ext.mk rfl ?_))
    rw [hH2]
    clear hq2 hH2
    refine CallF.px .here (within_ok (hgive (fun x hx => ?_) (fun x hx => ?_)) (by omega) hA) ?_
    · exact List.mem_append_right _ (List.mem_append_right _ (List.mem_append_right _ (List.mem_append_right _ (List.mem_append_right _ (List.mem_append_right _ (List.mem_append_right _ (List.mem_append_left _ hx)))))))
    · exact List.mem_append_right _ (List.mem_append_right _ (List.mem_append_right _ (List.mem_append_right _ (List.mem_append_right _ (List.mem_append_right _ (List.mem_append_right _ (List.mem_append_right _ (List.mem_append_right _ (List.mem_append_left _ hx)))))))))
    intro r3 N5 _
    intro J hJ
    have hfin : J [.bool false] (D1 ++ (D2 ++ (D ++ (C2 ++ (zs.map Fz.blk ++ (D0 ++ X0)))))) := hJ _ _ fun gs => ?_
    · refine DR.self ?_
      refine Bin.neD (Br.decF (by simp) ?_)
      refine Bin.neD (Pick.mk (Br.decF (by simp) ?_))
      refine Bin.neD (Pick.mk (Br.decF (by simp) ?_))
      intro _
      refine CallF.rd .here (order_ok (hi1.ints.mono fun x hx => ?_) (hi0.ints.mono fun x hx => ?_) (by omega)) ?_
      · exact List.mem_append_right _ (List.mem_append_right _ (List.mem_append_right _ (List.mem_append_left _ hx)))
      · exact List.mem_append_right _ (List.mem_append_right _ (List.mem_append_right _ (List.mem_append_right _ (List.mem_append_right _ (List.mem_append_left _ hx)))))
      rintro _ rfl
      rw [decide_eq_true rfl]
      refine ⟨.refl _, Un.not (Pick.mk (Br.no ?_))⟩
      intro _
      refine CallF.rd .here (order_ok (hi2.ints.mono fun x hx => ?_) (hi0.ints.mono fun x hx => ?_) (by omega)) ?_
      · exact List.mem_append_right _ (List.mem_append_left _ hx)
      · exact List.mem_append_right _ (List.mem_append_right _ (List.mem_append_right _ (List.mem_append_right _ (List.mem_append_right _ (List.mem_append_left _ hx)))))
      rintro _ rfl
      rw [decide_eq_true rfl]
      refine ⟨.refl _, Un.not (Pick.mk (Br.no ?_))⟩
      refine ht.lenS ?_
      refine Bin.addN (b := 1) (by simp [lim]; omega) ?_
      refine SliceE.upto (by omega) ?_
      refine ht.lenS ?_
      have hmD : ∀ x ∈ D, x ∈ N5 ++ (D2 ++ (E2 ++ (D1 ++ (E1 ++ (D0 ++ (E0 ++ ([(b58, Obj.cells #[Value.int .i64 3, sc] 42 (0, 0))] ++ (D ++ (C2 ++ (zs.map Fz.blk ++ X0)))))))))) := fun x hx =>
        List.mem_append_right _ (List.mem_append_right _ (List.mem_append_right _ (List.mem_append_right _ (List.mem_append_right _ (List.mem_append_right _ (List.mem_append_right _ (List.mem_append_right _ (List.mem_append_left _ hx))))))))
      have hmX : ∀ x ∈ X0, x ∈ N5 ++ (D2 ++ (E2 ++ (D1 ++ (E1 ++ (D0 ++ (E0 ++ ([(b58, Obj.cells #[Value.int .i64 3, sc] 42 (0, 0))] ++ (D ++ (C2 ++ (zs.map Fz.blk ++ X0)))))))))) := fun x hx =>
        List.mem_append_right _ (List.mem_append_right _ (List.mem_append_right _ (List.mem_append_right _ (List.mem_append_right _ (List.mem_append_right _ (List.mem_append_right _ (List.mem_append_right _ (List.mem_append_right _ (List.mem_append_right _ (List.mem_append_right _ hx))))))))))
      refine IAddr.sl (hslc hmD) (r := [.int .i64 3, sc]) (by rw [List.getElem?_append_right (by rw [List.length_map]; omega), List.length_map, hzl]; simp) fun p hp => ?_
      refine LdA.at hp rfl (by decide) (fun _ h => h) ?_
      intro _
      refine CallF.px .here (choice_ok _) ?_
      rintro _ N6 ⟨sc2, rfl, hwc2⟩
      refine ⟨.right, ?_⟩
      intro _
      refine CallF.rd .here (same_ok (a := ⟨3, [216]⟩) (b := ⟨3, [216]⟩) ⟨sc, rfl, hwc.mono fun x hx => List.mem_append_right _ (hmX x hx)⟩ ⟨sc2, rfl, hwc2⟩ (by simp)) ?_
      rintro _ rfl
      rw [decide_eq_true rfl]
      refine ⟨.right, Un.not (Pick.mk ?_)⟩
      refine JE.of ?_ hfin
      exact .trans (.skips (.skips (.prep (.skips (.prep (.skips (.prep (.skips (.skips (.refl _))) _)) _)) _))) (.perm (perm_d D2 D1 D0 D C2 (zs.map Fz.blk) X0))
    clear hJ
    refine Br.no ?_
    have hBX : Grow B (D0 ++ X0) := .app hBX0
    have hwant : Ints .i64 (D0 ++ X0) want l := hi0.ints.mono fun _ h => List.mem_append_left _ h
    generalize D0 ++ X0 = X at hBX hwant ⊢
    clear hi0 hBX0 hwc
    have hmB2 : ∀ x ∈ B, x ∈ D1 ++ (D2 ++ (D ++ (C2 ++ (zs.map Fz.blk ++ X)))) := fun x hx => List.mem_append_right _ (List.mem_append_right _ (List.mem_append_right _ (List.mem_append_right _ (List.mem_append_right _ (hBX.sub x hx)))))
    have hmD2 : ∀ x ∈ D, x ∈ D1 ++ (D2 ++ (D ++ (C2 ++ (zs.map Fz.blk ++ X)))) := fun x hx => List.mem_append_right _ (List.mem_append_right _ (List.mem_append_left _ hx))
    have hmF : ∀ x ∈ zs.map Fz.blk, x ∈ D1 ++ (D2 ++ (D ++ (C2 ++ (zs.map Fz.blk ++ X)))) := fun x hx => List.mem_append_right _ (List.mem_append_right _ (List.mem_append_right _ (List.mem_append_right _ (List.mem_append_left _ hx))))
    have hful : Sl 1 (D1 ++ (D2 ++ (D ++ (C2 ++ (zs.map Fz.blk ++ X))))) w13 (zs.map fun z => [z.val]) := (Sl.ofOwn ho2 (by decide)).mono fun x hx => List.mem_append_right _ (List.mem_append_right _ (List.mem_append_right _ (List.mem_append_left _ hx)))
    refine ht.lenS ?_
    refine ⟨fun vs H => ∃ j : Nat, vs = [.int .i64 (j : Int)] ∧ j ≤ ts.length ∧ H = D1 ++ (D2 ++ (D ++ (C2 ++ (zs.map Fz.blk ++ X)))), fun vs _ => ts.length - nAt vs 0, JE.mk ⟨0, rfl, by omega, rfl⟩, ?_⟩
    rintro w92 H ⟨j, hv, hj, rfl⟩ gs
    simp only [List.cons.injEq, and_true] at hv
    subst hv
    refine Bin.ltN (Br.dec (fun hlt => ?_) (fun hlt => ?_))
    · have hg : ts[j]? = some ts[j] := List.getElem?_eq_getElem hlt
      have hjz : j < zs.length := by omega
      have hgz : zs[j]? = some zs[j] := List.getElem?_eq_getElem hjz
      have htz : zs[j].t = ts[j] := by
        have := congrArg (fun l => l[j]?) hzt
        simp only [List.getElem?_map, hgz, hg, Option.map_some, Option.some.injEq] at this
        exact this
      have hzok := hzo _ (List.getElem_mem hjz)
      have hfj := hfit.2 ts[j] (List.getElem_mem hlt)
      generalize hz : zs[j] = z at hgz htz hzok
      rw [← htz] at hg hfj
      clear htz
      have hzb : z.blk ∈ D1 ++ (D2 ++ (D ++ (C2 ++ (zs.map Fz.blk ++ X)))) := hmF _ (List.mem_map.2 ⟨z, List.mem_of_getElem? hgz, rfl⟩)
      refine ht.ld hg hmB2 fun sw hw => ?_
      intro b96 _
      refine St.whole (r := [.int .i64 z.t.n, sw]) (by exact .head _) rfl rfl (by have := oneCell_words hw; simpa [Value.oneCell'] using this) ?_
      refine FAddr.mk (Ld.mk (by exact .head _) rfl ?_)
      refine hw.1.lenS ?_
      rw [iw_length]
      intro J hJ
      refine DR.self ?_
      refine LdA.whole (r := [.int .i64 z.t.n, sw]) (by exact .head _) rfl ?_
      refine IAddr.sl (hsl hmD2) (r := z.row) (by rw [List.getElem?_map, hgz]; rfl) fun p hp => ?_
      refine FAddr.at hp fun q hq => Ld.at hq (fun _ h => .tail _ h) ?_
      refine IAddr.sl hful (r := [z.val]) (by rw [List.getElem?_map, hgz]; rfl) fun p hp => ?_
      refine Ld.at hp (fun _ h => .tail _ h) ?_
      refine SliceE.upto (size := 1) (a := some ⟨z.b, 0, none⟩) (n := z.t.ws.length + 2) (c := z.t.ws.length + 2 + z.junk.length) (h := z.t.ws.length) (by omega) ?_
      refine Build.mk (cs := [.int .i64 z.t.n, .slice (some ⟨z.b, 0, none⟩) z.t.ws.length (z.t.ws.length + 2 + z.junk.length)]) (by kernel_rfl) ?_
      intro _
      refine CallF.rd .here (same_ok (v1 := .agg (List.toArray [.int .i64 z.t.n, sw])) (v2 := .agg (List.toArray [.int .i64 z.t.n, .slice (some ⟨z.b, 0, none⟩) z.t.ws.length (z.t.ws.length + 2 + z.junk.length)])) (a := z.t) (b := z.t) ⟨sw, rfl, hw.mono fun x hx => .tail _ (hmB2 x hx)⟩ ⟨_, rfl, Fz.words hzok (.tail _ hzb)⟩ (by omega)) ?_
      rintro _ rfl
      rw [decide_eq_true rfl]
      refine ⟨.refl _, Un.not (Br.no ?_)⟩
      have hzf := Fz.full hzok (.tail (b96, Obj.cells (List.toArray [.int .i64 z.t.n, sw]) 42 (0, 0)) hzb)
      refine IAddr.sl hful (r := [z.val]) (by rw [List.getElem?_map, hgz]; rfl) fun p hp => ?_
      refine Ld.at hp (fun _ h => .tail _ h) ?_
      refine hzf.ld (n := 51) (by rw [List.getElem?_append_right (by rw [iw_length]; omega), iw_length]; simp) (fun _ h => h) ?_
      refine Bin.neN (a := 51) (b := 51) (Pick.mk (Br.decF (by decide) ?_))
      refine IAddr.sl hful (r := [z.val]) (by rw [List.getElem?_map, hgz]; rfl) fun p hp => ?_
      refine Ld.at hp (fun _ h => .tail _ h) ?_
      refine Bin.addN (b := 1) (by simp [lim]; omega) ?_
      refine hzf.ld (n := 52) (by rw [List.getElem?_append_right (by rw [iw_length]; omega), iw_length]; simp) (fun _ h => h) ?_
      refine Bin.neN (a := 52) (b := 52) (Pick.mk (JE.mk (hJ _ _ fun gs => Br.decF (by decide) ?_)))
      refine Bin.addN (b := 1) (by simp [lim]; omega) ?_
      exact Back.of .tail ⟨j + 1, rfl, by omega, rfl⟩ (by simp [nAt]; omega)
    clear hful hmB2 hmF hmD2
    refine hi1.lenS ?_
    refine ⟨fun vs H => ∃ (k : Nat) (l' : List Int) (D1' : Hp), vs = [.int .i64 (k : Int)] ∧ k ≤ l.length ∧ l'.length = l.length ∧ IOwn 3 .i64 one l' D1' ∧ H = D1' ++ (D2 ++ (D ++ (C2 ++ (zs.map Fz.blk ++ X)))), fun vs _ => l.length - nAt vs 0, JE.mk ⟨0, l, D1, rfl, by omega, rfl, hi1, rfl⟩, ?_⟩
    rintro w138 H ⟨k, l', D1', hv, hk, hl', hi1', rfl⟩ gs
    simp only [List.cons.injEq, and_true] at hv
    subst hv
    refine Bin.ltN (Br.dec (fun hlt => ?_) (fun hlt => ?_))
    · refine Bin.addN (a := 70) (by simp [lim]; omega) ?_
      refine IOwn.put (A := []) hi1' (by omega) fun D1'' hi1'' => ?_
      refine Bin.addN (b := 1) (by simp [lim]; omega) ?_
      exact Back.mk ⟨k + 1, _, D1'', rfl, by omega, by rw [List.length_set]; exact hl', hi1'', rfl⟩ (by simp [nAt]; omega)
    refine BuildSl.ints2 (e := 3) (by kernel_rfl) (by kernel_rfl) (by kernel_rfl) fun b144 => ?_
    refine IOwn.apps (A := [_]) hi1' (Ints.block (l := [1, 2]) (cap := 2) (.head _) (by simp)) (by simp; omega) (by simp; omega) fun v148 D1'' hi148 => ?_
    clear hi1 hi1'
    refine LenS.mk ?_
    refine ⟨fun vs H => ∃ (j : Nat) (zs' : List Fz), vs = [.int .i64 (j : Int)] ∧ j ≤ ts.length ∧ Sh zs zs' ∧ (∀ z ∈ zs', z.ok) ∧ H = D1'' ++ (D2 ++ (D ++ (C2 ++ (zs'.map Fz.blk ++ X)))), fun vs _ => ts.length - nAt vs 0, JE.of (H' := D1'' ++ (D2 ++ (D ++ (C2 ++ (zs.map Fz.blk ++ X))))) (.skip (.refl _)) ⟨0, zs, rfl, by omega, rfl, hzo, rfl⟩, ?_⟩
    rintro w155 H ⟨j, zs1, hv, hj, hsh, hzo1, rfl⟩ gs
    simp only [List.cons.injEq, and_true] at hv
    subst hv
    have hzl1 : zs1.length = ts.length := by rw [hsh.len, hzl]
    refine Bin.ltN (Br.dec (fun hlt => ?_) (fun hlt => ?_))
    · have hgz : zs1[j]? = some zs1[j] := List.getElem?_eq_getElem (by omega)
      have hwb : zs1[j].t.ws.length * 8 ≤ 140737488351232 := by
        obtain ⟨t', ht', e⟩ := hsh.ts.2 zs1[j].t (List.mem_map.2 ⟨_, List.mem_of_getElem? hgz, rfl⟩)
        rw [hzt] at ht'
        rw [e]; exact hfit.2 t' ht'
      have hrow : (zs.map Fz.row)[j]? = some zs1[j].row := by rw [← hsh.row, List.getElem?_map, hgz]; rfl
      refine IAddr.sl (hsl (H := D1'' ++ (D2 ++ (D ++ (C2 ++ (zs1.map Fz.blk ++ X))))) (fun x hx => List.mem_append_right _ (List.mem_append_right _ (List.mem_append_left _ hx)))) hrow fun p hp => ?_
      refine LdA.at hp rfl (by decide) (fun _ h => h) ?_
      intro b159 _
      refine St.whole (r := zs1[j].row) (by exact .head _) rfl rfl (by intro u hu; unfold Fz.row at hu; simp at hu; rcases hu with rfl | rfl <;> rfl) ?_
      refine FAddr.mk (Ld.mk (by exact .head _) rfl ?_)
      refine LenS.mk ?_
      refine ⟨fun vs H => ∃ (i : Nat) (zs2 : List Fz), vs = [.int .i64 (i : Int)] ∧ i ≤ zs1[j].t.ws.length ∧ Sh zs zs2 ∧ (∀ z ∈ zs2, z.ok) ∧ H = (b159, .cells (List.toArray zs1[j].row) 42 (0, 0)) :: (D1'' ++ (D2 ++ (D ++ (C2 ++ (zs2.map Fz.blk ++ X))))), fun vs _ => zs1[j].t.ws.length - nAt vs 0, JE.mk ⟨0, zs1, rfl, by omega, hsh, hzo1, rfl⟩, ?_⟩
      rintro w169 H ⟨i, zs2, hv, hi, hsh2, hzo2, rfl⟩ gs
      simp only [List.cons.injEq, and_true] at hv
      subst hv
      refine Bin.ltN (Br.dec (fun hilt => ?_) (fun hilt => ?_))
      · obtain ⟨z2, hgz2⟩ : ∃ z2, zs2[j]? = some z2 := ⟨_, List.getElem?_eq_getElem (by have := hsh2.len; omega)⟩
        have hkey : (z2.t.n, z2.t.ws.length, z2.b, z2.junk) = (zs1[j].t.n, zs1[j].t.ws.length, zs1[j].b, zs1[j].junk) := by
          have h1 := congrArg (fun l => l[j]?) hsh
          have h2 := congrArg (fun l => l[j]?) hsh2
          simp only [List.getElem?_map, hgz, hgz2, Option.map_some] at h1 h2
          exact Option.some.inj (h2.trans h1.symm)
        have hz2 := hzo2 _ (List.mem_of_getElem? hgz2)
        simp only [Prod.mk.injEq] at hkey
        obtain ⟨_, hkl, hkb, _⟩ := hkey
        refine FAddr.mk (Ld.mk (by exact .head _) rfl ?_)
        refine IAddr.nat hilt ?_
        rw [← hkb]
        obtain ⟨w, hgw⟩ : ∃ w, z2.t.ws[i]? = some w := ⟨_, List.getElem?_eq_getElem (by omega)⟩
        have hgc : z2.cls[i]? = some [Value.int .u64 (w : Int)] := by
          unfold Fz.cls
          rw [List.getElem?_append_left (by simp; omega), List.getElem?_map, List.getElem?_append_left (by simp; omega), iw_get hgw]; rfl
        have hwl := hz2.lt _ (List.mem_of_getElem? hgw)
        refine Ld.row1 (l := z2.cls) (T := 33) (fz := (0, 0)) (.tail _ (List.mem_append_right _ (List.mem_append_right _ (List.mem_append_right _ (List.mem_append_right _ (List.mem_append_left _ (List.mem_map.2 ⟨z2, List.mem_of_getElem? hgz2, rfl⟩))))))) hz2.all hgc ?_
        refine Bin.xorN (b := 1) (by simpa [lim] using hwl) (by simp [lim]) ?_
        refine IAddr.nat hilt ?_
        rw [← hkb]
        have hxl : w ^^^ 1 < 18446744073709551616 := Nat.xor_lt_two_pow (n := 64) hwl (by decide)
        have hup := upd_map (z' := z2.put i (w ^^^ 1)) hgz2 rfl X
        unfold Fz.blk at hup
        rw [Fz.put_cls (by omega)] at hup
        refine St.cell (l := z2.cls) (T := 33) (i := i) (j := 0) (k := 1) (r := [.int .u64 (w : Int)]) (.tail ((((hup.prepend C2).prepend D).prepend D2).prepend D1'')) hz2.all hgc (by omega) rfl ?_
        refine Bin.addN (b := 1) (by simp [lim]; omega) ?_
        refine Back.mk ⟨i + 1, zs2.set j (z2.put i (w ^^^ 1)), rfl, by omega, hsh2.set hgz2 (by simp [Fz.put]), fun z hz => ?_, rfl⟩ (by show zs1[j].t.ws.length - (((i:Int)+1).toNat) < zs1[j].t.ws.length - ((i:Int).toNat); omega)
        rcases List.mem_or_eq_of_mem_set hz with hz | rfl
        · exact hzo2 z hz
        · exact Fz.put_ok hz2 hxl
      · refine Bin.addN (b := 1) (by simp [lim]; omega) ?_
        exact Back.of .tail ⟨j + 1, zs2, rfl, by omega, hsh2, hzo2, rfl⟩ (by simp [nAt]; omega)
    clear hj hlt
    have hD1 : (l' ++ [1, 2]).length = l.length + 2 := by simp [hl']
    have hmD3 : ∀ x ∈ D, x ∈ D1'' ++ (D2 ++ (D ++ (C2 ++ (zs1.map Fz.blk ++ X)))) := fun x hx => List.mem_append_right _ (List.mem_append_right _ (List.mem_append_left _ hx))
    have hmF3 : ∀ x ∈ zs1.map Fz.blk, x ∈ D1'' ++ (D2 ++ (D ++ (C2 ++ (zs1.map Fz.blk ++ X)))) := fun x hx => List.mem_append_right _ (List.mem_append_right _ (List.mem_append_right _ (List.mem_append_right _ (List.mem_append_left _ hx))))
    have hg3 : ∀ {H : Hp}, (∀ x ∈ D, x ∈ H) → (∀ x ∈ zs1.map Fz.blk, x ∈ H) → Tbls H (.slice (some ⟨b62, 0, none⟩) ts.length cap) (zs1.map Fz.t) := fun h1 h2 =>
      Fz.tbls (by rw [hsh.row]; exact hsl h1) (fun z hz => ⟨hzo1 z hz, h2 _ (List.mem_map.2 ⟨z, hz, rfl⟩)⟩)
    have hfit3 : TFit (zs1.map Fz.t) := by
      obtain ⟨h1, h2⟩ := hsh.ts
      rw [hzt] at h1 h2
      refine ⟨by rw [h1]; exact hfit.1, fun t ht => ?_⟩
      obtain ⟨t', ht', e⟩ := h2 t ht
      rw [e]; exact hfit.2 t' ht'
    have hl3 : (zs1.map Fz.t).length = ts.length := by rw [List.length_map, hzl1]
    refine CallF.px .here (twins_ok (hg3 hmD3 hmF3) hfit3) ?_
    intro late N7 hlate
    refine CallF.px .here (docBest_ok hlate (by omega)) ?_
    intro r4 N8 hq4
    obtain ⟨x4, e4, now, l4, D4, E4, rfl, hi4, hl4, hH4, hdet4⟩ := bestq_get hq4
    refine Ext.mk rfl (Ext.mk rfl (Ext.mk rfl ?_))
    rw [hH4]
    clear hq4 hH4
    refine CallF.px .here (best_ok (hg3 (fun x hx => ?_) (fun x hx => ?_)) (by omega)) ?_
    · exact List.mem_append_right _ (List.mem_append_right _ (List.mem_append_right _ (hmD3 x hx)))
    · exact List.mem_append_right _ (List.mem_append_right _ (List.mem_append_right _ (hmF3 x hx)))
    intro r5 N9 hq5
    obtain ⟨three, D5, E5, rfl, hi5, hH5⟩ := hdet4 hq5
    refine Ext.mk rfl (Ext.mk rfl (Ext.mk rfl ?_))
    rw [hH5]
    clear hq5 hH5
    intro J hJ
    have hfin : J [.bool false] (D1'' ++ (D2 ++ (D ++ (C2 ++ (zs1.map Fz.blk ++ X))))) := hJ _ _ fun gs => ?_
    · refine Bin.neD (Split.go (by simp) ?_)
      refine Bin.neD (Pick.mk (Split.go (by simp) ?_))
      refine CallF.rd .here (order_ok (hi5.ints.mono fun x hx => ?_) (hi4.ints.mono fun x hx => ?_) (by omega)) ?_
      · exact List.mem_append_left _ hx
      · exact List.mem_append_right _ (List.mem_append_right _ (List.mem_append_left _ hx))
      rintro _ rfl
      rw [decide_eq_true rfl]
      refine Un.not (Pick.mk (Split.go rfl ?_))
      refine CallF.rd .here (order_ok (hi2.ints.mono fun x hx => ?_) (hwant.mono fun x hx => ?_) (by omega)) ?_
      · exact List.mem_append_right _ (List.mem_append_right _ (List.mem_append_right _ (List.mem_append_right _ (List.mem_append_right _ (List.mem_append_right _ (List.mem_append_left _ hx))))))
      · exact List.mem_append_right _ (List.mem_append_right _ (List.mem_append_right _ (List.mem_append_right _ (List.mem_append_right _ (List.mem_append_right _ (List.mem_append_right _ (List.mem_append_right _ (List.mem_append_right _ (List.mem_append_right _ hx)))))))))
      rintro _ rfl
      rw [decide_eq_true rfl]
      refine Un.not (Pick.mk ?_)
      exact JE.of (.skips (.skips (.skips (.skips (.skips (.refl _)))))) hfin
    clear hJ
    refine Br.no ?_
    refine BuildSl.ints2 (e := 3) (by kernel_rfl) (by kernel_rfl) (by kernel_rfl) fun b196 => ?_
    refine IOwn.apps (A := _ :: D1'') hi2 (Ints.block (l := [3, 4]) (cap := 2) (.head _) (by simp)) (by simp; omega) (by simp; omega) fun v200 D2' hi200 => ?_
    refine hi148.lenS ?_
    rw [hD1]
    refine Bin.subN (b := 2) (by simp [lim]; omega) (by omega) ?_
    rw [Nat.add_sub_cancel]
    refine hi148.ints.ld (n := 1) (by rw [← hl', List.getElem?_append_right (by omega)]; simp) (fun x hx => ?_) ?_
    · exact .tail _ (List.mem_append_left _ hx)
    refine Bin.eqN (a := 1) (b := 1) (Grp.and true (fun _ => ?_) rfl fun gs => ?_)
    · refine hi200.lenS ?_
      have hD2 : (l ++ [3, 4]).length = l.length + 2 := by simp
      rw [hD2]
      refine Bin.subN (b := 2) (by simp [lim]; omega) (by omega) ?_
      rw [Nat.add_sub_cancel]
      refine hi200.ints.ld (n := 3) (by rw [List.getElem?_append_right (by omega)]; simp) (fun x hx => ?_) ?_
      · exact List.mem_append_right (_ :: D1'') (List.mem_append_left _ hx)
      exact Bin.eqN (a := 3) (b := 3) ⟨rfl, rfl⟩
    · refine PxR.mk (.cons (.app (.app (.app (.app (.app hBX)))))) rfl

end Go.Proofs
