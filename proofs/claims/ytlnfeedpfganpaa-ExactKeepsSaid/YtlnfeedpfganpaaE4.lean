import Derived.Test.YtlnfeedpfganpaaE3
import Derived.ProofKit
import Derived.OpenShut
import Derived.Below
import Derived.Deep.Slices
import Derived.SizedLaws
/-
  From a call on pieces of heap to the row's own words: the law returns true, all that was there stands.
-/
set_option linter.unusedSimpArgs false
set_option linter.unusedVariables false
namespace Go.Sx
open Go Go.RowKit
section
variable {P : Program}

/-- all blocks of a world -/
def whole (W : World) : Hp := (List.range W.heap.size).map fun i => (i, W.heap.getD i default)
theorem own_whole (W : World) : Own ⟨W, []⟩ (whole W) W := by
  refine ⟨rfl, rfl, rfl, ?_, ?_⟩
  · have : (whole W).map Prod.fst = List.range W.heap.size := by
      unfold whole
      rw [List.map_map]
      have : (Prod.fst ∘ fun i => (i, W.heap.getD i default)) = id := by funext i; rfl
      rw [this, List.map_id]
    rw [List.append_nil, this]; exact List.nodup_range
  · intro x hx
    rw [List.append_nil] at hx
    obtain ⟨i, hi, rfl⟩ := List.mem_map.1 hx
    have := List.mem_range.1 hi
    simp [Array.getD_eq_getD_getElem?, this]
theorem mem_whole {W : World} {b : Nat} {o : Obj} (h : W.heap[b]? = some o) : (b, o) ∈ whole W := by
  have hlt := (Array.getElem?_eq_some_iff.1 h).1
  exact List.mem_map.2 ⟨b, List.mem_range.2 hlt, by simp [Array.getD_eq_getD_getElem?, h]⟩
theorem whole_cell {W : World} {b off : Nat} {v : Value} (h : W.cell? ⟨b, off, none⟩ = some v) : ∃ c T fz, (b, Obj.cells c T fz) ∈ whole W ∧ c[off]? = some v := by
  unfold World.cell? at h
  split at h
  · rename_i c T fz hb
    exact ⟨c, T, fz, mem_whole hb, by simpa using h⟩
  · simp at h
theorem Own.below {W W' : World} (h : Own ⟨W, []⟩ (whole W) W') : Below W.heap.size W W' := by
  have hb : ∀ k, k < W.heap.size → W'.heap[k]? = W.heap[k]? := fun k hk => by
    have := h.has (k, W.heap.getD k default) (List.mem_map.2 ⟨k, List.mem_range.2 hk, rfl⟩)
    simp only at this
    rw [this]; simp [Array.getD_eq_getD_getElem?, hk]
  refine ⟨h.os, h.tape, h.out, ?_, hb⟩
  rcases Nat.eq_zero_or_pos W.heap.size with h0 | h0
  · omega
  · have := hb (W.heap.size - 1) (by omega)
    rw [show W.heap[W.heap.size - 1]? = some (W.heap[W.heap.size - 1]'(by omega)) from Array.getElem?_eq_getElem (by omega)] at this
    have := (Array.getElem?_eq_some_iff.1 this).1
    omega
/-- the law's call, on all that is there -/
theorem law_below {f : FuncId} {args : Array Value} {W : World} (h : SCalls P ⟨W, []⟩ f args (whole W) (fun e H' => e = .returned (.bool true) ∧ Ent H' (whole W))) :
    Calls P f args W fun e W' => e = .returned (.bool true) ∧ Below W.heap.size W W' :=
  (h W (own_whole W)).mono fun e W' ⟨H', ho, he, hent⟩ => ⟨he, (hent _ _ ho).below⟩

/-- the law's call, on all that is there: it makes memory and changes none -/
theorem law_px {f : FuncId} {args : Array Value} {W : World} (h : Px P f args (whole W) (fun v _ => v = .bool true)) :
    Calls P f args W fun e W' => e = .returned (.bool true) ∧ Below W.heap.size W W' :=
  law_below ((h ⟨W, []⟩).post fun e H' ⟨v, C, he, hent, hg, hv⟩ => ⟨H', .refl _, by rw [he, hv], hent.trans hg.ent⟩)
section
variable {H : Type} {enc : TypeId × Value → H}
open Go.ChangeShapes Go.WideShapes Go.ChangeAt Go.RowKit
theorem trodAll_stays (hl : laidOutB P = true) {W W' : World} {sp : Nat → Bool} (hb : Below W.heap.size W W') : ∀ (ts : List TypeId) (vs : List Value) (ds : List (DataW H)) (ps : List MemPlace),
    (∀ t ∈ ts, P.readableRec t = true ∧ t < P.types.size) → DataW.TrodAll enc P W 0 (fun _ => true) true ts vs ds ps → (∀ x ∈ ps, x.block < W.heap.size) → (∀ x ∈ ps, sp x.block = true) → DataW.TrodAll enc P W' 0 sp true ts vs ds ps
  | [], vs, ds, ps, _, h, _, _ => by
    obtain ⟨rfl, rfl, rfl⟩ := trodAll_nil h; exact trodAll_mk0
  | t :: ts, vs, ds, ps, hr, h, hlt, hsp => by
    obtain ⟨v, vs', d, ds', p, q, rfl, rfl, rfl, h0, h1⟩ := trodAll_cons h
    have ht := hr t (by simp)
    exact trodAll_cons_mk (WideElems.Trod_stays hl ht.1 ht.2 h0 (fun x hx => hb.same (hlt x (by simp [hx]))) (fun x hx => hsp x (by simp [hx])))
      (trodAll_stays hl hb ts vs' ds' q (fun t' h' => hr t' (by simp [h'])) h1 (fun x hx => hlt x (by simp [hx])) (fun x hx => hsp x (by simp [hx])))
/-- what the row asks behind the call -/
theorem law_post {f : Func} {s : ChangeSpec} {W W' : World} {args : Array Value} {ds gs : List (DataW H)} {before : List MemPlace} {tb : TypeId} (hvars : s.vars = [])
    (hW : DataW.Whole enc P f.params.toList s.vars false W args.toList ds gs before) (hs : s.fn H (ds ++ gs) = { results := [.lit (.bool true)], args := ds }) (hb : Below W.heap.size W W')
    (hl : laidOutB P = true) (hr : ∀ t ∈ f.params.toList, P.readableRec t = true ∧ t < P.types.size) (hrt : f.resultTypes = #[tb]) (hbool : P.underlying tb = some .bool) :
    s.post enc P f false true false false W args (.bool true) W' := by
  have hW' := hW
  have hlt := hW.lt
  obtain ⟨p, q, hA, hV, rfl, hfz, hnd⟩ := hW
  rw [hvars] at hV
  obtain ⟨rfl, rfl⟩ := trodVars_none hV
  refine ⟨ds, _, _, [], p, [], hW', ?_, ?_, ?_, World.keptBut_mono (fun p hp => ⟨hp, ?_⟩) (hb.frame (· ∈ p ++ [])), fun h => by cases h⟩
  · rw [hs, hrt]; exact trodAll_cons_mk (shut_bool hbool _) trodAll_mk0
  · rw [hs]
    exact trodAll_stays hl hb _ _ _ _ hr hA (fun x hx => hlt x (by simp [hx])) (fun x hx => by simpa using hlt x (by simp [hx]))
  · rw [hvars, hs]; rfl
  · right; simpa using hp
end
end
end Go.Sx
/-
  Arguments that are slices, opened to blocks of cells.
-/
set_option linter.unusedSimpArgs false
set_option linter.unusedVariables false
namespace Go.Sx
open Go Go.ChangeShapes Go.WideShapes Go.Deep
section
variable {H : Type} {enc : TypeId × Value → H} {P : Program} {W : World} {base : Nat} {spare : Nat → Bool} {held : Bool}
theorem add_block (a : Addr) (n : Nat) : (a.add n).block = a.block := by unfold Addr.add; split <;> rfl
theorem add_off (a : Addr) (n : Nat) : (a.add n).off = a.off + n := by unfold Addr.add; split <;> simp_all
theorem cells_block {b : Nat} {a : Addr} {k : Nat} {cs : List Value} (hk : 0 < k) (h : W.cells? b a k = some cs) :
    a.spot = none ∧ ∃ c T fz, W.heap[a.block]? = some (.cells c T fz) ∧ a.off + k ≤ c.size ∧ c.extract a.off (a.off + k) = cs.toArray := by
  obtain ⟨_, hl, hg⟩ := World.cells?_some h
  have h0 := hg 0 hk
  have hc0 : W.cell? a = some (cs[0]'(by omega)) := by
    have : a.add 0 = a := by simp [Addr.add]
    rw [this] at h0; rw [h0]; exact List.getElem?_eq_getElem (by omega)
  unfold World.cell? at hc0
  split at hc0
  · rename_i c T fz hb
    cases hs : a.spot with
    | some s => rw [hs] at hc0; simp at hc0
    | none =>
      have hcell : ∀ i, i < k → c[a.off + i]? = cs[i]? := fun i hi => by
        have := hg i hi
        unfold World.cell? at this
        rw [add_block, hb] at this
        simp only [add_off] at this
        have hsp : (a.add i).spot.isSome = false := by unfold Addr.add; split <;> simp [hs]
        rw [hsp] at this
        simpa using this
      have hsz : a.off + k ≤ c.size := by
        have := hcell (k - 1) (by omega)
        rw [List.getElem?_eq_getElem (by omega)] at this
        have := (Array.getElem?_eq_some_iff.1 this).1
        omega
      refine ⟨rfl, c, T, fz, hb, hsz, ?_⟩
      apply Array.ext_getElem?
      intro i
      rw [Array.getElem?_extract]
      by_cases hi : i < k
      · rw [if_pos (by omega), hcell i hi]; simp
      · rw [if_neg (by omega)]; simp; omega
  · simp at hc0
/-- an argument of a slice type: each element's cells, and how they read -/
theorem open_rows {t e : TypeId} {v : Value} {d : DataW H} {ps : List MemPlace} {r : Reach} {b0 k : Nat} (ht : P.underlying t = some (.slice e)) (hk : P.cellsOf e = k) (hk0 : 0 < k) (hv : Value.okWide P W r b0 t v) (h : DataW.Trod enc P W base spare held t v d ps) :
    (v = .slice none 0 0 ∧ d = .nil) ∨ ∃ (a : Addr) (n cap : Nat) (es sp : List (DataW H)), v = .slice (some a) n cap ∧ d = .slice es sp ∧ es.length = n ∧ n ≤ cap ∧
      ∀ i, i < n → ∃ c T fz cs, a.spot = none ∧ (a.block, Obj.cells c T fz) ∈ whole W ∧ a.off + i * k + k ≤ c.size ∧ c.extract (a.off + i * k) (a.off + i * k + k) = cs.toArray ∧ ∃ fuel y, DataW.trod enc P W base spare held fuel e cs = some y ∧ cs.length = k := by
  obtain ⟨a0, n0, c0, rfl⟩ := okWide_slice ht hv
  obtain ⟨fuel, hf⟩ := h
  rcases open_slice ht hf with ⟨h1, h2⟩ | ⟨a, len, cap, m, n, D, Pl, hcs, hb, hl, hm, hmm, hx, hi⟩
  · left
    simp only [Value.cells, List.cons.injEq, and_true] at h1
    simp only [Prod.mk.injEq] at h2
    exact ⟨by simpa using h1, h2.1⟩
  · right
    simp only [Prod.mk.injEq] at hx
    have hv' : Value.slice a0 n0 c0 = .slice (some a) len cap := by simpa [Value.cells] using hcs
    have hlm : len ≤ m := by rw [hmm]; split <;> omega
    refine ⟨a, len, cap, _, _, hv', hx.1, by simp, hl, fun i hin => ?_⟩
    have hkk := hk
    have hspot : a.spot = none := by
      obtain ⟨cs0, hc0, _⟩ := hi 0 (by omega)
      rw [hk] at hc0
      rw [show a.add (0 * k) = a by simp [Addr.add]] at hc0
      exact (cells_block hk0 hc0).1
    obtain ⟨cs, hc, hd⟩ := hi i (by omega)
    rw [hk] at hc
    obtain ⟨_, hlen, _⟩ := World.cells?_some hc
    obtain ⟨_, c, T, fz, h1, h2, h3⟩ := cells_block hk0 hc
    rw [add_block] at h1
    rw [add_off] at h2 h3
    exact ⟨c, T, fz, cs, hspot, mem_whole h1, h2, h3, n, _, hd, hlen⟩
/-- a slice's cells, opened to the elements' cells -/
theorem trod_rows {t e : TypeId} {cs : List Value} {x : DataW H × List MemPlace} {fuel k : Nat} (ht : P.underlying t = some (.slice e)) (hk : P.cellsOf e = k) (hk0 : 0 < k) (h : DataW.trod enc P W base spare held fuel t cs = some x) :
    ∃ (v : Value) (rs : List (List Value)), cs = [v] ∧ Sl k (whole W) v rs ∧ ((rs = [] ∧ x.1 = .nil) ∨ ∃ es sp, x.1 = .slice es sp ∧ es.length = rs.length) ∧
      ∀ (i : Nat) (r : List Value), rs[i]? = some r → ∃ (fuel : Nat) (y : DataW H × List MemPlace) (es sp : List (DataW H)), DataW.trod enc P W base spare held fuel e r = some y ∧ x.1 = .slice es sp ∧ es[i]? = some y.1 := by
  rcases open_slice ht h with ⟨h1, h2⟩ | ⟨a, len, cap, m, n, D, Pl, hcs, hb, hl, hm, hmm, hx, hi⟩
  · exact ⟨_, [], h1, Sl.nil _ _, .inl ⟨rfl, by rw [h2]⟩, fun i r hr => by simp at hr⟩
  · have hlm : len ≤ m := by rw [hmm]; split <;> omega
    have hex : ∃ rs : List (List Value), rs.length = len ∧ ∀ i r, rs[i]? = some r → W.cells? base (a.add (i * k)) k = some r ∧ DataW.trod enc P W base spare held n e r = some (D i, Pl i) := by
      clear hcs hx hl hmm
      induction len with
      | zero => exact ⟨[], rfl, fun i r hr => by simp at hr⟩
      | succ len ih =>
        obtain ⟨rs, h1, h2⟩ := ih (by omega)
        obtain ⟨r, h3, h4⟩ := hi len (by omega)
        rw [hk] at h3
        refine ⟨rs ++ [r], by simp [h1], fun i r' hr => ?_⟩
        by_cases hlt : i < rs.length
        · rw [List.getElem?_append_left hlt] at hr; exact h2 i r' hr
        · rw [List.getElem?_append_right (by omega)] at hr
          have hi0 : i - rs.length = 0 := by
            by_cases e : i - rs.length = 0
            · exact e
            · rw [List.getElem?_eq_none (by simp; omega)] at hr; cases hr
          rw [hi0] at hr
          simp only [List.getElem?_cons_zero, Option.some.injEq] at hr
          subst hr
          obtain rfl : i = len := by omega
          exact ⟨h3, h4⟩
    obtain ⟨rs, hrl, hrs⟩ := hex
    have hall : ∀ r ∈ rs, r.length = k := fun r hr => by
      obtain ⟨i, hi, e⟩ := List.mem_iff_getElem.1 hr
      obtain ⟨hc, _⟩ := hrs i r (by rw [List.getElem?_eq_getElem hi, e])
      exact (World.cells?_some hc).2.1
    refine ⟨.slice (some a) len cap, rs, hcs, ⟨hall, ?_⟩, .inr ⟨_, _, by rw [hx], by simp [hrl]⟩, fun i r hr => ?_⟩
    · cases rs with
      | nil => exact .inl ⟨some a, cap, by rw [← hrl]; rfl, rfl⟩
      | cons r0 rest =>
        right
        obtain ⟨hc0, _⟩ := hrs 0 r0 rfl
        obtain ⟨hspot, c, T, fz, hb0, _, _⟩ := cells_block hk0 hc0
        rw [show a.add (0 * k) = a by simp [Addr.add]] at hspot hb0
        obtain ⟨ab, ao, asp⟩ := a
        simp only at hspot hb0
        subst hspot
        have hblk : ∀ i r, (r0 :: rest)[i]? = some r → ao + i * k + k ≤ c.size ∧ c.extract (ao + i * k) (ao + i * k + k) = r.toArray := fun i r hr => by
          obtain ⟨hc, _⟩ := hrs i r hr
          obtain ⟨_, c', T', fz', h1, h2, h3⟩ := cells_block hk0 hc
          rw [add_block] at h1
          rw [add_off] at h2 h3
          simp only at h1 h2 h3
          rw [hb0] at h1
          simp only [Option.some.injEq, Obj.cells.injEq] at h1
          obtain ⟨rfl, _, _⟩ := h1
          exact ⟨h2, h3⟩
        refine ⟨ab, ao, cap, c, T, fz, by rw [hrl], by omega, mem_whole hb0, ?_, fun i r hr j v hj => ?_⟩
        · have hlast := hblk (rest.length) ((r0 :: rest)[rest.length]'(by simp)) (List.getElem?_eq_getElem (by simp))
          have := hlast.1
          simp only [List.length_cons, Nat.succ_mul]; omega
        · obtain ⟨h1, h2⟩ := hblk i r hr
          have hjk : j < k := by
            have := (List.getElem?_eq_some_iff.1 hj).1
            rw [hall r (List.mem_of_getElem? hr)] at this; exact this
          have h3 := congrArg (fun z : Array Value => z[j]?) h2
          simp only [Array.getElem?_extract, List.getElem?_toArray] at h3
          rw [hj] at h3
          rw [← h3, if_pos (by omega)]
    · obtain ⟨_, hd⟩ := hrs i r hr
      have hil : i < len := by rw [← hrl]; exact (List.getElem?_eq_some_iff.1 hr).1
      exact ⟨n, _, _, _, hd, by rw [hx], by simp [hil]⟩
/-- a reading of whole numbers -/
theorem trod_ints {t e : TypeId} {q : IntKind} {cs : List Value} {x : DataW H × List MemPlace} {fuel : Nat} (ht : P.underlying t = some (.slice e)) (he : P.underlying e = some (.int q)) (hk : P.cellsOf e = 1) (h : DataW.trod enc P W base spare held fuel t cs = some x) :
    ∃ (v : Value) (l : List Int), cs = [v] ∧ Ints q (whole W) v l ∧ (∀ n ∈ l, (Lit.int q n).wf = true) ∧ ((l = [] ∧ x.1 = .nil) ∨ ∃ es sp, x.1 = .slice es sp ∧ es.length = l.length) := by
  obtain ⟨v, rs, hcs, hsl, hx, hr⟩ := trod_rows ht hk (by decide) h
  have hone : ∀ r ∈ rs, ∃ n, r = [.int q n] ∧ (Lit.int q n).wf = true := fun r hm => by
    obtain ⟨i, hi, e⟩ := List.mem_iff_getElem.1 hm
    obtain ⟨f, y, _, _, hy, _⟩ := hr i r (by rw [List.getElem?_eq_getElem hi, e])
    obtain ⟨n, h1, _, h2⟩ := DataW.trod_int he hy
    exact ⟨n, h1, h2⟩
  have hex : ∃ l : List Int, rs = l.map (fun n => [Value.int q n]) ∧ ∀ n ∈ l, (Lit.int q n).wf = true := by
    clear hsl hx hr hcs
    induction rs with
    | nil => exact ⟨[], rfl, by simp⟩
    | cons r rest ih =>
      obtain ⟨l, h1, h2⟩ := ih fun r hm => hone r (by simp [hm])
      obtain ⟨n, h3, h4⟩ := hone r (by simp)
      exact ⟨n :: l, by simp [h1, h3], fun m hm => by rcases List.mem_cons.1 hm with rfl | hm; exact h4; exact h2 m hm⟩
  obtain ⟨l, rfl, hwf⟩ := hex
  refine ⟨v, l, hcs, hsl, hwf, ?_⟩
  rcases hx with ⟨h1, h2⟩ | ⟨es, sp, h1, h2⟩
  · exact .inl ⟨by simpa using h1, h2⟩
  · exact .inr ⟨es, sp, h1, by simpa using h2⟩
end
end Go.Sx
/-
  Heaps, plainly: things with keys in a list, the order of a heap, and what going up and going down do to it.
-/
set_option linter.unusedVariables false
namespace HpA
abbrev It := Int × Int
def prec (a b : It) : Bool := decide (a.2 < b.2) || (a.2 == b.2 && decide (a.1 < b.1))
theorem prec_iff {a b : It} : prec a b = true ↔ a.2 < b.2 ∨ a.2 = b.2 ∧ a.1 < b.1 := by simp [prec]
theorem prec_false {a b : It} : prec a b = false ↔ ¬ (a.2 < b.2 ∨ a.2 = b.2 ∧ a.1 < b.1) := by rw [← prec_iff]; simp
theorem prec_irrefl (a : It) : prec a a = false := by rw [prec_false]; omega
theorem prec_asymm {a b : It} (h : prec a b = true) : prec b a = false := by rw [prec_iff] at h; rw [prec_false]; omega
theorem le_trans {a b c : It} (h1 : prec b a = false) (h2 : prec c b = false) : prec c a = false := by rw [prec_false] at *; omega
theorem le_of_prec {a b c : It} (h1 : prec a b = true) (h2 : prec c b = false) : prec c a = false := by rw [prec_iff] at h1; rw [prec_false] at *; omega

def fset (V : Nat → It) (i : Nat) (b : It) : Nat → It := fun j => if j = i then b else V j
/-- the thing at j doesn't go prec of its parent -/
def E (V : Nat → It) (j : Nat) : Prop := prec (V j) (V ((j - 1) / 2)) = false
/-- all in order, but for what hangs on place i -/
def UpInv (n : Nat) (V : Nat → It) (i : Nat) : Prop :=
  (∀ j, 0 < j → j < n → j ≠ i → (j - 1) / 2 ≠ i → E V j) ∧ (∀ j, 0 < j → j < n → (j - 1) / 2 = i → 0 < i → prec (V j) (V ((i - 1) / 2)) = false)
def ChildOK (n : Nat) (V : Nat → It) (i : Nat) : Prop := ∀ j, 0 < j → j < n → (j - 1) / 2 = i → E V j
/-- all in order, but for the children of i -/
def Exc (n : Nat) (V : Nat → It) (i : Nat) : Prop :=
  (∀ j, 0 < j → j < n → (j - 1) / 2 ≠ i → E V j) ∧ (∀ j, 0 < j → j < n → (j - 1) / 2 = i → 0 < i → prec (V j) (V ((i - 1) / 2)) = false)
def Ord (n : Nat) (V : Nat → It) : Prop := ∀ j, 0 < j → j < n → E V j

theorem up_step {n i : Nat} {V : Nat → It} (hi : 0 < i) (hn : i < n) (h : UpInv n V i) (ha : prec (V i) (V ((i - 1) / 2)) = true) :
    UpInv n (fset (fset V i (V ((i - 1) / 2))) ((i - 1) / 2) (V i)) ((i - 1) / 2) ∧ ChildOK n (fset (fset V i (V ((i - 1) / 2))) ((i - 1) / 2) (V i)) ((i - 1) / 2) := by
  obtain ⟨h1, h2⟩ := h
  have hq : (i - 1) / 2 ≠ i := by omega
  generalize hqd : (i - 1) / 2 = q at *
  have hqi : q < i := by omega
  refine ⟨⟨?_, ?_⟩, ?_⟩
  · intro j j0 jn jq jp
    unfold E fset
    rw [if_neg jq, if_neg jp]
    by_cases e1 : j = i
    · exact absurd (by rw [e1, hqd]) jp
    · rw [if_neg e1]
      by_cases e2 : (j - 1) / 2 = i
      · rw [if_pos e2]; exact h2 j j0 jn e2 hi
      · rw [if_neg e2]; exact h1 j j0 jn e1 e2
  · intro j j0 jn jp q0
    unfold fset
    have hqq : (q - 1) / 2 ≠ q := by omega
    have hqq2 : (q - 1) / 2 ≠ i := by omega
    rw [if_neg hqq, if_neg hqq2]
    have hjq : j ≠ q := by omega
    rw [if_neg hjq]
    have hq1 : E V q := h1 q q0 (by omega) hq (by omega)
    by_cases e1 : j = i
    · rw [if_pos e1]; exact hq1
    · rw [if_neg e1]
      have := h1 j j0 jn e1 (by omega)
      unfold E at this hq1
      rw [jp] at this
      exact le_trans hq1 this
  · intro j j0 jn jp
    unfold E fset
    rw [jp, if_pos rfl]
    have hjq : j ≠ q := by omega
    rw [if_neg hjq]
    by_cases e1 : j = i
    · rw [if_pos e1]; exact prec_asymm ha
    · rw [if_neg e1]
      have := h1 j j0 jn e1 (by omega)
      unfold E at this
      rw [jp] at this
      exact le_of_prec ha this
theorem up_done {n i : Nat} {V : Nat → It} (h : UpInv n V i) (ha : i = 0 ∨ prec (V i) (V ((i - 1) / 2)) = false) : Exc n V i := by
  refine ⟨fun j j0 jn jp => ?_, h.2⟩
  by_cases e : j = i
  · subst e; rcases ha with ha | ha
    · omega
    · exact ha
  · exact h.1 j j0 jn e jp
theorem exc_child {n i : Nat} {V : Nat → It} (h : Exc n V i) (hc : ChildOK n V i) : Ord n V := fun j j0 jn => by
  by_cases e : (j - 1) / 2 = i
  · exact hc j j0 jn e
  · exact h.1 j j0 jn e

/-- the child to look at -/
def kid (n : Nat) (V : Nat → It) (i : Nat) : Nat := if (decide (2 * i + 1 + 1 < n) && prec (V (2 * i + 1 + 1)) (V (2 * i + 1))) = true then 2 * i + 1 + 1 else 2 * i + 1
theorem kid_cases (n : Nat) (V : Nat → It) (i : Nat) : kid n V i = 2 * i + 1 ∨ kid n V i = 2 * i + 2 ∧ 2 * i + 2 < n := by
  unfold kid; split
  · rename_i h; simp only [Bool.and_eq_true, decide_eq_true_eq] at h; right; omega
  · left; rfl
theorem kid_least {n i j : Nat} {V : Nat → It} (j0 : 0 < j) (jn : j < n) (jp : (j - 1) / 2 = i) : prec (V j) (V (kid n V i)) = false := by
  unfold kid
  split
  · rename_i h
    simp only [Bool.and_eq_true, decide_eq_true_eq] at h
    rcases (show j = 2 * i + 1 ∨ j = 2 * i + 1 + 1 by omega) with rfl | rfl
    · exact prec_asymm h.2
    · exact prec_irrefl _
  · rename_i h
    rcases (show j = 2 * i + 1 ∨ j = 2 * i + 1 + 1 by omega) with rfl | rfl
    · exact prec_irrefl _
    · cases hh : prec (V (2 * i + 1 + 1)) (V (2 * i + 1))
      · rfl
      · exact absurd (by simp [hh, jn]) h
theorem down_step {n i : Nat} {V : Nat → It} (h : Exc n V i) (hk : kid n V i < n) (ha : prec (V (kid n V i)) (V i) = true) :
    Exc n (fset (fset V i (V (kid n V i))) (kid n V i) (V i)) (kid n V i) := by
  have hl : ∀ j, 0 < j → j < n → (j - 1) / 2 = i → prec (V j) (V (kid n V i)) = false := fun j => kid_least
  have hkc := kid_cases n V i
  generalize kid n V i = c at *
  obtain ⟨h1, h2⟩ := h
  have hcp : (c - 1) / 2 = i := by omega
  have hc0 : 0 < c := by omega
  have hci : c ≠ i := by omega
  refine ⟨?_, ?_⟩
  · intro j j0 jn jp
    unfold E fset
    rw [if_neg jp]
    by_cases e1 : j = c
    · rw [if_pos e1, if_pos (by rw [e1]; exact hcp)]; exact prec_asymm ha
    · rw [if_neg e1]
      by_cases e2 : j = i
      · rw [if_pos e2]
        have : (j - 1) / 2 ≠ i := by omega
        rw [if_neg this, e2]; exact h2 c hc0 hk hcp (by omega)
      · rw [if_neg e2]
        by_cases e3 : (j - 1) / 2 = i
        · rw [if_pos e3]; exact hl j j0 jn e3
        · rw [if_neg e3]; exact h1 j j0 jn e3
  · intro j j0 jn jp _
    unfold fset
    rw [hcp]
    have : j ≠ c := by omega
    have e2 : j ≠ i := by omega
    rw [if_neg this, if_neg e2, if_neg (fun e => hci e.symm), if_pos rfl]
    have := h1 j j0 jn (by omega)
    unfold E at this
    rwa [jp] at this
theorem down_done {n i : Nat} {V : Nat → It} (h : Exc n V i) (ha : n ≤ kid n V i ∨ prec (V (kid n V i)) (V i) = false) : Ord n V := by
  refine exc_child h fun j j0 jn jp => ?_
  have hl := kid_least (V := V) j0 jn jp
  rcases ha with ha | ha
  · rcases kid_cases n V i with h | h <;> omega
  · unfold E; rw [jp]; exact le_trans ha hl
theorem ord_min {n : Nat} {V : Nat → It} (h : Ord n V) : ∀ j, j < n → prec (V j) (V 0) = false := by
  intro j
  induction j using Nat.strongRecOn with
  | _ j ih =>
    intro jn
    by_cases j0 : j = 0
    · subst j0; exact prec_irrefl _
    · exact le_trans (ih ((j - 1) / 2) (by omega) (by omega)) (h j (by omega) jn)

/-! lists -/
def at' (l : List It) (j : Nat) : It := l.getD j (0, 0)
theorem at_some {l : List It} {j : Nat} (h : j < l.length) : l[j]? = some (at' l j) := by simp [at', List.getD, h]
theorem at_set {l : List It} {i : Nat} (b : It) (h : i < l.length) : at' (l.set i b) = fset (at' l) i b := by
  funext j
  unfold at' fset
  simp only [List.getD, List.getElem?_set]
  by_cases e : i = j
  · subst e; simp [h]
  · rw [if_neg e, if_neg (fun x => e x.symm)]
theorem set_at {l : List It} {i : Nat} (h : i < l.length) : l.set i (at' l i) = l := by
  apply List.ext_getElem?; intro j; rw [List.getElem?_set]; by_cases e : i = j
  · subst e; simp [h, at', List.getD]
  · simp [e]
theorem swap_perm {l : List It} {i q : Nat} (hi : i < l.length) (hq : q < l.length) (hne : q ≠ i) : ((l.set i (at' l q)).set q (at' l i)).Perm l := by
  rw [List.perm_iff_count]
  intro x
  have g1 : l[i] = at' l i := by simp [at', List.getD, hi]
  have g2 : l[q] = at' l q := by simp [at', List.getD, hq]
  have g3 : (l.set i (at' l q))[q]'(by simp [hq]) = at' l q := by rw [List.getElem_set_ne (fun e => hne e.symm)]; exact g2
  rw [List.count_set (by simp [hq]), List.count_set hi, g1, g3]
  have hc : at' l i = x → 0 < l.count x := fun e => by rw [List.count_pos_iff, ← e, ← g1]; exact List.getElem_mem hi
  by_cases e1 : at' l i = x
  · have := hc e1
    by_cases e2 : at' l q = x <;> simp [e1, e2] <;> omega
  · by_cases e2 : at' l q = x <;> simp [e1, e2]
/-- each thing once -/
def Once (l : List It) : Prop := (l.map Prod.fst).Nodup
theorem Once.perm {l l' : List It} (h : Once l) (p : l'.Perm l) : Once l' := (p.map _).nodup_iff.2 h
theorem Once.inj {l : List It} (h : Once l) {i j : Nat} (hi : i < l.length) (hj : j < l.length) (e : (at' l i).1 = (at' l j).1) : i = j := by
  unfold Once at h
  have hp := List.pairwise_iff_getElem.1 h
  have g : ∀ k (hk : k < l.length), (l.map Prod.fst)[k]'(by simpa using hk) = (at' l k).1 := fun k hk => by simp [at', List.getD, hk]
  rcases Nat.lt_trichotomy i j with hlt | rfl | hlt
  · have := hp i j (by simpa using hi) (by simpa using hj) hlt
    rw [g i hi, g j hj] at this; exact absurd e this
  · rfl
  · have := hp j i (by simpa using hj) (by simpa using hi) hlt
    rw [g i hi, g j hj] at this; exact absurd e.symm this
theorem mem_things {l : List It} {x : Int} : x ∈ l.map Prod.fst ↔ ∃ j, j < l.length ∧ (at' l j).1 = x := by
  rw [List.mem_iff_getElem]
  constructor
  · rintro ⟨j, hj, e⟩
    have hj' : j < l.length := by simpa using hj
    exact ⟨j, hj', by simpa [at', List.getD, hj'] using e⟩
  · rintro ⟨j, hj, e⟩
    exact ⟨j, by simpa using hj, by simpa [at', List.getD, hj] using e⟩

def upf (f : Int → Option Nat) (x : Int) (p : Option Nat) : Int → Option Nat := fun y => if y = x then p else f y
/-- f tells where each thing stands, but for what stands at i -/
def ConsX (l : List It) (f : Int → Option Nat) (i : Nat) : Prop := (∀ j, j < l.length → j ≠ i → f (at' l j).1 = some j) ∧ ∀ x, x ∉ l.map Prod.fst → f x = none
def Cons (l : List It) (f : Int → Option Nat) : Prop := (∀ j, j < l.length → f (at' l j).1 = some j) ∧ ∀ x, x ∉ l.map Prod.fst → f x = none
theorem Cons.x {l : List It} {f : Int → Option Nat} (h : Cons l f) (i : Nat) : ConsX l f i := ⟨fun j hj _ => h.1 j hj, h.2⟩
theorem ConsX.done {l : List It} {f : Int → Option Nat} {i : Nat} (h : ConsX l f i) (ho : Once l) (hi : i < l.length) : Cons l (upf f (at' l i).1 (some i)) := by
  refine ⟨fun j hj => ?_, fun x hx => ?_⟩
  · unfold upf
    by_cases e : (at' l j).1 = (at' l i).1
    · rw [if_pos e, ho.inj hj hi e]
    · rw [if_neg e]; exact h.1 j hj (fun e2 => e (by rw [e2]))
  · unfold upf
    rw [if_neg (fun e => hx (mem_things.2 ⟨i, hi, e.symm⟩))]
    exact h.2 x hx
theorem ConsX.step {l : List It} {f : Int → Option Nat} {i q : Nat} (h : ConsX l f i) (ho : Once l) (hi : i < l.length) (hq : q < l.length) (hne : q ≠ i) :
    ConsX ((l.set i (at' l q)).set q (at' l i)) (upf f (at' l q).1 (some i)) q := by
  have hat : ∀ j, at' ((l.set i (at' l q)).set q (at' l i)) j = fset (fset (at' l) i (at' l q)) q (at' l i) j := fun j => by rw [at_set _ (by simpa using hq), at_set _ hi]
  refine ⟨fun j hj hjq => ?_, fun x hx => ?_⟩
  · rw [hat]
    simp only [List.length_set] at hj
    unfold fset upf
    rw [if_neg hjq]
    by_cases e : j = i
    · rw [if_pos e, if_pos rfl, e]
    · rw [if_neg e]
      rw [if_neg (fun e2 => hjq (ho.inj hj hq e2))]
      exact h.1 j hj e
  · have hx' : x ∉ l.map Prod.fst := fun hm => hx (by
      have := (swap_perm hi hq hne).map Prod.fst
      exact this.mem_iff.2 hm)
    unfold upf
    rw [if_neg (fun e => hx' (mem_things.2 ⟨q, hq, e.symm⟩))]
    exact h.2 x hx'
end HpA
/-
  The program's heap as a piece of memory.
-/
set_option linter.unusedVariables false
set_option linter.unusedSimpArgs false
namespace HpA
open Go Go.Sx
def enc (kd : IntKind) (a : It) : List Value := [.int kd a.1, .int .i64 a.2]
def encL (kd : IntKind) (l : List It) : List (List Value) := l.map (enc kd)
theorem encL_length (kd : IntKind) (l : List It) : (encL kd l).length = l.length := by simp [encL]
theorem encL_rows (kd : IntKind) (l : List It) : ∀ r ∈ encL kd l, r.length = 2 := fun r hr => by
  obtain ⟨a, _, rfl⟩ := List.mem_map.1 hr; rfl
theorem encL_get {kd : IntKind} {l : List It} {i : Nat} (h : i < l.length) (junk : List (List Value)) : (encL kd l ++ junk)[i]? = some (enc kd (at' l i)) := by
  rw [List.getElem?_append_left (by rw [encL_length]; exact h), encL, List.getElem?_map, at_some h]; rfl
theorem encL_set {kd : IntKind} {l : List It} {i : Nat} (h : i < l.length) (a : It) (junk : List (List Value)) : (encL kd l ++ junk).set i (enc kd a) = encL kd (l.set i a) ++ junk := by
  rw [List.set_append_left _ _ (by rw [encL_length]; exact h), encL, encL, List.map_set]
def idx (i : Nat) : Value := .int .i64 (i : Int)
/-- the heap h: its list l, its map f; C holds all of it -/
def HO (kd : IntKind) (TI TH : TypeId) (h : Value) (l : List It) (f : Int → Option Nat) (C : Hp) : Prop :=
  ∃ bh sv mv Cs Cm, h = .pointer (some ⟨bh, 0, none⟩) ∧ C = (bh, Obj.cells #[sv, mv] TH (0, 0)) :: (Cs ++ Cm) ∧ SOwn TI 2 sv (encL kd l) Cs ∧ MOwn kd idx mv f Cm ∧ (mv = .map none → l = [])
theorem HO.open {kd : IntKind} {TI TH : TypeId} {h : Value} {l : List It} {f : Int → Option Nat} {C : Hp} (H : HO kd TI TH h l f C) (hp : 0 < l.length) :
    ∃ bh la mb junk Cm, h = .pointer (some ⟨bh, 0, none⟩) ∧
      C = (bh, Obj.cells #[.slice (some ⟨la, 0, none⟩) l.length (l.length + junk.length), .map (some mb)] TH (0, 0)) :: (la, .cells (rows (encL kd l ++ junk)) TI (0, 0)) :: Cm ∧
      (∀ r ∈ encL kd l ++ junk, r.length = 2) ∧ MOwn kd idx (.map (some mb)) f Cm := by
  obtain ⟨bh, sv, mv, Cs, Cm, rfl, rfl, hs, hm, hne⟩ := H
  obtain ⟨la, junk, rfl, rfl, hall⟩ := hs.pos (by rw [encL_length]; exact hp)
  rw [encL_length]
  rcases hm with ⟨rfl, _⟩ | ⟨mb, m, ck, rfl, h2⟩
  · rw [hne rfl] at hp; simp at hp
  · exact ⟨bh, la, mb, junk, Cm, rfl, rfl, hall, .inr ⟨mb, m, ck, rfl, h2⟩⟩
theorem HO.shut {kd : IntKind} {TI TH : TypeId} {bh la mb n c : Nat} {junk : List (List Value)} {Cm : Hp} {l : List It} {f : Int → Option Nat} (hall : ∀ r ∈ encL kd l ++ junk, r.length = 2) (hn : n = l.length) (hc : c = l.length + junk.length)
    (hm : MOwn kd idx (.map (some mb)) f Cm) :
    HO kd TI TH (.pointer (some ⟨bh, 0, none⟩)) l f ((bh, Obj.cells #[.slice (some ⟨la, 0, none⟩) n c, .map (some mb)] TH (0, 0)) :: (la, .cells (rows (encL kd l ++ junk)) TI (0, 0)) :: Cm) :=
  ⟨bh, _, _, [_], Cm, rfl, rfl, SOwn.mk' hall (by rw [encL_length]; exact hn) (by rw [encL_length]; exact hc), hm, fun h => by simp at h⟩
theorem rows_two {l junk : List (List Value)} (h : ∀ r ∈ l ++ junk, r.length = 2) (kd : IntKind) (l' : List It) : ∀ r ∈ encL kd l' ++ junk, r.length = 2 := fun r hr => by
  rcases List.mem_append.1 hr with hr | hr
  · exact encL_rows kd l' r hr
  · exact h r (by simp [hr])
theorem enc_one (kd : IntKind) (a : It) : ∀ v ∈ enc kd a, v.oneCell' = true := by simp [enc, Value.oneCell']
end HpA
/- facts that the heap's walks want -/
set_option linter.unusedVariables false
set_option linter.unusedSimpArgs false
namespace HpA
open Go Go.Sx
theorem quo2 (j : Nat) (h : 0 < j) : ((j - 1 : Nat) : Int).tdiv 2 = (((j - 1) / 2 : Nat) : Int) := by
  rw [Int.tdiv_eq_ediv_of_nonneg (by omega)]; omega
theorem set_set_at {l : List It} {i q : Nat} (a : It) (hi : i < l.length) (hq : q < l.length) (hne : q ≠ i) : ((l.set i a).set i (at' (l.set i a) q)).set q (at' (l.set i a) i) = (l.set i (at' l q)).set q a := by
  rw [at_set a hi, List.set_set]
  simp [fset, hne]
/-- a heap whole -/
def HI (kd : IntKind) (TI TH : TypeId) (h : Value) (l : List It) (C : Hp) : Prop := ∃ f, HO kd TI TH h l f C ∧ Cons l f ∧ Ord l.length (at' l) ∧ Once l
theorem at_app {l : List It} {a : It} {j : Nat} (h : j < l.length) : at' (l ++ [a]) j = at' l j := by simp [at', List.getD, List.getElem?_append_left h]
theorem at_last (l : List It) (a : It) : at' (l ++ [a]) l.length = a := by simp [at', List.getD]
theorem push_pre {l : List It} {f : Int → Option Nat} {a : It} (hc : Cons l f) (ho : Ord l.length (at' l)) (h1 : Once l) (hx : a.1 ∉ l.map Prod.fst) :
    UpInv (l ++ [a]).length (at' (l ++ [a])) l.length ∧ ConsX (l ++ [a]) f l.length ∧ Once (l ++ [a]) ∧ ChildOK (l ++ [a]).length (at' (l ++ [a])) l.length := by
  simp only [List.length_append, List.length_cons, List.length_nil, Nat.zero_add]
  refine ⟨⟨fun j j0 jn jne jp => ?_, fun j j0 jn jp => by omega⟩, ⟨fun j jn jne => ?_, fun x hx' => ?_⟩, ?_, fun j j0 jn jp => by omega⟩
  · unfold E; rw [at_app (by omega), at_app (by omega)]; exact ho j j0 (by omega)
  · simp only [List.length_append, List.length_cons, List.length_nil] at jn
    rw [at_app (by omega)]; exact hc.1 j (by omega)
  · exact hc.2 x (fun h => hx' (by rw [List.map_append, List.mem_append]; exact .inl h))
  · unfold Once at *; rw [List.map_append, List.nodup_append]; exact ⟨h1, by simp, fun a' ha' b hb => by simp at hb; subst hb; intro e; subst e; exact hx ha'⟩
theorem cons_get {l : List It} {f : Int → Option Nat} (hc : Cons l f) {x : Int} : (x ∉ l.map Prod.fst ∧ f x = none) ∨ ∃ i, i < l.length ∧ (at' l i).1 = x ∧ f x = some i := by
  by_cases h : x ∈ l.map Prod.fst
  · obtain ⟨j, hj, e⟩ := mem_things.1 h
    exact .inr ⟨j, hj, e, by rw [← e]; exact hc.1 j hj⟩
  · exact .inl ⟨h, hc.2 x h⟩
/-- the heap without its first: the last one in its place -/
theorem pop_pre {l : List It} {f : Int → Option Nat} (hc : Cons l f) (ho : Ord l.length (at' l)) (h1 : Once l) {n : Nat} (hn : l.length = n + 1) :
    let l' := l.take n
    ((0 < n → (at' l n) :: (l'.set 0 (at' l n)).tail = l'.set 0 (at' l n) ∧ (at' l 0 :: l'.set 0 (at' l n)).Perm l ∧ Exc n (at' (l'.set 0 (at' l n))) 0 ∧ Once (l'.set 0 (at' l n)) ∧
      ConsX (l'.set 0 (at' l n)) (upf f (at' l 0).1 none) 0)) := by
  intro l' hn0
  have hl' : l'.length = n := by simp [l', hn]
  have hperm : (at' l 0 :: l'.set 0 (at' l n)).Perm l := by
    rw [List.perm_iff_count]
    intro x
    have e : l = l' ++ [at' l n] := by
      have : l = l.take n ++ l.drop n := (List.take_append_drop n l).symm
      have h2 : l.drop n = [at' l n] := by
        rw [List.drop_eq_getElem_cons (by omega), List.drop_eq_nil_of_le (by omega)]
        simp [hn, at', List.getD]
      rw [h2] at this; exact this
    have g0 : l'[0]'(by omega) = at' l 0 := by simp [l', at', List.getD, hn]
    conv => rhs; rw [e]
    rw [List.count_cons, List.count_set (by omega), g0, List.count_append]
    have hc0 : at' l 0 = x → 0 < l'.count x := fun e => by rw [List.count_pos_iff, ← e, ← g0]; exact List.getElem_mem _
    by_cases e1 : at' l 0 = x
    · have := hc0 e1
      by_cases e2 : at' l n = x <;> simp [e1, e2] <;> omega
    · by_cases e2 : at' l n = x <;> simp [e1, e2]
  have hat : ∀ j, j < n → j ≠ 0 → at' (l'.set 0 (at' l n)) j = at' l j := fun j hj h0 => by
    rw [at_set _ (by omega)]; simp [fset, h0, l', at', List.getD, hj]
  have hO : Once (l'.set 0 (at' l n)) := by
    have := (h1.perm hperm : Once _)
    unfold Once at this ⊢
    simp only [List.map_cons, List.nodup_cons] at this
    exact this.2
  refine ⟨?_, hperm, ⟨fun j j0 jn jp => ?_, fun j j0 jn jp h => by omega⟩, hO, fun j hj hj0 => ?_, fun x hx => ?_⟩
  · cases hh : l' with
    | nil => rw [hh] at hl'; simp at hl'; omega
    | cons a r => simp
  · unfold E; rw [hat j jn (by omega), hat _ (by omega) jp]; exact ho j j0 (by omega)
  · simp only [List.length_set, hl'] at hj
    rw [hat j hj hj0]
    unfold upf
    rw [if_neg (fun e => hj0 (h1.inj (by omega) (by omega) e))]
    exact hc.1 j (by omega)
  · unfold upf
    by_cases e : x = (at' l 0).1
    · rw [if_pos e]
    · rw [if_neg e]
      refine hc.2 x fun hm => hx ?_
      have := (hperm.map Prod.fst).mem_iff.2 hm
      simp only [List.map_cons, List.mem_cons] at this
      rcases this with h | h
      · exact absurd h e
      · exact h
/-- the key at i turned -/
theorem move_pre {l : List It} {f : Int → Option Nat} (hc : Cons l f) (ho : Ord l.length (at' l)) (h1 : Once l) {i : Nat} (hi : i < l.length) (key : Int) :
    UpInv (l.set i ((at' l i).1, key)).length (at' (l.set i ((at' l i).1, key))) i ∧ ConsX (l.set i ((at' l i).1, key)) f i ∧ Once (l.set i ((at' l i).1, key)) := by
  have hth : (l.set i ((at' l i).1, key)).map Prod.fst = l.map Prod.fst := by
    rw [List.map_set]
    apply List.ext_getElem?
    intro j
    rw [List.getElem?_set]
    by_cases e : i = j
    · subst e; simp [hi, at', List.getD]
    · simp [e]
  have hat : ∀ j, j ≠ i → at' (l.set i ((at' l i).1, key)) j = at' l j := fun j h => by rw [at_set _ hi]; simp [fset, h]
  refine ⟨⟨fun j j0 jn jne jp => ?_, fun j j0 jn jp i0 => ?_⟩, ⟨fun j jn jne => ?_, fun x hx => hc.2 x (by rwa [hth] at hx)⟩, by unfold Once; rw [hth]; exact h1⟩
  · simp only [List.length_set] at jn
    unfold E; rw [hat j jne, hat _ jp]; exact ho j j0 jn
  · simp only [List.length_set] at jn
    rw [hat j (by omega), hat _ (by omega)]
    have a1 := ho j j0 jn
    have a2 := ho i i0 hi
    unfold E at a1 a2
    rw [jp] at a1
    exact le_trans a2 a1
  · simp only [List.length_set] at jn
    rw [hat j jne]; exact hc.1 j jn
/-- a thing with its key, and the others -/
theorem perm_at {l : List It} {i : Nat} (hi : i < l.length) (a : It) : ∃ r, l.Perm (at' l i :: r) ∧ (l.set i a).Perm (a :: r) := by
  refine ⟨l.take i ++ l.drop (i + 1), ?_, ?_⟩
  · have : l = l.take i ++ at' l i :: l.drop (i + 1) := by
      have h2 : at' l i = l[i] := by simp [at', List.getD, hi]
      rw [h2, ← List.drop_eq_getElem_cons hi, List.take_append_drop]
    conv => lhs; rw [this]
    exact List.perm_middle
  · rw [List.set_eq_take_append_cons_drop, if_pos hi]
    exact List.perm_middle
end HpA
/-
  The cheapest way from no variables to a set of them, set by set.
-/
set_option linter.unusedSimpArgs false
set_option linter.unusedVariables false
namespace Tab
open Go.Sx HpA
theorem par_le (n : Nat) (c : Nat → Nat → Nat) (M : Nat) (hc : ∀ a v, c a v ≤ M) : ∀ f a, par n c f a ≤ f * M
  | 0, a => by simp [par]
  | f + 1, a => by
    rw [par, Nat.succ_mul]
    by_cases h : has n a = []
    · rw [h]; simp [minOf]
    · have := minOf_mem (l := (has n a).map fun v => c (setb a v false) v + par n c f (setb a v false)) (by simpa using h)
      obtain ⟨v, _, e⟩ := List.mem_map.1 this
      rw [← e]
      have h1 := hc (setb a v false) v
      have h2 := par_le n c M hc f (setb a v false)
      omega
theorem setb_tf {s v : Nat} (h : s.testBit v = false) : setb (setb s v true) v false = s := by
  apply Nat.eq_of_testBit_eq; intro k
  rw [testBit_setb, testBit_setb]
  split
  · rename_i e; rw [e, h]
  · rfl
theorem sub_bit {S T : Nat} (h : S &&& T = S) {v : Nat} (hv : S.testBit v = true) : T.testBit v = true := by
  have := congrArg (fun x => x.testBit v) h
  simp only [Nat.testBit_and, hv, Bool.true_and] at this
  exact this
theorem sub_of {S T : Nat} (h : ∀ v, S.testBit v = true → T.testBit v = true) : S &&& T = S := by
  apply Nat.eq_of_testBit_eq; intro k
  rw [Nat.testBit_and]
  cases hs : S.testBit k with
  | false => rfl
  | true => rw [h k hs]; rfl
theorem sub_le {S T : Nat} (h : S &&& T = S) : S ≤ T := by rw [← h]; exact Nat.and_le_right
theorem sub_set {S T v : Nat} (h : S &&& T = S) (hv : T.testBit v = true) : setb S v true &&& T = setb S v true := sub_of fun k hk => by
  rw [testBit_setb] at hk
  split at hk
  · rename_i e; rw [e]; exact hv
  · exact sub_bit h hk
theorem setb_pos {s v : Nat} : setb s v true ≠ 0 := fun e => by
  have := congrArg (fun x => x.testBit v) e
  simp [testBit_setb] at this
def nn (s k : Nat) : It := ((s : Int), (k : Int))
theorem nn_inj {s k s' k' : Nat} (h : nn s k = nn s' k') : s = s' ∧ k = k' := by
  simp only [nn, Prod.mk.injEq] at h; omega
/-- D: the sets that are done; l: those that are known -/
structure Dij (n : Nat) (c : Nat → Nat → Nat) (T : Nat) (D : List Nat) (l : List It) (s i : Nat) : Prop where
  items : ∀ x ∈ l, ∃ S k : Nat, x = nn S k ∧ S &&& T = S ∧ S ∉ D ∧ W n c S ≤ k
  zero : 0 ∈ D ∨ nn 0 0 ∈ l
  step : ∀ S ∈ D, ∀ v, v < n → T.testBit v = true → S.testBit v = false → (S = s → v < i) → setb S v true ∈ D ∨ ∃ k, nn (setb S v true) k ∈ l ∧ k ≤ W n c S + c S v
  sub : ∀ S ∈ D, S &&& T = S
  nd : D.Nodup
  top : T ∉ D
variable {n : Nat} {c : Nat → Nat → Nat} {T : Nat} {D : List Nat} {l l' : List It} {s i : Nat}
theorem W_zero : W n c 0 = 0 := W_nil (by simp [has])
theorem Dij.start (hT : T < 2 ^ n) (h : l.Perm [nn 0 0]) (s : Nat) : Dij n c T [] l s n :=
  ⟨fun x hx => by have := h.mem_iff.1 hx; simp at this; exact ⟨0, 0, this, by simp, by simp, by rw [W_zero]; exact Nat.le_refl _⟩, .inr (h.mem_iff.2 (by simp)), by simp, by simp, by simp, by simp⟩
/-- on the way to a set that is not done something stands in the list that costs no more -/
theorem Dij.low (h : Dij n c T D l s n) (hT : T < 2 ^ n) : ∀ (d S : Nat), (has n S).length = d → S &&& T = S → S ∉ D → ∃ S' k, nn S' k ∈ l ∧ k ≤ W n c S ∧ (S' = S → k = k)
  | d, S, hd, hS, hD => by
    have hSn : S < 2 ^ n := Nat.lt_of_le_of_lt (sub_le hS) hT
    by_cases he : has n S = []
    · have h0 : S = 0 := by
        apply Nat.eq_of_testBit_eq; intro v
        rw [Nat.zero_testBit]
        by_cases hv : v < n
        · cases hb : S.testBit v with
          | false => rfl
          | true => have : v ∈ has n S := mem_has.2 ⟨hv, hb⟩; rw [he] at this; simp at this
        · exact Nat.testBit_lt_two_pow (Nat.lt_of_lt_of_le hSn (Nat.pow_le_pow_right (by decide) (by omega)))
      subst h0
      rcases h.zero with h0 | h0
      · exact absurd h0 hD
      · exact ⟨0, 0, h0, Nat.zero_le _, fun _ => rfl⟩
    · obtain ⟨v, hv, hw⟩ := W_ex (c := c) he
      obtain ⟨hvn, hvb⟩ := mem_has.1 hv
      have hback : setb (setb S v false) v true = S := by
        apply Nat.eq_of_testBit_eq; intro k
        rw [testBit_setb, testBit_setb]
        split
        · rename_i e; rw [e, hvb]
        · rfl
      have hS' : setb S v false &&& T = setb S v false := sub_of fun k hk => by
        rw [testBit_setb] at hk
        split at hk
        · cases hk
        · exact sub_bit hS hk
      by_cases hD' : setb S v false ∈ D
      · have := h.step _ hD' v hvn (sub_bit hS hvb) (by rw [testBit_setb]; simp) (fun _ => hvn)
        rw [hback] at this
        rcases this with h1 | ⟨k, h1, h2⟩
        · exact absurd h1 hD
        · exact ⟨S, k, h1, by omega, fun _ => rfl⟩
      · have hlt := has_set hv
        obtain ⟨S', k, h1, h2, _⟩ := h.low hT (has n (setb S v false)).length (setb S v false) rfl hS' hD'
        exact ⟨S', k, h1, by omega, fun _ => rfl⟩
  termination_by d => d
  decreasing_by omega
theorem Dij.pop (h : Dij n c T D l s n) (hT : T < 2 ^ n) {a : It} (hp : l.Perm (a :: l')) (hm : ∀ b ∈ l, prec b a = false) (ho : Once l) :
    ∃ S, a = nn S (W n c S) ∧ S &&& T = S ∧ S ∉ D ∧ (S ≠ T → Dij n c T (S :: D) l' S 0) := by
  obtain ⟨S, k, rfl, h1, h2, h3⟩ := h.items a (hp.mem_iff.2 (by simp))
  have hk : k ≤ W n c S := by
    obtain ⟨S', k', h4, h5, _⟩ := h.low hT _ S rfl h1 h2
    have := hm _ h4
    rw [prec_false] at this
    simp only [nn] at this
    omega
  have hkk : k = W n c S := by omega
  subst hkk
  refine ⟨S, rfl, h1, h2, fun hne => ?_⟩
  have ho' := ho.perm hp.symm
  have hno : ∀ k, nn S k ∉ l' := fun k hk => by
    unfold Once at ho'
    rw [List.map_cons, List.nodup_cons] at ho'
    exact ho'.1 (List.mem_map.2 ⟨_, hk, rfl⟩)
  refine ⟨fun x hx => ?_, ?_, fun S' hS' v hv ht hb hlt => ?_, fun S' hS' => ?_, ?_, ?_⟩
  · obtain ⟨S', k', rfl, q1, q2, q3⟩ := h.items x (hp.mem_iff.2 (.tail _ hx))
    refine ⟨S', k', rfl, q1, fun hc => ?_, q3⟩
    rcases List.mem_cons.1 hc with e | e
    · subst e; exact hno _ hx
    · exact q2 e
  · rcases h.zero with h0 | h0
    · exact .inl (.tail _ h0)
    · rcases List.mem_cons.1 (hp.mem_iff.1 h0) with e | e
      · left; rw [(nn_inj e).1]; exact .head _
      · exact .inr e
  · rcases List.mem_cons.1 hS' with e | e
    · have := hlt e; omega
    · rcases h.step S' e v hv ht hb (fun _ => hv) with q | ⟨k', q1, q2⟩
      · exact .inl (.tail _ q)
      · rcases List.mem_cons.1 (hp.mem_iff.1 q1) with e | e
        · left; rw [(nn_inj e).1]; exact .head _
        · exact .inr ⟨k', e, q2⟩
  · rcases List.mem_cons.1 hS' with e | e
    · rw [e]; exact h1
    · exact h.sub S' e
  · exact List.nodup_cons.2 ⟨h2, h.nd⟩
  · intro hc
    rcases List.mem_cons.1 hc with e | e
    · exact hne e.symm
    · exact h.top e
theorem Dij.skip (h : Dij n c T D l s i) (hx : T.testBit i = false ∨ s.testBit i = true ∨ setb s i true ∈ D) : Dij n c T D l s (i + 1) :=
  ⟨h.items, h.zero, fun S hS v hv ht hb hlt => by
    by_cases e : S = s ∧ v = i
    · obtain ⟨rfl, rfl⟩ := e
      rcases hx with q | q | q
      · rw [ht] at q; cases q
      · rw [hb] at q; cases q
      · exact .inl q
    · exact h.step S hS v hv ht hb (fun q => by have := hlt q; by_cases e2 : v = i; exact absurd ⟨q, e2⟩ e; omega), h.sub, h.nd, h.top⟩
theorem Dij.keep (h : Dij n c T D l s i) {k : Nat} (hk : nn (setb s i true) k ∈ l) (hle : k ≤ W n c s + c s i) : Dij n c T D l s (i + 1) :=
  ⟨h.items, h.zero, fun S hS v hv ht hb hlt => by
    by_cases e : S = s ∧ v = i
    · obtain ⟨rfl, rfl⟩ := e
      exact .inr ⟨k, hk, hle⟩
    · exact h.step S hS v hv ht hb (fun q => by have := hlt q; by_cases e2 : v = i; exact absurd ⟨q, e2⟩ e; omega), h.sub, h.nd, h.top⟩
theorem W_next (hi : i < n) (hs : s.testBit i = false) : W n c (setb s i true) ≤ W n c s + c s i := by
  have := W_le (c := c) (n := n) (s := setb s i true) (v := i) (mem_has.2 ⟨hi, by rw [testBit_setb]; simp⟩)
  rw [setb_tf hs] at this
  omega
theorem Dij.push (h : Dij n c T D l s i) (hi : i < n) (hs : s.testBit i = false) (ht : T.testBit i = true) (hsT : s &&& T = s) (hD : setb s i true ∉ D) (hp : l'.Perm (nn (setb s i true) (W n c s + c s i) :: l)) : Dij n c T D l' s (i + 1) := by
  have h' : Dij n c T D l' s i := ⟨fun x hx => by
      rcases List.mem_cons.1 (hp.mem_iff.1 hx) with e | e
      · exact ⟨_, _, e, sub_set hsT ht, hD, W_next hi hs⟩
      · exact h.items x e, by
      rcases h.zero with q | q
      · exact .inl q
      · exact .inr (hp.mem_iff.2 (.tail _ q)), fun S hS v hv ht hb hlt => by
      rcases h.step S hS v hv ht hb hlt with q | ⟨k, q1, q2⟩
      · exact .inl q
      · exact .inr ⟨k, hp.mem_iff.2 (.tail _ q1), q2⟩, h.sub, h.nd, h.top⟩
  exact h'.keep (hp.mem_iff.2 (.head _)) (Nat.le_refl _)
theorem Dij.move (h : Dij n c T D l s i) (hi : i < n) (hs : s.testBit i = false) (ht : T.testBit i = true) (hsT : s &&& T = s) (hD : setb s i true ∉ D) {k0 : Int} {r : List It} (hp0 : l.Perm ((((setb s i true : Nat) : Int), k0) :: r)) (hlt : ((W n c s + c s i : Nat) : Int) ≤ k0)
    (hp : l'.Perm (nn (setb s i true) (W n c s + c s i) :: r)) : Dij n c T D l' s (i + 1) := by
  have hin : ∀ x ∈ r, x ∈ l := fun x hx => hp0.mem_iff.2 (.tail _ hx)
  have h' : Dij n c T D l' s i := ⟨fun x hx => by
      rcases List.mem_cons.1 (hp.mem_iff.1 hx) with e | e
      · exact ⟨_, _, e, sub_set hsT ht, hD, W_next hi hs⟩
      · exact h.items x (hin x e), by
      rcases h.zero with q | q
      · exact .inl q
      · rcases List.mem_cons.1 (hp0.mem_iff.1 q) with e | e
        · simp only [nn, Prod.mk.injEq] at e
          exact absurd (by omega) (setb_pos (s := s) (v := i))
        · exact .inr (hp.mem_iff.2 (.tail _ e)), fun S hS v hv ht hb hlt' => by
      rcases h.step S hS v hv ht hb hlt' with q | ⟨k, q1, q2⟩
      · exact .inl q
      · rcases List.mem_cons.1 (hp0.mem_iff.1 q1) with e | e
        · simp only [nn, Prod.mk.injEq] at e
          refine .inr ⟨W n c s + c s i, ?_, by omega⟩
          rw [show setb S v true = setb s i true by omega]
          exact hp.mem_iff.2 (.head _)
        · exact .inr ⟨k, hp.mem_iff.2 (.tail _ e), q2⟩, h.sub, h.nd, h.top⟩
  exact h'.keep (hp.mem_iff.2 (.head _)) (Nat.le_refl _)
theorem Dij.perm {D' : List Nat} (hp : D.Perm D') (h : Dij n c T D l s i) : Dij n c T D' l s i :=
  ⟨fun x hx => by obtain ⟨S, k, h1, h2, h3, h4⟩ := h.items x hx; exact ⟨S, k, h1, h2, fun q => h3 (hp.mem_iff.2 q), h4⟩,
   h.zero.imp hp.mem_iff.1 id, fun S hS v hv ht hb hlt => (h.step S (hp.mem_iff.2 hS) v hv ht hb hlt).imp hp.mem_iff.1 id,
   fun S hS => h.sub S (hp.mem_iff.2 hS), hp.nodup_iff.1 h.nd, fun q => h.top (hp.mem_iff.2 q)⟩
theorem nodup_lt {N : Nat} {l : List Nat} (h : l.Nodup) (hl : ∀ x ∈ l, x < N) : l.length ≤ N := by
  have := List.Nodup.length_le_of_subset (l₂ := List.range N) h (fun x hx => List.mem_range.2 (hl x hx))
  rwa [List.length_range] at this
theorem Dij.dlen (h : Dij n c T D l s i) (hT : T < 2 ^ n) : D.length < 2 ^ n := by
  have := nodup_lt (N := 2 ^ n) (l := T :: D) (List.nodup_cons.2 ⟨h.top, h.nd⟩) (fun x hx => by
    rcases List.mem_cons.1 hx with e | e
    · rw [e]; exact hT
    · exact Nat.lt_of_le_of_lt (sub_le (h.sub x e)) hT)
  rw [List.length_cons] at this; omega
theorem Dij.llen (h : Dij n c T D l s i) (hT : T < 2 ^ n) (ho : Once l) : l.length ≤ 2 ^ n := by
  have e : ∀ x ∈ l, ((x.1.toNat : Nat) : Int) = x.1 := fun x hx => by obtain ⟨S, k, rfl, _⟩ := h.items x hx; simp [nn]
  have hnd : (l.map fun x => x.1.toNat).Nodup := by
    have h2 : ((l.map fun x => x.1.toNat).map (Nat.cast : Nat → Int)).Nodup := by
      rw [List.map_map]
      have : l.map (Nat.cast ∘ fun x : It => x.1.toNat) = l.map Prod.fst := List.map_congr_left fun x hx => e x hx
      rw [this]; exact ho
    exact (List.pairwise_map.1 h2).imp fun hne heq => hne (by rw [heq])
  have := nodup_lt (N := 2 ^ n) hnd (fun y hy => by
    obtain ⟨x, hx, rfl⟩ := List.mem_map.1 hy
    obtain ⟨S, k, rfl, h1, _⟩ := h.items x hx
    simp only [nn, Int.toNat_natCast]
    exact Nat.lt_of_le_of_lt (sub_le h1) hT)
  rwa [List.length_map] at this
end Tab
/-
  Orders: what they cost; the first of the cheapest; sets of so many.
-/
set_option linter.unusedSimpArgs false
set_option linter.unusedVariables false
namespace Tab
open Go.Sx
/-- what the levels of an order cost below a set -/
def cst (c : Nat → Nat → Nat) : Nat → List Nat → Nat
  | _, [] => 0
  | a, v :: o => c a v + cst c (setb a v true) o
/-- each level's cost -/
def prof (c : Nat → Nat → Nat) : Nat → List Nat → List Nat
  | _, [] => []
  | a, v :: o => c a v :: prof c (setb a v true) o
/-- a set with these members too -/
def setl (a : Nat) (o : List Nat) : Nat := o.foldl (fun a v => setb a v true) a
theorem setl_append (a : Nat) (o o' : List Nat) : setl a (o ++ o') = setl (setl a o) o' := List.foldl_append ..
theorem cst_append (c : Nat → Nat → Nat) : ∀ (o o' : List Nat) (a : Nat), cst c a (o ++ o') = cst c a o + cst c (setl a o) o'
  | [], o', a => by simp [cst, setl]
  | v :: o, o', a => by rw [List.cons_append, cst, cst_append c o o', cst, Nat.add_assoc]; rfl
theorem prof_append (c : Nat → Nat → Nat) : ∀ (o o' : List Nat) (a : Nat), prof c a (o ++ o') = prof c a o ++ prof c (setl a o) o'
  | [], o', a => rfl
  | v :: o, o', a => by rw [List.cons_append, prof, prof_append c o o', prof]; rfl
theorem prof_len (c : Nat → Nat → Nat) : ∀ (o : List Nat) (a : Nat), (prof c a o).length = o.length
  | [], a => rfl
  | v :: o, a => by simp [prof, prof_len c o]
theorem prof_take (c : Nat → Nat → Nat) : ∀ (o : List Nat) (a k : Nat), (prof c a o).take k = prof c a (o.take k)
  | [], a, k => by cases k <;> rfl
  | v :: o, a, 0 => rfl
  | v :: o, a, k + 1 => by simp [prof, prof_take c o]
theorem prof_sum (c : Nat → Nat → Nat) : ∀ (o : List Nat) (a : Nat), (prof c a o).sum = cst c a o
  | [], a => rfl
  | v :: o, a => by simp [prof, cst, prof_sum c o]
theorem testBit_setl : ∀ (o : List Nat) (a u : Nat), (setl a o).testBit u = (a.testBit u || decide (u ∈ o))
  | [], a, u => by simp [setl]
  | v :: o, a, u => by
    show (setl (setb a v true) o).testBit u = _
    rw [testBit_setl o, testBit_setb]
    by_cases e : u = v
    · simp [e]
    · simp [e]
/-- an order of the variables that are not in a set -/
structure IsOrd (n a : Nat) (o : List Nat) : Prop where
  nd : o.Nodup
  mem : ∀ v, v ∈ o ↔ v ∈ miss n a
variable {n : Nat} {c : Nat → Nat → Nat}
theorem IsOrd.nil {a : Nat} (h : IsOrd n a []) : miss n a = [] := List.eq_nil_iff_forall_not_mem.2 fun v hv => by simpa using (h.mem v).2 hv
theorem IsOrd.tail {a v : Nat} {o : List Nat} (h : IsOrd n a (v :: o)) : v ∈ miss n a ∧ IsOrd n (setb a v true) o := by
  have h1 := List.nodup_cons.1 h.nd
  refine ⟨(h.mem v).1 (by simp), h1.2, fun u => ?_⟩
  rw [mem_miss, testBit_setb]
  have hu := h.mem u
  rw [mem_miss, List.mem_cons] at hu
  by_cases e : u = v
  · subst e; simp [h1.1]
  · simp only [e, false_or, if_false] at hu ⊢; exact hu
theorem IsOrd.cons {a v : Nat} {o : List Nat} (hv : v ∈ miss n a) (h : IsOrd n (setb a v true) o) : IsOrd n a (v :: o) := by
  have hm := h.mem
  refine ⟨List.nodup_cons.2 ⟨fun hx => ?_, h.nd⟩, fun u => ?_⟩
  · have := (hm v).1 hx
    rw [mem_miss, testBit_setb, if_pos rfl] at this
    exact absurd this.2 (by simp)
  · rw [List.mem_cons, hm, mem_miss, mem_miss, testBit_setb]
    rw [mem_miss] at hv
    by_cases e : u = v
    · subst e; simp [hv]
    · simp [e]
theorem B_le_cst : ∀ (o : List Nat) (a : Nat), IsOrd n a o → B n c a ≤ cst c a o
  | [], a, h => by rw [B_nil h.nil]; exact Nat.zero_le _
  | v :: o, a, h => by
    obtain ⟨h1, h2⟩ := h.tail
    exact Nat.le_trans (B_le h1) (Nat.add_le_add_left (B_le_cst o _ h2) _)
theorem ord_ok : ∀ (f a : Nat), (miss n a).length ≤ f → IsOrd n a (ord n c f a) ∧ cst c a (ord n c f a) = B n c a
  | 0, a, h => by
    have hm : miss n a = [] := List.eq_nil_of_length_eq_zero (by omega)
    rw [ord, B_nil hm]
    exact ⟨⟨by simp, fun v => by rw [hm]⟩, rfl⟩
  | f + 1, a, h => by
    by_cases hm : miss n a = []
    · have : ord n c (f + 1) a = [] := by rw [ord, hm]; rfl
      rw [this, B_nil hm]
      exact ⟨⟨by simp, fun v => by rw [hm]⟩, rfl⟩
    · obtain ⟨v, hv, he, _, ho⟩ := ord_step (c := c) (f := f) hm
      have := miss_set hv
      obtain ⟨h1, h2⟩ := ord_ok f (setb a v true) (by omega)
      rw [ho]
      exact ⟨h1.cons hv, by rw [cst, h2, he]⟩
/-- does a list stand ahead of another? -/
def aheadN : List Nat → List Nat → Bool
  | [], [] => false
  | [], _ :: _ => true
  | _ :: _, [] => false
  | x :: a, y :: b => if x = y then aheadN a b else decide (x < y)
theorem ord_first : ∀ (f a : Nat) (o : List Nat), IsOrd n a o → (miss n a).length ≤ f → cst c a o = B n c a → aheadN o (ord n c f a) = false
  | 0, a, o, h, hf, _ => by
    rw [ord]; cases o with
    | nil => rfl
    | cons v o => rfl
  | f + 1, a, [], h, hf, _ => by
    have : ord n c (f + 1) a = [] := by rw [ord, h.nil]; rfl
    rw [this]; rfl
  | f + 1, a, v :: o, h, hf, hc => by
    obtain ⟨h1, h2⟩ := h.tail
    have hne : miss n a ≠ [] := List.ne_nil_of_mem h1
    obtain ⟨w, hw, he, hmin, ho⟩ := ord_step (c := c) (f := f) hne
    have hl := miss_set h1
    have hb : c a v + B n c (setb a v true) = B n c a := by
      have e1 := B_le (c := c) h1
      have e2 := B_le_cst (c := c) o _ h2
      rw [cst] at hc; omega
    rw [ho, aheadN]
    by_cases e : v = w
    · subst e
      rw [if_pos rfl]
      exact ord_first f _ o h2 (by omega) (by rw [cst] at hc; omega)
    · rw [if_neg e, decide_eq_false]
      intro hlt
      exact hmin v h1 hlt hb
theorem W_le_cst : ∀ (o : List Nat) (a : Nat), o.Nodup → (∀ v ∈ o, v ∈ miss n a) → W n c (setl a o) ≤ W n c a + cst c a o
  | [], a, _, _ => by simp [setl, cst]
  | v :: o, a, hd, hm => by
    have h1 := List.nodup_cons.1 hd
    have hv := hm v (by simp)
    have hv' := mem_miss.1 hv
    have hi : ∀ u ∈ o, u ∈ miss n (setb a v true) := fun u hu => by
      have := mem_miss.1 (hm u (by simp [hu]))
      have ne : u ≠ v := fun e => h1.1 (by rw [← e]; exact hu)
      rw [mem_miss, testBit_setb, if_neg ne]; exact this
    have ih := W_le_cst o (setb a v true) h1.2 hi
    have := W_next (n := n) (c := c) hv'.1 hv'.2
    show W n c (setl (setb a v true) o) ≤ W n c a + (c a v + cst c (setb a v true) o)
    omega
theorem WB_ge : ∀ (d a : Nat), (has n a).length = d → a < 2 ^ n → B n c 0 ≤ W n c a + B n c a
  | 0, a, h, ha => by
    have hm : has n a = [] := List.eq_nil_of_length_eq_zero h
    have : a = 0 := by
      apply Nat.eq_of_testBit_eq; intro k
      rw [Nat.zero_testBit]
      by_cases hk : k < n
      · cases hb : a.testBit k
        · rfl
        · have := mem_has.2 ⟨hk, hb⟩
          rw [hm] at this; simp at this
      · exact Nat.testBit_lt_two_pow (Nat.lt_of_lt_of_le ha (Nat.pow_le_pow_right (by decide) (by omega)))
    subst this; omega
  | d + 1, a, h, ha => by
    have hne : has n a ≠ [] := fun e => by rw [e] at h; simp at h
    obtain ⟨v, hv, he⟩ := W_ex (c := c) hne
    have h1 := has_set hv
    have h2 := mem_has.1 hv
    have ih := WB_ge d (setb a v false) (by omega) (setb_lt ha h2.1)
    have h3 : v ∈ miss n (setb a v false) := by rw [mem_miss, testBit_setb, if_pos rfl]; exact ⟨h2.1, rfl⟩
    have h4 := B_le (c := c) h3
    have h5 : setb (setb a v false) v true = a := by
      apply Nat.eq_of_testBit_eq; intro k
      rw [testBit_setb, testBit_setb]
      by_cases e : k = v
      · subst e; simp [h2.2]
      · simp [e]
    rw [h5] at h4
    omega
theorem miss_zero (n : Nat) : miss n 0 = List.range n := by
  unfold miss; rw [List.filter_eq_self.2]; simp
theorem IsOrd.split {a : Nat} : ∀ {o : List Nat} (k : Nat), IsOrd n a o → IsOrd n (setl a (o.take k)) (o.drop k)
  | o, 0, h => by simpa [setl] using h
  | [], k + 1, h => by simpa [setl] using h
  | v :: o, k + 1, h => by
    have := (h.tail.2).split k
    simpa [setl] using this
theorem IsOrd.len {o : List Nat} (h : IsOrd n 0 o) : o.length = n := by
  have : o.Perm (List.range n) := (List.perm_ext_iff_of_nodup h.nd List.nodup_range).2 fun v => by rw [h.mem, miss_zero]
  rw [this.length_eq, List.length_range]
theorem has_setl : ∀ (o : List Nat) (a : Nat), o.Nodup → (∀ v ∈ o, v ∈ miss n a) → (has n (setl a o)).length = (has n a).length + o.length
  | [], a, _, _ => rfl
  | v :: o, a, hd, hm => by
    have h1 := List.nodup_cons.1 hd
    have hv := mem_miss.1 (hm v (by simp))
    have hi : ∀ u ∈ o, u ∈ miss n (setb a v true) := fun u hu => by
      have := mem_miss.1 (hm u (by simp [hu]))
      have ne : u ≠ v := fun e => h1.1 (by rw [← e]; exact hu)
      rw [mem_miss, testBit_setb, if_neg ne]; exact this
    have ih := has_setl o (setb a v true) h1.2 hi
    have h2 : v ∈ has n (setb a v true) := by rw [mem_has, testBit_setb, if_pos rfl]; exact ⟨hv.1, rfl⟩
    have h3 := has_set h2
    rw [setb_tf hv.2] at h3
    show (has n (setl (setb a v true) o)).length = _
    rw [ih, List.length_cons]; omega
theorem setl_lt {o : List Nat} (h : ∀ v ∈ o, v < n) : ∀ a, a < 2 ^ n → setl a o < 2 ^ n := by
  induction o with
  | nil => exact fun a ha => ha
  | cons v o ih => exact fun a ha => ih (fun u hu => h u (by simp [hu])) _ (setb_lt ha (h v (by simp)))
/-- of any size some set is no dearer than the best order -/
theorem WB_some (k : Nat) (hk : k ≤ n) : ∃ a, a < 2 ^ n ∧ (has n a).length = k ∧ W n c a + B n c a = B n c 0 := by
  obtain ⟨h1, h2⟩ := ord_ok (n := n) (c := c) n 0 (miss_le n 0)
  have hsub : ∀ v ∈ (ord n c n 0).take k, v ∈ miss n 0 := fun v hv => (h1.mem v).1 (List.mem_of_mem_take hv)
  have hlen := h1.len
  have hz : (has n 0).length = 0 := by simp [has]
  have hlt : setl 0 ((ord n c n 0).take k) < 2 ^ n := setl_lt (fun v hv => (mem_miss.1 (hsub v hv)).1) 0 (Nat.two_pow_pos n)
  refine ⟨setl 0 ((ord n c n 0).take k), hlt, ?_, ?_⟩
  · rw [has_setl _ _ (h1.nd.sublist (List.take_sublist _ _)) hsub, hz, List.length_take]; omega
  · have h3 := W_le_cst (c := c) ((ord n c n 0).take k) 0 (h1.nd.sublist (List.take_sublist _ _)) hsub
    have h4 := B_le_cst (c := c) _ _ (h1.split k)
    have h5 := cst_append c ((ord n c n 0).take k) ((ord n c n 0).drop k) 0
    rw [List.take_append_drop, h2] at h5
    have h6 := WB_ge (c := c) _ (setl 0 ((ord n c n 0).take k)) rfl hlt
    rw [W_zero] at h3
    omega
/-- what stands on top bounds any order -/
theorem WB_top {o : List Nat} (h : IsOrd n 0 o) (k : Nat) : W n c (setl 0 (o.take k)) + B n c (setl 0 (o.take k)) ≤ cst c 0 o := by
  have h3 := W_le_cst (c := c) (o.take k) 0 (h.nd.sublist (List.take_sublist _ _)) (fun v hv => (h.mem v).1 (List.mem_of_mem_take hv))
  have h4 := B_le_cst (c := c) _ _ (h.split k)
  have h5 := cst_append c (o.take k) (o.drop k) 0
  rw [List.take_append_drop] at h5
  rw [W_zero] at h3
  omega
theorem WB_zero : W n c 0 + B n c 0 = B n c 0 := by rw [W_zero, Nat.zero_add]
theorem WB_full : W n c (2 ^ n - 1) + B n c (2 ^ n - 1) = B n c 0 := by
  obtain ⟨a, h1, h2, h3⟩ := WB_some (n := n) (c := c) n (Nat.le_refl n)
  have : a = 2 ^ n - 1 := by
    apply Nat.eq_of_testBit_eq; intro k
    rw [Nat.testBit_two_pow_sub_one]
    have hall : has n a = List.range n := by
      apply List.Sublist.eq_of_length List.filter_sublist
      rw [List.length_range]; exact h2
    by_cases hk : k < n
    · have : k ∈ has n a := by rw [hall]; simp [hk]
      simp [(mem_has.1 this).2, hk]
    · rw [Nat.testBit_lt_two_pow (Nat.lt_of_lt_of_le h1 (Nat.pow_le_pow_right (by decide) (by omega)))]; simp [hk]
  rw [← this]; exact h3
theorem bel_congr {c c' : Nat → Nat → Nat} (h : ∀ a v, v < n → c a v = c' a v) : ∀ f a, bel n c f a = bel n c' f a
  | 0, a => rfl
  | f + 1, a => by
    rw [bel, bel]; congr 1
    apply List.map_congr_left
    intro v hv
    rw [h a v (mem_miss.1 hv).1, bel_congr h f]
theorem B_congr {c c' : Nat → Nat → Nat} (h : ∀ a v, v < n → c a v = c' a v) (a : Nat) : B n c a = B n c' a := bel_congr h n a
theorem ord_congr {c c' : Nat → Nat → Nat} (h : ∀ a v, v < n → c a v = c' a v) : ∀ f a, ord n c f a = ord n c' f a
  | 0, a => rfl
  | f + 1, a => by
    rw [ord, ord]
    have e : (miss n a).find? (fun v => c a v + B n c (setb a v true) == B n c a) = (miss n a).find? (fun v => c' a v + B n c' (setb a v true) == B n c' a) := by
      have : ∀ l : List Nat, (∀ v ∈ l, v < n) → l.find? (fun v => c a v + B n c (setb a v true) == B n c a) = l.find? (fun v => c' a v + B n c' (setb a v true) == B n c' a) := by
        intro l
        induction l with
        | nil => intro _; rfl
        | cons v r ih =>
          intro hl
          rw [List.find?_cons, List.find?_cons, ih fun u hu => hl u (by simp [hu]), h a v (hl v (by simp)), B_congr h (setb a v true), B_congr h a]
      exact this _ fun v hv => (mem_miss.1 hv).1
    rw [e]
    split
    · rw [ord_congr h f]
    · rfl
theorem minOf_same {l l' : List Nat} (h : ∀ x, x ∈ l ↔ x ∈ l') : minOf l = minOf l' := by
  by_cases e : l = []
  · have : l' = [] := List.eq_nil_iff_forall_not_mem.2 fun x hx => by have := (h x).2 hx; rw [e] at this; simp at this
    rw [e, this]
  · have e' : l' ≠ [] := fun e' => by
      obtain ⟨x, hx⟩ := List.exists_mem_of_ne_nil l e
      have := (h x).1 hx; rw [e'] at this; simp at this
    exact (minOf_eq ((h _).2 (minOf_mem e')) fun y hy => minOf_le ((h y).1 hy))
end Tab
/-
  Tables under other names, and negated, have as many nodes; nodes under any order.
-/
set_option linter.unusedSimpArgs false
set_option linter.unusedVariables false
namespace Tab
open Go.Sx
/-- behind variables that are given in this order -/
def sts (n : Nat) (l : Fs) (vs : List Nat) : Fs := vs.foldl (fun l v => given n l v) l
theorem has_succ (A k : Nat) : has (k + 1) A = has k A ++ (if A.testBit k then [k] else []) := by
  unfold has; rw [List.range_succ, List.filter_append]; congr 1; rw [List.filter_cons]; simp
theorem sts_append (n : Nat) (l : Fs) (a b : List Nat) : sts n l (a ++ b) = sts n (sts n l a) b := List.foldl_append ..
theorem st_sts (n : Nat) (L : Fs) (A : Nat) : ∀ k, st n L A k = sts n (unlike L) (has k A)
  | 0 => rfl
  | k + 1 => by
    rw [st, has_succ, sts_append, ← st_sts n L A k]
    split <;> rfl
def Sm (a b : Fs) : Prop := ∀ x, x ∈ a ↔ x ∈ b
theorem Sm.trans {a b c : Fs} (h : Sm a b) (h' : Sm b c) : Sm a c := fun x => (h x).trans (h' x)
theorem Sm.symm {a b : Fs} (h : Sm a b) : Sm b a := fun x => (h x).symm
theorem Sm.refl (a : Fs) : Sm a a := fun _ => Iff.rfl
def AF (n : Nat) (l : Fs) : Prop := ∀ t ∈ l, Frm n t
variable {n : Nat}
theorem given_congr {a b : Fs} (h : Sm a b) (v : Nat) : Sm (given n a v) (given n b v) := fun x => by
  rw [mem_given, mem_given]
  constructor
  · rintro ⟨t, ht, h'⟩; exact ⟨t, (h t).1 ht, h'⟩
  · rintro ⟨t, ht, h'⟩; exact ⟨t, (h t).2 ht, h'⟩
theorem given_af (hn : n ≤ 16) (l : Fs) (v : Nat) : AF n (given n l v) := fun t ht => by
  obtain ⟨u, _, b, rfl⟩ := mem_given.1 ht; exact frm_cof hn
theorem cof_comm {t : List Nat} {u v : Nat} {b c : Bool} (hf : Frm n t) (hu : u < n) (hv : v < n) (h : u ≠ v) : cof n (cof n t u b) v c = cof n (cof n t v c) u b :=
  (frm_cof hf.n16).ext (frm_cof hf.n16) fun x hx => by
    rw [bit_cof (frm_cof hf.n16) hv hx, bit_cof hf hu (setb_lt hx hv), bit_cof (frm_cof hf.n16) hu hx, bit_cof hf hv (setb_lt hx hu), setb_comm (Ne.symm h)]
theorem given_comm {l : Fs} {u v : Nat} (hl : AF n l) (hu : u < n) (hv : v < n) (h : u ≠ v) : Sm (given n (given n l u) v) (given n (given n l v) u) := fun x => by
  rw [mem_given, mem_given]
  constructor
  · rintro ⟨t, ht, c, rfl⟩
    obtain ⟨s, hs, b, rfl⟩ := mem_given.1 ht
    exact ⟨cof n s v c, mem_given.2 ⟨s, hs, c, rfl⟩, b, cof_comm (hl s hs) hu hv h⟩
  · rintro ⟨t, ht, c, rfl⟩
    obtain ⟨s, hs, b, rfl⟩ := mem_given.1 ht
    exact ⟨cof n s u c, mem_given.2 ⟨s, hs, c, rfl⟩, b, cof_comm (hl s hs) hv hu (Ne.symm h)⟩
theorem sts_congr : ∀ (vs : List Nat) {a b : Fs}, Sm a b → Sm (sts n a vs) (sts n b vs)
  | [], _, _, h => h
  | v :: vs, _, _, h => sts_congr vs (given_congr h v)
theorem sts_perm (hn : n ≤ 16) {vs vs' : List Nat} (hp : vs.Perm vs') : (∀ v ∈ vs, v < n) → ∀ l, AF n l → Sm (sts n l vs) (sts n l vs') := by
  induction hp with
  | nil => exact fun _ l _ => Sm.refl _
  | cons v _ ih => exact fun h l hl => ih (fun u hu => h u (by simp [hu])) _ (given_af hn l v)
  | swap x y r =>
    intro h l hl
    by_cases e : x = y
    · subst e; exact Sm.refl _
    · exact sts_congr r (given_comm hl (h y (by simp)) (h x (by simp)) (Ne.symm e))
  | trans hp1 _ ih1 ih2 => exact fun h l hl => (ih1 h l hl).trans (ih2 (fun v hv => h v (hp1.mem_iff.2 hv)) l hl)
theorem sts_nodup : ∀ (vs : List Nat) {l : Fs}, l.Nodup → (sts n l vs).Nodup
  | [], _, h => h
  | v :: vs, _, _ => sts_nodup vs (given_nodup _ _ _)
theorem sts_af (hn : n ≤ 16) : ∀ (vs : List Nat) {l : Fs}, AF n l → AF n (sts n l vs)
  | [], _, h => h
  | v :: vs, _, _ => sts_af hn vs (given_af hn _ _)
theorem unlike_af {L : Fs} (h : AF n L) : AF n (unlike L) := fun t ht => h t (mem_unlike.1 ht)
theorem nodes_same {a b : Fs} (ha : a.Nodup) (hb : b.Nodup) (h : Sm a b) (v : Nat) : (nodes n a v).length = (nodes n b v).length := nodes_perm (perm_of_same ha hb h)
theorem has_nodup (n a : Nat) : (has n a).Nodup := List.Pairwise.filter _ List.nodup_range
theorem has_lt {a v : Nat} (h : v ∈ has n a) : v < n := (mem_has.1 h).1
theorem has_next {a v : Nat} (hv : v < n) (ha : a.testBit v = false) : (has n (setb a v true)).Perm (has n a ++ [v]) := by
  refine (List.perm_ext_iff_of_nodup (has_nodup _ _) ?_).2 fun u => ?_
  · rw [List.nodup_append]
    refine ⟨has_nodup _ _, by simp, fun x hx y hy => ?_⟩
    simp at hy; subst hy
    rintro rfl
    rw [(mem_has.1 hx).2] at ha; cases ha
  · rw [mem_has, List.mem_append, List.mem_singleton, mem_has, testBit_setb]
    by_cases e : u = v
    · subst e; simp [hv]
    · simp [e]
/-- one variable more -/
theorem st_next (hn : n ≤ 16) {L : Fs} (hL : AF n L) {a v : Nat} (hv : v < n) (ha : a.testBit v = false) : Sm (st n L (setb a v true) n) (given n (st n L a n) v) := by
  rw [st_sts, st_sts]
  have h := sts_perm hn (has_next hv ha) (fun u hu => has_lt hu) _ (unlike_af hL)
  rw [sts_append] at h
  exact h

/-! other names -/
/-- φ makes a table of a table, where v is called π v -/
structure Trn (n : Nat) (φ : List Nat → List Nat) (π : Nat → Nat) : Prop where
  frm : ∀ t, Frm n t → Frm n (φ t)
  inj : ∀ t s, Frm n t → Frm n s → φ t = φ s → t = s
  lt : ∀ v, v < n → π v < n
  one : ∀ u v, u < n → v < n → π u = π v → u = v
  sur : ∀ u, u < n → ∃ v, v < n ∧ π v = u
  cof : ∀ t v b, Frm n t → v < n → cof n (φ t) (π v) b = φ (cof n t v b)
/-- the first k variables of a set, by their new names -/
def imgk (π : Nat → Nat) (a k : Nat) : Nat := setl 0 ((has k a).map π)
def img (n : Nat) (π : Nat → Nat) (a : Nat) : Nat := imgk π a n
theorem testBit_img {π : Nat → Nat} {a u : Nat} : (img n π a).testBit u = decide (u ∈ (has n a).map π) := by
  unfold img imgk; rw [testBit_setl]; simp
variable {φ : List Nat → List Nat} {π : Nat → Nat}
theorem nodup_map {l : List Nat} (h1 : ∀ u v, u < n → v < n → π u = π v → u = v) (hl : ∀ v ∈ l, v < n) (h : l.Nodup) : (l.map π).Nodup := by
  unfold List.Nodup at *
  rw [List.pairwise_map]
  exact List.Pairwise.imp_of_mem (fun {a b} ha hb hne e => hne (h1 a b (hl a ha) (hl b hb) e)) h
theorem img_mem (h1 : ∀ u v, u < n → v < n → π u = π v → u = v) {a v : Nat} (hv : v < n) : (img n π a).testBit (π v) = a.testBit v := by
  rw [testBit_img, Bool.eq_iff_iff, decide_eq_true_iff, List.mem_map]
  constructor
  · rintro ⟨u, hu, e⟩
    have := mem_has.1 hu
    rw [← h1 u v this.1 hv e]; exact this.2
  · exact fun h => ⟨v, mem_has.2 ⟨hv, h⟩, rfl⟩
theorem has_img (T : Trn n φ π) (a : Nat) : (has n (img n π a)).Perm ((has n a).map π) := by
  refine (List.perm_ext_iff_of_nodup (has_nodup _ _) (nodup_map T.one (fun v hv => has_lt hv) (has_nodup _ _))).2 fun u => ?_
  rw [mem_has, testBit_img, decide_eq_true_iff]
  constructor
  · exact fun h => h.2
  · intro h
    obtain ⟨v, hv, rfl⟩ := List.mem_map.1 h
    exact ⟨T.lt v (has_lt hv), h⟩
theorem given_map (T : Trn n φ π) {l : Fs} (hl : AF n l) {v : Nat} (hv : v < n) : Sm (given n (l.map φ) (π v)) ((given n l v).map φ) := fun x => by
  rw [mem_given, List.mem_map]
  constructor
  · rintro ⟨t, ht, b, rfl⟩
    obtain ⟨s, hs, rfl⟩ := List.mem_map.1 ht
    exact ⟨cof n s v b, mem_given.2 ⟨s, hs, b, rfl⟩, (T.cof s v b (hl s hs) hv).symm⟩
  · rintro ⟨t, ht, rfl⟩
    obtain ⟨s, hs, b, rfl⟩ := mem_given.1 ht
    exact ⟨φ s, List.mem_map.2 ⟨s, hs, rfl⟩, b, (T.cof s v b (hl s hs) hv).symm⟩
theorem sts_map (T : Trn n φ π) (hn : n ≤ 16) : ∀ (vs : List Nat) (l : Fs), AF n l → (∀ v ∈ vs, v < n) → Sm (sts n (l.map φ) (vs.map π)) ((sts n l vs).map φ)
  | [], l, _, _ => Sm.refl _
  | v :: vs, l, hl, hv => (sts_congr (vs.map π) (given_map T hl (hv v (by simp)))).trans (sts_map T hn vs _ (given_af hn l v) fun u hu => hv u (by simp [hu]))
theorem dep_map (T : Trn n φ π) {t : List Nat} (hf : Frm n t) {v : Nat} (hv : v < n) : dep n (φ t) (π v) = dep n t v := by
  unfold dep
  rw [T.cof t v _ hf hv, T.cof t v _ hf hv, decide_eq_decide]
  exact not_congr ⟨fun h => T.inj _ _ (frm_cof hf.n16) (frm_cof hf.n16) h, fun h => by rw [h]⟩
theorem nodes_map (T : Trn n φ π) {v : Nat} (hv : v < n) : ∀ (X : Fs), AF n X → nodes n (X.map φ) (π v) = (nodes n X v).map φ
  | [], _ => rfl
  | t :: X, h => by
    have ih := nodes_map T hv X fun s hs => h s (by simp [hs])
    unfold nodes at ih ⊢
    rw [List.map_cons, List.filter_cons, List.filter_cons, dep_map T (h t (by simp)) hv]
    split
    · rw [List.map_cons, ih]
    · exact ih
theorem lvl_map (T : Trn n φ π) (hn : n ≤ 16) {L : Fs} (hL : AF n L) {a v : Nat} (hv : v < n) : lvl n (L.map φ) (img n π a) (π v) = lvl n L a v := by
  unfold lvl
  have hLm : AF n (L.map φ) := fun t ht => by
    obtain ⟨s, hs, rfl⟩ := List.mem_map.1 ht; exact T.frm s (hL s hs)
  have h1 := sts_perm hn (has_img T a) (fun v hv => has_lt hv) _ (unlike_af hLm)
  have h2 : Sm (unlike (L.map φ)) ((unlike L).map φ) := fun x => by
    rw [mem_unlike, List.mem_map, List.mem_map]
    constructor
    · rintro ⟨s, hs, rfl⟩; exact ⟨s, mem_unlike.2 hs, rfl⟩
    · rintro ⟨s, hs, rfl⟩; exact ⟨s, mem_unlike.1 hs, rfl⟩
  have h3 := sts_congr (n := n) ((has n a).map π) h2
  have h4 := sts_map T hn (has n a) (unlike L) (unlike_af hL) fun v hv => has_lt hv
  have h5 := (h1.trans h3).trans h4
  have haf := sts_af hn (has n a) (unlike_af hL)
  have hnd : ((sts n (unlike L) (has n a)).map φ).Nodup := by
    have := sts_nodup (n := n) (has n a) (unlike_nodup L)
    unfold List.Nodup at this ⊢
    rw [List.pairwise_map]
    exact List.Pairwise.imp_of_mem (fun {x y} hx hy hne e => hne (T.inj x y (haf x hx) (haf y hy) e)) this
  rw [st_sts, st_sts, nodes_same (sts_nodup _ (unlike_nodup _)) hnd h5, nodes_map T hv _ haf, List.length_map]
theorem img_zero : img n π 0 = 0 := by
  have : has n 0 = [] := by simp [has]
  unfold img imgk; rw [this]; rfl
theorem img_set (T : Trn n φ π) {a v : Nat} (hv : v < n) : setb (img n π a) (π v) true = img n π (setb a v true) := by
  apply Nat.eq_of_testBit_eq; intro u
  rw [testBit_setb, testBit_img, testBit_img]
  by_cases e : u = π v
  · subst e
    rw [if_pos rfl]; symm; rw [decide_eq_true_iff]
    exact List.mem_map.2 ⟨v, mem_has.2 ⟨hv, by rw [testBit_setb, if_pos rfl]⟩, rfl⟩
  · rw [if_neg e, decide_eq_decide, List.mem_map, List.mem_map]
    constructor
    · rintro ⟨w, hw, rfl⟩
      have hne : w ≠ v := fun h => e (by rw [h])
      exact ⟨w, by rw [mem_has, testBit_setb, if_neg hne]; exact mem_has.1 hw, rfl⟩
    · rintro ⟨w, hw, rfl⟩
      have hne : w ≠ v := fun h => e (by rw [h])
      rw [mem_has, testBit_setb, if_neg hne] at hw
      exact ⟨w, mem_has.2 hw, rfl⟩
theorem miss_img (T : Trn n φ π) (a u : Nat) : u ∈ miss n (img n π a) ↔ ∃ v ∈ miss n a, π v = u := by
  rw [mem_miss]
  constructor
  · rintro ⟨h1, h2⟩
    obtain ⟨v, hv, rfl⟩ := T.sur u h1
    rw [img_mem T.one hv] at h2
    exact ⟨v, mem_miss.2 ⟨hv, h2⟩, rfl⟩
  · rintro ⟨v, hv, rfl⟩
    have := mem_miss.1 hv
    exact ⟨T.lt v this.1, by rw [img_mem T.one this.1]; exact this.2⟩
theorem B_img (T : Trn n φ π) {c c' : Nat → Nat → Nat} (h : ∀ a v, v < n → c' (img n π a) (π v) = c a v) : ∀ (d a : Nat), (miss n a).length = d → B n c' (img n π a) = B n c a
  | 0, a, hd => by
    have hm : miss n a = [] := List.eq_nil_of_length_eq_zero hd
    rw [B_nil hm, B_nil]
    refine List.eq_nil_iff_forall_not_mem.2 fun u hu => ?_
    obtain ⟨v, hv, _⟩ := (miss_img T a u).1 hu
    rw [hm] at hv; simp at hv
  | d + 1, a, hd => by
    rw [B_step, B_step n c]
    apply minOf_same
    have key : ∀ v ∈ miss n a, c' (img n π a) (π v) + B n c' (setb (img n π a) (π v) true) = c a v + B n c (setb a v true) := fun v hv => by
      have := miss_set hv
      rw [h a v (mem_miss.1 hv).1, img_set T (mem_miss.1 hv).1, B_img T h d _ (by omega)]
    intro x
    rw [List.mem_map, List.mem_map]
    constructor
    · rintro ⟨u, hu, rfl⟩
      obtain ⟨v, hv, rfl⟩ := (miss_img T a u).1 hu
      exact ⟨v, hv, (key v hv).symm⟩
    · rintro ⟨v, hv, rfl⟩
      exact ⟨π v, (miss_img T a _).2 ⟨v, hv, rfl⟩, key v hv⟩
theorem B_names (T : Trn n φ π) (hn : n ≤ 16) {L : Fs} (hL : AF n L) : B n (lvl n (L.map φ)) 0 = B n (lvl n L) 0 := by
  have := B_img T (c := lvl n L) (c' := lvl n (L.map φ)) (fun a v hv => lvl_map T hn hL hv) _ 0 rfl
  rwa [img_zero] at this

/-! tables laid by a function -/
def lay (n : Nat) (F : Nat → Nat) : List Nat := (List.range (wN n)).map fun i => F i &&& fullN n
theorem frm_lay (hn : n ≤ 16) (F : Nat → Nat) : Frm n (lay n F) := by
  refine ⟨hn, by simp [lay], fun w hw => ?_⟩
  obtain ⟨i, _, rfl⟩ := List.mem_map.1 hw
  exact Nat.and_le_right
theorem bit_lay {F : Nat → Nat} {x : Nat} (hx : x < 2 ^ n) : bit (lay n F) x = (F (x / 64)).testBit (x % 64) := by
  have hi := lt_words hx
  unfold bit
  have hget : (lay n F).getD (x / 64) 0 = F (x / 64) &&& fullN n := by simp [lay, hi]
  rw [hget, Nat.testBit_and, testBit_full]
  have hfb : decide (x % 64 < if 6 ≤ n then 64 else 2 ^ n) = true := by
    rw [decide_eq_true_eq]
    split
    · exact Nat.mod_lt _ (by decide)
    · have h1 : 2 ^ n ≤ 32 := Nat.pow_le_pow_right (n := 2) (by decide) (by omega : n ≤ 5)
      omega
  rw [hfb, Bool.and_true]
/-- not -/
def neg (n : Nat) (ws : List Nat) : List Nat := lay n fun i => 18446744073709551615 - ws.getD i 0
theorem bit_neg {ws : List Nat} (hf : Frm n ws) {x : Nat} (hx : x < 2 ^ n) : bit (neg n ws) x = !bit ws x := by
  unfold neg
  rw [bit_lay hx]
  unfold bit
  have hlt : ws.getD (x / 64) 0 < 2 ^ 64 := by
    rw [List.getD_eq_getElem?_getD, List.getElem?_eq_getElem (by rw [hf.len]; exact lt_words hx)]
    exact hf.lt (List.getElem_mem _)
  have := Nat.testBit_two_pow_sub_succ hlt (x % 64)
  rw [show 2 ^ 64 - (ws.getD (x / 64) 0 + 1) = 18446744073709551615 - ws.getD (x / 64) 0 by omega] at this
  rw [this]
  have h64 : x % 64 < 64 := Nat.mod_lt _ (by decide)
  simp [h64]
theorem trn_neg (hn : n ≤ 16) : Trn n (neg n) id where
  frm := fun t _ => frm_lay hn _
  inj := fun t s ht hs h => ht.ext hs fun x hx => by
    have h1 := bit_neg ht hx
    have h2 := bit_neg hs hx
    rw [h, h2] at h1
    cases hb : bit t x <;> cases hb' : bit s x <;> simp_all
  lt := fun v h => h
  one := fun u v _ _ h => h
  sur := fun u h => ⟨u, h, rfl⟩
  cof := fun t v b hf hv => (frm_cof hn).ext (frm_lay hn _) fun x hx => by
    rw [show id v = v from rfl, bit_cof (show Frm n (neg n t) from frm_lay hn _) hv hx, bit_neg hf (setb_lt hx hv), bit_neg (frm_cof hn) hx, bit_cof hf hv hx]
theorem has_img_id (a : Nat) : has n (img n id a) = has n a := by
  unfold has
  apply List.filter_congr
  intro v hv
  exact img_mem (π := id) (fun u v _ _ h => h) (List.mem_range.1 hv)
theorem lvl_neg (hn : n ≤ 16) {L : Fs} (hL : AF n L) (a v : Nat) (hv : v < n) : lvl n (L.map (neg n)) a v = lvl n L a v := by
  rw [← lvl_map (trn_neg hn) hn hL hv]
  unfold lvl
  rw [st_sts, st_sts, has_img_id]; rfl
/-- renamed -/
def pn (p : List Nat) (v : Nat) : Nat := p.getD v 0
def unp (n : Nat) (p : List Nat) (x : Nat) : Nat := setl 0 ((List.range n).filter fun v => x.testBit (pn p v))
theorem testBit_unp {p : List Nat} {x v : Nat} : (unp n p x).testBit v = (decide (v < n) && x.testBit (pn p v)) := by
  unfold unp; rw [testBit_setl]; simp [Bool.decide_and]
theorem unp_lt {p : List Nat} {x : Nat} : unp n p x < 2 ^ n := setl_lt (fun v hv => by simpa using (List.mem_filter.1 hv).1) 0 (Nat.two_pow_pos n)
def ren (n : Nat) (p : List Nat) (ws : List Nat) : List Nat := lay n fun i => wordP ((List.range (2 ^ n)).map fun x => bit ws (unp n p x)) i 64
theorem bit_ren {p ws : List Nat} {x : Nat} (hx : x < 2 ^ n) : bit (ren n p ws) x = bit ws (unp n p x) := by
  unfold ren
  rw [bit_lay hx, testBit_wordP]
  have h64 : x % 64 < 64 := Nat.mod_lt _ (by decide)
  rw [Nat.div_add_mod]
  simp [h64, hx]
/-- a permutation of the first n -/
structure Pm (n : Nat) (p : List Nat) : Prop where
  nd : p.Nodup
  len : p.length = n
  lt : ∀ v ∈ p, v < n
theorem Pm.get {p : List Nat} (h : Pm n p) {v : Nat} (hv : v < n) : p[v]? = some (pn p v) := by
  unfold pn; rw [List.getD_eq_getElem?_getD, List.getElem?_eq_getElem (by rw [h.len]; exact hv)]; rfl
theorem Pm.sur {p : List Nat} (h : Pm n p) {u : Nat} (hu : u < n) : u ∈ p := by
  refine Classical.byContradiction fun hno => ?_
  have := nodup_lt (N := n) (l := u :: p) (List.nodup_cons.2 ⟨hno, h.nd⟩) (fun x hx => by rcases List.mem_cons.1 hx with rfl | hx; exact hu; exact h.lt x hx)
  rw [List.length_cons, h.len] at this; omega
theorem Pm.pi {p : List Nat} (h : Pm n p) : (∀ v, v < n → pn p v < n) ∧ (∀ u v, u < n → v < n → pn p u = pn p v → u = v) ∧ ∀ u, u < n → ∃ v, v < n ∧ pn p v = u := by
  refine ⟨fun v hv => h.lt _ (List.mem_of_getElem? (h.get hv)), fun u v hu hv e => ?_, fun u hu => ?_⟩
  · have h1 := h.get hu
    have h2 := h.get hv
    rw [e, ← h2] at h1
    exact (List.getElem?_inj (by rw [h.len]; exact hu) h.nd).1 h1
  · obtain ⟨v, hv, e⟩ := List.mem_iff_getElem.1 (h.sur hu)
    have hv' : v < n := by rw [← h.len]; exact hv
    refine ⟨v, hv', ?_⟩
    have := h.get hv'
    rw [List.getElem?_eq_getElem hv, e] at this
    exact (Option.some.inj this).symm
theorem unp_img {p : List Nat} (h : Pm n p) {j : Nat} (hj : j < 2 ^ n) : unp n p (img n (pn p) j) = j := by
  apply Nat.eq_of_testBit_eq; intro v
  rw [testBit_unp]
  by_cases hv : v < n
  · rw [img_mem h.pi.2.1 hv]; simp [hv]
  · rw [Nat.testBit_lt_two_pow (Nat.lt_of_lt_of_le hj (Nat.pow_le_pow_right (by decide) (by omega)))]; simp [hv]
theorem img_lt {p : List Nat} (h : Pm n p) (j k : Nat) (hk : k ≤ n) : imgk (pn p) j k < 2 ^ n := setl_lt (fun v hv => by
  obtain ⟨u, hu, rfl⟩ := List.mem_map.1 hv
  exact h.pi.1 u (Nat.lt_of_lt_of_le (has_lt hu) hk)) 0 (Nat.two_pow_pos n)
theorem img_unp {p : List Nat} (h : Pm n p) {x : Nat} (hx : x < 2 ^ n) : img n (pn p) (unp n p x) = x := by
  apply Nat.eq_of_testBit_eq; intro u
  by_cases hu : u < n
  · obtain ⟨v, hv, rfl⟩ := h.pi.2.2 u hu
    rw [img_mem h.pi.2.1 hv, testBit_unp]; simp [hv]
  · have hle : 2 ^ n ≤ 2 ^ u := Nat.pow_le_pow_right (by decide) (by omega)
    rw [Nat.testBit_lt_two_pow (x := img n (pn p) (unp n p x)) (Nat.lt_of_lt_of_le (img_lt h _ n (Nat.le_refl n)) hle), Nat.testBit_lt_two_pow (Nat.lt_of_lt_of_le hx hle)]
theorem unp_set {p : List Nat} (h : Pm n p) {x v : Nat} {b : Bool} (hv : v < n) : unp n p (setb x (pn p v) b) = setb (unp n p x) v b := by
  apply Nat.eq_of_testBit_eq; intro u
  rw [testBit_unp, testBit_setb, testBit_setb, testBit_unp]
  by_cases e : u = v
  · subst e; simp [hv]
  · by_cases hu : u < n
    · have : pn p u ≠ pn p v := fun he => e (h.pi.2.1 u v hu hv he)
      simp [e, hu, this]
    · simp [e, hu]
theorem trn_ren (hn : n ≤ 16) {p : List Nat} (h : Pm n p) : Trn n (ren n p) (pn p) where
  frm := fun t _ => frm_lay hn _
  inj := fun t s ht hs e => ht.ext hs fun x hx => by
    have h1 := bit_ren (p := p) (ws := t) (img_lt h x n (Nat.le_refl n))
    have h2 := bit_ren (p := p) (ws := s) (img_lt h x n (Nat.le_refl n))
    rw [show imgk (pn p) x n = img n (pn p) x from rfl, unp_img h hx] at h1 h2
    rw [← h1, ← h2, e]
  lt := h.pi.1
  one := h.pi.2.1
  sur := h.pi.2.2
  cof := fun t v b hf hv => (frm_cof hn).ext (frm_lay hn _) fun x hx => by
    rw [bit_cof (show Frm n (ren n p t) from frm_lay hn _) (h.pi.1 v hv) hx, bit_ren (setb_lt hx (h.pi.1 v hv)), bit_ren hx, bit_cof hf hv unp_lt, unp_set h hv]
theorem ren_eq {p ws t : List Nat} (hn : n ≤ 16) (h : Pm n p) (ht : Frm n t) (hb : ∀ j, j < 2 ^ n → bit t (img n (pn p) j) = bit ws j) : t = ren n p ws :=
  ht.ext (frm_lay hn _) fun x hx => by
    show _ = bit (ren n p ws) x
    rw [bit_ren hx, ← hb _ unp_lt, img_unp h hx]
end Tab
/-
  A table renamed, bit by bit.
-/
set_option linter.unusedSimpArgs false
set_option linter.unusedVariables false
namespace Tab
variable {n : Nat}
/-- so far: the values of the first k places are laid -/
structure RenT (n : Nat) (p ws : List Nat) (k : Nat) (t : List Nat) : Prop where
  frm : Frm n t
  bits : ∀ x, x < 2 ^ n → bit t x = (decide (unp n p x < k) && bit ws (unp n p x))
theorem RenT.start (hn : n ≤ 16) (p ws : List Nat) : RenT n p ws 0 (lay n fun _ => 0) :=
  ⟨frm_lay hn _, fun x hx => by rw [bit_lay hx]; simp⟩
theorem RenT.done {p ws t : List Nat} (hp : Pm n p) (h : RenT n p ws (2 ^ n) t) : t = ren n p ws :=
  ren_eq h.frm.n16 hp h.frm fun j hj => by
    rw [h.bits (img n (pn p) j) (img_lt hp j n (Nat.le_refl n)), unp_img hp hj]; simp [hj]
theorem bit_set {t : List Nat} {i w x : Nat} (hi : i < t.length) : bit (t.set i w) x = if x / 64 = i then w.testBit (x % 64) else bit t x := by
  unfold bit
  rw [List.getD_eq_getElem?_getD, List.getD_eq_getElem?_getD]
  by_cases e : x / 64 = i
  · rw [if_pos e, e, List.getElem?_set_self hi]; rfl
  · rw [if_neg e, List.getElem?_set_ne (Ne.symm e)]
theorem RenT.step {p ws t : List Nat} {k : Nat} (hp : Pm n p) (h : RenT n p ws k t) (hk : k < 2 ^ n) :
    RenT n p ws (k + 1) (t.set (img n (pn p) k / 64) (t.getD (img n (pn p) k / 64) 0 ||| ((ws.getD (k / 64) 0 >>> (k % 64) &&& 1) <<< (img n (pn p) k % 64)))) := by
  have hi : img n (pn p) k < 2 ^ n := img_lt hp k n (Nat.le_refl n)
  have hui := unp_img hp hk
  generalize img n (pn p) k = i at *
  have hlen : i / 64 < t.length := by rw [h.frm.len]; exact lt_words hi
  have hbit : ∀ y, ((ws.getD (k / 64) 0 >>> (k % 64) &&& 1) <<< (i % 64)).testBit y = (decide (y = i % 64) && bit ws k) := fun y => by
    rw [and_one_eq, Nat.testBit_shiftRight, Nat.add_zero]
    unfold bit
    cases (ws.getD (k / 64) 0).testBit (k % 64)
    · simp
    · rw [if_pos rfl, Nat.one_shiftLeft, Nat.testBit_two_pow, Bool.and_true, decide_eq_decide]; exact eq_comm
  have hfull : i % 64 < (if 6 ≤ n then 64 else 2 ^ n) := by
    split
    · exact Nat.mod_lt _ (by decide)
    · have h1 : 2 ^ n ≤ 32 := Nat.pow_le_pow_right (n := 2) (by decide) (by omega : n ≤ 5)
      omega
  refine ⟨⟨h.frm.n16, by rw [List.length_set]; exact h.frm.len, fun w hw => ?_⟩, fun x hx => ?_⟩
  · rcases List.mem_or_eq_of_mem_set hw with hw | rfl
    · exact h.frm.full w hw
    · have h0 : t.getD (i / 64) 0 ≤ fullN n := by
        rw [List.getD_eq_getElem?_getD, List.getElem?_eq_getElem hlen]; exact h.frm.full _ (List.getElem_mem _)
      have h2 : ((ws.getD (k / 64) 0 >>> (k % 64) &&& 1) <<< (i % 64)) &&& fullN n = ((ws.getD (k / 64) 0 >>> (k % 64) &&& 1) <<< (i % 64)) := by
        apply Nat.eq_of_testBit_eq; intro y
        rw [Nat.testBit_and, hbit, testBit_full]
        by_cases e : y = i % 64
        · subst e; simp [hfull]
        · simp [e]
      have h3 : (t.getD (i / 64) 0 ||| ((ws.getD (k / 64) 0 >>> (k % 64) &&& 1) <<< (i % 64))) &&& fullN n = (t.getD (i / 64) 0 ||| ((ws.getD (k / 64) 0 >>> (k % 64) &&& 1) <<< (i % 64))) := by
        rw [Nat.and_or_distrib_right, and_full h0, h2]
      rw [← h3]; exact Nat.and_le_right
  · rw [bit_set hlen, Nat.testBit_or, hbit]
    have hxi : x = i ↔ unp n p x = k := ⟨fun e => by rw [e, hui], fun e => by rw [← img_unp hp hx, e, ← hui, img_unp hp hi]⟩
    have hb := h.bits x hx
    by_cases e : x / 64 = i / 64
    · rw [if_pos e]
      have : (t.getD (i / 64) 0).testBit (x % 64) = bit t x := by unfold bit; rw [e]
      rw [this, hb]
      by_cases e2 : x = i
      · have e3 := hxi.1 e2
        rw [e3, e2]; simp
      · have e3 : ¬ unp n p x = k := fun h => e2 (hxi.2 h)
        have e4 : ¬ x % 64 = i % 64 := fun h => e2 (by omega)
        have e5 : decide (unp n p x < k + 1) = decide (unp n p x < k) := by rw [decide_eq_decide]; omega
        rw [e5]; simp [e4]
    · rw [if_neg e, hb]
      have e2 : ¬ x = i := fun h => e (by rw [h])
      have e3 : ¬ unp n p x = k := fun h => e2 (hxi.2 h)
      have e5 : decide (unp n p x < k + 1) = decide (unp n p x < k) := by rw [decide_eq_decide]; omega
      rw [e5]
theorem imgk_succ (π : Nat → Nat) (a k : Nat) : imgk π a (k + 1) = imgk π a k ||| ((a >>> k &&& 1) <<< π k) := by
  unfold imgk
  rw [has_succ, List.map_append, setl_append, and_one_eq, Nat.testBit_shiftRight, Nat.add_zero]
  cases a.testBit k
  · simp [setl]
  · rw [if_pos rfl, if_pos rfl, Nat.one_shiftLeft]; rfl
theorem imgk_zero (π : Nat → Nat) (a : Nat) : imgk π a 0 = 0 := rfl
end Tab
/-
  Slices of cells: a slice of one cell written out; reading and writing one place of an owned slice of cells.
-/
set_option linter.unusedSimpArgs false
set_option linter.unusedVariables false
namespace Go.Sx
open Go
section
variable {P : Program} {g : Gh} {H : Hp}
theorem BuildSl.cell {t e : TypeId} {z x : Value} {K : Value → Hp → Prop} (h1 : P.underlying t = some (.slice e)) (h2 : sizeD P e = some 1) (h3 : zeroD P e = some z) (hx : x.oneCell' = true)
    (h : ∀ b, K (.slice (some ⟨b, 0, Option.none⟩) 1 1) ((b, .cells #[x] e (0, 0)) :: H)) : BuildSl P t 1 [(0, x)] H K := by
  refine ⟨#[x], e, 1, z, h1, h2, h3, by omega, ?_, fun b _ => h b⟩
  have hxc : x.cells = #[x] := by cases x <;> first | rfl | (simp [Value.oneCell'] at hx)
  have : ((Array.range (1 * 1)).map (z.cells[· % z.cells.size]!)) = [z.cells[0 % z.cells.size]!].toArray := by
    rw [show Array.range (1 * 1) = #[0] by decide]; simp
  rw [this]
  refine fillL_fill _ _ _ ?_
  simp only [fillL, hxc]
  rfl
theorem SOwn.cell1 {T : TypeId} {v x : Value} {rs : List (List Value)} {C : Hp} (hs : SOwn T 1 v rs C) {i : Nat} (hi : i < rs.length) (hr : rs[i]? = some [x]) (hC : ∀ y ∈ C, y ∈ H) {K : Value → Prop} (hk : K x) :
    IAddr 1 v (.int .i64 (i : Int)) fun p => Ld H p K := by
  obtain ⟨b', junk, rfl, rfl, hall⟩ := hs.pos (by omega)
  refine IAddr.nat hi ?_
  exact Ld.row1 (l := rs ++ junk) (hC _ (List.Mem.head _)) hall (by rw [List.getElem?_append_left hi]; exact hr) hk
theorem SOwn.put1 {T : TypeId} {v x y : Value} {rs : List (List Value)} {C A B : Hp} (hs : SOwn T 1 v rs C) {i : Nat} (hi : i < rs.length) (hr : rs[i]? = some [y]) (h1 : x.oneCell' = true) {K : Hp → Prop}
    (hk : ∀ C', SOwn T 1 v (rs.set i [x]) C' → K (A ++ (C' ++ B))) : IAddr 1 v (.int .i64 (i : Int)) fun p => St 1 (A ++ (C ++ B)) p x K := by
  obtain ⟨b', junk, rfl, rfl, hall⟩ := hs.pos (by omega)
  refine IAddr.nat hi ?_
  refine St.cell (l := rs ++ junk) (i := i) (k := 1) (j := 0) (r := [y]) (((Upd.head _).append B).prepend A) hall (by rw [List.getElem?_append_left hi]; exact hr) (by omega) h1 ?_
  have e : (rs ++ junk).set i ([y].set 0 x) = rs.set i [x] ++ junk := by rw [List.set_append_left _ _ hi]; rfl
  rw [e]
  refine hk [(b', _)] (SOwn.mk' (junk := junk) (fun r hr' => ?_) (by simp) (by simp))
  rcases List.mem_append.1 hr' with hr' | hr'
  · rcases List.mem_or_eq_of_mem_set hr' with hr' | rfl
    · exact hall r (by simp [hr'])
    · rfl
  · exact hall r (by simp [hr'])
end
end Go.Sx
