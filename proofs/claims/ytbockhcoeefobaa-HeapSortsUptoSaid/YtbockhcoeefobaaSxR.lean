/-
  From a call on pieces of heap to the row's own words: the law returns true, all that was there stands.
-/
import Derived.Test.YtbockhcoeefobaaSxM
import Derived.ProofKit
import Derived.OpenShut
import Derived.Below
set_option linter.unusedSimpArgs false
set_option linter.unusedVariables false
namespace Go.Sx
open Go Go.RowKit
section
variable {P : Program}

/-- all blocks of a world -/
def whole (W : World) : Hp := (List.range W.heap.size).map fun i => (i, W.heap.getD i default)
theorem own_whole (W : World) : Own W (whole W) W := by
  refine ⟨rfl, rfl, rfl, ?_, ?_⟩
  · have : (whole W).map Prod.fst = List.range W.heap.size := by
      unfold whole
      rw [List.map_map]
      have : (Prod.fst ∘ fun i => (i, W.heap.getD i default)) = id := by funext i; rfl
      rw [this, List.map_id]
    rw [this]; exact List.nodup_range
  · intro x hx
    obtain ⟨i, hi, rfl⟩ := List.mem_map.1 hx
    have := List.mem_range.1 hi
    simp [Array.getD_eq_getD_getElem?, this]
theorem mem_whole {W : World} {b : Nat} {o : Obj} (h : W.heap[b]? = some o) : (b, o) ∈ whole W := by
  have hlt := (Array.getElem?_eq_some_iff.1 h).1
  exact List.mem_map.2 ⟨b, List.mem_range.2 hlt, by simp [Array.getD_eq_getD_getElem?, h]⟩
theorem whole_cell {W : World} {b off : Nat} {v : Value} (h : W.cell? ⟨b, off, none⟩ = some v) : ∃ c T fz, (b, Obj.cells c T fz) ∈ whole W ∧ c[off]? = some v := by
  unfold World.cell? at h
  split at h
  · rename_i c T fz hb
    exact ⟨c, T, fz, mem_whole hb, by simpa using h⟩
  · simp at h
theorem Own.below {W W' : World} (h : Own W (whole W) W') : Below W.heap.size W W' := by
  have hb : ∀ k, k < W.heap.size → W'.heap[k]? = W.heap[k]? := fun k hk => by
    have := h.has (k, W.heap.getD k default) (List.mem_map.2 ⟨k, List.mem_range.2 hk, rfl⟩)
    simp only at this
    rw [this]; simp [Array.getD_eq_getD_getElem?, hk]
  refine ⟨h.os, h.tape, h.out, ?_, hb⟩
  rcases Nat.eq_zero_or_pos W.heap.size with h0 | h0
  · omega
  · have := hb (W.heap.size - 1) (by omega)
    rw [show W.heap[W.heap.size - 1]? = some (W.heap[W.heap.size - 1]'(by omega)) from Array.getElem?_eq_getElem (by omega)] at this
    have := (Array.getElem?_eq_some_iff.1 this).1
    omega
/-- the law's call, on all that is there -/
theorem law_below {f : FuncId} {args : Array Value} {W : World} (h : SCalls P W f args (whole W) (fun e H' => e = .returned (.bool true) ∧ Ent H' (whole W))) :
    Calls P f args W fun e W' => e = .returned (.bool true) ∧ Below W.heap.size W W' :=
  (h W (own_whole W)).mono fun e W' ⟨H', ho, he, hent⟩ => ⟨he, (hent _ _ ho).below⟩

section
variable {H : Type} {enc : TypeId × Value → H}
open Go.ChangeShapes Go.WideShapes Go.ChangeAt Go.RowKit
theorem trodAll_stays (hl : laidOutB P = true) {W W' : World} {sp : Nat → Bool} (hb : Below W.heap.size W W') : ∀ (ts : List TypeId) (vs : List Value) (ds : List (DataW H)) (ps : List MemPlace),
    (∀ t ∈ ts, P.readableRec t = true ∧ t < P.types.size) → DataW.TrodAll enc P W 0 (fun _ => true) true ts vs ds ps → (∀ x ∈ ps, x.block < W.heap.size) → (∀ x ∈ ps, sp x.block = true) → DataW.TrodAll enc P W' 0 sp true ts vs ds ps
  | [], vs, ds, ps, _, h, _, _ => by
    obtain ⟨rfl, rfl, rfl⟩ := trodAll_nil h; exact trodAll_mk0
  | t :: ts, vs, ds, ps, hr, h, hlt, hsp => by
    obtain ⟨v, vs', d, ds', p, q, rfl, rfl, rfl, h0, h1⟩ := trodAll_cons h
    have ht := hr t (by simp)
    exact trodAll_cons_mk (WideElems.Trod_stays hl ht.1 ht.2 h0 (fun x hx => hb.same (hlt x (by simp [hx]))) (fun x hx => hsp x (by simp [hx])))
      (trodAll_stays hl hb ts vs' ds' q (fun t' h' => hr t' (by simp [h'])) h1 (fun x hx => hlt x (by simp [hx])) (fun x hx => hsp x (by simp [hx])))
/-- what the row asks behind the call -/
theorem law_post {f : Func} {s : ChangeSpec} {W W' : World} {args : Array Value} {ds gs : List (DataW H)} {before : List MemPlace} {tb : TypeId} (hvars : s.vars = [])
    (hW : DataW.Whole enc P f.params.toList s.vars false W args.toList ds gs before) (hs : s.fn H (ds ++ gs) = { results := [.lit (.bool true)], args := ds }) (hb : Below W.heap.size W W')
    (hl : laidOutB P = true) (hr : ∀ t ∈ f.params.toList, P.readableRec t = true ∧ t < P.types.size) (hrt : f.resultTypes = #[tb]) (hbool : P.underlying tb = some .bool) :
    s.post enc P f false true false false W args (.bool true) W' := by
  have hW' := hW
  have hlt := hW.lt
  obtain ⟨p, q, hA, hV, rfl, hfz, hnd⟩ := hW
  rw [hvars] at hV
  obtain ⟨rfl, rfl⟩ := trodVars_none hV
  refine ⟨ds, _, _, [], p, [], hW', ?_, ?_, ?_, World.keptBut_mono (fun p hp => ⟨hp, ?_⟩) (hb.frame (· ∈ p ++ [])), fun h => by cases h⟩
  · rw [hs, hrt]; exact trodAll_cons_mk (shut_bool hbool _) trodAll_mk0
  · rw [hs]
    exact trodAll_stays hl hb _ _ _ _ hr hA (fun x hx => hlt x (by simp [hx])) (fun x hx => by simpa using hlt x (by simp [hx]))
  · rw [hvars, hs]; rfl
  · right; simpa using hp
end
end
end Go.Sx
