/-
  Arguments that are slices, opened to blocks of cells.
-/
import Derived.Test.YtbockhcoeefobaaSxR
import Derived.Deep.Slices
import Derived.SizedLaws
set_option linter.unusedSimpArgs false
set_option linter.unusedVariables false
namespace Go.Sx
open Go Go.ChangeShapes Go.WideShapes Go.Deep
section
variable {H : Type} {enc : TypeId × Value → H} {P : Program} {W : World} {base : Nat} {spare : Nat → Bool} {held : Bool}
theorem add_block (a : Addr) (n : Nat) : (a.add n).block = a.block := by unfold Addr.add; split <;> rfl
theorem add_off (a : Addr) (n : Nat) : (a.add n).off = a.off + n := by unfold Addr.add; split <;> simp_all
theorem cells_block {b : Nat} {a : Addr} {k : Nat} {cs : List Value} (hk : 0 < k) (h : W.cells? b a k = some cs) :
    a.spot = none ∧ ∃ c T fz, W.heap[a.block]? = some (.cells c T fz) ∧ a.off + k ≤ c.size ∧ c.extract a.off (a.off + k) = cs.toArray := by
  obtain ⟨_, hl, hg⟩ := World.cells?_some h
  have h0 := hg 0 hk
  have hc0 : W.cell? a = some (cs[0]'(by omega)) := by
    have : a.add 0 = a := by simp [Addr.add]
    rw [this] at h0; rw [h0]; exact List.getElem?_eq_getElem (by omega)
  unfold World.cell? at hc0
  split at hc0
  · rename_i c T fz hb
    cases hs : a.spot with
    | some s => rw [hs] at hc0; simp at hc0
    | none =>
      have hcell : ∀ i, i < k → c[a.off + i]? = cs[i]? := fun i hi => by
        have := hg i hi
        unfold World.cell? at this
        rw [add_block, hb] at this
        simp only [add_off] at this
        have hsp : (a.add i).spot.isSome = false := by unfold Addr.add; split <;> simp [hs]
        rw [hsp] at this
        simpa using this
      have hsz : a.off + k ≤ c.size := by
        have := hcell (k - 1) (by omega)
        rw [List.getElem?_eq_getElem (by omega)] at this
        have := (Array.getElem?_eq_some_iff.1 this).1
        omega
      refine ⟨rfl, c, T, fz, hb, hsz, ?_⟩
      apply Array.ext_getElem?
      intro i
      rw [Array.getElem?_extract]
      by_cases hi : i < k
      · rw [if_pos (by omega), hcell i hi]; simp
      · rw [if_neg (by omega)]; simp; omega
  · simp at hc0
/-- an argument of a slice type: each element's cells, and how they read -/
theorem open_rows {t e : TypeId} {v : Value} {d : DataW H} {ps : List MemPlace} {r : Reach} {b0 k : Nat} (ht : P.underlying t = some (.slice e)) (hk : P.cellsOf e = k) (hk0 : 0 < k) (hv : Value.okWide P W r b0 t v) (h : DataW.Trod enc P W base spare held t v d ps) :
    (v = .slice none 0 0 ∧ d = .nil) ∨ ∃ (a : Addr) (n cap : Nat) (es sp : List (DataW H)), v = .slice (some a) n cap ∧ d = .slice es sp ∧ es.length = n ∧ n ≤ cap ∧
      ∀ i, i < n → ∃ c T fz cs, a.spot = none ∧ (a.block, Obj.cells c T fz) ∈ whole W ∧ a.off + i * k + k ≤ c.size ∧ c.extract (a.off + i * k) (a.off + i * k + k) = cs.toArray ∧ ∃ fuel y, DataW.trod enc P W base spare held fuel e cs = some y ∧ cs.length = k := by
  obtain ⟨a0, n0, c0, rfl⟩ := okWide_slice ht hv
  obtain ⟨fuel, hf⟩ := h
  rcases open_slice ht hf with ⟨h1, h2⟩ | ⟨a, len, cap, m, n, D, Pl, hcs, hb, hl, hm, hmm, hx, hi⟩
  · left
    simp only [Value.cells, List.cons.injEq, and_true] at h1
    simp only [Prod.mk.injEq] at h2
    exact ⟨by simpa using h1, h2.1⟩
  · right
    simp only [Prod.mk.injEq] at hx
    have hv' : Value.slice a0 n0 c0 = .slice (some a) len cap := by simpa [Value.cells] using hcs
    have hlm : len ≤ m := by rw [hmm]; split <;> omega
    refine ⟨a, len, cap, _, _, hv', hx.1, by simp, hl, fun i hin => ?_⟩
    have hkk := hk
    have hspot : a.spot = none := by
      obtain ⟨cs0, hc0, _⟩ := hi 0 (by omega)
      rw [hk] at hc0
      rw [show a.add (0 * k) = a by simp [Addr.add]] at hc0
      exact (cells_block hk0 hc0).1
    obtain ⟨cs, hc, hd⟩ := hi i (by omega)
    rw [hk] at hc
    obtain ⟨_, hlen, _⟩ := World.cells?_some hc
    obtain ⟨_, c, T, fz, h1, h2, h3⟩ := cells_block hk0 hc
    rw [add_block] at h1
    rw [add_off] at h2 h3
    exact ⟨c, T, fz, cs, hspot, mem_whole h1, h2, h3, n, _, hd, hlen⟩
end
end Go.Sx
