import Derived.Test.YtbockhcoeefobaaT17
set_option linter.unusedVariables false
set_option linter.unusedSimpArgs false
set_option maxRecDepth 100000
namespace Go.Proofs
open Go Go.Sx HpA
section
variable {H : Type} {enc : TypeId × Value → H} {W : World} {base : Nat} {spare : Nat → Bool} {held : Bool}
theorem ints_of {t e : TypeId} {k : IntKind} (ht : Try.prog.underlying t = some (.slice e)) (he : Try.prog.underlying e = some (.int k)) (hc : Try.prog.cellsOf e = 1) {v : Value} {d : DataW H} {ps : List MemPlace} {r : Reach} {b0 : Nat} (hv : Value.okWide Try.prog W r b0 t v)
    (h : DataW.Trod enc Try.prog W base spare held t v d ps) : ∃ zs, IntsIn k (whole W) v zs ∧ (zs = [] ∨ ∃ es sp, d = .slice es sp ∧ zs.length = es.length) := by
  rcases open_rows (k := 1) ht hc (by decide) hv h with ⟨rfl, rfl⟩ | ⟨a, n, cap, es, sp, rfl, rfl, hes, hcap, hrow⟩
  · exact ⟨[], ⟨none, 0, rfl, fun i hi => by simp at hi⟩, .inl rfl⟩
  · obtain ⟨zs, hl, hzs⟩ := exists_list (fun i (z : Int) => ∃ c T fz, a.spot = none ∧ (a.block, Obj.cells c T fz) ∈ whole W ∧ c[a.off + i]? = some (.int k z)) n fun i hi => by
      obtain ⟨c, T, fz, cs, h1, h2, h3, h4, fuel, y, h5, h6⟩ := hrow i hi
      obtain ⟨z, rfl, _⟩ := DataW.trod_int he h5
      refine ⟨z, c, T, fz, h1, h2, ?_⟩
      have := congrArg (fun x => x[0]?) h4
      simp only [Array.getElem?_extract, Nat.mul_one] at this
      rw [if_pos (by omega)] at this
      simpa using this
    refine ⟨zs, ⟨some a, cap, by rw [hl], fun i hi => ?_⟩, .inr ⟨es, sp, rfl, by rw [hl, hes]⟩⟩
    obtain ⟨c, T, fz, h1, h2, h3⟩ := hzs i hi
    obtain ⟨b, o, s⟩ := a
    simp only at h1
    subst h1
    exact ⟨b, o, c, T, fz, rfl, h2, h3⟩
end
end Go.Proofs
