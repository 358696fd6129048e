import Derived.Test.YtbockhcoeefobaaT15
import Derived.Test.YtbockhcoeefobaaSxT
set_option linter.unusedVariables false
set_option linter.unusedSimpArgs false
set_option maxRecDepth 100000
namespace Go.Proofs
open Go Go.Sx HpA
theorem exists_list {α : Type} (p : Nat → α → Prop) : ∀ n, (∀ i, i < n → ∃ a, p i a) → ∃ l : List α, l.length = n ∧ ∀ i, (h : i < l.length) → p i l[i]
  | 0, _ => ⟨[], rfl, fun i h => by simp at h⟩
  | n + 1, h => by
    obtain ⟨l, hl, hp⟩ := exists_list p n fun i hi => h i (by omega)
    obtain ⟨a, ha⟩ := h n (by omega)
    refine ⟨l ++ [a], by simp [hl], fun i hi => ?_⟩
    by_cases e : i < l.length
    · rw [List.getElem_append_left e]; exact hp i e
    · simp only [List.length_append, List.length_cons, List.length_nil] at hi
      have e' : i = l.length := by omega
      subst e'
      simp [hl]; exact ha
section
variable {H : Type} {enc : TypeId × Value → H} {W : World} {base : Nat} {spare : Nat → Bool} {held : Bool}
theorem opr_of {fuel : Nat} {cs : List Value} {y : DataW H × List MemPlace} (hl : cs.length = 4) (h : DataW.trod enc Try.prog W base spare held fuel 48 cs = some y) : ∃ o : Opr, cs = o.enc ∧ o.ok := by
  obtain ⟨xs, n, _, _, _, hx, hf⟩ := DataW.trod_struct Try.underlying48 h
  match cs, hl with
  | [c0, c1, c2, c3], _ =>
    have hx4 : xs.length = 4 := hx
    have k3 : Try.prog.cellsOf 3 = 1 := by kernel_rfl
    have k26 : Try.prog.cellsOf 26 = 1 := by kernel_rfl
    have k4 : Try.prog.cellsOf 4 = 1 := by kernel_rfl
    have k2 : Try.prog.cellsOf 2 = 1 := by kernel_rfl
    have g0 : DataW.trod enc Try.prog W base spare held n 3 (List.take (Try.prog.cellsOf 3) [c0, c1, c2, c3]) = xs[0]? := hf 0 _ rfl
    have g1 : DataW.trod enc Try.prog W base spare held n 26 (List.take (Try.prog.cellsOf 26) [c1, c2, c3]) = xs[1]? := hf 1 _ rfl
    have g2 : DataW.trod enc Try.prog W base spare held n 4 (List.take (Try.prog.cellsOf 4) [c2, c3]) = xs[2]? := hf 2 _ rfl
    have g3 : DataW.trod enc Try.prog W base spare held n 2 (List.take (Try.prog.cellsOf 2) [c3]) = xs[3]? := hf 3 _ rfl
    rw [k3, List.getElem?_eq_getElem (by omega)] at g0
    rw [k26, List.getElem?_eq_getElem (by omega)] at g1
    rw [k4, List.getElem?_eq_getElem (by omega)] at g2
    rw [k2, List.getElem?_eq_getElem (by omega)] at g3
    simp only [List.take_succ_cons, List.take_zero] at g0 g1 g2 g3
    obtain ⟨n0, e0, _, _⟩ := DataW.trod_int Try.underlying3 g0
    obtain ⟨n1, e1, _, w1⟩ := DataW.trod_int Try.underlying26 g1
    obtain ⟨n2, e2, _⟩ := DataW.trod_bool Try.underlying4 g2
    obtain ⟨n3, e3, _, _⟩ := DataW.trod_int Try.underlying2 g3
    simp only [List.cons.injEq, and_true] at e0 e1 e2 e3
    refine ⟨⟨n0, n1, n2, n3⟩, by rw [e0, e1, e2, e3]; rfl, ?_⟩
    exact bounds_u64 w1
theorem ops_of {v : Value} {d : DataW H} {ps : List MemPlace} {r : Reach} {b0 : Nat} (hv : Value.okWide Try.prog W r b0 35 v) (h : DataW.Trod enc Try.prog W base spare held 35 v d ps) :
    ∃ os, OpsIn (whole W) v os ∧ (∀ o ∈ os, o.ok) ∧ (os = [] ∨ ∃ es sp, d = .slice es sp ∧ os.length = es.length) := by
  rcases open_rows (k := 4) Try.underlying35 (by kernel_rfl) (by decide) hv h with ⟨rfl, rfl⟩ | ⟨a, n, cap, es, sp, rfl, rfl, hes, hcap, hrow⟩
  · exact ⟨[], ⟨none, 0, rfl, fun i hi => by simp at hi⟩, fun o ho => by simp at ho, .inl rfl⟩
  · obtain ⟨os, hl, hos⟩ := exists_list (fun i (o : Opr) => o.ok ∧ ∃ c T fz, a.spot = none ∧ (a.block, Obj.cells c T fz) ∈ whole W ∧ a.off + i * 4 + 4 ≤ c.size ∧ c.extract (a.off + i * 4) (a.off + i * 4 + 4) = o.enc.toArray) n fun i hi => by
      obtain ⟨c, T, fz, cs, h1, h2, h3, h4, fuel, y, h5, h6⟩ := hrow i hi
      obtain ⟨o, rfl, ho⟩ := opr_of h6 h5
      exact ⟨o, ho, c, T, fz, h1, h2, h3, h4⟩
    refine ⟨os, ⟨some a, cap, by rw [hl], fun i hi => ?_⟩, fun o ho => ?_, .inr ⟨es, sp, rfl, by rw [hl, hes]⟩⟩
    · obtain ⟨_, c, T, fz, h1, h2, h3⟩ := hos i hi
      obtain ⟨b, o, s⟩ := a
      simp only at h1
      subst h1
      exact ⟨b, o, c, T, fz, rfl, h2, h3⟩
    · obtain ⟨i, hi, rfl⟩ := List.mem_iff_getElem.1 ho
      exact (hos i hi).1
theorem ops_bound {ts : List TypeId} {ds : List (DataW H)} (h : (DataW.weightsEach Try.prog ts ds).all (· ≤ reachBytes) = true) {j : Nat} {os : List Opr} {d : DataW H} (ht : ts[j]? = some 35) (hd : ds[j]? = some d)
    (hos : os = [] ∨ ∃ es sp, d = .slice es sp ∧ os.length = es.length) : os.length < 4398046511104 := by
  rcases hos with rfl | ⟨es, sp, rfl, he⟩
  · simp
  · have := sized_slice h ht hd Try.underlying35
    rw [show Try.prog.bytesOf 48 = 32 by kernel_rfl] at this
    simp only [reachBytes] at this
    omega
end
end Go.Proofs
