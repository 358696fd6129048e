/-
  Slices of cells: a slice of one cell written out; reading and writing one place of an owned slice of cells.
-/
import Derived.Test.YtbockhcoeefobaaSxN
set_option linter.unusedSimpArgs false
set_option linter.unusedVariables false
namespace Go.Sx
open Go
section
variable {P : Program} {g : World} {H : Hp}
theorem BuildSl.cell {t e : TypeId} {z x : Value} {K : Value → Hp → Prop} (h1 : P.underlying t = some (.slice e)) (h2 : sizeD P e = some 1) (h3 : zeroD P e = some z) (hx : x.oneCell' = true)
    (h : ∀ b, K (.slice (some ⟨b, 0, none⟩) 1 1) ((b, .cells #[x] e (0, 0)) :: H)) : BuildSl P t 1 [(0, x)] H K := by
  refine ⟨#[x], e, 1, z, h1, h2, h3, by omega, by omega, ?_, fun b _ => h b⟩
  have hxc : x.cells = #[x] := by cases x <;> first | rfl | (simp [Value.oneCell'] at hx)
  have : ((Array.range (1 * 1)).map (z.cells[· % z.cells.size]!)) = [z.cells[0 % z.cells.size]!].toArray := by
    rw [show Array.range (1 * 1) = #[0] by decide]; simp
  rw [this]
  refine fillL_fill _ _ _ ?_
  simp only [fillL, hxc]
  rfl
theorem SOwn.cell1 {T : TypeId} {v x : Value} {rs : List (List Value)} {C : Hp} (hs : SOwn T 1 v rs C) {i : Nat} (hi : i < rs.length) (hr : rs[i]? = some [x]) (hC : ∀ y ∈ C, y ∈ H) {K : Value → Prop} (hk : K x) :
    IAddr 1 v (.int .i64 (i : Int)) fun p => Ld H p K := by
  obtain ⟨b', junk, rfl, rfl, hall⟩ := hs.pos (by omega)
  refine IAddr.nat hi ?_
  exact Ld.row1 (l := rs ++ junk) (hC _ (List.Mem.head _)) hall (by rw [List.getElem?_append_left hi]; exact hr) hk
theorem SOwn.put1 {T : TypeId} {v x y : Value} {rs : List (List Value)} {C A B : Hp} (hs : SOwn T 1 v rs C) {i : Nat} (hi : i < rs.length) (hr : rs[i]? = some [y]) (h1 : x.oneCell' = true) {K : Hp → Prop}
    (hk : ∀ C', SOwn T 1 v (rs.set i [x]) C' → K (A ++ (C' ++ B))) : IAddr 1 v (.int .i64 (i : Int)) fun p => St 1 (A ++ (C ++ B)) p x K := by
  obtain ⟨b', junk, rfl, rfl, hall⟩ := hs.pos (by omega)
  refine IAddr.nat hi ?_
  refine St.cell (l := rs ++ junk) (i := i) (k := 1) (j := 0) (r := [y]) (((Upd.head _).append B).prepend A) hall (by rw [List.getElem?_append_left hi]; exact hr) (by omega) h1 ?_
  have e : (rs ++ junk).set i ([y].set 0 x) = rs.set i [x] ++ junk := by rw [List.set_append_left _ _ hi]; rfl
  rw [e]
  refine hk [(b', _)] (SOwn.mk' (junk := junk) (fun r hr' => ?_) (by simp) (by simp))
  rcases List.mem_append.1 hr' with hr' | hr'
  · rcases List.mem_or_eq_of_mem_set hr' with hr' | rfl
    · exact hall r (by simp [hr'])
    · rfl
  · exact hall r (by simp [hr'])
end
end Go.Sx
