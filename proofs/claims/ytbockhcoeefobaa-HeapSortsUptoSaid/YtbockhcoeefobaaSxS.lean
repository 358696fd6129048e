/-
  Comparing two structs.
-/
import Derived.Test.YtbockhcoeefobaaSxN
import Derived.Laws.StructEq
import Derived.ChangeKeysEq
set_option linter.unusedSimpArgs false
set_option linter.unusedVariables false
namespace Go.Sx
open Go
section
variable {P : Program} {g : World} {H : Hp}
theorem RunP.struct {o : Oper} {ρ : Operand → Value} {k : Value → Prop} {neq : Bool} {t yt : TypeId} {x y : Operand} {xs ys : Array Value} {b : Bool} (ho : o.op = .binOp (cond neq .neq .eql) t x y yt) (hx : ρ x = .agg xs) (hy : ρ y = .agg ys)
    (hg : P.eqGuardType P.depth t = false) (hu : P.underlying t = some (.struct (P.fieldsOf t))) (hp : P.stoodInHeld t = false)
    (he : ∀ w, (Op.eqFields 9999 xs ys (P.fieldsOf t).toList).run P w = .ok b w) (hk : k (.bool (cond neq (!b) b))) : RunP P g o ρ H k := by
  obtain ⟨dst, op, type, pos, after, guard⟩ := o
  simp only at ho
  subst ho
  obtain ⟨v, h1, h2⟩ := Reads.mk (P := P) (g := g) (H := H) (o := ⟨dst, .binOp (cond neq .neq .eql) t x y yt, type, pos, after, guard⟩) (ρ := ρ) (k := k) (s := do eqGuard (cond neq .neq .eql) t x y (ρ x) (ρ y); binOp (cond neq .neq .eql) t (ρ x) (ρ y)) rfl
    ⟨.bool (cond neq (!b) b), hk, fun w _ => by
      rw [hx, hy]
      simp only [Sem.run_bind, run_eqGuard_agg w _ t x y xs ys hg, Result.andThen_ok]
      cases neq
      · simp only [cond_false]; rw [run_eql_struct, show (10000 : Nat) = 9999 + 1 from rfl, run_equalIn_struct w 9999 t xs ys hu hp, he]; rfl
      · simp only [cond_true]; rw [run_neq_struct, show (10000 : Nat) = 9999 + 1 from rfl, run_equalIn_struct w 9999 t xs ys hu hp, he]; rfl⟩
  exact ⟨v, h2, h1⟩
end
end Go.Sx
