import Derived.Test.YtbockhcoeefobaaT10
import Derived.Test.YtbockhcoeefobaaSxS
set_option linter.unusedVariables false
set_option linter.unusedSimpArgs false
set_option maxRecDepth 100000
namespace Go.Proofs
open Go Go.Sx HpA
theorem opNeq : (opAt Try.f16 9 23).op = .binOp .neq 52 (.tmp 69) (.tmp 70) 52 := by kernel_rfl
theorem fieldsG : (Try.prog.fieldsOf 52).toList.map (fun f => (f.name, f.type, f.offset)) = [("X", 26, 0), ("Neg", 4, 1), ("Key", 2, 2)] := by kernel_rfl
theorem neqG {g : World} {H : Hp} {ρ : Operand → Value} {k : Value → Prop} (a b : Tg) (hx : ρ (.tmp 69) = .agg (encG a).toArray) (hy : ρ (.tmp 70) = .agg (encG b).toArray) (hk : k (.bool (!(a.1 == b.1 && (a.2.1 == b.2.1 && a.2.2 == b.2.2))))) :
    RunP Try.prog g (opAt Try.f16 9 23) ρ H k := by
  refine RunP.struct (neq := true) opNeq hx hy (by kernel_rfl) (by kernel_rfl) (by kernel_rfl) (b := a.1 == b.1 && (a.2.1 == b.2.1 && a.2.2 == b.2.2)) ?_ hk
  intro w
  have h := fieldsG
  generalize (Try.prog.fieldsOf 52).toList = fs at h
  rcases fs with _ | ⟨f1, _ | ⟨f2, _ | ⟨f3, _ | ⟨f4, fs⟩⟩⟩⟩ <;> simp only [List.map_cons, List.map_nil, List.cons.injEq, Prod.mk.injEq, and_true, reduceCtorEq, and_false] at h
  obtain ⟨⟨n1, t1, o1⟩, ⟨n2, t2, o2⟩, n3, t3, o3⟩ := h
  have p1 : ∀ (c : Tg) w, (part 26 (encG c).toArray 0).run Try.prog w = .ok (.int .u64 c.1) w := fun c w => run_part_plain (w := w) (by kernel_rfl) rfl
  have p2 : ∀ (c : Tg) w, (part 4 (encG c).toArray 1).run Try.prog w = .ok (.bool c.2.1) w := fun c w => run_part_plain (w := w) (by kernel_rfl) rfl
  have p3 : ∀ (c : Tg) w, (part 2 (encG c).toArray 2).run Try.prog w = .ok (.int .i64 c.2.2) w := fun c w => run_part_plain (w := w) (by kernel_rfl) rfl
  have q1 : ∀ x y w, (Op.equalIn 9999 26 (.int .u64 x) (.int .u64 y)).run Try.prog w = .ok (x == y) w := fun x y w => run_equalIn_int w 9998 26 .u64 _ x y Try.underlying26
  have q2 : ∀ x y w, (Op.equalIn 9999 4 (.bool x) (.bool y)).run Try.prog w = .ok (x == y) w := fun x y w => run_equalIn_bool' w 9998 4 x y Try.underlying4
  have q3 : ∀ x y w, (Op.equalIn 9999 2 (.int .i64 x) (.int .i64 y)).run Try.prog w = .ok (x == y) w := fun x y w => run_equalIn_int w 9998 2 .i64 _ x y Try.underlying2
  simp only [Op.eqFields, n1, n2, n3, t1, t2, t3, o1, o2, o3, Sem.run_bind, p1, p2, p3, q1, q2, q3, Result.andThen_ok, Sem.run_ite, Sem.run_pure]
  cases h1 : (a.1 == b.1) <;> cases h2 : (a.2.1 == b.2.1) <;> cases h3 : (a.2.2 == b.2.2) <;> simp
end Go.Proofs
