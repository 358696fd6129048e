import Derived.Test.YtbockhcoeefobaaT11
import Derived.Test.YtbockhcoeefobaaRfS
set_option linter.unusedVariables false
set_option linter.unusedSimpArgs false
set_option maxRecDepth 100000
namespace Go.Proofs
open Go Go.Sx HpA
structure Opr where
  kind : Int
  x : Int
  neg : Bool
  key : Int
def Opr.enc (o : Opr) : List Value := [.int .i64 o.kind, .int .u64 o.x, .bool o.neg, .int .i64 o.key]
def Opr.ok (o : Opr) : Prop := 0 ≤ o.x ∧ o.x ≤ 18446744073709551615
theorem thingG {g : World} (a : It) (hr : -9223372036854775808 ≤ a.1 ∧ a.1 ≤ 9223372036854775807) (H : Hp) : CalmQ Try.prog g 33 #[.int .i64 a.1, .int .i64 a.2] H (.agg (encG (th a)).toArray) := by
  refine L33_sound ?_
  unfold L33
  intro b1 _
  refine Bin.lss ?_
  refine Br.mk (fun h => ?_) (fun h => ?_)
  · have h' : a.1 < 0 := by simpa using h
    have e : th a = (a.1 + 9223372036854775808, true, a.2) := by unfold th; rw [if_pos h']
    rw [e]
    refine ConvI.of (m := a.1 + 18446744073709551616) (by simp [IntKind.wrap, IntKind.bits, IntKind.signed]; omega) ?_
    refine Bin.sub ?_
    rw [show a.1 + 18446744073709551616 - 9223372036854775808 = a.1 + 9223372036854775808 by omega, IntWalk.u64_in _ (by omega)]
    refine Build.mk (cs := encG (a.1 + 9223372036854775808, true, a.2)) (by kernel_rfl) ?_
    refine St.whole (r := encG (a.1 + 9223372036854775808, true, a.2)) (by exact Upd.head _) rfl rfl (by simp [encG, Value.oneCell']) ?_
    refine LdA.whole (r := encG (a.1 + 9223372036854775808, true, a.2)) (by exact List.Mem.head _) rfl ?_
    exact ⟨rfl, .tail⟩
  · have h' : ¬ a.1 < 0 := by simpa using h
    have e : th a = (a.1, false, a.2) := by unfold th; rw [if_neg h']
    rw [e]
    refine ConvI.of (m := a.1) (IntWalk.u64_in _ (by omega)) ?_
    refine Build.mk (cs := encG (a.1, false, a.2)) (by kernel_rfl) ?_
    refine St.whole (r := encG (a.1, false, a.2)) (by exact Upd.head _) rfl rfl (by simp [encG, Value.oneCell']) ?_
    refine LdA.whole (r := encG (a.1, false, a.2)) (by exact List.Mem.head _) rfl ?_
    exact ⟨rfl, .tail⟩
def num (o : Opr) : Int := cond o.neg (-1 - o.x.fdiv 2) (o.x.fdiv 2)
theorem num_range {o : Opr} (h : o.ok) : -9223372036854775808 ≤ num o ∧ num o ≤ 9223372036854775807 := by
  unfold Opr.ok at h
  have : o.x.fdiv 2 = o.x / 2 := Int.fdiv_eq_ediv_of_nonneg _ (by omega)
  unfold num; rw [this]
  cases o.neg <;> simp only [cond_true, cond_false] <;> omega
theorem numberG {g : World} {o : Opr} (h : o.ok) (H : Hp) : CalmQ Try.prog g 31 #[.agg o.enc.toArray] H (.int .i64 (num o)) := by
  have hr := num_range h
  have hx : o.x.fdiv 2 = o.x / 2 := Int.fdiv_eq_ediv_of_nonneg _ (by omega)
  have h2 := h
  unfold Opr.ok at h2
  refine L31_sound ?_
  unfold L31
  intro b1 _
  refine FAddr.mk (Ld.mk (by exact List.Mem.head _) rfl ?_)
  refine Bin.num (v := .int .u64 (o.x.fdiv 2)) rfl ?_
  refine ConvI.of (m := o.x.fdiv 2) (IntWalk.i64_in _ (by omega)) ?_
  refine FAddr.mk (Ld.mk (v := .bool o.neg) (by exact List.Mem.head _) rfl ?_)
  unfold num at hr ⊢
  refine Br.mk (fun hb => ?_) (fun hb => ?_)
  · rw [hb] at hr ⊢
    refine Bin.sub64 (c := -1 - o.x.fdiv 2) rfl (by simpa using hr) ?_
    exact ⟨rfl, .tail⟩
  · rw [hb] at hr ⊢
    exact ⟨rfl, .tail⟩
theorem atHeap {P : Program} {g : World} {f : FuncId} {args : Array Value} {x : Nat × Obj} {C Cr F : Hp} {Q : Ending → Hp → Prop} (h : ∀ F, SCalls P g f args (C ++ F) (fun e H' => ∃ C', H' = C' ++ F ∧ Q e C')) :
    SCalls P g f args (x :: (C ++ (Cr ++ F))) (fun e H' => ∃ C', H' = x :: (C' ++ (Cr ++ F)) ∧ Q e C') :=
  ((h (x :: (Cr ++ F))).pre (.perm List.perm_middle.symm)).post fun e H' ⟨C', e', q⟩ => ⟨_, .perm (by rw [e']; exact List.perm_middle), C', rfl, q⟩
theorem atRef {P : Program} {g : World} {f : FuncId} {args : Array Value} {x : Nat × Obj} {C Cr F : Hp} {Q : Ending → Hp → Prop} (h : ∀ F, SCalls P g f args (Cr ++ F) (fun e H' => ∃ C', H' = C' ++ F ∧ Q e C')) :
    SCalls P g f args (x :: (C ++ (Cr ++ F))) (fun e H' => ∃ C', H' = x :: (C ++ (C' ++ F)) ∧ Q e C') := by
  have hp : ∀ A : Hp, (x :: (C ++ (A ++ F))).Perm (A ++ (x :: (C ++ F))) := fun A => by
    refine (List.Perm.cons x ?_).trans List.perm_middle.symm
    rw [← List.append_assoc, ← List.append_assoc]; exact List.perm_append_comm.append_right F
  exact ((h (x :: (C ++ F))).pre (.perm (hp Cr))).post fun e H' ⟨C', e', q⟩ => ⟨_, .perm (by rw [e']; exact (hp C').symm), C', rfl, q⟩
end Go.Proofs
