/-
  'thicketlaw03.HeapTwo' returns true for every input, and the input reads as it did. No condition.
  Two heaps, played side by side, answer as two plain lists do.
-/
import Derived.Test.YtbockhcoeefobaaRows
import Derived.WalkKit
import Derived.ProofKit
import Derived.OpenShut
import Derived.SizedLaws
import Derived.Test.YtbockhcoeefobaaSxR
import Derived.Test.YtbockhcoeefobaaT16
namespace Go.Proofs.Ytbockhcoeefobaa.heapTwo
open Go.ChangeShapes Go.WideShapes Go.ChangeAt Go.RowKit
set_option linter.unusedVariables false
theorem laid : laidOutB Try.prog = true := by kernel_rfl
theorem own : ownKnob Try.prog.godebug = none := by kernel_rfl
set_option maxRecDepth 100000 in
theorem lifted (os : Os) (started : os.Started) (H : Type) (enc : TypeId × Value → H) :
    ReturnsInHanded {} Try.checked os 6 .any (Rows.heapTwoSpec.pre6 enc Try.prog Try.f6 Rows.heapTwoRow.domain false) (Rows.heapTwoSpec.post enc Try.prog Try.f6 false true false false) := by
  refine returnsInHanded_of_change_sized (C := Try.checked) own started (by kernel_rfl) Try.func6
    (ChangeSpec.witness6 (enc := enc) (C := Try.checked) false ⟨#[], #[.slice none 0 0, .slice none 0 0], []⟩ 8 (by kernel_rfl) (by kernel_rfl) (by kernel_rfl) (by kernel_rfl)) ?_
  intro W base args ds gs before hval0 hW hcnd hsz0 _
  have hval : ∀ (j : Nat) t v, Try.f6.params[j]? = some t → args[j]? = some v → Value.okWide Try.prog W .any base t v := hval0
  have hsz : (DataW.weightsEach Try.prog (Try.f6.params.toList ++ Rows.heapTwoSpec.plain.varTypes Try.prog) (ds ++ gs)).all (· ≤ reachBytes) = true := hsz0
  have hW' := hW
  obtain ⟨p, q, hA0, hV, rfl, hfz, hnd⟩ := hW
  have hA : DataW.TrodAll enc Try.prog W 0 (fun _ => true) true Try.f6.params.toList args.toList ds p := hA0
  rw [Try.params6] at hA hval hsz
  obtain ⟨v0, vs0, d0, ds0, p0, q0, hargs, rfl, rfl, h0, r0⟩ := trodAll_cons hA
  obtain ⟨v1, vs1, d1, ds1, p1, q1, rfl, rfl, rfl, h1, r1⟩ := trodAll_cons r0
  obtain ⟨rfl, rfl, rfl⟩ := trodAll_nil r1
  obtain rfl : args = #[v0, v1] := by cases args; simp_all
  obtain ⟨rfl, rfl⟩ := trodVars_none hV
  obtain ⟨ops, hv, hok, hb⟩ := Go.Proofs.ops_of (hval 0 35 v0 rfl rfl) h0
  have hmax := Go.Proofs.ops_bound hsz (j := 0) rfl rfl hb
  obtain ⟨ops2, hv2, hok2, hb2⟩ := Go.Proofs.ops_of (hval 1 35 v1 rfl rfl) h1
  have hmax2 := Go.Proofs.ops_bound hsz (j := 1) rfl rfl hb2
  clear hA0 hval0
  simp only [List.append_nil] at hW'
  refine (Go.Sx.law_below (Go.Proofs.law6 hv hv2 hok hok2 hmax hmax2)).mono fun e W' ⟨he, hg⟩ => ?_
  subst he
  exact ⟨_, rfl, Go.Sx.law_post rfl hW' rfl hg laid (by decide +kernel) rfl Try.underlying4⟩
theorem over : Rows.heapTwoRow.holds Try.pinned (OpenSpec.ofChange Rows.heapTwoSpec) :=
  OpenClaim.holds_of_wide 6 Try.f6 rfl rfl rfl rfl rfl rfl rfl ⟨rfl, rfl, rfl, rfl, rfl⟩ rfl rfl rfl rfl rfl (by kernel_rfl) Try.func6 (by kernel_rfl)
    (of_decide_eq_true (by kernel_rfl)) (by unfold Func.isWrapper; first | (rw [if_pos (by decide +kernel)]; kernel_rfl) | (rw [if_neg (by decide +kernel)]; exact ⟨rfl, rfl⟩))
    (fun os started H enc _ => lifted os started H enc)
theorem proved : Rows.HeapTwoSaid :=
  over
#print axioms proved
end Go.Proofs.Ytbockhcoeefobaa.heapTwo
