/-
  'thicketlaw20.ReorderFixed' returns true for every input, and the input reads as it did. No condition.
  The document's examples of strategies, of nil kernels and of thirteen variables, as the program answers them.
-/
import Derived.Test.YtfgkdmbicjdeoaaGreatRows
import Derived.WalkKit
import Derived.ProofKit
import Derived.OpenShut
import Derived.SizedLaws
import Derived.Test.YtfgkdmbicjdeoaaGreatF1
import Derived.Test.YtfgkdmbicjdeoaaGreatF6
import Derived.Test.YtfgkdmbicjdeoaaGreatF5
namespace Go.Proofs.YtfgkdmbicjdeoaaGreat.reorderFixed
open Go.ChangeShapes Go.WideShapes Go.ChangeAt Go.RowKit
set_option linter.unusedVariables false
theorem laid:laidOutB Tryz.prog=true:=by kernel_rfl
theorem own:ownKnob Tryz.prog.godebug=none:=by kernel_rfl
set_option maxRecDepth 100000 in
theorem lifted(os:Os)(started:os.Started)(H:Type)(enc:TypeId×Value→H):
    ReturnsInHanded {} Tryz.checked os 9 .any (Rows.reorderFixedSpec.pre6 enc Tryz.prog Tryz.f9 Rows.reorderFixedRow.domain false) (Rows.reorderFixedSpec.post enc Tryz.prog Tryz.f9 false true false false):=by
  refine returnsInHanded_of_change_sized (C:=Tryz.checked) own started (by kernel_rfl) Tryz.func9
    (ChangeSpec.witness6 (enc:=enc) (C:=Tryz.checked) false ⟨#[],#[],[]⟩ 8 (by kernel_rfl) (by kernel_rfl) (by kernel_rfl) (by kernel_rfl)) ?_
  intro W base args ds gs before Sn hW ai0 acv _
  have hval:∀(j:Nat) t v,Tryz.f9.params[j]? =some t→args[j]? =some v→Value.okWide Tryz.prog W .any base t v:=Sn
  have hsz:(DataW.weightsEach Tryz.prog (Tryz.f9.params.toList++Rows.reorderFixedSpec.plain.varTypes Tryz.prog) (ds++gs)).all (· ≤reachBytes)=true:=acv
  have hW':=hW
  obtain⟨p,q,hA0,hV,rfl,hfz,g8⟩:=hW
  have hA:DataW.TrodAll enc Tryz.prog W 0 (fun _=>true) true Tryz.f9.params.toList args.toList ds p:=hA0
  rw[Tryz.params9]at hA hval hsz
  obtain⟨hargs,rfl,rfl⟩:=trodAll_nil hA
  obtain rfl:args=#[]:=by cases args;simp_all
  obtain⟨rfl,rfl⟩:=trodVars_none hV
  clear hA0 Sn
  simp only[List.append_nil]at hW'
  refine(Go.Proofs.Qp (Go.Proofs.HV _)).mono fun e W' ⟨he,hg⟩=>?_
  subst he
  exact⟨_,rfl,Go.Sx.Mr rfl hW' rfl hg laid (by decide+kernel) rfl Tryz.underlying4⟩
theorem aeg{a b:Bool}(h1:a=true)(h2:b=true):(a&&b)=true:=by rw[h1,h2];rfl
set_option maxHeartbeats 4000000 in
theorem facts:joinedFacts Tryz.pinned.checked.prog 9 Tryz.f9 Rows.reorderFixedSpec Rows.reorderFixedRow=true:=by
  unfold joinedFacts
  with_reducible repeat' refine aeg ?_ ?_
  all_goals as_aux_lemma=>kernel_rfl
theorem ji:Rows.reorderFixedRow.holds Tryz.pinned (OpenSpec.ofChange Rows.reorderFixedSpec):=
  OpenClaim.holds_of_wide 9 Tryz.f9 rfl rfl rfl rfl rfl rfl rfl ⟨rfl,rfl,rfl,rfl,rfl⟩ rfl rfl rfl rfl rfl (by kernel_rfl) Tryz.func9 facts
    (of_decide_eq_true (by kernel_rfl)) (by unfold Func.isWrapper;first|(rw[if_pos (by decide+kernel)];kernel_rfl)|(rw[if_neg (by decide+kernel)];exact⟨rfl,rfl⟩))
    (fun os started H enc _=>lifted os started H enc)
theorem proved:Rows.ReorderFixedSaid:=
  ji
#print axioms proved
end Go.Proofs.YtfgkdmbicjdeoaaGreat.reorderFixed
