/-
  'thicketlaw23.SessionFixed' returns true for every input, and the input reads as it did. No condition.
  The document's examples of scripts, reply by reply, in a session with room, in one without, and of configurations that are refused.
-/
import Derived.Test.YtpkjbcgefhdemaaGreatRows
import Derived.WalkKit
import Derived.ProofKit
import Derived.OpenShut
import Derived.SizedLaws
import Derived.Test.YtpkjbcgefhdemaaGreatX1
import Derived.Test.YtpkjbcgefhdemaaGreatX4
import Derived.Test.YtpkjbcgefhdemaaGreatX3
namespace Go.Proofs.YtpkjbcgefhdemaaGreat.sessionFixed
open Go.ChangeShapes Go.WideShapes Go.ChangeAt Go.RowKit
set_option linter.unusedVariables false
theorem laid:laidOutB Tryz.prog=true:=by kernel_rfl
theorem own:ownKnob Tryz.prog.godebug=none:=by kernel_rfl
set_option maxRecDepth 100000 in
theorem lifted(os:Os)(started:os.Started)(H:Type)(enc:TypeId×Value→H):
    ReturnsInHanded {} Tryz.checked os 5 .any (Rows.sessionFixedSpec.pre6 enc Tryz.prog Tryz.f5 Rows.sessionFixedRow.domain false) (Rows.sessionFixedSpec.post enc Tryz.prog Tryz.f5 false true false false):=by
  refine returnsInHanded_of_change_sized (C:=Tryz.checked) own started (by kernel_rfl) Tryz.func5
    (ChangeSpec.witness6 (enc:=enc) (C:=Tryz.checked) false ⟨#[],#[],[]⟩ 8 (by kernel_rfl) (by kernel_rfl) (by kernel_rfl) (by kernel_rfl)) ?_
  intro W base args ds gs before GS hW RN Nx _
  have hval:∀(j:Nat) t v,Tryz.f5.params[j]? =some t→args[j]? =some v→Value.okWide Tryz.prog W .any base t v:=GS
  have hsz:(DataW.weightsEach Tryz.prog (Tryz.f5.params.toList++Rows.sessionFixedSpec.plain.varTypes Tryz.prog) (ds++gs)).all (· ≤reachBytes)=true:=Nx
  have Mv:=hW
  obtain⟨p,q,Qg,hV,rfl,hfz,fI⟩:=hW
  have hA:DataW.TrodAll enc Tryz.prog W 0 (fun _=>true) true Tryz.f5.params.toList args.toList ds p:=Qg
  rw[Tryz.params5]at hA hval hsz
  obtain⟨hargs,rfl,rfl⟩:=trodAll_nil hA
  obtain rfl:args=#[]:=by cases args;simp_all
  obtain⟨rfl,rfl⟩:=trodVars_none hV
  clear Qg GS
  simp only[List.append_nil]at Mv
  refine(Go.Proofs.Fj (Go.Proofs.mq _)).mono fun e W' ⟨he,hg⟩=>?_
  subst he
  exact⟨_,rfl,Go.Sx.B1 rfl Mv rfl hg laid (by decide+kernel) rfl Tryz.underlying4⟩
theorem O0{a b:Bool}(h1:a=true)(h2:b=true):(a&&b)=true:=by rw[h1,h2];rfl
set_option maxHeartbeats 4000000 in
theorem facts:joinedFacts Tryz.pinned.checked.prog 5 Tryz.f5 Rows.sessionFixedSpec Rows.sessionFixedRow=true:=by
  unfold joinedFacts
  with_reducible repeat' refine O0 ?_ ?_
  all_goals as_aux_lemma=>kernel_rfl
theorem fE:Rows.sessionFixedRow.holds Tryz.pinned (OpenSpec.ofChange Rows.sessionFixedSpec):=
  OpenClaim.holds_of_wide 5 Tryz.f5 rfl rfl rfl rfl rfl rfl rfl ⟨rfl,rfl,rfl,rfl,rfl⟩ rfl rfl rfl rfl rfl (by kernel_rfl) Tryz.func5 facts
    (of_decide_eq_true (by kernel_rfl)) (by unfold Func.isWrapper;first|(rw[if_pos (by decide+kernel)];kernel_rfl)|(rw[if_neg (by decide+kernel)];exact⟨rfl,rfl⟩))
    (fun os started H enc _=>lifted os started H enc)
theorem proved:Rows.SessionFixedSaid:=
  fE
#print axioms proved
end Go.Proofs.YtpkjbcgefhdemaaGreat.sessionFixed
