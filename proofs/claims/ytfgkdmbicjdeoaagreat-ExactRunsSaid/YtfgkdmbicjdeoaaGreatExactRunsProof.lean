/-
  'thicketlaw19.ExactRuns' returns true for every input, and the input reads as it did. No condition.
  Of a scene: twice Run answers as the document, and the kernel stands beside the model after it.
-/
import Derived.Test.YtfgkdmbicjdeoaaGreatRows
import Derived.WalkKit
import Derived.ProofKit
import Derived.OpenShut
import Derived.SizedLaws
import Derived.Test.YtfgkdmbicjdeoaaGreatW1
import Derived.Test.YtfgkdmbicjdeoaaGreatW5
namespace Go.Proofs.YtfgkdmbicjdeoaaGreat.exactRuns
open Go.ChangeShapes Go.WideShapes Go.ChangeAt Go.RowKit
set_option linter.unusedVariables false
theorem laid:laidOutB Tryz.prog=true:=by kernel_rfl
theorem own:ownKnob Tryz.prog.godebug=none:=by kernel_rfl
set_option maxRecDepth 100000 in
theorem lifted(os:Os)(started:os.Started)(H:Type)(enc:TypeId×Value→H):
    ReturnsInHanded {} Tryz.checked os 5 .any (Rows.exactRunsSpec.pre6 enc Tryz.prog Tryz.f5 Rows.exactRunsRow.domain false) (Rows.exactRunsSpec.post enc Tryz.prog Tryz.f5 false true false false):=by
  refine returnsInHanded_of_change_sized (C:=Tryz.checked) own started (by kernel_rfl) Tryz.func5
    (ChangeSpec.witness6 (enc:=enc) (C:=Tryz.checked) false ⟨#[],#[.agg #[.int .i64 0,.int .i64 0,.slice none 0 0,.slice none 0 0]],[]⟩ 8 (by kernel_rfl) (by kernel_rfl) (by kernel_rfl) (by kernel_rfl)) ?_
  intro W base args ds gs before MB hW Y6 T0 _
  have hval:∀(j:Nat) t v,Tryz.f5.params[j]? =some t→args[j]? =some v→Value.okWide Tryz.prog W .any base t v:=MB
  have hsz:(DataW.weightsEach Tryz.prog (Tryz.f5.params.toList++Rows.exactRunsSpec.plain.varTypes Tryz.prog) (ds++gs)).all (· ≤reachBytes)=true:=T0
  have SY:=hW
  obtain⟨p,q,Gm,hV,rfl,hfz,fB⟩:=hW
  have hA:DataW.TrodAll enc Tryz.prog W 0 (fun _=>true) true Tryz.f5.params.toList args.toList ds p:=Gm
  rw[Tryz.params5]at hA hval hsz
  obtain⟨v0,vs0,d0,ds0,p0,q0,hargs,rfl,rfl,h0,r0⟩:=trodAll_cons hA
  obtain⟨rfl,rfl,rfl⟩:=trodAll_nil r0
  obtain rfl:args=#[v0]:=by cases args;simp_all
  obtain⟨rfl,rfl⟩:=trodVars_none hV
  obtain⟨n0,c0,y0,z0,Tv,l0,rfl,t0,i0,w0⟩:=Go.Proofs.GZ h0 (okWide_struct Tryz.underlying62 (hval 0 62 v0 rfl rfl))
  have f0:=w0 fun n hn=>by simpa using List.all_eq_true.1 hsz n (DataW.weights_mem_each (j:=0) rfl rfl n hn)
  clear Gm MB
  simp only[List.append_nil]at SY
  refine(Go.Proofs.K7 (Go.Proofs.Ky (Go.Proofs.vJ _) t0 i0)).mono fun e W' ⟨he,hg⟩=>?_
  subst he
  exact⟨_,rfl,Go.Sx.HE rfl SY rfl hg laid (by decide+kernel) rfl Tryz.underlying4⟩
theorem VA{a b:Bool}(h1:a=true)(h2:b=true):(a&&b)=true:=by rw[h1,h2];rfl
set_option maxHeartbeats 4000000 in
theorem facts:joinedFacts Tryz.pinned.checked.prog 5 Tryz.f5 Rows.exactRunsSpec Rows.exactRunsRow=true:=by
  unfold joinedFacts
  with_reducible repeat' refine VA ?_ ?_
  all_goals as_aux_lemma=>kernel_rfl
theorem gO:Rows.exactRunsRow.holds Tryz.pinned (OpenSpec.ofChange Rows.exactRunsSpec):=
  OpenClaim.holds_of_wide 5 Tryz.f5 rfl rfl rfl rfl rfl rfl rfl ⟨rfl,rfl,rfl,rfl,rfl⟩ rfl rfl rfl rfl rfl (by kernel_rfl) Tryz.func5 facts
    (of_decide_eq_true (by kernel_rfl)) (by unfold Func.isWrapper;first|(rw[if_pos (by decide+kernel)];kernel_rfl)|(rw[if_neg (by decide+kernel)];exact⟨rfl,rfl⟩))
    (fun os started H enc _=>lifted os started H enc)
theorem proved:Rows.ExactRunsSaid:=
  gO
#print axioms proved
end Go.Proofs.YtfgkdmbicjdeoaaGreat.exactRuns
