/-
  'thicketlaw19.ExactSettles' returns true for every input, and the input reads as it did. No condition.
  Of a scene, Run keeps the roots; where it says the order is the least, a second run does nothing and no order that is given is smaller; where not, the order is the one of before.
-/
import Derived.Test.YtfgkdmbicjdeoaaGreatRows
import Derived.WalkKit
import Derived.ProofKit
import Derived.OpenShut
import Derived.SizedLaws
import Derived.Test.YtfgkdmbicjdeoaaGreatU1
import Derived.Test.YtfgkdmbicjdeoaaGreatU5
namespace Go.Proofs.YtfgkdmbicjdeoaaGreat.exactSettles
open Go.ChangeShapes Go.WideShapes Go.ChangeAt Go.RowKit
set_option linter.unusedVariables false
theorem laid:laidOutB Tryz.prog=true:=by kernel_rfl
theorem own:ownKnob Tryz.prog.godebug=none:=by kernel_rfl
set_option maxRecDepth 100000 in
theorem lifted(os:Os)(started:os.Started)(H:Type)(enc:TypeId×Value→H):
    ReturnsInHanded {} Tryz.checked os 6 .any (Rows.exactSettlesSpec.pre6 enc Tryz.prog Tryz.f6 Rows.exactSettlesRow.domain false) (Rows.exactSettlesSpec.post enc Tryz.prog Tryz.f6 false true false false):=by
  refine returnsInHanded_of_change_sized (C:=Tryz.checked) own started (by kernel_rfl) Tryz.func6
    (ChangeSpec.witness6 (enc:=enc) (C:=Tryz.checked) false ⟨#[],#[.agg #[.int .i64 0,.int .i64 0,.slice none 0 0,.slice none 0 0],.slice none 0 0],[]⟩ 8 (by kernel_rfl) (by kernel_rfl) (by kernel_rfl) (by kernel_rfl)) ?_
  intro W base args ds gs before Lh hW XR SR _
  have hval:∀(j:Nat) t v,Tryz.f6.params[j]? =some t→args[j]? =some v→Value.okWide Tryz.prog W .any base t v:=Lh
  have hsz:(DataW.weightsEach Tryz.prog (Tryz.f6.params.toList++Rows.exactSettlesSpec.plain.varTypes Tryz.prog) (ds++gs)).all (· ≤reachBytes)=true:=SR
  have RQ:=hW
  obtain⟨p,q,LY,hV,rfl,hfz,fT⟩:=hW
  have hA:DataW.TrodAll enc Tryz.prog W 0 (fun _=>true) true Tryz.f6.params.toList args.toList ds p:=LY
  rw[Tryz.params6]at hA hval hsz
  obtain⟨v0,Zv,d0,Z4,p0,q0,hargs,rfl,rfl,h0,r0⟩:=trodAll_cons hA
  obtain⟨v1,Zu,d1,Z3,p1,q1,rfl,rfl,rfl,h1,r1⟩:=trodAll_cons r0
  obtain⟨rfl,rfl,rfl⟩:=trodAll_nil r1
  obtain rfl:args=#[v0,v1]:=by cases args;simp_all
  obtain⟨rfl,rfl⟩:=trodVars_none hV
  obtain⟨n0,c0,y0,z0,Sk,l0,rfl,t0,i0,w0⟩:=Go.Proofs.FN h0 (okWide_struct Tryz.underlying62 (hval 0 62 v0 rfl rfl))
  have f0:=w0 fun n hn=>by simpa using List.all_eq_true.1 hsz n (DataW.weights_mem_each (j:=0) rfl rfl n hn)
  obtain⟨l1,i1,e1,b1⟩:=Go.Proofs.JA h1 (okWide_slice Tryz.underlying25 (hval 1 25 v1 rfl rfl))
  have f1:=b1 fun n hn=>by simpa using List.all_eq_true.1 hsz n (DataW.weights_mem_each (j:=1) rfl rfl n hn)
  clear LY Lh
  simp only[List.append_nil]at RQ
  refine(Go.Proofs.JF (Go.Proofs.xM (Go.Proofs.uW _) t0 i0 i1 (by omega))).mono fun e W' ⟨he,hg⟩=>?_
  subst he
  exact⟨_,rfl,Go.Sx.Gq rfl RQ rfl hg laid (by decide+kernel) rfl Tryz.underlying4⟩
theorem Ux{a b:Bool}(h1:a=true)(h2:b=true):(a&&b)=true:=by rw[h1,h2];rfl
set_option maxHeartbeats 4000000 in
theorem facts:joinedFacts Tryz.pinned.checked.prog 6 Tryz.f6 Rows.exactSettlesSpec Rows.exactSettlesRow=true:=by
  unfold joinedFacts
  with_reducible repeat' refine Ux ?_ ?_
  all_goals as_aux_lemma=>kernel_rfl
theorem gy:Rows.exactSettlesRow.holds Tryz.pinned (OpenSpec.ofChange Rows.exactSettlesSpec):=
  OpenClaim.holds_of_wide 6 Tryz.f6 rfl rfl rfl rfl rfl rfl rfl ⟨rfl,rfl,rfl,rfl,rfl⟩ rfl rfl rfl rfl rfl (by kernel_rfl) Tryz.func6 facts
    (of_decide_eq_true (by kernel_rfl)) (by unfold Func.isWrapper;first|(rw[if_pos (by decide+kernel)];kernel_rfl)|(rw[if_neg (by decide+kernel)];exact⟨rfl,rfl⟩))
    (fun os started H enc _=>lifted os started H enc)
theorem proved:Rows.ExactSettlesSaid:=
  gy
#print axioms proved
end Go.Proofs.YtfgkdmbicjdeoaaGreat.exactSettles
