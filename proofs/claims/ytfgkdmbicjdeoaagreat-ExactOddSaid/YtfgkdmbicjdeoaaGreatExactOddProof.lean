/-
  'thicketlaw19.ExactOdd' returns true for every input, and the input reads as it did. No condition.
  Of a nil kernel, of empty lists, of tables not in form, of unlike N or of too many variables: the errors are the document's.
-/
import Derived.Test.YtfgkdmbicjdeoaaGreatRows
import Derived.WalkKit
import Derived.ProofKit
import Derived.OpenShut
import Derived.SizedLaws
import Derived.Test.YtfgkdmbicjdeoaaGreatO1
import Derived.Test.YtfgkdmbicjdeoaaGreatO3
namespace Go.Proofs.YtfgkdmbicjdeoaaGreat.exactOdd
open Go.ChangeShapes Go.WideShapes Go.ChangeAt Go.RowKit
set_option linter.unusedVariables false
theorem laid:laidOutB Tryz.prog=true:=by kernel_rfl
theorem own:ownKnob Tryz.prog.godebug=none:=by kernel_rfl
set_option maxRecDepth 100000 in
theorem lifted(os:Os)(started:os.Started)(H:Type)(enc:TypeId×Value→H):
    ReturnsInHanded {} Tryz.checked os 4 .any (Rows.exactOddSpec.pre6 enc Tryz.prog Tryz.f4 Rows.exactOddRow.domain false) (Rows.exactOddSpec.post enc Tryz.prog Tryz.f4 false true false false):=by
  refine returnsInHanded_of_change_sized (C:=Tryz.checked) own started (by kernel_rfl) Tryz.func4
    (ChangeSpec.witness6 (enc:=enc) (C:=Tryz.checked) false ⟨#[],#[.slice none 0 0,.int .u64 0],[]⟩ 8 (by kernel_rfl) (by kernel_rfl) (by kernel_rfl) (by kernel_rfl)) ?_
  intro W base args ds gs before tT hW EO Aq _
  have hval:∀(j:Nat) t v,Tryz.f4.params[j]? =some t→args[j]? =some v→Value.okWide Tryz.prog W .any base t v:=tT
  have hsz:(DataW.weightsEach Tryz.prog (Tryz.f4.params.toList++Rows.exactOddSpec.plain.varTypes Tryz.prog) (ds++gs)).all (· ≤reachBytes)=true:=Aq
  have ze:=hW
  obtain⟨p,q,Df,hV,rfl,hfz,pJ⟩:=hW
  have hA:DataW.TrodAll enc Tryz.prog W 0 (fun _=>true) true Tryz.f4.params.toList args.toList ds p:=Df
  rw[Tryz.params4]at hA hval hsz
  obtain⟨v0,F6,d0,Gy,p0,q0,hargs,rfl,rfl,h0,r0⟩:=trodAll_cons hA
  obtain⟨v1,F5,d1,Gx,p1,q1,rfl,rfl,rfl,h1,r1⟩:=trodAll_cons r0
  obtain⟨rfl,rfl,rfl⟩:=trodAll_nil r1
  obtain rfl:args=#[v0,v1]:=by cases args;simp_all
  obtain⟨rfl,rfl⟩:=trodVars_none hV
  obtain⟨F9,t0,w0⟩:=Go.Proofs.sL h0 (okWide_slice Tryz.underlying28 (hval 0 28 v0 rfl rfl))
  have f0:=w0 fun n hn=>by simpa using List.all_eq_true.1 hsz n (DataW.weights_mem_each (j:=0) rfl rfl n hn)
  obtain⟨a1,rfl,rfl,rfl,w1⟩:=open_int Tryz.underlying50 (hval 1 50 v1 rfl rfl) h1
  have b1:=bounds_u64 w1
  obtain⟨z1,rfl⟩:∃z:Nat,a1=z:=⟨a1.toNat,by omega⟩
  clear Df tT
  simp only[List.append_nil]at ze
  refine(Go.Sx.uI (Go.Proofs.sR t0 f0 (A:=z1) (by omega))).mono fun e W' ⟨he,hg⟩=>?_
  subst he
  exact⟨_,rfl,Go.Sx.q8 rfl ze rfl hg laid (by decide+kernel) rfl Tryz.underlying4⟩
theorem Bp{a b:Bool}(h1:a=true)(h2:b=true):(a&&b)=true:=by rw[h1,h2];rfl
set_option maxHeartbeats 4000000 in
theorem facts:joinedFacts Tryz.pinned.checked.prog 4 Tryz.f4 Rows.exactOddSpec Rows.exactOddRow=true:=by
  unfold joinedFacts
  with_reducible repeat' refine Bp ?_ ?_
  all_goals as_aux_lemma=>kernel_rfl
theorem ep:Rows.exactOddRow.holds Tryz.pinned (OpenSpec.ofChange Rows.exactOddSpec):=
  OpenClaim.holds_of_wide 4 Tryz.f4 rfl rfl rfl rfl rfl rfl rfl ⟨rfl,rfl,rfl,rfl,rfl⟩ rfl rfl rfl rfl rfl (by kernel_rfl) Tryz.func4 facts
    (of_decide_eq_true (by kernel_rfl)) (by unfold Func.isWrapper;first|(rw[if_pos (by decide+kernel)];kernel_rfl)|(rw[if_neg (by decide+kernel)];exact⟨rfl,rfl⟩))
    (fun os started H enc _=>lifted os started H enc)
theorem proved:Rows.ExactOddSaid:=
  ep
#print axioms proved
end Go.Proofs.YtfgkdmbicjdeoaaGreat.exactOdd
