/-
  'thicketlaw23.SessionMemory' returns true for every input whose bulk is at most 1048576, and the input reads as it did. Condition: the bulk (the second form).
  A script that is handed in stays as it is; replies, Handles and Order are new memory at each call.
-/
import Derived.Test.YtflhdclplgjbbaaGreatRows
import Derived.WalkKit
import Derived.ProofKit
import Derived.OpenShut
import Derived.JoinedCond
import Derived.Test.YtflhdclplgjbbaaGreatM1
import Derived.Test.YtflhdclplgjbbaaGreatM6
namespace Go.Proofs.YtflhdclplgjbbaaGreat.sessionMemory
open Go.ChangeShapes Go.WideShapes Go.ChangeAt Go.RowKit
set_option linter.unusedVariables false
theorem laid:laidOutB Tryz.prog=true:=by kernel_rfl
theorem own:ownKnob Tryz.prog.godebug=none:=by kernel_rfl
set_option maxRecDepth 100000 in
theorem contract(H:Type)(enc:TypeId×Value→H)(W:World)(base:Nat)(args:Array Value)(ds gs:List (DataW H))(before:List MemPlace)
   (Y6:∀(j:Nat) t v,Tryz.f5.params[j]? =some t→args[j]? =some v→Value.okWide Tryz.prog W .any base t v)
   (hW:DataW.Whole enc Tryz.prog Tryz.f5.params.toList Rows.sessionMemorySpec.vars false W args.toList ds gs before)(hk:Rows.uptoSmall H (ds++gs)=true):
    Calls Tryz.prog 5 args W fun e W'=>∃v,e=.returned v∧Rows.sessionMemorySpec.post enc Tryz.prog Tryz.f5 false true false false W args v W':=by
  have hval:∀(j:Nat) t v,Tryz.f5.params[j]? =some t→args[j]? =some v→Value.okWide Tryz.prog W .any base t v:=Y6
  have hW':=hW
  obtain⟨p,q,hA0,hV,rfl,hfz,fQ⟩:=hW
  have hA:DataW.TrodAll enc Tryz.prog W 0 (fun _=>true) true Tryz.f5.params.toList args.toList ds p:=hA0
  rw[Tryz.params5]at hA hval
  obtain⟨v0,vs0,d0,ds0,p0,q0,hargs,rfl,rfl,h0,r0⟩:=trodAll_cons hA
  obtain⟨v1,vs1,d1,ds1,p1,q1,rfl,rfl,rfl,h1,r1⟩:=trodAll_cons r0
  obtain⟨rfl,rfl,rfl⟩:=trodAll_nil r1
  obtain rfl:args=#[v0,v1]:=by cases args;simp_all
  obtain⟨rfl,rfl⟩:=trodVars_none hV
  obtain⟨l0,rfl,e0⟩:=Go.Proofs.abE h0 (okWide_struct Tryz.underlying23 (hval 0 23 v0 rfl rfl))
  obtain⟨l1,i1,e1,b1,u1⟩:=Go.Proofs.Nn h1 (okWide_slice Tryz.underlying24 (hval 1 24 v1 rfl rfl))
  clear hA0 Y6
  simp only[List.append_nil]at hW' hk
  refine(Go.Proofs.W9 (Go.Proofs.rN (ci:=l0) i1 e1 (Zz.ZZ hk (by simp) u1))).mono fun e W' ⟨he,hg⟩=>?_
  subst he
  exact⟨_,rfl,Go.Sx.Sv rfl hW' rfl hg laid (by decide+kernel) rfl Tryz.underlying4⟩
set_option maxRecDepth 100000 in
theorem lifted(os:Os)(started:os.Started)(H:Type)(enc:TypeId×Value→H)(F:Stop.Interp):
    ReturnsInHanded {} Tryz.checked os 5 .any ((Rows.OpenSpec.upto Rows.sessionMemorySpec).pre6 enc Tryz.prog Tryz.f5 Rows.sessionMemoryUptoRow.domain false) (((Rows.OpenSpec.upto Rows.sessionMemorySpec).at F).post enc Tryz.prog Tryz.f5 false true false false):=by
  refine returnsInHanded_of_cond (C:=Tryz.checked) (s:=Rows.OpenSpec.upto Rows.sessionMemorySpec) (k:=Rows.uptoSmall) rfl own started (by kernel_rfl) Tryz.func5
    (OpenSpec.witness (enc:=enc) (C:=Tryz.checked) (s:=Rows.OpenSpec.upto Rows.sessionMemorySpec) (k:=Rows.uptoSmall) rfl false ⟨#[],#[.agg #[.int .i64 0,.int .i64 0,.int .u8 0,.int .i64 0,.int .i64 0],.slice none 0 0],[]⟩ 8 (by kernel_rfl) (by kernel_rfl) (by kernel_rfl)
      (x:=([.agg [.lit (.int .i64 0),.lit (.int .i64 0),.lit (.int .u8 0),.lit (.int .i64 0),.lit (.int .i64 0)],.nil],[],[])) (by kernel_rfl) rfl (by kernel_rfl)) ?_
  intro W base args ds gs before hval hW _ hk _
  exact contract H enc W base args ds gs before hval hW hk
theorem aji{a b:Bool}(h1:a=true)(h2:b=true):(a&&b)=true:=by rw[h1,h2];rfl
set_option maxHeartbeats 4000000 in
theorem facts:joinedFacts Tryz.pinned.checked.prog 5 Tryz.f5 (Rows.OpenSpec.upto Rows.sessionMemorySpec).bare Rows.sessionMemoryUptoRow=true:=by
  unfold joinedFacts
  with_reducible repeat' refine aji ?_ ?_
  all_goals as_aux_lemma=>kernel_rfl
theorem jo:Rows.sessionMemoryUptoRow.holds Tryz.pinned (Rows.OpenSpec.upto Rows.sessionMemorySpec):=
  OpenClaim.holds_of_cond 5 Tryz.f5 rfl rfl rfl rfl rfl rfl rfl ⟨rfl,rfl,rfl,rfl,rfl⟩ rfl rfl rfl rfl rfl (by kernel_rfl) Tryz.func5 facts
    (of_decide_eq_true (by kernel_rfl)) (by unfold Func.isWrapper;first|(rw[if_pos (by decide+kernel)];kernel_rfl)|(rw[if_neg (by decide+kernel)];exact⟨rfl,rfl⟩))
    (fun os started H enc _ F=>lifted os started H enc F)
theorem proved:Rows.SessionMemoryUptoSaid:=
  jo
#print axioms proved
end Go.Proofs.YtflhdclplgjbbaaGreat.sessionMemory
