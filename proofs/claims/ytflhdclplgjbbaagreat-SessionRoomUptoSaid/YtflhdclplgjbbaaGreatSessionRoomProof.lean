/-
  'thicketlaw23.SessionRoom' returns true for every input whose bulk is at most 1048576, and the input reads as it did. Condition: the bulk (the second form).
  Of every script, played in a session with little room and in one with much: where the first answers OK the second does, and what it tells of functions is the same; what the first refuses for want of room alone the second can do, and gives back.
-/
import Derived.Test.YtflhdclplgjbbaaGreatRows
import Derived.WalkKit
import Derived.ProofKit
import Derived.OpenShut
import Derived.JoinedCond
import Derived.Test.YtflhdclplgjbbaaGreatR1
import Derived.Test.YtflhdclplgjbbaaGreatR6
namespace Go.Proofs.YtflhdclplgjbbaaGreat.sessionRoom
open Go.ChangeShapes Go.WideShapes Go.ChangeAt Go.RowKit
set_option linter.unusedVariables false
theorem laid:laidOutB Tryz.prog=true:=by kernel_rfl
theorem own:ownKnob Tryz.prog.godebug=none:=by kernel_rfl
set_option maxRecDepth 100000 in
theorem contract(H:Type)(enc:TypeId×Value→H)(W:World)(base:Nat)(args:Array Value)(ds gs:List (DataW H))(before:List MemPlace)
   (X0:∀(j:Nat) t v,Tryz.f4.params[j]? =some t→args[j]? =some v→Value.okWide Tryz.prog W .any base t v)
   (hW:DataW.Whole enc Tryz.prog Tryz.f4.params.toList Rows.sessionRoomSpec.vars false W args.toList ds gs before)(hk:Rows.uptoSmall H (ds++gs)=true):
    Calls Tryz.prog 4 args W fun e W'=>∃v,e=.returned v∧Rows.sessionRoomSpec.post enc Tryz.prog Tryz.f4 false true false false W args v W':=by
  have hval:∀(j:Nat) t v,Tryz.f4.params[j]? =some t→args[j]? =some v→Value.okWide Tryz.prog W .any base t v:=X0
  have hW':=hW
  obtain⟨p,q,hA0,hV,rfl,hfz,fD⟩:=hW
  have hA:DataW.TrodAll enc Tryz.prog W 0 (fun _=>true) true Tryz.f4.params.toList args.toList ds p:=hA0
  rw[Tryz.params4]at hA hval
  obtain⟨v0,vs0,d0,ds0,p0,q0,hargs,rfl,rfl,h0,r0⟩:=trodAll_cons hA
  obtain⟨v1,vs1,d1,ds1,p1,q1,rfl,rfl,rfl,h1,r1⟩:=trodAll_cons r0
  obtain⟨rfl,rfl,rfl⟩:=trodAll_nil r1
  obtain rfl:args=#[v0,v1]:=by cases args;simp_all
  obtain⟨rfl,rfl⟩:=trodVars_none hV
  obtain⟨l0,rfl,e0⟩:=Go.Proofs.aaA h0 (okWide_struct Tryz.underlying23 (hval 0 23 v0 rfl rfl))
  obtain⟨l1,i1,e1,b1,u1⟩:=Go.Proofs.Mm h1 (okWide_slice Tryz.underlying24 (hval 1 24 v1 rfl rfl))
  clear hA0 X0
  simp only[List.append_nil]at hW' hk
  refine(Go.Proofs.VY (Go.Proofs.uk (ci:=l0) i1 e1 (Yv.YW hk (by simp) u1))).mono fun e W' ⟨he,hg⟩=>?_
  subst he
  exact⟨_,rfl,Go.Sx.Re rfl hW' rfl hg laid (by decide+kernel) rfl Tryz.underlying4⟩
set_option maxRecDepth 100000 in
theorem lifted(os:Os)(started:os.Started)(H:Type)(enc:TypeId×Value→H)(F:Stop.Interp):
    ReturnsInHanded {} Tryz.checked os 4 .any ((Rows.OpenSpec.upto Rows.sessionRoomSpec).pre6 enc Tryz.prog Tryz.f4 Rows.sessionRoomUptoRow.domain false) (((Rows.OpenSpec.upto Rows.sessionRoomSpec).at F).post enc Tryz.prog Tryz.f4 false true false false):=by
  refine returnsInHanded_of_cond (C:=Tryz.checked) (s:=Rows.OpenSpec.upto Rows.sessionRoomSpec) (k:=Rows.uptoSmall) rfl own started (by kernel_rfl) Tryz.func4
    (OpenSpec.witness (enc:=enc) (C:=Tryz.checked) (s:=Rows.OpenSpec.upto Rows.sessionRoomSpec) (k:=Rows.uptoSmall) rfl false ⟨#[],#[.agg #[.int .i64 0,.int .i64 0,.int .u8 0,.int .i64 0,.int .i64 0],.slice none 0 0],[]⟩ 8 (by kernel_rfl) (by kernel_rfl) (by kernel_rfl)
      (x:=([.agg [.lit (.int .i64 0),.lit (.int .i64 0),.lit (.int .u8 0),.lit (.int .i64 0),.lit (.int .i64 0)],.nil],[],[])) (by kernel_rfl) rfl (by kernel_rfl)) ?_
  intro W base args ds gs before hval hW _ hk _
  exact contract H enc W base args ds gs before hval hW hk
theorem ah5{a b:Bool}(h1:a=true)(h2:b=true):(a&&b)=true:=by rw[h1,h2];rfl
set_option maxHeartbeats 4000000 in
theorem facts:joinedFacts Tryz.pinned.checked.prog 4 Tryz.f4 (Rows.OpenSpec.upto Rows.sessionRoomSpec).bare Rows.sessionRoomUptoRow=true:=by
  unfold joinedFacts
  with_reducible repeat' refine ah5 ?_ ?_
  all_goals as_aux_lemma=>kernel_rfl
theorem jV:Rows.sessionRoomUptoRow.holds Tryz.pinned (Rows.OpenSpec.upto Rows.sessionRoomSpec):=
  OpenClaim.holds_of_cond 4 Tryz.f4 rfl rfl rfl rfl rfl rfl rfl ⟨rfl,rfl,rfl,rfl,rfl⟩ rfl rfl rfl rfl rfl (by kernel_rfl) Tryz.func4 facts
    (of_decide_eq_true (by kernel_rfl)) (by unfold Func.isWrapper;first|(rw[if_pos (by decide+kernel)];kernel_rfl)|(rw[if_neg (by decide+kernel)];exact⟨rfl,rfl⟩))
    (fun os started H enc _ F=>lifted os started H enc F)
theorem proved:Rows.SessionRoomUptoSaid:=
  jV
#print axioms proved
end Go.Proofs.YtflhdclplgjbbaaGreat.sessionRoom
