/-
  'thicketlaw23.SessionNews' returns true for every input, and the input reads as it did. No condition.
  A session is made or refused as the document says, and has no handles and the plain order at its beginning; a nil session refuses every step.
-/
import Derived.Test.YtpkjbcgefhdemaaGreatRows
import Derived.WalkKit
import Derived.ProofKit
import Derived.OpenShut
import Derived.SizedLaws
import Derived.Test.YtpkjbcgefhdemaaGreatN1
import Derived.Test.YtpkjbcgefhdemaaGreatN3
namespace Go.Proofs.YtpkjbcgefhdemaaGreat.sessionNews
open Go.ChangeShapes Go.WideShapes Go.ChangeAt Go.RowKit
set_option linter.unusedVariables false
theorem laid:laidOutB Tryz.prog=true:=by kernel_rfl
theorem own:ownKnob Tryz.prog.godebug=none:=by kernel_rfl
set_option maxRecDepth 100000 in
theorem lifted(os:Os)(started:os.Started)(H:Type)(enc:TypeId×Value→H):
    ReturnsInHanded {} Tryz.checked os 9 .any (Rows.sessionNewsSpec.pre6 enc Tryz.prog Tryz.f9 Rows.sessionNewsRow.domain false) (Rows.sessionNewsSpec.post enc Tryz.prog Tryz.f9 false true false false):=by
  refine returnsInHanded_of_change_sized (C:=Tryz.checked) own started (by kernel_rfl) Tryz.func9
    (ChangeSpec.witness6 (enc:=enc) (C:=Tryz.checked) false ⟨#[],#[.agg #[.int .i64 0,.int .i64 0,.int .u8 0,.int .i64 0,.int .i64 0],.agg #[.int .u8 0,.int .i64 0,.int .i64 0,.int .i64 0,.int .u64 0]],[]⟩ 8 (by kernel_rfl) (by kernel_rfl) (by kernel_rfl) (by kernel_rfl)) ?_
  intro W base args ds gs before zl hW H8 Ef _
  have hval:∀(j:Nat) t v,Tryz.f9.params[j]? =some t→args[j]? =some v→Value.okWide Tryz.prog W .any base t v:=zl
  have hsz:(DataW.weightsEach Tryz.prog (Tryz.f9.params.toList++Rows.sessionNewsSpec.plain.varTypes Tryz.prog) (ds++gs)).all (· ≤reachBytes)=true:=Ef
  have Dy:=hW
  obtain⟨p,q,Gy,hV,rfl,hfz,j6⟩:=hW
  have hA:DataW.TrodAll enc Tryz.prog W 0 (fun _=>true) true Tryz.f9.params.toList args.toList ds p:=Gy
  rw[Tryz.params9]at hA hval hsz
  obtain⟨v0,Jk,d0,JK,p0,q0,hargs,rfl,rfl,h0,r0⟩:=trodAll_cons hA
  obtain⟨v1,Jj,d1,JJ,p1,q1,rfl,rfl,rfl,h1,r1⟩:=trodAll_cons r0
  obtain⟨rfl,rfl,rfl⟩:=trodAll_nil r1
  obtain rfl:args=#[v0,v1]:=by cases args;simp_all
  obtain⟨rfl,rfl⟩:=trodVars_none hV
  obtain⟨l0,rfl,e0⟩:=Go.Proofs.AN h0 (okWide_struct Tryz.underlying23 (hval 0 23 v0 rfl rfl))
  obtain⟨l1,rfl,e1⟩:=Go.Proofs.xI h1 (okWide_struct Tryz.underlying35 (hval 1 35 v1 rfl rfl))
  clear Gy zl
  simp only[List.append_nil]at Dy
  refine(Go.Proofs.yg (Go.Proofs.js (c:=l0) (x:=l1) _)).mono fun e W' ⟨he,hg⟩=>?_
  subst he
  exact⟨_,rfl,Go.Sx.vA rfl Dy rfl hg laid (by decide+kernel) rfl Tryz.underlying4⟩
theorem Fq{a b:Bool}(h1:a=true)(h2:b=true):(a&&b)=true:=by rw[h1,h2];rfl
set_option maxHeartbeats 4000000 in
theorem facts:joinedFacts Tryz.pinned.checked.prog 9 Tryz.f9 Rows.sessionNewsSpec Rows.sessionNewsRow=true:=by
  unfold joinedFacts
  with_reducible repeat' refine Fq ?_ ?_
  all_goals as_aux_lemma=>kernel_rfl
theorem eV:Rows.sessionNewsRow.holds Tryz.pinned (OpenSpec.ofChange Rows.sessionNewsSpec):=
  OpenClaim.holds_of_wide 9 Tryz.f9 rfl rfl rfl rfl rfl rfl rfl ⟨rfl,rfl,rfl,rfl,rfl⟩ rfl rfl rfl rfl rfl (by kernel_rfl) Tryz.func9 facts
    (of_decide_eq_true (by kernel_rfl)) (by unfold Func.isWrapper;first|(rw[if_pos (by decide+kernel)];kernel_rfl)|(rw[if_neg (by decide+kernel)];exact⟨rfl,rfl⟩))
    (fun os started H enc _=>lifted os started H enc)
theorem proved:Rows.SessionNewsSaid:=
  eV
#print axioms proved
end Go.Proofs.YtpkjbcgefhdemaaGreat.sessionNews
