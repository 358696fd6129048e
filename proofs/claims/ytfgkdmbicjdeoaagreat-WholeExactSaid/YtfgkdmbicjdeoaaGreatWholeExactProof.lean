/-
  'thickettop.WholeExact' returns true for every input, and the input reads as it did. No condition.
  A grown garden's kernel comes into an order of least size; a second run does nothing.
-/
import Derived.Test.YtfgkdmbicjdeoaaGreatRows
import Derived.WalkKit
import Derived.ProofKit
import Derived.OpenShut
import Derived.SizedLaws
import Derived.Test.YtfgkdmbicjdeoaaGreatE1
import Derived.Test.YtfgkdmbicjdeoaaGreatE5
namespace Go.Proofs.YtfgkdmbicjdeoaaGreat.wholeExact
open Go.ChangeShapes Go.WideShapes Go.ChangeAt Go.RowKit
set_option linter.unusedVariables false
theorem laid:laidOutB Tryz.prog=true:=by kernel_rfl
theorem own:ownKnob Tryz.prog.godebug=none:=by kernel_rfl
set_option maxRecDepth 100000 in
theorem lifted(os:Os)(started:os.Started)(H:Type)(enc:TypeId×Value→H):
    ReturnsInHanded {} Tryz.checked os 10 .any (Rows.wholeExactSpec.pre6 enc Tryz.prog Tryz.f10 Rows.wholeExactRow.domain false) (Rows.wholeExactSpec.post enc Tryz.prog Tryz.f10 false true false false):=by
  refine returnsInHanded_of_change_sized (C:=Tryz.checked) own started (by kernel_rfl) Tryz.func10
    (ChangeSpec.witness6 (enc:=enc) (C:=Tryz.checked) false ⟨#[],#[.int .u8 0,.slice none 0 0,.slice none 0 0],[]⟩ 8 (by kernel_rfl) (by kernel_rfl) (by kernel_rfl) (by kernel_rfl)) ?_
  intro W base args ds gs before Qs hW agh ZY _
  have hval:∀(j:Nat) t v,Tryz.f10.params[j]? =some t→args[j]? =some v→Value.okWide Tryz.prog W .any base t v:=Qs
  have hsz:(DataW.weightsEach Tryz.prog (Tryz.f10.params.toList++Rows.wholeExactSpec.plain.varTypes Tryz.prog) (ds++gs)).all (· ≤reachBytes)=true:=ZY
  have Yu:=hW
  obtain⟨p,q,Te,hV,rfl,hfz,g7⟩:=hW
  have hA:DataW.TrodAll enc Tryz.prog W 0 (fun _=>true) true Tryz.f10.params.toList args.toList ds p:=Te
  rw[Tryz.params10]at hA hval hsz
  obtain⟨v0,vs0,d0,ds0,p0,q0,hargs,rfl,rfl,h0,r0⟩:=trodAll_cons hA
  obtain⟨v1,vs1,d1,ds1,p1,q1,rfl,rfl,rfl,h1,r1⟩:=trodAll_cons r0
  obtain⟨v2,vs2,d2,ds2,p2,q2,rfl,rfl,rfl,h2,r2⟩:=trodAll_cons r1
  obtain⟨rfl,rfl,rfl⟩:=trodAll_nil r2
  obtain rfl:args=#[v0,v1,v2]:=by cases args;simp_all
  obtain⟨rfl,rfl⟩:=trodVars_none hV
  obtain⟨a0,rfl,rfl,rfl,w0⟩:=open_int Tryz.underlying5 (hval 0 5 v0 rfl rfl) h0
  have b0:=bounds_u8 w0
  obtain⟨z0,rfl⟩:∃z:Nat,a0=z:=⟨a0.toNat,by omega⟩
  obtain⟨l1,i1,e1,b1⟩:=Go.Proofs.RI h1 (okWide_slice Tryz.underlying22 (hval 1 22 v1 rfl rfl))
  have f1:=b1 fun n hn=>by simpa using List.all_eq_true.1 hsz n (DataW.weights_mem_each (j:=1) rfl rfl n hn)
  obtain⟨l2,i2,e2,b2⟩:=Go.Proofs.Mr h2 (okWide_slice Tryz.underlying87 (hval 2 87 v2 rfl rfl))
  have f2:=b2 fun n hn=>by simpa using List.all_eq_true.1 hsz n (DataW.weights_mem_each (j:=2) rfl rfl n hn)
  clear Te Qs
  simp only[List.append_nil]at Yu
  refine(Go.Proofs.Ov (Go.Proofs.r5 (by omega) i1 e1 (by omega) i2 e2 (by omega) (Go.Proofs.yj _))).mono fun e W' ⟨he,hg⟩=>?_
  subst he
  exact⟨_,rfl,Go.Sx.KS rfl Yu rfl hg laid (by decide+kernel) rfl Tryz.underlying4⟩
theorem abM{a b:Bool}(h1:a=true)(h2:b=true):(a&&b)=true:=by rw[h1,h2];rfl
set_option maxHeartbeats 4000000 in
theorem facts:joinedFacts Tryz.pinned.checked.prog 10 Tryz.f10 Rows.wholeExactSpec Rows.wholeExactRow=true:=by
  unfold joinedFacts
  with_reducible repeat' refine abM ?_ ?_
  all_goals as_aux_lemma=>kernel_rfl
theorem iU:Rows.wholeExactRow.holds Tryz.pinned (OpenSpec.ofChange Rows.wholeExactSpec):=
  OpenClaim.holds_of_wide 10 Tryz.f10 rfl rfl rfl rfl rfl rfl rfl ⟨rfl,rfl,rfl,rfl,rfl⟩ rfl rfl rfl rfl rfl (by kernel_rfl) Tryz.func10 facts
    (of_decide_eq_true (by kernel_rfl)) (by unfold Func.isWrapper;first|(rw[if_pos (by decide+kernel)];kernel_rfl)|(rw[if_neg (by decide+kernel)];exact⟨rfl,rfl⟩))
    (fun os started H enc _=>lifted os started H enc)
theorem proved:Rows.WholeExactSaid:=
  iU
#print axioms proved
end Go.Proofs.YtfgkdmbicjdeoaaGreat.wholeExact
