/-
  'thicketlaw20.ReorderSwaps' returns true for every input, and the input reads as it did. No condition.
  Swaps answers as the document's, for any whole numbers and any strategy.
-/
import Derived.Test.YtfgkdmbicjdeoaaGreatRows
import Derived.WalkKit
import Derived.ProofKit
import Derived.OpenShut
import Derived.SizedLaws
import Derived.Test.YtfgkdmbicjdeoaaGreatS1
import Derived.Test.YtfgkdmbicjdeoaaGreatS5
namespace Go.Proofs.YtfgkdmbicjdeoaaGreat.reorderSwaps
open Go.ChangeShapes Go.WideShapes Go.ChangeAt Go.RowKit
set_option linter.unusedVariables false
theorem laid:laidOutB Tryz.prog=true:=by kernel_rfl
theorem own:ownKnob Tryz.prog.godebug=none:=by kernel_rfl
set_option maxRecDepth 100000 in
theorem lifted(os:Os)(started:os.Started)(H:Type)(enc:TypeId×Value→H):
    ReturnsInHanded {} Tryz.checked os 7 .any (Rows.reorderSwapsSpec.pre6 enc Tryz.prog Tryz.f7 Rows.reorderSwapsRow.domain false) (Rows.reorderSwapsSpec.post enc Tryz.prog Tryz.f7 false true false false):=by
  refine returnsInHanded_of_change_sized (C:=Tryz.checked) own started (by kernel_rfl) Tryz.func7
    (ChangeSpec.witness6 (enc:=enc) (C:=Tryz.checked) false ⟨#[],#[.int .i64 0,.int .i64 0,.int .u8 0],[]⟩ 8 (by kernel_rfl) (by kernel_rfl) (by kernel_rfl) (by kernel_rfl)) ?_
  intro W base args ds gs before Rf hW ahf aaT _
  have hval:∀(j:Nat) t v,Tryz.f7.params[j]? =some t→args[j]? =some v→Value.okWide Tryz.prog W .any base t v:=Rf
  have hsz:(DataW.weightsEach Tryz.prog (Tryz.f7.params.toList++Rows.reorderSwapsSpec.plain.varTypes Tryz.prog) (ds++gs)).all (· ≤reachBytes)=true:=aaT
  have Y3:=hW
  obtain⟨p,q,hA0,hV,rfl,hfz,gW⟩:=hW
  have hA:DataW.TrodAll enc Tryz.prog W 0 (fun _=>true) true Tryz.f7.params.toList args.toList ds p:=hA0
  rw[Tryz.params7]at hA hval hsz
  obtain⟨v0,vs0,d0,ds0,p0,q0,hargs,rfl,rfl,h0,r0⟩:=trodAll_cons hA
  obtain⟨v1,vs1,d1,ds1,p1,q1,rfl,rfl,rfl,h1,r1⟩:=trodAll_cons r0
  obtain⟨v2,vs2,d2,ds2,p2,q2,rfl,rfl,rfl,h2,r2⟩:=trodAll_cons r1
  obtain⟨rfl,rfl,rfl⟩:=trodAll_nil r2
  obtain rfl:args=#[v0,v1,v2]:=by cases args;simp_all
  obtain⟨rfl,rfl⟩:=trodVars_none hV
  obtain⟨a0,rfl,rfl,rfl,w0⟩:=open_int Tryz.underlying3 (hval 0 3 v0 rfl rfl) h0
  have b0:=bounds_i64 w0
  obtain⟨a1,rfl,rfl,rfl,w1⟩:=open_int Tryz.underlying3 (hval 1 3 v1 rfl rfl) h1
  have b1:=bounds_i64 w1
  obtain⟨a2,rfl,rfl,rfl,w2⟩:=open_int Tryz.underlying5 (hval 2 5 v2 rfl rfl) h2
  have b2:=bounds_u8 w2
  obtain⟨z2,rfl⟩:∃z:Nat,a2=z:=⟨a2.toNat,by omega⟩
  clear hA0 Rf
  simp only[List.append_nil]at Y3
  refine(Go.Proofs.Pq (Go.Proofs.qh (a:=a0) (b:=a1) (k:=z2) _)).mono fun e W' ⟨he,hg⟩=>?_
  subst he
  exact⟨_,rfl,Go.Sx.Lt rfl Y3 rfl hg laid (by decide+kernel) rfl Tryz.underlying4⟩
theorem acJ{a b:Bool}(h1:a=true)(h2:b=true):(a&&b)=true:=by rw[h1,h2];rfl
set_option maxHeartbeats 4000000 in
theorem facts:joinedFacts Tryz.pinned.checked.prog 7 Tryz.f7 Rows.reorderSwapsSpec Rows.reorderSwapsRow=true:=by
  unfold joinedFacts
  with_reducible repeat' refine acJ ?_ ?_
  all_goals as_aux_lemma=>kernel_rfl
theorem ja:Rows.reorderSwapsRow.holds Tryz.pinned (OpenSpec.ofChange Rows.reorderSwapsSpec):=
  OpenClaim.holds_of_wide 7 Tryz.f7 rfl rfl rfl rfl rfl rfl rfl ⟨rfl,rfl,rfl,rfl,rfl⟩ rfl rfl rfl rfl rfl (by kernel_rfl) Tryz.func7 facts
    (of_decide_eq_true (by kernel_rfl)) (by unfold Func.isWrapper;first|(rw[if_pos (by decide+kernel)];kernel_rfl)|(rw[if_neg (by decide+kernel)];exact⟨rfl,rfl⟩))
    (fun os started H enc _=>lifted os started H enc)
theorem proved:Rows.ReorderSwapsSaid:=
  ja
#print axioms proved
end Go.Proofs.YtfgkdmbicjdeoaaGreat.reorderSwaps
