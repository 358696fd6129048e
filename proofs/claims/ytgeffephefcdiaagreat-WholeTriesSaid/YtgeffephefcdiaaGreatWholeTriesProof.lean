/-
  'thickettop.WholeTries' returns true for every input, and the input reads as it did. No condition.
  A session with hardly any room, whatever its strategy, answers each step as one with much room does, or says that there is no room after as many tries as it may take; every handle keeps its function.
-/
import Derived.Test.YtgeffephefcdiaaGreatRows
import Derived.WalkKit
import Derived.ProofKit
import Derived.OpenShut
import Derived.SizedLaws
import Derived.Test.YtgeffephefcdiaaGreatW1
import Derived.Test.YtgeffephefcdiaaGreatW6
namespace Go.Proofs.YtgeffephefcdiaaGreat.wholeTries
open Go.ChangeShapes Go.WideShapes Go.ChangeAt Go.RowKit
set_option linter.unusedVariables false
theorem laid:laidOutB Tryz.prog=true:=by kernel_rfl
theorem own:ownKnob Tryz.prog.godebug=none:=by kernel_rfl
set_option maxRecDepth 100000 in
theorem lifted(os:Os)(started:os.Started)(H:Type)(enc:TypeId×Value→H):
    ReturnsInHanded {} Tryz.checked os 12 .any (Rows.wholeTriesSpec.pre6 enc Tryz.prog Tryz.f12 Rows.wholeTriesRow.domain false) (Rows.wholeTriesSpec.post enc Tryz.prog Tryz.f12 false true false false):=by
  refine returnsInHanded_of_change_sized (C:=Tryz.checked) own started (by kernel_rfl) Tryz.func12
    (ChangeSpec.witness6 (enc:=enc) (C:=Tryz.checked) false ⟨#[],#[.int .u8 0,.int .u8 0,.int .u8 0,.int .u8 0,.int .u8 0,.slice none 0 0],[]⟩ 8 (by kernel_rfl) (by kernel_rfl) (by kernel_rfl) (by kernel_rfl)) ?_
  intro W base args ds gs before Xm hW ak8 afy _
  have hval:∀(j:Nat) t v,Tryz.f12.params[j]? =some t→args[j]? =some v→Value.okWide Tryz.prog W .any base t v:=Xm
  have hsz:(DataW.weightsEach Tryz.prog (Tryz.f12.params.toList++Rows.wholeTriesSpec.plain.varTypes Tryz.prog) (ds++gs)).all (· ≤reachBytes)=true:=afy
  have hW':=hW
  obtain⟨p,q,hA0,hV,rfl,hfz,fO⟩:=hW
  have hA:DataW.TrodAll enc Tryz.prog W 0 (fun _=>true) true Tryz.f12.params.toList args.toList ds p:=hA0
  rw[Tryz.params12]at hA hval hsz
  obtain⟨v0,vs0,d0,ds0,p0,q0,hargs,rfl,rfl,h0,r0⟩:=trodAll_cons hA
  obtain⟨v1,vs1,d1,ds1,p1,q1,rfl,rfl,rfl,h1,r1⟩:=trodAll_cons r0
  obtain⟨v2,vs2,d2,ds2,p2,q2,rfl,rfl,rfl,h2,r2⟩:=trodAll_cons r1
  obtain⟨v3,vs3,d3,ds3,p3,q3,rfl,rfl,rfl,h3,r3⟩:=trodAll_cons r2
  obtain⟨v4,vs4,d4,ds4,p4,q4,rfl,rfl,rfl,h4,r4⟩:=trodAll_cons r3
  obtain⟨v5,vs5,d5,ds5,p5,q5,rfl,rfl,rfl,h5,r5⟩:=trodAll_cons r4
  obtain⟨rfl,rfl,rfl⟩:=trodAll_nil r5
  obtain rfl:args=#[v0,v1,v2,v3,v4,v5]:=by cases args;simp_all
  obtain⟨rfl,rfl⟩:=trodVars_none hV
  obtain⟨a0,rfl,rfl,rfl,w0⟩:=open_int Tryz.underlying5 (hval 0 5 v0 rfl rfl) h0
  have b0:=bounds_u8 w0
  obtain⟨z0,rfl⟩:∃z:Nat,a0=z:=⟨a0.toNat,by omega⟩
  obtain⟨a1,rfl,rfl,rfl,w1⟩:=open_int Tryz.underlying5 (hval 1 5 v1 rfl rfl) h1
  have b1:=bounds_u8 w1
  obtain⟨z1,rfl⟩:∃z:Nat,a1=z:=⟨a1.toNat,by omega⟩
  obtain⟨a2,rfl,rfl,rfl,w2⟩:=open_int Tryz.underlying5 (hval 2 5 v2 rfl rfl) h2
  have b2:=bounds_u8 w2
  obtain⟨z2,rfl⟩:∃z:Nat,a2=z:=⟨a2.toNat,by omega⟩
  obtain⟨a3,rfl,rfl,rfl,w3⟩:=open_int Tryz.underlying5 (hval 3 5 v3 rfl rfl) h3
  have b3:=bounds_u8 w3
  obtain⟨z3,rfl⟩:∃z:Nat,a3=z:=⟨a3.toNat,by omega⟩
  obtain⟨a4,rfl,rfl,rfl,w4⟩:=open_int Tryz.underlying5 (hval 4 5 v4 rfl rfl) h4
  have b4:=bounds_u8 w4
  obtain⟨z4,rfl⟩:∃z:Nat,a4=z:=⟨a4.toNat,by omega⟩
  obtain⟨l5,i5,e5,b5⟩:=Go.Proofs.MK h5 (okWide_slice Tryz.underlying24 (hval 5 24 v5 rfl rfl))
  have f5:=b5.1 fun n hn=>by simpa using List.all_eq_true.1 hsz n (DataW.weights_mem_each (j:=5) rfl rfl n hn)
  clear hA0 Xm
  simp only[List.append_nil]at hW'
  refine(Go.Proofs.Vl (Go.Proofs.uN (by omega) (by omega) i5 e5 (by omega) (by omega) (by omega) (by omega))).mono fun e W' ⟨he,hg⟩=>?_
  subst he
  exact⟨_,rfl,Go.Sx.Q4 rfl hW' rfl hg laid (by decide+kernel) rfl Tryz.underlying4⟩
theorem ahr{a b:Bool}(h1:a=true)(h2:b=true):(a&&b)=true:=by rw[h1,h2];rfl
set_option maxHeartbeats 4000000 in
theorem facts:joinedFacts Tryz.pinned.checked.prog 12 Tryz.f12 Rows.wholeTriesSpec Rows.wholeTriesRow=true:=by
  unfold joinedFacts
  with_reducible repeat' refine ahr ?_ ?_
  all_goals as_aux_lemma=>kernel_rfl
theorem jQ:Rows.wholeTriesRow.holds Tryz.pinned (OpenSpec.ofChange Rows.wholeTriesSpec):=
  OpenClaim.holds_of_wide 12 Tryz.f12 rfl rfl rfl rfl rfl rfl rfl ⟨rfl,rfl,rfl,rfl,rfl⟩ rfl rfl rfl rfl rfl (by kernel_rfl) Tryz.func12 facts
    (of_decide_eq_true (by kernel_rfl)) (by unfold Func.isWrapper;first|(rw[if_pos (by decide+kernel)];kernel_rfl)|(rw[if_neg (by decide+kernel)];exact⟨rfl,rfl⟩))
    (fun os started H enc _=>lifted os started H enc)
theorem proved:Rows.WholeTriesSaid:=
  jQ
#print axioms proved
end Go.Proofs.YtgeffephefcdiaaGreat.wholeTries
