/-
  'thickettop.WholeStrategies' returns true for every input, and the input reads as it did. No condition.
  Whatever strategies are taken one behind the other, in much room or in hardly any: the order stays one, every Ref its function, no node more is live than before, no swap more is done than is told.
-/
import Derived.Test.YtfgkdmbicjdeoaaGreatRows
import Derived.WalkKit
import Derived.ProofKit
import Derived.OpenShut
import Derived.SizedLaws
import Derived.Test.YtfgkdmbicjdeoaaGreatT1
import Derived.Test.YtfgkdmbicjdeoaaGreatT5
namespace Go.Proofs.YtfgkdmbicjdeoaaGreat.wholeStrategies
open Go.ChangeShapes Go.WideShapes Go.ChangeAt Go.RowKit
set_option linter.unusedVariables false
theorem laid:laidOutB Tryz.prog=true:=by kernel_rfl
theorem own:ownKnob Tryz.prog.godebug=none:=by kernel_rfl
set_option maxRecDepth 100000 in
theorem lifted(os:Os)(started:os.Started)(H:Type)(enc:TypeId×Value→H):
    ReturnsInHanded {} Tryz.checked os 11 .any (Rows.wholeStrategiesSpec.pre6 enc Tryz.prog Tryz.f11 Rows.wholeStrategiesRow.domain false) (Rows.wholeStrategiesSpec.post enc Tryz.prog Tryz.f11 false true false false):=by
  refine returnsInHanded_of_change_sized (C:=Tryz.checked) own started (by kernel_rfl) Tryz.func11
    (ChangeSpec.witness6 (enc:=enc) (C:=Tryz.checked) false ⟨#[],#[.int .u8 0,.int .u8 0,.slice none 0 0,.slice none 0 0,.int .u8 0],[]⟩ 8 (by kernel_rfl) (by kernel_rfl) (by kernel_rfl) (by kernel_rfl)) ?_
  intro W base args ds gs before Qk hW adF UD _
  have hval:∀(j:Nat) t v,Tryz.f11.params[j]? =some t→args[j]? =some v→Value.okWide Tryz.prog W .any base t v:=Qk
  have hsz:(DataW.weightsEach Tryz.prog (Tryz.f11.params.toList++Rows.wholeStrategiesSpec.plain.varTypes Tryz.prog) (ds++gs)).all (· ≤reachBytes)=true:=UD
  have WZ:=hW
  obtain⟨p,q,TN,hV,rfl,hfz,gE⟩:=hW
  have hA:DataW.TrodAll enc Tryz.prog W 0 (fun _=>true) true Tryz.f11.params.toList args.toList ds p:=TN
  rw[Tryz.params11]at hA hval hsz
  obtain⟨v0,vs0,d0,ds0,p0,q0,hargs,rfl,rfl,h0,r0⟩:=trodAll_cons hA
  obtain⟨v1,vs1,d1,ds1,p1,q1,rfl,rfl,rfl,h1,r1⟩:=trodAll_cons r0
  obtain⟨v2,vs2,d2,ds2,p2,q2,rfl,rfl,rfl,h2,r2⟩:=trodAll_cons r1
  obtain⟨v3,vs3,d3,ds3,p3,q3,rfl,rfl,rfl,h3,r3⟩:=trodAll_cons r2
  obtain⟨v4,vs4,d4,ds4,p4,q4,rfl,rfl,rfl,h4,r4⟩:=trodAll_cons r3
  obtain⟨rfl,rfl,rfl⟩:=trodAll_nil r4
  obtain rfl:args=#[v0,v1,v2,v3,v4]:=by cases args;simp_all
  obtain⟨rfl,rfl⟩:=trodVars_none hV
  obtain⟨a0,rfl,rfl,rfl,w0⟩:=open_int Tryz.underlying5 (hval 0 5 v0 rfl rfl) h0
  have b0:=bounds_u8 w0
  obtain⟨z0,rfl⟩:∃z:Nat,a0=z:=⟨a0.toNat,by omega⟩
  obtain⟨a1,rfl,rfl,rfl,w1⟩:=open_int Tryz.underlying5 (hval 1 5 v1 rfl rfl) h1
  have b1:=bounds_u8 w1
  obtain⟨z1,rfl⟩:∃z:Nat,a1=z:=⟨a1.toNat,by omega⟩
  obtain⟨l2,i2,e2,b2⟩:=Go.Proofs.Rs h2 (okWide_slice Tryz.underlying22 (hval 2 22 v2 rfl rfl))
  have f2:=b2 fun n hn=>by simpa using List.all_eq_true.1 hsz n (DataW.weights_mem_each (j:=2) rfl rfl n hn)
  obtain⟨l3,i3,e3,b3⟩:=Go.Proofs.Mo h3 (okWide_slice Tryz.underlying87 (hval 3 87 v3 rfl rfl))
  have f3:=b3 fun n hn=>by simpa using List.all_eq_true.1 hsz n (DataW.weights_mem_each (j:=3) rfl rfl n hn)
  obtain⟨a4,rfl,rfl,rfl,w4⟩:=open_int Tryz.underlying5 (hval 4 5 v4 rfl rfl) h4
  have b4:=bounds_u8 w4
  obtain⟨z4,rfl⟩:∃z:Nat,a4=z:=⟨a4.toNat,by omega⟩
  clear TN Qk
  simp only[List.append_nil]at WZ
  refine(Go.Proofs.Oo (Go.Proofs.nr (by omega) (by omega) (by omega) i2 e2 (by omega) i3 e3 (by omega) (Go.Proofs.yf _))).mono fun e W' ⟨he,hg⟩=>?_
  subst he
  exact⟨_,rfl,Go.Sx.KD rfl WZ rfl hg laid (by decide+kernel) rfl Tryz.underlying4⟩
theorem ZA{a b:Bool}(h1:a=true)(h2:b=true):(a&&b)=true:=by rw[h1,h2];rfl
set_option maxHeartbeats 4000000 in
theorem facts:joinedFacts Tryz.pinned.checked.prog 11 Tryz.f11 Rows.wholeStrategiesSpec Rows.wholeStrategiesRow=true:=by
  unfold joinedFacts
  with_reducible repeat' refine ZA ?_ ?_
  all_goals as_aux_lemma=>kernel_rfl
theorem iy:Rows.wholeStrategiesRow.holds Tryz.pinned (OpenSpec.ofChange Rows.wholeStrategiesSpec):=
  OpenClaim.holds_of_wide 11 Tryz.f11 rfl rfl rfl rfl rfl rfl rfl ⟨rfl,rfl,rfl,rfl,rfl⟩ rfl rfl rfl rfl rfl (by kernel_rfl) Tryz.func11 facts
    (of_decide_eq_true (by kernel_rfl)) (by unfold Func.isWrapper;first|(rw[if_pos (by decide+kernel)];kernel_rfl)|(rw[if_neg (by decide+kernel)];exact⟨rfl,rfl⟩))
    (fun os started H enc _=>lifted os started H enc)
theorem proved:Rows.WholeStrategiesSaid:=
  iy
#print axioms proved
end Go.Proofs.YtfgkdmbicjdeoaaGreat.wholeStrategies
