/-
  'thickettop.WholeTexts' returns true for every input, and the input reads as it did. No condition but that the listed tables start as the text lays them; none of them is read.
  What Write writes of a function of a grown garden, Read and Table read back; Read and Table answer any text alike.
-/
import Derived.Test.YtflhdclplgjbbaaGreatDoorRows
import Derived.WalkKit
import Derived.ProofKit
import Derived.OpenShut
import Derived.SizedLaws
import Derived.LaidMore
import Derived.ChangeMaps5
import Derived.Stop.Joined
import Derived.SevenTiedAt
import Derived.Test.YtflhdclplgjbbaaGreatDoorCards
import Derived.Test.YtflhdclplgjbbaaGreatDoorTie
import Derived.Test.YtflhdclplgjbbaaGreatDoorX1
import Derived.Test.YtflhdclplgjbbaaGreatDoorX5
import Derived.Test.YtflhdclplgjbbaaGreatDoorX4
namespace Go.Proofs.YtflhdclplgjbbaaGreatDoor.wholeTexts
open Go.ChangeShapes Go.WideShapes Go.ChangeAt Go.RowKit
set_option linter.unusedVariables false
theorem laid:laidOutB Tryz.prog=true:=by kernel_rfl
theorem own:ownKnob Tryz.prog.godebug=none:=by kernel_rfl
theorem ZC{a b:Bool}(h1:a=true)(h2:b=true):(a&&b)=true:=by rw[h1,h2];rfl
set_option maxHeartbeats 4000000 in
theorem facts:joinedFacts Tryz.pinned.checked.prog 3 Tryz.f3 Rows.wholeTextsSpec Rows.wholeTextsRow=true:=by
  unfold joinedFacts
  with_reducible repeat' refine ZC ?_ ?_
  all_goals as_aux_lemma=>kernel_rfl
/-- the door's own heap meets the condition -/
theorem LF(os:Os)(args:Array Value):laidMetH Tryz.prog Rows.wholeTextsRow.laid ((World.doorLaid Tryz.prog 400 os).forCall (fun _ _=>0) ⟨#[],args,[]⟩).memory:=
  laidMetH_of_parts3 (fuel:=8) (laidMet_of_run' 8 (by kernel_rfl) (by kernel_rfl)) (by kernel_rfl) (by kernel_rfl)
set_option maxRecDepth 100000 in
theorem lifted(os:Os)(started:os.Started)(H:Type)(enc:TypeId×Value→H):
    ReturnsInHanded {} Tryz.checked os 3 .any (fun w args=>(Rows.wholeTextsSpec.pre enc Tryz.prog Tryz.f3 [] false w args∧laidMetH Tryz.prog Rows.wholeTextsRow.laid w)∧sizedMet enc Tryz.prog Tryz.f3 (OpenSpec.ofChange Rows.wholeTextsSpec) false w args)
      (Rows.wholeTextsSpec.post enc Tryz.prog Tryz.f3 false true false false):=by
  refine returnsInHanded_of_change_and (C:=Tryz.checked) (X:=fun w _=>laidMetH Tryz.prog Rows.wholeTextsRow.laid w) (fun _ _ _ hh h=>h.of_heap hh) own started (by kernel_rfl) Tryz.func3
    (ChangeSpec.witness_shaped (enc:=enc) (C:=Tryz.checked) (os:=os) (X:=fun w _=>laidMetH Tryz.prog Rows.wholeTextsRow.laid w) false (World.doorLaid Tryz.prog 400 os) #[.int .u8 0,.slice none 0 0,.int .u8 0,.slice none 0 0,.string .empty] 8 rfl (World.shaped_of_RefB (by kernel_rfl) (by kernel_rfl)) (by kernel_rfl) (by kernel_rfl) (by kernel_rfl) (LF os _)) ?_
  intro W base args ds gs before PV hW ac1 XL hL _
  have hval:∀(j:Nat) t v,Tryz.f3.params[j]? =some t→args[j]? =some v→Value.okWide Tryz.prog W .any base t v:=PV
  have hsz:(DataW.weightsEach Tryz.prog (Tryz.f3.params.toList++Rows.wholeTextsSpec.plain.varTypes Tryz.prog) (ds++gs)).all (· ≤reachBytes)=true:=XL
  have Wx:=hW
  obtain⟨p,q,Zh,hV,rfl,hfz,iu⟩:=hW
  have hA:DataW.TrodAll enc Tryz.prog W 0 (fun _=>true) true Tryz.f3.params.toList args.toList ds p:=Zh
  rw[Tryz.params3]at hA hval hsz
  obtain⟨v0,vs0,d0,ds0,p0,q0,hargs,rfl,rfl,h0,r0⟩:=trodAll_cons hA
  obtain⟨v1,vs1,d1,ds1,p1,q1,rfl,rfl,rfl,h1,r1⟩:=trodAll_cons r0
  obtain⟨v2,vs2,d2,ds2,p2,q2,rfl,rfl,rfl,h2,r2⟩:=trodAll_cons r1
  obtain⟨v3,vs3,d3,ds3,p3,q3,rfl,rfl,rfl,h3,r3⟩:=trodAll_cons r2
  obtain⟨v4,vs4,d4,ds4,p4,q4,rfl,rfl,rfl,h4,r4⟩:=trodAll_cons r3
  obtain⟨rfl,rfl,rfl⟩:=trodAll_nil r4
  obtain rfl:args=#[v0,v1,v2,v3,v4]:=by cases args;simp_all
  obtain⟨rfl,rfl⟩:=trodVars_none hV
  obtain⟨a0,rfl,rfl,rfl,w0⟩:=open_int Tryz.underlying5 (hval 0 5 v0 rfl rfl) h0
  have b0:=bounds_u8 w0
  obtain⟨z0,rfl⟩:∃z:Nat,a0=z:=⟨a0.toNat,by omega⟩
  obtain⟨l1,i1,e1,b1⟩:=Go.Proofs.QS h1 (okWide_slice Tryz.underlying22 (hval 1 22 v1 rfl rfl))
  have f1:=b1 fun n hn=>by simpa using List.all_eq_true.1 hsz n (DataW.weights_mem_each (j:=1) rfl rfl n hn)
  obtain⟨a2,rfl,rfl,rfl,w2⟩:=open_int Tryz.underlying5 (hval 2 5 v2 rfl rfl) h2
  have b2:=bounds_u8 w2
  obtain⟨z2,rfl⟩:∃z:Nat,a2=z:=⟨a2.toNat,by omega⟩
  obtain⟨l3,i3,e3,b3⟩:=Go.Proofs.LQ h3 (okWide_slice Tryz.underlying23 (hval 3 23 v3 rfl rfl))
  have f3:=b3 fun n hn=>by simpa using List.all_eq_true.1 hsz n (DataW.weights_mem_each (j:=3) rfl rfl n hn)
  obtain⟨s4,rfl,rfl,rfl,m4⟩:=Go.ChangeMaps.open_string Tryz.underlying9 (hval 4 9 v4 rfl rfl) h4
  obtain⟨t4,rfl⟩:∃t:List UInt8,s4=⟨t.toArray⟩:=⟨s4.data.toList,by cases s4;rfl⟩
  clear Zh PV
  simp only[List.append_nil]at Wx
  refine(Go.Proofs.NN (Go.Proofs.ry (kB:=t4) (by omega) (by omega) i1 e1 (by omega) i3 e3 (by omega) (Go.Proofs.xl _))).mono fun e W' ⟨he,hg⟩=>?_
  subst he
  exact⟨_,rfl,Go.Sx.JM rfl Wx rfl hg laid (by decide+kernel) rfl Tryz.underlying4⟩
theorem over:Rows.wholeTextsRow.holds Tryz.pinned (OpenSpec.ofChange Rows.wholeTextsSpec):=
  OpenClaim.holds_of_wide 3 Tryz.f3 rfl rfl rfl rfl rfl rfl rfl ⟨rfl,rfl,rfl,rfl,rfl⟩ rfl rfl rfl rfl rfl (by kernel_rfl) Tryz.func3 facts
    (of_decide_eq_true (by kernel_rfl)) (by unfold Func.isWrapper;first|(rw[if_pos (by decide+kernel)];kernel_rfl)|(rw[if_neg (by decide+kernel)];exact⟨rfl,rfl⟩))
    (fun os started H enc _=>lifted os started H enc)
theorem row:Rows.WholeTextsSaid:=
  over
open Go
theorem proved:Rows.WholeTextsCardSaid:=
  Claim7.holds_tied_plain_at .later [] [.data,.data,.data] true (true, "e61207a2b4734fa6bfb5d6606885fb6b3f0306db561aaeb96f2a5417a9aeca6d") true
    row (fun _ h=>by cases h) (by kernel_rfl) (fun _ h=>by cases h) wholeTexts_row_tie rfl ⟨rfl,rfl⟩ (by kernel_rfl) rfl
    (fun f fn hf hfn=>by
      obtain rfl:f=3:=Option.some.inj ((show Tryz.prog.funcNamed "thicket/thickettop.WholeTexts" =some 3 by kernel_rfl).symm.trans hf)|>.symm
      obtain rfl:fn=Tryz.f3:=(Option.some.inj (Tryz.func3.symm.trans hfn)).symm
      exact⟨by kernel_rfl,fun j t ht=>by
        rw[Tryz.params3]at ht
        have hm:t∈[5,22,5,23,9]:=by simpa using Array.mem_of_getElem? ht
        have aI:([5,22,5,23,9].all fun u=> !Tryz.prog.wantsStandIn u)=true:=by kernel_rfl
        exact(show Tryz.prog.wantsStandIn t=false by simpa using List.all_eq_true.1 aI t hm)⟩)
    (by kernel_rfl)
#print axioms proved
end Go.Proofs.YtflhdclplgjbbaaGreatDoor.wholeTexts
