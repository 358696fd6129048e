/-
  'thickettop.WholeShell' returns true for every input, and the input reads as it did. No condition but that the listed tables start as the text lays them.
  What the shell tells of a formula is what its table says, in whatever order; and its text says it again.
-/
import Derived.Test.YtmngikblgfodnaaGreatDoorRows
import Derived.WalkKit
import Derived.ProofKit
import Derived.OpenShut
import Derived.SizedLaws
import Derived.LaidMore
import Derived.ChangeMaps5
import Derived.Stop.Joined
import Derived.SevenTiedAt
import Derived.Test.YtmngikblgfodnaaGreatDoorCards
import Derived.Test.YtmngikblgfodnaaGreatDoorTie
import Derived.Test.YtmngikblgfodnaaGreatDoorH1
import Derived.MakeChecks
import Derived.Test.YtmngikblgfodnaaGreatDoorH6
namespace Go.Proofs.YtmngikblgfodnaaGreatDoor.wholeShell
open Go.ChangeShapes Go.WideShapes Go.ChangeAt Go.RowKit
set_option linter.unusedVariables false
theorem laid:laidOutB Tryz.prog=true:=by kernel_rfl
theorem own:ownKnob Tryz.prog.godebug=none:=by kernel_rfl
theorem af6{a b:Bool}(h1:a=true)(h2:b=true):(a&&b)=true:=by rw[h1,h2];rfl
set_option maxHeartbeats 4000000 in
theorem facts:joinedFacts Tryz.pinned.checked.prog 3 Tryz.f3 Rows.wholeShellSpec Rows.wholeShellRow=true:=by
  unfold joinedFacts
  with_reducible repeat' refine af6 ?_ ?_
  all_goals as_aux_lemma=>kernel_rfl
/-- the door's own heap meets the condition -/
theorem Rg(os:Os)(args:Array Value):laidMetH Tryz.prog Rows.wholeShellRow.laid ((World.doorLaid Tryz.prog 400 os).forCall (fun _ _=>0) ⟨#[],args,[]⟩).memory:=
  laidMetH_of_parts3 (fuel:=8) (laidMet_of_run' 8 (by kernel_rfl) (by kernel_rfl)) (by kernel_rfl) (by kernel_rfl)
set_option maxRecDepth 100000 in
theorem lifted(os:Os)(started:os.Started)(H:Type)(enc:TypeId×Value→H):
    ReturnsInHanded {} Tryz.checked os 3 .any (fun w args=>(Rows.wholeShellSpec.pre enc Tryz.prog Tryz.f3 [] false w args∧laidMetH Tryz.prog Rows.wholeShellRow.laid w)∧sizedMet enc Tryz.prog Tryz.f3 (OpenSpec.ofChange Rows.wholeShellSpec) false w args)
      (Rows.wholeShellSpec.post enc Tryz.prog Tryz.f3 false true false false):=by
  refine returnsInHanded_of_change_and (C:=Tryz.checked) (X:=fun w _=>laidMetH Tryz.prog Rows.wholeShellRow.laid w) (fun _ _ _ hh h=>h.of_heap hh) own started (by kernel_rfl) Tryz.func3
    (ChangeSpec.witness_shaped (enc:=enc) (C:=Tryz.checked) (os:=os) (X:=fun w _=>laidMetH Tryz.prog Rows.wholeShellRow.laid w) false (World.doorLaid Tryz.prog 400 os) #[.string .empty,.int .u8 0,.int .u8 0] 8 rfl (World.shaped_of_RefB (by kernel_rfl) (by kernel_rfl)) (by kernel_rfl) (by kernel_rfl) (by kernel_rfl) (Rg os _)) ?_
  intro W base args ds gs before V5 hW ajL ael hL _
  have hval:∀(j:Nat) t v,Tryz.f3.params[j]? =some t→args[j]? =some v→Value.okWide Tryz.prog W .any base t v:=V5
  have hsz:(DataW.weightsEach Tryz.prog (Tryz.f3.params.toList++Rows.wholeShellSpec.plain.varTypes Tryz.prog) (ds++gs)).all (· ≤reachBytes)=true:=ael
  have hW':=hW
  obtain⟨p,q,hA0,hV,rfl,hfz,gw⟩:=hW
  have hA:DataW.TrodAll enc Tryz.prog W 0 (fun _=>true) true Tryz.f3.params.toList args.toList ds p:=hA0
  rw[Tryz.params3]at hA hval hsz
  obtain⟨v0,vs0,d0,ds0,p0,q0,hargs,rfl,rfl,h0,r0⟩:=trodAll_cons hA
  obtain⟨v1,vs1,d1,ds1,p1,q1,rfl,rfl,rfl,h1,r1⟩:=trodAll_cons r0
  obtain⟨v2,vs2,d2,ds2,p2,q2,rfl,rfl,rfl,h2,r2⟩:=trodAll_cons r1
  obtain⟨rfl,rfl,rfl⟩:=trodAll_nil r2
  obtain rfl:args=#[v0,v1,v2]:=by cases args;simp_all
  obtain⟨rfl,rfl⟩:=trodVars_none hV
  obtain⟨s0,rfl,rfl,rfl,m0⟩:=Go.ChangeMaps.open_string Tryz.underlying9 (hval 0 9 v0 rfl rfl) h0
  obtain⟨t0,rfl⟩:∃t:List UInt8,s0=⟨t.toArray⟩:=⟨s0.data.toList,by cases s0;rfl⟩
  obtain⟨a1,rfl,rfl,rfl,w1⟩:=open_int Tryz.underlying5 (hval 1 5 v1 rfl rfl) h1
  have b1:=bounds_u8 w1
  obtain⟨z1,rfl⟩:∃z:Nat,a1=z:=⟨a1.toNat,by omega⟩
  obtain⟨a2,rfl,rfl,rfl,w2⟩:=open_int Tryz.underlying5 (hval 2 5 v2 rfl rfl) h2
  have b2:=bounds_u8 w2
  obtain⟨z2,rfl⟩:∃z:Nat,a2=z:=⟨a2.toNat,by omega⟩
  clear hA0 V5
  simp only[List.append_nil]at hW'
  have hL2:laidMet Tryz.prog Rows.wholeShellRow.laid W:=(Go.MakeChecks.laidMetH_plain Tryz.prog Rows.wholeShellRow.laid W (by kernel_rfl))▸hL
  refine(Go.Proofs.T7 (Go.Proofs.Pw hL2 fun T fz Y=>Go.Proofs.tX (l:=t0) (x:=z1) (k:=z2) (by omega) (by omega))).mono fun e W' ⟨he,hg⟩=>?_
  subst he
  exact⟨_,rfl,Go.Sx.Pv rfl hW' rfl hg laid (by decide+kernel) rfl Tryz.underlying4⟩
theorem over:Rows.wholeShellRow.holds Tryz.pinned (OpenSpec.ofChange Rows.wholeShellSpec):=
  OpenClaim.holds_of_wide 3 Tryz.f3 rfl rfl rfl rfl rfl rfl rfl ⟨rfl,rfl,rfl,rfl,rfl⟩ rfl rfl rfl rfl rfl (by kernel_rfl) Tryz.func3 facts
    (of_decide_eq_true (by kernel_rfl)) (by unfold Func.isWrapper;first|(rw[if_pos (by decide+kernel)];kernel_rfl)|(rw[if_neg (by decide+kernel)];exact⟨rfl,rfl⟩))
    (fun os started H enc _=>lifted os started H enc)
theorem row:Rows.WholeShellSaid:=
  over
open Go
theorem proved:Rows.WholeShellCardSaid:=
  Claim7.holds_tied_plain_at .later [] [.data,.data,.data] true (true, "2b27461d74c88e3871eb0aa7e0a200357108f28709a314fdcb7b668b3b0153e9") true
    row (fun _ h=>by cases h) (by kernel_rfl) (fun _ h=>by cases h) wholeShell_row_tie rfl ⟨rfl,rfl⟩ (by kernel_rfl) rfl
    (fun f fn hf hfn=>by
      obtain rfl:f=3:=Option.some.inj ((show Tryz.prog.funcNamed "thicket/thickettop.WholeShell" =some 3 by kernel_rfl).symm.trans hf)|>.symm
      obtain rfl:fn=Tryz.f3:=(Option.some.inj (Tryz.func3.symm.trans hfn)).symm
      exact⟨by kernel_rfl,fun j t ht=>by
        rw[Tryz.params3]at ht
        have hm:t∈[9,5,5]:=by simpa using Array.mem_of_getElem? ht
        have aD:([9,5,5].all fun u=> !Tryz.prog.wantsStandIn u)=true:=by kernel_rfl
        exact(show Tryz.prog.wantsStandIn t=false by simpa using List.all_eq_true.1 aD t hm)⟩)
    (by kernel_rfl)
#print axioms proved
end Go.Proofs.YtmngikblgfodnaaGreatDoor.wholeShell
