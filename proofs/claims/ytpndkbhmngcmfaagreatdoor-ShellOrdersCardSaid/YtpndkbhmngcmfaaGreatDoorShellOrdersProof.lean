/-
  'thicketlaw26.ShellOrders' returns true for every input, and the input reads as it did. No condition but that the listed tables start as the text lays them.
  Whatever is done to the order, the name counts as its table does.
-/
import Derived.Test.YtpndkbhmngcmfaaGreatDoorRows
import Derived.WalkKit
import Derived.ProofKit
import Derived.OpenShut
import Derived.SizedLaws
import Derived.LaidMore
import Derived.ChangeMaps5
import Derived.Stop.Joined
import Derived.SevenTiedAt
import Derived.Test.YtpndkbhmngcmfaaGreatDoorCards
import Derived.Test.YtpndkbhmngcmfaaGreatDoorTie
import Derived.Test.YtpndkbhmngcmfaaGreatDoorO1
import Derived.MakeChecks
import Derived.Test.YtpndkbhmngcmfaaGreatDoorO6
namespace Go.Proofs.YtpndkbhmngcmfaaGreatDoor.shellOrders
open Go.ChangeShapes Go.WideShapes Go.ChangeAt Go.RowKit
set_option linter.unusedVariables false
theorem laid:laidOutB Tryz.prog=true:=by kernel_rfl
theorem own:ownKnob Tryz.prog.godebug=none:=by kernel_rfl
theorem agf{a b:Bool}(h1:a=true)(h2:b=true):(a&&b)=true:=by rw[h1,h2];rfl
set_option maxHeartbeats 4000000 in
theorem facts:joinedFacts Tryz.pinned.checked.prog 5 Tryz.f5 Rows.shellOrdersSpec Rows.shellOrdersRow=true:=by
  unfold joinedFacts
  with_reducible repeat' refine agf ?_ ?_
  all_goals as_aux_lemma=>kernel_rfl
/-- the door's own heap meets the condition -/
theorem RP(os:Os)(args:Array Value):laidMetH Tryz.prog Rows.shellOrdersRow.laid ((World.doorLaid Tryz.prog 400 os).forCall (fun _ _=>0) ⟨#[],args,[]⟩).memory:=
  laidMetH_of_parts3 (fuel:=8) (laidMet_of_run' 8 (by kernel_rfl) (by kernel_rfl)) (by kernel_rfl) (by kernel_rfl)
set_option maxRecDepth 100000 in
theorem lifted(os:Os)(started:os.Started)(H:Type)(enc:TypeId×Value→H):
    ReturnsInHanded {} Tryz.checked os 5 .any (fun w args=>(Rows.shellOrdersSpec.pre enc Tryz.prog Tryz.f5 [] false w args∧laidMetH Tryz.prog Rows.shellOrdersRow.laid w)∧sizedMet enc Tryz.prog Tryz.f5 (OpenSpec.ofChange Rows.shellOrdersSpec) false w args)
      (Rows.shellOrdersSpec.post enc Tryz.prog Tryz.f5 false true false false):=by
  refine returnsInHanded_of_change_and (C:=Tryz.checked) (X:=fun w _=>laidMetH Tryz.prog Rows.shellOrdersRow.laid w) (fun _ _ _ hh h=>h.of_heap hh) own started (by kernel_rfl) Tryz.func5
    (ChangeSpec.witness_shaped (enc:=enc) (C:=Tryz.checked) (os:=os) (X:=fun w _=>laidMetH Tryz.prog Rows.shellOrdersRow.laid w) false (World.doorLaid Tryz.prog 400 os) #[.string .empty,.slice none 0 0] 8 rfl (World.shaped_of_RefB (by kernel_rfl) (by kernel_rfl)) (by kernel_rfl) (by kernel_rfl) (by kernel_rfl) (RP os _)) ?_
  intro W base args ds gs before WB hW aj0 aey hL _
  have hval:∀(j:Nat) t v,Tryz.f5.params[j]? =some t→args[j]? =some v→Value.okWide Tryz.prog W .any base t v:=WB
  have hsz:(DataW.weightsEach Tryz.prog (Tryz.f5.params.toList++Rows.shellOrdersSpec.plain.varTypes Tryz.prog) (ds++gs)).all (· ≤reachBytes)=true:=aey
  have hW':=hW
  obtain⟨p,q,hA0,hV,rfl,hfz,gE⟩:=hW
  have hA:DataW.TrodAll enc Tryz.prog W 0 (fun _=>true) true Tryz.f5.params.toList args.toList ds p:=hA0
  rw[Tryz.params5]at hA hval hsz
  obtain⟨v0,vs0,d0,ds0,p0,q0,hargs,rfl,rfl,h0,r0⟩:=trodAll_cons hA
  obtain⟨v1,vs1,d1,ds1,p1,q1,rfl,rfl,rfl,h1,r1⟩:=trodAll_cons r0
  obtain⟨rfl,rfl,rfl⟩:=trodAll_nil r1
  obtain rfl:args=#[v0,v1]:=by cases args;simp_all
  obtain⟨rfl,rfl⟩:=trodVars_none hV
  obtain⟨s0,rfl,rfl,rfl,m0⟩:=Go.ChangeMaps.open_string Tryz.underlying9 (hval 0 9 v0 rfl rfl) h0
  obtain⟨t0,rfl⟩:∃t:List UInt8,s0=⟨t.toArray⟩:=⟨s0.data.toList,by cases s0;rfl⟩
  obtain⟨l1,i1,e1,b1⟩:=Go.Proofs.Sa h1 (okWide_slice Tryz.underlying34 (hval 1 34 v1 rfl rfl))
  have f1:=b1 fun n hn=>by simpa using List.all_eq_true.1 hsz n (DataW.weights_mem_each (j:=1) rfl rfl n hn)
  clear hA0 WB
  simp only[List.append_nil]at hW'
  have hL2:laidMet Tryz.prog Rows.shellOrdersRow.laid W:=(Go.MakeChecks.laidMetH_plain Tryz.prog Rows.shellOrdersRow.laid W (by kernel_rfl))▸hL
  refine(Go.Proofs.UD (Go.Proofs.Lv hL2 fun T fz Y hY=>Go.Proofs.tq (l:=t0) (i1.mono hY) e1 (Nat.lt_of_le_of_lt f1 (by decide)))).mono fun e W' ⟨he,hg⟩=>?_
  subst he
  exact⟨_,rfl,Go.Sx.Qe rfl hW' rfl hg laid (by decide+kernel) rfl Tryz.underlying4⟩
theorem over:Rows.shellOrdersRow.holds Tryz.pinned (OpenSpec.ofChange Rows.shellOrdersSpec):=
  OpenClaim.holds_of_wide 5 Tryz.f5 rfl rfl rfl rfl rfl rfl rfl ⟨rfl,rfl,rfl,rfl,rfl⟩ rfl rfl rfl rfl rfl (by kernel_rfl) Tryz.func5 facts
    (of_decide_eq_true (by kernel_rfl)) (by unfold Func.isWrapper;first|(rw[if_pos (by decide+kernel)];kernel_rfl)|(rw[if_neg (by decide+kernel)];exact⟨rfl,rfl⟩))
    (fun os started H enc _=>lifted os started H enc)
theorem row:Rows.ShellOrdersSaid:=
  over
open Go
theorem proved:Rows.ShellOrdersCardSaid:=
  Claim7.holds_tied_plain_at .later [] [.data,.data,.data] true (true, "264e3f4e80df961e0b3b63596259f9b080096f63e045913e2444f7f7dbd4147e") true
    row (fun _ h=>by cases h) (by kernel_rfl) (fun _ h=>by cases h) shellOrders_row_tie rfl ⟨rfl,rfl⟩ (by kernel_rfl) rfl
    (fun f fn hf hfn=>by
      obtain rfl:f=5:=Option.some.inj ((show Tryz.prog.funcNamed "thicket/thicketlaw26.ShellOrders" =some 5 by kernel_rfl).symm.trans hf)|>.symm
      obtain rfl:fn=Tryz.f5:=(Option.some.inj (Tryz.func5.symm.trans hfn)).symm
      exact⟨by kernel_rfl,fun j t ht=>by
        rw[Tryz.params5]at ht
        have hm:t∈[9,34]:=by simpa using Array.mem_of_getElem? ht
        have aF:([9,34].all fun u=> !Tryz.prog.wantsStandIn u)=true:=by kernel_rfl
        exact(show Tryz.prog.wantsStandIn t=false by simpa using List.all_eq_true.1 aF t hm)⟩)
    (by kernel_rfl)
#print axioms proved
end Go.Proofs.YtpndkbhmngcmfaaGreatDoor.shellOrders
