/-
  'thicketlaw26.ShellJoins' returns true for every input, and the input reads as it did. No condition but that the listed tables start as the text lays them.
  What and, or, xor and not make of two formulas at a shell is what the formula with the sign between says.
-/
import Derived.Test.YtpndkbhmngcmfaaGreatDoorRows
import Derived.WalkKit
import Derived.ProofKit
import Derived.OpenShut
import Derived.SizedLaws
import Derived.LaidMore
import Derived.ChangeMaps5
import Derived.Stop.Joined
import Derived.SevenTiedAt
import Derived.Test.YtpndkbhmngcmfaaGreatDoorCards
import Derived.Test.YtpndkbhmngcmfaaGreatDoorTie
import Derived.Test.YtpndkbhmngcmfaaGreatDoorJ1
import Derived.MakeChecks
import Derived.Test.YtpndkbhmngcmfaaGreatDoorJ4
namespace Go.Proofs.YtpndkbhmngcmfaaGreatDoor.shellJoins
open Go.ChangeShapes Go.WideShapes Go.ChangeAt Go.RowKit
set_option linter.unusedVariables false
theorem laid:laidOutB Tryz.prog=true:=by kernel_rfl
theorem own:ownKnob Tryz.prog.godebug=none:=by kernel_rfl
theorem Lq{a b:Bool}(h1:a=true)(h2:b=true):(a&&b)=true:=by rw[h1,h2];rfl
set_option maxHeartbeats 4000000 in
theorem facts:joinedFacts Tryz.pinned.checked.prog 3 Tryz.f3 Rows.shellJoinsSpec Rows.shellJoinsRow=true:=by
  unfold joinedFacts
  with_reducible repeat' refine Lq ?_ ?_
  all_goals as_aux_lemma=>kernel_rfl
/-- the door's own heap meets the condition -/
theorem Bj(os:Os)(args:Array Value):laidMetH Tryz.prog Rows.shellJoinsRow.laid ((World.doorLaid Tryz.prog 400 os).forCall (fun _ _=>0) ⟨#[],args,[]⟩).memory:=
  laidMetH_of_parts3 (fuel:=8) (laidMet_of_run' 8 (by kernel_rfl) (by kernel_rfl)) (by kernel_rfl) (by kernel_rfl)
set_option maxRecDepth 100000 in
theorem lifted(os:Os)(started:os.Started)(H:Type)(enc:TypeId×Value→H):
    ReturnsInHanded {} Tryz.checked os 3 .any (fun w args=>(Rows.shellJoinsSpec.pre enc Tryz.prog Tryz.f3 [] false w args∧laidMetH Tryz.prog Rows.shellJoinsRow.laid w)∧sizedMet enc Tryz.prog Tryz.f3 (OpenSpec.ofChange Rows.shellJoinsSpec) false w args)
      (Rows.shellJoinsSpec.post enc Tryz.prog Tryz.f3 false true false false):=by
  refine returnsInHanded_of_change_and (C:=Tryz.checked) (X:=fun w _=>laidMetH Tryz.prog Rows.shellJoinsRow.laid w) (fun _ _ _ hh h=>h.of_heap hh) own started (by kernel_rfl) Tryz.func3
    (ChangeSpec.witness_shaped (enc:=enc) (C:=Tryz.checked) (os:=os) (X:=fun w _=>laidMetH Tryz.prog Rows.shellJoinsRow.laid w) false (World.doorLaid Tryz.prog 400 os) #[.string .empty,.string .empty] 8 rfl (World.shaped_of_RefB (by kernel_rfl) (by kernel_rfl)) (by kernel_rfl) (by kernel_rfl) (by kernel_rfl) (Bj os _)) ?_
  intro W base args ds gs before Eb hW Od Ke hL _
  have hval:∀(j:Nat) t v,Tryz.f3.params[j]? =some t→args[j]? =some v→Value.okWide Tryz.prog W .any base t v:=Eb
  have hsz:(DataW.weightsEach Tryz.prog (Tryz.f3.params.toList++Rows.shellJoinsSpec.plain.varTypes Tryz.prog) (ds++gs)).all (· ≤reachBytes)=true:=Ke
  have Jg:=hW
  obtain⟨p,q,Lb,hV,rfl,hfz,n3⟩:=hW
  have hA:DataW.TrodAll enc Tryz.prog W 0 (fun _=>true) true Tryz.f3.params.toList args.toList ds p:=Lb
  rw[Tryz.params3]at hA hval hsz
  obtain⟨v0,Pq,d0,P2,p0,q0,hargs,rfl,rfl,h0,r0⟩:=trodAll_cons hA
  obtain⟨v1,Pp,d1,P1,p1,q1,rfl,rfl,rfl,h1,r1⟩:=trodAll_cons r0
  obtain⟨rfl,rfl,rfl⟩:=trodAll_nil r1
  obtain rfl:args=#[v0,v1]:=by cases args;simp_all
  obtain⟨rfl,rfl⟩:=trodVars_none hV
  obtain⟨s0,rfl,rfl,rfl,m0⟩:=Go.ChangeMaps.open_string Tryz.underlying9 (hval 0 9 v0 rfl rfl) h0
  obtain⟨t0,rfl⟩:∃t:List UInt8,s0=⟨t.toArray⟩:=⟨s0.data.toList,by cases s0;rfl⟩
  obtain⟨s1,rfl,rfl,rfl,m1⟩:=Go.ChangeMaps.open_string Tryz.underlying9 (hval 1 9 v1 rfl rfl) h1
  obtain⟨t1,rfl⟩:∃t:List UInt8,s1=⟨t.toArray⟩:=⟨s1.data.toList,by cases s1;rfl⟩
  clear Lb Eb
  simp only[List.append_nil]at Jg
  have Oq:laidMet Tryz.prog Rows.shellJoinsRow.laid W:=(Go.MakeChecks.laidMetH_plain Tryz.prog Rows.shellJoinsRow.laid W (by kernel_rfl))▸hL
  refine(Go.Proofs.C5 (Go.Proofs.Ac Oq fun T fz Y=>Go.Proofs.my (f:=t0) (g:=t1))).mono fun e W' ⟨he,hg⟩=>?_
  subst he
  exact⟨_,rfl,Go.Sx.Ab rfl Jg rfl hg laid (by decide+kernel) rfl Tryz.underlying4⟩
theorem over:Rows.shellJoinsRow.holds Tryz.pinned (OpenSpec.ofChange Rows.shellJoinsSpec):=
  OpenClaim.holds_of_wide 3 Tryz.f3 rfl rfl rfl rfl rfl rfl rfl ⟨rfl,rfl,rfl,rfl,rfl⟩ rfl rfl rfl rfl rfl (by kernel_rfl) Tryz.func3 facts
    (of_decide_eq_true (by kernel_rfl)) (by unfold Func.isWrapper;first|(rw[if_pos (by decide+kernel)];kernel_rfl)|(rw[if_neg (by decide+kernel)];exact⟨rfl,rfl⟩))
    (fun os started H enc _=>lifted os started H enc)
theorem row:Rows.ShellJoinsSaid:=
  over
open Go
theorem proved:Rows.ShellJoinsCardSaid:=
  Claim7.holds_tied_plain_at .later [] [.data,.data,.data] true (true, "264e3f4e80df961e0b3b63596259f9b080096f63e045913e2444f7f7dbd4147e") true
    row (fun _ h=>by cases h) (by kernel_rfl) (fun _ h=>by cases h) shellJoins_row_tie rfl ⟨rfl,rfl⟩ (by kernel_rfl) rfl
    (fun f fn hf hfn=>by
      obtain rfl:f=3:=Option.some.inj ((show Tryz.prog.funcNamed "thicket/thicketlaw26.ShellJoins" =some 3 by kernel_rfl).symm.trans hf)|>.symm
      obtain rfl:fn=Tryz.f3:=(Option.some.inj (Tryz.func3.symm.trans hfn)).symm
      exact⟨by kernel_rfl,fun j t ht=>by
        rw[Tryz.params3]at ht
        have hm:t∈[9,9]:=by simpa using Array.mem_of_getElem? ht
        have aL:([9,9].all fun u=> !Tryz.prog.wantsStandIn u)=true:=by kernel_rfl
        exact(show Tryz.prog.wantsStandIn t=false by simpa using List.all_eq_true.1 aL t hm)⟩)
    (by kernel_rfl)
#print axioms proved
end Go.Proofs.YtpndkbhmngcmfaaGreatDoor.shellJoins
