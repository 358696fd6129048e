/-
  'thicketlaw26.ShellLimits' returns true for every input, and the input reads as it did. No condition but that the listed tables start as the text lays them.
  The longest line and name, the kernels that may be made, and where each fault stands.
-/
import Derived.Test.YtpndkbhmngcmfaaGreatDoorRows
import Derived.WalkKit
import Derived.ProofKit
import Derived.OpenShut
import Derived.SizedLaws
import Derived.LaidMore
import Derived.ChangeMaps5
import Derived.Stop.Joined
import Derived.SevenTiedAt
import Derived.Test.YtpndkbhmngcmfaaGreatDoorCards
import Derived.Test.YtpndkbhmngcmfaaGreatDoorTie
import Derived.Test.YtpndkbhmngcmfaaGreatDoorL1
import Derived.MakeChecks
import Derived.Test.YtpndkbhmngcmfaaGreatDoorL4
namespace Go.Proofs.YtpndkbhmngcmfaaGreatDoor.shellLimits
open Go.ChangeShapes Go.WideShapes Go.ChangeAt Go.RowKit
set_option linter.unusedVariables false
theorem laid:laidOutB Tryz.prog=true:=by kernel_rfl
theorem own:ownKnob Tryz.prog.godebug=none:=by kernel_rfl
theorem LV{a b:Bool}(h1:a=true)(h2:b=true):(a&&b)=true:=by rw[h1,h2];rfl
set_option maxHeartbeats 4000000 in
theorem facts:joinedFacts Tryz.pinned.checked.prog 4 Tryz.f4 Rows.shellLimitsSpec Rows.shellLimitsRow=true:=by
  unfold joinedFacts
  with_reducible repeat' refine LV ?_ ?_
  all_goals as_aux_lemma=>kernel_rfl
/-- the door's own heap meets the condition -/
theorem A9(os:Os)(args:Array Value):laidMetH Tryz.prog Rows.shellLimitsRow.laid ((World.doorLaid Tryz.prog 400 os).forCall (fun _ _=>0) ⟨#[],args,[]⟩).memory:=
  laidMetH_of_parts3 (fuel:=8) (laidMet_of_run' 8 (by kernel_rfl) (by kernel_rfl)) (by kernel_rfl) (by kernel_rfl)
set_option maxRecDepth 100000 in
theorem lifted(os:Os)(started:os.Started)(H:Type)(enc:TypeId×Value→H):
    ReturnsInHanded {} Tryz.checked os 4 .any (fun w args=>(Rows.shellLimitsSpec.pre enc Tryz.prog Tryz.f4 [] false w args∧laidMetH Tryz.prog Rows.shellLimitsRow.laid w)∧sizedMet enc Tryz.prog Tryz.f4 (OpenSpec.ofChange Rows.shellLimitsSpec) false w args)
      (Rows.shellLimitsSpec.post enc Tryz.prog Tryz.f4 false true false false):=by
  refine returnsInHanded_of_change_and (C:=Tryz.checked) (X:=fun w _=>laidMetH Tryz.prog Rows.shellLimitsRow.laid w) (fun _ _ _ hh h=>h.of_heap hh) own started (by kernel_rfl) Tryz.func4
    (ChangeSpec.witness_shaped (enc:=enc) (C:=Tryz.checked) (os:=os) (X:=fun w _=>laidMetH Tryz.prog Rows.shellLimitsRow.laid w) false (World.doorLaid Tryz.prog 400 os) #[] 8 rfl (World.shaped_of_RefB (by kernel_rfl) (by kernel_rfl)) (by kernel_rfl) (by kernel_rfl) (by kernel_rfl) (A9 os _)) ?_
  intro W base args ds gs before Eg hW OI Kg hL _
  have hval:∀(j:Nat) t v,Tryz.f4.params[j]? =some t→args[j]? =some v→Value.okWide Tryz.prog W .any base t v:=Eg
  have hsz:(DataW.weightsEach Tryz.prog (Tryz.f4.params.toList++Rows.shellLimitsSpec.plain.varTypes Tryz.prog) (ds++gs)).all (· ≤reachBytes)=true:=Kg
  have Jg:=hW
  obtain⟨p,q,LC,hV,rfl,hfz,iT⟩:=hW
  have hA:DataW.TrodAll enc Tryz.prog W 0 (fun _=>true) true Tryz.f4.params.toList args.toList ds p:=LC
  rw[Tryz.params4]at hA hval hsz
  obtain⟨hargs,rfl,rfl⟩:=trodAll_nil hA
  obtain rfl:args=#[]:=by cases args;simp_all
  obtain⟨rfl,rfl⟩:=trodVars_none hV
  clear LC Eg
  simp only[List.append_nil]at Jg
  have O0:laidMet Tryz.prog Rows.shellLimitsRow.laid W:=(Go.MakeChecks.laidMetH_plain Tryz.prog Rows.shellLimitsRow.laid W (by kernel_rfl))▸hL
  refine(Go.Proofs.CE (Go.Proofs.z5 O0 fun T fz Y=>Go.Proofs.lj)).mono fun e W' ⟨he,hg⟩=>?_
  subst he
  exact⟨_,rfl,Go.Sx.z4 rfl Jg rfl hg laid (by decide+kernel) rfl Tryz.underlying4⟩
theorem over:Rows.shellLimitsRow.holds Tryz.pinned (OpenSpec.ofChange Rows.shellLimitsSpec):=
  OpenClaim.holds_of_wide 4 Tryz.f4 rfl rfl rfl rfl rfl rfl rfl ⟨rfl,rfl,rfl,rfl,rfl⟩ rfl rfl rfl rfl rfl (by kernel_rfl) Tryz.func4 facts
    (of_decide_eq_true (by kernel_rfl)) (by unfold Func.isWrapper;first|(rw[if_pos (by decide+kernel)];kernel_rfl)|(rw[if_neg (by decide+kernel)];exact⟨rfl,rfl⟩))
    (fun os started H enc _=>lifted os started H enc)
theorem row:Rows.ShellLimitsSaid:=
  over
open Go
theorem proved:Rows.ShellLimitsCardSaid:=
  Claim7.holds_tied_plain_at .later [] [.data,.data,.data] true (true, "264e3f4e80df961e0b3b63596259f9b080096f63e045913e2444f7f7dbd4147e") true
    row (fun _ h=>by cases h) (by kernel_rfl) (fun _ h=>by cases h) shellLimits_row_tie rfl ⟨rfl,rfl⟩ (by kernel_rfl) rfl
    (fun f fn hf hfn=>by
      obtain rfl:f=4:=Option.some.inj ((show Tryz.prog.funcNamed "thicket/thicketlaw26.ShellLimits" =some 4 by kernel_rfl).symm.trans hf)|>.symm
      obtain rfl:fn=Tryz.f4:=(Option.some.inj (Tryz.func4.symm.trans hfn)).symm
      exact⟨by kernel_rfl,fun j t ht=>by
        rw[Tryz.params4]at ht
        exact absurd ht (by simp)⟩)
    (by kernel_rfl)
#print axioms proved
end Go.Proofs.YtpndkbhmngcmfaaGreatDoor.shellLimits
