/-
  No cell of these rows narrows 'for every input' (looked for: loops, veiled, ifaces, maps, wideKeys, modest, calm, conditions, laid).
  DERIVED. THE GIVEN ROWS OF THIS SEAT. 3 by the template 'for every input the law returns true; each argument reads behind the call as it read before'; 0 by the template 'total and deterministic' (their statements: YtflhdclplgjbbaaGreatTotals.lean).
  GIVEN WITH THE SEED: the statements are not yours to turn. If you find one false, say at which input.
  Laid BY PROGRAM, IN A SANDBOX (cutbox-rows.mjs): the forced cells as the released guide's own fill.sh prints them over the translation 2ea019e0b956cc16… (all of the seat's roots in one cut). By AI agents, Wed Nov 11 2026. No macro, syntax, notation, axiom, sorry.
-/
import Derived.Test.YtflhdclplgjbbaaGreatChecked
import GoSem.Claim
import GoSem.ClaimJoined
import GoSem.ClaimMapViews
import Derived.JoinedTies
import Derived.KernelRfl
namespace Go.Proofs.YtflhdclplgjbbaaGreat
/- THE CELL 'sum', in the pinned program and in every row, IS THE sha256 OF THE DUMP (.gsa) THAT YtflhdclplgjbbaaGreatProg.lean LOADS. Nothing in Lean hashes anything: it is a label: what it is worth is what the hold of that sum in a sandbox is worth. -/
noncomputable def Tryz.pinned : Pinned := { name := "ytflhdclplgjbbaagreat", sum := "2ea019e0b956cc163b297eab819867e743a71b52be4fa5aca619b270ba916db3", checked := Tryz.checked }
namespace Rows
def none {H : Type} : Left H := { results := [], args := [] }

/-- 'thicketlaw23.SessionPlay': WHATEVER THE INPUT: true; the input reads as it did. -/
def sessionPlaySpec : ChangeSpec := { name := "sessionPlay", fn := fun _ => fun
  | [d1, d2] => { results := [.lit (.bool true)], args := [d1, d2] }
  | _ => none }
def sessionPlayRow : OpenClaim := { program := "ytflhdclplgjbbaagreat", sum := "2ea019e0b956cc163b297eab819867e743a71b52be4fa5aca619b270ba916db3", func := "thicket/thicketlaw23.SessionPlay", spec := "sessionPlay", unfollowed := true, recurses := true, plainKeys := false, apart := false }
def SessionPlaySaid : Prop := sessionPlayRow.holds Tryz.pinned (OpenSpec.ofChange sessionPlaySpec)

/-- ITS FALSE NEIGHBOUR: 'it returns false'. Refute it at one input. -/
def sessionPlayWrong : ChangeSpec := { name := "sessionPlay", fn := fun _ => fun
  | [d1, d2] => { results := [.lit (.bool false)], args := [d1, d2] }
  | _ => none }
def SessionPlayWrongFalsely : Prop := sessionPlayRow.holds Tryz.pinned (OpenSpec.ofChange sessionPlayWrong)

/-- 'thicketlaw23.SessionRoom': WHATEVER THE INPUT: true; the input reads as it did. -/
def sessionRoomSpec : ChangeSpec := { name := "sessionRoom", fn := fun _ => fun
  | [d1, d2] => { results := [.lit (.bool true)], args := [d1, d2] }
  | _ => none }
def sessionRoomRow : OpenClaim := { program := "ytflhdclplgjbbaagreat", sum := "2ea019e0b956cc163b297eab819867e743a71b52be4fa5aca619b270ba916db3", func := "thicket/thicketlaw23.SessionRoom", spec := "sessionRoom", unfollowed := true, recurses := true, plainKeys := false, apart := false }
def SessionRoomSaid : Prop := sessionRoomRow.holds Tryz.pinned (OpenSpec.ofChange sessionRoomSpec)

/-- ITS FALSE NEIGHBOUR: 'it returns false'. Refute it at one input. -/
def sessionRoomWrong : ChangeSpec := { name := "sessionRoom", fn := fun _ => fun
  | [d1, d2] => { results := [.lit (.bool false)], args := [d1, d2] }
  | _ => none }
def SessionRoomWrongFalsely : Prop := sessionRoomRow.holds Tryz.pinned (OpenSpec.ofChange sessionRoomWrong)

/-- 'thicketlaw23.SessionMemory': WHATEVER THE INPUT: true; the input reads as it did. -/
def sessionMemorySpec : ChangeSpec := { name := "sessionMemory", fn := fun _ => fun
  | [d1, d2] => { results := [.lit (.bool true)], args := [d1, d2] }
  | _ => none }
def sessionMemoryRow : OpenClaim := { program := "ytflhdclplgjbbaagreat", sum := "2ea019e0b956cc163b297eab819867e743a71b52be4fa5aca619b270ba916db3", func := "thicket/thicketlaw23.SessionMemory", spec := "sessionMemory", unfollowed := true, recurses := true, plainKeys := false, apart := false }
def SessionMemorySaid : Prop := sessionMemoryRow.holds Tryz.pinned (OpenSpec.ofChange sessionMemorySpec)

/-- ITS FALSE NEIGHBOUR: 'it returns false'. Refute it at one input. -/
def sessionMemoryWrong : ChangeSpec := { name := "sessionMemory", fn := fun _ => fun
  | [d1, d2] => { results := [.lit (.bool false)], args := [d1, d2] }
  | _ => none }
def SessionMemoryWrongFalsely : Prop := sessionMemoryRow.holds Tryz.pinned (OpenSpec.ofChange sessionMemoryWrong)

/- THE SECOND FORM. 'bulk': how many values and letters a reading holds, each counted each time it is reached (what is shared counts as often as it is met; a slice's spare places count too). A statement '..UptoSaid' is the law's where the arguments, and the package variables that the reading takes, are together of bulk at most 1048576: NARROWER than '..Said'. Prove '..Said' where nothing that the law and all that it calls make is longer than what came in: it says more and counts as full. Else prove '..UptoSaid'. A law counts once. -/
mutual
def uptoBulk {H : Type} : DataW H → Nat
  | .lit (.string bytes) => bytes.length + 1
  | .lit _ => 1
  | .nil => 1
  | .ptr d => uptoBulk d + 1
  | .slice elems spare => uptoBulkAll elems + uptoBulkAll spare + 1
  | .agg parts => uptoBulkAll parts + 1
  | .iface _ d => uptoBulk d + 1
  | .map entries => uptoBulkEntries entries + 1
  | .held _ => 1
def uptoBulkAll {H : Type} : List (DataW H) → Nat
  | [] => 0
  | d :: r => uptoBulk d + uptoBulkAll r
def uptoBulkEntries {H : Type} : List (Lit × DataW H) → Nat
  | [] => 0
  | x :: r => uptoBulkEntry x + uptoBulkEntries r
def uptoBulkEntry {H : Type} : Lit × DataW H → Nat
  | (.string bytes, d) => bytes.length + uptoBulk d + 1
  | (_, d) => uptoBulk d + 1
 end
def uptoSmall : (H : Type) → List (DataW H) → Bool := fun _ ds => decide (uptoBulkAll ds ≤ 1048576)
def OpenSpec.upto (s : _root_.Go.ChangeSpec) : _root_.Go.OpenSpec := { _root_.Go.OpenSpec.ofChange s with cond := some uptoSmall }

/-- 'thicketlaw23.SessionPlay', WHERE WHAT IT READS IS OF BULK AT MOST 1048576: true; the input reads as it did. -/
def sessionPlayUptoRow : OpenClaim := { program := "ytflhdclplgjbbaagreat", sum := "2ea019e0b956cc163b297eab819867e743a71b52be4fa5aca619b270ba916db3", func := "thicket/thicketlaw23.SessionPlay", spec := "sessionPlay", unfollowed := true, recurses := true, plainKeys := false, apart := false, narrowed := true }
def SessionPlayUptoSaid : Prop := sessionPlayUptoRow.holds Tryz.pinned (OpenSpec.upto sessionPlaySpec)

/-- 'thicketlaw23.SessionRoom', WHERE WHAT IT READS IS OF BULK AT MOST 1048576: true; the input reads as it did. -/
def sessionRoomUptoRow : OpenClaim := { program := "ytflhdclplgjbbaagreat", sum := "2ea019e0b956cc163b297eab819867e743a71b52be4fa5aca619b270ba916db3", func := "thicket/thicketlaw23.SessionRoom", spec := "sessionRoom", unfollowed := true, recurses := true, plainKeys := false, apart := false, narrowed := true }
def SessionRoomUptoSaid : Prop := sessionRoomUptoRow.holds Tryz.pinned (OpenSpec.upto sessionRoomSpec)

/-- 'thicketlaw23.SessionMemory', WHERE WHAT IT READS IS OF BULK AT MOST 1048576: true; the input reads as it did. -/
def sessionMemoryUptoRow : OpenClaim := { program := "ytflhdclplgjbbaagreat", sum := "2ea019e0b956cc163b297eab819867e743a71b52be4fa5aca619b270ba916db3", func := "thicket/thicketlaw23.SessionMemory", spec := "sessionMemory", unfollowed := true, recurses := true, plainKeys := false, apart := false, narrowed := true }
def SessionMemoryUptoSaid : Prop := sessionMemoryUptoRow.holds Tryz.pinned (OpenSpec.upto sessionMemorySpec)

end Rows
end Go.Proofs.YtflhdclplgjbbaaGreat
