/-
  No cell of these rows narrows 'for every input' (looked for: loops, veiled, ifaces, maps, wideKeys, modest, calm, conditions, laid).
  DERIVED. THE GIVEN ROWS OF THIS SEAT. 10 by the template 'for every input the law returns true; each argument reads behind the call as it read before'; 0 by the template 'total and deterministic' (their statements: YtgeffephefcdiaaGreatTotals.lean).
  GIVEN WITH THE SEED: the statements are not yours to turn. If you find one false, say at which input.
  Laid BY PROGRAM, IN A SANDBOX (cutbox-rows.mjs): the forced cells as the released guide's own fill.sh prints them over the translation aa8faa5d6174f917… (all of the seat's roots in one cut). By AI agents, Wed Nov 11 2026. No macro, syntax, notation, axiom, sorry.
-/
import Derived.Test.YtgeffephefcdiaaGreatChecked
import GoSem.Claim
import GoSem.ClaimJoined
import GoSem.ClaimMapViews
import Derived.JoinedTies
import Derived.KernelRfl
namespace Go.Proofs.YtgeffephefcdiaaGreat
/- THE CELL 'sum', in the pinned program and in every row, IS THE sha256 OF THE DUMP (.gsa) THAT YtgeffephefcdiaaGreatProg.lean LOADS. Nothing in Lean hashes anything: it is a label: what it is worth is what the hold of that sum in a sandbox is worth. -/
noncomputable def Tryz.pinned : Pinned := { name := "ytgeffephefcdiaagreat", sum := "aa8faa5d6174f917a21c7a0112da4ebdc154c64ca24e35a0247d7a6d40936914", checked := Tryz.checked }
namespace Rows
def none {H : Type} : Left H := { results := [], args := [] }

/-- 'thicketlaw23.SessionPlay': WHATEVER THE INPUT: true; the input reads as it did. -/
def sessionPlaySpec : ChangeSpec := { name := "sessionPlay", fn := fun _ => fun
  | [d1, d2] => { results := [.lit (.bool true)], args := [d1, d2] }
  | _ => none }
def sessionPlayRow : OpenClaim := { program := "ytgeffephefcdiaagreat", sum := "aa8faa5d6174f917a21c7a0112da4ebdc154c64ca24e35a0247d7a6d40936914", func := "thicket/thicketlaw23.SessionPlay", spec := "sessionPlay", unfollowed := true, recurses := true, plainKeys := false, apart := false }
def SessionPlaySaid : Prop := sessionPlayRow.holds Tryz.pinned (OpenSpec.ofChange sessionPlaySpec)

/-- ITS FALSE NEIGHBOUR: 'it returns false'. Refute it at one input. -/
def sessionPlayWrong : ChangeSpec := { name := "sessionPlay", fn := fun _ => fun
  | [d1, d2] => { results := [.lit (.bool false)], args := [d1, d2] }
  | _ => none }
def SessionPlayWrongFalsely : Prop := sessionPlayRow.holds Tryz.pinned (OpenSpec.ofChange sessionPlayWrong)

/-- 'thicketlaw23.SessionRoom': WHATEVER THE INPUT: true; the input reads as it did. -/
def sessionRoomSpec : ChangeSpec := { name := "sessionRoom", fn := fun _ => fun
  | [d1, d2] => { results := [.lit (.bool true)], args := [d1, d2] }
  | _ => none }
def sessionRoomRow : OpenClaim := { program := "ytgeffephefcdiaagreat", sum := "aa8faa5d6174f917a21c7a0112da4ebdc154c64ca24e35a0247d7a6d40936914", func := "thicket/thicketlaw23.SessionRoom", spec := "sessionRoom", unfollowed := true, recurses := true, plainKeys := false, apart := false }
def SessionRoomSaid : Prop := sessionRoomRow.holds Tryz.pinned (OpenSpec.ofChange sessionRoomSpec)

/-- ITS FALSE NEIGHBOUR: 'it returns false'. Refute it at one input. -/
def sessionRoomWrong : ChangeSpec := { name := "sessionRoom", fn := fun _ => fun
  | [d1, d2] => { results := [.lit (.bool false)], args := [d1, d2] }
  | _ => none }
def SessionRoomWrongFalsely : Prop := sessionRoomRow.holds Tryz.pinned (OpenSpec.ofChange sessionRoomWrong)

/-- 'thicketlaw23.SessionFixed': WHATEVER THE INPUT: true; the input reads as it did. -/
def sessionFixedSpec : ChangeSpec := { name := "sessionFixed", fn := fun _ => fun
  | [] => { results := [.lit (.bool true)], args := [] }
  | _ => none }
def sessionFixedRow : OpenClaim := { program := "ytgeffephefcdiaagreat", sum := "aa8faa5d6174f917a21c7a0112da4ebdc154c64ca24e35a0247d7a6d40936914", func := "thicket/thicketlaw23.SessionFixed", spec := "sessionFixed", unfollowed := true, recurses := true, plainKeys := false, apart := false }
def SessionFixedSaid : Prop := sessionFixedRow.holds Tryz.pinned (OpenSpec.ofChange sessionFixedSpec)

/-- ITS FALSE NEIGHBOUR: 'it returns false'. Refute it at one input. -/
def sessionFixedWrong : ChangeSpec := { name := "sessionFixed", fn := fun _ => fun
  | [] => { results := [.lit (.bool false)], args := [] }
  | _ => none }
def SessionFixedWrongFalsely : Prop := sessionFixedRow.holds Tryz.pinned (OpenSpec.ofChange sessionFixedWrong)

/-- 'thicketlaw23.SessionWords': WHATEVER THE INPUT: true; the input reads as it did. -/
def sessionWordsSpec : ChangeSpec := { name := "sessionWords", fn := fun _ => fun
  | [d1, d2, d3] => { results := [.lit (.bool true)], args := [d1, d2, d3] }
  | _ => none }
def sessionWordsRow : OpenClaim := { program := "ytgeffephefcdiaagreat", sum := "aa8faa5d6174f917a21c7a0112da4ebdc154c64ca24e35a0247d7a6d40936914", func := "thicket/thicketlaw23.SessionWords", spec := "sessionWords", unfollowed := true, recurses := true, plainKeys := false, apart := false }
def SessionWordsSaid : Prop := sessionWordsRow.holds Tryz.pinned (OpenSpec.ofChange sessionWordsSpec)

/-- ITS FALSE NEIGHBOUR: 'it returns false'. Refute it at one input. -/
def sessionWordsWrong : ChangeSpec := { name := "sessionWords", fn := fun _ => fun
  | [d1, d2, d3] => { results := [.lit (.bool false)], args := [d1, d2, d3] }
  | _ => none }
def SessionWordsWrongFalsely : Prop := sessionWordsRow.holds Tryz.pinned (OpenSpec.ofChange sessionWordsWrong)

/-- 'thicketlaw23.SessionKeeps': WHATEVER THE INPUT: true; the input reads as it did. -/
def sessionKeepsSpec : ChangeSpec := { name := "sessionKeeps", fn := fun _ => fun
  | [d1, d2, d3] => { results := [.lit (.bool true)], args := [d1, d2, d3] }
  | _ => none }
def sessionKeepsRow : OpenClaim := { program := "ytgeffephefcdiaagreat", sum := "aa8faa5d6174f917a21c7a0112da4ebdc154c64ca24e35a0247d7a6d40936914", func := "thicket/thicketlaw23.SessionKeeps", spec := "sessionKeeps", unfollowed := true, recurses := true, plainKeys := false, apart := false }
def SessionKeepsSaid : Prop := sessionKeepsRow.holds Tryz.pinned (OpenSpec.ofChange sessionKeepsSpec)

/-- ITS FALSE NEIGHBOUR: 'it returns false'. Refute it at one input. -/
def sessionKeepsWrong : ChangeSpec := { name := "sessionKeeps", fn := fun _ => fun
  | [d1, d2, d3] => { results := [.lit (.bool false)], args := [d1, d2, d3] }
  | _ => none }
def SessionKeepsWrongFalsely : Prop := sessionKeepsRow.holds Tryz.pinned (OpenSpec.ofChange sessionKeepsWrong)

/-- 'thicketlaw23.SessionPlays': WHATEVER THE INPUT: true; the input reads as it did. -/
def sessionPlaysSpec : ChangeSpec := { name := "sessionPlays", fn := fun _ => fun
  | [d1, d2] => { results := [.lit (.bool true)], args := [d1, d2] }
  | _ => none }
def sessionPlaysRow : OpenClaim := { program := "ytgeffephefcdiaagreat", sum := "aa8faa5d6174f917a21c7a0112da4ebdc154c64ca24e35a0247d7a6d40936914", func := "thicket/thicketlaw23.SessionPlays", spec := "sessionPlays", unfollowed := true, recurses := true, plainKeys := false, apart := false }
def SessionPlaysSaid : Prop := sessionPlaysRow.holds Tryz.pinned (OpenSpec.ofChange sessionPlaysSpec)

/-- ITS FALSE NEIGHBOUR: 'it returns false'. Refute it at one input. -/
def sessionPlaysWrong : ChangeSpec := { name := "sessionPlays", fn := fun _ => fun
  | [d1, d2] => { results := [.lit (.bool false)], args := [d1, d2] }
  | _ => none }
def SessionPlaysWrongFalsely : Prop := sessionPlaysRow.holds Tryz.pinned (OpenSpec.ofChange sessionPlaysWrong)

/-- 'thicketlaw23.SessionNews': WHATEVER THE INPUT: true; the input reads as it did. -/
def sessionNewsSpec : ChangeSpec := { name := "sessionNews", fn := fun _ => fun
  | [d1, d2] => { results := [.lit (.bool true)], args := [d1, d2] }
  | _ => none }
def sessionNewsRow : OpenClaim := { program := "ytgeffephefcdiaagreat", sum := "aa8faa5d6174f917a21c7a0112da4ebdc154c64ca24e35a0247d7a6d40936914", func := "thicket/thicketlaw23.SessionNews", spec := "sessionNews", unfollowed := true, recurses := true, plainKeys := false, apart := false }
def SessionNewsSaid : Prop := sessionNewsRow.holds Tryz.pinned (OpenSpec.ofChange sessionNewsSpec)

/-- ITS FALSE NEIGHBOUR: 'it returns false'. Refute it at one input. -/
def sessionNewsWrong : ChangeSpec := { name := "sessionNews", fn := fun _ => fun
  | [d1, d2] => { results := [.lit (.bool false)], args := [d1, d2] }
  | _ => none }
def SessionNewsWrongFalsely : Prop := sessionNewsRow.holds Tryz.pinned (OpenSpec.ofChange sessionNewsWrong)

/-- 'thicketlaw23.SessionTries': WHATEVER THE INPUT: true; the input reads as it did. -/
def sessionTriesSpec : ChangeSpec := { name := "sessionTries", fn := fun _ => fun
  | [d1, d2] => { results := [.lit (.bool true)], args := [d1, d2] }
  | _ => none }
def sessionTriesRow : OpenClaim := { program := "ytgeffephefcdiaagreat", sum := "aa8faa5d6174f917a21c7a0112da4ebdc154c64ca24e35a0247d7a6d40936914", func := "thicket/thicketlaw23.SessionTries", spec := "sessionTries", unfollowed := true, recurses := true, plainKeys := false, apart := false }
def SessionTriesSaid : Prop := sessionTriesRow.holds Tryz.pinned (OpenSpec.ofChange sessionTriesSpec)

/-- ITS FALSE NEIGHBOUR: 'it returns false'. Refute it at one input. -/
def sessionTriesWrong : ChangeSpec := { name := "sessionTries", fn := fun _ => fun
  | [d1, d2] => { results := [.lit (.bool false)], args := [d1, d2] }
  | _ => none }
def SessionTriesWrongFalsely : Prop := sessionTriesRow.holds Tryz.pinned (OpenSpec.ofChange sessionTriesWrong)

/-- 'thicketlaw23.SessionMemory': WHATEVER THE INPUT: true; the input reads as it did. -/
def sessionMemorySpec : ChangeSpec := { name := "sessionMemory", fn := fun _ => fun
  | [d1, d2] => { results := [.lit (.bool true)], args := [d1, d2] }
  | _ => none }
def sessionMemoryRow : OpenClaim := { program := "ytgeffephefcdiaagreat", sum := "aa8faa5d6174f917a21c7a0112da4ebdc154c64ca24e35a0247d7a6d40936914", func := "thicket/thicketlaw23.SessionMemory", spec := "sessionMemory", unfollowed := true, recurses := true, plainKeys := false, apart := false }
def SessionMemorySaid : Prop := sessionMemoryRow.holds Tryz.pinned (OpenSpec.ofChange sessionMemorySpec)

/-- ITS FALSE NEIGHBOUR: 'it returns false'. Refute it at one input. -/
def sessionMemoryWrong : ChangeSpec := { name := "sessionMemory", fn := fun _ => fun
  | [d1, d2] => { results := [.lit (.bool false)], args := [d1, d2] }
  | _ => none }
def SessionMemoryWrongFalsely : Prop := sessionMemoryRow.holds Tryz.pinned (OpenSpec.ofChange sessionMemoryWrong)

/-- 'thickettop.WholeTries': WHATEVER THE INPUT: true; the input reads as it did. -/
def wholeTriesSpec : ChangeSpec := { name := "wholeTries", fn := fun _ => fun
  | [d1, d2, d3, d4, d5, d6] => { results := [.lit (.bool true)], args := [d1, d2, d3, d4, d5, d6] }
  | _ => none }
def wholeTriesRow : OpenClaim := { program := "ytgeffephefcdiaagreat", sum := "aa8faa5d6174f917a21c7a0112da4ebdc154c64ca24e35a0247d7a6d40936914", func := "thicket/thickettop.WholeTries", spec := "wholeTries", unfollowed := true, recurses := true, plainKeys := false, apart := false }
def WholeTriesSaid : Prop := wholeTriesRow.holds Tryz.pinned (OpenSpec.ofChange wholeTriesSpec)

/-- ITS FALSE NEIGHBOUR: 'it returns false'. Refute it at one input. -/
def wholeTriesWrong : ChangeSpec := { name := "wholeTries", fn := fun _ => fun
  | [d1, d2, d3, d4, d5, d6] => { results := [.lit (.bool false)], args := [d1, d2, d3, d4, d5, d6] }
  | _ => none }
def WholeTriesWrongFalsely : Prop := wholeTriesRow.holds Tryz.pinned (OpenSpec.ofChange wholeTriesWrong)

/- THE SECOND FORM. 'bulk': how many values and letters a reading holds, each counted each time it is reached (what is shared counts as often as it is met; a slice's spare places count too). A statement '..UptoSaid' is the law's where the arguments, and the package variables that the reading takes, are together of bulk at most 1048576: NARROWER than '..Said'. Prove '..Said' where nothing that the law and all that it calls make is longer than what came in: it says more and counts as full. Else prove '..UptoSaid'. A law counts once. -/
mutual
def uptoBulk {H : Type} : DataW H → Nat
  | .lit (.string bytes) => bytes.length + 1
  | .lit _ => 1
  | .nil => 1
  | .ptr d => uptoBulk d + 1
  | .slice elems spare => uptoBulkAll elems + uptoBulkAll spare + 1
  | .agg parts => uptoBulkAll parts + 1
  | .iface _ d => uptoBulk d + 1
  | .map entries => uptoBulkEntries entries + 1
  | .held _ => 1
def uptoBulkAll {H : Type} : List (DataW H) → Nat
  | [] => 0
  | d :: r => uptoBulk d + uptoBulkAll r
def uptoBulkEntries {H : Type} : List (Lit × DataW H) → Nat
  | [] => 0
  | x :: r => uptoBulkEntry x + uptoBulkEntries r
def uptoBulkEntry {H : Type} : Lit × DataW H → Nat
  | (.string bytes, d) => bytes.length + uptoBulk d + 1
  | (_, d) => uptoBulk d + 1
 end
def uptoSmall : (H : Type) → List (DataW H) → Bool := fun _ ds => decide (uptoBulkAll ds ≤ 1048576)
def OpenSpec.upto (s : _root_.Go.ChangeSpec) : _root_.Go.OpenSpec := { _root_.Go.OpenSpec.ofChange s with cond := some uptoSmall }

/-- 'thicketlaw23.SessionPlay', WHERE WHAT IT READS IS OF BULK AT MOST 1048576: true; the input reads as it did. -/
def sessionPlayUptoRow : OpenClaim := { program := "ytgeffephefcdiaagreat", sum := "aa8faa5d6174f917a21c7a0112da4ebdc154c64ca24e35a0247d7a6d40936914", func := "thicket/thicketlaw23.SessionPlay", spec := "sessionPlay", unfollowed := true, recurses := true, plainKeys := false, apart := false, narrowed := true }
def SessionPlayUptoSaid : Prop := sessionPlayUptoRow.holds Tryz.pinned (OpenSpec.upto sessionPlaySpec)

/-- 'thicketlaw23.SessionRoom', WHERE WHAT IT READS IS OF BULK AT MOST 1048576: true; the input reads as it did. -/
def sessionRoomUptoRow : OpenClaim := { program := "ytgeffephefcdiaagreat", sum := "aa8faa5d6174f917a21c7a0112da4ebdc154c64ca24e35a0247d7a6d40936914", func := "thicket/thicketlaw23.SessionRoom", spec := "sessionRoom", unfollowed := true, recurses := true, plainKeys := false, apart := false, narrowed := true }
def SessionRoomUptoSaid : Prop := sessionRoomUptoRow.holds Tryz.pinned (OpenSpec.upto sessionRoomSpec)

/-- 'thicketlaw23.SessionFixed', WHERE WHAT IT READS IS OF BULK AT MOST 1048576: true; the input reads as it did. -/
def sessionFixedUptoRow : OpenClaim := { program := "ytgeffephefcdiaagreat", sum := "aa8faa5d6174f917a21c7a0112da4ebdc154c64ca24e35a0247d7a6d40936914", func := "thicket/thicketlaw23.SessionFixed", spec := "sessionFixed", unfollowed := true, recurses := true, plainKeys := false, apart := false, narrowed := true }
def SessionFixedUptoSaid : Prop := sessionFixedUptoRow.holds Tryz.pinned (OpenSpec.upto sessionFixedSpec)

/-- 'thicketlaw23.SessionWords', WHERE WHAT IT READS IS OF BULK AT MOST 1048576: true; the input reads as it did. -/
def sessionWordsUptoRow : OpenClaim := { program := "ytgeffephefcdiaagreat", sum := "aa8faa5d6174f917a21c7a0112da4ebdc154c64ca24e35a0247d7a6d40936914", func := "thicket/thicketlaw23.SessionWords", spec := "sessionWords", unfollowed := true, recurses := true, plainKeys := false, apart := false, narrowed := true }
def SessionWordsUptoSaid : Prop := sessionWordsUptoRow.holds Tryz.pinned (OpenSpec.upto sessionWordsSpec)

/-- 'thicketlaw23.SessionKeeps', WHERE WHAT IT READS IS OF BULK AT MOST 1048576: true; the input reads as it did. -/
def sessionKeepsUptoRow : OpenClaim := { program := "ytgeffephefcdiaagreat", sum := "aa8faa5d6174f917a21c7a0112da4ebdc154c64ca24e35a0247d7a6d40936914", func := "thicket/thicketlaw23.SessionKeeps", spec := "sessionKeeps", unfollowed := true, recurses := true, plainKeys := false, apart := false, narrowed := true }
def SessionKeepsUptoSaid : Prop := sessionKeepsUptoRow.holds Tryz.pinned (OpenSpec.upto sessionKeepsSpec)

/-- 'thicketlaw23.SessionPlays', WHERE WHAT IT READS IS OF BULK AT MOST 1048576: true; the input reads as it did. -/
def sessionPlaysUptoRow : OpenClaim := { program := "ytgeffephefcdiaagreat", sum := "aa8faa5d6174f917a21c7a0112da4ebdc154c64ca24e35a0247d7a6d40936914", func := "thicket/thicketlaw23.SessionPlays", spec := "sessionPlays", unfollowed := true, recurses := true, plainKeys := false, apart := false, narrowed := true }
def SessionPlaysUptoSaid : Prop := sessionPlaysUptoRow.holds Tryz.pinned (OpenSpec.upto sessionPlaysSpec)

/-- 'thicketlaw23.SessionNews', WHERE WHAT IT READS IS OF BULK AT MOST 1048576: true; the input reads as it did. -/
def sessionNewsUptoRow : OpenClaim := { program := "ytgeffephefcdiaagreat", sum := "aa8faa5d6174f917a21c7a0112da4ebdc154c64ca24e35a0247d7a6d40936914", func := "thicket/thicketlaw23.SessionNews", spec := "sessionNews", unfollowed := true, recurses := true, plainKeys := false, apart := false, narrowed := true }
def SessionNewsUptoSaid : Prop := sessionNewsUptoRow.holds Tryz.pinned (OpenSpec.upto sessionNewsSpec)

/-- 'thicketlaw23.SessionTries', WHERE WHAT IT READS IS OF BULK AT MOST 1048576: true; the input reads as it did. -/
def sessionTriesUptoRow : OpenClaim := { program := "ytgeffephefcdiaagreat", sum := "aa8faa5d6174f917a21c7a0112da4ebdc154c64ca24e35a0247d7a6d40936914", func := "thicket/thicketlaw23.SessionTries", spec := "sessionTries", unfollowed := true, recurses := true, plainKeys := false, apart := false, narrowed := true }
def SessionTriesUptoSaid : Prop := sessionTriesUptoRow.holds Tryz.pinned (OpenSpec.upto sessionTriesSpec)

/-- 'thicketlaw23.SessionMemory', WHERE WHAT IT READS IS OF BULK AT MOST 1048576: true; the input reads as it did. -/
def sessionMemoryUptoRow : OpenClaim := { program := "ytgeffephefcdiaagreat", sum := "aa8faa5d6174f917a21c7a0112da4ebdc154c64ca24e35a0247d7a6d40936914", func := "thicket/thicketlaw23.SessionMemory", spec := "sessionMemory", unfollowed := true, recurses := true, plainKeys := false, apart := false, narrowed := true }
def SessionMemoryUptoSaid : Prop := sessionMemoryUptoRow.holds Tryz.pinned (OpenSpec.upto sessionMemorySpec)

/-- 'thickettop.WholeTries', WHERE WHAT IT READS IS OF BULK AT MOST 1048576: true; the input reads as it did. -/
def wholeTriesUptoRow : OpenClaim := { program := "ytgeffephefcdiaagreat", sum := "aa8faa5d6174f917a21c7a0112da4ebdc154c64ca24e35a0247d7a6d40936914", func := "thicket/thickettop.WholeTries", spec := "wholeTries", unfollowed := true, recurses := true, plainKeys := false, apart := false, narrowed := true }
def WholeTriesUptoSaid : Prop := wholeTriesUptoRow.holds Tryz.pinned (OpenSpec.upto wholeTriesSpec)

end Rows
end Go.Proofs.YtgeffephefcdiaaGreat
