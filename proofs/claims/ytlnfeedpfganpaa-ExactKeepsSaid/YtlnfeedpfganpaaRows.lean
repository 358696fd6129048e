/-
  No cell of these rows narrows 'for every input' (looked for: loops, veiled, ifaces, maps, wideKeys, modest, calm, conditions, laid).
  DERIVED. THE GIVEN ROWS OF THIS SEAT. 6 by the template 'for every input the law returns true; each argument reads behind the call as it read before'; 0 by the template 'total and deterministic' (their statements: YtlnfeedpfganpaaTotals.lean).
  GIVEN WITH THE SEED: the statements are not yours to turn. If you find one false, say at which input.
  Laid BY PROGRAM, IN A SANDBOX (cutbox-rows.mjs): the forced cells as the released guide's own fill.sh prints them over the translation c674823697bbd2b3… (all of the seat's roots in one cut). By AI agents, Wed Nov 11 2026. No macro, syntax, notation, axiom, sorry.
-/
import Derived.Test.YtlnfeedpfganpaaChecked
import GoSem.Claim
import GoSem.ClaimJoined
import GoSem.ClaimMapViews
import Derived.JoinedTies
import Derived.KernelRfl
namespace Go.Proofs.Ytlnfeedpfganpaa
/- THE CELL 'sum', in the pinned program and in every row, IS THE sha256 OF THE DUMP (.gsa) THAT YtlnfeedpfganpaaProg.lean LOADS. Nothing in Lean hashes anything: it is a label: what it is worth is what the hold of that sum in a sandbox is worth. -/
noncomputable def Try.pinned : Pinned := { name := "ytlnfeedpfganpaa", sum := "c674823697bbd2b32dae1745c9eb322609d59fe58e84ce8db07218b33c8bf242", checked := Try.checked }
namespace Rows
def none {H : Type} : Left H := { results := [], args := [] }

/-- 'thicketlaw19.ExactBests': WHATEVER THE INPUT: true; the input reads as it did. -/
def exactBestsSpec : ChangeSpec := { name := "exactBests", fn := fun _ => fun
  | [d] => { results := [.lit (.bool true)], args := [d] }
  | _ => none }
def exactBestsRow : OpenClaim := { program := "ytlnfeedpfganpaa", sum := "c674823697bbd2b32dae1745c9eb322609d59fe58e84ce8db07218b33c8bf242", func := "thicket/thicketlaw19.ExactBests", spec := "exactBests", unfollowed := true, recurses := true, plainKeys := false, apart := false }
def ExactBestsSaid : Prop := exactBestsRow.holds Try.pinned (OpenSpec.ofChange exactBestsSpec)

/-- ITS FALSE NEIGHBOUR: 'it returns false'. Refute it at one input. -/
def exactBestsWrong : ChangeSpec := { name := "exactBests", fn := fun _ => fun
  | [d] => { results := [.lit (.bool false)], args := [d] }
  | _ => none }
def ExactBestsWrongFalsely : Prop := exactBestsRow.holds Try.pinned (OpenSpec.ofChange exactBestsWrong)

/-- 'thicketlaw19.ExactWithins': WHATEVER THE INPUT: true; the input reads as it did. -/
def exactWithinsSpec : ChangeSpec := { name := "exactWithins", fn := fun _ => fun
  | [d1, d2] => { results := [.lit (.bool true)], args := [d1, d2] }
  | _ => none }
def exactWithinsRow : OpenClaim := { program := "ytlnfeedpfganpaa", sum := "c674823697bbd2b32dae1745c9eb322609d59fe58e84ce8db07218b33c8bf242", func := "thicket/thicketlaw19.ExactWithins", spec := "exactWithins", unfollowed := true, recurses := true, plainKeys := false, apart := false }
def ExactWithinsSaid : Prop := exactWithinsRow.holds Try.pinned (OpenSpec.ofChange exactWithinsSpec)

/-- ITS FALSE NEIGHBOUR: 'it returns false'. Refute it at one input. -/
def exactWithinsWrong : ChangeSpec := { name := "exactWithins", fn := fun _ => fun
  | [d1, d2] => { results := [.lit (.bool false)], args := [d1, d2] }
  | _ => none }
def ExactWithinsWrongFalsely : Prop := exactWithinsRow.holds Try.pinned (OpenSpec.ofChange exactWithinsWrong)

/-- 'thicketlaw19.ExactKeeps': WHATEVER THE INPUT: true; the input reads as it did. -/
def exactKeepsSpec : ChangeSpec := { name := "exactKeeps", fn := fun _ => fun
  | [d1, d2] => { results := [.lit (.bool true)], args := [d1, d2] }
  | _ => none }
def exactKeepsRow : OpenClaim := { program := "ytlnfeedpfganpaa", sum := "c674823697bbd2b32dae1745c9eb322609d59fe58e84ce8db07218b33c8bf242", func := "thicket/thicketlaw19.ExactKeeps", spec := "exactKeeps", unfollowed := true, recurses := true, plainKeys := false, apart := false }
def ExactKeepsSaid : Prop := exactKeepsRow.holds Try.pinned (OpenSpec.ofChange exactKeepsSpec)

/-- ITS FALSE NEIGHBOUR: 'it returns false'. Refute it at one input. -/
def exactKeepsWrong : ChangeSpec := { name := "exactKeeps", fn := fun _ => fun
  | [d1, d2] => { results := [.lit (.bool false)], args := [d1, d2] }
  | _ => none }
def ExactKeepsWrongFalsely : Prop := exactKeepsRow.holds Try.pinned (OpenSpec.ofChange exactKeepsWrong)

/-- 'thicketlaw19.ExactRenames': WHATEVER THE INPUT: true; the input reads as it did. -/
def exactRenamesSpec : ChangeSpec := { name := "exactRenames", fn := fun _ => fun
  | [d1, d2] => { results := [.lit (.bool true)], args := [d1, d2] }
  | _ => none }
def exactRenamesRow : OpenClaim := { program := "ytlnfeedpfganpaa", sum := "c674823697bbd2b32dae1745c9eb322609d59fe58e84ce8db07218b33c8bf242", func := "thicket/thicketlaw19.ExactRenames", spec := "exactRenames", unfollowed := true, recurses := true, plainKeys := false, apart := false }
def ExactRenamesSaid : Prop := exactRenamesRow.holds Try.pinned (OpenSpec.ofChange exactRenamesSpec)

/-- ITS FALSE NEIGHBOUR: 'it returns false'. Refute it at one input. -/
def exactRenamesWrong : ChangeSpec := { name := "exactRenames", fn := fun _ => fun
  | [d1, d2] => { results := [.lit (.bool false)], args := [d1, d2] }
  | _ => none }
def ExactRenamesWrongFalsely : Prop := exactRenamesRow.holds Try.pinned (OpenSpec.ofChange exactRenamesWrong)

/-- 'thicketlaw19.ExactNoLess': WHATEVER THE INPUT: true; the input reads as it did. -/
def exactNoLessSpec : ChangeSpec := { name := "exactNoLess", fn := fun _ => fun
  | [d1, d2] => { results := [.lit (.bool true)], args := [d1, d2] }
  | _ => none }
def exactNoLessRow : OpenClaim := { program := "ytlnfeedpfganpaa", sum := "c674823697bbd2b32dae1745c9eb322609d59fe58e84ce8db07218b33c8bf242", func := "thicket/thicketlaw19.ExactNoLess", spec := "exactNoLess", unfollowed := true, recurses := true, plainKeys := false, apart := false }
def ExactNoLessSaid : Prop := exactNoLessRow.holds Try.pinned (OpenSpec.ofChange exactNoLessSpec)

/-- ITS FALSE NEIGHBOUR: 'it returns false'. Refute it at one input. -/
def exactNoLessWrong : ChangeSpec := { name := "exactNoLess", fn := fun _ => fun
  | [d1, d2] => { results := [.lit (.bool false)], args := [d1, d2] }
  | _ => none }
def ExactNoLessWrongFalsely : Prop := exactNoLessRow.holds Try.pinned (OpenSpec.ofChange exactNoLessWrong)

/-- 'thicketlaw19.ExactSplits': WHATEVER THE INPUT: true; the input reads as it did. -/
def exactSplitsSpec : ChangeSpec := { name := "exactSplits", fn := fun _ => fun
  | [d1, d2, d3] => { results := [.lit (.bool true)], args := [d1, d2, d3] }
  | _ => none }
def exactSplitsRow : OpenClaim := { program := "ytlnfeedpfganpaa", sum := "c674823697bbd2b32dae1745c9eb322609d59fe58e84ce8db07218b33c8bf242", func := "thicket/thicketlaw19.ExactSplits", spec := "exactSplits", unfollowed := true, recurses := true, plainKeys := false, apart := false }
def ExactSplitsSaid : Prop := exactSplitsRow.holds Try.pinned (OpenSpec.ofChange exactSplitsSpec)

/-- ITS FALSE NEIGHBOUR: 'it returns false'. Refute it at one input. -/
def exactSplitsWrong : ChangeSpec := { name := "exactSplits", fn := fun _ => fun
  | [d1, d2, d3] => { results := [.lit (.bool false)], args := [d1, d2, d3] }
  | _ => none }
def ExactSplitsWrongFalsely : Prop := exactSplitsRow.holds Try.pinned (OpenSpec.ofChange exactSplitsWrong)

/- THE SECOND FORM. 'bulk': how many values and letters a reading holds, each counted each time it is reached (what is shared counts as often as it is met; a slice's spare places count too). A statement '..UptoSaid' is the law's where the arguments, and the package variables that the reading takes, are together of bulk at most 1048576: NARROWER than '..Said'. Prove '..Said' where nothing that the law and all that it calls make is longer than what came in: it says more and counts as full. Else prove '..UptoSaid'. A law counts once. -/
mutual
def uptoBulk {H : Type} : DataW H → Nat
  | .lit (.string bytes) => bytes.length + 1
  | .lit _ => 1
  | .nil => 1
  | .ptr d => uptoBulk d + 1
  | .slice elems spare => uptoBulkAll elems + uptoBulkAll spare + 1
  | .agg parts => uptoBulkAll parts + 1
  | .iface _ d => uptoBulk d + 1
  | .map entries => uptoBulkEntries entries + 1
  | .held _ => 1
def uptoBulkAll {H : Type} : List (DataW H) → Nat
  | [] => 0
  | d :: r => uptoBulk d + uptoBulkAll r
def uptoBulkEntries {H : Type} : List (Lit × DataW H) → Nat
  | [] => 0
  | x :: r => uptoBulkEntry x + uptoBulkEntries r
def uptoBulkEntry {H : Type} : Lit × DataW H → Nat
  | (.string bytes, d) => bytes.length + uptoBulk d + 1
  | (_, d) => uptoBulk d + 1
 end
def uptoSmall : (H : Type) → List (DataW H) → Bool := fun _ ds => decide (uptoBulkAll ds ≤ 1048576)
def OpenSpec.upto (s : _root_.Go.ChangeSpec) : _root_.Go.OpenSpec := { _root_.Go.OpenSpec.ofChange s with cond := some uptoSmall }

/-- 'thicketlaw19.ExactBests', WHERE WHAT IT READS IS OF BULK AT MOST 1048576: true; the input reads as it did. -/
def exactBestsUptoRow : OpenClaim := { program := "ytlnfeedpfganpaa", sum := "c674823697bbd2b32dae1745c9eb322609d59fe58e84ce8db07218b33c8bf242", func := "thicket/thicketlaw19.ExactBests", spec := "exactBests", unfollowed := true, recurses := true, plainKeys := false, apart := false, narrowed := true }
def ExactBestsUptoSaid : Prop := exactBestsUptoRow.holds Try.pinned (OpenSpec.upto exactBestsSpec)

/-- 'thicketlaw19.ExactWithins', WHERE WHAT IT READS IS OF BULK AT MOST 1048576: true; the input reads as it did. -/
def exactWithinsUptoRow : OpenClaim := { program := "ytlnfeedpfganpaa", sum := "c674823697bbd2b32dae1745c9eb322609d59fe58e84ce8db07218b33c8bf242", func := "thicket/thicketlaw19.ExactWithins", spec := "exactWithins", unfollowed := true, recurses := true, plainKeys := false, apart := false, narrowed := true }
def ExactWithinsUptoSaid : Prop := exactWithinsUptoRow.holds Try.pinned (OpenSpec.upto exactWithinsSpec)

/-- 'thicketlaw19.ExactKeeps', WHERE WHAT IT READS IS OF BULK AT MOST 1048576: true; the input reads as it did. -/
def exactKeepsUptoRow : OpenClaim := { program := "ytlnfeedpfganpaa", sum := "c674823697bbd2b32dae1745c9eb322609d59fe58e84ce8db07218b33c8bf242", func := "thicket/thicketlaw19.ExactKeeps", spec := "exactKeeps", unfollowed := true, recurses := true, plainKeys := false, apart := false, narrowed := true }
def ExactKeepsUptoSaid : Prop := exactKeepsUptoRow.holds Try.pinned (OpenSpec.upto exactKeepsSpec)

/-- 'thicketlaw19.ExactRenames', WHERE WHAT IT READS IS OF BULK AT MOST 1048576: true; the input reads as it did. -/
def exactRenamesUptoRow : OpenClaim := { program := "ytlnfeedpfganpaa", sum := "c674823697bbd2b32dae1745c9eb322609d59fe58e84ce8db07218b33c8bf242", func := "thicket/thicketlaw19.ExactRenames", spec := "exactRenames", unfollowed := true, recurses := true, plainKeys := false, apart := false, narrowed := true }
def ExactRenamesUptoSaid : Prop := exactRenamesUptoRow.holds Try.pinned (OpenSpec.upto exactRenamesSpec)

/-- 'thicketlaw19.ExactNoLess', WHERE WHAT IT READS IS OF BULK AT MOST 1048576: true; the input reads as it did. -/
def exactNoLessUptoRow : OpenClaim := { program := "ytlnfeedpfganpaa", sum := "c674823697bbd2b32dae1745c9eb322609d59fe58e84ce8db07218b33c8bf242", func := "thicket/thicketlaw19.ExactNoLess", spec := "exactNoLess", unfollowed := true, recurses := true, plainKeys := false, apart := false, narrowed := true }
def ExactNoLessUptoSaid : Prop := exactNoLessUptoRow.holds Try.pinned (OpenSpec.upto exactNoLessSpec)

/-- 'thicketlaw19.ExactSplits', WHERE WHAT IT READS IS OF BULK AT MOST 1048576: true; the input reads as it did. -/
def exactSplitsUptoRow : OpenClaim := { program := "ytlnfeedpfganpaa", sum := "c674823697bbd2b32dae1745c9eb322609d59fe58e84ce8db07218b33c8bf242", func := "thicket/thicketlaw19.ExactSplits", spec := "exactSplits", unfollowed := true, recurses := true, plainKeys := false, apart := false, narrowed := true }
def ExactSplitsUptoSaid : Prop := exactSplitsUptoRow.holds Try.pinned (OpenSpec.upto exactSplitsSpec)

end Rows
end Go.Proofs.Ytlnfeedpfganpaa
