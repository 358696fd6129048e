/-
  No cell of these rows narrows 'for every input' (looked for: loops, veiled, ifaces, maps, wideKeys, modest, calm, conditions, laid).
  DERIVED. THE GIVEN ROWS OF THIS SEAT. 9 by the template 'for every input the law returns true; each argument reads behind the call as it read before'; 0 by the template 'total and deterministic' (their statements: YtfgkdmbicjdeoaaGreatTotals.lean).
  GIVEN WITH THE SEED: the statements are not yours to turn. If you find one false, say at which input.
  Laid BY PROGRAM, IN A SANDBOX (cutbox-rows.mjs): the forced cells as the released guide's own fill.sh prints them over the translation cfa25dbf5e053a7f… (all of the seat's roots in one cut). By AI agents, Wed Nov 11 2026. No macro, syntax, notation, axiom, sorry.
-/
import Derived.Test.YtfgkdmbicjdeoaaGreatChecked
import GoSem.Claim
import GoSem.ClaimJoined
import GoSem.ClaimMapViews
import Derived.JoinedTies
import Derived.KernelRfl
namespace Go.Proofs.YtfgkdmbicjdeoaaGreat
/- THE CELL 'sum', in the pinned program and in every row, IS THE sha256 OF THE DUMP (.gsa) THAT YtfgkdmbicjdeoaaGreatProg.lean LOADS. Nothing in Lean hashes anything: it is a label: what it is worth is what the hold of that sum in a sandbox is worth. -/
noncomputable def Tryz.pinned : Pinned := { name := "ytfgkdmbicjdeoaagreat", sum := "cfa25dbf5e053a7ff4dd503f6712576fb132458dab793bd12be7ab1734ef31c5", checked := Tryz.checked }
namespace Rows
def none {H : Type} : Left H := { results := [], args := [] }

/-- 'thickettop.WholeWindows': WHATEVER THE INPUT: true; the input reads as it did. -/
def wholeWindowsSpec : ChangeSpec := { name := "wholeWindows", fn := fun _ => fun
  | [d1, d2, d3, d4] => { results := [.lit (.bool true)], args := [d1, d2, d3, d4] }
  | _ => none }
def wholeWindowsRow : OpenClaim := { program := "ytfgkdmbicjdeoaagreat", sum := "cfa25dbf5e053a7ff4dd503f6712576fb132458dab793bd12be7ab1734ef31c5", func := "thicket/thickettop.WholeWindows", spec := "wholeWindows", unfollowed := true, recurses := true, plainKeys := false, apart := false }
def WholeWindowsSaid : Prop := wholeWindowsRow.holds Tryz.pinned (OpenSpec.ofChange wholeWindowsSpec)

/-- ITS FALSE NEIGHBOUR: 'it returns false'. Refute it at one input. -/
def wholeWindowsWrong : ChangeSpec := { name := "wholeWindows", fn := fun _ => fun
  | [d1, d2, d3, d4] => { results := [.lit (.bool false)], args := [d1, d2, d3, d4] }
  | _ => none }
def WholeWindowsWrongFalsely : Prop := wholeWindowsRow.holds Tryz.pinned (OpenSpec.ofChange wholeWindowsWrong)

/-- 'thicketlaw19.ExactOdd': WHATEVER THE INPUT: true; the input reads as it did. -/
def exactOddSpec : ChangeSpec := { name := "exactOdd", fn := fun _ => fun
  | [d1, d2] => { results := [.lit (.bool true)], args := [d1, d2] }
  | _ => none }
def exactOddRow : OpenClaim := { program := "ytfgkdmbicjdeoaagreat", sum := "cfa25dbf5e053a7ff4dd503f6712576fb132458dab793bd12be7ab1734ef31c5", func := "thicket/thicketlaw19.ExactOdd", spec := "exactOdd", unfollowed := true, recurses := true, plainKeys := false, apart := false }
def ExactOddSaid : Prop := exactOddRow.holds Tryz.pinned (OpenSpec.ofChange exactOddSpec)

/-- ITS FALSE NEIGHBOUR: 'it returns false'. Refute it at one input. -/
def exactOddWrong : ChangeSpec := { name := "exactOdd", fn := fun _ => fun
  | [d1, d2] => { results := [.lit (.bool false)], args := [d1, d2] }
  | _ => none }
def ExactOddWrongFalsely : Prop := exactOddRow.holds Tryz.pinned (OpenSpec.ofChange exactOddWrong)

/-- 'thicketlaw19.ExactRuns': WHATEVER THE INPUT: true; the input reads as it did. -/
def exactRunsSpec : ChangeSpec := { name := "exactRuns", fn := fun _ => fun
  | [d] => { results := [.lit (.bool true)], args := [d] }
  | _ => none }
def exactRunsRow : OpenClaim := { program := "ytfgkdmbicjdeoaagreat", sum := "cfa25dbf5e053a7ff4dd503f6712576fb132458dab793bd12be7ab1734ef31c5", func := "thicket/thicketlaw19.ExactRuns", spec := "exactRuns", unfollowed := true, recurses := true, plainKeys := false, apart := false }
def ExactRunsSaid : Prop := exactRunsRow.holds Tryz.pinned (OpenSpec.ofChange exactRunsSpec)

/-- ITS FALSE NEIGHBOUR: 'it returns false'. Refute it at one input. -/
def exactRunsWrong : ChangeSpec := { name := "exactRuns", fn := fun _ => fun
  | [d] => { results := [.lit (.bool false)], args := [d] }
  | _ => none }
def ExactRunsWrongFalsely : Prop := exactRunsRow.holds Tryz.pinned (OpenSpec.ofChange exactRunsWrong)

/-- 'thicketlaw19.ExactSettles': WHATEVER THE INPUT: true; the input reads as it did. -/
def exactSettlesSpec : ChangeSpec := { name := "exactSettles", fn := fun _ => fun
  | [d1, d2] => { results := [.lit (.bool true)], args := [d1, d2] }
  | _ => none }
def exactSettlesRow : OpenClaim := { program := "ytfgkdmbicjdeoaagreat", sum := "cfa25dbf5e053a7ff4dd503f6712576fb132458dab793bd12be7ab1734ef31c5", func := "thicket/thicketlaw19.ExactSettles", spec := "exactSettles", unfollowed := true, recurses := true, plainKeys := false, apart := false }
def ExactSettlesSaid : Prop := exactSettlesRow.holds Tryz.pinned (OpenSpec.ofChange exactSettlesSpec)

/-- ITS FALSE NEIGHBOUR: 'it returns false'. Refute it at one input. -/
def exactSettlesWrong : ChangeSpec := { name := "exactSettles", fn := fun _ => fun
  | [d1, d2] => { results := [.lit (.bool false)], args := [d1, d2] }
  | _ => none }
def ExactSettlesWrongFalsely : Prop := exactSettlesRow.holds Tryz.pinned (OpenSpec.ofChange exactSettlesWrong)

/-- 'thicketlaw20.ReorderSwaps': WHATEVER THE INPUT: true; the input reads as it did. -/
def reorderSwapsSpec : ChangeSpec := { name := "reorderSwaps", fn := fun _ => fun
  | [d1, d2, d3] => { results := [.lit (.bool true)], args := [d1, d2, d3] }
  | _ => none }
def reorderSwapsRow : OpenClaim := { program := "ytfgkdmbicjdeoaagreat", sum := "cfa25dbf5e053a7ff4dd503f6712576fb132458dab793bd12be7ab1734ef31c5", func := "thicket/thicketlaw20.ReorderSwaps", spec := "reorderSwaps", unfollowed := true, recurses := true, plainKeys := false, apart := false }
def ReorderSwapsSaid : Prop := reorderSwapsRow.holds Tryz.pinned (OpenSpec.ofChange reorderSwapsSpec)

/-- ITS FALSE NEIGHBOUR: 'it returns false'. Refute it at one input. -/
def reorderSwapsWrong : ChangeSpec := { name := "reorderSwaps", fn := fun _ => fun
  | [d1, d2, d3] => { results := [.lit (.bool false)], args := [d1, d2, d3] }
  | _ => none }
def ReorderSwapsWrongFalsely : Prop := reorderSwapsRow.holds Tryz.pinned (OpenSpec.ofChange reorderSwapsWrong)

/-- 'thickettop.WholeSifts': WHATEVER THE INPUT: true; the input reads as it did. -/
def wholeSiftsSpec : ChangeSpec := { name := "wholeSifts", fn := fun _ => fun
  | [d1, d2, d3, d4, d5] => { results := [.lit (.bool true)], args := [d1, d2, d3, d4, d5] }
  | _ => none }
def wholeSiftsRow : OpenClaim := { program := "ytfgkdmbicjdeoaagreat", sum := "cfa25dbf5e053a7ff4dd503f6712576fb132458dab793bd12be7ab1734ef31c5", func := "thicket/thickettop.WholeSifts", spec := "wholeSifts", unfollowed := true, recurses := true, plainKeys := false, apart := false }
def WholeSiftsSaid : Prop := wholeSiftsRow.holds Tryz.pinned (OpenSpec.ofChange wholeSiftsSpec)

/-- ITS FALSE NEIGHBOUR: 'it returns false'. Refute it at one input. -/
def wholeSiftsWrong : ChangeSpec := { name := "wholeSifts", fn := fun _ => fun
  | [d1, d2, d3, d4, d5] => { results := [.lit (.bool false)], args := [d1, d2, d3, d4, d5] }
  | _ => none }
def WholeSiftsWrongFalsely : Prop := wholeSiftsRow.holds Tryz.pinned (OpenSpec.ofChange wholeSiftsWrong)

/-- 'thicketlaw20.ReorderFixed': WHATEVER THE INPUT: true; the input reads as it did. -/
def reorderFixedSpec : ChangeSpec := { name := "reorderFixed", fn := fun _ => fun
  | [] => { results := [.lit (.bool true)], args := [] }
  | _ => none }
def reorderFixedRow : OpenClaim := { program := "ytfgkdmbicjdeoaagreat", sum := "cfa25dbf5e053a7ff4dd503f6712576fb132458dab793bd12be7ab1734ef31c5", func := "thicket/thicketlaw20.ReorderFixed", spec := "reorderFixed", unfollowed := true, recurses := true, plainKeys := false, apart := false }
def ReorderFixedSaid : Prop := reorderFixedRow.holds Tryz.pinned (OpenSpec.ofChange reorderFixedSpec)

/-- ITS FALSE NEIGHBOUR: 'it returns false'. Refute it at one input. -/
def reorderFixedWrong : ChangeSpec := { name := "reorderFixed", fn := fun _ => fun
  | [] => { results := [.lit (.bool false)], args := [] }
  | _ => none }
def ReorderFixedWrongFalsely : Prop := reorderFixedRow.holds Tryz.pinned (OpenSpec.ofChange reorderFixedWrong)

/-- 'thickettop.WholeExact': WHATEVER THE INPUT: true; the input reads as it did. -/
def wholeExactSpec : ChangeSpec := { name := "wholeExact", fn := fun _ => fun
  | [d1, d2, d3] => { results := [.lit (.bool true)], args := [d1, d2, d3] }
  | _ => none }
def wholeExactRow : OpenClaim := { program := "ytfgkdmbicjdeoaagreat", sum := "cfa25dbf5e053a7ff4dd503f6712576fb132458dab793bd12be7ab1734ef31c5", func := "thicket/thickettop.WholeExact", spec := "wholeExact", unfollowed := true, recurses := true, plainKeys := false, apart := false }
def WholeExactSaid : Prop := wholeExactRow.holds Tryz.pinned (OpenSpec.ofChange wholeExactSpec)

/-- ITS FALSE NEIGHBOUR: 'it returns false'. Refute it at one input. -/
def wholeExactWrong : ChangeSpec := { name := "wholeExact", fn := fun _ => fun
  | [d1, d2, d3] => { results := [.lit (.bool false)], args := [d1, d2, d3] }
  | _ => none }
def WholeExactWrongFalsely : Prop := wholeExactRow.holds Tryz.pinned (OpenSpec.ofChange wholeExactWrong)

/-- 'thickettop.WholeStrategies': WHATEVER THE INPUT: true; the input reads as it did. -/
def wholeStrategiesSpec : ChangeSpec := { name := "wholeStrategies", fn := fun _ => fun
  | [d1, d2, d3, d4, d5] => { results := [.lit (.bool true)], args := [d1, d2, d3, d4, d5] }
  | _ => none }
def wholeStrategiesRow : OpenClaim := { program := "ytfgkdmbicjdeoaagreat", sum := "cfa25dbf5e053a7ff4dd503f6712576fb132458dab793bd12be7ab1734ef31c5", func := "thicket/thickettop.WholeStrategies", spec := "wholeStrategies", unfollowed := true, recurses := true, plainKeys := false, apart := false }
def WholeStrategiesSaid : Prop := wholeStrategiesRow.holds Tryz.pinned (OpenSpec.ofChange wholeStrategiesSpec)

/-- ITS FALSE NEIGHBOUR: 'it returns false'. Refute it at one input. -/
def wholeStrategiesWrong : ChangeSpec := { name := "wholeStrategies", fn := fun _ => fun
  | [d1, d2, d3, d4, d5] => { results := [.lit (.bool false)], args := [d1, d2, d3, d4, d5] }
  | _ => none }
def WholeStrategiesWrongFalsely : Prop := wholeStrategiesRow.holds Tryz.pinned (OpenSpec.ofChange wholeStrategiesWrong)

/- THE SECOND FORM. 'bulk': how many values and letters a reading holds, each counted each time it is reached (what is shared counts as often as it is met; a slice's spare places count too). A statement '..UptoSaid' is the law's where the arguments, and the package variables that the reading takes, are together of bulk at most 1048576: NARROWER than '..Said'. Prove '..Said' where nothing that the law and all that it calls make is longer than what came in: it says more and counts as full. Else prove '..UptoSaid'. A law counts once. -/
mutual
def uptoBulk {H : Type} : DataW H → Nat
  | .lit (.string bytes) => bytes.length + 1
  | .lit _ => 1
  | .nil => 1
  | .ptr d => uptoBulk d + 1
  | .slice elems spare => uptoBulkAll elems + uptoBulkAll spare + 1
  | .agg parts => uptoBulkAll parts + 1
  | .iface _ d => uptoBulk d + 1
  | .map entries => uptoBulkEntries entries + 1
  | .held _ => 1
def uptoBulkAll {H : Type} : List (DataW H) → Nat
  | [] => 0
  | d :: r => uptoBulk d + uptoBulkAll r
def uptoBulkEntries {H : Type} : List (Lit × DataW H) → Nat
  | [] => 0
  | x :: r => uptoBulkEntry x + uptoBulkEntries r
def uptoBulkEntry {H : Type} : Lit × DataW H → Nat
  | (.string bytes, d) => bytes.length + uptoBulk d + 1
  | (_, d) => uptoBulk d + 1
 end
def uptoSmall : (H : Type) → List (DataW H) → Bool := fun _ ds => decide (uptoBulkAll ds ≤ 1048576)
def OpenSpec.upto (s : _root_.Go.ChangeSpec) : _root_.Go.OpenSpec := { _root_.Go.OpenSpec.ofChange s with cond := some uptoSmall }

/-- 'thickettop.WholeWindows', WHERE WHAT IT READS IS OF BULK AT MOST 1048576: true; the input reads as it did. -/
def wholeWindowsUptoRow : OpenClaim := { program := "ytfgkdmbicjdeoaagreat", sum := "cfa25dbf5e053a7ff4dd503f6712576fb132458dab793bd12be7ab1734ef31c5", func := "thicket/thickettop.WholeWindows", spec := "wholeWindows", unfollowed := true, recurses := true, plainKeys := false, apart := false, narrowed := true }
def WholeWindowsUptoSaid : Prop := wholeWindowsUptoRow.holds Tryz.pinned (OpenSpec.upto wholeWindowsSpec)

/-- 'thicketlaw19.ExactOdd', WHERE WHAT IT READS IS OF BULK AT MOST 1048576: true; the input reads as it did. -/
def exactOddUptoRow : OpenClaim := { program := "ytfgkdmbicjdeoaagreat", sum := "cfa25dbf5e053a7ff4dd503f6712576fb132458dab793bd12be7ab1734ef31c5", func := "thicket/thicketlaw19.ExactOdd", spec := "exactOdd", unfollowed := true, recurses := true, plainKeys := false, apart := false, narrowed := true }
def ExactOddUptoSaid : Prop := exactOddUptoRow.holds Tryz.pinned (OpenSpec.upto exactOddSpec)

/-- 'thicketlaw19.ExactRuns', WHERE WHAT IT READS IS OF BULK AT MOST 1048576: true; the input reads as it did. -/
def exactRunsUptoRow : OpenClaim := { program := "ytfgkdmbicjdeoaagreat", sum := "cfa25dbf5e053a7ff4dd503f6712576fb132458dab793bd12be7ab1734ef31c5", func := "thicket/thicketlaw19.ExactRuns", spec := "exactRuns", unfollowed := true, recurses := true, plainKeys := false, apart := false, narrowed := true }
def ExactRunsUptoSaid : Prop := exactRunsUptoRow.holds Tryz.pinned (OpenSpec.upto exactRunsSpec)

/-- 'thicketlaw19.ExactSettles', WHERE WHAT IT READS IS OF BULK AT MOST 1048576: true; the input reads as it did. -/
def exactSettlesUptoRow : OpenClaim := { program := "ytfgkdmbicjdeoaagreat", sum := "cfa25dbf5e053a7ff4dd503f6712576fb132458dab793bd12be7ab1734ef31c5", func := "thicket/thicketlaw19.ExactSettles", spec := "exactSettles", unfollowed := true, recurses := true, plainKeys := false, apart := false, narrowed := true }
def ExactSettlesUptoSaid : Prop := exactSettlesUptoRow.holds Tryz.pinned (OpenSpec.upto exactSettlesSpec)

/-- 'thicketlaw20.ReorderSwaps', WHERE WHAT IT READS IS OF BULK AT MOST 1048576: true; the input reads as it did. -/
def reorderSwapsUptoRow : OpenClaim := { program := "ytfgkdmbicjdeoaagreat", sum := "cfa25dbf5e053a7ff4dd503f6712576fb132458dab793bd12be7ab1734ef31c5", func := "thicket/thicketlaw20.ReorderSwaps", spec := "reorderSwaps", unfollowed := true, recurses := true, plainKeys := false, apart := false, narrowed := true }
def ReorderSwapsUptoSaid : Prop := reorderSwapsUptoRow.holds Tryz.pinned (OpenSpec.upto reorderSwapsSpec)

/-- 'thickettop.WholeSifts', WHERE WHAT IT READS IS OF BULK AT MOST 1048576: true; the input reads as it did. -/
def wholeSiftsUptoRow : OpenClaim := { program := "ytfgkdmbicjdeoaagreat", sum := "cfa25dbf5e053a7ff4dd503f6712576fb132458dab793bd12be7ab1734ef31c5", func := "thicket/thickettop.WholeSifts", spec := "wholeSifts", unfollowed := true, recurses := true, plainKeys := false, apart := false, narrowed := true }
def WholeSiftsUptoSaid : Prop := wholeSiftsUptoRow.holds Tryz.pinned (OpenSpec.upto wholeSiftsSpec)

/-- 'thicketlaw20.ReorderFixed', WHERE WHAT IT READS IS OF BULK AT MOST 1048576: true; the input reads as it did. -/
def reorderFixedUptoRow : OpenClaim := { program := "ytfgkdmbicjdeoaagreat", sum := "cfa25dbf5e053a7ff4dd503f6712576fb132458dab793bd12be7ab1734ef31c5", func := "thicket/thicketlaw20.ReorderFixed", spec := "reorderFixed", unfollowed := true, recurses := true, plainKeys := false, apart := false, narrowed := true }
def ReorderFixedUptoSaid : Prop := reorderFixedUptoRow.holds Tryz.pinned (OpenSpec.upto reorderFixedSpec)

/-- 'thickettop.WholeExact', WHERE WHAT IT READS IS OF BULK AT MOST 1048576: true; the input reads as it did. -/
def wholeExactUptoRow : OpenClaim := { program := "ytfgkdmbicjdeoaagreat", sum := "cfa25dbf5e053a7ff4dd503f6712576fb132458dab793bd12be7ab1734ef31c5", func := "thicket/thickettop.WholeExact", spec := "wholeExact", unfollowed := true, recurses := true, plainKeys := false, apart := false, narrowed := true }
def WholeExactUptoSaid : Prop := wholeExactUptoRow.holds Tryz.pinned (OpenSpec.upto wholeExactSpec)

/-- 'thickettop.WholeStrategies', WHERE WHAT IT READS IS OF BULK AT MOST 1048576: true; the input reads as it did. -/
def wholeStrategiesUptoRow : OpenClaim := { program := "ytfgkdmbicjdeoaagreat", sum := "cfa25dbf5e053a7ff4dd503f6712576fb132458dab793bd12be7ab1734ef31c5", func := "thicket/thickettop.WholeStrategies", spec := "wholeStrategies", unfollowed := true, recurses := true, plainKeys := false, apart := false, narrowed := true }
def WholeStrategiesUptoSaid : Prop := wholeStrategiesUptoRow.holds Tryz.pinned (OpenSpec.upto wholeStrategiesSpec)

end Rows
end Go.Proofs.YtfgkdmbicjdeoaaGreat
