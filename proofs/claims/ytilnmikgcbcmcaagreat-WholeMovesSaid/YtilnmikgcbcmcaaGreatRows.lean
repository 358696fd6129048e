/-
  No cell of these rows narrows 'for every input' (looked for: loops, veiled, ifaces, maps, wideKeys, modest, calm, conditions, laid).
  DERIVED. THE GIVEN ROWS OF THIS SEAT. 6 by the template 'for every input the law returns true; each argument reads behind the call as it read before'; 0 by the template 'total and deterministic' (their statements: YtilnmikgcbcmcaaGreatTotals.lean).
  GIVEN WITH THE SEED: the statements are not yours to turn. If you find one false, say at which input.
  Laid BY PROGRAM, IN A SANDBOX (cutbox-rows.mjs): the forced cells as the released guide's own fill.sh prints them over the translation 816d94f3d9164438… (all of the seat's roots in one cut). By AI agents, Wed Nov 11 2026. No macro, syntax, notation, axiom, sorry.
-/
import Derived.Test.YtilnmikgcbcmcaaGreatChecked
import GoSem.Claim
import GoSem.ClaimJoined
import GoSem.ClaimMapViews
import Derived.JoinedTies
import Derived.KernelRfl
namespace Go.Proofs.YtilnmikgcbcmcaaGreat
/- THE CELL 'sum', in the pinned program and in every row, IS THE sha256 OF THE DUMP (.gsa) THAT YtilnmikgcbcmcaaGreatProg.lean LOADS. Nothing in Lean hashes anything: it is a label: what it is worth is what the hold of that sum in a sandbox is worth. -/
noncomputable def Tryz.pinned : Pinned := { name := "ytilnmikgcbcmcaagreat", sum := "816d94f3d91644385ee362889d0a5eb962c33e4e01acdffa6759add5e4a1394e", checked := Tryz.checked }
namespace Rows
def none {H : Type} : Left H := { results := [], args := [] }

/-- 'thicketlaw18.WindowWide': WHATEVER THE INPUT: true; the input reads as it did. -/
def windowWideSpec : ChangeSpec := { name := "windowWide", fn := fun _ => fun
  | [d1, d2, d3, d4, d5] => { results := [.lit (.bool true)], args := [d1, d2, d3, d4, d5] }
  | _ => none }
def windowWideRow : OpenClaim := { program := "ytilnmikgcbcmcaagreat", sum := "816d94f3d91644385ee362889d0a5eb962c33e4e01acdffa6759add5e4a1394e", func := "thicket/thicketlaw18.WindowWide", spec := "windowWide", unfollowed := true, recurses := true, plainKeys := false, apart := false }
def WindowWideSaid : Prop := windowWideRow.holds Tryz.pinned (OpenSpec.ofChange windowWideSpec)

/-- ITS FALSE NEIGHBOUR: 'it returns false'. Refute it at one input. -/
def windowWideWrong : ChangeSpec := { name := "windowWide", fn := fun _ => fun
  | [d1, d2, d3, d4, d5] => { results := [.lit (.bool false)], args := [d1, d2, d3, d4, d5] }
  | _ => none }
def WindowWideWrongFalsely : Prop := windowWideRow.holds Tryz.pinned (OpenSpec.ofChange windowWideWrong)

/-- 'thicketlaw18.WindowFixed': WHATEVER THE INPUT: true; the input reads as it did. -/
def windowFixedSpec : ChangeSpec := { name := "windowFixed", fn := fun _ => fun
  | [] => { results := [.lit (.bool true)], args := [] }
  | _ => none }
def windowFixedRow : OpenClaim := { program := "ytilnmikgcbcmcaagreat", sum := "816d94f3d91644385ee362889d0a5eb962c33e4e01acdffa6759add5e4a1394e", func := "thicket/thicketlaw18.WindowFixed", spec := "windowFixed", unfollowed := true, recurses := true, plainKeys := false, apart := false }
def WindowFixedSaid : Prop := windowFixedRow.holds Tryz.pinned (OpenSpec.ofChange windowFixedSpec)

/-- ITS FALSE NEIGHBOUR: 'it returns false'. Refute it at one input. -/
def windowFixedWrong : ChangeSpec := { name := "windowFixed", fn := fun _ => fun
  | [] => { results := [.lit (.bool false)], args := [] }
  | _ => none }
def WindowFixedWrongFalsely : Prop := windowFixedRow.holds Tryz.pinned (OpenSpec.ofChange windowFixedWrong)

/-- 'thickettop.WholeWindows': WHATEVER THE INPUT: true; the input reads as it did. -/
def wholeWindowsSpec : ChangeSpec := { name := "wholeWindows", fn := fun _ => fun
  | [d1, d2, d3, d4] => { results := [.lit (.bool true)], args := [d1, d2, d3, d4] }
  | _ => none }
def wholeWindowsRow : OpenClaim := { program := "ytilnmikgcbcmcaagreat", sum := "816d94f3d91644385ee362889d0a5eb962c33e4e01acdffa6759add5e4a1394e", func := "thicket/thickettop.WholeWindows", spec := "wholeWindows", unfollowed := true, recurses := true, plainKeys := false, apart := false }
def WholeWindowsSaid : Prop := wholeWindowsRow.holds Tryz.pinned (OpenSpec.ofChange wholeWindowsSpec)

/-- ITS FALSE NEIGHBOUR: 'it returns false'. Refute it at one input. -/
def wholeWindowsWrong : ChangeSpec := { name := "wholeWindows", fn := fun _ => fun
  | [d1, d2, d3, d4] => { results := [.lit (.bool false)], args := [d1, d2, d3, d4] }
  | _ => none }
def WholeWindowsWrongFalsely : Prop := wholeWindowsRow.holds Tryz.pinned (OpenSpec.ofChange wholeWindowsWrong)

/-- 'thicketlaw16.MoveWide': WHATEVER THE INPUT: true; the input reads as it did. -/
def moveWideSpec : ChangeSpec := { name := "moveWide", fn := fun _ => fun
  | [d1, d2, d3, d4, d5, d6] => { results := [.lit (.bool true)], args := [d1, d2, d3, d4, d5, d6] }
  | _ => none }
def moveWideRow : OpenClaim := { program := "ytilnmikgcbcmcaagreat", sum := "816d94f3d91644385ee362889d0a5eb962c33e4e01acdffa6759add5e4a1394e", func := "thicket/thicketlaw16.MoveWide", spec := "moveWide", unfollowed := true, recurses := true, plainKeys := false, apart := false }
def MoveWideSaid : Prop := moveWideRow.holds Tryz.pinned (OpenSpec.ofChange moveWideSpec)

/-- ITS FALSE NEIGHBOUR: 'it returns false'. Refute it at one input. -/
def moveWideWrong : ChangeSpec := { name := "moveWide", fn := fun _ => fun
  | [d1, d2, d3, d4, d5, d6] => { results := [.lit (.bool false)], args := [d1, d2, d3, d4, d5, d6] }
  | _ => none }
def MoveWideWrongFalsely : Prop := moveWideRow.holds Tryz.pinned (OpenSpec.ofChange moveWideWrong)

/-- 'thicketlaw16.MoveFixed': WHATEVER THE INPUT: true; the input reads as it did. -/
def moveFixedSpec : ChangeSpec := { name := "moveFixed", fn := fun _ => fun
  | [] => { results := [.lit (.bool true)], args := [] }
  | _ => none }
def moveFixedRow : OpenClaim := { program := "ytilnmikgcbcmcaagreat", sum := "816d94f3d91644385ee362889d0a5eb962c33e4e01acdffa6759add5e4a1394e", func := "thicket/thicketlaw16.MoveFixed", spec := "moveFixed", unfollowed := true, recurses := true, plainKeys := false, apart := false }
def MoveFixedSaid : Prop := moveFixedRow.holds Tryz.pinned (OpenSpec.ofChange moveFixedSpec)

/-- ITS FALSE NEIGHBOUR: 'it returns false'. Refute it at one input. -/
def moveFixedWrong : ChangeSpec := { name := "moveFixed", fn := fun _ => fun
  | [] => { results := [.lit (.bool false)], args := [] }
  | _ => none }
def MoveFixedWrongFalsely : Prop := moveFixedRow.holds Tryz.pinned (OpenSpec.ofChange moveFixedWrong)

/-- 'thickettop.WholeMoves': WHATEVER THE INPUT: true; the input reads as it did. -/
def wholeMovesSpec : ChangeSpec := { name := "wholeMoves", fn := fun _ => fun
  | [d1, d2, d3, d4, d5] => { results := [.lit (.bool true)], args := [d1, d2, d3, d4, d5] }
  | _ => none }
def wholeMovesRow : OpenClaim := { program := "ytilnmikgcbcmcaagreat", sum := "816d94f3d91644385ee362889d0a5eb962c33e4e01acdffa6759add5e4a1394e", func := "thicket/thickettop.WholeMoves", spec := "wholeMoves", unfollowed := true, recurses := true, plainKeys := false, apart := false }
def WholeMovesSaid : Prop := wholeMovesRow.holds Tryz.pinned (OpenSpec.ofChange wholeMovesSpec)

/-- ITS FALSE NEIGHBOUR: 'it returns false'. Refute it at one input. -/
def wholeMovesWrong : ChangeSpec := { name := "wholeMoves", fn := fun _ => fun
  | [d1, d2, d3, d4, d5] => { results := [.lit (.bool false)], args := [d1, d2, d3, d4, d5] }
  | _ => none }
def WholeMovesWrongFalsely : Prop := wholeMovesRow.holds Tryz.pinned (OpenSpec.ofChange wholeMovesWrong)

/- THE SECOND FORM. 'bulk': how many values and letters a reading holds, each counted each time it is reached (what is shared counts as often as it is met; a slice's spare places count too). A statement '..UptoSaid' is the law's where the arguments, and the package variables that the reading takes, are together of bulk at most 1048576: NARROWER than '..Said'. Prove '..Said' where nothing that the law and all that it calls make is longer than what came in: it says more and counts as full. Else prove '..UptoSaid'. A law counts once. -/
mutual
def uptoBulk {H : Type} : DataW H → Nat
  | .lit (.string bytes) => bytes.length + 1
  | .lit _ => 1
  | .nil => 1
  | .ptr d => uptoBulk d + 1
  | .slice elems spare => uptoBulkAll elems + uptoBulkAll spare + 1
  | .agg parts => uptoBulkAll parts + 1
  | .iface _ d => uptoBulk d + 1
  | .map entries => uptoBulkEntries entries + 1
  | .held _ => 1
def uptoBulkAll {H : Type} : List (DataW H) → Nat
  | [] => 0
  | d :: r => uptoBulk d + uptoBulkAll r
def uptoBulkEntries {H : Type} : List (Lit × DataW H) → Nat
  | [] => 0
  | x :: r => uptoBulkEntry x + uptoBulkEntries r
def uptoBulkEntry {H : Type} : Lit × DataW H → Nat
  | (.string bytes, d) => bytes.length + uptoBulk d + 1
  | (_, d) => uptoBulk d + 1
 end
def uptoSmall : (H : Type) → List (DataW H) → Bool := fun _ ds => decide (uptoBulkAll ds ≤ 1048576)
def OpenSpec.upto (s : _root_.Go.ChangeSpec) : _root_.Go.OpenSpec := { _root_.Go.OpenSpec.ofChange s with cond := some uptoSmall }

/-- 'thicketlaw18.WindowWide', WHERE WHAT IT READS IS OF BULK AT MOST 1048576: true; the input reads as it did. -/
def windowWideUptoRow : OpenClaim := { program := "ytilnmikgcbcmcaagreat", sum := "816d94f3d91644385ee362889d0a5eb962c33e4e01acdffa6759add5e4a1394e", func := "thicket/thicketlaw18.WindowWide", spec := "windowWide", unfollowed := true, recurses := true, plainKeys := false, apart := false, narrowed := true }
def WindowWideUptoSaid : Prop := windowWideUptoRow.holds Tryz.pinned (OpenSpec.upto windowWideSpec)

/-- 'thicketlaw18.WindowFixed', WHERE WHAT IT READS IS OF BULK AT MOST 1048576: true; the input reads as it did. -/
def windowFixedUptoRow : OpenClaim := { program := "ytilnmikgcbcmcaagreat", sum := "816d94f3d91644385ee362889d0a5eb962c33e4e01acdffa6759add5e4a1394e", func := "thicket/thicketlaw18.WindowFixed", spec := "windowFixed", unfollowed := true, recurses := true, plainKeys := false, apart := false, narrowed := true }
def WindowFixedUptoSaid : Prop := windowFixedUptoRow.holds Tryz.pinned (OpenSpec.upto windowFixedSpec)

/-- 'thickettop.WholeWindows', WHERE WHAT IT READS IS OF BULK AT MOST 1048576: true; the input reads as it did. -/
def wholeWindowsUptoRow : OpenClaim := { program := "ytilnmikgcbcmcaagreat", sum := "816d94f3d91644385ee362889d0a5eb962c33e4e01acdffa6759add5e4a1394e", func := "thicket/thickettop.WholeWindows", spec := "wholeWindows", unfollowed := true, recurses := true, plainKeys := false, apart := false, narrowed := true }
def WholeWindowsUptoSaid : Prop := wholeWindowsUptoRow.holds Tryz.pinned (OpenSpec.upto wholeWindowsSpec)

/-- 'thicketlaw16.MoveWide', WHERE WHAT IT READS IS OF BULK AT MOST 1048576: true; the input reads as it did. -/
def moveWideUptoRow : OpenClaim := { program := "ytilnmikgcbcmcaagreat", sum := "816d94f3d91644385ee362889d0a5eb962c33e4e01acdffa6759add5e4a1394e", func := "thicket/thicketlaw16.MoveWide", spec := "moveWide", unfollowed := true, recurses := true, plainKeys := false, apart := false, narrowed := true }
def MoveWideUptoSaid : Prop := moveWideUptoRow.holds Tryz.pinned (OpenSpec.upto moveWideSpec)

/-- 'thicketlaw16.MoveFixed', WHERE WHAT IT READS IS OF BULK AT MOST 1048576: true; the input reads as it did. -/
def moveFixedUptoRow : OpenClaim := { program := "ytilnmikgcbcmcaagreat", sum := "816d94f3d91644385ee362889d0a5eb962c33e4e01acdffa6759add5e4a1394e", func := "thicket/thicketlaw16.MoveFixed", spec := "moveFixed", unfollowed := true, recurses := true, plainKeys := false, apart := false, narrowed := true }
def MoveFixedUptoSaid : Prop := moveFixedUptoRow.holds Tryz.pinned (OpenSpec.upto moveFixedSpec)

/-- 'thickettop.WholeMoves', WHERE WHAT IT READS IS OF BULK AT MOST 1048576: true; the input reads as it did. -/
def wholeMovesUptoRow : OpenClaim := { program := "ytilnmikgcbcmcaagreat", sum := "816d94f3d91644385ee362889d0a5eb962c33e4e01acdffa6759add5e4a1394e", func := "thicket/thickettop.WholeMoves", spec := "wholeMoves", unfollowed := true, recurses := true, plainKeys := false, apart := false, narrowed := true }
def WholeMovesUptoSaid : Prop := wholeMovesUptoRow.holds Tryz.pinned (OpenSpec.upto wholeMovesSpec)

end Rows
end Go.Proofs.YtilnmikgcbcmcaaGreat
