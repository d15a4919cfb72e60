/-
  No cell of these rows narrows 'for every input' (looked for: loops, veiled, ifaces, maps, wideKeys, modest, calm, conditions, laid).
  DERIVED. THE GIVEN ROWS OF THIS SEAT. 10 by the template 'for every input the law returns true; each argument reads behind the call as it read before'; 0 by the template 'total and deterministic' (their statements: YtoclpeomlofcjaaTotals.lean).
  GIVEN WITH THE SEED: the statements are not yours to turn. If you find one false, say at which input.
  Laid BY PROGRAM, IN A SANDBOX (cutbox-rows.mjs): the forced cells as the released guide's own fill.sh prints them over the translation e212e397e6a48ffa… (all of the seat's roots in one cut). By AI agents, Wed Nov 11 2026. No macro, syntax, notation, axiom, sorry.
-/
import Derived.Test.YtoclpeomlofcjaaChecked
import GoSem.Claim
import GoSem.ClaimJoined
import GoSem.ClaimMapViews
import Derived.JoinedTies
import Derived.KernelRfl
namespace Go.Proofs.Ytoclpeomlofcjaa
/- THE CELL 'sum', in the pinned program and in every row, IS THE sha256 OF THE DUMP (.gsa) THAT YtoclpeomlofcjaaProg.lean LOADS. Nothing in Lean hashes anything: it is a label: what it is worth is what the hold of that sum in a sandbox is worth. -/
noncomputable def Try.pinned : Pinned := { name := "ytoclpeomlofcjaa", sum := "e212e397e6a48ffac906790e5758849e0bd369d3f3d0c31d7bc08dc7afeca413", checked := Try.checked }
namespace Rows
def none {H : Type} : Left H := { results := [], args := [] }

/-- 'kitbaglaw44.BridgeWhole': WHATEVER THE INPUT: true; the input reads as it did. -/
def bridgeWholeSpec : ChangeSpec := { name := "bridgeWhole", fn := fun _ => fun
  | [d1, d2, d3] => { results := [.lit (.bool true)], args := [d1, d2, d3] }
  | _ => none }
def bridgeWholeRow : OpenClaim := { program := "ytoclpeomlofcjaa", sum := "e212e397e6a48ffac906790e5758849e0bd369d3f3d0c31d7bc08dc7afeca413", func := "kitbag/kitbaglaw44.BridgeWhole", spec := "bridgeWhole", apart := false }
def BridgeWholeSaid : Prop := bridgeWholeRow.holds Try.pinned (OpenSpec.ofChange bridgeWholeSpec)

/-- ITS FALSE NEIGHBOUR: 'it returns false'. Refute it at one input. -/
def bridgeWholeWrong : ChangeSpec := { name := "bridgeWhole", fn := fun _ => fun
  | [d1, d2, d3] => { results := [.lit (.bool false)], args := [d1, d2, d3] }
  | _ => none }
def BridgeWholeWrongFalsely : Prop := bridgeWholeRow.holds Try.pinned (OpenSpec.ofChange bridgeWholeWrong)

/-- 'kitbaglaw44.BridgeSums': WHATEVER THE INPUT: true; the input reads as it did. -/
def bridgeSumsSpec : ChangeSpec := { name := "bridgeSums", fn := fun _ => fun
  | [d1, d2, d3, d4, d5] => { results := [.lit (.bool true)], args := [d1, d2, d3, d4, d5] }
  | _ => none }
def bridgeSumsRow : OpenClaim := { program := "ytoclpeomlofcjaa", sum := "e212e397e6a48ffac906790e5758849e0bd369d3f3d0c31d7bc08dc7afeca413", func := "kitbag/kitbaglaw44.BridgeSums", spec := "bridgeSums", apart := false }
def BridgeSumsSaid : Prop := bridgeSumsRow.holds Try.pinned (OpenSpec.ofChange bridgeSumsSpec)

/-- ITS FALSE NEIGHBOUR: 'it returns false'. Refute it at one input. -/
def bridgeSumsWrong : ChangeSpec := { name := "bridgeSums", fn := fun _ => fun
  | [d1, d2, d3, d4, d5] => { results := [.lit (.bool false)], args := [d1, d2, d3, d4, d5] }
  | _ => none }
def BridgeSumsWrongFalsely : Prop := bridgeSumsRow.holds Try.pinned (OpenSpec.ofChange bridgeSumsWrong)

/-- 'kitbaglaw44.BridgeLoses': WHATEVER THE INPUT: true; the input reads as it did. -/
def bridgeLosesSpec : ChangeSpec := { name := "bridgeLoses", fn := fun _ => fun
  | [d1, d2, d3] => { results := [.lit (.bool true)], args := [d1, d2, d3] }
  | _ => none }
def bridgeLosesRow : OpenClaim := { program := "ytoclpeomlofcjaa", sum := "e212e397e6a48ffac906790e5758849e0bd369d3f3d0c31d7bc08dc7afeca413", func := "kitbag/kitbaglaw44.BridgeLoses", spec := "bridgeLoses", apart := false }
def BridgeLosesSaid : Prop := bridgeLosesRow.holds Try.pinned (OpenSpec.ofChange bridgeLosesSpec)

/-- ITS FALSE NEIGHBOUR: 'it returns false'. Refute it at one input. -/
def bridgeLosesWrong : ChangeSpec := { name := "bridgeLoses", fn := fun _ => fun
  | [d1, d2, d3] => { results := [.lit (.bool false)], args := [d1, d2, d3] }
  | _ => none }
def BridgeLosesWrongFalsely : Prop := bridgeLosesRow.holds Try.pinned (OpenSpec.ofChange bridgeLosesWrong)

/-- 'kitbaglaw44.BridgeOrders': WHATEVER THE INPUT: true; the input reads as it did. -/
def bridgeOrdersSpec : ChangeSpec := { name := "bridgeOrders", fn := fun _ => fun
  | [d1, d2] => { results := [.lit (.bool true)], args := [d1, d2] }
  | _ => none }
def bridgeOrdersRow : OpenClaim := { program := "ytoclpeomlofcjaa", sum := "e212e397e6a48ffac906790e5758849e0bd369d3f3d0c31d7bc08dc7afeca413", func := "kitbag/kitbaglaw44.BridgeOrders", spec := "bridgeOrders", recurses := true, apart := false }
def BridgeOrdersSaid : Prop := bridgeOrdersRow.holds Try.pinned (OpenSpec.ofChange bridgeOrdersSpec)

/-- ITS FALSE NEIGHBOUR: 'it returns false'. Refute it at one input. -/
def bridgeOrdersWrong : ChangeSpec := { name := "bridgeOrders", fn := fun _ => fun
  | [d1, d2] => { results := [.lit (.bool false)], args := [d1, d2] }
  | _ => none }
def BridgeOrdersWrongFalsely : Prop := bridgeOrdersRow.holds Try.pinned (OpenSpec.ofChange bridgeOrdersWrong)

/-- 'kitbaglaw44.BridgeFair': WHATEVER THE INPUT: true; the input reads as it did. -/
def bridgeFairSpec : ChangeSpec := { name := "bridgeFair", fn := fun _ => fun
  | [d1, d2, d3] => { results := [.lit (.bool true)], args := [d1, d2, d3] }
  | _ => none }
def bridgeFairRow : OpenClaim := { program := "ytoclpeomlofcjaa", sum := "e212e397e6a48ffac906790e5758849e0bd369d3f3d0c31d7bc08dc7afeca413", func := "kitbag/kitbaglaw44.BridgeFair", spec := "bridgeFair", apart := false }
def BridgeFairSaid : Prop := bridgeFairRow.holds Try.pinned (OpenSpec.ofChange bridgeFairSpec)

/-- ITS FALSE NEIGHBOUR: 'it returns false'. Refute it at one input. -/
def bridgeFairWrong : ChangeSpec := { name := "bridgeFair", fn := fun _ => fun
  | [d1, d2, d3] => { results := [.lit (.bool false)], args := [d1, d2, d3] }
  | _ => none }
def BridgeFairWrongFalsely : Prop := bridgeFairRow.holds Try.pinned (OpenSpec.ofChange bridgeFairWrong)

/-- 'kitbaglaw33.SolveOne': WHATEVER THE INPUT: true; the input reads as it did. -/
def solveOneSpec : ChangeSpec := { name := "solveOne", fn := fun _ => fun
  | [d1, d2, d3] => { results := [.lit (.bool true)], args := [d1, d2, d3] }
  | _ => none }
def solveOneRow : OpenClaim := { program := "ytoclpeomlofcjaa", sum := "e212e397e6a48ffac906790e5758849e0bd369d3f3d0c31d7bc08dc7afeca413", func := "kitbag/kitbaglaw33.SolveOne", spec := "solveOne", inPlace := ["slices.overlaps[kitbag/solve.term]"], unfollowed := true, recurses := true, apart := false }
def SolveOneSaid : Prop := solveOneRow.holds Try.pinned (OpenSpec.ofChange solveOneSpec)

/-- ITS FALSE NEIGHBOUR: 'it returns false'. Refute it at one input. -/
def solveOneWrong : ChangeSpec := { name := "solveOne", fn := fun _ => fun
  | [d1, d2, d3] => { results := [.lit (.bool false)], args := [d1, d2, d3] }
  | _ => none }
def SolveOneWrongFalsely : Prop := solveOneRow.holds Try.pinned (OpenSpec.ofChange solveOneWrong)

/-- 'kitbaglaw33.SolveLinear': WHATEVER THE INPUT: true; the input reads as it did. -/
def solveLinearSpec : ChangeSpec := { name := "solveLinear", fn := fun _ => fun
  | [d1, d2, d3, d4] => { results := [.lit (.bool true)], args := [d1, d2, d3, d4] }
  | _ => none }
def solveLinearRow : OpenClaim := { program := "ytoclpeomlofcjaa", sum := "e212e397e6a48ffac906790e5758849e0bd369d3f3d0c31d7bc08dc7afeca413", func := "kitbag/kitbaglaw33.SolveLinear", spec := "solveLinear", inPlace := ["slices.overlaps[kitbag/solve.term]"], unfollowed := true, recurses := true, apart := false }
def SolveLinearSaid : Prop := solveLinearRow.holds Try.pinned (OpenSpec.ofChange solveLinearSpec)

/-- ITS FALSE NEIGHBOUR: 'it returns false'. Refute it at one input. -/
def solveLinearWrong : ChangeSpec := { name := "solveLinear", fn := fun _ => fun
  | [d1, d2, d3, d4] => { results := [.lit (.bool false)], args := [d1, d2, d3, d4] }
  | _ => none }
def SolveLinearWrongFalsely : Prop := solveLinearRow.holds Try.pinned (OpenSpec.ofChange solveLinearWrong)

/-- 'kitbaglaw33.SolveFar': WHATEVER THE INPUT: true; the input reads as it did. -/
def solveFarSpec : ChangeSpec := { name := "solveFar", fn := fun _ => fun
  | [d1, d2, d3, d4] => { results := [.lit (.bool true)], args := [d1, d2, d3, d4] }
  | _ => none }
def solveFarRow : OpenClaim := { program := "ytoclpeomlofcjaa", sum := "e212e397e6a48ffac906790e5758849e0bd369d3f3d0c31d7bc08dc7afeca413", func := "kitbag/kitbaglaw33.SolveFar", spec := "solveFar", inPlace := ["slices.overlaps[kitbag/solve.term]"], unfollowed := true, recurses := true, apart := false }
def SolveFarSaid : Prop := solveFarRow.holds Try.pinned (OpenSpec.ofChange solveFarSpec)

/-- ITS FALSE NEIGHBOUR: 'it returns false'. Refute it at one input. -/
def solveFarWrong : ChangeSpec := { name := "solveFar", fn := fun _ => fun
  | [d1, d2, d3, d4] => { results := [.lit (.bool false)], args := [d1, d2, d3, d4] }
  | _ => none }
def SolveFarWrongFalsely : Prop := solveFarRow.holds Try.pinned (OpenSpec.ofChange solveFarWrong)

/-- 'kitbaglaw33.SolveSums': WHATEVER THE INPUT: true; the input reads as it did. -/
def solveSumsSpec : ChangeSpec := { name := "solveSums", fn := fun _ => fun
  | [d1, d2] => { results := [.lit (.bool true)], args := [d1, d2] }
  | _ => none }
def solveSumsRow : OpenClaim := { program := "ytoclpeomlofcjaa", sum := "e212e397e6a48ffac906790e5758849e0bd369d3f3d0c31d7bc08dc7afeca413", func := "kitbag/kitbaglaw33.SolveSums", spec := "solveSums", inPlace := ["slices.overlaps[kitbag/solve.term]"], unfollowed := true, recurses := true, apart := false }
def SolveSumsSaid : Prop := solveSumsRow.holds Try.pinned (OpenSpec.ofChange solveSumsSpec)

/-- ITS FALSE NEIGHBOUR: 'it returns false'. Refute it at one input. -/
def solveSumsWrong : ChangeSpec := { name := "solveSums", fn := fun _ => fun
  | [d1, d2] => { results := [.lit (.bool false)], args := [d1, d2] }
  | _ => none }
def SolveSumsWrongFalsely : Prop := solveSumsRow.holds Try.pinned (OpenSpec.ofChange solveSumsWrong)

/-- 'kitbaglaw44.BridgeNets': WHATEVER THE INPUT: true; the input reads as it did. -/
def bridgeNetsSpec : ChangeSpec := { name := "bridgeNets", fn := fun _ => fun
  | [d1, d2, d3, d4, d5] => { results := [.lit (.bool true)], args := [d1, d2, d3, d4, d5] }
  | _ => none }
def bridgeNetsRow : OpenClaim := { program := "ytoclpeomlofcjaa", sum := "e212e397e6a48ffac906790e5758849e0bd369d3f3d0c31d7bc08dc7afeca413", func := "kitbag/kitbaglaw44.BridgeNets", spec := "bridgeNets", inPlace := ["slices.overlaps[kitbag/solve.term]"], unfollowed := true, recurses := true, apart := false }
def BridgeNetsSaid : Prop := bridgeNetsRow.holds Try.pinned (OpenSpec.ofChange bridgeNetsSpec)

/-- ITS FALSE NEIGHBOUR: 'it returns false'. Refute it at one input. -/
def bridgeNetsWrong : ChangeSpec := { name := "bridgeNets", fn := fun _ => fun
  | [d1, d2, d3, d4, d5] => { results := [.lit (.bool false)], args := [d1, d2, d3, d4, d5] }
  | _ => none }
def BridgeNetsWrongFalsely : Prop := bridgeNetsRow.holds Try.pinned (OpenSpec.ofChange bridgeNetsWrong)

/- THE SECOND FORM. 'bulk': how many values and letters a reading holds, each counted each time it is reached (what is shared counts as often as it is met; a slice's spare places count too). A statement '..UptoSaid' is the law's where the arguments, and the package variables that the reading takes, are together of bulk at most 1048576: NARROWER than '..Said'. Prove '..Said' where nothing that the law and all that it calls make is longer than what came in: it says more and counts as full. Else prove '..UptoSaid'. A law counts once. -/
mutual
def uptoBulk {H : Type} : DataW H → Nat
  | .lit (.string bytes) => bytes.length + 1
  | .lit _ => 1
  | .nil => 1
  | .ptr d => uptoBulk d + 1
  | .slice elems spare => uptoBulkAll elems + uptoBulkAll spare + 1
  | .agg parts => uptoBulkAll parts + 1
  | .iface _ d => uptoBulk d + 1
  | .map entries => uptoBulkEntries entries + 1
  | .held _ => 1
def uptoBulkAll {H : Type} : List (DataW H) → Nat
  | [] => 0
  | d :: r => uptoBulk d + uptoBulkAll r
def uptoBulkEntries {H : Type} : List (Lit × DataW H) → Nat
  | [] => 0
  | x :: r => uptoBulkEntry x + uptoBulkEntries r
def uptoBulkEntry {H : Type} : Lit × DataW H → Nat
  | (.string bytes, d) => bytes.length + uptoBulk d + 1
  | (_, d) => uptoBulk d + 1
 end
def uptoSmall : (H : Type) → List (DataW H) → Bool := fun _ ds => decide (uptoBulkAll ds ≤ 1048576)
def OpenSpec.upto (s : _root_.Go.ChangeSpec) : _root_.Go.OpenSpec := { _root_.Go.OpenSpec.ofChange s with cond := some uptoSmall }

/-- 'kitbaglaw44.BridgeWhole', WHERE WHAT IT READS IS OF BULK AT MOST 1048576: true; the input reads as it did. -/
def bridgeWholeUptoRow : OpenClaim := { program := "ytoclpeomlofcjaa", sum := "e212e397e6a48ffac906790e5758849e0bd369d3f3d0c31d7bc08dc7afeca413", func := "kitbag/kitbaglaw44.BridgeWhole", spec := "bridgeWhole", apart := false, narrowed := true }
def BridgeWholeUptoSaid : Prop := bridgeWholeUptoRow.holds Try.pinned (OpenSpec.upto bridgeWholeSpec)

/-- 'kitbaglaw44.BridgeSums', WHERE WHAT IT READS IS OF BULK AT MOST 1048576: true; the input reads as it did. -/
def bridgeSumsUptoRow : OpenClaim := { program := "ytoclpeomlofcjaa", sum := "e212e397e6a48ffac906790e5758849e0bd369d3f3d0c31d7bc08dc7afeca413", func := "kitbag/kitbaglaw44.BridgeSums", spec := "bridgeSums", apart := false, narrowed := true }
def BridgeSumsUptoSaid : Prop := bridgeSumsUptoRow.holds Try.pinned (OpenSpec.upto bridgeSumsSpec)

/-- 'kitbaglaw44.BridgeLoses', WHERE WHAT IT READS IS OF BULK AT MOST 1048576: true; the input reads as it did. -/
def bridgeLosesUptoRow : OpenClaim := { program := "ytoclpeomlofcjaa", sum := "e212e397e6a48ffac906790e5758849e0bd369d3f3d0c31d7bc08dc7afeca413", func := "kitbag/kitbaglaw44.BridgeLoses", spec := "bridgeLoses", apart := false, narrowed := true }
def BridgeLosesUptoSaid : Prop := bridgeLosesUptoRow.holds Try.pinned (OpenSpec.upto bridgeLosesSpec)

/-- 'kitbaglaw44.BridgeOrders', WHERE WHAT IT READS IS OF BULK AT MOST 1048576: true; the input reads as it did. -/
def bridgeOrdersUptoRow : OpenClaim := { program := "ytoclpeomlofcjaa", sum := "e212e397e6a48ffac906790e5758849e0bd369d3f3d0c31d7bc08dc7afeca413", func := "kitbag/kitbaglaw44.BridgeOrders", spec := "bridgeOrders", recurses := true, apart := false, narrowed := true }
def BridgeOrdersUptoSaid : Prop := bridgeOrdersUptoRow.holds Try.pinned (OpenSpec.upto bridgeOrdersSpec)

/-- 'kitbaglaw44.BridgeFair', WHERE WHAT IT READS IS OF BULK AT MOST 1048576: true; the input reads as it did. -/
def bridgeFairUptoRow : OpenClaim := { program := "ytoclpeomlofcjaa", sum := "e212e397e6a48ffac906790e5758849e0bd369d3f3d0c31d7bc08dc7afeca413", func := "kitbag/kitbaglaw44.BridgeFair", spec := "bridgeFair", apart := false, narrowed := true }
def BridgeFairUptoSaid : Prop := bridgeFairUptoRow.holds Try.pinned (OpenSpec.upto bridgeFairSpec)

/-- 'kitbaglaw33.SolveOne', WHERE WHAT IT READS IS OF BULK AT MOST 1048576: true; the input reads as it did. -/
def solveOneUptoRow : OpenClaim := { program := "ytoclpeomlofcjaa", sum := "e212e397e6a48ffac906790e5758849e0bd369d3f3d0c31d7bc08dc7afeca413", func := "kitbag/kitbaglaw33.SolveOne", spec := "solveOne", inPlace := ["slices.overlaps[kitbag/solve.term]"], unfollowed := true, recurses := true, apart := false, narrowed := true }
def SolveOneUptoSaid : Prop := solveOneUptoRow.holds Try.pinned (OpenSpec.upto solveOneSpec)

/-- 'kitbaglaw33.SolveLinear', WHERE WHAT IT READS IS OF BULK AT MOST 1048576: true; the input reads as it did. -/
def solveLinearUptoRow : OpenClaim := { program := "ytoclpeomlofcjaa", sum := "e212e397e6a48ffac906790e5758849e0bd369d3f3d0c31d7bc08dc7afeca413", func := "kitbag/kitbaglaw33.SolveLinear", spec := "solveLinear", inPlace := ["slices.overlaps[kitbag/solve.term]"], unfollowed := true, recurses := true, apart := false, narrowed := true }
def SolveLinearUptoSaid : Prop := solveLinearUptoRow.holds Try.pinned (OpenSpec.upto solveLinearSpec)

/-- 'kitbaglaw33.SolveFar', WHERE WHAT IT READS IS OF BULK AT MOST 1048576: true; the input reads as it did. -/
def solveFarUptoRow : OpenClaim := { program := "ytoclpeomlofcjaa", sum := "e212e397e6a48ffac906790e5758849e0bd369d3f3d0c31d7bc08dc7afeca413", func := "kitbag/kitbaglaw33.SolveFar", spec := "solveFar", inPlace := ["slices.overlaps[kitbag/solve.term]"], unfollowed := true, recurses := true, apart := false, narrowed := true }
def SolveFarUptoSaid : Prop := solveFarUptoRow.holds Try.pinned (OpenSpec.upto solveFarSpec)

/-- 'kitbaglaw33.SolveSums', WHERE WHAT IT READS IS OF BULK AT MOST 1048576: true; the input reads as it did. -/
def solveSumsUptoRow : OpenClaim := { program := "ytoclpeomlofcjaa", sum := "e212e397e6a48ffac906790e5758849e0bd369d3f3d0c31d7bc08dc7afeca413", func := "kitbag/kitbaglaw33.SolveSums", spec := "solveSums", inPlace := ["slices.overlaps[kitbag/solve.term]"], unfollowed := true, recurses := true, apart := false, narrowed := true }
def SolveSumsUptoSaid : Prop := solveSumsUptoRow.holds Try.pinned (OpenSpec.upto solveSumsSpec)

/-- 'kitbaglaw44.BridgeNets', WHERE WHAT IT READS IS OF BULK AT MOST 1048576: true; the input reads as it did. -/
def bridgeNetsUptoRow : OpenClaim := { program := "ytoclpeomlofcjaa", sum := "e212e397e6a48ffac906790e5758849e0bd369d3f3d0c31d7bc08dc7afeca413", func := "kitbag/kitbaglaw44.BridgeNets", spec := "bridgeNets", inPlace := ["slices.overlaps[kitbag/solve.term]"], unfollowed := true, recurses := true, apart := false, narrowed := true }
def BridgeNetsUptoSaid : Prop := bridgeNetsUptoRow.holds Try.pinned (OpenSpec.upto bridgeNetsSpec)

end Rows
end Go.Proofs.Ytoclpeomlofcjaa
