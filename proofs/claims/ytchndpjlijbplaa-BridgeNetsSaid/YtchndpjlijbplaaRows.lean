/-
  No cell of these rows narrows 'for every input' (looked for: loops, veiled, ifaces, maps, wideKeys, modest, calm, conditions, laid).
  DERIVED. THE GIVEN ROWS OF THIS SEAT. 5 by the template 'for every input the law returns true; each argument reads behind the call as it read before'; 0 by the template 'total and deterministic' (their statements: YtchndpjlijbplaaTotals.lean).
  GIVEN WITH THE SEED: the statements are not yours to turn. If you find one false, say at which input.
  Laid BY PROGRAM, IN A SANDBOX (cutbox-rows.mjs): the forced cells as the released guide's own fill.sh prints them over the translation 8de7ae4ae4f737d5… (all of the seat's roots in one cut). By AI agents, Wed Nov 11 2026. No macro, syntax, notation, axiom, sorry.
-/
import Derived.Test.YtchndpjlijbplaaChecked
import GoSem.Claim
import GoSem.ClaimJoined
import GoSem.ClaimMapViews
import Derived.JoinedTies
import Derived.KernelRfl
namespace Go.Proofs.Ytchndpjlijbplaa
/- THE CELL 'sum', in the pinned program and in every row, IS THE sha256 OF THE DUMP (.gsa) THAT YtchndpjlijbplaaProg.lean LOADS. Nothing in Lean hashes anything: it is a label: what it is worth is what the hold of that sum in a sandbox is worth. -/
noncomputable def Try.pinned : Pinned := { name := "ytchndpjlijbplaa", sum := "8de7ae4ae4f737d552ae9b45ef2c43614d2e70e95bf449264c1e12df9a1951f2", checked := Try.checked }
namespace Rows
def none {H : Type} : Left H := { results := [], args := [] }

/-- 'kitbaglaw33.SolveOne': WHATEVER THE INPUT: true; the input reads as it did. -/
def solveOneSpec : ChangeSpec := { name := "solveOne", fn := fun _ => fun
  | [d1, d2, d3] => { results := [.lit (.bool true)], args := [d1, d2, d3] }
  | _ => none }
def solveOneRow : OpenClaim := { program := "ytchndpjlijbplaa", sum := "8de7ae4ae4f737d552ae9b45ef2c43614d2e70e95bf449264c1e12df9a1951f2", func := "kitbag/kitbaglaw33.SolveOne", spec := "solveOne", inPlace := ["slices.overlaps[kitbag/solve.term]"], unfollowed := true, recurses := true, apart := false }
def SolveOneSaid : Prop := solveOneRow.holds Try.pinned (OpenSpec.ofChange solveOneSpec)

/-- ITS FALSE NEIGHBOUR: 'it returns false'. Refute it at one input. -/
def solveOneWrong : ChangeSpec := { name := "solveOne", fn := fun _ => fun
  | [d1, d2, d3] => { results := [.lit (.bool false)], args := [d1, d2, d3] }
  | _ => none }
def SolveOneWrongFalsely : Prop := solveOneRow.holds Try.pinned (OpenSpec.ofChange solveOneWrong)

/-- 'kitbaglaw33.SolveLinear': WHATEVER THE INPUT: true; the input reads as it did. -/
def solveLinearSpec : ChangeSpec := { name := "solveLinear", fn := fun _ => fun
  | [d1, d2, d3, d4] => { results := [.lit (.bool true)], args := [d1, d2, d3, d4] }
  | _ => none }
def solveLinearRow : OpenClaim := { program := "ytchndpjlijbplaa", sum := "8de7ae4ae4f737d552ae9b45ef2c43614d2e70e95bf449264c1e12df9a1951f2", func := "kitbag/kitbaglaw33.SolveLinear", spec := "solveLinear", inPlace := ["slices.overlaps[kitbag/solve.term]"], unfollowed := true, recurses := true, apart := false }
def SolveLinearSaid : Prop := solveLinearRow.holds Try.pinned (OpenSpec.ofChange solveLinearSpec)

/-- ITS FALSE NEIGHBOUR: 'it returns false'. Refute it at one input. -/
def solveLinearWrong : ChangeSpec := { name := "solveLinear", fn := fun _ => fun
  | [d1, d2, d3, d4] => { results := [.lit (.bool false)], args := [d1, d2, d3, d4] }
  | _ => none }
def SolveLinearWrongFalsely : Prop := solveLinearRow.holds Try.pinned (OpenSpec.ofChange solveLinearWrong)

/-- 'kitbaglaw33.SolveFar': WHATEVER THE INPUT: true; the input reads as it did. -/
def solveFarSpec : ChangeSpec := { name := "solveFar", fn := fun _ => fun
  | [d1, d2, d3, d4] => { results := [.lit (.bool true)], args := [d1, d2, d3, d4] }
  | _ => none }
def solveFarRow : OpenClaim := { program := "ytchndpjlijbplaa", sum := "8de7ae4ae4f737d552ae9b45ef2c43614d2e70e95bf449264c1e12df9a1951f2", func := "kitbag/kitbaglaw33.SolveFar", spec := "solveFar", inPlace := ["slices.overlaps[kitbag/solve.term]"], unfollowed := true, recurses := true, apart := false }
def SolveFarSaid : Prop := solveFarRow.holds Try.pinned (OpenSpec.ofChange solveFarSpec)

/-- ITS FALSE NEIGHBOUR: 'it returns false'. Refute it at one input. -/
def solveFarWrong : ChangeSpec := { name := "solveFar", fn := fun _ => fun
  | [d1, d2, d3, d4] => { results := [.lit (.bool false)], args := [d1, d2, d3, d4] }
  | _ => none }
def SolveFarWrongFalsely : Prop := solveFarRow.holds Try.pinned (OpenSpec.ofChange solveFarWrong)

/-- 'kitbaglaw33.SolveSums': WHATEVER THE INPUT: true; the input reads as it did. -/
def solveSumsSpec : ChangeSpec := { name := "solveSums", fn := fun _ => fun
  | [d1, d2] => { results := [.lit (.bool true)], args := [d1, d2] }
  | _ => none }
def solveSumsRow : OpenClaim := { program := "ytchndpjlijbplaa", sum := "8de7ae4ae4f737d552ae9b45ef2c43614d2e70e95bf449264c1e12df9a1951f2", func := "kitbag/kitbaglaw33.SolveSums", spec := "solveSums", inPlace := ["slices.overlaps[kitbag/solve.term]"], unfollowed := true, recurses := true, apart := false }
def SolveSumsSaid : Prop := solveSumsRow.holds Try.pinned (OpenSpec.ofChange solveSumsSpec)

/-- ITS FALSE NEIGHBOUR: 'it returns false'. Refute it at one input. -/
def solveSumsWrong : ChangeSpec := { name := "solveSums", fn := fun _ => fun
  | [d1, d2] => { results := [.lit (.bool false)], args := [d1, d2] }
  | _ => none }
def SolveSumsWrongFalsely : Prop := solveSumsRow.holds Try.pinned (OpenSpec.ofChange solveSumsWrong)

/-- 'kitbaglaw44.BridgeNets': WHATEVER THE INPUT: true; the input reads as it did. -/
def bridgeNetsSpec : ChangeSpec := { name := "bridgeNets", fn := fun _ => fun
  | [d1, d2, d3, d4, d5] => { results := [.lit (.bool true)], args := [d1, d2, d3, d4, d5] }
  | _ => none }
def bridgeNetsRow : OpenClaim := { program := "ytchndpjlijbplaa", sum := "8de7ae4ae4f737d552ae9b45ef2c43614d2e70e95bf449264c1e12df9a1951f2", func := "kitbag/kitbaglaw44.BridgeNets", spec := "bridgeNets", inPlace := ["slices.overlaps[kitbag/solve.term]"], unfollowed := true, recurses := true, apart := false }
def BridgeNetsSaid : Prop := bridgeNetsRow.holds Try.pinned (OpenSpec.ofChange bridgeNetsSpec)

/-- ITS FALSE NEIGHBOUR: 'it returns false'. Refute it at one input. -/
def bridgeNetsWrong : ChangeSpec := { name := "bridgeNets", fn := fun _ => fun
  | [d1, d2, d3, d4, d5] => { results := [.lit (.bool false)], args := [d1, d2, d3, d4, d5] }
  | _ => none }
def BridgeNetsWrongFalsely : Prop := bridgeNetsRow.holds Try.pinned (OpenSpec.ofChange bridgeNetsWrong)

/- THE SECOND FORM. 'bulk': how many values and letters a reading holds, each counted each time it is reached (what is shared counts as often as it is met; a slice's spare places count too). A statement '..UptoSaid' is the law's where the arguments, and the package variables that the reading takes, are together of bulk at most 1048576: NARROWER than '..Said'. Prove '..Said' where nothing that the law and all that it calls make is longer than what came in: it says more and counts as full. Else prove '..UptoSaid'. A law counts once. -/
mutual
def uptoBulk {H : Type} : DataW H → Nat
  | .lit (.string bytes) => bytes.length + 1
  | .lit _ => 1
  | .nil => 1
  | .ptr d => uptoBulk d + 1
  | .slice elems spare => uptoBulkAll elems + uptoBulkAll spare + 1
  | .agg parts => uptoBulkAll parts + 1
  | .iface _ d => uptoBulk d + 1
  | .map entries => uptoBulkEntries entries + 1
  | .held _ => 1
def uptoBulkAll {H : Type} : List (DataW H) → Nat
  | [] => 0
  | d :: r => uptoBulk d + uptoBulkAll r
def uptoBulkEntries {H : Type} : List (Lit × DataW H) → Nat
  | [] => 0
  | x :: r => uptoBulkEntry x + uptoBulkEntries r
def uptoBulkEntry {H : Type} : Lit × DataW H → Nat
  | (.string bytes, d) => bytes.length + uptoBulk d + 1
  | (_, d) => uptoBulk d + 1
 end
def uptoSmall : (H : Type) → List (DataW H) → Bool := fun _ ds => decide (uptoBulkAll ds ≤ 1048576)
def OpenSpec.upto (s : _root_.Go.ChangeSpec) : _root_.Go.OpenSpec := { _root_.Go.OpenSpec.ofChange s with cond := some uptoSmall }

/-- 'kitbaglaw33.SolveOne', WHERE WHAT IT READS IS OF BULK AT MOST 1048576: true; the input reads as it did. -/
def solveOneUptoRow : OpenClaim := { program := "ytchndpjlijbplaa", sum := "8de7ae4ae4f737d552ae9b45ef2c43614d2e70e95bf449264c1e12df9a1951f2", func := "kitbag/kitbaglaw33.SolveOne", spec := "solveOne", inPlace := ["slices.overlaps[kitbag/solve.term]"], unfollowed := true, recurses := true, apart := false, narrowed := true }
def SolveOneUptoSaid : Prop := solveOneUptoRow.holds Try.pinned (OpenSpec.upto solveOneSpec)

/-- 'kitbaglaw33.SolveLinear', WHERE WHAT IT READS IS OF BULK AT MOST 1048576: true; the input reads as it did. -/
def solveLinearUptoRow : OpenClaim := { program := "ytchndpjlijbplaa", sum := "8de7ae4ae4f737d552ae9b45ef2c43614d2e70e95bf449264c1e12df9a1951f2", func := "kitbag/kitbaglaw33.SolveLinear", spec := "solveLinear", inPlace := ["slices.overlaps[kitbag/solve.term]"], unfollowed := true, recurses := true, apart := false, narrowed := true }
def SolveLinearUptoSaid : Prop := solveLinearUptoRow.holds Try.pinned (OpenSpec.upto solveLinearSpec)

/-- 'kitbaglaw33.SolveFar', WHERE WHAT IT READS IS OF BULK AT MOST 1048576: true; the input reads as it did. -/
def solveFarUptoRow : OpenClaim := { program := "ytchndpjlijbplaa", sum := "8de7ae4ae4f737d552ae9b45ef2c43614d2e70e95bf449264c1e12df9a1951f2", func := "kitbag/kitbaglaw33.SolveFar", spec := "solveFar", inPlace := ["slices.overlaps[kitbag/solve.term]"], unfollowed := true, recurses := true, apart := false, narrowed := true }
def SolveFarUptoSaid : Prop := solveFarUptoRow.holds Try.pinned (OpenSpec.upto solveFarSpec)

/-- 'kitbaglaw33.SolveSums', WHERE WHAT IT READS IS OF BULK AT MOST 1048576: true; the input reads as it did. -/
def solveSumsUptoRow : OpenClaim := { program := "ytchndpjlijbplaa", sum := "8de7ae4ae4f737d552ae9b45ef2c43614d2e70e95bf449264c1e12df9a1951f2", func := "kitbag/kitbaglaw33.SolveSums", spec := "solveSums", inPlace := ["slices.overlaps[kitbag/solve.term]"], unfollowed := true, recurses := true, apart := false, narrowed := true }
def SolveSumsUptoSaid : Prop := solveSumsUptoRow.holds Try.pinned (OpenSpec.upto solveSumsSpec)

/-- 'kitbaglaw44.BridgeNets', WHERE WHAT IT READS IS OF BULK AT MOST 1048576: true; the input reads as it did. -/
def bridgeNetsUptoRow : OpenClaim := { program := "ytchndpjlijbplaa", sum := "8de7ae4ae4f737d552ae9b45ef2c43614d2e70e95bf449264c1e12df9a1951f2", func := "kitbag/kitbaglaw44.BridgeNets", spec := "bridgeNets", inPlace := ["slices.overlaps[kitbag/solve.term]"], unfollowed := true, recurses := true, apart := false, narrowed := true }
def BridgeNetsUptoSaid : Prop := bridgeNetsUptoRow.holds Try.pinned (OpenSpec.upto bridgeNetsSpec)

end Rows
end Go.Proofs.Ytchndpjlijbplaa
