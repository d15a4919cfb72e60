/-
  No cell of these rows narrows 'for every input' (looked for: loops, veiled, ifaces, maps, wideKeys, modest, calm, conditions, laid).
  DERIVED. THE GIVEN ROWS OF THIS SEAT. 5 by the template 'for every input the law returns true; each argument reads behind the call as it read before'; 0 by the template 'total and deterministic' (their statements: YtadpbhbkdnfbpaaTotals.lean).
  GIVEN WITH THE SEED: the statements are not yours to turn. If you find one false, say at which input.
  Laid BY PROGRAM, IN A SANDBOX (cutbox-rows.mjs): the forced cells as the released guide's own fill.sh prints them over the translation d92ac28884bd3618… (all of the seat's roots in one cut). By AI agents, Wed Nov 11 2026. No macro, syntax, notation, axiom, sorry.
-/
import Derived.Test.YtadpbhbkdnfbpaaChecked
import GoSem.Claim
import GoSem.ClaimJoined
import GoSem.ClaimMapViews
import Derived.JoinedTies
import Derived.KernelRfl
namespace Go.Proofs.Ytadpbhbkdnfbpaa
/- THE CELL 'sum', in the pinned program and in every row, IS THE sha256 OF THE DUMP (.gsa) THAT YtadpbhbkdnfbpaaProg.lean LOADS. Nothing in Lean hashes anything: it is a label: what it is worth is what the hold of that sum in a sandbox is worth. -/
noncomputable def Try.pinned : Pinned := { name := "ytadpbhbkdnfbpaa", sum := "d92ac28884bd361845865210e3cf0e4186e87115550402a629a365ee0ae1a596", checked := Try.checked }
namespace Rows
def none {H : Type} : Left H := { results := [], args := [] }

/-- 'kitbaglaw47.TargetTells': WHATEVER THE INPUT: true; the input reads as it did. -/
def targetTellsSpec : ChangeSpec := { name := "targetTells", fn := fun _ => fun
  | [d1, d2, d3] => { results := [.lit (.bool true)], args := [d1, d2, d3] }
  | _ => none }
def targetTellsRow : OpenClaim := { program := "ytadpbhbkdnfbpaa", sum := "d92ac28884bd361845865210e3cf0e4186e87115550402a629a365ee0ae1a596", func := "kitbag/kitbaglaw47.TargetTells", spec := "targetTells", unfollowed := true, recurses := true, apart := false }
def TargetTellsSaid : Prop := targetTellsRow.holds Try.pinned (OpenSpec.ofChange targetTellsSpec)

/-- ITS FALSE NEIGHBOUR: 'it returns false'. Refute it at one input. -/
def targetTellsWrong : ChangeSpec := { name := "targetTells", fn := fun _ => fun
  | [d1, d2, d3] => { results := [.lit (.bool false)], args := [d1, d2, d3] }
  | _ => none }
def TargetTellsWrongFalsely : Prop := targetTellsRow.holds Try.pinned (OpenSpec.ofChange targetTellsWrong)

/-- 'kitbaglaw47.TargetFewest': WHATEVER THE INPUT: true; the input reads as it did. -/
def targetFewestSpec : ChangeSpec := { name := "targetFewest", fn := fun _ => fun
  | [d1, d2, d3] => { results := [.lit (.bool true)], args := [d1, d2, d3] }
  | _ => none }
def targetFewestRow : OpenClaim := { program := "ytadpbhbkdnfbpaa", sum := "d92ac28884bd361845865210e3cf0e4186e87115550402a629a365ee0ae1a596", func := "kitbag/kitbaglaw47.TargetFewest", spec := "targetFewest", unfollowed := true, recurses := true, apart := false }
def TargetFewestSaid : Prop := targetFewestRow.holds Try.pinned (OpenSpec.ofChange targetFewestSpec)

/-- ITS FALSE NEIGHBOUR: 'it returns false'. Refute it at one input. -/
def targetFewestWrong : ChangeSpec := { name := "targetFewest", fn := fun _ => fun
  | [d1, d2, d3] => { results := [.lit (.bool false)], args := [d1, d2, d3] }
  | _ => none }
def TargetFewestWrongFalsely : Prop := targetFewestRow.holds Try.pinned (OpenSpec.ofChange targetFewestWrong)

/-- 'kitbaglaw47.TargetOrder': WHATEVER THE INPUT: true; the input reads as it did. -/
def targetOrderSpec : ChangeSpec := { name := "targetOrder", fn := fun _ => fun
  | [d1, d2] => { results := [.lit (.bool true)], args := [d1, d2] }
  | _ => none }
def targetOrderRow : OpenClaim := { program := "ytadpbhbkdnfbpaa", sum := "d92ac28884bd361845865210e3cf0e4186e87115550402a629a365ee0ae1a596", func := "kitbag/kitbaglaw47.TargetOrder", spec := "targetOrder", unfollowed := true, recurses := true, apart := false }
def TargetOrderSaid : Prop := targetOrderRow.holds Try.pinned (OpenSpec.ofChange targetOrderSpec)

/-- ITS FALSE NEIGHBOUR: 'it returns false'. Refute it at one input. -/
def targetOrderWrong : ChangeSpec := { name := "targetOrder", fn := fun _ => fun
  | [d1, d2] => { results := [.lit (.bool false)], args := [d1, d2] }
  | _ => none }
def TargetOrderWrongFalsely : Prop := targetOrderRow.holds Try.pinned (OpenSpec.ofChange targetOrderWrong)

/-- 'kitbaglaw47.TargetSwaps': WHATEVER THE INPUT: true; the input reads as it did. -/
def targetSwapsSpec : ChangeSpec := { name := "targetSwaps", fn := fun _ => fun
  | [d1, d2, d3, d4] => { results := [.lit (.bool true)], args := [d1, d2, d3, d4] }
  | _ => none }
def targetSwapsRow : OpenClaim := { program := "ytadpbhbkdnfbpaa", sum := "d92ac28884bd361845865210e3cf0e4186e87115550402a629a365ee0ae1a596", func := "kitbag/kitbaglaw47.TargetSwaps", spec := "targetSwaps", unfollowed := true, recurses := true, apart := false }
def TargetSwapsSaid : Prop := targetSwapsRow.holds Try.pinned (OpenSpec.ofChange targetSwapsSpec)

/-- ITS FALSE NEIGHBOUR: 'it returns false'. Refute it at one input. -/
def targetSwapsWrong : ChangeSpec := { name := "targetSwaps", fn := fun _ => fun
  | [d1, d2, d3, d4] => { results := [.lit (.bool false)], args := [d1, d2, d3, d4] }
  | _ => none }
def TargetSwapsWrongFalsely : Prop := targetSwapsRow.holds Try.pinned (OpenSpec.ofChange targetSwapsWrong)

/-- 'kitbaglaw47.TargetGreater': WHATEVER THE INPUT: true; the input reads as it did. -/
def targetGreaterSpec : ChangeSpec := { name := "targetGreater", fn := fun _ => fun
  | [d1, d2, d3] => { results := [.lit (.bool true)], args := [d1, d2, d3] }
  | _ => none }
def targetGreaterRow : OpenClaim := { program := "ytadpbhbkdnfbpaa", sum := "d92ac28884bd361845865210e3cf0e4186e87115550402a629a365ee0ae1a596", func := "kitbag/kitbaglaw47.TargetGreater", spec := "targetGreater", unfollowed := true, recurses := true, apart := false }
def TargetGreaterSaid : Prop := targetGreaterRow.holds Try.pinned (OpenSpec.ofChange targetGreaterSpec)

/-- ITS FALSE NEIGHBOUR: 'it returns false'. Refute it at one input. -/
def targetGreaterWrong : ChangeSpec := { name := "targetGreater", fn := fun _ => fun
  | [d1, d2, d3] => { results := [.lit (.bool false)], args := [d1, d2, d3] }
  | _ => none }
def TargetGreaterWrongFalsely : Prop := targetGreaterRow.holds Try.pinned (OpenSpec.ofChange targetGreaterWrong)

/- THE SECOND FORM. 'bulk': how many values and letters a reading holds, each counted each time it is reached (what is shared counts as often as it is met; a slice's spare places count too). A statement '..UptoSaid' is the law's where the arguments, and the package variables that the reading takes, are together of bulk at most 1048576: NARROWER than '..Said'. Prove '..Said' where nothing that the law and all that it calls make is longer than what came in: it says more and counts as full. Else prove '..UptoSaid'. A law counts once. -/
mutual
def uptoBulk {H : Type} : DataW H → Nat
  | .lit (.string bytes) => bytes.length + 1
  | .lit _ => 1
  | .nil => 1
  | .ptr d => uptoBulk d + 1
  | .slice elems spare => uptoBulkAll elems + uptoBulkAll spare + 1
  | .agg parts => uptoBulkAll parts + 1
  | .iface _ d => uptoBulk d + 1
  | .map entries => uptoBulkEntries entries + 1
  | .held _ => 1
def uptoBulkAll {H : Type} : List (DataW H) → Nat
  | [] => 0
  | d :: r => uptoBulk d + uptoBulkAll r
def uptoBulkEntries {H : Type} : List (Lit × DataW H) → Nat
  | [] => 0
  | x :: r => uptoBulkEntry x + uptoBulkEntries r
def uptoBulkEntry {H : Type} : Lit × DataW H → Nat
  | (.string bytes, d) => bytes.length + uptoBulk d + 1
  | (_, d) => uptoBulk d + 1
 end
def uptoSmall : (H : Type) → List (DataW H) → Bool := fun _ ds => decide (uptoBulkAll ds ≤ 1048576)
def OpenSpec.upto (s : _root_.Go.ChangeSpec) : _root_.Go.OpenSpec := { _root_.Go.OpenSpec.ofChange s with cond := some uptoSmall }

/-- 'kitbaglaw47.TargetTells', WHERE WHAT IT READS IS OF BULK AT MOST 1048576: true; the input reads as it did. -/
def targetTellsUptoRow : OpenClaim := { program := "ytadpbhbkdnfbpaa", sum := "d92ac28884bd361845865210e3cf0e4186e87115550402a629a365ee0ae1a596", func := "kitbag/kitbaglaw47.TargetTells", spec := "targetTells", unfollowed := true, recurses := true, apart := false, narrowed := true }
def TargetTellsUptoSaid : Prop := targetTellsUptoRow.holds Try.pinned (OpenSpec.upto targetTellsSpec)

/-- 'kitbaglaw47.TargetFewest', WHERE WHAT IT READS IS OF BULK AT MOST 1048576: true; the input reads as it did. -/
def targetFewestUptoRow : OpenClaim := { program := "ytadpbhbkdnfbpaa", sum := "d92ac28884bd361845865210e3cf0e4186e87115550402a629a365ee0ae1a596", func := "kitbag/kitbaglaw47.TargetFewest", spec := "targetFewest", unfollowed := true, recurses := true, apart := false, narrowed := true }
def TargetFewestUptoSaid : Prop := targetFewestUptoRow.holds Try.pinned (OpenSpec.upto targetFewestSpec)

/-- 'kitbaglaw47.TargetOrder', WHERE WHAT IT READS IS OF BULK AT MOST 1048576: true; the input reads as it did. -/
def targetOrderUptoRow : OpenClaim := { program := "ytadpbhbkdnfbpaa", sum := "d92ac28884bd361845865210e3cf0e4186e87115550402a629a365ee0ae1a596", func := "kitbag/kitbaglaw47.TargetOrder", spec := "targetOrder", unfollowed := true, recurses := true, apart := false, narrowed := true }
def TargetOrderUptoSaid : Prop := targetOrderUptoRow.holds Try.pinned (OpenSpec.upto targetOrderSpec)

/-- 'kitbaglaw47.TargetSwaps', WHERE WHAT IT READS IS OF BULK AT MOST 1048576: true; the input reads as it did. -/
def targetSwapsUptoRow : OpenClaim := { program := "ytadpbhbkdnfbpaa", sum := "d92ac28884bd361845865210e3cf0e4186e87115550402a629a365ee0ae1a596", func := "kitbag/kitbaglaw47.TargetSwaps", spec := "targetSwaps", unfollowed := true, recurses := true, apart := false, narrowed := true }
def TargetSwapsUptoSaid : Prop := targetSwapsUptoRow.holds Try.pinned (OpenSpec.upto targetSwapsSpec)

/-- 'kitbaglaw47.TargetGreater', WHERE WHAT IT READS IS OF BULK AT MOST 1048576: true; the input reads as it did. -/
def targetGreaterUptoRow : OpenClaim := { program := "ytadpbhbkdnfbpaa", sum := "d92ac28884bd361845865210e3cf0e4186e87115550402a629a365ee0ae1a596", func := "kitbag/kitbaglaw47.TargetGreater", spec := "targetGreater", unfollowed := true, recurses := true, apart := false, narrowed := true }
def TargetGreaterUptoSaid : Prop := targetGreaterUptoRow.holds Try.pinned (OpenSpec.upto targetGreaterSpec)

end Rows
end Go.Proofs.Ytadpbhbkdnfbpaa
