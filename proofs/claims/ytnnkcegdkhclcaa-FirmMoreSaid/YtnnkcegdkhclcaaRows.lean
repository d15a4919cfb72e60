/-
  No cell of these rows narrows 'for every input' (looked for: loops, veiled, ifaces, maps, wideKeys, modest, calm, conditions, laid).
  DERIVED. THE GIVEN ROWS OF THIS SEAT. 4 by the template 'for every input the law returns true; each argument reads behind the call as it read before'; 0 by the template 'total and deterministic' (their statements: YtnnkcegdkhclcaaTotals.lean).
  GIVEN WITH THE SEED: the statements are not yours to turn. If you find one false, say at which input.
  Laid BY PROGRAM, IN A SANDBOX (cutbox-rows.mjs): the forced cells as the released guide's own fill.sh prints them over the translation e6aac0da5117f6ba… (all of the seat's roots in one cut). By AI agents, Wed Nov 11 2026. No macro, syntax, notation, axiom, sorry.
-/
import Derived.Test.YtnnkcegdkhclcaaChecked
import GoSem.Claim
import GoSem.ClaimJoined
import GoSem.ClaimMapViews
import Derived.JoinedTies
import Derived.KernelRfl
namespace Go.Proofs.Ytnnkcegdkhclcaa
/- THE CELL 'sum', in the pinned program and in every row, IS THE sha256 OF THE DUMP (.gsa) THAT YtnnkcegdkhclcaaProg.lean LOADS. Nothing in Lean hashes anything: it is a label: what it is worth is what the hold of that sum in a sandbox is worth. -/
noncomputable def Try.pinned : Pinned := { name := "ytnnkcegdkhclcaa", sum := "e6aac0da5117f6ba6954e004bd90805cc0303df7cff1386004bbe770d2be559c", checked := Try.checked }
namespace Rows
def none {H : Type} : Left H := { results := [], args := [] }

/-- 'kitbaglaw41.FirmTells': WHATEVER THE INPUT: true; the input reads as it did. -/
def firmTellsSpec : ChangeSpec := { name := "firmTells", fn := fun _ => fun
  | [d1, d2, d3] => { results := [.lit (.bool true)], args := [d1, d2, d3] }
  | _ => none }
def firmTellsRow : OpenClaim := { program := "ytnnkcegdkhclcaa", sum := "e6aac0da5117f6ba6954e004bd90805cc0303df7cff1386004bbe770d2be559c", func := "kitbag/kitbaglaw41.FirmTells", spec := "firmTells", unfollowed := true, recurses := true, apart := false }
def FirmTellsSaid : Prop := firmTellsRow.holds Try.pinned (OpenSpec.ofChange firmTellsSpec)

/-- ITS FALSE NEIGHBOUR: 'it returns false'. Refute it at one input. -/
def firmTellsWrong : ChangeSpec := { name := "firmTells", fn := fun _ => fun
  | [d1, d2, d3] => { results := [.lit (.bool false)], args := [d1, d2, d3] }
  | _ => none }
def FirmTellsWrongFalsely : Prop := firmTellsRow.holds Try.pinned (OpenSpec.ofChange firmTellsWrong)

/-- 'kitbaglaw41.FirmAnswers': WHATEVER THE INPUT: true; the input reads as it did. -/
def firmAnswersSpec : ChangeSpec := { name := "firmAnswers", fn := fun _ => fun
  | [d1, d2, d3] => { results := [.lit (.bool true)], args := [d1, d2, d3] }
  | _ => none }
def firmAnswersRow : OpenClaim := { program := "ytnnkcegdkhclcaa", sum := "e6aac0da5117f6ba6954e004bd90805cc0303df7cff1386004bbe770d2be559c", func := "kitbag/kitbaglaw41.FirmAnswers", spec := "firmAnswers", unfollowed := true, recurses := true, apart := false }
def FirmAnswersSaid : Prop := firmAnswersRow.holds Try.pinned (OpenSpec.ofChange firmAnswersSpec)

/-- ITS FALSE NEIGHBOUR: 'it returns false'. Refute it at one input. -/
def firmAnswersWrong : ChangeSpec := { name := "firmAnswers", fn := fun _ => fun
  | [d1, d2, d3] => { results := [.lit (.bool false)], args := [d1, d2, d3] }
  | _ => none }
def FirmAnswersWrongFalsely : Prop := firmAnswersRow.holds Try.pinned (OpenSpec.ofChange firmAnswersWrong)

/-- 'kitbaglaw41.FirmLater': WHATEVER THE INPUT: true; the input reads as it did. -/
def firmLaterSpec : ChangeSpec := { name := "firmLater", fn := fun _ => fun
  | [d1, d2, d3, d4] => { results := [.lit (.bool true)], args := [d1, d2, d3, d4] }
  | _ => none }
def firmLaterRow : OpenClaim := { program := "ytnnkcegdkhclcaa", sum := "e6aac0da5117f6ba6954e004bd90805cc0303df7cff1386004bbe770d2be559c", func := "kitbag/kitbaglaw41.FirmLater", spec := "firmLater", unfollowed := true, recurses := true, apart := false }
def FirmLaterSaid : Prop := firmLaterRow.holds Try.pinned (OpenSpec.ofChange firmLaterSpec)

/-- ITS FALSE NEIGHBOUR: 'it returns false'. Refute it at one input. -/
def firmLaterWrong : ChangeSpec := { name := "firmLater", fn := fun _ => fun
  | [d1, d2, d3, d4] => { results := [.lit (.bool false)], args := [d1, d2, d3, d4] }
  | _ => none }
def FirmLaterWrongFalsely : Prop := firmLaterRow.holds Try.pinned (OpenSpec.ofChange firmLaterWrong)

/-- 'kitbaglaw41.FirmMore': WHATEVER THE INPUT: true; the input reads as it did. -/
def firmMoreSpec : ChangeSpec := { name := "firmMore", fn := fun _ => fun
  | [d1, d2, d3, d4, d5] => { results := [.lit (.bool true)], args := [d1, d2, d3, d4, d5] }
  | _ => none }
def firmMoreRow : OpenClaim := { program := "ytnnkcegdkhclcaa", sum := "e6aac0da5117f6ba6954e004bd90805cc0303df7cff1386004bbe770d2be559c", func := "kitbag/kitbaglaw41.FirmMore", spec := "firmMore", unfollowed := true, recurses := true, apart := false }
def FirmMoreSaid : Prop := firmMoreRow.holds Try.pinned (OpenSpec.ofChange firmMoreSpec)

/-- ITS FALSE NEIGHBOUR: 'it returns false'. Refute it at one input. -/
def firmMoreWrong : ChangeSpec := { name := "firmMore", fn := fun _ => fun
  | [d1, d2, d3, d4, d5] => { results := [.lit (.bool false)], args := [d1, d2, d3, d4, d5] }
  | _ => none }
def FirmMoreWrongFalsely : Prop := firmMoreRow.holds Try.pinned (OpenSpec.ofChange firmMoreWrong)

/- THE SECOND FORM. 'bulk': how many values and letters a reading holds, each counted each time it is reached (what is shared counts as often as it is met; a slice's spare places count too). A statement '..UptoSaid' is the law's where the arguments, and the package variables that the reading takes, are together of bulk at most 1048576: NARROWER than '..Said'. Prove '..Said' where nothing that the law and all that it calls make is longer than what came in: it says more and counts as full. Else prove '..UptoSaid'. A law counts once. -/
mutual
def uptoBulk {H : Type} : DataW H → Nat
  | .lit (.string bytes) => bytes.length + 1
  | .lit _ => 1
  | .nil => 1
  | .ptr d => uptoBulk d + 1
  | .slice elems spare => uptoBulkAll elems + uptoBulkAll spare + 1
  | .agg parts => uptoBulkAll parts + 1
  | .iface _ d => uptoBulk d + 1
  | .map entries => uptoBulkEntries entries + 1
  | .held _ => 1
def uptoBulkAll {H : Type} : List (DataW H) → Nat
  | [] => 0
  | d :: r => uptoBulk d + uptoBulkAll r
def uptoBulkEntries {H : Type} : List (Lit × DataW H) → Nat
  | [] => 0
  | x :: r => uptoBulkEntry x + uptoBulkEntries r
def uptoBulkEntry {H : Type} : Lit × DataW H → Nat
  | (.string bytes, d) => bytes.length + uptoBulk d + 1
  | (_, d) => uptoBulk d + 1
 end
def uptoSmall : (H : Type) → List (DataW H) → Bool := fun _ ds => decide (uptoBulkAll ds ≤ 1048576)
def OpenSpec.upto (s : _root_.Go.ChangeSpec) : _root_.Go.OpenSpec := { _root_.Go.OpenSpec.ofChange s with cond := some uptoSmall }

/-- 'kitbaglaw41.FirmTells', WHERE WHAT IT READS IS OF BULK AT MOST 1048576: true; the input reads as it did. -/
def firmTellsUptoRow : OpenClaim := { program := "ytnnkcegdkhclcaa", sum := "e6aac0da5117f6ba6954e004bd90805cc0303df7cff1386004bbe770d2be559c", func := "kitbag/kitbaglaw41.FirmTells", spec := "firmTells", unfollowed := true, recurses := true, apart := false, narrowed := true }
def FirmTellsUptoSaid : Prop := firmTellsUptoRow.holds Try.pinned (OpenSpec.upto firmTellsSpec)

/-- 'kitbaglaw41.FirmAnswers', WHERE WHAT IT READS IS OF BULK AT MOST 1048576: true; the input reads as it did. -/
def firmAnswersUptoRow : OpenClaim := { program := "ytnnkcegdkhclcaa", sum := "e6aac0da5117f6ba6954e004bd90805cc0303df7cff1386004bbe770d2be559c", func := "kitbag/kitbaglaw41.FirmAnswers", spec := "firmAnswers", unfollowed := true, recurses := true, apart := false, narrowed := true }
def FirmAnswersUptoSaid : Prop := firmAnswersUptoRow.holds Try.pinned (OpenSpec.upto firmAnswersSpec)

/-- 'kitbaglaw41.FirmLater', WHERE WHAT IT READS IS OF BULK AT MOST 1048576: true; the input reads as it did. -/
def firmLaterUptoRow : OpenClaim := { program := "ytnnkcegdkhclcaa", sum := "e6aac0da5117f6ba6954e004bd90805cc0303df7cff1386004bbe770d2be559c", func := "kitbag/kitbaglaw41.FirmLater", spec := "firmLater", unfollowed := true, recurses := true, apart := false, narrowed := true }
def FirmLaterUptoSaid : Prop := firmLaterUptoRow.holds Try.pinned (OpenSpec.upto firmLaterSpec)

/-- 'kitbaglaw41.FirmMore', WHERE WHAT IT READS IS OF BULK AT MOST 1048576: true; the input reads as it did. -/
def firmMoreUptoRow : OpenClaim := { program := "ytnnkcegdkhclcaa", sum := "e6aac0da5117f6ba6954e004bd90805cc0303df7cff1386004bbe770d2be559c", func := "kitbag/kitbaglaw41.FirmMore", spec := "firmMore", unfollowed := true, recurses := true, apart := false, narrowed := true }
def FirmMoreUptoSaid : Prop := firmMoreUptoRow.holds Try.pinned (OpenSpec.upto firmMoreSpec)

end Rows
end Go.Proofs.Ytnnkcegdkhclcaa
