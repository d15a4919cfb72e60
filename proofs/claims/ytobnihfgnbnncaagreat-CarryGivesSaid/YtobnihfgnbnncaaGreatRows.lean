/-
  No cell of these rows narrows 'for every input' (looked for: loops, veiled, ifaces, maps, wideKeys, modest, calm, conditions, laid).
  DERIVED. THE GIVEN ROWS OF THIS SEAT. 6 by the template 'for every input the law returns true; each argument reads behind the call as it read before'; 0 by the template 'total and deterministic' (their statements: YtobnihfgnbnncaaGreatTotals.lean).
  GIVEN WITH THE SEED: the statements are not yours to turn. If you find one false, say at which input.
  Laid BY PROGRAM, IN A SANDBOX (cutbox-rows.mjs): the forced cells as the released guide's own fill.sh prints them over the translation f0f0c191f7159874… (all of the seat's roots in one cut). By AI agents, Wed Nov 11 2026. No macro, syntax, notation, axiom, sorry.
-/
import Derived.Test.YtobnihfgnbnncaaGreatChecked
import GoSem.Claim
import GoSem.ClaimJoined
import GoSem.ClaimMapViews
import Derived.JoinedTies
import Derived.KernelRfl
namespace Go.Proofs.YtobnihfgnbnncaaGreat
/- THE CELL 'sum', in the pinned program and in every row, IS THE sha256 OF THE DUMP (.gsa) THAT YtobnihfgnbnncaaGreatProg.lean LOADS. Nothing in Lean hashes anything: it is a label: what it is worth is what the hold of that sum in a sandbox is worth. -/
noncomputable def Tryz.pinned : Pinned := { name := "ytobnihfgnbnncaagreat", sum := "f0f0c191f715987417e60fa9142675d8fe4f0cd658ef70a67b8d5904c1b71038", checked := Tryz.checked }
namespace Rows
def none {H : Type} : Left H := { results := [], args := [] }

/-- 'kitbaglaw34.CarryTells': WHATEVER THE INPUT: true; the input reads as it did. -/
def carryTellsSpec : ChangeSpec := { name := "carryTells", fn := fun _ => fun
  | [d1, d2, d3] => { results := [.lit (.bool true)], args := [d1, d2, d3] }
  | _ => none }
def carryTellsRow : OpenClaim := { program := "ytobnihfgnbnncaagreat", sum := "f0f0c191f715987417e60fa9142675d8fe4f0cd658ef70a67b8d5904c1b71038", func := "kitbag/kitbaglaw34.CarryTells", spec := "carryTells", inPlace := ["slices.overlaps[kitbag/solve.term]"], unfollowed := true, recurses := true, plainKeys := false, apart := false }
def CarryTellsSaid : Prop := carryTellsRow.holds Tryz.pinned (OpenSpec.ofChange carryTellsSpec)

/-- ITS FALSE NEIGHBOUR: 'it returns false'. Refute it at one input. -/
def carryTellsWrong : ChangeSpec := { name := "carryTells", fn := fun _ => fun
  | [d1, d2, d3] => { results := [.lit (.bool false)], args := [d1, d2, d3] }
  | _ => none }
def CarryTellsWrongFalsely : Prop := carryTellsRow.holds Tryz.pinned (OpenSpec.ofChange carryTellsWrong)

/-- 'kitbaglaw34.CarryAdds': WHATEVER THE INPUT: true; the input reads as it did. -/
def carryAddsSpec : ChangeSpec := { name := "carryAdds", fn := fun _ => fun
  | [d1, d2, d3, d4, d5] => { results := [.lit (.bool true)], args := [d1, d2, d3, d4, d5] }
  | _ => none }
def carryAddsRow : OpenClaim := { program := "ytobnihfgnbnncaagreat", sum := "f0f0c191f715987417e60fa9142675d8fe4f0cd658ef70a67b8d5904c1b71038", func := "kitbag/kitbaglaw34.CarryAdds", spec := "carryAdds", inPlace := ["slices.overlaps[kitbag/solve.term]"], unfollowed := true, recurses := true, plainKeys := false, apart := false }
def CarryAddsSaid : Prop := carryAddsRow.holds Tryz.pinned (OpenSpec.ofChange carryAddsSpec)

/-- ITS FALSE NEIGHBOUR: 'it returns false'. Refute it at one input. -/
def carryAddsWrong : ChangeSpec := { name := "carryAdds", fn := fun _ => fun
  | [d1, d2, d3, d4, d5] => { results := [.lit (.bool false)], args := [d1, d2, d3, d4, d5] }
  | _ => none }
def CarryAddsWrongFalsely : Prop := carryAddsRow.holds Tryz.pinned (OpenSpec.ofChange carryAddsWrong)

/-- 'kitbaglaw34.CarryConserves': WHATEVER THE INPUT: true; the input reads as it did. -/
def carryConservesSpec : ChangeSpec := { name := "carryConserves", fn := fun _ => fun
  | [d1, d2] => { results := [.lit (.bool true)], args := [d1, d2] }
  | _ => none }
def carryConservesRow : OpenClaim := { program := "ytobnihfgnbnncaagreat", sum := "f0f0c191f715987417e60fa9142675d8fe4f0cd658ef70a67b8d5904c1b71038", func := "kitbag/kitbaglaw34.CarryConserves", spec := "carryConserves", inPlace := ["slices.overlaps[kitbag/solve.term]"], unfollowed := true, recurses := true, plainKeys := false, apart := false }
def CarryConservesSaid : Prop := carryConservesRow.holds Tryz.pinned (OpenSpec.ofChange carryConservesSpec)

/-- ITS FALSE NEIGHBOUR: 'it returns false'. Refute it at one input. -/
def carryConservesWrong : ChangeSpec := { name := "carryConserves", fn := fun _ => fun
  | [d1, d2] => { results := [.lit (.bool false)], args := [d1, d2] }
  | _ => none }
def CarryConservesWrongFalsely : Prop := carryConservesRow.holds Tryz.pinned (OpenSpec.ofChange carryConservesWrong)

/-- 'kitbaglaw34.CarryApart': WHATEVER THE INPUT: true; the input reads as it did. -/
def carryApartSpec : ChangeSpec := { name := "carryApart", fn := fun _ => fun
  | [d1, d2, d3, d4, d5] => { results := [.lit (.bool true)], args := [d1, d2, d3, d4, d5] }
  | _ => none }
def carryApartRow : OpenClaim := { program := "ytobnihfgnbnncaagreat", sum := "f0f0c191f715987417e60fa9142675d8fe4f0cd658ef70a67b8d5904c1b71038", func := "kitbag/kitbaglaw34.CarryApart", spec := "carryApart", inPlace := ["slices.overlaps[kitbag/solve.term]"], unfollowed := true, recurses := true, plainKeys := false, apart := false }
def CarryApartSaid : Prop := carryApartRow.holds Tryz.pinned (OpenSpec.ofChange carryApartSpec)

/-- ITS FALSE NEIGHBOUR: 'it returns false'. Refute it at one input. -/
def carryApartWrong : ChangeSpec := { name := "carryApart", fn := fun _ => fun
  | [d1, d2, d3, d4, d5] => { results := [.lit (.bool false)], args := [d1, d2, d3, d4, d5] }
  | _ => none }
def CarryApartWrongFalsely : Prop := carryApartRow.holds Tryz.pinned (OpenSpec.ofChange carryApartWrong)

/-- 'kitbaglaw34.CarryGives': WHATEVER THE INPUT: true; the input reads as it did. -/
def carryGivesSpec : ChangeSpec := { name := "carryGives", fn := fun _ => fun
  | [d1, d2] => { results := [.lit (.bool true)], args := [d1, d2] }
  | _ => none }
def carryGivesRow : OpenClaim := { program := "ytobnihfgnbnncaagreat", sum := "f0f0c191f715987417e60fa9142675d8fe4f0cd658ef70a67b8d5904c1b71038", func := "kitbag/kitbaglaw34.CarryGives", spec := "carryGives", inPlace := ["slices.overlaps[kitbag/solve.term]"], unfollowed := true, recurses := true, plainKeys := false, apart := false }
def CarryGivesSaid : Prop := carryGivesRow.holds Tryz.pinned (OpenSpec.ofChange carryGivesSpec)

/-- ITS FALSE NEIGHBOUR: 'it returns false'. Refute it at one input. -/
def carryGivesWrong : ChangeSpec := { name := "carryGives", fn := fun _ => fun
  | [d1, d2] => { results := [.lit (.bool false)], args := [d1, d2] }
  | _ => none }
def CarryGivesWrongFalsely : Prop := carryGivesRow.holds Tryz.pinned (OpenSpec.ofChange carryGivesWrong)

/-- 'kitbaglaw34.CarryStocks': WHATEVER THE INPUT: true; the input reads as it did. -/
def carryStocksSpec : ChangeSpec := { name := "carryStocks", fn := fun _ => fun
  | [d1, d2, d3, d4] => { results := [.lit (.bool true)], args := [d1, d2, d3, d4] }
  | _ => none }
def carryStocksRow : OpenClaim := { program := "ytobnihfgnbnncaagreat", sum := "f0f0c191f715987417e60fa9142675d8fe4f0cd658ef70a67b8d5904c1b71038", func := "kitbag/kitbaglaw34.CarryStocks", spec := "carryStocks", inPlace := ["slices.overlaps[kitbag/solve.term]"], unfollowed := true, recurses := true, plainKeys := false, apart := false }
def CarryStocksSaid : Prop := carryStocksRow.holds Tryz.pinned (OpenSpec.ofChange carryStocksSpec)

/-- ITS FALSE NEIGHBOUR: 'it returns false'. Refute it at one input. -/
def carryStocksWrong : ChangeSpec := { name := "carryStocks", fn := fun _ => fun
  | [d1, d2, d3, d4] => { results := [.lit (.bool false)], args := [d1, d2, d3, d4] }
  | _ => none }
def CarryStocksWrongFalsely : Prop := carryStocksRow.holds Tryz.pinned (OpenSpec.ofChange carryStocksWrong)

/- THE SECOND FORM. 'bulk': how many values and letters a reading holds, each counted each time it is reached (what is shared counts as often as it is met; a slice's spare places count too). A statement '..UptoSaid' is the law's where the arguments, and the package variables that the reading takes, are together of bulk at most 1048576: NARROWER than '..Said'. Prove '..Said' where nothing that the law and all that it calls make is longer than what came in: it says more and counts as full. Else prove '..UptoSaid'. A law counts once. -/
mutual
def uptoBulk {H : Type} : DataW H → Nat
  | .lit (.string bytes) => bytes.length + 1
  | .lit _ => 1
  | .nil => 1
  | .ptr d => uptoBulk d + 1
  | .slice elems spare => uptoBulkAll elems + uptoBulkAll spare + 1
  | .agg parts => uptoBulkAll parts + 1
  | .iface _ d => uptoBulk d + 1
  | .map entries => uptoBulkEntries entries + 1
  | .held _ => 1
def uptoBulkAll {H : Type} : List (DataW H) → Nat
  | [] => 0
  | d :: r => uptoBulk d + uptoBulkAll r
def uptoBulkEntries {H : Type} : List (Lit × DataW H) → Nat
  | [] => 0
  | x :: r => uptoBulkEntry x + uptoBulkEntries r
def uptoBulkEntry {H : Type} : Lit × DataW H → Nat
  | (.string bytes, d) => bytes.length + uptoBulk d + 1
  | (_, d) => uptoBulk d + 1
 end
def uptoSmall : (H : Type) → List (DataW H) → Bool := fun _ ds => decide (uptoBulkAll ds ≤ 1048576)
def OpenSpec.upto (s : _root_.Go.ChangeSpec) : _root_.Go.OpenSpec := { _root_.Go.OpenSpec.ofChange s with cond := some uptoSmall }

/-- 'kitbaglaw34.CarryTells', WHERE WHAT IT READS IS OF BULK AT MOST 1048576: true; the input reads as it did. -/
def carryTellsUptoRow : OpenClaim := { program := "ytobnihfgnbnncaagreat", sum := "f0f0c191f715987417e60fa9142675d8fe4f0cd658ef70a67b8d5904c1b71038", func := "kitbag/kitbaglaw34.CarryTells", spec := "carryTells", inPlace := ["slices.overlaps[kitbag/solve.term]"], unfollowed := true, recurses := true, plainKeys := false, apart := false, narrowed := true }
def CarryTellsUptoSaid : Prop := carryTellsUptoRow.holds Tryz.pinned (OpenSpec.upto carryTellsSpec)

/-- 'kitbaglaw34.CarryAdds', WHERE WHAT IT READS IS OF BULK AT MOST 1048576: true; the input reads as it did. -/
def carryAddsUptoRow : OpenClaim := { program := "ytobnihfgnbnncaagreat", sum := "f0f0c191f715987417e60fa9142675d8fe4f0cd658ef70a67b8d5904c1b71038", func := "kitbag/kitbaglaw34.CarryAdds", spec := "carryAdds", inPlace := ["slices.overlaps[kitbag/solve.term]"], unfollowed := true, recurses := true, plainKeys := false, apart := false, narrowed := true }
def CarryAddsUptoSaid : Prop := carryAddsUptoRow.holds Tryz.pinned (OpenSpec.upto carryAddsSpec)

/-- 'kitbaglaw34.CarryConserves', WHERE WHAT IT READS IS OF BULK AT MOST 1048576: true; the input reads as it did. -/
def carryConservesUptoRow : OpenClaim := { program := "ytobnihfgnbnncaagreat", sum := "f0f0c191f715987417e60fa9142675d8fe4f0cd658ef70a67b8d5904c1b71038", func := "kitbag/kitbaglaw34.CarryConserves", spec := "carryConserves", inPlace := ["slices.overlaps[kitbag/solve.term]"], unfollowed := true, recurses := true, plainKeys := false, apart := false, narrowed := true }
def CarryConservesUptoSaid : Prop := carryConservesUptoRow.holds Tryz.pinned (OpenSpec.upto carryConservesSpec)

/-- 'kitbaglaw34.CarryApart', WHERE WHAT IT READS IS OF BULK AT MOST 1048576: true; the input reads as it did. -/
def carryApartUptoRow : OpenClaim := { program := "ytobnihfgnbnncaagreat", sum := "f0f0c191f715987417e60fa9142675d8fe4f0cd658ef70a67b8d5904c1b71038", func := "kitbag/kitbaglaw34.CarryApart", spec := "carryApart", inPlace := ["slices.overlaps[kitbag/solve.term]"], unfollowed := true, recurses := true, plainKeys := false, apart := false, narrowed := true }
def CarryApartUptoSaid : Prop := carryApartUptoRow.holds Tryz.pinned (OpenSpec.upto carryApartSpec)

/-- 'kitbaglaw34.CarryGives', WHERE WHAT IT READS IS OF BULK AT MOST 1048576: true; the input reads as it did. -/
def carryGivesUptoRow : OpenClaim := { program := "ytobnihfgnbnncaagreat", sum := "f0f0c191f715987417e60fa9142675d8fe4f0cd658ef70a67b8d5904c1b71038", func := "kitbag/kitbaglaw34.CarryGives", spec := "carryGives", inPlace := ["slices.overlaps[kitbag/solve.term]"], unfollowed := true, recurses := true, plainKeys := false, apart := false, narrowed := true }
def CarryGivesUptoSaid : Prop := carryGivesUptoRow.holds Tryz.pinned (OpenSpec.upto carryGivesSpec)

/-- 'kitbaglaw34.CarryStocks', WHERE WHAT IT READS IS OF BULK AT MOST 1048576: true; the input reads as it did. -/
def carryStocksUptoRow : OpenClaim := { program := "ytobnihfgnbnncaagreat", sum := "f0f0c191f715987417e60fa9142675d8fe4f0cd658ef70a67b8d5904c1b71038", func := "kitbag/kitbaglaw34.CarryStocks", spec := "carryStocks", inPlace := ["slices.overlaps[kitbag/solve.term]"], unfollowed := true, recurses := true, plainKeys := false, apart := false, narrowed := true }
def CarryStocksUptoSaid : Prop := carryStocksUptoRow.holds Tryz.pinned (OpenSpec.upto carryStocksSpec)

end Rows
end Go.Proofs.YtobnihfgnbnncaaGreat
