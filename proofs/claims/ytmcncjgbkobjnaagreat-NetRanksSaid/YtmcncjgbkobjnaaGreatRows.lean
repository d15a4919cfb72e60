/-
  No cell of these rows narrows 'for every input' (looked for: loops, veiled, ifaces, maps, wideKeys, modest, calm, conditions, laid).
  DERIVED. THE GIVEN ROWS OF THIS SEAT. 13 by the template 'for every input the law returns true; each argument reads behind the call as it read before'; 0 by the template 'total and deterministic' (their statements: YtmcncjgbkobjnaaGreatTotals.lean).
  GIVEN WITH THE SEED: the statements are not yours to turn. If you find one false, say at which input.
  Laid BY PROGRAM, IN A SANDBOX (cutbox-rows.mjs): the forced cells as the released guide's own fill.sh prints them over the translation 0d39e5597c1bdb31… (all of the seat's roots in one cut). By AI agents, Wed Nov 11 2026. No macro, syntax, notation, axiom, sorry.
-/
import Derived.Test.YtmcncjgbkobjnaaGreatChecked
import GoSem.Claim
import GoSem.ClaimJoined
import GoSem.ClaimMapViews
import Derived.JoinedTies
import Derived.KernelRfl
namespace Go.Proofs.YtmcncjgbkobjnaaGreat
/- THE CELL 'sum', in the pinned program and in every row, IS THE sha256 OF THE DUMP (.gsa) THAT YtmcncjgbkobjnaaGreatProg.lean LOADS. Nothing in Lean hashes anything: it is a label: what it is worth is what the hold of that sum in a sandbox is worth. -/
noncomputable def Tryz.pinned : Pinned := { name := "ytmcncjgbkobjnaagreat", sum := "0d39e5597c1bdb31bdcfd5dfdd933ea25a9359769256075af09d56fdfc4721ae", checked := Tryz.checked }
namespace Rows
def none {H : Type} : Left H := { results := [], args := [] }

/-- 'kitbaglaw32.NetTells': WHATEVER THE INPUT: true; the input reads as it did. -/
def netTellsSpec : ChangeSpec := { name := "netTells", fn := fun _ => fun
  | [d1, d2, d3] => { results := [.lit (.bool true)], args := [d1, d2, d3] }
  | _ => none }
def netTellsRow : OpenClaim := { program := "ytmcncjgbkobjnaagreat", sum := "0d39e5597c1bdb31bdcfd5dfdd933ea25a9359769256075af09d56fdfc4721ae", func := "kitbag/kitbaglaw32.NetTells", spec := "netTells", unfollowed := true, recurses := true, plainKeys := false, apart := false }
def NetTellsSaid : Prop := netTellsRow.holds Tryz.pinned (OpenSpec.ofChange netTellsSpec)

/-- ITS FALSE NEIGHBOUR: 'it returns false'. Refute it at one input. -/
def netTellsWrong : ChangeSpec := { name := "netTells", fn := fun _ => fun
  | [d1, d2, d3] => { results := [.lit (.bool false)], args := [d1, d2, d3] }
  | _ => none }
def NetTellsWrongFalsely : Prop := netTellsRow.holds Tryz.pinned (OpenSpec.ofChange netTellsWrong)

/-- 'kitbaglaw32.NetWhole': WHATEVER THE INPUT: true; the input reads as it did. -/
def netWholeSpec : ChangeSpec := { name := "netWhole", fn := fun _ => fun
  | [d] => { results := [.lit (.bool true)], args := [d] }
  | _ => none }
def netWholeRow : OpenClaim := { program := "ytmcncjgbkobjnaagreat", sum := "0d39e5597c1bdb31bdcfd5dfdd933ea25a9359769256075af09d56fdfc4721ae", func := "kitbag/kitbaglaw32.NetWhole", spec := "netWhole", unfollowed := true, recurses := true, plainKeys := false, apart := false }
def NetWholeSaid : Prop := netWholeRow.holds Tryz.pinned (OpenSpec.ofChange netWholeSpec)

/-- ITS FALSE NEIGHBOUR: 'it returns false'. Refute it at one input. -/
def netWholeWrong : ChangeSpec := { name := "netWhole", fn := fun _ => fun
  | [d] => { results := [.lit (.bool false)], args := [d] }
  | _ => none }
def NetWholeWrongFalsely : Prop := netWholeRow.holds Tryz.pinned (OpenSpec.ofChange netWholeWrong)

/-- 'kitbaglaw32.NetRanks': WHATEVER THE INPUT: true; the input reads as it did. -/
def netRanksSpec : ChangeSpec := { name := "netRanks", fn := fun _ => fun
  | [d] => { results := [.lit (.bool true)], args := [d] }
  | _ => none }
def netRanksRow : OpenClaim := { program := "ytmcncjgbkobjnaagreat", sum := "0d39e5597c1bdb31bdcfd5dfdd933ea25a9359769256075af09d56fdfc4721ae", func := "kitbag/kitbaglaw32.NetRanks", spec := "netRanks", unfollowed := true, recurses := true, plainKeys := false, apart := false }
def NetRanksSaid : Prop := netRanksRow.holds Tryz.pinned (OpenSpec.ofChange netRanksSpec)

/-- ITS FALSE NEIGHBOUR: 'it returns false'. Refute it at one input. -/
def netRanksWrong : ChangeSpec := { name := "netRanks", fn := fun _ => fun
  | [d] => { results := [.lit (.bool false)], args := [d] }
  | _ => none }
def NetRanksWrongFalsely : Prop := netRanksRow.holds Tryz.pinned (OpenSpec.ofChange netRanksWrong)

/-- 'kitbaglaw32.NetTrapped': WHATEVER THE INPUT: true; the input reads as it did. -/
def netTrappedSpec : ChangeSpec := { name := "netTrapped", fn := fun _ => fun
  | [d1, d2] => { results := [.lit (.bool true)], args := [d1, d2] }
  | _ => none }
def netTrappedRow : OpenClaim := { program := "ytmcncjgbkobjnaagreat", sum := "0d39e5597c1bdb31bdcfd5dfdd933ea25a9359769256075af09d56fdfc4721ae", func := "kitbag/kitbaglaw32.NetTrapped", spec := "netTrapped", unfollowed := true, recurses := true, plainKeys := false, apart := false }
def NetTrappedSaid : Prop := netTrappedRow.holds Tryz.pinned (OpenSpec.ofChange netTrappedSpec)

/-- ITS FALSE NEIGHBOUR: 'it returns false'. Refute it at one input. -/
def netTrappedWrong : ChangeSpec := { name := "netTrapped", fn := fun _ => fun
  | [d1, d2] => { results := [.lit (.bool false)], args := [d1, d2] }
  | _ => none }
def NetTrappedWrongFalsely : Prop := netTrappedRow.holds Tryz.pinned (OpenSpec.ofChange netTrappedWrong)

/-- 'kitbaglaw32.NetOrder': WHATEVER THE INPUT: true; the input reads as it did. -/
def netOrderSpec : ChangeSpec := { name := "netOrder", fn := fun _ => fun
  | [d1, d2] => { results := [.lit (.bool true)], args := [d1, d2] }
  | _ => none }
def netOrderRow : OpenClaim := { program := "ytmcncjgbkobjnaagreat", sum := "0d39e5597c1bdb31bdcfd5dfdd933ea25a9359769256075af09d56fdfc4721ae", func := "kitbag/kitbaglaw32.NetOrder", spec := "netOrder", unfollowed := true, recurses := true, plainKeys := false, apart := false }
def NetOrderSaid : Prop := netOrderRow.holds Tryz.pinned (OpenSpec.ofChange netOrderSpec)

/-- ITS FALSE NEIGHBOUR: 'it returns false'. Refute it at one input. -/
def netOrderWrong : ChangeSpec := { name := "netOrder", fn := fun _ => fun
  | [d1, d2] => { results := [.lit (.bool false)], args := [d1, d2] }
  | _ => none }
def NetOrderWrongFalsely : Prop := netOrderRow.holds Tryz.pinned (OpenSpec.ofChange netOrderWrong)

/-- 'kitbaglaw32.NetMore': WHATEVER THE INPUT: true; the input reads as it did. -/
def netMoreSpec : ChangeSpec := { name := "netMore", fn := fun _ => fun
  | [d1, d2, d3] => { results := [.lit (.bool true)], args := [d1, d2, d3] }
  | _ => none }
def netMoreRow : OpenClaim := { program := "ytmcncjgbkobjnaagreat", sum := "0d39e5597c1bdb31bdcfd5dfdd933ea25a9359769256075af09d56fdfc4721ae", func := "kitbag/kitbaglaw32.NetMore", spec := "netMore", unfollowed := true, recurses := true, plainKeys := false, apart := false }
def NetMoreSaid : Prop := netMoreRow.holds Tryz.pinned (OpenSpec.ofChange netMoreSpec)

/-- ITS FALSE NEIGHBOUR: 'it returns false'. Refute it at one input. -/
def netMoreWrong : ChangeSpec := { name := "netMore", fn := fun _ => fun
  | [d1, d2, d3] => { results := [.lit (.bool false)], args := [d1, d2, d3] }
  | _ => none }
def NetMoreWrongFalsely : Prop := netMoreRow.holds Tryz.pinned (OpenSpec.ofChange netMoreWrong)

/-- 'kitbaglaw34.CarryTells': WHATEVER THE INPUT: true; the input reads as it did. -/
def carryTellsSpec : ChangeSpec := { name := "carryTells", fn := fun _ => fun
  | [d1, d2, d3] => { results := [.lit (.bool true)], args := [d1, d2, d3] }
  | _ => none }
def carryTellsRow : OpenClaim := { program := "ytmcncjgbkobjnaagreat", sum := "0d39e5597c1bdb31bdcfd5dfdd933ea25a9359769256075af09d56fdfc4721ae", func := "kitbag/kitbaglaw34.CarryTells", spec := "carryTells", inPlace := ["slices.overlaps[kitbag/solve.term]"], unfollowed := true, recurses := true, plainKeys := false, apart := false }
def CarryTellsSaid : Prop := carryTellsRow.holds Tryz.pinned (OpenSpec.ofChange carryTellsSpec)

/-- ITS FALSE NEIGHBOUR: 'it returns false'. Refute it at one input. -/
def carryTellsWrong : ChangeSpec := { name := "carryTells", fn := fun _ => fun
  | [d1, d2, d3] => { results := [.lit (.bool false)], args := [d1, d2, d3] }
  | _ => none }
def CarryTellsWrongFalsely : Prop := carryTellsRow.holds Tryz.pinned (OpenSpec.ofChange carryTellsWrong)

/-- 'kitbaglaw34.CarryAdds': WHATEVER THE INPUT: true; the input reads as it did. -/
def carryAddsSpec : ChangeSpec := { name := "carryAdds", fn := fun _ => fun
  | [d1, d2, d3, d4, d5] => { results := [.lit (.bool true)], args := [d1, d2, d3, d4, d5] }
  | _ => none }
def carryAddsRow : OpenClaim := { program := "ytmcncjgbkobjnaagreat", sum := "0d39e5597c1bdb31bdcfd5dfdd933ea25a9359769256075af09d56fdfc4721ae", func := "kitbag/kitbaglaw34.CarryAdds", spec := "carryAdds", inPlace := ["slices.overlaps[kitbag/solve.term]"], unfollowed := true, recurses := true, plainKeys := false, apart := false }
def CarryAddsSaid : Prop := carryAddsRow.holds Tryz.pinned (OpenSpec.ofChange carryAddsSpec)

/-- ITS FALSE NEIGHBOUR: 'it returns false'. Refute it at one input. -/
def carryAddsWrong : ChangeSpec := { name := "carryAdds", fn := fun _ => fun
  | [d1, d2, d3, d4, d5] => { results := [.lit (.bool false)], args := [d1, d2, d3, d4, d5] }
  | _ => none }
def CarryAddsWrongFalsely : Prop := carryAddsRow.holds Tryz.pinned (OpenSpec.ofChange carryAddsWrong)

/-- 'kitbaglaw34.CarryConserves': WHATEVER THE INPUT: true; the input reads as it did. -/
def carryConservesSpec : ChangeSpec := { name := "carryConserves", fn := fun _ => fun
  | [d1, d2] => { results := [.lit (.bool true)], args := [d1, d2] }
  | _ => none }
def carryConservesRow : OpenClaim := { program := "ytmcncjgbkobjnaagreat", sum := "0d39e5597c1bdb31bdcfd5dfdd933ea25a9359769256075af09d56fdfc4721ae", func := "kitbag/kitbaglaw34.CarryConserves", spec := "carryConserves", inPlace := ["slices.overlaps[kitbag/solve.term]"], unfollowed := true, recurses := true, plainKeys := false, apart := false }
def CarryConservesSaid : Prop := carryConservesRow.holds Tryz.pinned (OpenSpec.ofChange carryConservesSpec)

/-- ITS FALSE NEIGHBOUR: 'it returns false'. Refute it at one input. -/
def carryConservesWrong : ChangeSpec := { name := "carryConserves", fn := fun _ => fun
  | [d1, d2] => { results := [.lit (.bool false)], args := [d1, d2] }
  | _ => none }
def CarryConservesWrongFalsely : Prop := carryConservesRow.holds Tryz.pinned (OpenSpec.ofChange carryConservesWrong)

/-- 'kitbaglaw34.CarryApart': WHATEVER THE INPUT: true; the input reads as it did. -/
def carryApartSpec : ChangeSpec := { name := "carryApart", fn := fun _ => fun
  | [d1, d2, d3, d4, d5] => { results := [.lit (.bool true)], args := [d1, d2, d3, d4, d5] }
  | _ => none }
def carryApartRow : OpenClaim := { program := "ytmcncjgbkobjnaagreat", sum := "0d39e5597c1bdb31bdcfd5dfdd933ea25a9359769256075af09d56fdfc4721ae", func := "kitbag/kitbaglaw34.CarryApart", spec := "carryApart", inPlace := ["slices.overlaps[kitbag/solve.term]"], unfollowed := true, recurses := true, plainKeys := false, apart := false }
def CarryApartSaid : Prop := carryApartRow.holds Tryz.pinned (OpenSpec.ofChange carryApartSpec)

/-- ITS FALSE NEIGHBOUR: 'it returns false'. Refute it at one input. -/
def carryApartWrong : ChangeSpec := { name := "carryApart", fn := fun _ => fun
  | [d1, d2, d3, d4, d5] => { results := [.lit (.bool false)], args := [d1, d2, d3, d4, d5] }
  | _ => none }
def CarryApartWrongFalsely : Prop := carryApartRow.holds Tryz.pinned (OpenSpec.ofChange carryApartWrong)

/-- 'kitbaglaw34.CarryGives': WHATEVER THE INPUT: true; the input reads as it did. -/
def carryGivesSpec : ChangeSpec := { name := "carryGives", fn := fun _ => fun
  | [d1, d2] => { results := [.lit (.bool true)], args := [d1, d2] }
  | _ => none }
def carryGivesRow : OpenClaim := { program := "ytmcncjgbkobjnaagreat", sum := "0d39e5597c1bdb31bdcfd5dfdd933ea25a9359769256075af09d56fdfc4721ae", func := "kitbag/kitbaglaw34.CarryGives", spec := "carryGives", inPlace := ["slices.overlaps[kitbag/solve.term]"], unfollowed := true, recurses := true, plainKeys := false, apart := false }
def CarryGivesSaid : Prop := carryGivesRow.holds Tryz.pinned (OpenSpec.ofChange carryGivesSpec)

/-- ITS FALSE NEIGHBOUR: 'it returns false'. Refute it at one input. -/
def carryGivesWrong : ChangeSpec := { name := "carryGives", fn := fun _ => fun
  | [d1, d2] => { results := [.lit (.bool false)], args := [d1, d2] }
  | _ => none }
def CarryGivesWrongFalsely : Prop := carryGivesRow.holds Tryz.pinned (OpenSpec.ofChange carryGivesWrong)

/-- 'kitbaglaw34.CarryStocks': WHATEVER THE INPUT: true; the input reads as it did. -/
def carryStocksSpec : ChangeSpec := { name := "carryStocks", fn := fun _ => fun
  | [d1, d2, d3, d4] => { results := [.lit (.bool true)], args := [d1, d2, d3, d4] }
  | _ => none }
def carryStocksRow : OpenClaim := { program := "ytmcncjgbkobjnaagreat", sum := "0d39e5597c1bdb31bdcfd5dfdd933ea25a9359769256075af09d56fdfc4721ae", func := "kitbag/kitbaglaw34.CarryStocks", spec := "carryStocks", inPlace := ["slices.overlaps[kitbag/solve.term]"], unfollowed := true, recurses := true, plainKeys := false, apart := false }
def CarryStocksSaid : Prop := carryStocksRow.holds Tryz.pinned (OpenSpec.ofChange carryStocksSpec)

/-- ITS FALSE NEIGHBOUR: 'it returns false'. Refute it at one input. -/
def carryStocksWrong : ChangeSpec := { name := "carryStocks", fn := fun _ => fun
  | [d1, d2, d3, d4] => { results := [.lit (.bool false)], args := [d1, d2, d3, d4] }
  | _ => none }
def CarryStocksWrongFalsely : Prop := carryStocksRow.holds Tryz.pinned (OpenSpec.ofChange carryStocksWrong)

/-- 'kitbaglaw33.SolveWorld': WHATEVER THE INPUT: true; the input reads as it did. -/
def solveWorldSpec : ChangeSpec := { name := "solveWorld", fn := fun _ => fun
  | [d1, d2] => { results := [.lit (.bool true)], args := [d1, d2] }
  | _ => none }
def solveWorldRow : OpenClaim := { program := "ytmcncjgbkobjnaagreat", sum := "0d39e5597c1bdb31bdcfd5dfdd933ea25a9359769256075af09d56fdfc4721ae", func := "kitbag/kitbaglaw33.SolveWorld", spec := "solveWorld", inPlace := ["slices.overlaps[kitbag/solve.term]"], unfollowed := true, recurses := true, plainKeys := false, apart := false }
def SolveWorldSaid : Prop := solveWorldRow.holds Tryz.pinned (OpenSpec.ofChange solveWorldSpec)

/-- ITS FALSE NEIGHBOUR: 'it returns false'. Refute it at one input. -/
def solveWorldWrong : ChangeSpec := { name := "solveWorld", fn := fun _ => fun
  | [d1, d2] => { results := [.lit (.bool false)], args := [d1, d2] }
  | _ => none }
def SolveWorldWrongFalsely : Prop := solveWorldRow.holds Tryz.pinned (OpenSpec.ofChange solveWorldWrong)

/- THE SECOND FORM. 'bulk': how many values and letters a reading holds, each counted each time it is reached (what is shared counts as often as it is met; a slice's spare places count too). A statement '..UptoSaid' is the law's where the arguments, and the package variables that the reading takes, are together of bulk at most 1048576: NARROWER than '..Said'. Prove '..Said' where nothing that the law and all that it calls make is longer than what came in: it says more and counts as full. Else prove '..UptoSaid'. A law counts once. -/
mutual
def uptoBulk {H : Type} : DataW H → Nat
  | .lit (.string bytes) => bytes.length + 1
  | .lit _ => 1
  | .nil => 1
  | .ptr d => uptoBulk d + 1
  | .slice elems spare => uptoBulkAll elems + uptoBulkAll spare + 1
  | .agg parts => uptoBulkAll parts + 1
  | .iface _ d => uptoBulk d + 1
  | .map entries => uptoBulkEntries entries + 1
  | .held _ => 1
def uptoBulkAll {H : Type} : List (DataW H) → Nat
  | [] => 0
  | d :: r => uptoBulk d + uptoBulkAll r
def uptoBulkEntries {H : Type} : List (Lit × DataW H) → Nat
  | [] => 0
  | x :: r => uptoBulkEntry x + uptoBulkEntries r
def uptoBulkEntry {H : Type} : Lit × DataW H → Nat
  | (.string bytes, d) => bytes.length + uptoBulk d + 1
  | (_, d) => uptoBulk d + 1
 end
def uptoSmall : (H : Type) → List (DataW H) → Bool := fun _ ds => decide (uptoBulkAll ds ≤ 1048576)
def OpenSpec.upto (s : _root_.Go.ChangeSpec) : _root_.Go.OpenSpec := { _root_.Go.OpenSpec.ofChange s with cond := some uptoSmall }

/-- 'kitbaglaw32.NetTells', WHERE WHAT IT READS IS OF BULK AT MOST 1048576: true; the input reads as it did. -/
def netTellsUptoRow : OpenClaim := { program := "ytmcncjgbkobjnaagreat", sum := "0d39e5597c1bdb31bdcfd5dfdd933ea25a9359769256075af09d56fdfc4721ae", func := "kitbag/kitbaglaw32.NetTells", spec := "netTells", unfollowed := true, recurses := true, plainKeys := false, apart := false, narrowed := true }
def NetTellsUptoSaid : Prop := netTellsUptoRow.holds Tryz.pinned (OpenSpec.upto netTellsSpec)

/-- 'kitbaglaw32.NetWhole', WHERE WHAT IT READS IS OF BULK AT MOST 1048576: true; the input reads as it did. -/
def netWholeUptoRow : OpenClaim := { program := "ytmcncjgbkobjnaagreat", sum := "0d39e5597c1bdb31bdcfd5dfdd933ea25a9359769256075af09d56fdfc4721ae", func := "kitbag/kitbaglaw32.NetWhole", spec := "netWhole", unfollowed := true, recurses := true, plainKeys := false, apart := false, narrowed := true }
def NetWholeUptoSaid : Prop := netWholeUptoRow.holds Tryz.pinned (OpenSpec.upto netWholeSpec)

/-- 'kitbaglaw32.NetRanks', WHERE WHAT IT READS IS OF BULK AT MOST 1048576: true; the input reads as it did. -/
def netRanksUptoRow : OpenClaim := { program := "ytmcncjgbkobjnaagreat", sum := "0d39e5597c1bdb31bdcfd5dfdd933ea25a9359769256075af09d56fdfc4721ae", func := "kitbag/kitbaglaw32.NetRanks", spec := "netRanks", unfollowed := true, recurses := true, plainKeys := false, apart := false, narrowed := true }
def NetRanksUptoSaid : Prop := netRanksUptoRow.holds Tryz.pinned (OpenSpec.upto netRanksSpec)

/-- 'kitbaglaw32.NetTrapped', WHERE WHAT IT READS IS OF BULK AT MOST 1048576: true; the input reads as it did. -/
def netTrappedUptoRow : OpenClaim := { program := "ytmcncjgbkobjnaagreat", sum := "0d39e5597c1bdb31bdcfd5dfdd933ea25a9359769256075af09d56fdfc4721ae", func := "kitbag/kitbaglaw32.NetTrapped", spec := "netTrapped", unfollowed := true, recurses := true, plainKeys := false, apart := false, narrowed := true }
def NetTrappedUptoSaid : Prop := netTrappedUptoRow.holds Tryz.pinned (OpenSpec.upto netTrappedSpec)

/-- 'kitbaglaw32.NetOrder', WHERE WHAT IT READS IS OF BULK AT MOST 1048576: true; the input reads as it did. -/
def netOrderUptoRow : OpenClaim := { program := "ytmcncjgbkobjnaagreat", sum := "0d39e5597c1bdb31bdcfd5dfdd933ea25a9359769256075af09d56fdfc4721ae", func := "kitbag/kitbaglaw32.NetOrder", spec := "netOrder", unfollowed := true, recurses := true, plainKeys := false, apart := false, narrowed := true }
def NetOrderUptoSaid : Prop := netOrderUptoRow.holds Tryz.pinned (OpenSpec.upto netOrderSpec)

/-- 'kitbaglaw32.NetMore', WHERE WHAT IT READS IS OF BULK AT MOST 1048576: true; the input reads as it did. -/
def netMoreUptoRow : OpenClaim := { program := "ytmcncjgbkobjnaagreat", sum := "0d39e5597c1bdb31bdcfd5dfdd933ea25a9359769256075af09d56fdfc4721ae", func := "kitbag/kitbaglaw32.NetMore", spec := "netMore", unfollowed := true, recurses := true, plainKeys := false, apart := false, narrowed := true }
def NetMoreUptoSaid : Prop := netMoreUptoRow.holds Tryz.pinned (OpenSpec.upto netMoreSpec)

/-- 'kitbaglaw34.CarryTells', WHERE WHAT IT READS IS OF BULK AT MOST 1048576: true; the input reads as it did. -/
def carryTellsUptoRow : OpenClaim := { program := "ytmcncjgbkobjnaagreat", sum := "0d39e5597c1bdb31bdcfd5dfdd933ea25a9359769256075af09d56fdfc4721ae", func := "kitbag/kitbaglaw34.CarryTells", spec := "carryTells", inPlace := ["slices.overlaps[kitbag/solve.term]"], unfollowed := true, recurses := true, plainKeys := false, apart := false, narrowed := true }
def CarryTellsUptoSaid : Prop := carryTellsUptoRow.holds Tryz.pinned (OpenSpec.upto carryTellsSpec)

/-- 'kitbaglaw34.CarryAdds', WHERE WHAT IT READS IS OF BULK AT MOST 1048576: true; the input reads as it did. -/
def carryAddsUptoRow : OpenClaim := { program := "ytmcncjgbkobjnaagreat", sum := "0d39e5597c1bdb31bdcfd5dfdd933ea25a9359769256075af09d56fdfc4721ae", func := "kitbag/kitbaglaw34.CarryAdds", spec := "carryAdds", inPlace := ["slices.overlaps[kitbag/solve.term]"], unfollowed := true, recurses := true, plainKeys := false, apart := false, narrowed := true }
def CarryAddsUptoSaid : Prop := carryAddsUptoRow.holds Tryz.pinned (OpenSpec.upto carryAddsSpec)

/-- 'kitbaglaw34.CarryConserves', WHERE WHAT IT READS IS OF BULK AT MOST 1048576: true; the input reads as it did. -/
def carryConservesUptoRow : OpenClaim := { program := "ytmcncjgbkobjnaagreat", sum := "0d39e5597c1bdb31bdcfd5dfdd933ea25a9359769256075af09d56fdfc4721ae", func := "kitbag/kitbaglaw34.CarryConserves", spec := "carryConserves", inPlace := ["slices.overlaps[kitbag/solve.term]"], unfollowed := true, recurses := true, plainKeys := false, apart := false, narrowed := true }
def CarryConservesUptoSaid : Prop := carryConservesUptoRow.holds Tryz.pinned (OpenSpec.upto carryConservesSpec)

/-- 'kitbaglaw34.CarryApart', WHERE WHAT IT READS IS OF BULK AT MOST 1048576: true; the input reads as it did. -/
def carryApartUptoRow : OpenClaim := { program := "ytmcncjgbkobjnaagreat", sum := "0d39e5597c1bdb31bdcfd5dfdd933ea25a9359769256075af09d56fdfc4721ae", func := "kitbag/kitbaglaw34.CarryApart", spec := "carryApart", inPlace := ["slices.overlaps[kitbag/solve.term]"], unfollowed := true, recurses := true, plainKeys := false, apart := false, narrowed := true }
def CarryApartUptoSaid : Prop := carryApartUptoRow.holds Tryz.pinned (OpenSpec.upto carryApartSpec)

/-- 'kitbaglaw34.CarryGives', WHERE WHAT IT READS IS OF BULK AT MOST 1048576: true; the input reads as it did. -/
def carryGivesUptoRow : OpenClaim := { program := "ytmcncjgbkobjnaagreat", sum := "0d39e5597c1bdb31bdcfd5dfdd933ea25a9359769256075af09d56fdfc4721ae", func := "kitbag/kitbaglaw34.CarryGives", spec := "carryGives", inPlace := ["slices.overlaps[kitbag/solve.term]"], unfollowed := true, recurses := true, plainKeys := false, apart := false, narrowed := true }
def CarryGivesUptoSaid : Prop := carryGivesUptoRow.holds Tryz.pinned (OpenSpec.upto carryGivesSpec)

/-- 'kitbaglaw34.CarryStocks', WHERE WHAT IT READS IS OF BULK AT MOST 1048576: true; the input reads as it did. -/
def carryStocksUptoRow : OpenClaim := { program := "ytmcncjgbkobjnaagreat", sum := "0d39e5597c1bdb31bdcfd5dfdd933ea25a9359769256075af09d56fdfc4721ae", func := "kitbag/kitbaglaw34.CarryStocks", spec := "carryStocks", inPlace := ["slices.overlaps[kitbag/solve.term]"], unfollowed := true, recurses := true, plainKeys := false, apart := false, narrowed := true }
def CarryStocksUptoSaid : Prop := carryStocksUptoRow.holds Tryz.pinned (OpenSpec.upto carryStocksSpec)

/-- 'kitbaglaw33.SolveWorld', WHERE WHAT IT READS IS OF BULK AT MOST 1048576: true; the input reads as it did. -/
def solveWorldUptoRow : OpenClaim := { program := "ytmcncjgbkobjnaagreat", sum := "0d39e5597c1bdb31bdcfd5dfdd933ea25a9359769256075af09d56fdfc4721ae", func := "kitbag/kitbaglaw33.SolveWorld", spec := "solveWorld", inPlace := ["slices.overlaps[kitbag/solve.term]"], unfollowed := true, recurses := true, plainKeys := false, apart := false, narrowed := true }
def SolveWorldUptoSaid : Prop := solveWorldUptoRow.holds Tryz.pinned (OpenSpec.upto solveWorldSpec)

end Rows
end Go.Proofs.YtmcncjgbkobjnaaGreat
