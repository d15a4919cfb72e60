/-
  DERIVED. GIVEN WITH THE SEED: THE CARDS: each row of YtdecgihkgpgejaaDoorRows.lean that lists a variable, with what it lists TIED to the program's text (the seventh form; the later family's looks); each row that meets fmt, with fmt's text TOLD by the authors' own Lean function (tested against real Go, not proved from fmt's source: count such statements apart). THE CARD IS WHAT COUNTS. Prove the row's statement (the work); the ties are given (YtdecgihkgpgejaaDoorTie.lean); close each card by the builder's one call (the guide's Derived/Test/ToyasCard.lean, 'card_holds'). Laid BY PROGRAM, IN A SANDBOX (cutbox-door.mjs). By AI agents, Wed Nov 11 2026. No macro, syntax, notation, axiom, sorry.
-/
import Derived.Test.YtdecgihkgpgejaaDoorRows
import GoSem.ClaimSeven
namespace Go.Proofs.YtdecgihkgpgejaaDoor
namespace Rows

/-- THE TIED CARD OF 'kitbaglaw50.TapeTells'. -/
def tapeTellsCard : Claim7 := { stood := { row := tapeTellsRow, standIns := [], harness := (true, "2c19a6c869f5b3d2b8fd2a1bee6b7b564feb9c69af9ab208394964821ffb8605"), looks := false }, kinds := [], alts := [], laidByText := true, laidKinds := [.data, .data, .data], laidTests := true, laidLooks := .later }
def TapeTellsCardSaid : Prop := Claim7.holds Tryd.pinned (.plain (OpenSpec.ofChange tapeTellsSpec)) tapeTellsCard

/-- THE TIED CARD OF 'kitbaglaw50.TapeFree'. -/
def tapeFreeCard : Claim7 := { stood := { row := tapeFreeRow, standIns := [], harness := (true, "2c19a6c869f5b3d2b8fd2a1bee6b7b564feb9c69af9ab208394964821ffb8605"), looks := false }, kinds := [], alts := [], laidByText := true, laidKinds := [.data, .data, .data], laidTests := true, laidLooks := .later }
def TapeFreeCardSaid : Prop := Claim7.holds Tryd.pinned (.plain (OpenSpec.ofChange tapeFreeSpec)) tapeFreeCard

/-- THE TIED CARD OF 'kitbaglaw50.TapeDraws'. -/
def tapeDrawsCard : Claim7 := { stood := { row := tapeDrawsRow, standIns := [], harness := (true, "2c19a6c869f5b3d2b8fd2a1bee6b7b564feb9c69af9ab208394964821ffb8605"), looks := false }, kinds := [], alts := [], laidByText := true, laidKinds := [.data, .data, .data], laidTests := true, laidLooks := .later }
def TapeDrawsCardSaid : Prop := Claim7.holds Tryd.pinned (.plain (OpenSpec.ofChange tapeDrawsSpec)) tapeDrawsCard

/-- THE TIED CARD OF 'kitbaglaw50.TapeEqual'. -/
def tapeEqualCard : Claim7 := { stood := { row := tapeEqualRow, standIns := [], harness := (true, "2c19a6c869f5b3d2b8fd2a1bee6b7b564feb9c69af9ab208394964821ffb8605"), looks := false }, kinds := [], alts := [], laidByText := true, laidKinds := [.data, .data, .data], laidTests := true, laidLooks := .later }
def TapeEqualCardSaid : Prop := Claim7.holds Tryd.pinned (.plain (OpenSpec.ofChange tapeEqualSpec)) tapeEqualCard

/-- THE TIED CARD OF 'kitbaglaw50.TapeOrder'. -/
def tapeOrderCard : Claim7 := { stood := { row := tapeOrderRow, standIns := [], harness := (true, "2c19a6c869f5b3d2b8fd2a1bee6b7b564feb9c69af9ab208394964821ffb8605"), looks := false }, kinds := [], alts := [], laidByText := true, laidKinds := [.data, .data, .data], laidTests := true, laidLooks := .later }
def TapeOrderCardSaid : Prop := Claim7.holds Tryd.pinned (.plain (OpenSpec.ofChange tapeOrderSpec)) tapeOrderCard

/-- THE TIED CARD OF 'kitbaglaw50.TapeSeals'. -/
def tapeSealsCard : Claim7 := { stood := { row := tapeSealsRow, standIns := [], harness := (true, "2c19a6c869f5b3d2b8fd2a1bee6b7b564feb9c69af9ab208394964821ffb8605"), looks := false }, kinds := [], alts := [], laidByText := true, laidKinds := [.data, .data, .data], laidTests := true, laidLooks := .later }
def TapeSealsCardSaid : Prop := Claim7.holds Tryd.pinned (.plain (OpenSpec.ofChange tapeSealsSpec)) tapeSealsCard

/-- THE SECOND FORM's CARD OF 'kitbaglaw50.TapeTells'. -/
def tapeTellsUptoCard : Claim7 := { stood := { row := tapeTellsUptoRow, standIns := [], harness := (true, "2c19a6c869f5b3d2b8fd2a1bee6b7b564feb9c69af9ab208394964821ffb8605"), looks := false }, kinds := [], alts := [], laidByText := true, laidKinds := [.data, .data, .data], laidTests := true, laidLooks := .later }
def TapeTellsUptoCardSaid : Prop := Claim7.holds Tryd.pinned (.plain (OpenSpec.upto tapeTellsSpec)) tapeTellsUptoCard

/-- THE SECOND FORM's CARD OF 'kitbaglaw50.TapeFree'. -/
def tapeFreeUptoCard : Claim7 := { stood := { row := tapeFreeUptoRow, standIns := [], harness := (true, "2c19a6c869f5b3d2b8fd2a1bee6b7b564feb9c69af9ab208394964821ffb8605"), looks := false }, kinds := [], alts := [], laidByText := true, laidKinds := [.data, .data, .data], laidTests := true, laidLooks := .later }
def TapeFreeUptoCardSaid : Prop := Claim7.holds Tryd.pinned (.plain (OpenSpec.upto tapeFreeSpec)) tapeFreeUptoCard

/-- THE SECOND FORM's CARD OF 'kitbaglaw50.TapeDraws'. -/
def tapeDrawsUptoCard : Claim7 := { stood := { row := tapeDrawsUptoRow, standIns := [], harness := (true, "2c19a6c869f5b3d2b8fd2a1bee6b7b564feb9c69af9ab208394964821ffb8605"), looks := false }, kinds := [], alts := [], laidByText := true, laidKinds := [.data, .data, .data], laidTests := true, laidLooks := .later }
def TapeDrawsUptoCardSaid : Prop := Claim7.holds Tryd.pinned (.plain (OpenSpec.upto tapeDrawsSpec)) tapeDrawsUptoCard

/-- THE SECOND FORM's CARD OF 'kitbaglaw50.TapeEqual'. -/
def tapeEqualUptoCard : Claim7 := { stood := { row := tapeEqualUptoRow, standIns := [], harness := (true, "2c19a6c869f5b3d2b8fd2a1bee6b7b564feb9c69af9ab208394964821ffb8605"), looks := false }, kinds := [], alts := [], laidByText := true, laidKinds := [.data, .data, .data], laidTests := true, laidLooks := .later }
def TapeEqualUptoCardSaid : Prop := Claim7.holds Tryd.pinned (.plain (OpenSpec.upto tapeEqualSpec)) tapeEqualUptoCard

/-- THE SECOND FORM's CARD OF 'kitbaglaw50.TapeOrder'. -/
def tapeOrderUptoCard : Claim7 := { stood := { row := tapeOrderUptoRow, standIns := [], harness := (true, "2c19a6c869f5b3d2b8fd2a1bee6b7b564feb9c69af9ab208394964821ffb8605"), looks := false }, kinds := [], alts := [], laidByText := true, laidKinds := [.data, .data, .data], laidTests := true, laidLooks := .later }
def TapeOrderUptoCardSaid : Prop := Claim7.holds Tryd.pinned (.plain (OpenSpec.upto tapeOrderSpec)) tapeOrderUptoCard

/-- THE SECOND FORM's CARD OF 'kitbaglaw50.TapeSeals'. -/
def tapeSealsUptoCard : Claim7 := { stood := { row := tapeSealsUptoRow, standIns := [], harness := (true, "2c19a6c869f5b3d2b8fd2a1bee6b7b564feb9c69af9ab208394964821ffb8605"), looks := false }, kinds := [], alts := [], laidByText := true, laidKinds := [.data, .data, .data], laidTests := true, laidLooks := .later }
def TapeSealsUptoCardSaid : Prop := Claim7.holds Tryd.pinned (.plain (OpenSpec.upto tapeSealsSpec)) tapeSealsUptoCard
end Rows
end Go.Proofs.YtdecgihkgpgejaaDoor
