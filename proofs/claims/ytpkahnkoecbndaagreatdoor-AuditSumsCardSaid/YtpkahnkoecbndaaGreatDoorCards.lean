/-
  DERIVED. GIVEN WITH THE SEED: THE CARDS: each row of YtpkahnkoecbndaaGreatDoorRows.lean that lists a variable, with what it lists TIED to the program's text (the seventh form; the later family's looks); each row that meets fmt, with fmt's text TOLD by the authors' own Lean function (tested against real Go, not proved from fmt's source: count such statements apart). THE CARD IS WHAT COUNTS. Prove the row's statement (the work); the ties are given (YtpkahnkoecbndaaGreatDoorTie.lean); close each card by the builder's one call (the guide's Derived/Test/ToyasCard.lean, 'card_holds'). Laid BY PROGRAM, IN A SANDBOX (cutbox-door.mjs). By AI agents, Wed Nov 11 2026. No macro, syntax, notation, axiom, sorry.
-/
import Derived.Test.YtpkahnkoecbndaaGreatDoorRows
import GoSem.ClaimSeven
namespace Go.Proofs.YtpkahnkoecbndaaGreatDoor
namespace Rows

/-- THE TIED CARD OF 'kitbaglaw51.AuditTells'. -/
def auditTellsCard : Claim7 := { stood := { row := auditTellsRow, standIns := [], harness := (true, "52e730f0646c3fa3204f2de73fce66f5355580aef263cd7109bfe2a53232cfaa"), looks := false }, kinds := [], alts := [], laidByText := true, laidKinds := [.data, .data, .data], laidTests := true, laidLooks := .later }
def AuditTellsCardSaid : Prop := Claim7.holds Tryz.pinned (.plain (OpenSpec.ofChange auditTellsSpec)) auditTellsCard

/-- THE TIED CARD OF 'kitbaglaw51.AuditDraws'. -/
def auditDrawsCard : Claim7 := { stood := { row := auditDrawsRow, standIns := [], harness := (true, "52e730f0646c3fa3204f2de73fce66f5355580aef263cd7109bfe2a53232cfaa"), looks := false }, kinds := [], alts := [], laidByText := true, laidKinds := [.data, .data, .data], laidTests := true, laidLooks := .later }
def AuditDrawsCardSaid : Prop := Claim7.holds Tryz.pinned (.plain (OpenSpec.ofChange auditDrawsSpec)) auditDrawsCard

/-- THE TIED CARD OF 'kitbaglaw51.AuditAlone'. -/
def auditAloneCard : Claim7 := { stood := { row := auditAloneRow, standIns := [], harness := (true, "52e730f0646c3fa3204f2de73fce66f5355580aef263cd7109bfe2a53232cfaa"), looks := false }, kinds := [], alts := [], laidByText := true, laidKinds := [.data, .data, .data], laidTests := true, laidLooks := .later }
def AuditAloneCardSaid : Prop := Claim7.holds Tryz.pinned (.plain (OpenSpec.ofChange auditAloneSpec)) auditAloneCard

/-- THE TIED CARD OF 'kitbaglaw51.AuditHonest'. -/
def auditHonestCard : Claim7 := { stood := { row := auditHonestRow, standIns := [], harness := (true, "52e730f0646c3fa3204f2de73fce66f5355580aef263cd7109bfe2a53232cfaa"), looks := false }, kinds := [], alts := [], laidByText := true, laidKinds := [.data, .data, .data], laidTests := true, laidLooks := .later }
def AuditHonestCardSaid : Prop := Claim7.holds Tryz.pinned (.plain (OpenSpec.ofChange auditHonestSpec)) auditHonestCard

/-- THE TIED CARD OF 'kitbaglaw51.AuditLies'. -/
def auditLiesCard : Claim7 := { stood := { row := auditLiesRow, standIns := [], harness := (true, "52e730f0646c3fa3204f2de73fce66f5355580aef263cd7109bfe2a53232cfaa"), looks := false }, kinds := [], alts := [], laidByText := true, laidKinds := [.data, .data, .data], laidTests := true, laidLooks := .later }
def AuditLiesCardSaid : Prop := Claim7.holds Tryz.pinned (.plain (OpenSpec.ofChange auditLiesSpec)) auditLiesCard

/-- THE TIED CARD OF 'kitbaglaw51.AuditSums'. -/
def auditSumsCard : Claim7 := { stood := { row := auditSumsRow, standIns := [], harness := (true, "52e730f0646c3fa3204f2de73fce66f5355580aef263cd7109bfe2a53232cfaa"), looks := false }, kinds := [], alts := [], laidByText := true, laidKinds := [.data, .data, .data], laidTests := true, laidLooks := .later }
def AuditSumsCardSaid : Prop := Claim7.holds Tryz.pinned (.plain (OpenSpec.ofChange auditSumsSpec)) auditSumsCard

/-- THE SECOND FORM's CARD OF 'kitbaglaw51.AuditTells'. -/
def auditTellsUptoCard : Claim7 := { stood := { row := auditTellsUptoRow, standIns := [], harness := (true, "52e730f0646c3fa3204f2de73fce66f5355580aef263cd7109bfe2a53232cfaa"), looks := false }, kinds := [], alts := [], laidByText := true, laidKinds := [.data, .data, .data], laidTests := true, laidLooks := .later }
def AuditTellsUptoCardSaid : Prop := Claim7.holds Tryz.pinned (.plain (OpenSpec.upto auditTellsSpec)) auditTellsUptoCard

/-- THE SECOND FORM's CARD OF 'kitbaglaw51.AuditDraws'. -/
def auditDrawsUptoCard : Claim7 := { stood := { row := auditDrawsUptoRow, standIns := [], harness := (true, "52e730f0646c3fa3204f2de73fce66f5355580aef263cd7109bfe2a53232cfaa"), looks := false }, kinds := [], alts := [], laidByText := true, laidKinds := [.data, .data, .data], laidTests := true, laidLooks := .later }
def AuditDrawsUptoCardSaid : Prop := Claim7.holds Tryz.pinned (.plain (OpenSpec.upto auditDrawsSpec)) auditDrawsUptoCard

/-- THE SECOND FORM's CARD OF 'kitbaglaw51.AuditAlone'. -/
def auditAloneUptoCard : Claim7 := { stood := { row := auditAloneUptoRow, standIns := [], harness := (true, "52e730f0646c3fa3204f2de73fce66f5355580aef263cd7109bfe2a53232cfaa"), looks := false }, kinds := [], alts := [], laidByText := true, laidKinds := [.data, .data, .data], laidTests := true, laidLooks := .later }
def AuditAloneUptoCardSaid : Prop := Claim7.holds Tryz.pinned (.plain (OpenSpec.upto auditAloneSpec)) auditAloneUptoCard

/-- THE SECOND FORM's CARD OF 'kitbaglaw51.AuditHonest'. -/
def auditHonestUptoCard : Claim7 := { stood := { row := auditHonestUptoRow, standIns := [], harness := (true, "52e730f0646c3fa3204f2de73fce66f5355580aef263cd7109bfe2a53232cfaa"), looks := false }, kinds := [], alts := [], laidByText := true, laidKinds := [.data, .data, .data], laidTests := true, laidLooks := .later }
def AuditHonestUptoCardSaid : Prop := Claim7.holds Tryz.pinned (.plain (OpenSpec.upto auditHonestSpec)) auditHonestUptoCard

/-- THE SECOND FORM's CARD OF 'kitbaglaw51.AuditLies'. -/
def auditLiesUptoCard : Claim7 := { stood := { row := auditLiesUptoRow, standIns := [], harness := (true, "52e730f0646c3fa3204f2de73fce66f5355580aef263cd7109bfe2a53232cfaa"), looks := false }, kinds := [], alts := [], laidByText := true, laidKinds := [.data, .data, .data], laidTests := true, laidLooks := .later }
def AuditLiesUptoCardSaid : Prop := Claim7.holds Tryz.pinned (.plain (OpenSpec.upto auditLiesSpec)) auditLiesUptoCard

/-- THE SECOND FORM's CARD OF 'kitbaglaw51.AuditSums'. -/
def auditSumsUptoCard : Claim7 := { stood := { row := auditSumsUptoRow, standIns := [], harness := (true, "52e730f0646c3fa3204f2de73fce66f5355580aef263cd7109bfe2a53232cfaa"), looks := false }, kinds := [], alts := [], laidByText := true, laidKinds := [.data, .data, .data], laidTests := true, laidLooks := .later }
def AuditSumsUptoCardSaid : Prop := Claim7.holds Tryz.pinned (.plain (OpenSpec.upto auditSumsSpec)) auditSumsUptoCard
end Rows
end Go.Proofs.YtpkahnkoecbndaaGreatDoor
