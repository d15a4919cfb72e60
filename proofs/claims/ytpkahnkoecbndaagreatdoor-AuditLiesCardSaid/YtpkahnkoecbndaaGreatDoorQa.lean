/- The card AuditLies, proved: for every input that can be read the law returns true, and the input reads as it did. Conditions: what the listed tables read as, tied to the program's text by the card. -/
import Derived.Test.YtpkahnkoecbndaaGreatDoorVg
namespace Go.Proofs.YtpkahnkoecbndaaGreatDoor
theorem auditLies_holds : Rows.AuditLiesCardSaid := Am.uI (fun a0 a1 a2 a3 a4 h0 h1 h2 h3 _ => P.Uc a0 a1 a2 a3 a4 h0.1 h1.1.1 h2 ⟨h3.2.1.1, h3.2.2.2.1⟩)
end Go.Proofs.YtpkahnkoecbndaaGreatDoor
