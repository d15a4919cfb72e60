/- The card AuditTells, proved: for every input that can be read the law returns true, and the input reads as it did. Conditions: what the listed tables read as, tied to the program's text by the card. -/
import Derived.Test.YtpkahnkoecbndaaGreatDoorYg
namespace Go.Proofs.YtpkahnkoecbndaaGreatDoor
theorem auditTells_holds : Rows.AuditTellsCardSaid := Am.uR (fun a0 a1 a2 a3 a4 a5 a6 a7 a8 a9 a10 h0 _ _ _ h4 h5 h6 h7 h8 _ _ => P.TP a0 a1 a2 a3 a4 a5 a6 a7 a8 a9 a10 h0.1 h4.1 ⟨h5.1, fun x hx => ⟨(h5.2 x hx).2.1.1, (h5.2 x hx).2.2.2.1⟩⟩ h6.1 h7.1 h8)
end Go.Proofs.YtpkahnkoecbndaaGreatDoor
