/- The card AuditAlone, proved: for every input that can be read the law returns true, and the input reads as it did. Conditions: what the listed tables read as, tied to the program's text by the card. -/
import Derived.Test.YtpkahnkoecbndaaGreatDoorZg
namespace Go.Proofs.YtpkahnkoecbndaaGreatDoor
theorem auditAlone_holds : Rows.AuditAloneCardSaid := Am.sx (fun a0 a1 a2 a3 a4 a5 a6 h0 _ _ _ h4 h5 h6 => P.P6 a0 a1 a2 a3 a4 a5 a6 h0.1 h4.1 ⟨h5.1, fun x hx => ⟨(h5.2 x hx).2.1.1, (h5.2 x hx).2.2.2.1⟩⟩ h6.1)
end Go.Proofs.YtpkahnkoecbndaaGreatDoor
