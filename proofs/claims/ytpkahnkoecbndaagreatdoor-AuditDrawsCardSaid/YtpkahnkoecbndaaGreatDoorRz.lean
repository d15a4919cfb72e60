/- The card AuditDraws, proved: for every input that can be read the law returns true, and the input reads as it did. Conditions: what the listed tables read as, tied to the program's text by the card. -/
import Derived.Test.YtpkahnkoecbndaaGreatDoorXf
namespace Go.Proofs.YtpkahnkoecbndaaGreatDoor
theorem auditDraws_holds : Rows.AuditDrawsCardSaid := Am.rI (fun a0 a1 a2 a3 h0 h1 _ h3 => P.J0 a0 a1 a2 a3 h0 h1.1 h3)
end Go.Proofs.YtpkahnkoecbndaaGreatDoor
