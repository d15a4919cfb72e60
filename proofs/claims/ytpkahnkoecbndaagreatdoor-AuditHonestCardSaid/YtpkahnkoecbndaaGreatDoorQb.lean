/- The card AuditHonest, proved: for every input that can be read the law returns true, and the input reads as it did. Conditions: what the listed tables read as, tied to the program's text by the card. -/
import Derived.Test.YtpkahnkoecbndaaGreatDoorWf
namespace Go.Proofs.YtpkahnkoecbndaaGreatDoor
theorem auditHonest_holds : Rows.AuditHonestCardSaid := Am.rZ (fun a0 a1 a2 a3 h0 h1 _ _ => P.OR a0 a1 a2 a3 h0.1 h1.1.1)
end Go.Proofs.YtpkahnkoecbndaaGreatDoor
