/- The card AuditSums, proved: for every input that can be read the law returns true, and the input reads as it did. Conditions: what the listed tables read as, tied to the program's text by the card. -/
import Derived.Test.YtpkahnkoecbndaaGreatDoorUg
namespace Go.Proofs.YtpkahnkoecbndaaGreatDoor
theorem auditSums_holds : Rows.AuditSumsCardSaid := Am.vB (fun a0 a1 a2 a3 h0 h1 _ h3 => P.UU a0 a1 a2 a3 h0.1 h1.1.1 h3)
end Go.Proofs.YtpkahnkoecbndaaGreatDoor
