/- The statement NetWhole, proved: for every input that can be read the law returns true, and the input reads as it did. Conditions: none. -/
import Derived.Test.YtoioidmblipblaaGreatKg
namespace Go.Proofs.YtoioidmblipblaaGreat
open P
theorem netWhole_holds : Rows.NetWholeSaid := Am.wV (fun a0 _ => K2 a0)
end Go.Proofs.YtoioidmblipblaaGreat
