/- The statement NetMore, proved: for every input that can be read the law returns true, and the input reads as it did. Conditions: none. -/
import Derived.Test.YtoioidmblipblaaGreatJg
namespace Go.Proofs.YtoioidmblipblaaGreat
open P
theorem netMore_holds : Rows.NetMoreSaid := Am.xR (fun a0 a1 a2 _ h1 h2 => P4 a0 a1 a2 h1 h2)
end Go.Proofs.YtoioidmblipblaaGreat
