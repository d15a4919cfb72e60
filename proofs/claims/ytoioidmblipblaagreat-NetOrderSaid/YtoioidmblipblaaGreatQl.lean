/- The statement NetOrder, proved: for every input that can be read the law returns true, and the input reads as it did. Conditions: none. -/
import Derived.Test.YtoioidmblipblaaGreatIg
namespace Go.Proofs.YtoioidmblipblaaGreat
open P
theorem netOrder_holds : Rows.NetOrderSaid := Am.vW (fun a0 a1 _ h1 => Kj a0 a1 h1)
end Go.Proofs.YtoioidmblipblaaGreat
