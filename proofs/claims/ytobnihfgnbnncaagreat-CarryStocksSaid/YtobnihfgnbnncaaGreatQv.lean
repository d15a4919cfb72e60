/- The statement CarryStocks, proved: for every input that can be read the law returns true, and the input reads as it did. Conditions: none. -/
import Derived.Test.YtobnihfgnbnncaaGreatIg
namespace Go.Proofs.YtobnihfgnbnncaaGreat
open P
theorem carryStocks_holds : Rows.CarryStocksSaid := Am.yp (fun a0 a1 a2 a3 _ _ _ _ => Gz a0 a1 a2 a3)
end Go.Proofs.YtobnihfgnbnncaaGreat
