/- The statement CarryConserves, proved: for every input that can be read the law returns true, and the input reads as it did. Conditions: none. -/
import Derived.Test.YtobnihfgnbnncaaGreatJg
namespace Go.Proofs.YtobnihfgnbnncaaGreat
open P
theorem carryConserves_holds : Rows.CarryConservesSaid := Am.uU (fun a0 a1 _ _ => Ba a0 a1)
end Go.Proofs.YtobnihfgnbnncaaGreat
