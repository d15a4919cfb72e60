/- The statement CarryApart, proved: for every input that can be read the law returns true, and the input reads as it did. Conditions: none. -/
import Derived.Test.YtobnihfgnbnncaaGreatHg
namespace Go.Proofs.YtobnihfgnbnncaaGreat
open P
theorem carryApart_holds:Rows.CarryApartSaid:=Am.yu (fun a0 a1 a2 a3 a4 _ _ h2 h3 h4 => IY a0 a1 a2 a3 a4 h2 h3 h4)
end Go.Proofs.YtobnihfgnbnncaaGreat
