/- The statement CarryGives, proved: for every input that can be read the law returns true, and the input reads as it did. Conditions: none. -/
import Derived.Test.YtobnihfgnbnncaaGreatLh
namespace Go.Proofs.YtobnihfgnbnncaaGreat
open P
theorem carryGives_holds:Rows.CarryGivesSaid:=Am.Ae (fun a0 a1 _ _ => K8 a0 a1)
end Go.Proofs.YtobnihfgnbnncaaGreat
