/- The statement CarryAdds, proved: for every input that can be read the law returns true, and the input reads as it did. Conditions: none. -/
import Derived.Test.YtobnihfgnbnncaaGreatKg
namespace Go.Proofs.YtobnihfgnbnncaaGreat
open P
theorem carryAdds_holds : Rows.CarryAddsSaid := Am.zm (fun a0 a1 a2 a3 a4 _ _ _ h3 h4 => LV a0 a1 a2 a3 a4 h3 h4)
end Go.Proofs.YtobnihfgnbnncaaGreat
