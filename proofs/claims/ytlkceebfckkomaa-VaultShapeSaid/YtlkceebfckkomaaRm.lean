/- The statement VaultShape, proved: for every input that can be read the law returns true, and the input reads as it did. Conditions: none. -/
import Derived.Test.YtlkceebfckkomaaDo
import Derived.Test.YtlkceebfckkomaaEd
namespace Go.Proofs.Ytlkceebfckkomaa

theorem vaultShape_holds : Rows.VaultShapeSaid := Am.holds_l35_VaultShape (fun a0 a1 a2 h0 h1 h2 => P.VaultShape_eq a0 a1 a2 h0.1 h1 h2)

end Go.Proofs.Ytlkceebfckkomaa
