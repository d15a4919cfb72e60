/- The statement FirmMore, proved: for every input that can be read the law returns true, and the input reads as it did. Conditions: none. -/
import Derived.Test.YtnnkcegdkhclcaaDo
import Derived.Test.YtnnkcegdkhclcaaLh
namespace Go.Proofs.Ytnnkcegdkhclcaa

theorem firmMore_holds : Rows.FirmMoreSaid := Am.holds_l41_FirmMore (fun a0 a1 a2 a3 a4 h0 h1 h2 h3 h4 => P.More_eq ⟨h0.1, fun d hd => (h0.2 d hd).2.2.2.1⟩ h1 h2.2.2.2.1)

end Go.Proofs.Ytnnkcegdkhclcaa
