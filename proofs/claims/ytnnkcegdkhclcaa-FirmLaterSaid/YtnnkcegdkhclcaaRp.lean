/- The statement FirmLater, proved: for every input that can be read the law returns true, and the input reads as it did. Conditions: none. -/
import Derived.Test.YtnnkcegdkhclcaaDo
import Derived.Test.YtnnkcegdkhclcaaLg
namespace Go.Proofs.Ytnnkcegdkhclcaa

theorem firmLater_holds : Rows.FirmLaterSaid := Am.holds_l41_FirmLater (fun a0 a1 a2 a3 h0 h1 h2 h3 => P.Later_eq ⟨h0.1, fun d hd => (h0.2 d hd).2.2.2.1⟩)

end Go.Proofs.Ytnnkcegdkhclcaa
