/- The statement FirmTells, proved: for every input that can be read the law returns true, and the input reads as it did. Conditions: none. -/
import Derived.Test.YtnnkcegdkhclcaaDo
import Derived.Test.YtnnkcegdkhclcaaLe
namespace Go.Proofs.Ytnnkcegdkhclcaa

theorem okd_W {ds : List P.TDeed} (h : ds.length * 48 ≤ 140737488351232 ∧ ∀ y ∈ ds, Am.ok_TDeed y) : P.W ds := ⟨h.1, fun d hd => (h.2 d hd).2.2.2.1⟩
theorem firmTells_holds : Rows.FirmTellsSaid := Am.holds_l41_FirmTells (fun a0 a1 a2 h0 h1 h2 => P.Tells_eq (okd_W h0))

end Go.Proofs.Ytnnkcegdkhclcaa
