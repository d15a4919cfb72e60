/- The card TapeTells, proved: for every input that can be read the law returns true, and the input reads as it did. Conditions: what the listed tables read as, tied to the program's text by the card. -/
import Derived.Test.YtdecgihkgpgejaaDoorDo
import Derived.Test.YtdecgihkgpgejaaDoorT1
namespace Go.Proofs.YtdecgihkgpgejaaDoor

theorem tapeTells_holds : Rows.TapeTellsCardSaid := Am.holds_l50_TapeTells (fun a0 a1 a2 a3 a4 a5 a6 h0 h1 _ _ h4 h5 h6 => P.TapeTells_eq a0 a1 a2 a3 a4 a5 a6 h0 h1 h4.1 h5.1 h6.1)

end Go.Proofs.YtdecgihkgpgejaaDoor
