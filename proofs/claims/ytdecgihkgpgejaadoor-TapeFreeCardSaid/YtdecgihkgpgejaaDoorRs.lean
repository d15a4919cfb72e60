/- The card TapeFree, proved: for every input that can be read the law returns true, and the input reads as it did. Conditions: what the listed tables read as, tied to the program's text by the card. -/
import Derived.Test.YtdecgihkgpgejaaDoorDo
import Derived.Test.YtdecgihkgpgejaaDoorTi
namespace Go.Proofs.YtdecgihkgpgejaaDoor

theorem tapeFree_holds : Rows.TapeFreeCardSaid := Am.holds_l50_TapeFree (fun a0 a1 a2 a3 a4 h0 h1 h2 _ h4 => P.TapeFree_eq a0 a1 a2 a3 a4 h0 h1.1 h2.1 h4)

end Go.Proofs.YtdecgihkgpgejaaDoor
