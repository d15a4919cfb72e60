/- The card TapeOrder, proved: for every input that can be read the law returns true, and the input reads as it did. Conditions: what the listed tables read as, tied to the program's text by the card. -/
import Derived.Test.YtdecgihkgpgejaaDoorDo
import Derived.Test.YtdecgihkgpgejaaDoorTi
namespace Go.Proofs.YtdecgihkgpgejaaDoor

theorem tapeOrder_holds : Rows.TapeOrderCardSaid := Am.holds_l50_TapeOrder (fun a0 a1 a2 a3 h0 _ _ h3 => P.TapeOrder_eq a0 a1 a2 a3 h0 h3)

end Go.Proofs.YtdecgihkgpgejaaDoor
