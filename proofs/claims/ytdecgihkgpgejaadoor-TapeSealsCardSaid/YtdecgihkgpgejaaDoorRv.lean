/- The card TapeSeals, proved: for every input that can be read the law returns true, and the input reads as it did. Conditions: what the listed tables read as, tied to the program's text by the card. -/
import Derived.Test.YtdecgihkgpgejaaDoorDo
import Derived.Test.YtdecgihkgpgejaaDoorTj
namespace Go.Proofs.YtdecgihkgpgejaaDoor

theorem tapeSeals_holds : Rows.TapeSealsCardSaid := Am.holds_l50_TapeSeals (fun a0 a1 a2 a3 a4 a5 a6 h0 h1 _ _ h4 h5 _ => P.TapeSeals_eq a0 a1 a2 a3 a4 a5 a6 h0 h1 h4 h5)

end Go.Proofs.YtdecgihkgpgejaaDoor
