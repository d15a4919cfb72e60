/- The card TapeDraws, proved: for every input that can be read the law returns true, and the input reads as it did. Conditions: what the listed tables read as, tied to the program's text by the card. -/
import Derived.Test.YtdecgihkgpgejaaDoorDo
import Derived.Test.YtdecgihkgpgejaaDoorTh
namespace Go.Proofs.YtdecgihkgpgejaaDoor

theorem tapeDraws_holds : Rows.TapeDrawsCardSaid := Am.holds_l50_TapeDraws (fun a0 a1 h0 _ => P.TapeDraws_eq a0 a1 h0.1)

end Go.Proofs.YtdecgihkgpgejaaDoor
