/- The card TapeEqual, proved: for every input that can be read the law returns true, and the input reads as it did. Conditions: what the listed tables read as, tied to the program's text by the card. -/
import Derived.Test.YtdecgihkgpgejaaDoorDo
import Derived.Test.YtdecgihkgpgejaaDoorTk
namespace Go.Proofs.YtdecgihkgpgejaaDoor

theorem tapeEqual_holds : Rows.TapeEqualCardSaid := Am.holds_l50_TapeEqual (fun a0 a1 a2 h0 h1 h2 => P.TapeEqual_eq a0 a1 a2 h0 h1 h2)

end Go.Proofs.YtdecgihkgpgejaaDoor
