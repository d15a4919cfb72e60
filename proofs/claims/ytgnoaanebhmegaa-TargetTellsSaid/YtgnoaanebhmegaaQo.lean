/- The statement TargetTells, proved: for every input that can be read the law returns true, and the input reads as it did. Conditions: none. -/
import Derived.Test.YtgnoaanebhmegaaIf
namespace Go.Proofs.Ytgnoaanebhmegaa
open P
theorem targetTells_holds : Rows.TargetTellsSaid := Am.ov (fun a0 a1 a2 _ _ _ => wa a0 a1 a2)
end Go.Proofs.Ytgnoaanebhmegaa
