/- The statement SolveSums, proved: for every input that can be read the law returns true, and the input reads as it did. Conditions: none. -/
import Derived.Test.YtchndpjlijbplaaMg
namespace Go.Proofs.Ytchndpjlijbplaa
open P
theorem solveSums_holds : Rows.SolveSumsSaid := Am.vt (fun a0 a1 h0 h1 => Hv a0 a1 (by have := h0.2.1; omega) (by have := h1.1; omega))
end Go.Proofs.Ytchndpjlijbplaa
