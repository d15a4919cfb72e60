/- The statement SolveOne, proved: for every input that can be read the law returns true, and the input reads as it did. Conditions: none. -/
import Derived.Test.YtchndpjlijbplaaJg
namespace Go.Proofs.Ytchndpjlijbplaa
open P
theorem solveOne_holds : Rows.SolveOneSaid := Am.xa (fun a0 a1 a2 h0 h1 h2 => J7 a0 a1 a2 (by have := h0.2.1; omega) (by have := h1.1; omega) (by have := h2.1; omega))
end Go.Proofs.Ytchndpjlijbplaa
