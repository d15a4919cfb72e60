/- The statement SolveLinear, proved: for every input that can be read the law returns true, and the input reads as it did. Conditions: none. -/
import Derived.Test.YtchndpjlijbplaaKg
namespace Go.Proofs.Ytchndpjlijbplaa
open P
theorem solveLinear_holds : Rows.SolveLinearSaid := Am.sd (fun a0 a1 a2 a3 h0 h1 h2 _ => AQ a0 a1 a2 a3 (by have := h0.2.1; omega) (by have := h1.1; omega) (by have := h2.1; omega))
end Go.Proofs.Ytchndpjlijbplaa
