/- The statement SolveFar, proved: for every input that can be read the law returns true, and the input reads as it did. Conditions: none. -/
import Derived.Test.YtchndpjlijbplaaLg
namespace Go.Proofs.Ytchndpjlijbplaa
open P
theorem solveFar_holds : Rows.SolveFarSaid := Am.wH (fun a0 a1 a2 a3 h0 h1 h2 _ => JE a0 a1 a2 a3 (by have := h0.2.1; omega) (by have := h1.1; omega) h2)
end Go.Proofs.Ytchndpjlijbplaa
