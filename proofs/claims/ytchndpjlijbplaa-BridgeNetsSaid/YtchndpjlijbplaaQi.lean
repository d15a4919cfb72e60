/- The statement BridgeNets, proved: for every input that can be read the law returns true, and the input reads as it did. Conditions: none. -/
import Derived.Test.YtchndpjlijbplaaIg
namespace Go.Proofs.Ytchndpjlijbplaa
open P
theorem bridgeNets_holds : Rows.BridgeNetsSaid := Am.uA (fun a0 a1 a2 a3 a4 h0 h1 h2 h3 h4 => Fp a0 a1 a2 a3 a4 (by have := h0.2.1; omega) (by have := h1.1; omega) h2 h3.2 (by have := h4.1; omega))
end Go.Proofs.Ytchndpjlijbplaa
