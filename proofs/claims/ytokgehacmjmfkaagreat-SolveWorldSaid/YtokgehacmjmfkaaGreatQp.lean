/- The statement SolveWorld, proved: for every input that can be read the law returns true, and the input reads as it did. Conditions: none. -/
import Derived.Test.YtokgehacmjmfkaaGreatIh
namespace Go.Proofs.YtokgehacmjmfkaaGreat
open P
theorem solveWorld_holds : Rows.SolveWorldSaid := Am.xr (fun a0 a1 _ h1 => HY a0 a1 (by have := h1.1; omega))
end Go.Proofs.YtokgehacmjmfkaaGreat
