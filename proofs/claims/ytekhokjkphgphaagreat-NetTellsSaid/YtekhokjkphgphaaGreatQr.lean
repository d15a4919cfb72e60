/- The statement NetTells, proved: for every input that can be read the law returns true, and the input reads as it did. Conditions: none. -/
import Derived.Test.YtekhokjkphgphaaGreatLh
namespace Go.Proofs.YtekhokjkphgphaaGreat
open P
theorem netTells_holds : Rows.NetTellsSaid := Am.zc (fun a0 a1 a2 _ h1 _ => LW a0 a1 a2 (by have := h1.2.1; omega))
end Go.Proofs.YtekhokjkphgphaaGreat
