/- The statement NetTrapped, proved: for every input that can be read the law returns true, and the input reads as it did. Conditions: none. -/
import Derived.Test.YtmcncjgbkobjnaaGreatJg
namespace Go.Proofs.YtmcncjgbkobjnaaGreat
open P
theorem netTrapped_holds : Rows.NetTrappedSaid := Am.tu (fun a0 a1 h0 _ => Ff a0 a1 (by have := h0.2.1; omega))
end Go.Proofs.YtmcncjgbkobjnaaGreat
