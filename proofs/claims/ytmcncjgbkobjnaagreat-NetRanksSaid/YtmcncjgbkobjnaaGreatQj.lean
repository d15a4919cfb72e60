/- The statement NetRanks, proved: for every input that can be read the law returns true, and the input reads as it did. Conditions: none. -/
import Derived.Test.YtmcncjgbkobjnaaGreatIg
namespace Go.Proofs.YtmcncjgbkobjnaaGreat
open P
theorem netRanks_holds : Rows.NetRanksSaid := Am.wy (fun a0 h0 => KH a0 (by have := h0.2.1; omega))
end Go.Proofs.YtmcncjgbkobjnaaGreat
