/- The statement VaultKeeps, proved: for every input that can be read the law returns true, and the input reads as it did. Conditions: none. -/
import Derived.Test.YtcdckmfiknhiiaaDo
import Derived.Test.YtcdckmfiknhiiaaEb
namespace Go.Proofs.Ytcdckmfiknhiiaa

theorem vaultKeeps_holds : Rows.VaultKeepsSaid := Am.holds_l35_VaultKeeps (fun _ a1 a2 a3 a4 a5 h0 _ _ _ _ _ => P.VaultKeeps_eq a1 a2 a3 a4 a5 h0.1)

end Go.Proofs.Ytcdckmfiknhiiaa
