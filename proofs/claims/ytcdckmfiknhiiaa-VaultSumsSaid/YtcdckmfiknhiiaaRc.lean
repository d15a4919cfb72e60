/- The statement VaultSums, proved: for every input that can be read the law returns true, and the input reads as it did. Conditions: none. -/
import Derived.Test.YtcdckmfiknhiiaaDo
import Derived.Test.YtcdckmfiknhiiaaEc
namespace Go.Proofs.Ytcdckmfiknhiiaa

theorem u8_range {n : Int} (h : (Lit.int .u8 n).wf = true) : 0 ≤ n ∧ n ≤ 255 := by
  have h' : (decide (IntKind.u8.min ≤ n) && decide (n ≤ IntKind.u8.max)) = true := h
  simp only [Bool.and_eq_true, decide_eq_true_eq] at h'
  exact h'

theorem vaultSums_holds : Rows.VaultSumsSaid := Am.holds_l35_VaultSums (fun _ _ h0 h1 => P.VaultSums_eq h0.1 (u8_range h1))

end Go.Proofs.Ytcdckmfiknhiiaa
