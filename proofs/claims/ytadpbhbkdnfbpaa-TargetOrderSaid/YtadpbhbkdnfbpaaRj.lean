/- The statement TargetOrder, proved: for every input that can be read the law returns true, and the input reads as it did. Conditions: none. -/
import Derived.Test.YtadpbhbkdnfbpaaDo
import Derived.Test.YtadpbhbkdnfbpaaKf
namespace Go.Proofs.Ytadpbhbkdnfbpaa
open P

theorem okt_Fit {f : TFrac} (h : Am.ok_TFrac f) : FitF f := by
  obtain ⟨⟨_, h1, _⟩, ⟨_, h2, _⟩⟩ := h
  unfold FitF Lbig
  omega
theorem targetOrder_holds : Rows.TargetOrderSaid := Am.holds_l47_TargetOrder (fun a0 a1 h0 h1 => TargetOrder_eq a0 a1 (fun f hf => okt_Fit (h0.2 f hf)) (okt_Fit h1))

end Go.Proofs.Ytadpbhbkdnfbpaa
