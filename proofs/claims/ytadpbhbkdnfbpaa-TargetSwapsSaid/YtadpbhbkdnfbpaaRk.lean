/- The statement TargetSwaps, proved: for every input that can be read the law returns true, and the input reads as it did. Conditions: none. -/
import Derived.Test.YtadpbhbkdnfbpaaDo
import Derived.Test.YtadpbhbkdnfbpaaKg
namespace Go.Proofs.Ytadpbhbkdnfbpaa
open P

theorem okt_Fit {f : TFrac} (h : Am.ok_TFrac f) : FitF f := by
  obtain ⟨⟨_, h1, _⟩, ⟨_, h2, _⟩⟩ := h
  unfold FitF Lbig
  omega
theorem targetSwaps_holds : Rows.TargetSwapsSaid := Am.holds_l47_TargetSwaps (fun a0 a1 a2 a3 h0 h1 h2 h3 => TargetSwaps_eq a0 a1 a2 a3 (fun f hf => okt_Fit (h0.2 f hf)) (okt_Fit h1) h2 h3)

end Go.Proofs.Ytadpbhbkdnfbpaa
