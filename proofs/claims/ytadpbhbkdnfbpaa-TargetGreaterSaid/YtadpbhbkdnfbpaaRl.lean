/- The statement TargetGreater, proved: for every input that can be read the law returns true, and the input reads as it did. Conditions: none. -/
import Derived.Test.YtadpbhbkdnfbpaaDo
import Derived.Test.YtadpbhbkdnfbpaaKh
namespace Go.Proofs.Ytadpbhbkdnfbpaa
open P

theorem okt_Fit {f : TFrac} (h : Am.ok_TFrac f) : FitF f := by
  obtain ⟨⟨_, h1, _⟩, ⟨_, h2, _⟩⟩ := h
  unfold FitF Lbig
  omega
theorem targetGreater_holds : Rows.TargetGreaterSaid := Am.holds_l47_TargetGreater (fun a0 a1 a2 h0 h1 h2 => TargetGreater_eq a0 a1 a2 (fun f hf => okt_Fit (h0.2 f hf)) (okt_Fit h1) (okt_Fit h2))

end Go.Proofs.Ytadpbhbkdnfbpaa
