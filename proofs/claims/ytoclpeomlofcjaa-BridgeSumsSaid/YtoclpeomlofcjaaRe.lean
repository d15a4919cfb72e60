/- The statement BridgeSums, proved: for every input that can be read the law returns true, and the input reads as it did. Conditions: none. -/
import Derived.Test.YtoclpeomlofcjaaDo
import Derived.Test.YtoclpeomlofcjaaHf
namespace Go.Proofs.Ytoclpeomlofcjaa
open P

theorem okt_Fit {f : TFrac} (h : Am.ok_TFrac f) : FitF f := by
  obtain ⟨⟨_, h1, _⟩, ⟨_, h2, _⟩⟩ := h
  unfold FitF Lbig
  omega
theorem bridgeSums_holds : Rows.BridgeSumsSaid := Am.holds_l44_BridgeSums (fun a0 a1 a2 a3 a4 h0 h1 h2 h3 h4 => BridgeSums_eq a0 a1 a2 a3 a4 (by omega) (by omega) (fun f hf => okt_Fit (h0.2 f hf)) (fun f hf => okt_Fit (h1.2 f hf)) (okt_Fit h2) h3 h4)

end Go.Proofs.Ytoclpeomlofcjaa
