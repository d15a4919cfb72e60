/- The statement BridgeFair, proved: for every input that can be read the law returns true, and the input reads as it did. Conditions: none. -/
import Derived.Test.YtoclpeomlofcjaaDo
import Derived.Test.YtoclpeomlofcjaaHi
namespace Go.Proofs.Ytoclpeomlofcjaa
open P

theorem okv_Fit {f : TFrac} (h : Am.ok_TFrac f) : FitF f := by
  obtain ⟨⟨_, h1, _⟩, ⟨_, h2, _⟩⟩ := h
  unfold FitF Lbig
  omega
theorem bridgeFair_holds : Rows.BridgeFairSaid := Am.holds_l44_BridgeFair (fun a0 a1 a2 h0 h1 h2 => BridgeFair_eq a0 a1 a2 (by omega) (fun f hf => okv_Fit (h0.2 f hf)) h1 h2)

end Go.Proofs.Ytoclpeomlofcjaa
