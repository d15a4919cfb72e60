/- The statement BridgeOrders, proved: for every input that can be read the law returns true, and the input reads as it did. Conditions: none. -/
import Derived.Test.YtoclpeomlofcjaaDo
import Derived.Test.YtoclpeomlofcjaaHk
namespace Go.Proofs.Ytoclpeomlofcjaa
open P

theorem okw_Fit {f : TFrac} (h : Am.ok_TFrac f) : FitF f := by
  obtain ⟨⟨_, h1, _⟩, ⟨_, h2, _⟩⟩ := h
  unfold FitF Lbig
  omega
theorem bridgeOrders_holds : Rows.BridgeOrdersSaid := Am.holds_l44_BridgeOrders (fun a0 a1 h0 h1 => BridgeOrders_eq a0 a1 (by omega) (fun f hf => okw_Fit (h0.2 f hf)) h1)

end Go.Proofs.Ytoclpeomlofcjaa
