/- The statement BridgeWhole, proved: for every input that can be read the law returns true, and the input reads as it did. Conditions: none. -/
import Derived.Test.YtoclpeomlofcjaaDo
import Derived.Test.YtoclpeomlofcjaaHe
namespace Go.Proofs.Ytoclpeomlofcjaa
open P

theorem ok_Fit {f : TFrac} (h : Am.ok_TFrac f) : FitF f := by
  obtain ⟨⟨_, h1, _⟩, ⟨_, h2, _⟩⟩ := h
  unfold FitF Lbig
  omega
theorem bridgeWhole_holds : Rows.BridgeWholeSaid := Am.holds_l44_BridgeWhole (fun a0 a1 a2 h0 h1 h2 => BridgeWhole_eq a0 a1 a2 (by omega) (by omega) (by omega) (fun f hf => ok_Fit (h0.2 f hf)) (fun f hf => ok_Fit (h1.2 f hf)) (fun f hf => ok_Fit (h2.2 f hf)))

end Go.Proofs.Ytoclpeomlofcjaa
