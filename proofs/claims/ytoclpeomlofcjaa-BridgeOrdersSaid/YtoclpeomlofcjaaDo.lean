/- The laws as rows: arguments opened (written by wip/dec.py). -/
import Derived.Test.YtoclpeomlofcjaaBi
import Derived.Test.YtoclpeomlofcjaaDmd
import Derived.Test.YtoclpeomlofcjaaRows
namespace Go.Proofs.Ytoclpeomlofcjaa.Am
open Go.ChangeShapes Go.WideShapes Go.ChangeAt Go.RowKit Go.Proofs.Ytoclpeomlofcjaa.P
set_option maxRecDepth 100000
set_option linter.unusedVariables false

theorem Try.own : ownKnob Try.prog.godebug = none := by kernel_rfl
theorem Try.laidOut : laidOutB Try.prog = true := by kernel_rfl

theorem op_3 (n : Nat) : OpE tab (n + 1) 3 (eI .i64) (fun x => (Lit.int .i64 x).wf = true) := opI tab_3 rfl rfl

theorem op_30 (n : Nat) : OpE tab (n + 2) 30 (eSl (eI .i64)) (fun x => (x.length * 8 ≤ 140737488351232 ∧ ∀ y ∈ x, (Lit.int .i64 y).wf = true)) := opSl tab_30 rfl rfl (by rw [tab_3]; rfl) (op_3 n)

def ok_TBig (x : TBig) : Prop := (Lit.int .i64 x.f_Sign).wf = true ∧ ((x.f_Digits.length * 8 ≤ 140737488351232 ∧ ∀ y ∈ x.f_Digits, (Lit.int .i64 y).wf = true))

theorem op_32 (n : Nat) : OpE tab (n + 3) 32 eTBig (fun x => ok_TBig x) := opS (g := fun y => TBig.mk y.1 y.2) tab_32 rfl rfl (fun _ => rfl) (opFC (op_3 (n + 1)) rfl (opF1 (op_30 n)))

def ok_TFrac (x : TFrac) : Prop := ok_TBig x.f_P ∧ (ok_TBig x.f_Q)

theorem op_34 (n : Nat) : OpE tab (n + 4) 34 eTFrac (fun x => ok_TFrac x) := opS (g := fun y => TFrac.mk y.1 y.2) tab_34 rfl rfl (fun _ => rfl) (opFC (op_32 n) rfl (opF1 (op_32 n)))

theorem op_22 (n : Nat) : OpE tab (n + 5) 22 (eSl eTFrac) (fun x => (x.length * 64 ≤ 140737488351232 ∧ ∀ y ∈ x, ok_TFrac y)) := opSl tab_22 rfl rfl (by rw [tab_34]; rfl) (op_34 n)

theorem opens_l44_BridgeWhole : OpAs tab 6 [22, 22, 22] (asC (aSl eTFrac) (asC (aSl eTFrac) (as1 (aSl eTFrac)))) (fun x => (x.1.length * 64 ≤ 140737488351232 ∧ ∀ y ∈ x.1, ok_TFrac y) ∧ ((x.2.1.length * 64 ≤ 140737488351232 ∧ ∀ y ∈ x.2.1, ok_TFrac y) ∧ ((x.2.2.length * 64 ≤ 140737488351232 ∧ ∀ y ∈ x.2.2, ok_TFrac y)))) := (oasC (oaSl tab_22 rfl (op_22 1)) (oasC (oaSl tab_22 rfl (op_22 1)) (oas1 (oaSl tab_22 rfl (op_22 1)))))

theorem op_5 (n : Nat) : OpE tab (n + 1) 5 (eI .u8) (fun x => (Lit.int .u8 x).wf = true) := opI tab_5 rfl rfl

theorem opens_l44_BridgeSums : OpAs tab 6 [22, 22, 34, 5, 5] (asC (aSl eTFrac) (asC (aSl eTFrac) (asC (aAgg eTFrac) (asC (aI .u8) (as1 (aI .u8)))))) (fun x => (x.1.length * 64 ≤ 140737488351232 ∧ ∀ y ∈ x.1, ok_TFrac y) ∧ ((x.2.1.length * 64 ≤ 140737488351232 ∧ ∀ y ∈ x.2.1, ok_TFrac y) ∧ (ok_TFrac x.2.2.1 ∧ ((Lit.int .u8 x.2.2.2.1).wf = true ∧ ((Lit.int .u8 x.2.2.2.2).wf = true))))) := (oasC (oaSl tab_22 rfl (op_22 1)) (oasC (oaSl tab_22 rfl (op_22 1)) (oasC (oaS tab_34 rfl (op_34 2)) (oasC (oaI tab_5 rfl) (oas1 (oaI tab_5 rfl))))))

theorem opens_l44_BridgeLoses : OpAs tab 6 [22, 5, 5] (asC (aSl eTFrac) (asC (aI .u8) (as1 (aI .u8)))) (fun x => (x.1.length * 64 ≤ 140737488351232 ∧ ∀ y ∈ x.1, ok_TFrac y) ∧ ((Lit.int .u8 x.2.1).wf = true ∧ ((Lit.int .u8 x.2.2).wf = true))) := (oasC (oaSl tab_22 rfl (op_22 1)) (oasC (oaI tab_5 rfl) (oas1 (oaI tab_5 rfl))))

theorem opens_l44_BridgeOrders : OpAs tab 6 [22, 5] (asC (aSl eTFrac) (as1 (aI .u8))) (fun x => (x.1.length * 64 ≤ 140737488351232 ∧ ∀ y ∈ x.1, ok_TFrac y) ∧ ((Lit.int .u8 x.2).wf = true)) := (oasC (oaSl tab_22 rfl (op_22 1)) (oas1 (oaI tab_5 rfl)))

theorem opens_l44_BridgeFair : OpAs tab 6 [22, 5, 5] (asC (aSl eTFrac) (asC (aI .u8) (as1 (aI .u8)))) (fun x => (x.1.length * 64 ≤ 140737488351232 ∧ ∀ y ∈ x.1, ok_TFrac y) ∧ ((Lit.int .u8 x.2.1).wf = true ∧ ((Lit.int .u8 x.2.2).wf = true))) := (oasC (oaSl tab_22 rfl (op_22 1)) (oasC (oaI tab_5 rfl) (oas1 (oaI tab_5 rfl))))

theorem lifted_l44_BridgeWhole (law : ∀ (a0 : (List TFrac)) (a1 : (List TFrac)) (a2 : (List TFrac)), ((a0.length * 64 ≤ 140737488351232 ∧ ∀ y ∈ a0, ok_TFrac y)) → ((a1.length * 64 ≤ 140737488351232 ∧ ∀ y ∈ a1, ok_TFrac y)) → ((a2.length * 64 ≤ 140737488351232 ∧ ∀ y ∈ a2, ok_TFrac y)) → P.l44_BridgeWhole a0 a1 a2 = some true) (os : Os) (started : os.Started) (H : Type) (enc : TypeId × Value → H) :
    ReturnsInHanded {} Try.checked os 3 .any (Rows.bridgeWholeSpec.pre6 enc Try.prog Try.f3 Rows.bridgeWholeRow.domain false) (Rows.bridgeWholeSpec.post enc Try.prog Try.f3 false true false false) := by
  refine row_lifted (C := Try.checked) (T := tab) (tb := 4) (n := 6) tok Try.own started (by kernel_rfl) Try.func3
    (ChangeSpec.witness6 (enc := enc) (C := Try.checked) false ⟨#[], #[.slice none 0 0, .slice none 0 0, .slice none 0 0], []⟩ 8 (by kernel_rfl) (by kernel_rfl) (by kernel_rfl) (by kernel_rfl)) Try.laidOut (by kernel_rfl) rfl (by kernel_rfl) rfl (fun ds hds => ?_) (fun ar hl hs => ?_)
  · rw [Try.params3] at hds
    match ds, hds with
    | [d0, d1, d2], _ => exact ⟨rfl, rfl, rfl⟩
  · rw [Try.params3] at hl hs
    exact law_of opens_l44_BridgeWhole ok_l44_BridgeWhole (fun x hx => law x.1 x.2.1 x.2.2 hx.1 hx.2.1 hx.2.2) ar hl hs

theorem holds_l44_BridgeWhole (law : ∀ (a0 : (List TFrac)) (a1 : (List TFrac)) (a2 : (List TFrac)), ((a0.length * 64 ≤ 140737488351232 ∧ ∀ y ∈ a0, ok_TFrac y)) → ((a1.length * 64 ≤ 140737488351232 ∧ ∀ y ∈ a1, ok_TFrac y)) → ((a2.length * 64 ≤ 140737488351232 ∧ ∀ y ∈ a2, ok_TFrac y)) → P.l44_BridgeWhole a0 a1 a2 = some true) : Rows.BridgeWholeSaid :=
  OpenClaim.holds_of_wide 3 Try.f3 rfl rfl rfl rfl rfl rfl rfl ⟨rfl, rfl, rfl, rfl, rfl⟩ rfl rfl rfl rfl rfl (by kernel_rfl) Try.func3 (by kernel_rfl)
    (of_decide_eq_true (by kernel_rfl)) (by unfold Func.isWrapper; first | (rw [if_pos (by decide +kernel)]; kernel_rfl) | (rw [if_neg (by decide +kernel)]; exact ⟨rfl, rfl⟩))
    (fun os started H enc _ => lifted_l44_BridgeWhole law os started H enc)

theorem lifted_l44_BridgeSums (law : ∀ (a0 : (List TFrac)) (a1 : (List TFrac)) (a2 : TFrac) (a3 : Int) (a4 : Int), ((a0.length * 64 ≤ 140737488351232 ∧ ∀ y ∈ a0, ok_TFrac y)) → ((a1.length * 64 ≤ 140737488351232 ∧ ∀ y ∈ a1, ok_TFrac y)) → (ok_TFrac a2) → ((Lit.int .u8 a3).wf = true) → ((Lit.int .u8 a4).wf = true) → P.l44_BridgeSums a0 a1 a2 a3 a4 = some true) (os : Os) (started : os.Started) (H : Type) (enc : TypeId × Value → H) :
    ReturnsInHanded {} Try.checked os 4 .any (Rows.bridgeSumsSpec.pre6 enc Try.prog Try.f4 Rows.bridgeSumsRow.domain false) (Rows.bridgeSumsSpec.post enc Try.prog Try.f4 false true false false) := by
  refine row_lifted (C := Try.checked) (T := tab) (tb := 4) (n := 6) tok Try.own started (by kernel_rfl) Try.func4
    (ChangeSpec.witness6 (enc := enc) (C := Try.checked) false ⟨#[], #[.slice none 0 0, .slice none 0 0, .agg #[.int .i64 0, .slice none 0 0, .int .i64 0, .slice none 0 0], .int .u8 0, .int .u8 0], []⟩ 8 (by kernel_rfl) (by kernel_rfl) (by kernel_rfl) (by kernel_rfl)) Try.laidOut (by kernel_rfl) rfl (by kernel_rfl) rfl (fun ds hds => ?_) (fun ar hl hs => ?_)
  · rw [Try.params4] at hds
    match ds, hds with
    | [d0, d1, d2, d3, d4], _ => exact ⟨rfl, rfl, rfl⟩
  · rw [Try.params4] at hl hs
    exact law_of opens_l44_BridgeSums ok_l44_BridgeSums (fun x hx => law x.1 x.2.1 x.2.2.1 x.2.2.2.1 x.2.2.2.2 hx.1 hx.2.1 hx.2.2.1 hx.2.2.2.1 hx.2.2.2.2) ar hl hs

theorem holds_l44_BridgeSums (law : ∀ (a0 : (List TFrac)) (a1 : (List TFrac)) (a2 : TFrac) (a3 : Int) (a4 : Int), ((a0.length * 64 ≤ 140737488351232 ∧ ∀ y ∈ a0, ok_TFrac y)) → ((a1.length * 64 ≤ 140737488351232 ∧ ∀ y ∈ a1, ok_TFrac y)) → (ok_TFrac a2) → ((Lit.int .u8 a3).wf = true) → ((Lit.int .u8 a4).wf = true) → P.l44_BridgeSums a0 a1 a2 a3 a4 = some true) : Rows.BridgeSumsSaid :=
  OpenClaim.holds_of_wide 4 Try.f4 rfl rfl rfl rfl rfl rfl rfl ⟨rfl, rfl, rfl, rfl, rfl⟩ rfl rfl rfl rfl rfl (by kernel_rfl) Try.func4 (by kernel_rfl)
    (of_decide_eq_true (by kernel_rfl)) (by unfold Func.isWrapper; first | (rw [if_pos (by decide +kernel)]; kernel_rfl) | (rw [if_neg (by decide +kernel)]; exact ⟨rfl, rfl⟩))
    (fun os started H enc _ => lifted_l44_BridgeSums law os started H enc)

theorem lifted_l44_BridgeLoses (law : ∀ (a0 : (List TFrac)) (a1 : Int) (a2 : Int), ((a0.length * 64 ≤ 140737488351232 ∧ ∀ y ∈ a0, ok_TFrac y)) → ((Lit.int .u8 a1).wf = true) → ((Lit.int .u8 a2).wf = true) → P.l44_BridgeLoses a0 a1 a2 = some true) (os : Os) (started : os.Started) (H : Type) (enc : TypeId × Value → H) :
    ReturnsInHanded {} Try.checked os 5 .any (Rows.bridgeLosesSpec.pre6 enc Try.prog Try.f5 Rows.bridgeLosesRow.domain false) (Rows.bridgeLosesSpec.post enc Try.prog Try.f5 false true false false) := by
  refine row_lifted (C := Try.checked) (T := tab) (tb := 4) (n := 6) tok Try.own started (by kernel_rfl) Try.func5
    (ChangeSpec.witness6 (enc := enc) (C := Try.checked) false ⟨#[], #[.slice none 0 0, .int .u8 0, .int .u8 0], []⟩ 8 (by kernel_rfl) (by kernel_rfl) (by kernel_rfl) (by kernel_rfl)) Try.laidOut (by kernel_rfl) rfl (by kernel_rfl) rfl (fun ds hds => ?_) (fun ar hl hs => ?_)
  · rw [Try.params5] at hds
    match ds, hds with
    | [d0, d1, d2], _ => exact ⟨rfl, rfl, rfl⟩
  · rw [Try.params5] at hl hs
    exact law_of opens_l44_BridgeLoses ok_l44_BridgeLoses (fun x hx => law x.1 x.2.1 x.2.2 hx.1 hx.2.1 hx.2.2) ar hl hs

theorem holds_l44_BridgeLoses (law : ∀ (a0 : (List TFrac)) (a1 : Int) (a2 : Int), ((a0.length * 64 ≤ 140737488351232 ∧ ∀ y ∈ a0, ok_TFrac y)) → ((Lit.int .u8 a1).wf = true) → ((Lit.int .u8 a2).wf = true) → P.l44_BridgeLoses a0 a1 a2 = some true) : Rows.BridgeLosesSaid :=
  OpenClaim.holds_of_wide 5 Try.f5 rfl rfl rfl rfl rfl rfl rfl ⟨rfl, rfl, rfl, rfl, rfl⟩ rfl rfl rfl rfl rfl (by kernel_rfl) Try.func5 (by kernel_rfl)
    (of_decide_eq_true (by kernel_rfl)) (by unfold Func.isWrapper; first | (rw [if_pos (by decide +kernel)]; kernel_rfl) | (rw [if_neg (by decide +kernel)]; exact ⟨rfl, rfl⟩))
    (fun os started H enc _ => lifted_l44_BridgeLoses law os started H enc)

theorem lifted_l44_BridgeOrders (law : ∀ (a0 : (List TFrac)) (a1 : Int), ((a0.length * 64 ≤ 140737488351232 ∧ ∀ y ∈ a0, ok_TFrac y)) → ((Lit.int .u8 a1).wf = true) → P.l44_BridgeOrders a0 a1 = some true) (os : Os) (started : os.Started) (H : Type) (enc : TypeId × Value → H) :
    ReturnsInHanded {} Try.checked os 6 .any (Rows.bridgeOrdersSpec.pre6 enc Try.prog Try.f6 Rows.bridgeOrdersRow.domain false) (Rows.bridgeOrdersSpec.post enc Try.prog Try.f6 false true false false) := by
  refine row_lifted (C := Try.checked) (T := tab) (tb := 4) (n := 6) tok Try.own started (by kernel_rfl) Try.func6
    (ChangeSpec.witness6 (enc := enc) (C := Try.checked) false ⟨#[], #[.slice none 0 0, .int .u8 0], []⟩ 8 (by kernel_rfl) (by kernel_rfl) (by kernel_rfl) (by kernel_rfl)) Try.laidOut (by kernel_rfl) rfl (by kernel_rfl) rfl (fun ds hds => ?_) (fun ar hl hs => ?_)
  · rw [Try.params6] at hds
    match ds, hds with
    | [d0, d1], _ => exact ⟨rfl, rfl, rfl⟩
  · rw [Try.params6] at hl hs
    exact law_of opens_l44_BridgeOrders ok_l44_BridgeOrders (fun x hx => law x.1 x.2 hx.1 hx.2) ar hl hs

theorem holds_l44_BridgeOrders (law : ∀ (a0 : (List TFrac)) (a1 : Int), ((a0.length * 64 ≤ 140737488351232 ∧ ∀ y ∈ a0, ok_TFrac y)) → ((Lit.int .u8 a1).wf = true) → P.l44_BridgeOrders a0 a1 = some true) : Rows.BridgeOrdersSaid :=
  OpenClaim.holds_of_wide 6 Try.f6 rfl rfl rfl rfl rfl rfl rfl ⟨rfl, rfl, rfl, rfl, rfl⟩ rfl rfl rfl rfl rfl (by kernel_rfl) Try.func6 (by kernel_rfl)
    (of_decide_eq_true (by kernel_rfl)) (by unfold Func.isWrapper; first | (rw [if_pos (by decide +kernel)]; kernel_rfl) | (rw [if_neg (by decide +kernel)]; exact ⟨rfl, rfl⟩))
    (fun os started H enc _ => lifted_l44_BridgeOrders law os started H enc)

theorem lifted_l44_BridgeFair (law : ∀ (a0 : (List TFrac)) (a1 : Int) (a2 : Int), ((a0.length * 64 ≤ 140737488351232 ∧ ∀ y ∈ a0, ok_TFrac y)) → ((Lit.int .u8 a1).wf = true) → ((Lit.int .u8 a2).wf = true) → P.l44_BridgeFair a0 a1 a2 = some true) (os : Os) (started : os.Started) (H : Type) (enc : TypeId × Value → H) :
    ReturnsInHanded {} Try.checked os 7 .any (Rows.bridgeFairSpec.pre6 enc Try.prog Try.f7 Rows.bridgeFairRow.domain false) (Rows.bridgeFairSpec.post enc Try.prog Try.f7 false true false false) := by
  refine row_lifted (C := Try.checked) (T := tab) (tb := 4) (n := 6) tok Try.own started (by kernel_rfl) Try.func7
    (ChangeSpec.witness6 (enc := enc) (C := Try.checked) false ⟨#[], #[.slice none 0 0, .int .u8 0, .int .u8 0], []⟩ 8 (by kernel_rfl) (by kernel_rfl) (by kernel_rfl) (by kernel_rfl)) Try.laidOut (by kernel_rfl) rfl (by kernel_rfl) rfl (fun ds hds => ?_) (fun ar hl hs => ?_)
  · rw [Try.params7] at hds
    match ds, hds with
    | [d0, d1, d2], _ => exact ⟨rfl, rfl, rfl⟩
  · rw [Try.params7] at hl hs
    exact law_of opens_l44_BridgeFair ok_l44_BridgeFair (fun x hx => law x.1 x.2.1 x.2.2 hx.1 hx.2.1 hx.2.2) ar hl hs

theorem holds_l44_BridgeFair (law : ∀ (a0 : (List TFrac)) (a1 : Int) (a2 : Int), ((a0.length * 64 ≤ 140737488351232 ∧ ∀ y ∈ a0, ok_TFrac y)) → ((Lit.int .u8 a1).wf = true) → ((Lit.int .u8 a2).wf = true) → P.l44_BridgeFair a0 a1 a2 = some true) : Rows.BridgeFairSaid :=
  OpenClaim.holds_of_wide 7 Try.f7 rfl rfl rfl rfl rfl rfl rfl ⟨rfl, rfl, rfl, rfl, rfl⟩ rfl rfl rfl rfl rfl (by kernel_rfl) Try.func7 (by kernel_rfl)
    (of_decide_eq_true (by kernel_rfl)) (by unfold Func.isWrapper; first | (rw [if_pos (by decide +kernel)]; kernel_rfl) | (rw [if_neg (by decide +kernel)]; exact ⟨rfl, rfl⟩))
    (fun os started H enc _ => lifted_l44_BridgeFair law os started H enc)
end Go.Proofs.Ytoclpeomlofcjaa.Am
