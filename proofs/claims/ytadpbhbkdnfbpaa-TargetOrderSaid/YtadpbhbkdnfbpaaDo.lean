/- The laws as rows: arguments opened (written by wip/dec.py). -/
import Derived.Test.YtadpbhbkdnfbpaaBi
import Derived.Test.YtadpbhbkdnfbpaaDmd
import Derived.Test.YtadpbhbkdnfbpaaRows
namespace Go.Proofs.Ytadpbhbkdnfbpaa.Am
open Go.ChangeShapes Go.WideShapes Go.ChangeAt Go.RowKit Go.Proofs.Ytadpbhbkdnfbpaa.P
set_option maxRecDepth 100000
set_option linter.unusedVariables false

theorem Try.own : ownKnob Try.prog.godebug = none := by kernel_rfl
theorem Try.laidOut : laidOutB Try.prog = true := by kernel_rfl

theorem op_3 (n : Nat) : OpE tab (n + 1) 3 (eI .i64) (fun x => (Lit.int .i64 x).wf = true) := opI tab_3 rfl rfl

theorem op_23 (n : Nat) : OpE tab (n + 2) 23 (eSl (eI .i64)) (fun x => (x.length * 8 ≤ 140737488351232 ∧ ∀ y ∈ x, (Lit.int .i64 y).wf = true)) := opSl tab_23 rfl rfl (by rw [tab_3]; rfl) (op_3 n)

def ok_TBig (x : TBig) : Prop := (Lit.int .i64 x.f_Sign).wf = true ∧ ((x.f_Digits.length * 8 ≤ 140737488351232 ∧ ∀ y ∈ x.f_Digits, (Lit.int .i64 y).wf = true))

theorem op_25 (n : Nat) : OpE tab (n + 3) 25 eTBig (fun x => ok_TBig x) := opS (g := fun y => TBig.mk y.1 y.2) tab_25 rfl rfl (fun _ => rfl) (opFC (op_3 (n + 1)) rfl (opF1 (op_23 n)))

def ok_TFrac (x : TFrac) : Prop := ok_TBig x.f_P ∧ (ok_TBig x.f_Q)

theorem op_27 (n : Nat) : OpE tab (n + 4) 27 eTFrac (fun x => ok_TFrac x) := opS (g := fun y => TFrac.mk y.1 y.2) tab_27 rfl rfl (fun _ => rfl) (opFC (op_25 n) rfl (opF1 (op_25 n)))

theorem op_22 (n : Nat) : OpE tab (n + 5) 22 (eSl eTFrac) (fun x => (x.length * 64 ≤ 140737488351232 ∧ ∀ y ∈ x, ok_TFrac y)) := opSl tab_22 rfl rfl (by rw [tab_27]; rfl) (op_27 n)

theorem op_5 (n : Nat) : OpE tab (n + 1) 5 (eI .u8) (fun x => (Lit.int .u8 x).wf = true) := opI tab_5 rfl rfl

theorem opens_l47_TargetFewest : OpAs tab 6 [22, 27, 5] (asC (aSl eTFrac) (asC (aAgg eTFrac) (as1 (aI .u8)))) (fun x => (x.1.length * 64 ≤ 140737488351232 ∧ ∀ y ∈ x.1, ok_TFrac y) ∧ (ok_TFrac x.2.1 ∧ ((Lit.int .u8 x.2.2).wf = true))) := (oasC (oaSl tab_22 rfl (op_22 1)) (oasC (oaS tab_27 rfl (op_27 2)) (oas1 (oaI tab_5 rfl))))

theorem opens_l47_TargetOrder : OpAs tab 6 [22, 27] (asC (aSl eTFrac) (as1 (aAgg eTFrac))) (fun x => (x.1.length * 64 ≤ 140737488351232 ∧ ∀ y ∈ x.1, ok_TFrac y) ∧ (ok_TFrac x.2)) := (oasC (oaSl tab_22 rfl (op_22 1)) (oas1 (oaS tab_27 rfl (op_27 2))))

theorem opens_l47_TargetSwaps : OpAs tab 6 [22, 27, 5, 5] (asC (aSl eTFrac) (asC (aAgg eTFrac) (asC (aI .u8) (as1 (aI .u8))))) (fun x => (x.1.length * 64 ≤ 140737488351232 ∧ ∀ y ∈ x.1, ok_TFrac y) ∧ (ok_TFrac x.2.1 ∧ ((Lit.int .u8 x.2.2.1).wf = true ∧ ((Lit.int .u8 x.2.2.2).wf = true)))) := (oasC (oaSl tab_22 rfl (op_22 1)) (oasC (oaS tab_27 rfl (op_27 2)) (oasC (oaI tab_5 rfl) (oas1 (oaI tab_5 rfl)))))

theorem opens_l47_TargetGreater : OpAs tab 6 [22, 27, 27] (asC (aSl eTFrac) (asC (aAgg eTFrac) (as1 (aAgg eTFrac)))) (fun x => (x.1.length * 64 ≤ 140737488351232 ∧ ∀ y ∈ x.1, ok_TFrac y) ∧ (ok_TFrac x.2.1 ∧ (ok_TFrac x.2.2))) := (oasC (oaSl tab_22 rfl (op_22 1)) (oasC (oaS tab_27 rfl (op_27 2)) (oas1 (oaS tab_27 rfl (op_27 2)))))

theorem lifted_l47_TargetFewest (law : ∀ (a0 : (List TFrac)) (a1 : TFrac) (a2 : Int), ((a0.length * 64 ≤ 140737488351232 ∧ ∀ y ∈ a0, ok_TFrac y)) → (ok_TFrac a1) → ((Lit.int .u8 a2).wf = true) → P.l47_TargetFewest a0 a1 a2 = some true) (os : Os) (started : os.Started) (H : Type) (enc : TypeId × Value → H) :
    ReturnsInHanded {} Try.checked os 4 .any (Rows.targetFewestSpec.pre6 enc Try.prog Try.f4 Rows.targetFewestRow.domain false) (Rows.targetFewestSpec.post enc Try.prog Try.f4 false true false false) := by
  refine row_lifted (C := Try.checked) (T := tab) (tb := 4) (n := 6) tok Try.own started (by kernel_rfl) Try.func4
    (ChangeSpec.witness6 (enc := enc) (C := Try.checked) false ⟨#[], #[.slice none 0 0, .agg #[.int .i64 0, .slice none 0 0, .int .i64 0, .slice none 0 0], .int .u8 0], []⟩ 8 (by kernel_rfl) (by kernel_rfl) (by kernel_rfl) (by kernel_rfl)) Try.laidOut (by kernel_rfl) rfl (by kernel_rfl) rfl (fun ds hds => ?_) (fun ar hl hs => ?_)
  · rw [Try.params4] at hds
    match ds, hds with
    | [d0, d1, d2], _ => exact ⟨rfl, rfl, rfl⟩
  · rw [Try.params4] at hl hs
    exact law_of opens_l47_TargetFewest ok_l47_TargetFewest (fun x hx => law x.1 x.2.1 x.2.2 hx.1 hx.2.1 hx.2.2) ar hl hs

theorem holds_l47_TargetFewest (law : ∀ (a0 : (List TFrac)) (a1 : TFrac) (a2 : Int), ((a0.length * 64 ≤ 140737488351232 ∧ ∀ y ∈ a0, ok_TFrac y)) → (ok_TFrac a1) → ((Lit.int .u8 a2).wf = true) → P.l47_TargetFewest a0 a1 a2 = some true) : Rows.TargetFewestSaid :=
  OpenClaim.holds_of_wide 4 Try.f4 rfl rfl rfl rfl rfl rfl rfl ⟨rfl, rfl, rfl, rfl, rfl⟩ rfl rfl rfl rfl rfl (by kernel_rfl) Try.func4 (by kernel_rfl)
    (of_decide_eq_true (by kernel_rfl)) (by unfold Func.isWrapper; first | (rw [if_pos (by decide +kernel)]; kernel_rfl) | (rw [if_neg (by decide +kernel)]; exact ⟨rfl, rfl⟩))
    (fun os started H enc _ => lifted_l47_TargetFewest law os started H enc)

theorem lifted_l47_TargetOrder (law : ∀ (a0 : (List TFrac)) (a1 : TFrac), ((a0.length * 64 ≤ 140737488351232 ∧ ∀ y ∈ a0, ok_TFrac y)) → (ok_TFrac a1) → P.l47_TargetOrder a0 a1 = some true) (os : Os) (started : os.Started) (H : Type) (enc : TypeId × Value → H) :
    ReturnsInHanded {} Try.checked os 5 .any (Rows.targetOrderSpec.pre6 enc Try.prog Try.f5 Rows.targetOrderRow.domain false) (Rows.targetOrderSpec.post enc Try.prog Try.f5 false true false false) := by
  refine row_lifted (C := Try.checked) (T := tab) (tb := 4) (n := 6) tok Try.own started (by kernel_rfl) Try.func5
    (ChangeSpec.witness6 (enc := enc) (C := Try.checked) false ⟨#[], #[.slice none 0 0, .agg #[.int .i64 0, .slice none 0 0, .int .i64 0, .slice none 0 0]], []⟩ 8 (by kernel_rfl) (by kernel_rfl) (by kernel_rfl) (by kernel_rfl)) Try.laidOut (by kernel_rfl) rfl (by kernel_rfl) rfl (fun ds hds => ?_) (fun ar hl hs => ?_)
  · rw [Try.params5] at hds
    match ds, hds with
    | [d0, d1], _ => exact ⟨rfl, rfl, rfl⟩
  · rw [Try.params5] at hl hs
    exact law_of opens_l47_TargetOrder ok_l47_TargetOrder (fun x hx => law x.1 x.2 hx.1 hx.2) ar hl hs

theorem holds_l47_TargetOrder (law : ∀ (a0 : (List TFrac)) (a1 : TFrac), ((a0.length * 64 ≤ 140737488351232 ∧ ∀ y ∈ a0, ok_TFrac y)) → (ok_TFrac a1) → P.l47_TargetOrder a0 a1 = some true) : Rows.TargetOrderSaid :=
  OpenClaim.holds_of_wide 5 Try.f5 rfl rfl rfl rfl rfl rfl rfl ⟨rfl, rfl, rfl, rfl, rfl⟩ rfl rfl rfl rfl rfl (by kernel_rfl) Try.func5 (by kernel_rfl)
    (of_decide_eq_true (by kernel_rfl)) (by unfold Func.isWrapper; first | (rw [if_pos (by decide +kernel)]; kernel_rfl) | (rw [if_neg (by decide +kernel)]; exact ⟨rfl, rfl⟩))
    (fun os started H enc _ => lifted_l47_TargetOrder law os started H enc)

theorem lifted_l47_TargetSwaps (law : ∀ (a0 : (List TFrac)) (a1 : TFrac) (a2 : Int) (a3 : Int), ((a0.length * 64 ≤ 140737488351232 ∧ ∀ y ∈ a0, ok_TFrac y)) → (ok_TFrac a1) → ((Lit.int .u8 a2).wf = true) → ((Lit.int .u8 a3).wf = true) → P.l47_TargetSwaps a0 a1 a2 a3 = some true) (os : Os) (started : os.Started) (H : Type) (enc : TypeId × Value → H) :
    ReturnsInHanded {} Try.checked os 6 .any (Rows.targetSwapsSpec.pre6 enc Try.prog Try.f6 Rows.targetSwapsRow.domain false) (Rows.targetSwapsSpec.post enc Try.prog Try.f6 false true false false) := by
  refine row_lifted (C := Try.checked) (T := tab) (tb := 4) (n := 6) tok Try.own started (by kernel_rfl) Try.func6
    (ChangeSpec.witness6 (enc := enc) (C := Try.checked) false ⟨#[], #[.slice none 0 0, .agg #[.int .i64 0, .slice none 0 0, .int .i64 0, .slice none 0 0], .int .u8 0, .int .u8 0], []⟩ 8 (by kernel_rfl) (by kernel_rfl) (by kernel_rfl) (by kernel_rfl)) Try.laidOut (by kernel_rfl) rfl (by kernel_rfl) rfl (fun ds hds => ?_) (fun ar hl hs => ?_)
  · rw [Try.params6] at hds
    match ds, hds with
    | [d0, d1, d2, d3], _ => exact ⟨rfl, rfl, rfl⟩
  · rw [Try.params6] at hl hs
    exact law_of opens_l47_TargetSwaps ok_l47_TargetSwaps (fun x hx => law x.1 x.2.1 x.2.2.1 x.2.2.2 hx.1 hx.2.1 hx.2.2.1 hx.2.2.2) ar hl hs

theorem holds_l47_TargetSwaps (law : ∀ (a0 : (List TFrac)) (a1 : TFrac) (a2 : Int) (a3 : Int), ((a0.length * 64 ≤ 140737488351232 ∧ ∀ y ∈ a0, ok_TFrac y)) → (ok_TFrac a1) → ((Lit.int .u8 a2).wf = true) → ((Lit.int .u8 a3).wf = true) → P.l47_TargetSwaps a0 a1 a2 a3 = some true) : Rows.TargetSwapsSaid :=
  OpenClaim.holds_of_wide 6 Try.f6 rfl rfl rfl rfl rfl rfl rfl ⟨rfl, rfl, rfl, rfl, rfl⟩ rfl rfl rfl rfl rfl (by kernel_rfl) Try.func6 (by kernel_rfl)
    (of_decide_eq_true (by kernel_rfl)) (by unfold Func.isWrapper; first | (rw [if_pos (by decide +kernel)]; kernel_rfl) | (rw [if_neg (by decide +kernel)]; exact ⟨rfl, rfl⟩))
    (fun os started H enc _ => lifted_l47_TargetSwaps law os started H enc)

theorem lifted_l47_TargetGreater (law : ∀ (a0 : (List TFrac)) (a1 : TFrac) (a2 : TFrac), ((a0.length * 64 ≤ 140737488351232 ∧ ∀ y ∈ a0, ok_TFrac y)) → (ok_TFrac a1) → (ok_TFrac a2) → P.l47_TargetGreater a0 a1 a2 = some true) (os : Os) (started : os.Started) (H : Type) (enc : TypeId × Value → H) :
    ReturnsInHanded {} Try.checked os 7 .any (Rows.targetGreaterSpec.pre6 enc Try.prog Try.f7 Rows.targetGreaterRow.domain false) (Rows.targetGreaterSpec.post enc Try.prog Try.f7 false true false false) := by
  refine row_lifted (C := Try.checked) (T := tab) (tb := 4) (n := 6) tok Try.own started (by kernel_rfl) Try.func7
    (ChangeSpec.witness6 (enc := enc) (C := Try.checked) false ⟨#[], #[.slice none 0 0, .agg #[.int .i64 0, .slice none 0 0, .int .i64 0, .slice none 0 0], .agg #[.int .i64 0, .slice none 0 0, .int .i64 0, .slice none 0 0]], []⟩ 8 (by kernel_rfl) (by kernel_rfl) (by kernel_rfl) (by kernel_rfl)) Try.laidOut (by kernel_rfl) rfl (by kernel_rfl) rfl (fun ds hds => ?_) (fun ar hl hs => ?_)
  · rw [Try.params7] at hds
    match ds, hds with
    | [d0, d1, d2], _ => exact ⟨rfl, rfl, rfl⟩
  · rw [Try.params7] at hl hs
    exact law_of opens_l47_TargetGreater ok_l47_TargetGreater (fun x hx => law x.1 x.2.1 x.2.2 hx.1 hx.2.1 hx.2.2) ar hl hs

theorem holds_l47_TargetGreater (law : ∀ (a0 : (List TFrac)) (a1 : TFrac) (a2 : TFrac), ((a0.length * 64 ≤ 140737488351232 ∧ ∀ y ∈ a0, ok_TFrac y)) → (ok_TFrac a1) → (ok_TFrac a2) → P.l47_TargetGreater a0 a1 a2 = some true) : Rows.TargetGreaterSaid :=
  OpenClaim.holds_of_wide 7 Try.f7 rfl rfl rfl rfl rfl rfl rfl ⟨rfl, rfl, rfl, rfl, rfl⟩ rfl rfl rfl rfl rfl (by kernel_rfl) Try.func7 (by kernel_rfl)
    (of_decide_eq_true (by kernel_rfl)) (by unfold Func.isWrapper; first | (rw [if_pos (by decide +kernel)]; kernel_rfl) | (rw [if_neg (by decide +kernel)]; exact ⟨rfl, rfl⟩))
    (fun os started H enc _ => lifted_l47_TargetGreater law os started H enc)
end Go.Proofs.Ytadpbhbkdnfbpaa.Am
