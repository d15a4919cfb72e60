/- The laws as rows: arguments opened (written by wip/dec.py). -/
import Derived.Test.YtnnkcegdkhclcaaBi
import Derived.Test.YtnnkcegdkhclcaaDmc
import Derived.Test.YtnnkcegdkhclcaaRows
namespace Go.Proofs.Ytnnkcegdkhclcaa.Am
open Go.ChangeShapes Go.WideShapes Go.ChangeAt Go.RowKit Go.Proofs.Ytnnkcegdkhclcaa.P
set_option maxRecDepth 100000
set_option linter.unusedVariables false

theorem Try.own : ownKnob Try.prog.godebug = none := by kernel_rfl
theorem Try.laidOut : laidOutB Try.prog = true := by kernel_rfl

theorem op_3 (n : Nat) : OpE tab (n + 1) 3 (eI .i64) (fun x => (Lit.int .i64 x).wf = true) := opI tab_3 rfl rfl

theorem op_29 (n : Nat) : OpE tab (n + 2) 29 (eSl (eI .i64)) (fun x => (x.length * 8 ≤ 140737488351232 ∧ ∀ y ∈ x, (Lit.int .i64 y).wf = true)) := opSl tab_29 rfl rfl (by rw [tab_3]; rfl) (op_3 n)

def ok_TDeed (x : TDeed) : Prop := (Lit.int .i64 x.f_Kind).wf = true ∧ ((Lit.int .i64 x.f_Day).wf = true ∧ ((Lit.int .i64 x.f_House).wf = true ∧ ((x.f_Others.length * 8 ≤ 140737488351232 ∧ ∀ y ∈ x.f_Others, (Lit.int .i64 y).wf = true))))

theorem op_34 (n : Nat) : OpE tab (n + 3) 34 eTDeed (fun x => ok_TDeed x) := opS (g := fun y => TDeed.mk y.1 y.2.1 y.2.2.1 y.2.2.2) tab_34 rfl rfl (fun _ => rfl) (opFC (op_3 (n + 1)) rfl (opFC (op_3 (n + 1)) rfl (opFC (op_3 (n + 1)) rfl (opF1 (op_29 n)))))

theorem op_22 (n : Nat) : OpE tab (n + 4) 22 (eSl eTDeed) (fun x => (x.length * 48 ≤ 140737488351232 ∧ ∀ y ∈ x, ok_TDeed y)) := opSl tab_22 rfl rfl (by rw [tab_34]; rfl) (op_34 n)

theorem opens_l41_FirmTells : OpAs tab 5 [22, 3, 3] (asC (aSl eTDeed) (asC (aI .i64) (as1 (aI .i64)))) (fun x => (x.1.length * 48 ≤ 140737488351232 ∧ ∀ y ∈ x.1, ok_TDeed y) ∧ ((Lit.int .i64 x.2.1).wf = true ∧ ((Lit.int .i64 x.2.2).wf = true))) := (oasC (oaSl tab_22 rfl (op_22 1)) (oasC (oaI tab_3 rfl) (oas1 (oaI tab_3 rfl))))

theorem opens_l41_FirmAnswers : OpAs tab 5 [22, 3, 3] (asC (aSl eTDeed) (asC (aI .i64) (as1 (aI .i64)))) (fun x => (x.1.length * 48 ≤ 140737488351232 ∧ ∀ y ∈ x.1, ok_TDeed y) ∧ ((Lit.int .i64 x.2.1).wf = true ∧ ((Lit.int .i64 x.2.2).wf = true))) := (oasC (oaSl tab_22 rfl (op_22 1)) (oasC (oaI tab_3 rfl) (oas1 (oaI tab_3 rfl))))

theorem opens_l41_FirmLater : OpAs tab 5 [22, 3, 3, 3] (asC (aSl eTDeed) (asC (aI .i64) (asC (aI .i64) (as1 (aI .i64))))) (fun x => (x.1.length * 48 ≤ 140737488351232 ∧ ∀ y ∈ x.1, ok_TDeed y) ∧ ((Lit.int .i64 x.2.1).wf = true ∧ ((Lit.int .i64 x.2.2.1).wf = true ∧ ((Lit.int .i64 x.2.2.2).wf = true)))) := (oasC (oaSl tab_22 rfl (op_22 1)) (oasC (oaI tab_3 rfl) (oasC (oaI tab_3 rfl) (oas1 (oaI tab_3 rfl)))))

theorem op_5 (n : Nat) : OpE tab (n + 1) 5 (eI .u8) (fun x => (Lit.int .u8 x).wf = true) := opI tab_5 rfl rfl

theorem opens_l41_FirmMore : OpAs tab 5 [22, 5, 34, 3, 3] (asC (aSl eTDeed) (asC (aI .u8) (asC (aAgg eTDeed) (asC (aI .i64) (as1 (aI .i64)))))) (fun x => (x.1.length * 48 ≤ 140737488351232 ∧ ∀ y ∈ x.1, ok_TDeed y) ∧ ((Lit.int .u8 x.2.1).wf = true ∧ (ok_TDeed x.2.2.1 ∧ ((Lit.int .i64 x.2.2.2.1).wf = true ∧ ((Lit.int .i64 x.2.2.2.2).wf = true))))) := (oasC (oaSl tab_22 rfl (op_22 1)) (oasC (oaI tab_5 rfl) (oasC (oaS tab_34 rfl (op_34 2)) (oasC (oaI tab_3 rfl) (oas1 (oaI tab_3 rfl))))))

theorem lifted_l41_FirmTells (law : ∀ (a0 : (List TDeed)) (a1 : Int) (a2 : Int), ((a0.length * 48 ≤ 140737488351232 ∧ ∀ y ∈ a0, ok_TDeed y)) → ((Lit.int .i64 a1).wf = true) → ((Lit.int .i64 a2).wf = true) → P.l41_FirmTells a0 a1 a2 = some true) (os : Os) (started : os.Started) (H : Type) (enc : TypeId × Value → H) :
    ReturnsInHanded {} Try.checked os 3 .any (Rows.firmTellsSpec.pre6 enc Try.prog Try.f3 Rows.firmTellsRow.domain false) (Rows.firmTellsSpec.post enc Try.prog Try.f3 false true false false) := by
  refine row_lifted (C := Try.checked) (T := tab) (tb := 4) (n := 5) tok Try.own started (by kernel_rfl) Try.func3
    (ChangeSpec.witness6 (enc := enc) (C := Try.checked) false ⟨#[], #[.slice none 0 0, .int .i64 0, .int .i64 0], []⟩ 8 (by kernel_rfl) (by kernel_rfl) (by kernel_rfl) (by kernel_rfl)) Try.laidOut (by kernel_rfl) rfl (by kernel_rfl) rfl (fun ds hds => ?_) (fun ar hl hs => ?_)
  · rw [Try.params3] at hds
    match ds, hds with
    | [d0, d1, d2], _ => exact ⟨rfl, rfl, rfl⟩
  · rw [Try.params3] at hl hs
    exact law_of opens_l41_FirmTells ok_l41_FirmTells (fun x hx => law x.1 x.2.1 x.2.2 hx.1 hx.2.1 hx.2.2) ar hl hs

theorem holds_l41_FirmTells (law : ∀ (a0 : (List TDeed)) (a1 : Int) (a2 : Int), ((a0.length * 48 ≤ 140737488351232 ∧ ∀ y ∈ a0, ok_TDeed y)) → ((Lit.int .i64 a1).wf = true) → ((Lit.int .i64 a2).wf = true) → P.l41_FirmTells a0 a1 a2 = some true) : Rows.FirmTellsSaid :=
  OpenClaim.holds_of_wide 3 Try.f3 rfl rfl rfl rfl rfl rfl rfl ⟨rfl, rfl, rfl, rfl, rfl⟩ rfl rfl rfl rfl rfl (by kernel_rfl) Try.func3 (by kernel_rfl)
    (of_decide_eq_true (by kernel_rfl)) (by unfold Func.isWrapper; first | (rw [if_pos (by decide +kernel)]; kernel_rfl) | (rw [if_neg (by decide +kernel)]; exact ⟨rfl, rfl⟩))
    (fun os started H enc _ => lifted_l41_FirmTells law os started H enc)

theorem lifted_l41_FirmAnswers (law : ∀ (a0 : (List TDeed)) (a1 : Int) (a2 : Int), ((a0.length * 48 ≤ 140737488351232 ∧ ∀ y ∈ a0, ok_TDeed y)) → ((Lit.int .i64 a1).wf = true) → ((Lit.int .i64 a2).wf = true) → P.l41_FirmAnswers a0 a1 a2 = some true) (os : Os) (started : os.Started) (H : Type) (enc : TypeId × Value → H) :
    ReturnsInHanded {} Try.checked os 4 .any (Rows.firmAnswersSpec.pre6 enc Try.prog Try.f4 Rows.firmAnswersRow.domain false) (Rows.firmAnswersSpec.post enc Try.prog Try.f4 false true false false) := by
  refine row_lifted (C := Try.checked) (T := tab) (tb := 4) (n := 5) tok Try.own started (by kernel_rfl) Try.func4
    (ChangeSpec.witness6 (enc := enc) (C := Try.checked) false ⟨#[], #[.slice none 0 0, .int .i64 0, .int .i64 0], []⟩ 8 (by kernel_rfl) (by kernel_rfl) (by kernel_rfl) (by kernel_rfl)) Try.laidOut (by kernel_rfl) rfl (by kernel_rfl) rfl (fun ds hds => ?_) (fun ar hl hs => ?_)
  · rw [Try.params4] at hds
    match ds, hds with
    | [d0, d1, d2], _ => exact ⟨rfl, rfl, rfl⟩
  · rw [Try.params4] at hl hs
    exact law_of opens_l41_FirmAnswers ok_l41_FirmAnswers (fun x hx => law x.1 x.2.1 x.2.2 hx.1 hx.2.1 hx.2.2) ar hl hs

theorem holds_l41_FirmAnswers (law : ∀ (a0 : (List TDeed)) (a1 : Int) (a2 : Int), ((a0.length * 48 ≤ 140737488351232 ∧ ∀ y ∈ a0, ok_TDeed y)) → ((Lit.int .i64 a1).wf = true) → ((Lit.int .i64 a2).wf = true) → P.l41_FirmAnswers a0 a1 a2 = some true) : Rows.FirmAnswersSaid :=
  OpenClaim.holds_of_wide 4 Try.f4 rfl rfl rfl rfl rfl rfl rfl ⟨rfl, rfl, rfl, rfl, rfl⟩ rfl rfl rfl rfl rfl (by kernel_rfl) Try.func4 (by kernel_rfl)
    (of_decide_eq_true (by kernel_rfl)) (by unfold Func.isWrapper; first | (rw [if_pos (by decide +kernel)]; kernel_rfl) | (rw [if_neg (by decide +kernel)]; exact ⟨rfl, rfl⟩))
    (fun os started H enc _ => lifted_l41_FirmAnswers law os started H enc)

theorem lifted_l41_FirmLater (law : ∀ (a0 : (List TDeed)) (a1 : Int) (a2 : Int) (a3 : Int), ((a0.length * 48 ≤ 140737488351232 ∧ ∀ y ∈ a0, ok_TDeed y)) → ((Lit.int .i64 a1).wf = true) → ((Lit.int .i64 a2).wf = true) → ((Lit.int .i64 a3).wf = true) → P.l41_FirmLater a0 a1 a2 a3 = some true) (os : Os) (started : os.Started) (H : Type) (enc : TypeId × Value → H) :
    ReturnsInHanded {} Try.checked os 5 .any (Rows.firmLaterSpec.pre6 enc Try.prog Try.f5 Rows.firmLaterRow.domain false) (Rows.firmLaterSpec.post enc Try.prog Try.f5 false true false false) := by
  refine row_lifted (C := Try.checked) (T := tab) (tb := 4) (n := 5) tok Try.own started (by kernel_rfl) Try.func5
    (ChangeSpec.witness6 (enc := enc) (C := Try.checked) false ⟨#[], #[.slice none 0 0, .int .i64 0, .int .i64 0, .int .i64 0], []⟩ 8 (by kernel_rfl) (by kernel_rfl) (by kernel_rfl) (by kernel_rfl)) Try.laidOut (by kernel_rfl) rfl (by kernel_rfl) rfl (fun ds hds => ?_) (fun ar hl hs => ?_)
  · rw [Try.params5] at hds
    match ds, hds with
    | [d0, d1, d2, d3], _ => exact ⟨rfl, rfl, rfl⟩
  · rw [Try.params5] at hl hs
    exact law_of opens_l41_FirmLater ok_l41_FirmLater (fun x hx => law x.1 x.2.1 x.2.2.1 x.2.2.2 hx.1 hx.2.1 hx.2.2.1 hx.2.2.2) ar hl hs

theorem holds_l41_FirmLater (law : ∀ (a0 : (List TDeed)) (a1 : Int) (a2 : Int) (a3 : Int), ((a0.length * 48 ≤ 140737488351232 ∧ ∀ y ∈ a0, ok_TDeed y)) → ((Lit.int .i64 a1).wf = true) → ((Lit.int .i64 a2).wf = true) → ((Lit.int .i64 a3).wf = true) → P.l41_FirmLater a0 a1 a2 a3 = some true) : Rows.FirmLaterSaid :=
  OpenClaim.holds_of_wide 5 Try.f5 rfl rfl rfl rfl rfl rfl rfl ⟨rfl, rfl, rfl, rfl, rfl⟩ rfl rfl rfl rfl rfl (by kernel_rfl) Try.func5 (by kernel_rfl)
    (of_decide_eq_true (by kernel_rfl)) (by unfold Func.isWrapper; first | (rw [if_pos (by decide +kernel)]; kernel_rfl) | (rw [if_neg (by decide +kernel)]; exact ⟨rfl, rfl⟩))
    (fun os started H enc _ => lifted_l41_FirmLater law os started H enc)

theorem lifted_l41_FirmMore (law : ∀ (a0 : (List TDeed)) (a1 : Int) (a2 : TDeed) (a3 : Int) (a4 : Int), ((a0.length * 48 ≤ 140737488351232 ∧ ∀ y ∈ a0, ok_TDeed y)) → ((Lit.int .u8 a1).wf = true) → (ok_TDeed a2) → ((Lit.int .i64 a3).wf = true) → ((Lit.int .i64 a4).wf = true) → P.l41_FirmMore a0 a1 a2 a3 a4 = some true) (os : Os) (started : os.Started) (H : Type) (enc : TypeId × Value → H) :
    ReturnsInHanded {} Try.checked os 6 .any (Rows.firmMoreSpec.pre6 enc Try.prog Try.f6 Rows.firmMoreRow.domain false) (Rows.firmMoreSpec.post enc Try.prog Try.f6 false true false false) := by
  refine row_lifted (C := Try.checked) (T := tab) (tb := 4) (n := 5) tok Try.own started (by kernel_rfl) Try.func6
    (ChangeSpec.witness6 (enc := enc) (C := Try.checked) false ⟨#[], #[.slice none 0 0, .int .u8 0, .agg #[.int .i64 0, .int .i64 0, .int .i64 0, .slice none 0 0], .int .i64 0, .int .i64 0], []⟩ 8 (by kernel_rfl) (by kernel_rfl) (by kernel_rfl) (by kernel_rfl)) Try.laidOut (by kernel_rfl) rfl (by kernel_rfl) rfl (fun ds hds => ?_) (fun ar hl hs => ?_)
  · rw [Try.params6] at hds
    match ds, hds with
    | [d0, d1, d2, d3, d4], _ => exact ⟨rfl, rfl, rfl⟩
  · rw [Try.params6] at hl hs
    exact law_of opens_l41_FirmMore ok_l41_FirmMore (fun x hx => law x.1 x.2.1 x.2.2.1 x.2.2.2.1 x.2.2.2.2 hx.1 hx.2.1 hx.2.2.1 hx.2.2.2.1 hx.2.2.2.2) ar hl hs

theorem holds_l41_FirmMore (law : ∀ (a0 : (List TDeed)) (a1 : Int) (a2 : TDeed) (a3 : Int) (a4 : Int), ((a0.length * 48 ≤ 140737488351232 ∧ ∀ y ∈ a0, ok_TDeed y)) → ((Lit.int .u8 a1).wf = true) → (ok_TDeed a2) → ((Lit.int .i64 a3).wf = true) → ((Lit.int .i64 a4).wf = true) → P.l41_FirmMore a0 a1 a2 a3 a4 = some true) : Rows.FirmMoreSaid :=
  OpenClaim.holds_of_wide 6 Try.f6 rfl rfl rfl rfl rfl rfl rfl ⟨rfl, rfl, rfl, rfl, rfl⟩ rfl rfl rfl rfl rfl (by kernel_rfl) Try.func6 (by kernel_rfl)
    (of_decide_eq_true (by kernel_rfl)) (by unfold Func.isWrapper; first | (rw [if_pos (by decide +kernel)]; kernel_rfl) | (rw [if_neg (by decide +kernel)]; exact ⟨rfl, rfl⟩))
    (fun os started H enc _ => lifted_l41_FirmMore law os started H enc)
end Go.Proofs.Ytnnkcegdkhclcaa.Am
