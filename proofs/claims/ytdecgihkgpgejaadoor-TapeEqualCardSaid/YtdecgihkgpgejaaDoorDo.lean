/- The laws as rows: arguments opened (written by wip/dec.py). -/
import Derived.Test.YtdecgihkgpgejaaDoorBi
import Derived.Test.YtdecgihkgpgejaaDoorDmc
import Derived.Test.YtdecgihkgpgejaaDoorRows
import Derived.Test.YtdecgihkgpgejaaDoorLt
import Derived.Test.YtdecgihkgpgejaaDoorCards
import Derived.Test.YtdecgihkgpgejaaDoorTie
namespace Go.Proofs.YtdecgihkgpgejaaDoor.Am
open Go.ChangeShapes Go.WideShapes Go.ChangeAt Go.RowKit Go.Proofs.YtdecgihkgpgejaaDoor.P
set_option maxRecDepth 100000
set_option linter.unusedVariables false

theorem Tryd.own : ownKnob Tryd.prog.godebug = none := by kernel_rfl
theorem Tryd.laidOut : laidOutB Tryd.prog = true := by kernel_rfl

theorem op_3 (n : Nat) : OpE tab (n + 1) 3 (eI .i64) (fun x => (Lit.int .i64 x).wf = true) := opI tab_3 rfl rfl

theorem op_23 (n : Nat) : OpE tab (n + 2) 23 (eSl (eI .i64)) (fun x => (x.length * 8 ≤ 140737488351232 ∧ ∀ y ∈ x, (Lit.int .i64 y).wf = true)) := opSl tab_23 rfl rfl (by rw [tab_3]; rfl) (op_3 n)

theorem op_22 (n : Nat) : OpE tab (n + 3) 22 (eSl (eSl (eI .i64))) (fun x => (x.length * 24 ≤ 140737488351232 ∧ ∀ y ∈ x, (y.length * 8 ≤ 140737488351232 ∧ ∀ z ∈ y, (Lit.int .i64 z).wf = true))) := opSl tab_22 rfl rfl (by rw [tab_23]; rfl) (op_23 n)

theorem op_9 (n : Nat) : OpE tab (n + 1) 9 eStr (fun x => x.size ≤ 140737488351232) := opStr tab_9 rfl rfl

def ok_TThing (x : TThing) : Prop := x.f_Text.size ≤ 140737488351232 ∧ ((Lit.int .i64 x.f_Value).wf = true ∧ ((Lit.int .i64 x.f_Blind).wf = true ∧ ((Lit.int .i64 x.f_Left).wf = true ∧ ((Lit.int .i64 x.f_Right).wf = true))))

theorem op_52 (n : Nat) : OpE tab (n + 2) 52 eTThing (fun x => ok_TThing x) := opS (g := fun y => TThing.mk y.1 y.2.1 y.2.2.1 y.2.2.2.1 y.2.2.2.2) tab_52 rfl rfl (fun _ => rfl) (opFC (op_9 n) rfl (opFC (op_3 n) rfl (opFC (op_3 n) rfl (opFC (op_3 n) rfl (opF1 (op_3 n))))))

theorem op_24 (n : Nat) : OpE tab (n + 3) 24 (eSl eTThing) (fun x => (x.length * 48 ≤ 140737488351232 ∧ ∀ y ∈ x, ok_TThing y)) := opSl tab_24 rfl rfl (by rw [tab_52]; rfl) (op_52 n)

def ok_TVault (x : TVault) : Prop := (x.f_Things.length * 48 ≤ 140737488351232 ∧ ∀ y ∈ x.f_Things, ok_TThing y)

theorem op_26 (n : Nat) : OpE tab (n + 4) 26 eTVault (fun x => ok_TVault x) := opS (g := fun y => TVault.mk y) tab_26 rfl rfl (fun _ => rfl) (opF1 (op_24 n))

theorem opens_l50_TapeTells : OpAs tab 5 [22, 23, 3, 3, 26, 23, 23] (asC (aSl (eSl (eI .i64))) (asC (aSl (eI .i64)) (asC (aI .i64) (asC (aI .i64) (asC (aAgg eTVault) (asC (aSl (eI .i64)) (as1 (aSl (eI .i64))))))))) (fun x => (x.1.length * 24 ≤ 140737488351232 ∧ ∀ y ∈ x.1, (y.length * 8 ≤ 140737488351232 ∧ ∀ z ∈ y, (Lit.int .i64 z).wf = true)) ∧ ((x.2.1.length * 8 ≤ 140737488351232 ∧ ∀ y ∈ x.2.1, (Lit.int .i64 y).wf = true) ∧ ((Lit.int .i64 x.2.2.1).wf = true ∧ ((Lit.int .i64 x.2.2.2.1).wf = true ∧ (ok_TVault x.2.2.2.2.1 ∧ ((x.2.2.2.2.2.1.length * 8 ≤ 140737488351232 ∧ ∀ y ∈ x.2.2.2.2.2.1, (Lit.int .i64 y).wf = true) ∧ ((x.2.2.2.2.2.2.length * 8 ≤ 140737488351232 ∧ ∀ y ∈ x.2.2.2.2.2.2, (Lit.int .i64 y).wf = true)))))))) := (oasC (oaSl tab_22 rfl (op_22 2)) (oasC (oaSl tab_23 rfl (op_23 3)) (oasC (oaI tab_3 rfl) (oasC (oaI tab_3 rfl) (oasC (oaS tab_26 rfl (op_26 1)) (oasC (oaSl tab_23 rfl (op_23 3)) (oas1 (oaSl tab_23 rfl (op_23 3)))))))))

theorem op_5 (n : Nat) : OpE tab (n + 1) 5 (eI .u8) (fun x => (Lit.int .u8 x).wf = true) := opI tab_5 rfl rfl

theorem opens_l50_TapeFree : OpAs tab 4 [22, 23, 23, 3, 5] (asC (aSl (eSl (eI .i64))) (asC (aSl (eI .i64)) (asC (aSl (eI .i64)) (asC (aI .i64) (as1 (aI .u8)))))) (fun x => (x.1.length * 24 ≤ 140737488351232 ∧ ∀ y ∈ x.1, (y.length * 8 ≤ 140737488351232 ∧ ∀ z ∈ y, (Lit.int .i64 z).wf = true)) ∧ ((x.2.1.length * 8 ≤ 140737488351232 ∧ ∀ y ∈ x.2.1, (Lit.int .i64 y).wf = true) ∧ ((x.2.2.1.length * 8 ≤ 140737488351232 ∧ ∀ y ∈ x.2.2.1, (Lit.int .i64 y).wf = true) ∧ ((Lit.int .i64 x.2.2.2.1).wf = true ∧ ((Lit.int .u8 x.2.2.2.2).wf = true))))) := (oasC (oaSl tab_22 rfl (op_22 1)) (oasC (oaSl tab_23 rfl (op_23 2)) (oasC (oaSl tab_23 rfl (op_23 2)) (oasC (oaI tab_3 rfl) (oas1 (oaI tab_5 rfl))))))

theorem opens_l50_TapeDraws : OpAs tab 3 [23, 3] (asC (aSl (eI .i64)) (as1 (aI .i64))) (fun x => (x.1.length * 8 ≤ 140737488351232 ∧ ∀ y ∈ x.1, (Lit.int .i64 y).wf = true) ∧ ((Lit.int .i64 x.2).wf = true)) := (oasC (oaSl tab_23 rfl (op_23 1)) (oas1 (oaI tab_3 rfl)))

theorem opens_l50_TapeEqual : OpAs tab 2 [5, 5, 5] (asC (aI .u8) (asC (aI .u8) (as1 (aI .u8)))) (fun x => (Lit.int .u8 x.1).wf = true ∧ ((Lit.int .u8 x.2.1).wf = true ∧ ((Lit.int .u8 x.2.2).wf = true))) := (oasC (oaI tab_5 rfl) (oasC (oaI tab_5 rfl) (oas1 (oaI tab_5 rfl))))

theorem opens_l50_TapeOrder : OpAs tab 4 [22, 3, 3, 5] (asC (aSl (eSl (eI .i64))) (asC (aI .i64) (asC (aI .i64) (as1 (aI .u8))))) (fun x => (x.1.length * 24 ≤ 140737488351232 ∧ ∀ y ∈ x.1, (y.length * 8 ≤ 140737488351232 ∧ ∀ z ∈ y, (Lit.int .i64 z).wf = true)) ∧ ((Lit.int .i64 x.2.1).wf = true ∧ ((Lit.int .i64 x.2.2.1).wf = true ∧ ((Lit.int .u8 x.2.2.2).wf = true)))) := (oasC (oaSl tab_22 rfl (op_22 1)) (oasC (oaI tab_3 rfl) (oasC (oaI tab_3 rfl) (oas1 (oaI tab_5 rfl)))))

theorem op_49 (n : Nat) : OpE tab (n + 1) 49 (eI .u16) (fun x => (Lit.int .u16 x).wf = true) := opI tab_49 rfl rfl

theorem op_46 (n : Nat) : OpE tab (n + 2) 46 (eSl (eI .u16)) (fun x => (x.length * 2 ≤ 140737488351232 ∧ ∀ y ∈ x, (Lit.int .u16 y).wf = true)) := opSl tab_46 rfl rfl (by rw [tab_49]; rfl) (op_49 n)

theorem opens_l50_TapeSeals : OpAs tab 4 [22, 46, 3, 3, 5, 23, 3] (asC (aSl (eSl (eI .i64))) (asC (aSl (eI .u16)) (asC (aI .i64) (asC (aI .i64) (asC (aI .u8) (asC (aSl (eI .i64)) (as1 (aI .i64)))))))) (fun x => (x.1.length * 24 ≤ 140737488351232 ∧ ∀ y ∈ x.1, (y.length * 8 ≤ 140737488351232 ∧ ∀ z ∈ y, (Lit.int .i64 z).wf = true)) ∧ ((x.2.1.length * 2 ≤ 140737488351232 ∧ ∀ y ∈ x.2.1, (Lit.int .u16 y).wf = true) ∧ ((Lit.int .i64 x.2.2.1).wf = true ∧ ((Lit.int .i64 x.2.2.2.1).wf = true ∧ ((Lit.int .u8 x.2.2.2.2.1).wf = true ∧ ((x.2.2.2.2.2.1.length * 8 ≤ 140737488351232 ∧ ∀ y ∈ x.2.2.2.2.2.1, (Lit.int .i64 y).wf = true) ∧ ((Lit.int .i64 x.2.2.2.2.2.2).wf = true))))))) := (oasC (oaSl tab_22 rfl (op_22 1)) (oasC (oaSl tab_46 rfl (op_46 2)) (oasC (oaI tab_3 rfl) (oasC (oaI tab_3 rfl) (oasC (oaI tab_5 rfl) (oasC (oaSl tab_23 rfl (op_23 2)) (oas1 (oaI tab_3 rfl))))))))

theorem lifted_l50_TapeTells (law : ∀ (a0 : (List (List Int))) (a1 : (List Int)) (a2 : Int) (a3 : Int) (a4 : TVault) (a5 : (List Int)) (a6 : (List Int)), ((a0.length * 24 ≤ 140737488351232 ∧ ∀ y ∈ a0, (y.length * 8 ≤ 140737488351232 ∧ ∀ z ∈ y, (Lit.int .i64 z).wf = true))) → ((a1.length * 8 ≤ 140737488351232 ∧ ∀ y ∈ a1, (Lit.int .i64 y).wf = true)) → ((Lit.int .i64 a2).wf = true) → ((Lit.int .i64 a3).wf = true) → (ok_TVault a4) → ((a5.length * 8 ≤ 140737488351232 ∧ ∀ y ∈ a5, (Lit.int .i64 y).wf = true)) → ((a6.length * 8 ≤ 140737488351232 ∧ ∀ y ∈ a6, (Lit.int .i64 y).wf = true)) → P.l50_TapeTells a0 a1 a2 a3 a4 a5 a6 = some true) (os : Os) (started : os.Started) (H : Type) (enc : TypeId × Value → H) :
    ReturnsInHanded {} Tryd.checked os 3 .any (fun w args => (Rows.tapeTellsSpec.pre enc Tryd.prog Tryd.f3 Rows.tapeTellsRow.domain false w args ∧ laidMetH Tryd.prog laidL w) ∧ sizedMet enc Tryd.prog Tryd.f3 (OpenSpec.ofChange Rows.tapeTellsSpec) false w args) (Rows.tapeTellsSpec.post enc Tryd.prog Tryd.f3 false true false false) := by
  refine row_laid (C := Tryd.checked) (X := fun w _ => laidMetH Tryd.prog laidL w) (fun _ _ _ hh h => h.of_heap hh) (fun _ _ h => laid_tab h) (T := tab) (tb := 4) (n := 5) tok Tryd.own started (by kernel_rfl) Tryd.func3
    (ChangeSpec.witness_shaped (enc := enc) (C := Tryd.checked) (os := os) (X := fun w _ => laidMetH Tryd.prog laidL w) false (World.doorLaid Tryd.prog 400 os) #[.slice none 0 0, .slice none 0 0, .int .i64 0, .int .i64 0, .agg #[.slice none 0 0], .slice none 0 0, .slice none 0 0] 8 rfl (World.shaped_of_RefB (by kernel_rfl) (by kernel_rfl)) (by kernel_rfl) (by kernel_rfl) (by kernel_rfl) (door_met os _)) Tryd.laidOut (by kernel_rfl) rfl (by kernel_rfl) rfl (fun ds hds => ?_) (fun ar hl hs => ?_)
  · rw [Tryd.params3] at hds
    match ds, hds with
    | [d0, d1, d2, d3, d4, d5, d6], _ => exact ⟨rfl, rfl, rfl⟩
  · rw [Tryd.params3] at hl hs
    exact law_of opens_l50_TapeTells ok_l50_TapeTells (fun x hx => law x.1 x.2.1 x.2.2.1 x.2.2.2.1 x.2.2.2.2.1 x.2.2.2.2.2.1 x.2.2.2.2.2.2 hx.1 hx.2.1 hx.2.2.1 hx.2.2.2.1 hx.2.2.2.2.1 hx.2.2.2.2.2.1 hx.2.2.2.2.2.2) ar hl hs

theorem said_l50_TapeTells (law : ∀ (a0 : (List (List Int))) (a1 : (List Int)) (a2 : Int) (a3 : Int) (a4 : TVault) (a5 : (List Int)) (a6 : (List Int)), ((a0.length * 24 ≤ 140737488351232 ∧ ∀ y ∈ a0, (y.length * 8 ≤ 140737488351232 ∧ ∀ z ∈ y, (Lit.int .i64 z).wf = true))) → ((a1.length * 8 ≤ 140737488351232 ∧ ∀ y ∈ a1, (Lit.int .i64 y).wf = true)) → ((Lit.int .i64 a2).wf = true) → ((Lit.int .i64 a3).wf = true) → (ok_TVault a4) → ((a5.length * 8 ≤ 140737488351232 ∧ ∀ y ∈ a5, (Lit.int .i64 y).wf = true)) → ((a6.length * 8 ≤ 140737488351232 ∧ ∀ y ∈ a6, (Lit.int .i64 y).wf = true)) → P.l50_TapeTells a0 a1 a2 a3 a4 a5 a6 = some true) : Rows.TapeTellsSaid :=
  OpenClaim.holds_of_wide 3 Tryd.f3 rfl rfl rfl rfl rfl rfl rfl ⟨rfl, rfl, rfl, rfl, rfl⟩ rfl rfl rfl rfl rfl (by kernel_rfl) Tryd.func3 (by kernel_rfl)
    (of_decide_eq_true (by kernel_rfl)) (by unfold Func.isWrapper; first | (rw [if_pos (by decide +kernel)]; kernel_rfl) | (rw [if_neg (by decide +kernel)]; exact ⟨rfl, rfl⟩))
    (fun os started H enc _ => lifted_l50_TapeTells law os started H enc)

theorem holds_l50_TapeTells (law : ∀ (a0 : (List (List Int))) (a1 : (List Int)) (a2 : Int) (a3 : Int) (a4 : TVault) (a5 : (List Int)) (a6 : (List Int)), ((a0.length * 24 ≤ 140737488351232 ∧ ∀ y ∈ a0, (y.length * 8 ≤ 140737488351232 ∧ ∀ z ∈ y, (Lit.int .i64 z).wf = true))) → ((a1.length * 8 ≤ 140737488351232 ∧ ∀ y ∈ a1, (Lit.int .i64 y).wf = true)) → ((Lit.int .i64 a2).wf = true) → ((Lit.int .i64 a3).wf = true) → (ok_TVault a4) → ((a5.length * 8 ≤ 140737488351232 ∧ ∀ y ∈ a5, (Lit.int .i64 y).wf = true)) → ((a6.length * 8 ≤ 140737488351232 ∧ ∀ y ∈ a6, (Lit.int .i64 y).wf = true)) → P.l50_TapeTells a0 a1 a2 a3 a4 a5 a6 = some true) : Rows.TapeTellsCardSaid :=
  Claim7.holds_tied_plain_at .later [] [.data, .data, .data] true Rows.tapeTellsCard.stood.harness false
    (said_l50_TapeTells law) (fun _ h => by cases h) (by kernel_rfl) (fun _ h => by cases h) tapeTells_row_tie rfl ⟨rfl, rfl⟩ (by kernel_rfl) rfl
    (fun f fn hf hfn => by
      obtain rfl : f = 3 := Option.some.inj ((show Tryd.prog.funcNamed "kitbag/kitbaglaw50.TapeTells" = some 3 by kernel_rfl).symm.trans hf) |>.symm
      obtain rfl : fn = Tryd.f3 := (Option.some.inj (Tryd.func3.symm.trans hfn)).symm
      exact ⟨by kernel_rfl, fun j t ht => by
        rw [Tryd.params3] at ht
        have hm : t ∈ [22, 23, 3, 3, 26, 23, 23] := by simpa using Array.mem_of_getElem? ht
        have hall : ([22, 23, 3, 3, 26, 23, 23].all fun u => !Tryd.prog.wantsStandIn u) = true := by kernel_rfl
        exact (show Tryd.prog.wantsStandIn t = false by simpa using List.all_eq_true.1 hall t hm)⟩)
    (by kernel_rfl)

theorem lifted_l50_TapeFree (law : ∀ (a0 : (List (List Int))) (a1 : (List Int)) (a2 : (List Int)) (a3 : Int) (a4 : Int), ((a0.length * 24 ≤ 140737488351232 ∧ ∀ y ∈ a0, (y.length * 8 ≤ 140737488351232 ∧ ∀ z ∈ y, (Lit.int .i64 z).wf = true))) → ((a1.length * 8 ≤ 140737488351232 ∧ ∀ y ∈ a1, (Lit.int .i64 y).wf = true)) → ((a2.length * 8 ≤ 140737488351232 ∧ ∀ y ∈ a2, (Lit.int .i64 y).wf = true)) → ((Lit.int .i64 a3).wf = true) → ((Lit.int .u8 a4).wf = true) → P.l50_TapeFree a0 a1 a2 a3 a4 = some true) (os : Os) (started : os.Started) (H : Type) (enc : TypeId × Value → H) :
    ReturnsInHanded {} Tryd.checked os 4 .any (fun w args => (Rows.tapeFreeSpec.pre enc Tryd.prog Tryd.f4 Rows.tapeFreeRow.domain false w args ∧ laidMetH Tryd.prog laidL w) ∧ sizedMet enc Tryd.prog Tryd.f4 (OpenSpec.ofChange Rows.tapeFreeSpec) false w args) (Rows.tapeFreeSpec.post enc Tryd.prog Tryd.f4 false true false false) := by
  refine row_laid (C := Tryd.checked) (X := fun w _ => laidMetH Tryd.prog laidL w) (fun _ _ _ hh h => h.of_heap hh) (fun _ _ h => laid_tab h) (T := tab) (tb := 4) (n := 4) tok Tryd.own started (by kernel_rfl) Tryd.func4
    (ChangeSpec.witness_shaped (enc := enc) (C := Tryd.checked) (os := os) (X := fun w _ => laidMetH Tryd.prog laidL w) false (World.doorLaid Tryd.prog 400 os) #[.slice none 0 0, .slice none 0 0, .slice none 0 0, .int .i64 0, .int .u8 0] 8 rfl (World.shaped_of_RefB (by kernel_rfl) (by kernel_rfl)) (by kernel_rfl) (by kernel_rfl) (by kernel_rfl) (door_met os _)) Tryd.laidOut (by kernel_rfl) rfl (by kernel_rfl) rfl (fun ds hds => ?_) (fun ar hl hs => ?_)
  · rw [Tryd.params4] at hds
    match ds, hds with
    | [d0, d1, d2, d3, d4], _ => exact ⟨rfl, rfl, rfl⟩
  · rw [Tryd.params4] at hl hs
    exact law_of opens_l50_TapeFree ok_l50_TapeFree (fun x hx => law x.1 x.2.1 x.2.2.1 x.2.2.2.1 x.2.2.2.2 hx.1 hx.2.1 hx.2.2.1 hx.2.2.2.1 hx.2.2.2.2) ar hl hs

theorem said_l50_TapeFree (law : ∀ (a0 : (List (List Int))) (a1 : (List Int)) (a2 : (List Int)) (a3 : Int) (a4 : Int), ((a0.length * 24 ≤ 140737488351232 ∧ ∀ y ∈ a0, (y.length * 8 ≤ 140737488351232 ∧ ∀ z ∈ y, (Lit.int .i64 z).wf = true))) → ((a1.length * 8 ≤ 140737488351232 ∧ ∀ y ∈ a1, (Lit.int .i64 y).wf = true)) → ((a2.length * 8 ≤ 140737488351232 ∧ ∀ y ∈ a2, (Lit.int .i64 y).wf = true)) → ((Lit.int .i64 a3).wf = true) → ((Lit.int .u8 a4).wf = true) → P.l50_TapeFree a0 a1 a2 a3 a4 = some true) : Rows.TapeFreeSaid :=
  OpenClaim.holds_of_wide 4 Tryd.f4 rfl rfl rfl rfl rfl rfl rfl ⟨rfl, rfl, rfl, rfl, rfl⟩ rfl rfl rfl rfl rfl (by kernel_rfl) Tryd.func4 (by kernel_rfl)
    (of_decide_eq_true (by kernel_rfl)) (by unfold Func.isWrapper; first | (rw [if_pos (by decide +kernel)]; kernel_rfl) | (rw [if_neg (by decide +kernel)]; exact ⟨rfl, rfl⟩))
    (fun os started H enc _ => lifted_l50_TapeFree law os started H enc)

theorem holds_l50_TapeFree (law : ∀ (a0 : (List (List Int))) (a1 : (List Int)) (a2 : (List Int)) (a3 : Int) (a4 : Int), ((a0.length * 24 ≤ 140737488351232 ∧ ∀ y ∈ a0, (y.length * 8 ≤ 140737488351232 ∧ ∀ z ∈ y, (Lit.int .i64 z).wf = true))) → ((a1.length * 8 ≤ 140737488351232 ∧ ∀ y ∈ a1, (Lit.int .i64 y).wf = true)) → ((a2.length * 8 ≤ 140737488351232 ∧ ∀ y ∈ a2, (Lit.int .i64 y).wf = true)) → ((Lit.int .i64 a3).wf = true) → ((Lit.int .u8 a4).wf = true) → P.l50_TapeFree a0 a1 a2 a3 a4 = some true) : Rows.TapeFreeCardSaid :=
  Claim7.holds_tied_plain_at .later [] [.data, .data, .data] true Rows.tapeFreeCard.stood.harness false
    (said_l50_TapeFree law) (fun _ h => by cases h) (by kernel_rfl) (fun _ h => by cases h) tapeFree_row_tie rfl ⟨rfl, rfl⟩ (by kernel_rfl) rfl
    (fun f fn hf hfn => by
      obtain rfl : f = 4 := Option.some.inj ((show Tryd.prog.funcNamed "kitbag/kitbaglaw50.TapeFree" = some 4 by kernel_rfl).symm.trans hf) |>.symm
      obtain rfl : fn = Tryd.f4 := (Option.some.inj (Tryd.func4.symm.trans hfn)).symm
      exact ⟨by kernel_rfl, fun j t ht => by
        rw [Tryd.params4] at ht
        have hm : t ∈ [22, 23, 23, 3, 5] := by simpa using Array.mem_of_getElem? ht
        have hall : ([22, 23, 23, 3, 5].all fun u => !Tryd.prog.wantsStandIn u) = true := by kernel_rfl
        exact (show Tryd.prog.wantsStandIn t = false by simpa using List.all_eq_true.1 hall t hm)⟩)
    (by kernel_rfl)

theorem lifted_l50_TapeDraws (law : ∀ (a0 : (List Int)) (a1 : Int), ((a0.length * 8 ≤ 140737488351232 ∧ ∀ y ∈ a0, (Lit.int .i64 y).wf = true)) → ((Lit.int .i64 a1).wf = true) → P.l50_TapeDraws a0 a1 = some true) (os : Os) (started : os.Started) (H : Type) (enc : TypeId × Value → H) :
    ReturnsInHanded {} Tryd.checked os 5 .any (fun w args => (Rows.tapeDrawsSpec.pre enc Tryd.prog Tryd.f5 Rows.tapeDrawsRow.domain false w args ∧ laidMetH Tryd.prog laidL w) ∧ sizedMet enc Tryd.prog Tryd.f5 (OpenSpec.ofChange Rows.tapeDrawsSpec) false w args) (Rows.tapeDrawsSpec.post enc Tryd.prog Tryd.f5 false true false false) := by
  refine row_laid (C := Tryd.checked) (X := fun w _ => laidMetH Tryd.prog laidL w) (fun _ _ _ hh h => h.of_heap hh) (fun _ _ h => laid_tab h) (T := tab) (tb := 4) (n := 3) tok Tryd.own started (by kernel_rfl) Tryd.func5
    (ChangeSpec.witness_shaped (enc := enc) (C := Tryd.checked) (os := os) (X := fun w _ => laidMetH Tryd.prog laidL w) false (World.doorLaid Tryd.prog 400 os) #[.slice none 0 0, .int .i64 0] 8 rfl (World.shaped_of_RefB (by kernel_rfl) (by kernel_rfl)) (by kernel_rfl) (by kernel_rfl) (by kernel_rfl) (door_met os _)) Tryd.laidOut (by kernel_rfl) rfl (by kernel_rfl) rfl (fun ds hds => ?_) (fun ar hl hs => ?_)
  · rw [Tryd.params5] at hds
    match ds, hds with
    | [d0, d1], _ => exact ⟨rfl, rfl, rfl⟩
  · rw [Tryd.params5] at hl hs
    exact law_of opens_l50_TapeDraws ok_l50_TapeDraws (fun x hx => law x.1 x.2 hx.1 hx.2) ar hl hs

theorem said_l50_TapeDraws (law : ∀ (a0 : (List Int)) (a1 : Int), ((a0.length * 8 ≤ 140737488351232 ∧ ∀ y ∈ a0, (Lit.int .i64 y).wf = true)) → ((Lit.int .i64 a1).wf = true) → P.l50_TapeDraws a0 a1 = some true) : Rows.TapeDrawsSaid :=
  OpenClaim.holds_of_wide 5 Tryd.f5 rfl rfl rfl rfl rfl rfl rfl ⟨rfl, rfl, rfl, rfl, rfl⟩ rfl rfl rfl rfl rfl (by kernel_rfl) Tryd.func5 (by kernel_rfl)
    (of_decide_eq_true (by kernel_rfl)) (by unfold Func.isWrapper; first | (rw [if_pos (by decide +kernel)]; kernel_rfl) | (rw [if_neg (by decide +kernel)]; exact ⟨rfl, rfl⟩))
    (fun os started H enc _ => lifted_l50_TapeDraws law os started H enc)

theorem holds_l50_TapeDraws (law : ∀ (a0 : (List Int)) (a1 : Int), ((a0.length * 8 ≤ 140737488351232 ∧ ∀ y ∈ a0, (Lit.int .i64 y).wf = true)) → ((Lit.int .i64 a1).wf = true) → P.l50_TapeDraws a0 a1 = some true) : Rows.TapeDrawsCardSaid :=
  Claim7.holds_tied_plain_at .later [] [.data, .data, .data] true Rows.tapeDrawsCard.stood.harness false
    (said_l50_TapeDraws law) (fun _ h => by cases h) (by kernel_rfl) (fun _ h => by cases h) tapeDraws_row_tie rfl ⟨rfl, rfl⟩ (by kernel_rfl) rfl
    (fun f fn hf hfn => by
      obtain rfl : f = 5 := Option.some.inj ((show Tryd.prog.funcNamed "kitbag/kitbaglaw50.TapeDraws" = some 5 by kernel_rfl).symm.trans hf) |>.symm
      obtain rfl : fn = Tryd.f5 := (Option.some.inj (Tryd.func5.symm.trans hfn)).symm
      exact ⟨by kernel_rfl, fun j t ht => by
        rw [Tryd.params5] at ht
        have hm : t ∈ [23, 3] := by simpa using Array.mem_of_getElem? ht
        have hall : ([23, 3].all fun u => !Tryd.prog.wantsStandIn u) = true := by kernel_rfl
        exact (show Tryd.prog.wantsStandIn t = false by simpa using List.all_eq_true.1 hall t hm)⟩)
    (by kernel_rfl)

theorem lifted_l50_TapeEqual (law : ∀ (a0 : Int) (a1 : Int) (a2 : Int), ((Lit.int .u8 a0).wf = true) → ((Lit.int .u8 a1).wf = true) → ((Lit.int .u8 a2).wf = true) → P.l50_TapeEqual a0 a1 a2 = some true) (os : Os) (started : os.Started) (H : Type) (enc : TypeId × Value → H) :
    ReturnsInHanded {} Tryd.checked os 6 .any (fun w args => (Rows.tapeEqualSpec.pre enc Tryd.prog Tryd.f6 Rows.tapeEqualRow.domain false w args ∧ laidMetH Tryd.prog laidL w) ∧ sizedMet enc Tryd.prog Tryd.f6 (OpenSpec.ofChange Rows.tapeEqualSpec) false w args) (Rows.tapeEqualSpec.post enc Tryd.prog Tryd.f6 false true false false) := by
  refine row_laid (C := Tryd.checked) (X := fun w _ => laidMetH Tryd.prog laidL w) (fun _ _ _ hh h => h.of_heap hh) (fun _ _ h => laid_tab h) (T := tab) (tb := 4) (n := 2) tok Tryd.own started (by kernel_rfl) Tryd.func6
    (ChangeSpec.witness_shaped (enc := enc) (C := Tryd.checked) (os := os) (X := fun w _ => laidMetH Tryd.prog laidL w) false (World.doorLaid Tryd.prog 400 os) #[.int .u8 0, .int .u8 0, .int .u8 0] 8 rfl (World.shaped_of_RefB (by kernel_rfl) (by kernel_rfl)) (by kernel_rfl) (by kernel_rfl) (by kernel_rfl) (door_met os _)) Tryd.laidOut (by kernel_rfl) rfl (by kernel_rfl) rfl (fun ds hds => ?_) (fun ar hl hs => ?_)
  · rw [Tryd.params6] at hds
    match ds, hds with
    | [d0, d1, d2], _ => exact ⟨rfl, rfl, rfl⟩
  · rw [Tryd.params6] at hl hs
    exact law_of opens_l50_TapeEqual ok_l50_TapeEqual (fun x hx => law x.1 x.2.1 x.2.2 hx.1 hx.2.1 hx.2.2) ar hl hs

theorem said_l50_TapeEqual (law : ∀ (a0 : Int) (a1 : Int) (a2 : Int), ((Lit.int .u8 a0).wf = true) → ((Lit.int .u8 a1).wf = true) → ((Lit.int .u8 a2).wf = true) → P.l50_TapeEqual a0 a1 a2 = some true) : Rows.TapeEqualSaid :=
  OpenClaim.holds_of_wide 6 Tryd.f6 rfl rfl rfl rfl rfl rfl rfl ⟨rfl, rfl, rfl, rfl, rfl⟩ rfl rfl rfl rfl rfl (by kernel_rfl) Tryd.func6 (by kernel_rfl)
    (of_decide_eq_true (by kernel_rfl)) (by unfold Func.isWrapper; first | (rw [if_pos (by decide +kernel)]; kernel_rfl) | (rw [if_neg (by decide +kernel)]; exact ⟨rfl, rfl⟩))
    (fun os started H enc _ => lifted_l50_TapeEqual law os started H enc)

theorem holds_l50_TapeEqual (law : ∀ (a0 : Int) (a1 : Int) (a2 : Int), ((Lit.int .u8 a0).wf = true) → ((Lit.int .u8 a1).wf = true) → ((Lit.int .u8 a2).wf = true) → P.l50_TapeEqual a0 a1 a2 = some true) : Rows.TapeEqualCardSaid :=
  Claim7.holds_tied_plain_at .later [] [.data, .data, .data] true Rows.tapeEqualCard.stood.harness false
    (said_l50_TapeEqual law) (fun _ h => by cases h) (by kernel_rfl) (fun _ h => by cases h) tapeEqual_row_tie rfl ⟨rfl, rfl⟩ (by kernel_rfl) rfl
    (fun f fn hf hfn => by
      obtain rfl : f = 6 := Option.some.inj ((show Tryd.prog.funcNamed "kitbag/kitbaglaw50.TapeEqual" = some 6 by kernel_rfl).symm.trans hf) |>.symm
      obtain rfl : fn = Tryd.f6 := (Option.some.inj (Tryd.func6.symm.trans hfn)).symm
      exact ⟨by kernel_rfl, fun j t ht => by
        rw [Tryd.params6] at ht
        have hm : t ∈ [5, 5, 5] := by simpa using Array.mem_of_getElem? ht
        have hall : ([5, 5, 5].all fun u => !Tryd.prog.wantsStandIn u) = true := by kernel_rfl
        exact (show Tryd.prog.wantsStandIn t = false by simpa using List.all_eq_true.1 hall t hm)⟩)
    (by kernel_rfl)

theorem lifted_l50_TapeOrder (law : ∀ (a0 : (List (List Int))) (a1 : Int) (a2 : Int) (a3 : Int), ((a0.length * 24 ≤ 140737488351232 ∧ ∀ y ∈ a0, (y.length * 8 ≤ 140737488351232 ∧ ∀ z ∈ y, (Lit.int .i64 z).wf = true))) → ((Lit.int .i64 a1).wf = true) → ((Lit.int .i64 a2).wf = true) → ((Lit.int .u8 a3).wf = true) → P.l50_TapeOrder a0 a1 a2 a3 = some true) (os : Os) (started : os.Started) (H : Type) (enc : TypeId × Value → H) :
    ReturnsInHanded {} Tryd.checked os 7 .any (fun w args => (Rows.tapeOrderSpec.pre enc Tryd.prog Tryd.f7 Rows.tapeOrderRow.domain false w args ∧ laidMetH Tryd.prog laidL w) ∧ sizedMet enc Tryd.prog Tryd.f7 (OpenSpec.ofChange Rows.tapeOrderSpec) false w args) (Rows.tapeOrderSpec.post enc Tryd.prog Tryd.f7 false true false false) := by
  refine row_laid (C := Tryd.checked) (X := fun w _ => laidMetH Tryd.prog laidL w) (fun _ _ _ hh h => h.of_heap hh) (fun _ _ h => laid_tab h) (T := tab) (tb := 4) (n := 4) tok Tryd.own started (by kernel_rfl) Tryd.func7
    (ChangeSpec.witness_shaped (enc := enc) (C := Tryd.checked) (os := os) (X := fun w _ => laidMetH Tryd.prog laidL w) false (World.doorLaid Tryd.prog 400 os) #[.slice none 0 0, .int .i64 0, .int .i64 0, .int .u8 0] 8 rfl (World.shaped_of_RefB (by kernel_rfl) (by kernel_rfl)) (by kernel_rfl) (by kernel_rfl) (by kernel_rfl) (door_met os _)) Tryd.laidOut (by kernel_rfl) rfl (by kernel_rfl) rfl (fun ds hds => ?_) (fun ar hl hs => ?_)
  · rw [Tryd.params7] at hds
    match ds, hds with
    | [d0, d1, d2, d3], _ => exact ⟨rfl, rfl, rfl⟩
  · rw [Tryd.params7] at hl hs
    exact law_of opens_l50_TapeOrder ok_l50_TapeOrder (fun x hx => law x.1 x.2.1 x.2.2.1 x.2.2.2 hx.1 hx.2.1 hx.2.2.1 hx.2.2.2) ar hl hs

theorem said_l50_TapeOrder (law : ∀ (a0 : (List (List Int))) (a1 : Int) (a2 : Int) (a3 : Int), ((a0.length * 24 ≤ 140737488351232 ∧ ∀ y ∈ a0, (y.length * 8 ≤ 140737488351232 ∧ ∀ z ∈ y, (Lit.int .i64 z).wf = true))) → ((Lit.int .i64 a1).wf = true) → ((Lit.int .i64 a2).wf = true) → ((Lit.int .u8 a3).wf = true) → P.l50_TapeOrder a0 a1 a2 a3 = some true) : Rows.TapeOrderSaid :=
  OpenClaim.holds_of_wide 7 Tryd.f7 rfl rfl rfl rfl rfl rfl rfl ⟨rfl, rfl, rfl, rfl, rfl⟩ rfl rfl rfl rfl rfl (by kernel_rfl) Tryd.func7 (by kernel_rfl)
    (of_decide_eq_true (by kernel_rfl)) (by unfold Func.isWrapper; first | (rw [if_pos (by decide +kernel)]; kernel_rfl) | (rw [if_neg (by decide +kernel)]; exact ⟨rfl, rfl⟩))
    (fun os started H enc _ => lifted_l50_TapeOrder law os started H enc)

theorem holds_l50_TapeOrder (law : ∀ (a0 : (List (List Int))) (a1 : Int) (a2 : Int) (a3 : Int), ((a0.length * 24 ≤ 140737488351232 ∧ ∀ y ∈ a0, (y.length * 8 ≤ 140737488351232 ∧ ∀ z ∈ y, (Lit.int .i64 z).wf = true))) → ((Lit.int .i64 a1).wf = true) → ((Lit.int .i64 a2).wf = true) → ((Lit.int .u8 a3).wf = true) → P.l50_TapeOrder a0 a1 a2 a3 = some true) : Rows.TapeOrderCardSaid :=
  Claim7.holds_tied_plain_at .later [] [.data, .data, .data] true Rows.tapeOrderCard.stood.harness false
    (said_l50_TapeOrder law) (fun _ h => by cases h) (by kernel_rfl) (fun _ h => by cases h) tapeOrder_row_tie rfl ⟨rfl, rfl⟩ (by kernel_rfl) rfl
    (fun f fn hf hfn => by
      obtain rfl : f = 7 := Option.some.inj ((show Tryd.prog.funcNamed "kitbag/kitbaglaw50.TapeOrder" = some 7 by kernel_rfl).symm.trans hf) |>.symm
      obtain rfl : fn = Tryd.f7 := (Option.some.inj (Tryd.func7.symm.trans hfn)).symm
      exact ⟨by kernel_rfl, fun j t ht => by
        rw [Tryd.params7] at ht
        have hm : t ∈ [22, 3, 3, 5] := by simpa using Array.mem_of_getElem? ht
        have hall : ([22, 3, 3, 5].all fun u => !Tryd.prog.wantsStandIn u) = true := by kernel_rfl
        exact (show Tryd.prog.wantsStandIn t = false by simpa using List.all_eq_true.1 hall t hm)⟩)
    (by kernel_rfl)

theorem lifted_l50_TapeSeals (law : ∀ (a0 : (List (List Int))) (a1 : (List Int)) (a2 : Int) (a3 : Int) (a4 : Int) (a5 : (List Int)) (a6 : Int), ((a0.length * 24 ≤ 140737488351232 ∧ ∀ y ∈ a0, (y.length * 8 ≤ 140737488351232 ∧ ∀ z ∈ y, (Lit.int .i64 z).wf = true))) → ((a1.length * 2 ≤ 140737488351232 ∧ ∀ y ∈ a1, (Lit.int .u16 y).wf = true)) → ((Lit.int .i64 a2).wf = true) → ((Lit.int .i64 a3).wf = true) → ((Lit.int .u8 a4).wf = true) → ((a5.length * 8 ≤ 140737488351232 ∧ ∀ y ∈ a5, (Lit.int .i64 y).wf = true)) → ((Lit.int .i64 a6).wf = true) → P.l50_TapeSeals a0 a1 a2 a3 a4 a5 a6 = some true) (os : Os) (started : os.Started) (H : Type) (enc : TypeId × Value → H) :
    ReturnsInHanded {} Tryd.checked os 8 .any (fun w args => (Rows.tapeSealsSpec.pre enc Tryd.prog Tryd.f8 Rows.tapeSealsRow.domain false w args ∧ laidMetH Tryd.prog laidL w) ∧ sizedMet enc Tryd.prog Tryd.f8 (OpenSpec.ofChange Rows.tapeSealsSpec) false w args) (Rows.tapeSealsSpec.post enc Tryd.prog Tryd.f8 false true false false) := by
  refine row_laid (C := Tryd.checked) (X := fun w _ => laidMetH Tryd.prog laidL w) (fun _ _ _ hh h => h.of_heap hh) (fun _ _ h => laid_tab h) (T := tab) (tb := 4) (n := 4) tok Tryd.own started (by kernel_rfl) Tryd.func8
    (ChangeSpec.witness_shaped (enc := enc) (C := Tryd.checked) (os := os) (X := fun w _ => laidMetH Tryd.prog laidL w) false (World.doorLaid Tryd.prog 400 os) #[.slice none 0 0, .slice none 0 0, .int .i64 0, .int .i64 0, .int .u8 0, .slice none 0 0, .int .i64 0] 8 rfl (World.shaped_of_RefB (by kernel_rfl) (by kernel_rfl)) (by kernel_rfl) (by kernel_rfl) (by kernel_rfl) (door_met os _)) Tryd.laidOut (by kernel_rfl) rfl (by kernel_rfl) rfl (fun ds hds => ?_) (fun ar hl hs => ?_)
  · rw [Tryd.params8] at hds
    match ds, hds with
    | [d0, d1, d2, d3, d4, d5, d6], _ => exact ⟨rfl, rfl, rfl⟩
  · rw [Tryd.params8] at hl hs
    exact law_of opens_l50_TapeSeals ok_l50_TapeSeals (fun x hx => law x.1 x.2.1 x.2.2.1 x.2.2.2.1 x.2.2.2.2.1 x.2.2.2.2.2.1 x.2.2.2.2.2.2 hx.1 hx.2.1 hx.2.2.1 hx.2.2.2.1 hx.2.2.2.2.1 hx.2.2.2.2.2.1 hx.2.2.2.2.2.2) ar hl hs

theorem said_l50_TapeSeals (law : ∀ (a0 : (List (List Int))) (a1 : (List Int)) (a2 : Int) (a3 : Int) (a4 : Int) (a5 : (List Int)) (a6 : Int), ((a0.length * 24 ≤ 140737488351232 ∧ ∀ y ∈ a0, (y.length * 8 ≤ 140737488351232 ∧ ∀ z ∈ y, (Lit.int .i64 z).wf = true))) → ((a1.length * 2 ≤ 140737488351232 ∧ ∀ y ∈ a1, (Lit.int .u16 y).wf = true)) → ((Lit.int .i64 a2).wf = true) → ((Lit.int .i64 a3).wf = true) → ((Lit.int .u8 a4).wf = true) → ((a5.length * 8 ≤ 140737488351232 ∧ ∀ y ∈ a5, (Lit.int .i64 y).wf = true)) → ((Lit.int .i64 a6).wf = true) → P.l50_TapeSeals a0 a1 a2 a3 a4 a5 a6 = some true) : Rows.TapeSealsSaid :=
  OpenClaim.holds_of_wide 8 Tryd.f8 rfl rfl rfl rfl rfl rfl rfl ⟨rfl, rfl, rfl, rfl, rfl⟩ rfl rfl rfl rfl rfl (by kernel_rfl) Tryd.func8 (by kernel_rfl)
    (of_decide_eq_true (by kernel_rfl)) (by unfold Func.isWrapper; first | (rw [if_pos (by decide +kernel)]; kernel_rfl) | (rw [if_neg (by decide +kernel)]; exact ⟨rfl, rfl⟩))
    (fun os started H enc _ => lifted_l50_TapeSeals law os started H enc)

theorem holds_l50_TapeSeals (law : ∀ (a0 : (List (List Int))) (a1 : (List Int)) (a2 : Int) (a3 : Int) (a4 : Int) (a5 : (List Int)) (a6 : Int), ((a0.length * 24 ≤ 140737488351232 ∧ ∀ y ∈ a0, (y.length * 8 ≤ 140737488351232 ∧ ∀ z ∈ y, (Lit.int .i64 z).wf = true))) → ((a1.length * 2 ≤ 140737488351232 ∧ ∀ y ∈ a1, (Lit.int .u16 y).wf = true)) → ((Lit.int .i64 a2).wf = true) → ((Lit.int .i64 a3).wf = true) → ((Lit.int .u8 a4).wf = true) → ((a5.length * 8 ≤ 140737488351232 ∧ ∀ y ∈ a5, (Lit.int .i64 y).wf = true)) → ((Lit.int .i64 a6).wf = true) → P.l50_TapeSeals a0 a1 a2 a3 a4 a5 a6 = some true) : Rows.TapeSealsCardSaid :=
  Claim7.holds_tied_plain_at .later [] [.data, .data, .data] true Rows.tapeSealsCard.stood.harness false
    (said_l50_TapeSeals law) (fun _ h => by cases h) (by kernel_rfl) (fun _ h => by cases h) tapeSeals_row_tie rfl ⟨rfl, rfl⟩ (by kernel_rfl) rfl
    (fun f fn hf hfn => by
      obtain rfl : f = 8 := Option.some.inj ((show Tryd.prog.funcNamed "kitbag/kitbaglaw50.TapeSeals" = some 8 by kernel_rfl).symm.trans hf) |>.symm
      obtain rfl : fn = Tryd.f8 := (Option.some.inj (Tryd.func8.symm.trans hfn)).symm
      exact ⟨by kernel_rfl, fun j t ht => by
        rw [Tryd.params8] at ht
        have hm : t ∈ [22, 46, 3, 3, 5, 23, 3] := by simpa using Array.mem_of_getElem? ht
        have hall : ([22, 46, 3, 3, 5, 23, 3].all fun u => !Tryd.prog.wantsStandIn u) = true := by kernel_rfl
        exact (show Tryd.prog.wantsStandIn t = false by simpa using List.all_eq_true.1 hall t hm)⟩)
    (by kernel_rfl)
end Go.Proofs.YtdecgihkgpgejaaDoor.Am
