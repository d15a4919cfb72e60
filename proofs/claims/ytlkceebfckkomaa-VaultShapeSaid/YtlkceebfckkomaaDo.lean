/- The laws as rows: arguments opened (written by wip/dec.py). -/
import Derived.Test.YtlkceebfckkomaaBi
import Derived.Test.YtlkceebfckkomaaDma
import Derived.Test.YtlkceebfckkomaaRows
namespace Go.Proofs.Ytlkceebfckkomaa.Am
open Go.ChangeShapes Go.WideShapes Go.ChangeAt Go.RowKit Go.Proofs.Ytlkceebfckkomaa.P
set_option maxRecDepth 100000
set_option linter.unusedVariables false

theorem Try.own : ownKnob Try.prog.godebug = none := by kernel_rfl
theorem Try.laidOut : laidOutB Try.prog = true := by kernel_rfl

theorem op_9 (n : Nat) : OpE tab (n + 1) 9 eStr (fun x => x.size ≤ 140737488351232) := opStr tab_9 rfl rfl

theorem op_3 (n : Nat) : OpE tab (n + 1) 3 (eI .i64) (fun x => (Lit.int .i64 x).wf = true) := opI tab_3 rfl rfl

def ok_TThing (x : TThing) : Prop := x.f_Text.size ≤ 140737488351232 ∧ ((Lit.int .i64 x.f_Value).wf = true ∧ ((Lit.int .i64 x.f_Blind).wf = true ∧ ((Lit.int .i64 x.f_Left).wf = true ∧ ((Lit.int .i64 x.f_Right).wf = true))))

theorem op_30 (n : Nat) : OpE tab (n + 2) 30 eTThing (fun x => ok_TThing x) := opS (g := fun y => TThing.mk y.1 y.2.1 y.2.2.1 y.2.2.2.1 y.2.2.2.2) tab_30 rfl rfl (fun _ => rfl) (opFC (op_9 n) rfl (opFC (op_3 n) rfl (opFC (op_3 n) rfl (opFC (op_3 n) rfl (opF1 (op_3 n))))))

theorem op_22 (n : Nat) : OpE tab (n + 3) 22 (eSl eTThing) (fun x => (x.length * 48 ≤ 140737488351232 ∧ ∀ y ∈ x, ok_TThing y)) := opSl tab_22 rfl rfl (by rw [tab_30]; rfl) (op_30 n)

def ok_TVault (x : TVault) : Prop := (x.f_Things.length * 48 ≤ 140737488351232 ∧ ∀ y ∈ x.f_Things, ok_TThing y)

theorem op_24 (n : Nat) : OpE tab (n + 4) 24 eTVault (fun x => ok_TVault x) := opS (g := fun y => TVault.mk y) tab_24 rfl rfl (fun _ => rfl) (opF1 (op_22 n))

theorem op_5 (n : Nat) : OpE tab (n + 1) 5 (eI .u8) (fun x => (Lit.int .u8 x).wf = true) := opI tab_5 rfl rfl

theorem op_25 (n : Nat) : OpE tab (n + 1) 25 (eI .i16) (fun x => (Lit.int .i16 x).wf = true) := opI tab_25 rfl rfl

theorem opens_l35_VaultShape : OpAs tab 5 [24, 5, 25] (asC (aAgg eTVault) (asC (aI .u8) (as1 (aI .i16)))) (fun x => ok_TVault x.1 ∧ ((Lit.int .u8 x.2.1).wf = true ∧ ((Lit.int .i16 x.2.2).wf = true))) := (oasC (oaS tab_24 rfl (op_24 1)) (oasC (oaI tab_5 rfl) (oas1 (oaI tab_25 rfl))))

theorem lifted_l35_VaultShape (law : ∀ (a0 : TVault) (a1 : Int) (a2 : Int), (ok_TVault a0) → ((Lit.int .u8 a1).wf = true) → ((Lit.int .i16 a2).wf = true) → P.l35_VaultShape a0 a1 a2 = some true) (os : Os) (started : os.Started) (H : Type) (enc : TypeId × Value → H) :
    ReturnsInHanded {} Try.checked os 3 .any (Rows.vaultShapeSpec.pre6 enc Try.prog Try.f3 Rows.vaultShapeRow.domain false) (Rows.vaultShapeSpec.post enc Try.prog Try.f3 false true false false) := by
  refine row_lifted (C := Try.checked) (T := tab) (tb := 4) (n := 5) tok Try.own started (by kernel_rfl) Try.func3
    (ChangeSpec.witness6 (enc := enc) (C := Try.checked) false ⟨#[], #[.agg #[.slice none 0 0], .int .u8 0, .int .i16 0], []⟩ 8 (by kernel_rfl) (by kernel_rfl) (by kernel_rfl) (by kernel_rfl)) Try.laidOut (by kernel_rfl) rfl (by kernel_rfl) rfl (fun ds hds => ?_) (fun ar hl hs => ?_)
  · rw [Try.params3] at hds
    match ds, hds with
    | [d0, d1, d2], _ => exact ⟨rfl, rfl, rfl⟩
  · rw [Try.params3] at hl hs
    exact law_of opens_l35_VaultShape ok_l35_VaultShape (fun x hx => law x.1 x.2.1 x.2.2 hx.1 hx.2.1 hx.2.2) ar hl hs

theorem holds_l35_VaultShape (law : ∀ (a0 : TVault) (a1 : Int) (a2 : Int), (ok_TVault a0) → ((Lit.int .u8 a1).wf = true) → ((Lit.int .i16 a2).wf = true) → P.l35_VaultShape a0 a1 a2 = some true) : Rows.VaultShapeSaid :=
  OpenClaim.holds_of_wide 3 Try.f3 rfl rfl rfl rfl rfl rfl rfl ⟨rfl, rfl, rfl, rfl, rfl⟩ rfl rfl rfl rfl rfl (by kernel_rfl) Try.func3 (by kernel_rfl)
    (of_decide_eq_true (by kernel_rfl)) (by unfold Func.isWrapper; first | (rw [if_pos (by decide +kernel)]; kernel_rfl) | (rw [if_neg (by decide +kernel)]; exact ⟨rfl, rfl⟩))
    (fun os started H enc _ => lifted_l35_VaultShape law os started H enc)
end Go.Proofs.Ytlkceebfckkomaa.Am
