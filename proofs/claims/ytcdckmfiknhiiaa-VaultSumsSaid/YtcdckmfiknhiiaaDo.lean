/- The laws as rows: arguments opened (written by wip/dec.py). -/
import Derived.Test.YtcdckmfiknhiiaaBi
import Derived.Test.YtcdckmfiknhiiaaDm
import Derived.Test.YtcdckmfiknhiiaaRows
namespace Go.Proofs.Ytcdckmfiknhiiaa.Am
open Go.ChangeShapes Go.WideShapes Go.ChangeAt Go.RowKit Go.Proofs.Ytcdckmfiknhiiaa.P
set_option maxRecDepth 100000
set_option linter.unusedVariables false

theorem Try.own : ownKnob Try.prog.godebug = none := by kernel_rfl
theorem Try.laidOut : laidOutB Try.prog = true := by kernel_rfl

theorem op_9 (n : Nat) : OpE tab (n + 1) 9 eStr (fun x => x.size ≤ maxLen) := opStr tab_9 rfl rfl

theorem op_3 (n : Nat) : OpE tab (n + 1) 3 (eI .i64) (fun x => (Lit.int .i64 x).wf = true) := opI tab_3 rfl rfl

def ok_TThing (x : TThing) : Prop := x.f_Text.size ≤ maxLen ∧ ((Lit.int .i64 x.f_Value).wf = true ∧ ((Lit.int .i64 x.f_Blind).wf = true ∧ ((Lit.int .i64 x.f_Left).wf = true ∧ ((Lit.int .i64 x.f_Right).wf = true))))

theorem op_39 (n : Nat) : OpE tab (n + 2) 39 eTThing (fun x => ok_TThing x) := opS (g := fun y => TThing.mk y.1 y.2.1 y.2.2.1 y.2.2.2.1 y.2.2.2.2) tab_39 rfl rfl (fun _ => rfl) (opFC (op_9 n) rfl (opFC (op_3 n) rfl (opFC (op_3 n) rfl (opFC (op_3 n) rfl (opF1 (op_3 n))))))

theorem op_22 (n : Nat) : OpE tab (n + 3) 22 (eSl eTThing) (fun x => (x.length ≤ maxLen ∧ ∀ y ∈ x, ok_TThing y)) := opSl tab_22 rfl rfl (op_39 n)

def ok_TVault (x : TVault) : Prop := (x.f_Things.length ≤ maxLen ∧ ∀ y ∈ x.f_Things, ok_TThing y)

theorem op_24 (n : Nat) : OpE tab (n + 4) 24 eTVault (fun x => ok_TVault x) := opS (g := fun y => TVault.mk y) tab_24 rfl rfl (fun _ => rfl) (opF1 (op_22 n))

theorem op_4 (n : Nat) : OpE tab (n + 1) 4 eBool (fun x => True) := opBool tab_4 rfl rfl

def ok_TPut (x : TPut) : Prop := True ∧ (x.f_Text.size ≤ maxLen ∧ ((Lit.int .i64 x.f_Value).wf = true ∧ ((Lit.int .i64 x.f_Blind).wf = true)))

theorem op_37 (n : Nat) : OpE tab (n + 2) 37 eTPut (fun x => ok_TPut x) := opS (g := fun y => TPut.mk y.1 y.2.1 y.2.2.1 y.2.2.2) tab_37 rfl rfl (fun _ => rfl) (opFC (op_4 n) rfl (opFC (op_9 n) rfl (opFC (op_3 n) rfl (opF1 (op_3 n)))))

theorem op_35 (n : Nat) : OpE tab (n + 3) 35 (eSl eTPut) (fun x => (x.length ≤ maxLen ∧ ∀ y ∈ x, ok_TPut y)) := opSl tab_35 rfl rfl (op_37 n)

theorem opens_l35_VaultKeeps : OpAs tab 5 [24, 35, 3, 9, 3, 3] (asC (aAgg eTVault) (asC (aSl eTPut) (asC (aI .i64) (asC aStr (asC (aI .i64) (as1 (aI .i64))))))) (fun x => ok_TVault x.1 ∧ ((x.2.1.length ≤ maxLen ∧ ∀ y ∈ x.2.1, ok_TPut y) ∧ ((Lit.int .i64 x.2.2.1).wf = true ∧ (x.2.2.2.1.size ≤ maxLen ∧ ((Lit.int .i64 x.2.2.2.2.1).wf = true ∧ ((Lit.int .i64 x.2.2.2.2.2).wf = true)))))) := (oasC (oaS tab_24 rfl (op_24 1)) (oasC (oaSl tab_35 rfl (op_35 2)) (oasC (oaI tab_3 rfl) (oasC (oaStr tab_9 rfl) (oasC (oaI tab_3 rfl) (oas1 (oaI tab_3 rfl)))))))

theorem op_5 (n : Nat) : OpE tab (n + 1) 5 (eI .u8) (fun x => (Lit.int .u8 x).wf = true) := opI tab_5 rfl rfl

theorem opens_l35_VaultSums : OpAs tab 5 [24, 5] (asC (aAgg eTVault) (as1 (aI .u8))) (fun x => ok_TVault x.1 ∧ ((Lit.int .u8 x.2).wf = true)) := (oasC (oaS tab_24 rfl (op_24 1)) (oas1 (oaI tab_5 rfl)))

theorem lifted_l35_VaultKeeps (law : ∀ (a0 : TVault) (a1 : (List TPut)) (a2 : Int) (a3 : ByteArray) (a4 : Int) (a5 : Int), (ok_TVault a0) → ((a1.length ≤ maxLen ∧ ∀ y ∈ a1, ok_TPut y)) → ((Lit.int .i64 a2).wf = true) → (a3.size ≤ maxLen) → ((Lit.int .i64 a4).wf = true) → ((Lit.int .i64 a5).wf = true) → P.l35_VaultKeeps a0 a1 a2 a3 a4 a5 = some true) (os : Os) (started : os.Started) (H : Type) (enc : TypeId × Value → H) :
    ReturnsInHanded {} Try.checked os 4 .any (Rows.vaultKeepsSpec.pre6 enc Try.prog Try.f4 Rows.vaultKeepsRow.domain false) (Rows.vaultKeepsSpec.post enc Try.prog Try.f4 false true false false) := by
  refine row_lifted (C := Try.checked) (T := tab) (tb := 4) (n := 5) tok Try.own started (by kernel_rfl) Try.func4
    (ChangeSpec.witness6 (enc := enc) (C := Try.checked) false ⟨#[], #[.agg #[.slice none 0 0], .slice none 0 0, .int .i64 0, .string ⟨#[]⟩, .int .i64 0, .int .i64 0], []⟩ 8 (by kernel_rfl) (by kernel_rfl) (by kernel_rfl) (by kernel_rfl)) Try.laidOut (by kernel_rfl) rfl (by kernel_rfl) rfl (fun ds hds => ?_) (fun ar hl hs => ?_)
  · rw [Try.params4] at hds
    match ds, hds with
    | [d0, d1, d2, d3, d4, d5], _ => exact ⟨rfl, rfl, rfl⟩
  · rw [Try.params4] at hl hs
    exact law_of opens_l35_VaultKeeps ok_l35_VaultKeeps (fun x hx => law x.1 x.2.1 x.2.2.1 x.2.2.2.1 x.2.2.2.2.1 x.2.2.2.2.2 hx.1 hx.2.1 hx.2.2.1 hx.2.2.2.1 hx.2.2.2.2.1 hx.2.2.2.2.2) ar hl hs

theorem holds_l35_VaultKeeps (law : ∀ (a0 : TVault) (a1 : (List TPut)) (a2 : Int) (a3 : ByteArray) (a4 : Int) (a5 : Int), (ok_TVault a0) → ((a1.length ≤ maxLen ∧ ∀ y ∈ a1, ok_TPut y)) → ((Lit.int .i64 a2).wf = true) → (a3.size ≤ maxLen) → ((Lit.int .i64 a4).wf = true) → ((Lit.int .i64 a5).wf = true) → P.l35_VaultKeeps a0 a1 a2 a3 a4 a5 = some true) : Rows.VaultKeepsSaid :=
  OpenClaim.holds_of_wide 4 Try.f4 rfl rfl rfl rfl rfl rfl rfl ⟨rfl, rfl, rfl, rfl, rfl⟩ rfl rfl rfl rfl rfl (by kernel_rfl) Try.func4 (by kernel_rfl)
    (of_decide_eq_true (by kernel_rfl)) (by unfold Func.isWrapper; first | (rw [if_pos (by decide +kernel)]; kernel_rfl) | (rw [if_neg (by decide +kernel)]; exact ⟨rfl, rfl⟩))
    (fun os started H enc _ => lifted_l35_VaultKeeps law os started H enc)

theorem lifted_l35_VaultSums (law : ∀ (a0 : TVault) (a1 : Int), (ok_TVault a0) → ((Lit.int .u8 a1).wf = true) → P.l35_VaultSums a0 a1 = some true) (os : Os) (started : os.Started) (H : Type) (enc : TypeId × Value → H) :
    ReturnsInHanded {} Try.checked os 5 .any (Rows.vaultSumsSpec.pre6 enc Try.prog Try.f5 Rows.vaultSumsRow.domain false) (Rows.vaultSumsSpec.post enc Try.prog Try.f5 false true false false) := by
  refine row_lifted (C := Try.checked) (T := tab) (tb := 4) (n := 5) tok Try.own started (by kernel_rfl) Try.func5
    (ChangeSpec.witness6 (enc := enc) (C := Try.checked) false ⟨#[], #[.agg #[.slice none 0 0], .int .u8 0], []⟩ 8 (by kernel_rfl) (by kernel_rfl) (by kernel_rfl) (by kernel_rfl)) Try.laidOut (by kernel_rfl) rfl (by kernel_rfl) rfl (fun ds hds => ?_) (fun ar hl hs => ?_)
  · rw [Try.params5] at hds
    match ds, hds with
    | [d0, d1], _ => exact ⟨rfl, rfl, rfl⟩
  · rw [Try.params5] at hl hs
    exact law_of opens_l35_VaultSums ok_l35_VaultSums (fun x hx => law x.1 x.2 hx.1 hx.2) ar hl hs

theorem holds_l35_VaultSums (law : ∀ (a0 : TVault) (a1 : Int), (ok_TVault a0) → ((Lit.int .u8 a1).wf = true) → P.l35_VaultSums a0 a1 = some true) : Rows.VaultSumsSaid :=
  OpenClaim.holds_of_wide 5 Try.f5 rfl rfl rfl rfl rfl rfl rfl ⟨rfl, rfl, rfl, rfl, rfl⟩ rfl rfl rfl rfl rfl (by kernel_rfl) Try.func5 (by kernel_rfl)
    (of_decide_eq_true (by kernel_rfl)) (by unfold Func.isWrapper; first | (rw [if_pos (by decide +kernel)]; kernel_rfl) | (rw [if_neg (by decide +kernel)]; exact ⟨rfl, rfl⟩))
    (fun os started H enc _ => lifted_l35_VaultSums law os started H enc)
end Go.Proofs.Ytcdckmfiknhiiaa.Am
