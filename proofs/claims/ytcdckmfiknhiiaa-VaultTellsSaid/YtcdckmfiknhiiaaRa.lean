/- The statement VaultTells, proved: for every input that can be read the law returns true, and the input reads as it did. Conditions: none. -/
import Derived.Test.YtcdckmfiknhiiaaVk
import Derived.Test.YtcdckmfiknhiiaaRows
namespace Go.Proofs.Ytcdckmfiknhiiaa
open Go.ChangeShapes Go.WideShapes Go.ChangeAt Go.RowKit Go.Proofs.Ytcdckmfiknhiiaa.Vm
set_option linter.unusedSimpArgs false
set_option linter.unusedVariables false

theorem Try.own : ownKnob Try.prog.godebug = none := by kernel_rfl
theorem Try.laidOut : laidOutB Try.prog = true := by kernel_rfl

theorem tells_lifted (os : Os) (started : os.Started) (H : Type) (enc : TypeId × Value → H) :
    ReturnsInHanded {} Try.checked os 3 .any (Rows.vaultTellsSpec.pre6 enc Try.prog Try.f3 Rows.vaultTellsRow.domain false) (Rows.vaultTellsSpec.post enc Try.prog Try.f3 false true false false) := by
  refine row_lifted (C := Try.checked) (T := tab) (tb := 4) (n := 4) tok Try.own started (by kernel_rfl) Try.func3
    (ChangeSpec.witness6 (enc := enc) (C := Try.checked) false ⟨#[], #[.agg #[.slice none 0 0], .string ⟨#[]⟩, .int .i64 0, .int .i64 0], []⟩ 8 (by kernel_rfl) (by kernel_rfl) (by kernel_rfl) (by kernel_rfl)) Try.laidOut (by kernel_rfl) rfl (by kernel_rfl) rfl (fun ds hds => ?_) (fun ar hl hs => ?_)
  · rw [Try.params3] at hds
    match ds, hds with
    | [a, b, c, d], _ => exact ⟨rfl, rfl, rfl⟩
  · rw [Try.params3] at hl hs
    obtain ⟨a, ar, rfl, ha, hl, hs⟩ := argsC hl hs
    obtain ⟨b, ar, rfl, hb, hl, hs⟩ := argsC hl hs
    obtain ⟨c, ar, rfl, hc, hl, hs⟩ := argsC hl hs
    obtain ⟨d, rfl, hd⟩ := args1 hl hs
    obtain ⟨nl, l, rfl, hnl, _⟩ := vault_of ha
    obtain ⟨s, rfl, _⟩ := arg_str hb tab_9 rfl
    obtain ⟨i, rfl, _⟩ := arg_int hc tab_3 rfl
    obtain ⟨j, rfl, _⟩ := arg_int hd tab_3 rfl
    exact tells l nl false hnl s i j

theorem vaultTells_holds : Rows.VaultTellsSaid :=
  OpenClaim.holds_of_wide 3 Try.f3 rfl rfl rfl rfl rfl rfl rfl ⟨rfl, rfl, rfl, rfl, rfl⟩ rfl rfl rfl rfl rfl (by kernel_rfl) Try.func3 (by kernel_rfl)
    (of_decide_eq_true (by kernel_rfl)) (by unfold Func.isWrapper; first | (rw [if_pos (by decide +kernel)]; kernel_rfl) | (rw [if_neg (by decide +kernel)]; exact ⟨rfl, rfl⟩))
    (fun os started H enc _ => tells_lifted os started H enc)

end Go.Proofs.Ytcdckmfiknhiiaa
