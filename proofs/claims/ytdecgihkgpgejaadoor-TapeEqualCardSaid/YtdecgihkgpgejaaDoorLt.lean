/- The tables that the rows list: from the rows' condition to what the machine asks; a world that meets it. -/
import Derived.Test.YtdecgihkgpgejaaDoorBi
import Derived.Test.YtdecgihkgpgejaaDoorRows
import Derived.Lib.LaidTab
import Derived.Lib.ItoaNum
import Derived.LaidMore
import Derived.LaidHandle
import Derived.MakeChecks
import Derived.Stop.LaidErr
namespace Go.Proofs.YtdecgihkgpgejaaDoor.Am
open Go.RowKit Go.Proofs.YtdecgihkgpgejaaDoor.P
set_option linter.unusedSimpArgs false
set_option linter.unusedVariables false
set_option maxRecDepth 100000

noncomputable def laidL : List (String × DataW Unit) := [("math/bits.deBruijn32tab", Rows.laid_math_bits_deBruijn32tab), ("math/bits.deBruijn64tab", Rows.laid_math_bits_deBruijn64tab), ("internal/strconv.uint64pow10", Rows.laid_internal_strconv_uint64pow10)]
theorem door_met (os : Os) (args : Array Value) : laidMetH Tryd.prog laidL ((World.doorLaid Tryd.prog 400 os).forCall (fun _ _ => 0) ⟨#[], args, []⟩).memory :=
  laidMetH_of_parts3 (fuel := 8) (laidMet_of_run' 8 (by kernel_rfl) (by kernel_rfl)) (by kernel_rfl) (by kernel_rfl)
theorem laid_is : Rows.laid_internal_strconv_uint64pow10 (H := Unit) = Lib.tabData .u64 Lib.pow10Tab := by
  simp [Rows.laid_internal_strconv_uint64pow10, Lib.tabData, Lib.pow10Tab, List.range, List.range.loop]
theorem laid_tab {w : World} (h : laidMetH Tryd.prog laidL w) : TabR w (fun _ => False) := fun b hb => by
  rw [MakeChecks.laidMetH_plain _ _ _ (by kernel_rfl)] at h
  have h3 : laidMet Tryd.prog [("internal/strconv.uint64pow10", Rows.laid_internal_strconv_uint64pow10)] w := h.tail.tail
  rw [laid_is] at h3
  have ht : Lib.TabIs Tryd.prog w "internal/strconv.uint64pow10" .u64 Lib.pow10Tab := Lib.tabIs_of_head (g := 0) (t := 120) (e := 101) (n := 20) (by kernel_rfl) (by kernel_rfl) (by kernel_rfl) (by kernel_rfl) (by kernel_rfl) (by kernel_rfl) h3
  cases hb
  have hg : Tryd.prog.globalNamed "internal/strconv.uint64pow10" = some 0 := by kernel_rfl
  simp only [Lib.TabIs, World.var?, hg, Option.bind_some] at ht
  have hc : ∃ ty fr, w.heap[0]? = some (.cells pow10V ty fr) := by
    split at ht
    · rename_i cs ty fr hcs
      refine ⟨ty, fr, ?_⟩
      rw [hcs]
      have e : cs = pow10V := by
        have := Option.some.inj ht
        rw [this]
        simp [Lib.pow10Tab, pow10V]
      rw [e]
    · cases ht
  obtain ⟨ty, fr, hc⟩ := hc
  exact ⟨(Array.getElem?_eq_some_iff.1 hc).1, fun h => h, ty, fr, hc⟩
end Go.Proofs.YtdecgihkgpgejaaDoor.Am
