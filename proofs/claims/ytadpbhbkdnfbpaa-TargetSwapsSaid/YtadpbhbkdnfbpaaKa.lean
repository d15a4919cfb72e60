/- Sets of edits: lists of bits, and their order. -/
import Derived.Test.YtadpbhbkdnfbpaaFh
import Derived.WalkKit
namespace Go.Proofs.Ytadpbhbkdnfbpaa.P
open Go.RowKit
set_option linter.unusedSimpArgs false
set_option linter.unusedVariables false

/-- The elements of a set. -/
def bl (s : Nat) : List Int := ((List.range 8).filter (fun i : Nat => s.testBit i)).map (fun i : Nat => (Int.ofNat i))
theorem list_all : ((List.range 32).all fun s => target_list (s : Int) == some (bl s)) = true := by decide +kernel
theorem list_eq {s : Nat} (h : s < 32) : target_list (s : Int) = some (bl s) := by
  have hh := list_all
  simp only [List.all_eq_true, List.mem_range, beq_iff_eq] at hh
  exact hh s h
/-- All sets of at most 5 edits, in order. -/
def ord5 : List Nat := [0, 1, 2, 4, 8, 16, 3, 5, 9, 17, 6, 10, 18, 12, 20, 24, 7, 11, 19, 13, 21, 25, 14, 22, 26, 28, 15, 23, 27, 29, 30, 31]
def rk5 (s : Nat) : Nat := ord5.idxOf s
theorem cmp_all : ((List.range 32).all fun s => (List.range 32).all fun t => (target_compare (bl s) (bl t)).map (fun c => decide (c < 0)) == some (decide (rk5 s < rk5 t))) = true := by decide +kernel
theorem cmp5 {s t : Nat} (hs : s < 32) (ht : t < 32) : ∃ c, target_compare (bl s) (bl t) = some c ∧ (c < 0 ↔ rk5 s < rk5 t) := by
  have hh := cmp_all
  simp only [List.all_eq_true, List.mem_range, beq_iff_eq] at hh
  have := hh s hs t ht
  rw [Option.map_eq_some_iff] at this
  obtain ⟨c, h1, h2⟩ := this
  exact ⟨c, h1, by rw [← decide_eq_decide]; exact h2⟩
theorem rk5_all : ((List.range 32).all fun s => (List.range 32).all fun t => s == t || rk5 s != rk5 t) = true := by decide +kernel
theorem rk5_inj {s t : Nat} (hs : s < 32) (ht : t < 32) (h : rk5 s = rk5 t) : s = t := by
  have hh := rk5_all
  simp only [List.all_eq_true, List.mem_range, beq_iff_eq, Bool.or_eq_true, bne_iff_ne, ne_eq] at hh
  exact (hh s hs t ht).resolve_right fun hn => hn h
end Go.Proofs.Ytadpbhbkdnfbpaa.P
