/- The vault as an argument: its shape. -/
import Derived.Test.YtcdckmfiknhiiaaWh
import Derived.Test.YtcdckmfiknhiiaaVj
namespace Go.Proofs.Ytcdckmfiknhiiaa.Vm
open Go.RowKit
set_option linter.unusedSimpArgs false
set_option linter.unusedVariables false

theorem flat_map : ∀ l : List Th, flat l = (l.map Th.cells).flatten
  | [] => rfl
  | x :: l => by
    show x.cells ++ flat l = _
    rw [flat_map l]
    rfl

theorem five {xs : List D} (h : xs.length = 5) : ∃ a b c d e, xs = [a, b, c, d, e] := by
  match xs, h with
  | [a, b, c, d, e], _ => exact ⟨a, b, c, d, e, rfl⟩

theorem thing_of {n : Nat} {xs : List D} (h : TyD tab (n + 2) 39 xs) : ∃ x : Th, xs = x.cells := by
  obtain ⟨h1, h2⟩ := tyd_struct h tab_39 rfl
  obtain ⟨a, b, c, d, e, rfl⟩ := five h1
  obtain ⟨s, hs, _⟩ := tyd_str (tyd_field h2 (f := 9) (o := 0) (by decide) tab_9) tab_9 rfl
  obtain ⟨i1, h3, _⟩ := tyd_int (tyd_field h2 (f := 3) (o := 1) (by decide) tab_3) tab_3 rfl
  obtain ⟨i2, h4, _⟩ := tyd_int (tyd_field h2 (f := 3) (o := 2) (by decide) tab_3) tab_3 rfl
  obtain ⟨i3, h5, _⟩ := tyd_int (tyd_field h2 (f := 3) (o := 3) (by decide) tab_3) tab_3 rfl
  obtain ⟨i4, h6, _⟩ := tyd_int (tyd_field h2 (f := 3) (o := 4) (by decide) tab_3) tab_3 rfl
  simp only [List.drop_zero, List.drop_succ_cons, List.take_succ_cons, List.take_zero, List.cons.injEq, and_true] at hs h3 h4 h5 h6
  subst hs h3 h4 h5 h6
  exact ⟨⟨s, i1, i2, i3, i4⟩, rfl⟩

theorem vault_of {n : Nat} {d : D} (h : ArgD tab (n + 4) 24 d) : ∃ nl l, d = .agg [.sl nl false l.length (flat l)] ∧ nlOk nl l.length = true ∧ l.length ≤ maxLen := by
  obtain ⟨xs, rfl, hh⟩ := arg_struct h tab_24 rfl
  obtain ⟨h1, h2⟩ := tyd_struct hh tab_24 rfl
  match xs, h1 with
  | [x], _ =>
    obtain ⟨nl, len, ys, h3, h4, h5, h6, h7⟩ := tyd_slice (tyd_field h2 (f := 22) (o := 0) (by decide) tab_22) tab_22 rfl tab_39
    simp only [List.drop_zero, List.take_succ_cons, List.take_zero, List.cons.injEq, and_true] at h3
    subst h3
    obtain ⟨l, hl, hy⟩ := segs 5 Th.cells len ys h6 (fun i hi => thing_of (h7 i hi))
    rw [← flat_map] at hy
    subst hl hy
    refine ⟨nl, l, rfl, ?_, h5⟩
    cases nl with
    | false => rfl
    | true => have := h4 rfl; simp [nlOk, this]
end Go.Proofs.Ytcdckmfiknhiiaa.Vm
