/- The examples; FirmTells. -/
import Derived.Test.YtnnkcegdkhclcaaLd
import Derived.KernelRfl
namespace Go.Proofs.Ytnnkcegdkhclcaa.P
open Go.RowKit
set_option linter.unusedSimpArgs false
set_option linter.unusedVariables false

theorem ans_val {ds : List TDeed} {h day : Int} {L : List Int} (hw : W ds) (hr : r41_Answers ds h day = some L) : firm_Answers ds h day = some L := by
  obtain ⟨L', h1, h2, _⟩ := ans_same hw h day
  rw [hr] at h2
  cases h2
  exact h1
def ex3 : List TDeed := [TDeed.mk 1 10 3 ([4, 5]), TDeed.mk 2 20 4 ([6]), TDeed.mk 0 30 5 ([])]
theorem W_of {ds : List TDeed} (h : (decide (ds.length * 48 ≤ 140737488351232) && ds.all fun d => decide (d.f_Others.length * 8 ≤ 140737488351232)) = true) : W ds := by
  simp only [Bool.and_eq_true, decide_eq_true_eq, List.all_eq_true] at h
  exact ⟨h.1, h.2⟩
theorem W_ex3 : W ex3 := W_of (by kernel_rfl)
theorem ex_0 : l41_example ([]) = some ex3 := by kernel_rfl
theorem ex_1 : (l41_example ([(TDeed.mk 2 20 7 ([4]))])).bind firm_Check = some 7 := by kernel_rfl
theorem ex_2 : (l41_example ([(TDeed.mk 2 19 7 ([4]))])).bind firm_Check = some 0 := by kernel_rfl
theorem ex_3 : (l41_example ([(TDeed.mk 2 40 6 ([3]))])).bind firm_Check = some 7 := by kernel_rfl
theorem ea_1 : firm_Answers ex3 3 9 = some [3] := ans_val W_ex3 (by kernel_rfl)
theorem ea_2 : firm_Answers ex3 3 10 = some [4, 5] := ans_val W_ex3 (by kernel_rfl)
theorem ea_3 : firm_Answers ex3 3 20 = some [5, 6] := ans_val W_ex3 (by kernel_rfl)
theorem ea_4 : firm_Answers ex3 3 30 = some [6] := ans_val W_ex3 (by kernel_rfl)
theorem ea_5 : firm_Answers ex3 5 30 = some [] := ans_val W_ex3 (by kernel_rfl)
theorem ev_1 : firm_Alive ex3 4 19 = some true := by kernel_rfl
theorem bind_two {α β γ : Type} {o : Option α} {f : α → Option β} {r : β} (g : β → Option γ) (h : o.bind f = some r) : (o.bind fun x => (f x).bind fun y => g y) = g r := by
  cases o with
  | none => cases h
  | some x => simp only [Option.bind_some] at h ⊢; rw [h]; rfl
theorem sane_eq : l41_sane = some true := by
  unfold l41_sane
  simp only [ex_0, Option.bind_some, ea_1, ea_2, ea_3, ea_4, same_eq (show ([3] : List Int).length < 4611686018427387904 by decide), same_eq (show ([4, 5] : List Int).length < 4611686018427387904 by decide), same_eq (show ([5, 6] : List Int).length < 4611686018427387904 by decide), same_eq (show ([6] : List Int).length < 4611686018427387904 by decide), decide_true, if_true]
  rw [bind_two _ ex_1, bind_two _ ex_2, bind_two _ ex_3]
  simp only [ea_5, ev_1, Option.bind_some]
  rfl

theorem few_total {ds : List TDeed} (hw : W ds) : ∃ b, r41_Few ds = some b := by
  obtain ⟨r, h1, _⟩ := loopL_of (body := r41_Few_L1 ds) (s := 0) (fun s => ∃ i : Nat, s = i ∧ i ≤ ds.length) (fun s => ds.length - s.toNat) (fun _ => True) ⟨0, rfl, Nat.zero_le _⟩ (by have := hw.len; show ds.length - _ < FU; rw [FU_eq]; omega) (by
    rintro s ⟨i, rfl, hi⟩
    have hlen := hw.len
    rcases Nat.lt_or_ge i ds.length with h | h
    · have hx : ds[i]? = some ds[i] := List.getElem?_eq_getElem h
      have hc : decide ((i : Int) < (ds.length : Int)) = true := by simp; omega
      cases h4 : decide ((i : Int) < 411) with
      | true =>
        cases ho : decide ((ds[i].f_Others.length : Int) > 14) with
        | true =>
          right
          exact ⟨.inr false, by simp only [r41_Few_L1, hc, h4, if_true, Option.bind_some, idx_of hx, ho], trivial⟩
        | false =>
          left
          refine ⟨((i + 1 : Nat) : Int), by simp only [r41_Few_L1, hc, h4, if_true, Option.bind_some, idx_of hx, ho, Bool.false_eq_true, if_false, wrap_nat (show i < 4611686018427387904 by omega)], ⟨i + 1, rfl, h⟩, by omega⟩
      | false =>
        right
        exact ⟨.inl (), by simp only [r41_Few_L1, hc, h4, if_true, Option.bind_some, Bool.false_eq_true, if_false], trivial⟩
    · right
      have hc : decide ((i : Int) < (ds.length : Int)) = false := by simp; omega
      exact ⟨.inl (), by simp only [r41_Few_L1, hc, Option.bind_some, Bool.false_eq_true, if_false], trivial⟩)
  unfold r41_Few
  rw [h1, Option.bind_some]
  cases r with
  | inl u =>
    simp only
    split
    · exact ⟨_, rfl⟩
    · split
      · exact ⟨_, rfl⟩
      · exact ⟨_, rfl⟩
  | inr b => exact ⟨b, rfl⟩

theorem Tells_eq {a0 : List TDeed} {a1 a2 : Int} (hw : W a0) : l41_FirmTells a0 a1 a2 = some true := by
  obtain ⟨b, hb⟩ := few_total hw
  obtain ⟨L, h1, h2, h3⟩ := ans_same hw a1 a2
  unfold l41_FirmTells
  simp only [sane_eq, Option.bind_some, hb, check_eq hw, rcheck_eq hw, alive_of hw, ralive_of hw, h1, h2, same_eq (show L.length < 4611686018427387904 by omega), decide_true, beq_self_eq_true, if_true]
  cases b <;> rfl
end Go.Proofs.Ytnnkcegdkhclcaa.P
