/- The law TapeDraws. -/
import Derived.Test.YtdecgihkgpgejaaDoorT1
namespace Go.Proofs.YtdecgihkgpgejaaDoor.P
open Go.RowKit
set_option linter.unusedSimpArgs false
set_option linter.unusedVariables false

theorem Find_cases {l : List Int} {n : Int} (hl : l.length ≤ 102) : (∃ e : Int, e ≠ 0 ∧ tape_Find l n = some ([], e)) ∨ (tape_Find l n = some (fd l, 0) ∧ tape_Draw (fd l) n = some (l, 0) ∧ tape_Right (fd l) n = some true) := by
  rw [Find_eq n (by omega)]
  by_cases h : fOk l n
  · rw [if_pos h]
    by_cases hn : l.Nodup
    · rw [if_pos hn]
      have hk := fd_ok h hn
      have hlen := fd_len l
      refine .inr ⟨rfl, ?_, ?_⟩
      · rw [Draw_eq n (by omega), if_pos hk, dr_fd hn]
      · rw [Right_eq n (by omega)]
        simp [hk]
    · rw [if_neg hn]
      exact .inl ⟨5, by omega, rfl⟩
  · rw [if_neg h]
    exact .inl ⟨1, by omega, rfl⟩

theorem Draws_L7 {d : List Int} {i : Nat} {x : Int} (hx : d[i]? = some x) (hn : d.Nodup) (hl : d.length ≤ 1000) : loopL (l50_TapeDraws_L7 (d, 0) (i : Int) x) 0 = some (.inl ()) := by
  have hi := (List.getElem?_eq_some_iff.1 hx).1
  have hm := nodup_take.1 hn i x hx
  rw [scanN d i (body := l50_TapeDraws_L7 (d, 0) (i : Int) x) (fun _ y => if y = x then some false else none) (by omega) (by omega) (fun j y hj hy => by
    unfold l50_TapeDraws_L7
    dsimp only
    rw [if_pos (by simp; omega)]
    simp only [idx_of hy, Option.bind_some, wrap_nat (show j < 4611686018427387904 by omega)]
    by_cases h : y = x
    · rw [if_pos (by simp [h]), if_pos h]
    · rw [if_neg (by simp [h]), if_neg h]) (by unfold l50_TapeDraws_L7; simp)]
  have : firstS (fun (_ : Nat) y => if y = x then some false else none) 0 (d.take i) = none := by
    refine firstS_none.2 fun j y hy => ?_
    rw [if_neg]
    intro h
    exact hm (h ▸ List.mem_of_getElem? hy)
  rw [this]
theorem Draws_L3 {d : List Int} {n : Int} (hn : d.Nodup) (hl : d.length ≤ 1000) (hr : ∀ x ∈ d, 0 ≤ x ∧ x < n) : loopL (l50_TapeDraws_L3 n (d, 0)) 0 = some (.inl ()) := by
  rw [scanL d (body := l50_TapeDraws_L3 n (d, 0)) (fun _ _ => none) (by omega) (fun i x hx => by
    have hi := (List.getElem?_eq_some_iff.1 hx).1
    have hxr := hr x (List.mem_of_getElem? hx)
    unfold l50_TapeDraws_L3
    dsimp only
    rw [if_pos (by simp; omega)]
    simp only [idx_of hx, Option.bind_some]
    rw [if_neg (by simp; omega)]
    simp only [Option.bind_some]
    rw [if_neg (by simp; omega), Draws_L7 hx hn hl]
    simp only [Option.bind_some, wrap_nat (show i < 4611686018427387904 by omega)]) (by unfold l50_TapeDraws_L3; simp)]
  have : firstS (fun (_ : Nat) (_ : Int) => (none : Option Bool)) 0 d = none := firstS_none.2 fun _ _ _ => rfl
  rw [this]

theorem TapeDraws_eq (a0 : List Int) (a1 : Int) (h0 : a0.length * 8 ≤ 140737488351232) : l50_TapeDraws a0 a1 = some true := by
  unfold l50_TapeDraws
  rw [sane_eq]
  simp only [Option.bind_some]
  obtain ⟨b, e, k⟩ := FewRow_eq a0
  rw [e]
  simp only [Option.bind_some]
  cases b with
  | false => rfl
  | true =>
  have hl := k rfl
  rw [if_neg (by simp), Draw_eq a1 (by omega), Right_eq a1 (by omega)]
  simp only [Option.bind_some]
  by_cases hr : rOk a0 a1
  · rw [if_pos hr]
    obtain ⟨i1, i2, i3, i4⟩ := dr_inv a0
    have hd : fOk (dr a0).1 a1 := ⟨hr.1, hr.2.1, by have := hr.2.2.1; omega, dr_range hr.2.2.2.2⟩
    have hn := dr_sorted a0
    have hF : tape_Find (dr a0).1 a1 = some (a0, 0) := by rw [Find_eq a1 (by omega), if_pos hd, if_pos hn, fd_dr]
    simp only [hr, decide_true, beq_self_eq_true, Bool.not_true, Bool.false_eq_true, if_false, bne_self_eq_false, Option.bind_some, if_true]
    rw [hF]
    simp only [bne_self_eq_false, Bool.false_eq_true, if_false, Option.bind_some]
    rw [sameI_eq (by omega)]
    simp only [decide_true, Bool.not_true, Bool.false_eq_true, if_false, Option.bind_some, i1, bne_self_eq_false]
    rw [Draws_L3 hn (by omega) hd.2.2.2]
    simp only [Option.bind_some]
    rcases Find_cases (n := a1) hl with ⟨e, he, hF2⟩ | ⟨hF2, hD, hR⟩
    · rw [hF2]
      simp only [Option.bind_some]
      rw [if_pos (by simpa using he)]
      rfl
    · rw [hF2]
      simp only [Option.bind_some, bne_self_eq_false, Bool.false_eq_true, if_false]
      rw [hD]
      simp only [Option.bind_some, beq_self_eq_true, if_true]
      rw [sameI_eq (by omega), hR]
      simp
  · rw [if_neg hr]
    simp only [hr, decide_false]
    simp only [show (!(((1 : Int) == 0) == false)) = false from by decide, show ((1 : Int) != 0) = true from by decide, show ((1 : Int) != 1) = false from by decide, show ((1 : Int) == 0) = false from by decide, if_true, Bool.false_eq_true, if_false, Option.bind_some]
    rw [if_neg (by simp)]
    rcases Find_cases (n := a1) hl with ⟨e, he, hF2⟩ | ⟨hF2, hD, hR⟩
    · rw [hF2]
      simp only [Option.bind_some]
      rw [if_pos (show (e != 0) = true by simpa using he)]
      rfl
    · rw [hF2]
      simp only [Option.bind_some, bne_self_eq_false, Bool.false_eq_true, if_false]
      rw [hD]
      simp only [Option.bind_some, beq_self_eq_true, if_true]
      rw [sameI_eq (by omega), hR]
      simp
end Go.Proofs.YtdecgihkgpgejaaDoor.P
