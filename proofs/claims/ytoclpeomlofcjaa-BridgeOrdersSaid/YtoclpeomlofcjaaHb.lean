/- What the functions of the bridge return. -/
import Derived.Test.YtoclpeomlofcjaaHa
import Derived.WalkKit
namespace Go.Proofs.Ytoclpeomlofcjaa.P
open Go.RowKit
set_option linter.unusedSimpArgs false
set_option linter.unusedVariables false

/-! Lists of fractions. -/
theorem loop_all {α : Type} {l : List α} {body : Int → Option (Int ⊕ (Unit ⊕ Bool))} (ok : α → Bool) (hf : l.length ≤ 17592186044416)
    (hb : ∀ i (h : i < l.length), body (i : Int) = if ok l[i] then some (.inl ((i + 1 : Nat) : Int)) else some (.inr (.inr false))) (he : body (l.length : Int) = some (.inr (.inl ()))) :
    ∃ r, loopL body 0 = some r ∧ (match r with | .inl _ => ∀ x ∈ l, ok x = true | .inr b => b = false ∧ ¬ ∀ x ∈ l, ok x = true) := by
  refine loop_nat (I := fun i s => s = (i : Int) ∧ ∀ x ∈ l.take i, ok x = true) l.length _ ⟨rfl, by simp⟩ (lenFU hf) ?_
  rintro i s hi ⟨rfl, h⟩
  by_cases hlt : i < l.length
  · rw [hb i hlt]
    by_cases hk : ok l[i] = true
    · left
      rw [if_pos hk]
      refine ⟨hlt, _, rfl, rfl, fun x hx => ?_⟩
      rw [List.take_add_one] at hx
      rcases List.mem_append.1 hx with hx | hx
      · exact h x hx
      · simp [hlt] at hx; rw [hx]; exact hk
    · right
      rw [if_neg hk]
      exact ⟨.inr false, rfl, rfl, fun hh => hk (hh _ (List.getElem_mem hlt))⟩
  · right
    have : i = l.length := by omega
    subst this
    rw [he]
    exact ⟨.inl (), rfl, by rw [List.take_length] at h; exact h⟩

/-- Whether it holds of all. -/
theorem bridge_right_eq {l : List TFrac} (hf : l.length ≤ 17592186044416) (h : ∀ f ∈ l, FitF f) : bridge_right l = some (l.all okF) := by
  obtain ⟨r, h1, h2⟩ := loop_all (l := l) (body := bridge_right_L1 l) okF hf (fun i hi => by
    simp only [bridge_right_L1]
    rw [if_pos (by simpa using hi), idx_nat hi, Option.bind_some, Right_eq (h _ (List.getElem_mem hi)), Option.bind_some]
    have e1 : IntKind.i64.wrap ((i : Int) + 1) = ((i + 1 : Nat) : Int) := by rw [w64 (by omega)]; omega
    cases okF l[i] <;> simp [e1]) (by simp only [bridge_right_L1]; rw [if_neg (by simp)])
  unfold bridge_right
  rw [h1, Option.bind_some]
  cases r with
  | inl u => simp only at h2 ⊢; rw [List.all_eq_true.2 h2]
  | inr b => simp only at h2 ⊢; rw [h2.1]; cases hh : l.all okF with | false => rfl | true => exact absurd (List.all_eq_true.1 hh) h2.2
theorem few_eq {l : List TFrac} (hf : l.length ≤ 17592186044416) : ∃ b, r44_Few l = some b ∧ (b = true → ∀ f ∈ l, f.f_P.f_Digits.length ≤ 4 ∧ f.f_Q.f_Digits.length ≤ 4) := by
  obtain ⟨r, h1, h2⟩ := loop_all (l := l) (body := r44_Few_L2 l) (fun f => decide ((f.f_P.f_Digits.length : Int) ≤ 4 ∧ (f.f_Q.f_Digits.length : Int) ≤ 4)) hf (fun i hi => by
    simp only [r44_Few_L2]
    rw [if_pos (by simpa using hi), idx_nat hi, Option.bind_some, few5, Option.bind_some]
    have e1 : IntKind.i64.wrap ((i : Int) + 1) = ((i + 1 : Nat) : Int) := by rw [w64 (by omega)]; omega
    by_cases hc : (l[i].f_P.f_Digits.length : Int) ≤ 4 ∧ (l[i].f_Q.f_Digits.length : Int) ≤ 4
    · rw [decide_eq_true hc]; simp [e1]
    · rw [decide_eq_false hc]; simp) (by simp only [r44_Few_L2]; rw [if_neg (by simp)])
  unfold r44_Few
  have hT : ∃ c, (if decide ((l.length : Int) > 40) = true then if ((l.length : Int) != 256) = true then if ((l.length : Int) != 257) = true then some ((l.length : Int) != 512) else some false else some false else some false) = some c := by
    split
    · split
      · split <;> exact ⟨_, rfl⟩
      · exact ⟨_, rfl⟩
    · exact ⟨_, rfl⟩
  obtain ⟨c, hc⟩ := hT
  rw [hc, Option.bind_some]
  cases c with
  | true => exact ⟨false, rfl, fun h => by cases h⟩
  | false =>
    simp only [Bool.false_eq_true, if_false]
    rw [h1, Option.bind_some]
    cases r with
    | inl u => exact ⟨true, rfl, fun _ f hf => by have := h2 f hf; simp at this; omega⟩
    | inr b => exact ⟨b, rfl, fun hb => by rw [h2.1] at hb; cases hb⟩
theorem sameList {a b : List TFrac} (hf : a.length ≤ 17592186044416) (h : ∀ f ∈ a, FitF f) : r44_SameList a b = some (decide (a = b)) := by
  have hFit : ∀ f ∈ a, Fit f.f_P.f_Digits ∧ Fit f.f_Q.f_Digits := fun f hf => by
    have := h f hf
    have hL : Lbig = 17592186043904 := rfl
    unfold FitF at this
    unfold Fit
    omega
  unfold r44_SameList
  by_cases hl : a.length = b.length
  · rw [if_neg (by simp; omega)]
    have key : ∃ r, loopL (r44_SameList_L1 a b) 0 = some r ∧ (match r with | .inl _ => a = b | .inr x => x = false ∧ a ≠ b) := by
      refine loop_nat (I := fun i s => s = (i : Int) ∧ a.take i = b.take i) a.length _ ⟨rfl, by simp⟩ (lenFU hf) ?_
      rintro i s hi ⟨rfl, he⟩
      simp only [r44_SameList_L1]
      by_cases hlt : i < a.length
      · have hlt' : i < b.length := by omega
        have hh := hFit _ (List.getElem_mem hlt)
        rw [if_pos (by simpa using hlt), idx_nat hlt, Option.bind_some, idx_nat hlt', Option.bind_some, same5 hh.1 hh.2, Option.bind_some]
        by_cases hx : a[i] = b[i]
        · left
          rw [if_neg (by simp [hx])]
          refine ⟨hlt, _, rfl, by rw [w64 (by omega)]; omega, ?_⟩
          rw [List.take_add_one, List.take_add_one, he]
          simp [hlt, hlt', hx]
        · right
          rw [if_pos (by simp [hx])]
          exact ⟨.inr false, rfl, rfl, fun h => hx (by simp [h])⟩
      · right
        have : i = a.length := by omega
        subst this
        refine ⟨.inl (), by rw [if_neg (by simp)], ?_⟩
        rw [List.take_length, List.take_of_length_le (by omega)] at he
        exact he
    obtain ⟨r, h1, h2⟩ := key
    rw [h1, Option.bind_some]
    cases r with
    | inl u => simp only at h2 ⊢; simp [h2]
    | inr x => simp only at h2 ⊢; simp [h2.1, h2.2]
  · rw [if_pos (by simp; omega)]
    have : a ≠ b := fun h => hl (by rw [h])
    simp [this]

/-! How many edits. -/
theorem Edits_loop1 (l : List TFrac) : ∃ r, loopL (r44_Edits_L1 l) 0 = some r ∧ ∃ n : Nat, r = n ∧ n ≤ 9 ∧ (n ≤ 8 → l.length = 2 ^ n) := by
  refine loop_nat (I := fun i s => s = (i : Int)) 9 _ rfl (by unfold FU; omega) ?_
  rintro i s hi rfl
  simp only [r44_Edits_L1]
  by_cases h8 : i ≤ 8
  · have hs : shlI .i64 1 (i : Int) = some ((2 ^ i : Nat) : Int) := by
      have : ∀ i : Nat, i < 9 → shlI .i64 1 (i : Int) = some ((2 ^ i : Nat) : Int) := by decide +kernel
      exact this i (by omega)
    rw [if_pos (by simp; omega), hs, Option.bind_some]
    by_cases hl : (2 ^ i : Nat) = l.length
    · right
      refine ⟨_, by rw [if_neg (by simp only [bne_iff_ne, ne_eq, Decidable.not_not]; omega)], i, rfl, hi, fun _ => hl.symm⟩
    · left
      exact ⟨by omega, _, by rw [if_pos (by simp only [bne_iff_ne, ne_eq]; omega)], by rw [w64 (by omega)]; omega⟩
  · right
    exact ⟨_, by rw [if_neg (by simp; omega)], i, rfl, hi, fun h => absurd h h8⟩

/-- The fractions behind a list of right ones. -/
theorem rats_of {l : List TFrac} (h : ∀ f ∈ l, okF f = true) : ∃ qs : List Rat, l = qs.map mkF := by
  induction l with
  | nil => exact ⟨[], rfl⟩
  | cons f l ih =>
    obtain ⟨q, hq⟩ := okF_iff.1 (h f List.mem_cons_self)
    obtain ⟨qs, hqs⟩ := ih (fun g hg => h g (List.mem_cons_of_mem _ hg))
    exact ⟨q :: qs, by rw [hq, hqs]; rfl⟩
theorem LF_of {q : Rat} {k : Nat} (h : (mkF q).f_P.f_Digits.length ≤ k ∧ (mkF q).f_Q.f_Digits.length ≤ k) : LF q ≤ k := by
  have h1 : Ln q.num ≤ k := h.1
  have h2 : Ln q.den ≤ k := h.2
  unfold LF
  omega
theorem okB_i64 {l : List TFrac} (h : l.length * 64 ≤ 140737488351232) : l.length ≤ 17592186044416 := by omega

theorem edits_eq {l : List TFrac} (hf : l.length ≤ 17592186044416) (h : ∀ f ∈ l, FitF f) : ∃ r, l44_edits l = some r ∧ (r < 0 ∨ ∃ n : Nat, n ≤ 5 ∧ r = n ∧ ∃ qs : List Rat, l = qs.map mkF ∧ qs.length = 2 ^ n ∧ ∀ q ∈ qs, LF q ≤ 4) := by
  obtain ⟨_, h1, n, rfl, h2, h3⟩ := Edits_loop1 l
  have key : ∃ r, loopL (r44_Edits_L2 l) 0 = some r ∧ (match r with | .inl _ => ∀ f ∈ l, okF f = true | .inr x => x = -1) := by
    refine loop_nat (I := fun i s => s = (i : Int) ∧ ∀ x ∈ l.take i, okF x = true) l.length _ ⟨rfl, by simp⟩ (lenFU hf) ?_
    rintro i s hi ⟨rfl, hh⟩
    simp only [r44_Edits_L2]
    by_cases hlt : i < l.length
    · rw [if_pos (by simpa using hlt), idx_nat hlt, Option.bind_some, Right5 (h _ (List.getElem_mem hlt)), Option.bind_some]
      by_cases hk : okF l[i] = true
      · left
        rw [if_neg (by simp [hk])]
        refine ⟨hlt, _, rfl, by rw [w64 (by omega)]; omega, fun x hx => ?_⟩
        rw [List.take_add_one] at hx
        rcases List.mem_append.1 hx with hx | hx
        · exact hh x hx
        · simp [hlt] at hx; rw [hx]; exact hk
      · right
        rw [if_pos (by simp [hk])]
        exact ⟨.inr (-1), rfl, rfl⟩
    · right
      have : i = l.length := by omega
      subst this
      rw [List.take_length] at hh
      exact ⟨.inl (), by rw [if_neg (by simp)], hh⟩
  obtain ⟨r, h4, h5⟩ := key
  obtain ⟨b, h6, h7⟩ := few_eq hf
  unfold l44_edits r44_Edits
  rw [h1, Option.bind_some]
  by_cases h8 : n ≤ 8
  · rw [if_neg (by simp; omega), h4, Option.bind_some]
    cases r with
    | inr x =>
      simp only at h5 ⊢
      subst h5
      rw [Option.bind_some, if_neg (by decide), h6, Option.bind_some]
      cases b <;> exact ⟨_, rfl, .inl (by decide)⟩
    | inl u =>
      simp only at h5 ⊢
      rw [Option.bind_some]
      by_cases hn : n ≤ 5
      · rw [if_neg (by simp; omega), h6, Option.bind_some]
        cases b with
        | false => exact ⟨_, rfl, .inl (by decide)⟩
        | true =>
          obtain ⟨qs, rfl⟩ := rats_of h5
          refine ⟨_, rfl, .inr ⟨n, hn, rfl, qs, rfl, by have := h3 h8; simpa using this, fun q hq => LF_of (h7 rfl _ (List.mem_map.2 ⟨q, hq, rfl⟩))⟩⟩
      · rw [if_pos (by simp; omega)]
        exact ⟨_, rfl, .inl (by decide)⟩
  · rw [if_pos (by simp; omega), Option.bind_some, if_neg (by decide), h6, Option.bind_some]
    cases b <;> exact ⟨_, rfl, .inl (by decide)⟩

theorem Len_fact : ∀ n : Nat, n < 6 → math_bits_Len (IntKind.u64.wrap ((2 ^ n : Nat) : Int)) = some ((n + 1 : Nat) : Int) := by decide +kernel
theorem shl1 : ∀ n : Nat, n < 6 → shlI .i64 1 (n : Int) = some ((2 ^ n : Nat) : Int) := by decide +kernel

theorem bridge_edits_eq {qs : List Rat} {n : Nat} (hn : n ≤ 5) (hl : qs.length = 2 ^ n) (hq : ∀ q ∈ qs, LF q ≤ Lmax) : bridge_edits (qs.map mkF) = some ((n : Int), true) := by
  have hL : (qs.map mkF).length = 2 ^ n := by simpa using hl
  have h32 : 2 ^ n ≤ 2 ^ 5 := Nat.pow_le_pow_right (by decide) hn
  have hr : bridge_right (qs.map mkF) = some true := by
    rw [bridge_right_eq (by omega) (fun f hf => by obtain ⟨q, hq', rfl⟩ := List.mem_map.1 hf; exact FitF_mk (hq q hq'))]
    congr 1
    rw [List.all_eq_true]
    intro f hf
    obtain ⟨q, _, rfl⟩ := List.mem_map.1 hf
    exact okF_mk q
  unfold bridge_edits
  rw [hL, Len_fact n (by omega), Option.bind_some]
  have e : IntKind.i64.wrap (((n + 1 : Nat) : Int) - 1) = (n : Int) := by rw [w64 (by omega)]; omega
  rw [e, if_neg (by simp), if_neg (by simp; omega), shl1 n (by omega), Option.bind_some, if_neg (by simp), hr, Option.bind_some]
  rfl
end Go.Proofs.Ytoclpeomlofcjaa.P
