/- What the functions of the target return. -/
import Derived.Test.YtadpbhbkdnfbpaaKc
namespace Go.Proofs.Ytadpbhbkdnfbpaa.P
open Go.RowKit
set_option linter.unusedSimpArgs false
set_option linter.unusedVariables false

theorem rats_of {l : List TFrac} (h : ∀ f ∈ l, okF f = true) : ∃ qs : List Rat, l = qs.map mkF := by
  induction l with
  | nil => exact ⟨[], rfl⟩
  | cons f l ih =>
    obtain ⟨q, hq⟩ := okF_iff.1 (h f List.mem_cons_self)
    obtain ⟨qs, hqs⟩ := ih (fun g hg => h g (List.mem_cons_of_mem _ hg))
    exact ⟨q :: qs, by rw [hq, hqs]; rfl⟩
theorem LF_of {q : Rat} {k : Nat} (h : (mkF q).f_P.f_Digits.length ≤ k ∧ (mkF q).f_Q.f_Digits.length ≤ k) : LF q ≤ k := by
  have h1 : Ln q.num ≤ k := h.1
  have h2 : Ln q.den ≤ k := h.2
  unfold LF
  omega
def Vq (qs : List Rat) (s : Nat) : Rat := qs.getD s 0
theorem Vq_get {qs : List Rat} {s : Nat} (h : s < qs.length) : (qs.map mkF)[s]? = some (mkF (Vq qs s)) := by
  unfold Vq
  simp [h]
theorem Vq_LF {qs : List Rat} {K : Nat} (h : ∀ q ∈ qs, LF q ≤ K) {s : Nat} (hs : s < qs.length) : LF (Vq qs s) ≤ K := by
  unfold Vq
  rw [List.getD_eq_getElem?_getD, List.getElem?_eq_getElem hs]
  exact h _ (List.getElem_mem hs)
/-- Of at most three digits. -/
def F3 (f : TFrac) : Prop := f.f_P.f_Digits.length ≤ 3 ∧ f.f_Q.f_Digits.length ≤ 3
theorem few5 (f : TFrac) (n : Int) : r05_Few f n = some (decide ((f.f_P.f_Digits.length : Int) ≤ n ∧ (f.f_Q.f_Digits.length : Int) ≤ n)) := by
  unfold r05_Few
  by_cases h : (f.f_P.f_Digits.length : Int) ≤ n
  · simp [h]
  · simp [h]
theorem fewL_eq {l : List TFrac} : ∃ r, loopL (r47_Few_L1 l) 0 = some r ∧ (match r with | .inl _ => l.length < 520 → ∀ f ∈ l, F3 f | .inr b => b = false) := by
  refine loop_nat (I := fun i s => s = (i : Int) ∧ ∀ f ∈ l.take i, F3 f) (min l.length 520) _ ⟨rfl, by simp⟩ (lenFU (by omega)) ?_
  rintro i s hi ⟨rfl, h⟩
  simp only [r47_Few_L1]
  by_cases hlt : i < l.length ∧ i < 520
  · rw [if_pos (by simpa using hlt.1), decide_eq_true (show (i : Int) < 520 by omega), Option.bind_some, if_pos rfl, idx_nat hlt.1, Option.bind_some, few5, Option.bind_some]
    by_cases h3 : ((l[i]'hlt.1).f_P.f_Digits.length : Int) ≤ 3 ∧ ((l[i]'hlt.1).f_Q.f_Digits.length : Int) ≤ 3
    · left
      rw [decide_eq_true h3, if_neg (by simp)]
      refine ⟨by omega, _, rfl, by rw [w64 (by omega)]; omega, fun f hf => ?_⟩
      rw [List.take_add_one, List.mem_append] at hf
      rcases hf with hf | hf
      · exact h f hf
      · rw [List.getElem?_eq_getElem hlt.1] at hf
        simp only [Option.toList_some, List.mem_singleton] at hf
        subst hf
        exact ⟨by omega, by omega⟩
    · right
      rw [decide_eq_false h3, if_pos (show (!false) = true from rfl)]
      exact ⟨_, rfl, rfl⟩
  · right
    have hi' : i = min l.length 520 := by omega
    have : (if decide ((i : Int) < (l.length : Int)) = true then some (decide ((i : Int) < 520)) else some false) = some false := by
      by_cases h1 : i < l.length
      · rw [if_pos (by simpa using h1), decide_eq_false (by omega)]
      · rw [if_neg (by simpa using h1)]
    rw [this, Option.bind_some, if_neg (by simp)]
    refine ⟨_, rfl, fun h520 f hf => h f ?_⟩
    rw [hi', List.take_of_length_le (by omega)]
    exact hf
theorem few_eq {l : List TFrac} {g : TFrac} : ∃ b, r47_Few l g = some b ∧ (b = true → l.length ≤ 512 ∧ (∀ f ∈ l, F3 f) ∧ F3 g) := by
  obtain ⟨r, h1, h2⟩ := fewL_eq (l := l)
  unfold r47_Few
  rw [h1, Option.bind_some]
  cases r with
  | inr b => simp only at h2 ⊢; exact ⟨b, rfl, fun h => by rw [h2] at h; cases h⟩
  | inl u =>
    simp only at h2 ⊢
    rw [few5, Option.bind_some]
    by_cases hg : (g.f_P.f_Digits.length : Int) ≤ 3 ∧ (g.f_Q.f_Digits.length : Int) ≤ 3
    rotate_left
    · rw [decide_eq_false hg, if_neg (by simp)]
      exact ⟨_, rfl, by simp⟩
    rw [decide_eq_true hg, if_pos rfl]
    have hg3 : F3 g := ⟨by omega, by omega⟩
    by_cases c1 : (l.length : Int) ≤ 32
    · rw [if_pos (decide_eq_true c1)]
      exact ⟨_, rfl, fun _ => ⟨by omega, h2 (by omega), hg3⟩⟩
    rw [if_neg (by simpa using c1)]
    by_cases c2 : (l.length : Int) ≥ 250
    · rw [if_pos (decide_eq_true c2)]
      by_cases c3 : (l.length : Int) ≤ 260
      · rw [if_pos (decide_eq_true c3)]
        exact ⟨_, rfl, fun _ => ⟨by omega, h2 (by omega), hg3⟩⟩
      · rw [if_neg (by simpa using c3)]
        refine ⟨_, rfl, fun h => ?_⟩
        rw [beq_iff_eq] at h
        exact ⟨by omega, h2 (by omega), hg3⟩
    · rw [if_neg (by simpa using c2)]
      refine ⟨_, rfl, fun h => ?_⟩
      rw [beq_iff_eq] at h
      exact ⟨by omega, h2 (by omega), hg3⟩

theorem contains_eq {l : List TFrac} (hf : l.length ≤ 512) (h : ∀ f ∈ l, FitF f) : slices_ContainsFunc_target_Edits_1 l = some (!l.all okF) := by
  have key : ∃ r, loopL (slices_IndexFunc_target_Edits_1_L1 l) 0 = some r ∧ (match r with | .inl _ => ∀ f ∈ l, okF f = true | .inr x => x ≥ 0 ∧ ¬ ∀ f ∈ l, okF f = true) := by
    refine loop_nat (I := fun i s => s = (i : Int) ∧ ∀ f ∈ l.take i, okF f = true) l.length _ ⟨rfl, by simp⟩ (lenFU (by omega)) ?_
    rintro i s hi ⟨rfl, hh⟩
    simp only [slices_IndexFunc_target_Edits_1_L1]
    by_cases hlt : i < l.length
    · rw [if_pos (by simpa using hlt), idx_nat hlt, Option.bind_some]
      unfold target_Edits_1
      rw [Right_eq (h _ (List.getElem_mem hlt)), Option.bind_some, Option.bind_some]
      by_cases hk : okF l[i] = true
      · left
        rw [hk, if_neg (by simp)]
        refine ⟨hlt, _, rfl, by rw [w64 (by omega)]; omega, fun f hf => ?_⟩
        rw [List.take_add_one, List.mem_append] at hf
        rcases hf with hf | hf
        · exact hh f hf
        · rw [List.getElem?_eq_getElem hlt] at hf
          simp only [Option.toList_some, List.mem_singleton] at hf
          subst hf
          exact hk
      · right
        rw [show okF l[i] = false by simpa using hk, if_pos (show (!false) = true from rfl)]
        exact ⟨_, rfl, by show (i : Int) ≥ 0; omega, fun hall => hk (hall _ (List.getElem_mem hlt))⟩
    · right
      rw [if_neg (by simpa using hlt)]
      refine ⟨_, rfl, fun f hf => hh f ?_⟩
      rw [List.take_of_length_le (by omega)]
      exact hf
  obtain ⟨r, h1, h2⟩ := key
  unfold slices_ContainsFunc_target_Edits_1 slices_IndexFunc_target_Edits_1
  rw [h1, Option.bind_some]
  cases r with
  | inl u => simp only at h2 ⊢; rw [Option.bind_some, List.all_eq_true.2 h2]; rfl
  | inr x =>
    simp only at h2 ⊢
    rw [Option.bind_some, decide_eq_true h2.1]
    cases hb : l.all okF with
    | false => rfl
    | true => exact absurd (List.all_eq_true.1 hb) h2.2
theorem len_all : ((List.range 513).all fun n => (List.range 11).any fun r => math_bits_Len (IntKind.u64.wrap ((n : Nat) : Int)) == some ((r : Nat) : Int)) = true := by decide +kernel
theorem len_eq {n : Nat} (h : n ≤ 512) : ∃ r : Nat, r ≤ 10 ∧ math_bits_Len (IntKind.u64.wrap (n : Int)) = some (r : Int) := by
  have hh := len_all
  simp only [List.all_eq_true, List.mem_range, List.any_eq_true, beq_iff_eq] at hh
  obtain ⟨r, h1, h2⟩ := hh n (by omega)
  exact ⟨r, by omega, h2⟩
theorem edits_eq {l : List TFrac} (hf : l.length ≤ 512) (h : ∀ f ∈ l, FitF f) : ∃ r, target_Edits l = some r ∧ (r < 0 ∨ ∃ n : Nat, n ≤ 8 ∧ r = n ∧ ∃ qs : List Rat, l = qs.map mkF ∧ qs.length = 2 ^ n) := by
  obtain ⟨k, hk, e⟩ := len_eq hf
  unfold target_Edits
  rw [e, Option.bind_some, w64 (by omega)]
  by_cases h0 : (k : Int) - 1 < 0
  · rw [if_pos (decide_eq_true h0)]; exact ⟨_, rfl, .inl (by decide)⟩
  rw [if_neg (by simpa using h0)]
  by_cases h8 : (k : Int) - 1 > 8
  · rw [if_pos (decide_eq_true h8)]; exact ⟨_, rfl, .inl (by decide)⟩
  rw [if_neg (by simpa using h8), show (k : Int) - 1 = ((k - 1 : Nat) : Int) by omega, shl1 (k - 1) (by omega), Option.bind_some]
  by_cases h2 : (l.length : Int) = ((2 ^ (k - 1) : Nat) : Int)
  rotate_left
  · rw [if_pos (by simpa using h2)]; exact ⟨_, rfl, .inl (by decide)⟩
  rw [if_neg (by rw [h2]; simp), contains_eq hf h, Option.bind_some]
  cases hb : l.all okF with
  | false => exact ⟨_, rfl, .inl (by decide)⟩
  | true =>
    obtain ⟨qs, rfl⟩ := rats_of (List.all_eq_true.1 hb)
    exact ⟨_, rfl, .inr ⟨k - 1, by omega, rfl, qs, rfl, by rw [List.length_map] at h2; omega⟩⟩
theorem edits_same {l m : List TFrac} (hf : l.length ≤ 512) (h : ∀ f ∈ l, FitF f) (h' : ∀ f ∈ m, FitF f) (hlm : m.length = l.length) (hok : m.all okF = l.all okF) : target_Edits m = target_Edits l := by
  unfold target_Edits
  rw [contains_eq hf h, contains_eq (hlm ▸ hf) h', hlm, hok]

/-- Whether a set reaches the target. -/
def rch (qs : List Rat) (g : Rat) (s : Nat) : Bool := decide (Vq qs s ≤ g)
theorem cmpQ_le {a b : Rat} : (cmpQ a b ≤ 0) ↔ a ≤ b := by
  unfold cmpQ
  by_cases h1 : a < b
  · rw [if_pos h1]; exact ⟨fun _ => by grind, fun _ => by decide⟩
  · rw [if_neg h1]
    by_cases h2 : b < a
    · rw [if_pos h2]; exact ⟨fun h => absurd h (by decide), fun h => by grind⟩
    · rw [if_neg h2]; exact ⟨fun _ => by grind, fun _ => by decide⟩
theorem comp_eq {qs : List Rat} {g : Rat} (hq : ∀ q ∈ qs, LF q ≤ 20) (hg : LF g ≤ 20) {s : Nat} (hs : s < qs.length) : ∃ c, frac_Compare (mkF (Vq qs s)) (mkF g) = some c ∧ decide (c ≤ 0) = rch qs g s := by
  refine ⟨_, Compare_f (by have := Vq_LF hq hs; unfold Lmax; omega), ?_⟩
  unfold rch
  rw [decide_eq_decide]
  exact cmpQ_le
theorem reached_eq {qs : List Rat} {g : Rat} {n : Nat} (hl : qs.length = 2 ^ n) (hq : ∀ q ∈ qs, LF q ≤ 20) (hg : LF g ≤ 20) : ∀ s : Nat, s < 2 ^ n → target_goal_reached (Tgoal.mk (qs.map mkF) (mkF g)) (s : Int) = some (rch qs g s) := by
  intro s hs
  obtain ⟨c, h1, h2⟩ := comp_eq hq hg (s := s) (by omega)
  unfold target_goal_reached
  rw [idx_opt, Vq_get (by omega), Option.bind_some, h1, Option.bind_some, h2]

section
variable {qs : List Rat} {g : Rat} {n : Nat}
theorem minimal_eq (hn : n ≤ 5) (hl : qs.length = 2 ^ n) (hq : ∀ q ∈ qs, LF q ≤ 20) (hg : LF g ≤ 20) (hE : target_Edits (qs.map mkF) = some (n : Int)) :
    target_Minimal (qs.map mkF) (mkF g) = some (if ms n (rch qs g) = [] then ([], 4) else ((ms n (rch qs g)).map bl, 0)) := by
  unfold target_Minimal
  rw [hE, Option.bind_some, if_neg (by simp), Right_mk (by unfold Lmax; omega), Option.bind_some, Option.bind_some, if_neg (by simp), find_eq hn (reached_eq hl hq hg), Option.bind_some]
  by_cases h : ms n (rch qs g) = []
  · rw [if_pos h, h]; rfl
  · rw [if_neg h, if_neg (by simpa using h)]
theorem minimal_bad {l : List TFrac} {g : TFrac} (hf : FitF g) (hg : okF g = false) (hE : target_Edits l = some (n : Int)) : target_Minimal l g = some ([], 1) := by
  unfold target_Minimal
  rw [hE, Option.bind_some, if_neg (by simp), Right_eq hf, hg, Option.bind_some, Option.bind_some, if_pos (show (!false) = true from rfl)]
/-- The first sets, as long as they are no longer than the first one. -/
def st (l : List Nat) : List Nat := l.takeWhile (fun s => decide ((bl s).length ≤ (bl (l.headD 0)).length))
theorem st_nil : st [] = [] := rfl
theorem sets_loop {l : List Nat} (hl : l.length ≤ 1000) : ∃ r, loopL (target_Sets_L1 (l.map bl, 0)) 0 = some r ∧ (match r with | .inl _ => st l = l | .inr x => x = ((st l).map bl, 0)) := by
  refine loop_nat (I := fun i s => s = (i : Int) ∧ ∀ x ∈ l.take i, (bl x).length ≤ (bl (l.headD 0)).length) l.length _ ⟨rfl, by simp⟩ (lenFU (by omega)) ?_
  rintro i s hi ⟨rfl, h⟩
  simp only [target_Sets_L1]
  by_cases hlt : i < l.length
  · have h0 : l[0]? = some (l.headD 0) := by
      cases l with
      | nil => simp at hlt
      | cons a l => rfl
    rw [if_pos (by simpa using hlt), idx_opt, List.getElem?_map, List.getElem?_eq_getElem hlt, Option.map_some, Option.bind_some, idx_zero, List.getElem?_map, h0, Option.map_some, Option.bind_some]
    by_cases hc : (bl l[i]).length ≤ (bl (l.headD 0)).length
    · left
      rw [if_neg (fun h => by rw [decide_eq_true_eq] at h; omega)]
      refine ⟨hlt, _, rfl, by rw [w64 (by omega)]; omega, fun x hx => ?_⟩
      rw [List.take_add_one, List.mem_append] at hx
      rcases hx with hx | hx
      · exact h x hx
      · rw [List.getElem?_eq_getElem hlt] at hx
        simp only [Option.toList_some, List.mem_singleton] at hx
        subst hx
        exact hc
    · right
      have hst : st l = l.take i := by
        unfold st
        conv => lhs; arg 2; rw [← List.take_append_drop i l]
        rw [List.takeWhile_append_of_pos (fun x hx => decide_eq_true (h x hx)), ← List.getElem_cons_drop hlt, List.takeWhile_cons_of_neg (by simpa using hc), List.append_nil]
      rw [if_pos (decide_eq_true (by omega)), slc_nat (by simp; omega), Option.bind_some]
      exact ⟨_, rfl, by show (_, _) = _; rw [hst, List.map_take]⟩
  · right
    rw [if_neg (by simpa using hlt)]
    refine ⟨_, rfl, ?_⟩
    show st l = l
    unfold st
    have h' : ∀ x ∈ l, (bl x).length ≤ (bl (l.headD 0)).length := fun x hx => h x (by rw [List.take_of_length_le (by omega)]; exact hx)
    have := List.takeWhile_append_of_pos (p := fun s => decide ((bl s).length ≤ (bl (l.headD 0)).length)) (l₁ := l) (l₂ := []) (fun x hx => decide_eq_true (h' x hx))
    simpa using this
theorem sets_eq (hn : n ≤ 5) (hl : qs.length = 2 ^ n) (hq : ∀ q ∈ qs, LF q ≤ 20) (hg : LF g ≤ 20) (hE : target_Edits (qs.map mkF) = some (n : Int)) :
    target_Sets (qs.map mkF) (mkF g) = some (if ms n (rch qs g) = [] then ([], 4) else ((st (ms n (rch qs g))).map bl, 0)) := by
  unfold target_Sets
  rw [minimal_eq hn hl hq hg hE, Option.bind_some]
  by_cases h : ms n (rch qs g) = []
  · rw [if_pos h, if_pos h]
    have : loopL (target_Sets_L1 (([], 4) : List (List Int) × Int)) 0 = some (.inl ()) := by
      obtain ⟨r, h1, h2⟩ := loop_nat (body := target_Sets_L1 (([], 4) : List (List Int) × Int)) (I := fun i s => s = 0) 0 (fun r => r = .inl ()) (s := 0) rfl (lenFU (by omega)) (by
        rintro i s hi rfl
        right
        exact ⟨_, rfl, rfl⟩)
      rw [h1, h2]
    rw [this]
    rfl
  · rw [if_neg h, if_neg h]
    obtain ⟨r, h1, h2⟩ := sets_loop (l := ms n (rch qs g)) (by have := ms_len (R := rch qs g) hn; omega)
    rw [h1, Option.bind_some]
    cases r with
    | inl u => simp only at h2 ⊢; rw [h2]
    | inr x => simp only at h2 ⊢; rw [h2]
theorem sets_bad {l : List TFrac} {g : TFrac} (hf : FitF g) (hg : okF g = false) (hE : target_Edits l = some (n : Int)) : target_Sets l g = some ([], 1) := by
  unfold target_Sets
  rw [minimal_bad hf hg hE, Option.bind_some]
  obtain ⟨r, h1, h2⟩ := loop_nat (body := target_Sets_L1 (([], 1) : List (List Int) × Int)) (I := fun i s => s = 0) 0 (fun r => r = .inl ()) (s := 0) rfl (lenFU (by omega)) (by
    rintro i s hi rfl
    right
    exact ⟨_, rfl, rfl⟩)
  rw [h1, h2]
  rfl
end
end Go.Proofs.Ytadpbhbkdnfbpaa.P
