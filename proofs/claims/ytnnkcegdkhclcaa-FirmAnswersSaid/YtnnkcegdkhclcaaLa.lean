/- Deeds, plainly: what the checks of the firm and of its reference compute. -/
import Derived.Test.YtnnkcegdkhclcaaDp
import Derived.Test.YtnnkcegdkhclcaaCe
namespace Go.Proofs.Ytnnkcegdkhclcaa.P
open Go.RowKit
set_option linter.unusedSimpArgs false
set_option linter.unusedVariables false

theorem iter_inl {σ ρ : Type} {body : σ → Option (σ ⊕ ρ)} {n : Nat} {s s' : σ} (h : body s = some (.inl s')) : iterL body (n + 1) s = iterL body n s' := by simp only [iterL, h]
theorem iter_inr {σ ρ : Type} {body : σ → Option (σ ⊕ ρ)} {n : Nat} {s : σ} {r : ρ} (h : body s = some (.inr r)) : iterL body (n + 1) s = some r := by simp only [iterL, h]
theorem wrap_nat {i : Nat} (h : i < 4611686018427387904) : IntKind.i64.wrap ((i : Int) + 1) = ((i + 1 : Nat) : Int) := by rw [wrap64 (by omega) (by omega)]; omega
theorem drop_cons {α : Type} {l rest : List α} {i : Nat} {x : α} (h : l.drop i = x :: rest) : i < l.length ∧ l[i]? = some x ∧ l.drop (i + 1) = rest ∧ l.take (i + 1) = l.take i ++ [x] := by
  have hi : i < l.length := by
    rcases Nat.lt_or_ge i l.length with h1 | h1
    · exact h1
    · rw [List.drop_eq_nil_of_le h1] at h; cases h
  rw [List.drop_eq_getElem_cons hi] at h
  simp only [List.cons.injEq] at h
  obtain ⟨h1, h2⟩ := h
  refine ⟨hi, by rw [List.getElem?_eq_getElem hi, h1], h2, ?_⟩
  rw [List.take_succ_eq_append_getElem hi, h1]
theorem drop_nil {α : Type} {l : List α} {i : Nat} (h : l.drop i = []) : l.length ≤ i := by
  have := congrArg List.length h
  simp at this
  omega
theorem idx_of {α : Type} {l : List α} {i : Nat} {x : α} (h : l[i]? = some x) : P.idx l (i : Int) = some x := idx_some (by omega) (by simpa using h)

/-- A search: the first element that gives something. -/
def firstS {α ρ : Type} (st : Nat → α → Option ρ) : Nat → List α → Option ρ
  | _, [] => none
  | i, x :: l => match st i x with | some r => some r | none => firstS st (i + 1) l
theorem scanL {α ρ : Type} (l : List α) {body : Int → Option (Int ⊕ (Unit ⊕ ρ))} (st : Nat → α → Option ρ) (hlen : l.length < 4611686018427387904)
    (hb : ∀ (i : Nat) x, l[i]? = some x → body (i : Int) = some (match st i x with | none => .inl ((i + 1 : Nat) : Int) | some r => .inr (.inr r))) (he : body (l.length : Int) = some (.inr (.inl ()))) :
    loopL body 0 = some (match firstS st 0 l with | none => .inl () | some r => .inr r) := by
  have key : ∀ (rest : List α) (i fuel : Nat), i ≤ l.length → l.drop i = rest → rest.length < fuel → iterL body fuel (i : Int) = some (match firstS st i rest with | none => .inl () | some r => .inr r) := by
    intro rest
    induction rest with
    | nil =>
      intro i fuel hi hd hf
      obtain ⟨f, rfl⟩ : ∃ f, fuel = f + 1 := ⟨fuel - 1, by simp at hf; omega⟩
      have hle := drop_nil hd
      have : i = l.length := by omega
      subst this
      rw [iter_inr he]
      rfl
    | cons x rest ih =>
      intro i fuel hi hd hf
      obtain ⟨f, rfl⟩ : ∃ f, fuel = f + 1 := ⟨fuel - 1, by simp at hf; omega⟩
      obtain ⟨h1, h2, h3, _⟩ := drop_cons hd
      have := hb i x h2
      cases hs : st i x with
      | some r =>
        rw [hs] at this
        rw [iter_inr this]
        simp only [firstS, hs]
      | none =>
        rw [hs] at this
        rw [iter_inl this, ih (i + 1) f h1 h3 (by simp at hf; omega)]
        simp only [firstS, hs]
  exact key l 0 FU (Nat.zero_le _) rfl (by have : FU = 1000000000000000000000000 := rfl; omega)
theorem firstS_none {α ρ : Type} {st : Nat → α → Option ρ} : ∀ {l : List α} {i : Nat}, firstS st i l = none ↔ ∀ j x, l[j]? = some x → st (i + j) x = none
  | [], i => by simp [firstS]
  | x :: l, i => by
    simp only [firstS]
    constructor
    · intro h j y hj
      cases hs : st i x with
      | some r => rw [hs] at h; cases h
      | none =>
        rw [hs] at h
        cases j with
        | zero => simp only [List.getElem?_cons_zero, Option.some.injEq] at hj; subst hj; exact hs
        | succ j =>
          have := firstS_none.1 h j y (by simpa using hj)
          rw [← this]; congr 1; omega
    · intro h
      have h0 := h 0 x rfl
      simp only [Nat.add_zero] at h0
      rw [h0]
      refine firstS_none.2 fun j y hj => ?_
      have := h (j + 1) y (by simpa using hj)
      rw [← this]; congr 1; omega
theorem firstS_some {α ρ : Type} {st : Nat → α → Option ρ} {r : ρ} : ∀ {l : List α} {i : Nat}, firstS st i l = some r → ∃ j x, l[j]? = some x ∧ st (i + j) x = some r
  | [], i, h => by cases h
  | x :: l, i, h => by
    simp only [firstS] at h
    cases hs : st i x with
    | some r' =>
      rw [hs] at h
      exact ⟨0, x, rfl, by rw [Nat.add_zero, hs]; exact h⟩
    | none =>
      rw [hs] at h
      obtain ⟨j, y, h1, h2⟩ := firstS_some h
      exact ⟨j + 1, y, by simpa using h1, by rw [← h2]; congr 1; omega⟩

/-! Lists. -/
theorem same_eq {a b : List Int} (ha : a.length < 4611686018427387904) : r41_Same a b = some (decide (a = b)) := by
  unfold r41_Same
  by_cases hl : a.length = b.length
  · have h1 : ((a.length : Int) != (b.length : Int)) = false := by simp [hl]
    rw [h1]
    simp only [Bool.false_eq_true, if_false]
    rw [scanL a (fun i x => if b[i]? = some x then none else some false) ha (fun i x hx => by
      have hi := (List.getElem?_eq_some_iff.1 hx).1
      have hb : b[i]? = some (b[i]'(by omega)) := List.getElem?_eq_getElem (by omega)
      unfold r41_Same_L1
      simp only [idx_of hx, idx_of hb, Option.bind_some, wrap_nat (show i < 4611686018427387904 by omega)]
      rw [if_pos (by simp; omega)]
      by_cases he : x = b[i]'(by omega)
      · rw [if_neg (by simp [he]), if_pos (by rw [hb, ← he])]
      · rw [if_pos (by simp [he]), if_neg (by rw [hb]; simp; exact fun h => he h.symm)]) (by unfold r41_Same_L1; simp)]
    cases hf : firstS (fun i x => if b[i]? = some x then none else some false) 0 a with
    | none =>
      rw [firstS_none] at hf
      have : a = b := by
        apply List.ext_getElem? 
        intro j
        rcases Nat.lt_or_ge j a.length with hj | hj
        · have := hf j _ (List.getElem?_eq_getElem hj)
          simp only [Nat.zero_add] at this
          split at this
          · rename_i hb; rw [hb, List.getElem?_eq_getElem hj]
          · cases this
        · rw [List.getElem?_eq_none hj, List.getElem?_eq_none (by omega)]
      simp [this]
    | some r =>
      obtain ⟨j, x, h1, h2⟩ := firstS_some hf
      simp only [Nat.zero_add] at h2
      split at h2
      · cases h2
      · rename_i hn
        cases h2
        have : ¬ a = b := fun h => hn (by rw [← h]; exact h1)
        simp [this]
  · have h1 : ((a.length : Int) != (b.length : Int)) = true := by simp; omega
    rw [h1, if_pos rfl]
    have : ¬ a = b := fun h => hl (by rw [h])
    simp [this]
theorem has_eq {l : List Int} {n : Int} (hl : l.length < 4611686018427387904) : r41_Has l n = some (decide (n ∈ l)) := by
  unfold r41_Has
  rw [scanL l (fun i x => if x = n then some true else none) hl (fun i x hx => by
    have hi := (List.getElem?_eq_some_iff.1 hx).1
    unfold r41_Has_L1
    simp only [idx_of hx, Option.bind_some, wrap_nat (show i < 4611686018427387904 by omega)]
    rw [if_pos (by simp; omega)]
    by_cases he : x = n <;> simp [he]) (by unfold r41_Has_L1; simp)]
  cases hf : firstS (fun i x => if x = n then some true else none) 0 l with
  | none =>
    rw [firstS_none] at hf
    have : n ∉ l := fun hm => by
      obtain ⟨j, hj⟩ := List.getElem?_of_mem hm
      have := hf j n hj
      simp at this
    simp [this]
  | some r =>
    obtain ⟨j, x, h1, h2⟩ := firstS_some hf
    split at h2
    · rename_i he
      cases h2
      subst he
      simp [List.mem_of_getElem? h1]
    · cases h2

/-! Deeds as they have to be. -/
def hs (n : Int) : Bool := decide (0 ≤ n) && decide (n < 400)
theorem house_eq (n : Int) : firm_house n = some (hs n) := by
  unfold firm_house hs
  by_cases h : 0 ≤ n
  · rw [if_pos (by simp; omega)]; simp [h]
  · rw [if_neg (by simp; omega)]; simp [h]
theorem rhouse_eq (n : Int) : r41_House n = some (hs n) := house_eq n
theorem hs_iff {n : Int} : hs n = true ↔ 0 ≤ n ∧ n < 400 := by simp [hs]
/-- How many follow. -/
def fol (k n : Int) : Bool := if k = 0 then n == 0 else if k = 2 then n == 1 else if k = 1 then decide (2 ≤ n) && decide (n ≤ 10) else false
/-- The others, behind the last one. -/
def oth (h : Int) : Int → List Int → Bool
  | _, [] => true
  | last, x :: l => hs x && decide (last < x) && (x != h) && oth h x l
def fitsB (d : TDeed) : Bool := hs d.f_House && fol d.f_Kind d.f_Others.length && oth d.f_House (-1) d.f_Others

theorem followers_eq (k n : Int) : firm_followers k n = some (fol k n) := by
  unfold firm_followers fol
  by_cases h0 : k = 0
  · simp [h0]
  · by_cases h2 : k = 2
    · simp [h2]
    · by_cases h1 : k = 1
      · subst h1
        by_cases h3 : 2 ≤ n <;> simp [h3]
      · simp [h0, h1, h2]

theorem fits_loop {d : TDeed} (hl : d.f_Others.length < 4611686018427387904) : loopL (firm_fits_L2 d) (-1, 0) = some (if oth d.f_House (-1) d.f_Others then .inl () else .inr false) := by
  have key : ∀ (rest : List Int) (i fuel : Nat) (last : Int), i ≤ d.f_Others.length → d.f_Others.drop i = rest → rest.length < fuel → iterL (firm_fits_L2 d) fuel (last, (i : Int)) = some (if oth d.f_House last rest then .inl () else .inr false) := by
    intro rest
    induction rest with
    | nil =>
      intro i fuel last hi hd hf
      obtain ⟨f, rfl⟩ : ∃ f, fuel = f + 1 := ⟨fuel - 1, by simp at hf; omega⟩
      have hle := drop_nil hd
      rw [iter_inr (r := .inl ()) (by unfold firm_fits_L2; simp; omega)]
      simp [oth]
    | cons x rest ih =>
      intro i fuel last hi hd hf
      obtain ⟨f, rfl⟩ : ∃ f, fuel = f + 1 := ⟨fuel - 1, by simp at hf; omega⟩
      obtain ⟨h1, h2, h3, _⟩ := drop_cons hd
      have hb : firm_fits_L2 d (last, (i : Int)) = some (if hs x && decide (last < x) && (x != d.f_House) then .inl (x, ((i + 1 : Nat) : Int)) else .inr (.inr false)) := by
        unfold firm_fits_L2
        simp only [idx_of h2, Option.bind_some, house_eq, wrap_nat (show i < 4611686018427387904 by omega)]
        rw [if_pos (by simp; omega)]
        cases hs x
        · simp
        · by_cases hx : x ≤ last
          · have : ¬ last < x := by omega
            simp [hx, this]
          · have : last < x := by omega
            by_cases hh : x = d.f_House <;> simp [hx, this, hh]
      simp only [oth]
      by_cases hc : (hs x && decide (last < x) && (x != d.f_House)) = true
      · rw [if_pos hc] at hb
        rw [iter_inl hb, ih (i + 1) f x h1 h3 (by simp at hf; omega)]
        simp only [hc, Bool.true_and]
      · rw [if_neg hc] at hb
        rw [iter_inr hb]
        simp only [Bool.not_eq_true] at hc
        simp only [hc, Bool.false_and, Bool.false_eq_true, if_false]
  exact key _ 0 FU (-1) (Nat.zero_le _) rfl (by have : FU = 1000000000000000000000000 := rfl; omega)
theorem fits_eq {d : TDeed} (hl : d.f_Others.length < 4611686018427387904) : firm_fits d = some (fitsB d) := by
  unfold firm_fits fitsB
  simp only [house_eq, followers_eq, Option.bind_some, fits_loop hl]
  cases hs d.f_House
  · simp
  · cases fol d.f_Kind d.f_Others.length
    · simp
    · cases oth d.f_House (-1) d.f_Others <;> simp

theorem rfits_loop {d : TDeed} (hl : d.f_Others.length < 4611686018427387904) : loopL (r41_fits_L2 d) 0 = some (if oth d.f_House (-1) d.f_Others then .inl () else .inr false) := by
  have key : ∀ (rest : List Int) (i fuel : Nat) (last : Int), i ≤ d.f_Others.length → d.f_Others.drop i = rest → rest.length < fuel → (i = 0 ∧ last = -1 ∨ 0 < i ∧ d.f_Others[i - 1]? = some last) → iterL (r41_fits_L2 d) fuel (i : Int) = some (if oth d.f_House last rest then .inl () else .inr false) := by
    intro rest
    induction rest with
    | nil =>
      intro i fuel last hi hd hf hp
      obtain ⟨f, rfl⟩ : ∃ f, fuel = f + 1 := ⟨fuel - 1, by simp at hf; omega⟩
      have hle := drop_nil hd
      rw [iter_inr (r := .inl ()) (by unfold r41_fits_L2; simp; omega)]
      simp [oth]
    | cons x rest ih =>
      intro i fuel last hi hd hf hp
      obtain ⟨f, rfl⟩ : ∃ f, fuel = f + 1 := ⟨fuel - 1, by simp at hf; omega⟩
      obtain ⟨h1, h2, h3, _⟩ := drop_cons hd
      have hb : r41_fits_L2 d (i : Int) = some (if hs x && decide (last < x) && (x != d.f_House) then .inl ((i + 1 : Nat) : Int) else .inr (.inr false)) := by
        unfold r41_fits_L2
        simp only [idx_of h2, Option.bind_some, rhouse_eq, wrap_nat (show i < 4611686018427387904 by omega)]
        rw [if_pos (by simp; omega)]
        cases hx : hs x with
        | false => simp
        | true =>
          rw [hs_iff] at hx
          by_cases hh : x = d.f_House
          · simp [hh]
          · rcases hp with ⟨rfl, rfl⟩ | ⟨hp1, hp2⟩
            · have : (-1 : Int) < x := by omega
              simp [hh, this]
            · have hw : IntKind.i64.wrap ((i : Int) - 1) = ((i - 1 : Nat) : Int) := by rw [wrap64 (by omega) (by omega)]; omega
              have hm : (if (0 : Int) > IntKind.i64.wrap ((i : Int) - 1) then 0 else IntKind.i64.wrap ((i : Int) - 1)) = ((i - 1 : Nat) : Int) := by rw [hw, if_neg (by omega)]
              rw [hm, idx_of hp2]
              have : ((i : Int) > 0) := by omega
              by_cases hlx : last < x
              · have h5 : ¬ last ≥ x := by omega
                have h6 : ¬ i = 0 := by omega
                simp [hh, h6, hlx, h5]
              · have h5 : last ≥ x := by omega
                have h6 : ¬ i = 0 := by omega
                simp [hh, h6, hlx, h5]
      simp only [oth]
      by_cases hc : (hs x && decide (last < x) && (x != d.f_House)) = true
      · rw [if_pos hc] at hb
        rw [iter_inl hb, ih (i + 1) f x h1 h3 (by simp at hf; omega) (.inr ⟨by omega, by simpa using h2⟩)]
        simp only [hc, Bool.true_and]
      · rw [if_neg hc] at hb
        rw [iter_inr hb]
        simp only [Bool.not_eq_true] at hc
        simp only [hc, Bool.false_and, Bool.false_eq_true, if_false]
  exact key _ 0 FU (-1) (Nat.zero_le _) rfl (by have : FU = 1000000000000000000000000 := rfl; omega) (.inl ⟨rfl, rfl⟩)
theorem rfits_eq {d : TDeed} (hl : d.f_Others.length < 4611686018427387904) : r41_fits d = some (fitsB d) := by
  unfold r41_fits fitsB
  simp only [rhouse_eq, Option.bind_some, rfits_loop hl]
  cases hs d.f_House
  · simp
  · have hcond : ∀ (k n : Int), 0 ≤ n → (if decide (k < 0) = true then some true else if decide (k ≥ 3) = true then some true else if (k == 0) = true then (if (n != 0) = true then some true else if (k == 2) = true then (if (n != 1) = true then some true else if (k == 1) = true then (if decide (n < 2) = true then some true else some (decide (n > 10))) else some false) else if (k == 1) = true then (if decide (n < 2) = true then some true else some (decide (n > 10))) else some false) else if (k == 2) = true then (if (n != 1) = true then some true else if (k == 1) = true then (if decide (n < 2) = true then some true else some (decide (n > 10))) else some false) else if (k == 1) = true then (if decide (n < 2) = true then some true else some (decide (n > 10))) else some false) = some (!fol k n) := by
      intro k n hn
      unfold fol
      by_cases h0 : k = 0
      · subst h0; by_cases hn0 : n = 0 <;> simp [hn0]
      · by_cases h2 : k = 2
        · subst h2; by_cases hn0 : n = 1 <;> simp [hn0]
        · by_cases h1 : k = 1
          · subst h1
            by_cases h3 : 2 ≤ n
            · have : ¬ n < 2 := by omega
              by_cases h4 : n ≤ 10
              · have : ¬ n > 10 := by omega
                simp [*]
              · have : n > 10 := by omega
                simp [*]
            · have : n < 2 := by omega
              simp [*]
          · by_cases hk : k < 0
            · simp [*]
            · have : k ≥ 3 := by omega
              simp [*]
    rw [show (!true) = false from rfl]
    simp only [Bool.false_eq_true, if_false]
    rw [hcond _ _ (by omega)]
    simp only [Option.bind_some]
    cases fol d.f_Kind d.f_Others.length
    · simp
    · cases oth d.f_House (-1) d.f_Others <;> simp
end Go.Proofs.Ytnnkcegdkhclcaa.P
