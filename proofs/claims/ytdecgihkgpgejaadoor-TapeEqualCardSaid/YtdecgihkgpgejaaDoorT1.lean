/- The vault, in plain words. Loops over lists, plainly; the rows of a tape. The tape of rows. What a tape draws; the tape that draws some things. The tape that draws some things: the two ways give the same; drawing and finding undo one another. The text of a row: both ways give the same; different rows have different texts. Vaults: the two ways to look into one give the same. Rows that were sealed and are opened; the examples; the law TapeTells. -/
import Derived.Test.YtdecgihkgpgejaaDoorDp
import Derived.Test.YtdecgihkgpgejaaDoorCe
import Derived.Lib.ItoaLen
import Derived.Lib.ItoaMem
namespace Go.Proofs.YtdecgihkgpgejaaDoor.P
open Go.RowKit
set_option linter.unusedSimpArgs false
set_option linter.unusedVariables false

theorem within_eq (n h : Int) : vault_within n h = some (decide (0 ≤ n ∧ n ≤ h)) := by
  unfold vault_within
  by_cases h0 : n ≥ 0
  · rw [if_pos (by simpa using h0)]
    have : (0 ≤ n ∧ n ≤ h) ↔ n ≤ h := by omega
    simp [this]
  · rw [if_neg (by simpa using h0)]
    have : ¬ (0 ≤ n ∧ n ≤ h) := by omega
    simp [this]

def leafP (x : TThing) : Prop := x.f_Left = -1 ∧ x.f_Right = -1 ∧ (x.f_Text.size : Int) ≤ 8000 ∧ (0 ≤ x.f_Value ∧ x.f_Value ≤ 1099511627776) ∧ (0 ≤ x.f_Blind ∧ x.f_Blind ≤ 1099511627776)
instance (x : TThing) : Decidable (leafP x) := by unfold leafP; infer_instance
theorem leaf_eq (x : TThing) : vault_leaf x = some (decide (leafP x)) := by
  unfold vault_leaf
  simp only [within_eq, Option.bind_some]
  by_cases h1 : x.f_Left = -1
  · rw [if_pos (by simpa using h1), Option.bind_some]
    by_cases h2 : x.f_Right = -1
    · rw [if_pos (by simpa using h2)]
      by_cases h3 : (x.f_Text.size : Int) ≤ 8000
      · rw [if_pos (decide_eq_true h3)]
        by_cases h4 : 0 ≤ x.f_Value ∧ x.f_Value ≤ 1099511627776
        · rw [if_pos (decide_eq_true h4)]
          congr 1
          rw [decide_eq_decide]
          exact ⟨fun h => ⟨h1, h2, h3, h4, h⟩, fun h => h.2.2.2.2⟩
        · rw [if_neg (by simpa using h4), decide_eq_false (fun h : leafP x => h4 h.2.2.2.1)]
      · rw [if_neg (by simpa using h3), decide_eq_false (fun h : leafP x => h3 h.2.2.1)]
    · rw [if_neg (by simpa using h2), decide_eq_false (fun h : leafP x => h2 h.2.1)]
  · rw [if_neg (by simpa using h1), Option.bind_some, if_neg (by simp), decide_eq_false (fun h : leafP x => h1 h.1)]

def thing0 : TThing := TThing.mk (ByteArray.mk #[]) 0 0 0 0
def pairR (l : List TThing) (a b : Int) : TThing × Int :=
  match P.idx l a, P.idx l b with
  | some x, some y =>
    if IntKind.i64.wrap (x.f_Value + y.f_Value) > 1125899906842624 ∨ IntKind.i64.wrap (x.f_Blind + y.f_Blind) > 1125899906842624 then (thing0, 3)
    else (TThing.mk (ByteArray.mk #[]) (IntKind.i64.wrap (x.f_Value + y.f_Value)) (IntKind.i64.wrap (x.f_Blind + y.f_Blind)) a b, 0)
  | _, _ => (thing0, 4)

theorem idx_none {α : Type} {l : List α} {i : Int} (h : ¬ (0 ≤ i ∧ i < l.length)) : P.idx l i = none := by
  unfold P.idx
  rw [if_neg h]

theorem small {n : Nat} (h : n ≤ maxLen) : (n : Int) ≤ 9223372036854775807 := by
  have : maxLen ≤ 9223372036854775807 := by decide
  omega

theorem pair_eq {l : List TThing} (hl : l.length ≤ maxLen) (a b : Int) : vault_pair l a b = some (pairR l a b) := by
  unfold vault_pair
  have hw : IntKind.i64.wrap ((l.length : Int) - 1) = (l.length : Int) - 1 := wrap64 (by omega) (by have := small hl; omega)
  simp only [within_eq, hw, Option.bind_some]
  by_cases ha : 0 ≤ a ∧ a < l.length
  · have ha' : (0 ≤ a ∧ a ≤ (l.length : Int) - 1) := by omega
    by_cases hb : 0 ≤ b ∧ b < l.length
    · have hb' : (0 ≤ b ∧ b ≤ (l.length : Int) - 1) := by omega
      simp only [ha', hb', and_self, decide_true, Bool.not_true, Bool.false_eq_true, if_false, idx_get ha.1 ha.2, idx_get hb.1 hb.2, Option.bind_some, pairR, decide_eq_true_eq]
      split
      · rename_i h; rw [if_pos (.inl h)]; rfl
      · split
        · rename_i h; rw [if_pos (.inr h)]; rfl
        · rename_i h h'; rw [if_neg (by intro hh; rcases hh with hh | hh <;> contradiction)]
    · have hb' : ¬ (0 ≤ b ∧ b ≤ (l.length : Int) - 1) := by omega
      simp only [ha', hb', and_self, decide_true, decide_false, Bool.not_true, Bool.not_false, Bool.false_eq_true, if_false, if_true, idx_get ha.1 ha.2, idx_none hb, pairR]
      rfl
  · have ha' : ¬ (0 ≤ a ∧ a ≤ (l.length : Int) - 1) := by omega
    simp only [ha', decide_false, Bool.not_false, if_true, idx_none ha, pairR]
    rfl

def okAt (l : List TThing) (i : Nat) : Prop := ∀ x, l[i]? = some x → leafP x ∨ pairR (l.take i) x.f_Left x.f_Right = (x, 0)
def soundP (l : List TThing) : Prop := l.length ≤ 2000 ∧ ∀ i, i < l.length → okAt l i

theorem same_eq (x y : TThing) : ((x.f_Text == y.f_Text) && ((x.f_Value == y.f_Value) && ((x.f_Blind == y.f_Blind) && ((x.f_Left == y.f_Left) && (x.f_Right == y.f_Right))))) = true ↔ x = y := by
  obtain ⟨a, b, c, d, e⟩ := x
  obtain ⟨a', b', c', d', e'⟩ := y
  simp [ba_beq]

theorem Sound_eq (v : TVault) : ∃ b, vault_Sound v = some b ∧ (b = true ↔ soundP v.f_Things) := by
  obtain ⟨l⟩ := v
  unfold vault_Sound
  simp only
  by_cases hlen : l.length ≤ 2000
  · have hle : ¬ ((l.length : Int) > 2000) := by omega
    simp only [hle, decide_false, Bool.false_eq_true, if_false]
    have hm : l.length ≤ maxLen := Nat.le_trans hlen (by decide)
    obtain ⟨r, h1, h2⟩ := loopL_of (body := vault_Sound_L1 ⟨l⟩) (fun s => ∃ i : Nat, s = i ∧ i ≤ l.length ∧ ∀ j, j < i → okAt l j) (fun s => (l.length : Int).toNat - s.toNat)
      (fun r => match r with | .inl _ => soundP l | .inr b => b = false ∧ ¬ soundP l) (s := 0) ⟨0, rfl, Nat.zero_le _, fun j hj => by omega⟩ (by simp only [FU]; omega) (fun s hs => by
        obtain ⟨i, rfl, hi, hok⟩ := hs
        simp only [vault_Sound_L1]
        by_cases hlt : i < l.length
        · rw [if_pos (by simp; omega)]
          simp only [idx_nat hlt, Option.bind_some, leaf_eq]
          have hw : IntKind.i64.wrap ((i : Int) + 1) = ((i + 1 : Nat) : Int) := by rw [wrap64 (by omega) (by omega)]; rfl
          have hnext : okAt l i → (∃ i' : Nat, IntKind.i64.wrap ((i : Int) + 1) = i' ∧ i' ≤ l.length ∧ ∀ j, j < i' → okAt l j) ∧ (l.length : Int).toNat - (IntKind.i64.wrap ((i : Int) + 1)).toNat < (l.length : Int).toNat - (i : Int).toNat := by
            intro hk
            refine ⟨⟨i + 1, hw, hlt, fun j hj => ?_⟩, by rw [hw]; omega⟩
            rcases Nat.lt_succ_iff_lt_or_eq.1 hj with h | rfl
            · exact hok j h
            · exact hk
          by_cases hleaf : leafP l[i]
          · left
            refine ⟨_, by simp only [hleaf, decide_true, if_true], hnext fun x hx => ?_⟩
            rw [List.getElem?_eq_getElem hlt, Option.some.injEq] at hx
            subst hx; exact .inl hleaf
          · simp only [hleaf, decide_false, Bool.false_eq_true, if_false, slc_nat hi, Option.bind_some, pair_eq (show (l.take i).length ≤ maxLen by simp; omega)]
            have hbad : pairR (l.take i) l[i].f_Left l[i].f_Right ≠ (l[i], 0) → ¬ soundP l := by
              intro hne hs
              rcases hs.2 i hlt _ (List.getElem?_eq_getElem hlt) with h | h
              · exact hleaf h
              · exact hne h
            generalize hp : pairR (l.take i) l[i].f_Left l[i].f_Right = p at *
            obtain ⟨y, e⟩ := p
            by_cases he : e = 0
            · subst he
              simp only [bne_self_eq_false, Bool.false_eq_true, if_false]
              by_cases hxy : l[i] = y
              · left
                have := (same_eq l[i] y).2 hxy
                refine ⟨_, by simp only [this, Bool.not_true, Bool.false_eq_true, if_false], hnext fun x hx => ?_⟩
                rw [List.getElem?_eq_getElem hlt, Option.some.injEq] at hx
                subst hx
                exact .inr (by rw [hp, hxy])
              · right
                have := mt (same_eq l[i] y).1 hxy
                refine ⟨.inr false, by rw [if_pos (by rw [Bool.not_eq_true] at this; rw [this]; rfl)], rfl, hbad fun h => hxy ?_⟩
                simp only [Prod.mk.injEq] at h
                exact h.1.symm
            · right
              refine ⟨.inr false, by rw [if_pos (by simpa using he)], rfl, hbad fun h => he ?_⟩
              simp only [Prod.mk.injEq] at h
              exact h.2
        · right
          refine ⟨.inl (), by rw [if_neg (by simp; omega)], hlen, fun j hj => hok j (by omega)⟩)
    rw [h1]
    cases r with
    | inl u => exact ⟨true, rfl, by simpa using h2⟩
    | inr b => obtain ⟨rfl, h3⟩ := h2; exact ⟨false, rfl, by simpa using h3⟩
  · have hle : ((l.length : Int) > 2000) := by omega
    simp only [hle, decide_true, if_true]
    exact ⟨false, rfl, by simp only [Bool.false_eq_true, false_iff]; exact fun h => hlen h.1⟩
end Go.Proofs.YtdecgihkgpgejaaDoor.P
namespace Go.Proofs.YtdecgihkgpgejaaDoor.P
open Go.RowKit
set_option linter.unusedSimpArgs false
set_option linter.unusedVariables false

theorem iter_inl {σ ρ : Type} {body : σ → Option (σ ⊕ ρ)} {n : Nat} {s s' : σ} (h : body s = some (.inl s')) : iterL body (n + 1) s = iterL body n s' := by simp only [iterL, h]
theorem iter_inr {σ ρ : Type} {body : σ → Option (σ ⊕ ρ)} {n : Nat} {s : σ} {r : ρ} (h : body s = some (.inr r)) : iterL body (n + 1) s = some r := by simp only [iterL, h]
theorem wrap_nat {i : Nat} (h : i < 4611686018427387904) : IntKind.i64.wrap ((i : Int) + 1) = ((i + 1 : Nat) : Int) := by rw [wrap64 (by omega) (by omega)]; omega
theorem idx_of {α : Type} {l : List α} {i : Nat} {x : α} (h : l[i]? = some x) : P.idx l (i : Int) = some x := idx_some (by omega) (by simpa using h)

/-- A loop whose states are known, one after another. -/
theorem trajL {σ ρ : Type} {body : σ → Option (σ ⊕ ρ)} (n : Nat) (S : Nat → σ) {r : ρ} (hn : n < 4611686018427387904) (hstep : ∀ i, i < n → body (S i) = some (.inl (S (i + 1)))) (hend : body (S n) = some (.inr r)) : loopL body (S 0) = some r := by
  have key : ∀ (m i fuel : Nat), i + m = n → m < fuel → iterL body fuel (S i) = some r := by
    intro m
    induction m with
    | zero =>
      intro i fuel hi hf
      obtain ⟨f, rfl⟩ : ∃ f, fuel = f + 1 := ⟨fuel - 1, by omega⟩
      have : i = n := by omega
      subst this
      exact iter_inr hend
    | succ m ih =>
      intro i fuel hi hf
      obtain ⟨f, rfl⟩ : ∃ f, fuel = f + 1 := ⟨fuel - 1, by omega⟩
      rw [iter_inl (hstep i (by omega))]
      exact ih (i + 1) f (by omega) (by omega)
  exact key n 0 FU (by omega) (by have : FU = 1000000000000000000000000 := rfl; omega)

/-- A search: the first element that gives something. -/
def firstS {α ρ : Type} (st : Nat → α → Option ρ) : Nat → List α → Option ρ
  | _, [] => none
  | i, x :: l => match st i x with | some r => some r | none => firstS st (i + 1) l
theorem firstS_none {α ρ : Type} {st : Nat → α → Option ρ} : ∀ {l : List α} {i : Nat}, firstS st i l = none ↔ ∀ j x, l[j]? = some x → st (i + j) x = none
  | [], i => by simp [firstS]
  | x :: l, i => by
    simp only [firstS]
    constructor
    · intro h j y hj
      cases hs : st i x with
      | some r => rw [hs] at h; cases h
      | none =>
        rw [hs] at h
        cases j with
        | zero => simp only [List.getElem?_cons_zero, Option.some.injEq] at hj; subst hj; exact hs
        | succ j =>
          have := firstS_none.1 h j y (by simpa using hj)
          rw [← this]; congr 1; omega
    · intro h
      have h0 := h 0 x rfl
      simp only [Nat.add_zero] at h0
      rw [h0]
      refine firstS_none.2 fun j y hj => ?_
      have := h (j + 1) y (by simpa using hj)
      rw [← this]; congr 1; omega
theorem firstS_some {α ρ : Type} {st : Nat → α → Option ρ} {r : ρ} : ∀ {l : List α} {i : Nat}, firstS st i l = some r → ∃ j x, l[j]? = some x ∧ st (i + j) x = some r
  | [], i, h => by cases h
  | x :: l, i, h => by
    simp only [firstS] at h
    cases hs : st i x with
    | some r' =>
      rw [hs] at h
      exact ⟨0, x, rfl, by rw [Nat.add_zero, hs]; exact h⟩
    | none =>
      rw [hs] at h
      obtain ⟨j, y, h1, h2⟩ := firstS_some h
      exact ⟨j + 1, y, by simpa using h1, by rw [← h2]; congr 1; omega⟩
theorem drop_cons {α : Type} {l rest : List α} {i : Nat} {x : α} (h : l.drop i = x :: rest) : i < l.length ∧ l[i]? = some x ∧ l.drop (i + 1) = rest := by
  have hi : i < l.length := by
    rcases Nat.lt_or_ge i l.length with h1 | h1
    · exact h1
    · rw [List.drop_eq_nil_of_le h1] at h; cases h
  rw [List.drop_eq_getElem_cons hi] at h
  simp only [List.cons.injEq] at h
  exact ⟨hi, by rw [List.getElem?_eq_getElem hi, h.1], h.2⟩
/-- A search through a list, or through its first elements. -/
theorem scanN {α ρ : Type} (l : List α) (n : Nat) {body : Int → Option (Int ⊕ (Unit ⊕ ρ))} (st : Nat → α → Option ρ) (hn : n ≤ l.length) (hlen : n < 4611686018427387904)
    (hb : ∀ (i : Nat) x, i < n → l[i]? = some x → body (i : Int) = some (match st i x with | none => .inl ((i + 1 : Nat) : Int) | some r => .inr (.inr r))) (he : body (n : Int) = some (.inr (.inl ()))) :
    loopL body 0 = some (match firstS st 0 (l.take n) with | none => .inl () | some r => .inr r) := by
  have key : ∀ (rest : List α) (i fuel : Nat), i ≤ n → (l.take n).drop i = rest → rest.length < fuel → iterL body fuel (i : Int) = some (match firstS st i rest with | none => .inl () | some r => .inr r) := by
    intro rest
    induction rest with
    | nil =>
      intro i fuel hi hd hf
      obtain ⟨f, rfl⟩ : ∃ f, fuel = f + 1 := ⟨fuel - 1, by simp at hf; omega⟩
      have h0 := congrArg List.length hd
      simp at h0
      have : i = n := by omega
      subst this
      rw [iter_inr he]
      rfl
    | cons x rest ih =>
      intro i fuel hi hd hf
      obtain ⟨f, rfl⟩ : ∃ f, fuel = f + 1 := ⟨fuel - 1, by simp at hf; omega⟩
      obtain ⟨h1, h2, h3⟩ := drop_cons hd
      have hin : i < n := by simp at h1; omega
      have h2' : l[i]? = some x := by rwa [List.getElem?_take_of_lt hin] at h2
      have := hb i x hin h2'
      cases hs : st i x with
      | some r =>
        rw [hs] at this
        rw [iter_inr this]
        simp only [firstS, hs]
      | none =>
        rw [hs] at this
        rw [iter_inl this, ih (i + 1) f (by omega) h3 (by simp at hf; omega)]
        simp only [firstS, hs]
  exact key (l.take n) 0 FU (Nat.zero_le _) rfl (by have : FU = 1000000000000000000000000 := rfl; simp; omega)
theorem scanL {α ρ : Type} (l : List α) {body : Int → Option (Int ⊕ (Unit ⊕ ρ))} (st : Nat → α → Option ρ) (hlen : l.length < 4611686018427387904)
    (hb : ∀ (i : Nat) x, l[i]? = some x → body (i : Int) = some (match st i x with | none => .inl ((i + 1 : Nat) : Int) | some r => .inr (.inr r))) (he : body (l.length : Int) = some (.inr (.inl ()))) :
    loopL body 0 = some (match firstS st 0 l with | none => .inl () | some r => .inr r) := by
  have := scanN l l.length st (Nat.le_refl _) hlen (fun i x _ h => hb i x h) he
  rwa [List.take_length] at this
/-- Do all elements pass? -/
theorem allL {α : Type} (l : List α) {body : Int → Option (Int ⊕ (Unit ⊕ Bool))} (p : Nat → α → Prop) [∀ i x, Decidable (p i x)] (hlen : l.length < 4611686018427387904)
    (hb : ∀ (i : Nat) x, l[i]? = some x → body (i : Int) = some (if p i x then .inl ((i + 1 : Nat) : Int) else .inr (.inr false))) (he : body (l.length : Int) = some (.inr (.inl ()))) :
    (∃ h : (∀ i x, l[i]? = some x → p i x), loopL body 0 = some (.inl ())) ∨ (∃ h : ¬ (∀ i x, l[i]? = some x → p i x), loopL body 0 = some (.inr false)) := by
  have hs := scanL l (fun i x => if p i x then none else some false) hlen (fun i x hx => by
    rw [hb i x hx]
    by_cases h : p i x
    · rw [if_pos h, if_pos h]
    · rw [if_neg h, if_neg h]) he
  cases hf : firstS (fun i x => if p i x then none else some false) 0 l with
  | none =>
    refine .inl ⟨fun i x hx => ?_, by rw [hs, hf]⟩
    have := firstS_none.1 hf i x hx
    simp only [Nat.zero_add] at this
    by_cases h : p i x
    · exact h
    · rw [if_neg h] at this; cases this
  | some r =>
    obtain ⟨j, x, h1, h2⟩ := firstS_some hf
    simp only [Nat.zero_add] at h2
    by_cases h : p j x
    · rw [if_pos h] at h2; cases h2
    · rw [if_neg h] at h2
      cases h2
      exact .inr ⟨fun hall => h (hall j x h1), by rw [hs, hf]⟩

theorem sameI_eq {a b : List Int} (ha : a.length < 4611686018427387904) : r50_SameInts a b = some (decide (a = b)) := by
  unfold r50_SameInts
  by_cases hl : a.length = b.length
  · rw [if_neg (by simp [hl])]
    rcases allL a (body := r50_SameInts_L1 a b) (fun i x => b[i]? = some x) ha (fun i x hx => by
        have hi := (List.getElem?_eq_some_iff.1 hx).1
        have hb : b[i]? = some (b[i]'(by omega)) := List.getElem?_eq_getElem (by omega)
        unfold r50_SameInts_L1
        simp only [idx_of hx, idx_of hb, Option.bind_some, wrap_nat (show i < 4611686018427387904 by omega)]
        rw [if_pos (by simp; omega)]
        by_cases he : x = b[i]'(by omega)
        · rw [if_neg (by simp [he]), if_pos (by rw [hb, ← he])]
        · rw [if_pos (by simp [he]), if_neg (by rw [hb]; simp; exact fun h => he h.symm)]) (by unfold r50_SameInts_L1; simp) with ⟨h, e⟩ | ⟨h, e⟩
    · rw [e]
      have : a = b := by
        apply List.ext_getElem?
        intro j
        rcases Nat.lt_or_ge j a.length with hj | hj
        · rw [h j _ (List.getElem?_eq_getElem hj), List.getElem?_eq_getElem hj]
        · rw [List.getElem?_eq_none hj, List.getElem?_eq_none (by omega)]
      simp [this]
    · rw [e]
      have : a ≠ b := fun hab => h (by subst hab; exact fun _ _ h => h)
      simp [this]
  · rw [if_pos (by simp; omega)]
    have : a ≠ b := fun h => hl (by rw [h])
    simp [this]

/-! A row that is right. -/
def rOk (row : List Int) (n : Int) : Prop := 0 ≤ n ∧ n ≤ 1099511627776 ∧ row.length ≤ 100 ∧ (row.length : Int) ≤ n ∧ ∀ i x, row[i]? = some x → 0 ≤ x ∧ x < n - (i : Nat)
open Classical in
theorem Right_eq {row : List Int} (n : Int) (hr : row.length < 4611686018427387904) : tape_Right row n = some (decide (rOk row n)) := by
  unfold tape_Right
  by_cases h1 : n < 0
  · rw [if_pos (by simp [h1])]
    have : ¬ rOk row n := fun h => by have := h.1; omega
    simp [this]
  rw [if_neg (by simp; omega)]
  by_cases h2 : n > 1099511627776
  · rw [if_pos (by simp; omega)]
    have : ¬ rOk row n := fun h => by have := h.2.1; omega
    simp [this]
  rw [if_neg (by simp; omega)]
  have hm : (if 100 < n then (100 : Int) else n) = min 100 n := by
    split <;> omega
  simp only [Option.bind_some, hm]
  by_cases h3 : (row.length : Int) > min 100 n
  · rw [if_pos (by simp; omega)]
    have : ¬ rOk row n := fun h => by have := h.2.2.1; have := h.2.2.2.1; omega
    simp [this]
  rw [if_neg (by simp; omega)]
  rcases allL row (body := tape_Right_L2 row n) (fun i x => 0 ≤ x ∧ x < n - (i : Nat)) hr (fun i x hx => by
      have hi := (List.getElem?_eq_some_iff.1 hx).1
      unfold tape_Right_L2
      simp only [idx_of hx, Option.bind_some, wrap_nat (show i < 4611686018427387904 by omega)]
      rw [if_pos (by simp; omega), wrap64 (by omega) (by omega)]
      by_cases hx0 : x < 0
      · rw [if_pos (by simp [hx0]), if_neg (by omega)]
      rw [if_neg (by simp; omega)]
      by_cases hx1 : x ≥ n - (i : Nat)
      · rw [if_pos (by simp; omega), if_neg (by omega)]
      · rw [if_neg (by simp; omega), if_pos (by omega)]) (by unfold tape_Right_L2; simp) with ⟨h, e⟩ | ⟨h, e⟩
  · rw [e]
    have : rOk row n := ⟨by omega, by omega, by omega, by omega, h⟩
    simp [this]
  · rw [e]
    have : ¬ rOk row n := fun k => h k.2.2.2.2
    simp [this]
open Classical in
theorem rRight_eq {row : List Int} (n : Int) (hr : row.length < 4611686018427387904) : r50_Right row n = some (decide (rOk row n)) := by
  unfold r50_Right
  by_cases h1 : n < 0
  · rw [if_pos (by simp [h1])]
    have : ¬ rOk row n := fun h => by have := h.1; omega
    simp [this]
  rw [if_neg (by simp; omega)]
  by_cases h2 : n > 1099511627776
  · rw [if_pos (by simp; omega)]
    have : ¬ rOk row n := fun h => by have := h.2.1; omega
    simp [this]
  rw [if_neg (by simp; omega)]
  by_cases h3 : (row.length : Int) > 100
  · rw [if_pos (by simp; omega)]
    have : ¬ rOk row n := fun h => by have := h.2.2.1; omega
    simp [this]
  rw [if_neg (by simp; omega)]
  simp only [Option.bind_some]
  by_cases h4 : (row.length : Int) > n
  · rw [if_pos (by simp; omega)]
    have : ¬ rOk row n := fun h => by have := h.2.2.2.1; omega
    simp [this]
  rw [if_neg (by simp; omega)]
  rcases allL row (body := r50_Right_L2 row n) (fun i x => 0 ≤ x ∧ x < n - (i : Nat)) hr (fun i x hx => by
      have hi := (List.getElem?_eq_some_iff.1 hx).1
      unfold r50_Right_L2
      simp only [idx_of hx, Option.bind_some, wrap_nat (show i < 4611686018427387904 by omega)]
      rw [if_pos (by simp; omega), wrap64 (by omega) (by omega)]
      by_cases hx0 : x < 0
      · rw [if_pos (by simp [hx0]), if_neg (by omega)]
      rw [if_neg (by simp; omega)]
      by_cases hx1 : x ≥ n - (i : Nat)
      · rw [if_pos (by simp; omega), if_neg (by omega)]
      · rw [if_neg (by simp; omega), if_pos (by omega)]) (by unfold r50_Right_L2; simp) with ⟨h, e⟩ | ⟨h, e⟩
  · rw [e]
    have : rOk row n := ⟨by omega, by omega, by omega, by omega, h⟩
    simp [this]
  · rw [e]
    have : ¬ rOk row n := fun k => h k.2.2.2.2
    simp [this]
theorem FewRow_eq (row : List Int) : ∃ b, r50_FewRow row = some b ∧ (b = true → row.length ≤ 102) := by
  unfold r50_FewRow
  by_cases h1 : (row.length : Int) ≤ 20
  · rw [if_pos (by simp; omega)]; exact ⟨_, rfl, fun _ => by omega⟩
  rw [if_neg (by simp; omega)]
  by_cases h2 : (row.length : Int) > 100
  · rw [if_pos (by simp; omega)]; exact ⟨_, rfl, fun h => by simp at h; omega⟩
  · rw [if_neg (by simp; omega)]; exact ⟨_, rfl, fun h => by cases h⟩
theorem Few_eq (rows : List (List Int)) (hl : rows.length < 4611686018427387904) : ∃ b, r50_Few rows = some b ∧ (b = true → rows.length ≤ 402 ∧ ∀ r ∈ rows, r.length ≤ 102) := by
  unfold r50_Few
  obtain ⟨r, hr, hp⟩ := loopL_of (body := r50_Few_L1 rows) (fun s => ∃ i : Nat, s = i ∧ i ≤ rows.length ∧ i ≤ 410 ∧ ∀ j x, j < i → rows[j]? = some x → x.length ≤ 102) (fun s => (410 - s).toNat)
    (fun r => match r with | .inl _ => rows.length ≤ 410 → ∀ r ∈ rows, r.length ≤ 102 | .inr b => b = false) (s := 0) ⟨0, rfl, by omega, by omega, fun j x h => by omega⟩ (by have : FU = 1000000000000000000000000 := rfl; omega)
    (by
      rintro s ⟨i, rfl, h1, h2, h3⟩
      unfold r50_Few_L1
      dsimp only
      by_cases hi : i < rows.length ∧ i < 410
      · rw [if_pos (by simp; omega)]
        simp only [Option.bind_some]
        rw [if_pos (by simp; omega)]
        have hx := List.getElem?_eq_getElem hi.1
        obtain ⟨b, hb, hb2⟩ := FewRow_eq rows[i]
        simp only [idx_of hx, Option.bind_some, hb, wrap_nat (show i < 4611686018427387904 by omega)]
        cases b with
        | false => exact .inr ⟨_, rfl, rfl⟩
        | true =>
          refine .inl ⟨_, rfl, ⟨i + 1, rfl, by omega, by omega, fun j x hj hx' => ?_⟩, by omega⟩
          by_cases hji : j = i
          · subst hji; rw [hx] at hx'; cases hx'; exact hb2 rfl
          · exact h3 j x (by omega) hx'
      · refine .inr ⟨.inl (), ?_, fun hle r hr => ?_⟩
        · by_cases h5 : i < rows.length
          · rw [if_pos (by simp; omega)]
            simp only [Option.bind_some]
            rw [if_neg (by simp; omega)]
          · rw [if_neg (by simp; omega)]
            simp
        · obtain ⟨j, hj, rfl⟩ := List.getElem_of_mem hr
          exact h3 j _ (by omega) (List.getElem?_eq_getElem hj))
  rw [hr]
  simp only [Option.bind_some]
  cases r with
  | inr b => subst hp; exact ⟨_, rfl, fun h => by cases h⟩
  | inl u =>
    dsimp only
    by_cases h1 : (rows.length : Int) ≤ 8
    · rw [if_pos (by simp; omega)]; exact ⟨_, rfl, fun _ => ⟨by omega, hp (by omega)⟩⟩
    rw [if_neg (by simp; omega)]
    by_cases h2 : (rows.length : Int) > 400
    · rw [if_pos (by simp; omega)]; exact ⟨_, rfl, fun h => by simp at h; exact ⟨by omega, hp (by omega)⟩⟩
    · rw [if_neg (by simp; omega)]; exact ⟨_, rfl, fun h => by cases h⟩
end Go.Proofs.YtdecgihkgpgejaaDoor.P
namespace Go.Proofs.YtdecgihkgpgejaaDoor.P
open Go.RowKit
set_option linter.unusedSimpArgs false
set_option linter.unusedVariables false

theorem maxLen_is : maxLen = 9223372036854775807 := rfl
theorem app_ok {α : Type} {B : Nat} {l m : List α} (h1 : l.length + m.length ≤ 1000000) (h2 : B ≤ 1000000) : appL B l m = some (l ++ m) := by
  unfold appL
  have := maxLen_is
  have h3 : (l.length + m.length) * B ≤ 1000000 * 1000000 := Nat.mul_le_mul h1 h2
  rw [if_pos ⟨by omega, by omega⟩]
theorem mk_ok {α : Type} {B k : Nat} {z : α} (h1 : k ≤ 1000000) (h2 : B ≤ 1000000) : mkL B (k : Int) (k : Int) z = some (List.replicate k z) := by
  unfold mkL
  have := maxLen_is
  have h3 : k * B ≤ 1000000 * 1000000 := Nat.mul_le_mul h1 h2
  rw [if_pos ⟨by omega, by omega, by omega, by simpa using by omega⟩]
  simp
theorem tmod_of {x m : Int} (hx : 0 ≤ x) (hm : m ≠ 0) : modI .i64 x m = some (x % m) := by
  unfold modI
  rw [if_neg hm, Int.tmod_eq_emod_of_nonneg hx]
theorem set_step {α : Type} {A B : List α} {i : Nat} {a : α} (hl : A.length = B.length) (ha : A[i]? = some a) : (A.take i ++ B.drop i).set i a = A.take (i + 1) ++ B.drop (i + 1) := by
  have hi := (List.getElem?_eq_some_iff.1 ha).1
  have e1 : A.take (i + 1) = A.take i ++ [a] := by
    rw [List.take_succ_eq_append_getElem hi]
    have := (List.getElem?_eq_some_iff.1 ha).2
    rw [this]
  have e2 : B.drop i = B[i]'(by omega) :: B.drop (i + 1) := List.drop_eq_getElem_cons (by omega)
  have hlen : (A.take i).length = i := by simp; omega
  rw [e1, e2, List.set_append_right _ _ (by omega), hlen, Nat.sub_self, List.set_cons_zero, List.append_assoc]
  rfl
theorem get_step {α : Type} {A B : List α} {i : Nat} (hl : A.length = B.length) (hi : i < B.length) : (A.take i ++ B.drop i)[i]? = B[i]? := by
  have hlen : (A.take i).length = i := by simp; omega
  rw [List.getElem?_append_right (by omega), hlen, Nat.sub_self, List.getElem?_drop, Nat.add_zero]

def colS (rows : List (List Int)) (j : Nat) : Int := (rows.map fun r => r.getD j 0).sum
def tp (rows : List (List Int)) (n : Int) (k : Nat) : List Int := (List.range k).map fun j => colS rows j % (n - (j : Nat))
def tOk (rows : List (List Int)) (n k : Int) : Prop := 0 ≤ k ∧ k ≤ 100 ∧ k ≤ n ∧ n ≤ 1099511627776 ∧ rows.length ≤ 400 ∧ ∀ r ∈ rows, (r.length : Int) = k ∧ rOk r n
theorem tp_len (rows : List (List Int)) (n : Int) (k : Nat) : (tp rows n k).length = k := by simp [tp]
theorem tp_at {rows : List (List Int)} {n : Int} {k j : Nat} (h : j < k) : (tp rows n k)[j]? = some (colS rows j % (n - (j : Nat))) := by simp [tp, h]
theorem colS_snoc (rows : List (List Int)) (r : List Int) (j : Nat) : colS (rows ++ [r]) j = colS rows j + r.getD j 0 := by simp [colS]
theorem colS_app (a b : List (List Int)) (j : Nat) : colS (a ++ b) j = colS a j + colS b j := by simp [colS]
theorem colS_cons (r : List Int) (b : List (List Int)) (j : Nat) : colS (r :: b) j = r.getD j 0 + colS b j := by simp [colS]
theorem tp_nil (n : Int) (k : Nat) : tp [] n k = List.replicate k 0 := by
  apply List.ext_getElem?
  intro j
  by_cases h : j < k
  · rw [tp_at h]; simp [colS, h]
  · rw [List.getElem?_eq_none (by rw [tp_len]; omega), List.getElem?_eq_none (by simp; omega)]

theorem Tape_L6 {pre : List (List Int)} {row : List Int} {n : Int} {k : Nat} (hk : k ≤ 100) (hkn : (k : Int) ≤ n) (hn : n ≤ 1099511627776) (hl : row.length = k) (hr : rOk row n) :
    loopL (tape_Tape_L6 n row) (0, tp pre n k) = some (tp (pre ++ [row]) n k) := by
  have hlen : (tp (pre ++ [row]) n k).length = (tp pre n k).length := by rw [tp_len, tp_len]
  have := trajL (body := tape_Tape_L6 n row) k (fun i => ((i : Int), (tp (pre ++ [row]) n k).take i ++ (tp pre n k).drop i)) (r := tp (pre ++ [row]) n k) (by omega) (fun i hi => by
      have hx : row[i]? = some (row[i]'(by omega)) := List.getElem?_eq_getElem (by omega)
      obtain ⟨b1, b2⟩ := hr.2.2.2.2 i _ hx
      have hy := get_step hlen (i := i) (by rw [tp_len]; exact hi)
      rw [tp_at hi] at hy
      have c1 : 0 ≤ colS pre i % (n - (i : Nat)) := Int.emod_nonneg _ (by omega)
      have c2 : colS pre i % (n - (i : Nat)) < n - (i : Nat) := Int.emod_lt_of_pos _ (by omega)
      unfold tape_Tape_L6
      dsimp only
      rw [if_pos (by simp; omega)]
      simp only [idx_of hx, idx_of hy, Option.bind_some, wrap_nat (show i < 4611686018427387904 by omega)]
      rw [wrap64 (by omega) (by omega), wrap64 (by omega) (by omega), tmod_of (by omega) (by omega)]
      simp only [Option.bind_some, Int.toNat_natCast]
      rw [set_step hlen (by
        rw [tp_at hi, colS_snoc]
        have : row.getD i 0 = row[i]'(by omega) := by simp [List.getD, hx]
        rw [this, Int.emod_add_emod])]) (by
      unfold tape_Tape_L6
      dsimp only
      rw [if_neg (by simp; omega)]
      have e1 : (tp (pre ++ [row]) n k).take k = tp (pre ++ [row]) n k := List.take_of_length_le (by rw [tp_len]; omega)
      have e2 : (tp pre n k).drop k = [] := List.drop_eq_nil_of_le (by rw [tp_len]; omega)
      rw [e1, e2, List.append_nil])
  simpa using this

open Classical in
theorem Tape_eq {rows : List (List Int)} {n k : Int} (h1 : rows.length < 4611686018427387904) (h2 : ∀ r ∈ rows, r.length < 4611686018427387904) : tape_Tape rows n k = some (if tOk rows n k then (tp rows n k.toNat, 0) else ([], 1)) := by
  unfold tape_Tape
  by_cases g1 : k < 0
  · rw [if_pos (by simp; omega), if_neg (fun h => by have := h.1; omega)]; rfl
  rw [if_neg (by simp; omega)]
  by_cases g2 : k > 100
  · rw [if_pos (by simp; omega), if_neg (fun h => by have := h.2.1; omega)]; rfl
  rw [if_neg (by simp; omega)]
  by_cases g3 : n < k
  · rw [if_pos (by simp; omega), if_neg (fun h => by have := h.2.2.1; omega)]; rfl
  rw [if_neg (by simp; omega)]
  by_cases g4 : n > 1099511627776
  · rw [if_pos (by simp; omega), if_neg (fun h => by have := h.2.2.2.1; omega)]; rfl
  rw [if_neg (by simp; omega)]
  simp only [Option.bind_some]
  by_cases g5 : (rows.length : Int) > 400
  · rw [if_pos (by simp; omega), if_neg (fun h => by have := h.2.2.2.2.1; omega)]
  rw [if_neg (by simp; omega)]
  obtain ⟨K, rfl⟩ : ∃ K : Nat, k = K := ⟨k.toNat, by omega⟩
  rw [mk_ok (by omega) (by omega), ← tp_nil n K]
  simp only [Option.bind_some, Int.toNat_natCast]
  obtain ⟨r, hr, hp⟩ := loopL_of (body := tape_Tape_L2 rows n (K : Int)) (fun s => ∃ i : Nat, s = ((i : Int), tp (rows.take i) n K) ∧ i ≤ rows.length ∧ ∀ j x, j < i → rows[j]? = some x → (x.length : Int) = K ∧ rOk x n) (fun s => (rows.length - s.1).toNat)
    (fun r => match r with | .inl l => l = tp rows n K ∧ ∀ r ∈ rows, (r.length : Int) = K ∧ rOk r n | .inr b => b = ([], 1) ∧ ¬ ∀ r ∈ rows, (r.length : Int) = K ∧ rOk r n) (s := (0, tp [] n K)) ⟨0, rfl, by omega, fun j x h => by omega⟩ (by have : FU = 1000000000000000000000000 := rfl; dsimp only; omega)
    (by
      rintro s ⟨i, rfl, k1, k2⟩
      unfold tape_Tape_L2
      dsimp only
      by_cases hi : i < rows.length
      · rw [if_pos (by simp; omega)]
        have hx : rows[i]? = some rows[i] := List.getElem?_eq_getElem hi
        simp only [idx_of hx, Option.bind_some]
        by_cases q1 : (rows[i].length : Int) = K
        · rw [if_neg (by simp [q1]), Right_eq n (h2 _ (List.getElem_mem hi))]
          simp only [Option.bind_some]
          by_cases q2 : rOk rows[i] n
          · rw [if_neg (by simp [q2]), Tape_L6 (by omega) (by omega) (by omega) (by omega) q2]
            simp only [Option.bind_some, wrap_nat (show i < 4611686018427387904 by omega)]
            refine .inl ⟨_, rfl, ⟨i + 1, ?_, by omega, fun j x hj hx' => ?_⟩, by omega⟩
            · rw [List.take_succ_eq_append_getElem hi]
            · by_cases hji : j = i
              · subst hji; rw [hx] at hx'; cases hx'; exact ⟨q1, q2⟩
              · exact k2 j x (by omega) hx'
          · rw [if_pos (by simp [q2])]
            exact .inr ⟨_, rfl, rfl, fun hall => q2 (hall _ (List.getElem_mem hi)).2⟩
        · rw [if_pos (by simp; omega)]
          simp only [Option.bind_some]
          rw [if_pos trivial]
          exact .inr ⟨_, rfl, rfl, fun hall => q1 (hall _ (List.getElem_mem hi)).1⟩
      · rw [if_neg (by simp; omega)]
        refine .inr ⟨_, rfl, ?_, fun r hr => ?_⟩
        · rw [List.take_of_length_le (by omega)]
        · obtain ⟨j, hj, rfl⟩ := List.getElem_of_mem hr
          exact k2 j _ (by omega) (List.getElem?_eq_getElem hj))
  rw [hr]
  simp only [Option.bind_some]
  cases r with
  | inl l =>
    obtain ⟨rfl, hall⟩ := hp
    rw [if_pos ⟨by omega, by omega, by omega, by omega, by omega, hall⟩]
  | inr b =>
    obtain ⟨rfl, hall⟩ := hp
    rw [if_neg (fun h => hall h.2.2.2.2.2)]

theorem rTape_L5 {rows : List (List Int)} {n : Int} {k j : Nat} (hk : k ≤ 100) (hkn : (k : Int) ≤ n) (hn : n ≤ 1099511627776) (hj : j < k) (hl : rows.length ≤ 400) (hr : ∀ r ∈ rows, (r.length : Int) = k ∧ rOk r n) :
    loopL (r50_Tape_L5 rows n (j : Int)) (0, 0) = some (colS rows j % (n - (j : Nat))) := by
  have := trajL (body := r50_Tape_L5 rows n (j : Int)) rows.length (fun i => (colS (rows.take i) j % (n - (j : Nat)), (i : Int))) (r := colS rows j % (n - (j : Nat))) (by omega) (fun i hi => by
      have hx : rows[i]? = some rows[i] := List.getElem?_eq_getElem hi
      obtain ⟨q1, q2⟩ := hr _ (List.getElem_mem hi)
      have hjl : j < rows[i].length := by omega
      have hy : rows[i][j]? = some rows[i][j] := List.getElem?_eq_getElem hjl
      obtain ⟨b1, b2⟩ := q2.2.2.2.2 j _ hy
      have c1 : 0 ≤ colS (rows.take i) j % (n - (j : Nat)) := Int.emod_nonneg _ (by omega)
      have c2 : colS (rows.take i) j % (n - (j : Nat)) < n - (j : Nat) := Int.emod_lt_of_pos _ (by omega)
      unfold r50_Tape_L5
      dsimp only
      rw [if_pos (by simp; omega)]
      simp only [idx_of hx, idx_of hy, Option.bind_some, wrap_nat (show i < 4611686018427387904 by omega)]
      rw [wrap64 (by omega) (by omega), wrap64 (by omega) (by omega), tmod_of (by omega) (by omega)]
      simp only [Option.bind_some]
      rw [List.take_succ_eq_append_getElem hi, colS_snoc]
      have : rows[i].getD j 0 = rows[i][j] := by simp [List.getD, hy]
      rw [this, Int.emod_add_emod]) (by
      unfold r50_Tape_L5
      dsimp only
      rw [if_neg (by simp), List.take_length])
  simpa [colS] using this

open Classical in
theorem rTape_eq {rows : List (List Int)} {n k : Int} (h1 : rows.length < 4611686018427387904) (h2 : ∀ r ∈ rows, r.length < 4611686018427387904) : r50_Tape rows n k = some (if tOk rows n k then (tp rows n k.toNat, 0) else ([], 1)) := by
  unfold r50_Tape
  by_cases g1 : k < 0
  · rw [if_pos (by simp; omega), if_neg (fun h => by have := h.1; omega)]; rfl
  rw [if_neg (by simp; omega)]
  by_cases g2 : k > 100
  · rw [if_pos (by simp; omega), if_neg (fun h => by have := h.2.1; omega)]; rfl
  rw [if_neg (by simp; omega)]
  by_cases g3 : n < k
  · rw [if_pos (by simp; omega), if_neg (fun h => by have := h.2.2.1; omega)]; rfl
  rw [if_neg (by simp; omega)]
  by_cases g4 : n > 1099511627776
  · rw [if_pos (by simp; omega), if_neg (fun h => by have := h.2.2.2.1; omega)]; rfl
  rw [if_neg (by simp; omega)]
  simp only [Option.bind_some]
  by_cases g5 : (rows.length : Int) > 400
  · rw [if_pos (by simp; omega), if_neg (fun h => by have := h.2.2.2.2.1; omega)]
  rw [if_neg (by simp; omega)]
  obtain ⟨K, rfl⟩ : ∃ K : Nat, k = K := ⟨k.toNat, by omega⟩
  have hs := scanL rows (body := r50_Tape_L2 rows n (K : Int)) (fun _ x => if (x.length : Int) = K ∧ rOk x n then none else some (([], 1) : List Int × Int)) h1 (fun i x hx => by
    unfold r50_Tape_L2
    have hi := (List.getElem?_eq_some_iff.1 hx).1
    dsimp only
    rw [if_pos (by simp; omega)]
    simp only [idx_of hx, Option.bind_some, rRight_eq n (h2 _ (List.mem_of_getElem? hx)), wrap_nat (show i < 4611686018427387904 by omega)]
    by_cases q2 : rOk x n
    · rw [if_neg (by simp [q2])]
      by_cases q1 : (x.length : Int) = K
      · rw [if_neg (by simp [q1]), if_pos ⟨q1, q2⟩]
      · rw [if_pos (by simp; omega), if_neg (fun h => q1 h.1)]
    · rw [if_pos (by simp [q2]), if_neg (fun h => q2 h.2)]) (by unfold r50_Tape_L2; simp)
  rw [hs]
  cases hf : firstS (fun _ x => if (x.length : Int) = K ∧ rOk x n then none else some (([], 1) : List Int × Int)) 0 rows with
  | some r =>
    obtain ⟨j, x, e1, e2⟩ := firstS_some hf
    by_cases q : (x.length : Int) = K ∧ rOk x n
    · rw [if_pos q] at e2; cases e2
    · rw [if_neg q] at e2
      cases e2
      rw [if_neg (fun h => q (h.2.2.2.2.2 x (List.mem_of_getElem? e1)))]
      rfl
  | none =>
    have hall : ∀ r ∈ rows, (r.length : Int) = K ∧ rOk r n := by
      intro r hr
      obtain ⟨j, hj, rfl⟩ := List.getElem_of_mem hr
      have := firstS_none.1 hf j _ (List.getElem?_eq_getElem hj)
      by_cases q : (rows[j].length : Int) = K ∧ rOk rows[j] n
      · exact q
      · rw [if_neg q] at this; cases this
    rw [if_pos ⟨by omega, by omega, by omega, by omega, by omega, hall⟩]
    simp only [Option.bind_some, Int.toNat_natCast]
    have := trajL (body := r50_Tape_L3 rows n (K : Int)) K (fun j => ((j : Int), (tp rows n K).take j)) (r := tp rows n K) (by omega) (fun j hj => by
      unfold r50_Tape_L3
      dsimp only
      rw [if_pos (by simp; omega), rTape_L5 (by omega) (by omega) (by omega) hj (by omega) hall]
      simp only [Option.bind_some, wrap_nat (show j < 4611686018427387904 by omega)]
      rw [app_ok (by simp [tp_len]; omega) (by omega)]
      simp only [Option.bind_some]
      have hjl : j < (tp rows n K).length := by rw [tp_len]; exact hj
      rw [List.take_succ_eq_append_getElem hjl]
      have e := tp_at (rows := rows) (n := n) hj
      rw [List.getElem?_eq_getElem hjl, Option.some.injEq] at e
      rw [e]) (by
      unfold r50_Tape_L3
      dsimp only
      rw [if_neg (by simp), List.take_of_length_le (by rw [tp_len]; omega)])
    have this' : loopL (r50_Tape_L3 rows n (K : Int)) (0, []) = some (tp rows n K) := by simpa using this
    rw [this']
    rfl
end Go.Proofs.YtdecgihkgpgejaaDoor.P
namespace Go.Proofs.YtdecgihkgpgejaaDoor.P
open Go.RowKit
set_option linter.unusedSimpArgs false
set_option linter.unusedVariables false

/-! The thing with an index among those that are not drawn. -/
def nthS : List Int → Int → Int
  | [], x => x
  | g :: gs, x => if g ≤ x then nthS gs (x + 1) else x
def posS : List Int → Int → Nat
  | [], _ => 0
  | g :: gs, x => if g ≤ x then posS gs (x + 1) + 1 else 0
theorem nthS_pos : ∀ (gs : List Int) (x : Int), nthS gs x = x + posS gs x
  | [], x => by simp [nthS, posS]
  | g :: gs, x => by
    simp only [nthS, posS]
    split
    · rw [nthS_pos gs (x + 1)]; omega
    · omega
theorem posS_le : ∀ (gs : List Int) (x : Int), posS gs x ≤ gs.length
  | [], x => by simp [posS]
  | g :: gs, x => by
    simp only [posS]
    split
    · have := posS_le gs (x + 1); simp; omega
    · omega
theorem posS_lt : ∀ (gs : List Int) (x : Int) (i : Nat), i < posS gs x → ∃ g, gs[i]? = some g ∧ g ≤ x + i
  | [], x, i, h => by simp [posS] at h
  | g :: gs, x, i, h => by
    simp only [posS] at h
    split at h
    · cases i with
      | zero => exact ⟨g, rfl, by omega⟩
      | succ i =>
        obtain ⟨g', h1, h2⟩ := posS_lt gs (x + 1) i (by omega)
        exact ⟨g', by simpa using h1, by omega⟩
    · omega
theorem posS_end : ∀ (gs : List Int) (x g : Int), gs[posS gs x]? = some g → x + posS gs x < g
  | [], x, g, h => by simp [posS] at h
  | a :: gs, x, g, h => by
    simp only [posS] at h ⊢
    split at h
    · rename_i ha
      have := posS_end gs (x + 1) g (by simpa using h)
      rw [if_pos ha]
      omega
    · rename_i ha
      rw [if_neg ha]
      simp only [List.getElem?_cons_zero, Option.some.injEq] at h
      omega

def cnt (l : List Int) (v : Int) : Nat := l.countP fun g => decide (g ≤ v)
theorem cnt_mono {l : List Int} {u v : Int} (h : u ≤ v) : cnt l u ≤ cnt l v := List.countP_mono_left fun x _ hx => by simp at hx ⊢; omega
theorem cnt_cons (g : Int) (gs : List Int) (v : Int) : cnt (g :: gs) v = cnt gs v + if g ≤ v then 1 else 0 := by
  unfold cnt
  rw [List.countP_cons]
  simp
theorem cnt_none {gs : List Int} {v : Int} (h : ∀ g ∈ gs, v < g) : cnt gs v = 0 := List.countP_eq_zero.2 fun x hx => by have := h x hx; simp; omega
theorem nthS_least : ∀ (gs : List Int) (x y : Int), y = x + cnt gs y → nthS gs x ≤ y
  | [], x, y, h => by simp [cnt] at h; simp [nthS]; omega
  | g :: gs, x, y, h => by
    rw [cnt_cons] at h
    simp only [nthS]
    split
    · rename_i hg
      have hy : x ≤ y := by split at h <;> omega
      rw [if_pos (by omega)] at h
      exact nthS_least gs (x + 1) y (by omega)
    · split at h <;> omega
theorem nthS_ge (gs : List Int) (x : Int) : x ≤ nthS gs x := by rw [nthS_pos]; omega
theorem cnt_nthS : ∀ (gs : List Int) (x : Int), gs.Pairwise (· < ·) → cnt gs (nthS gs x) = posS gs x
  | [], x, _ => by simp [cnt, posS]
  | g :: gs, x, h => by
    obtain ⟨h1, h2⟩ := List.pairwise_cons.1 h
    rw [cnt_cons]
    simp only [nthS, posS]
    split
    · rename_i hg
      have := nthS_ge gs (x + 1)
      rw [cnt_nthS gs (x + 1) h2, if_pos (by omega)]
    · rename_i hg
      rw [cnt_none (fun a ha => by have := h1 a ha; omega)]

def drawS (s : List Int × List Int) (x : Int) : List Int × List Int := (s.1 ++ [nthS s.2 x], s.2.take (posS s.2 x) ++ ([nthS s.2 x] ++ s.2.drop (posS s.2 x)))
def dr (row : List Int) : List Int × List Int := row.foldl drawS ([], [])
theorem dr_snoc (row : List Int) (x : Int) : dr (row ++ [x]) = drawS (dr row) x := by simp [dr]
theorem ins_perm (g : List Int) (i : Nat) (v : Int) : (g.take i ++ ([v] ++ g.drop i)).Perm (g ++ [v]) := by
  have h : (g.take i ++ ([v] ++ g.drop i)).Perm (v :: (g.take i ++ g.drop i)) := List.perm_middle
  rw [List.take_append_drop] at h
  exact h.trans (List.perm_append_singleton v g).symm
/-- What is drawn: the same things in both lists, the second one ascending. -/
theorem dr_inv (row : List Int) : (dr row).1.length = row.length ∧ (dr row).2.length = row.length ∧ (dr row).1.Perm (dr row).2 ∧ (dr row).2.Pairwise (· < ·) := by
  have key : ∀ l : List Int, (dr l.reverse).1.length = l.length ∧ (dr l.reverse).2.length = l.length ∧ (dr l.reverse).1.Perm (dr l.reverse).2 ∧ (dr l.reverse).2.Pairwise (· < ·) := by
    intro l
    induction l with
    | nil => simp [dr]
    | cons x l ih =>
      obtain ⟨i1, i2, i3, i4⟩ := ih
      rw [List.reverse_cons, dr_snoc]
      have hp := posS_le (dr l.reverse).2 x
      refine ⟨by simp [drawS, i1], by simp [drawS]; omega, ?_, ?_⟩
      · exact (i3.append_right [_]).trans (ins_perm _ _ _).symm
      · simp only [drawS]
        have hs : ((dr l.reverse).2.take (posS (dr l.reverse).2 x) ++ (dr l.reverse).2.drop (posS (dr l.reverse).2 x)).Pairwise (· < ·) := by rw [List.take_append_drop]; exact i4
        obtain ⟨s1, s2, s3⟩ := List.pairwise_append.1 hs
        have hv := nthS_pos (dr l.reverse).2 x
        refine List.pairwise_append.2 ⟨s1, ?_, ?_⟩
        · rw [List.singleton_append]
          refine List.pairwise_cons.2 ⟨fun b hb => ?_, s2⟩
          obtain ⟨j, hj, rfl⟩ := List.getElem_of_mem hb
          rw [List.getElem_drop]
          have hlen : posS (dr l.reverse).2 x + j < (dr l.reverse).2.length := by simp at hj; omega
          have h0 : posS (dr l.reverse).2 x < (dr l.reverse).2.length := by omega
          have e := posS_end (dr l.reverse).2 x _ (List.getElem?_eq_getElem h0)
          rcases Nat.eq_zero_or_pos j with hj0 | hj0
          · subst hj0
            simp only [Nat.add_zero]
            omega
          · have := (List.pairwise_iff_getElem.1 i4) _ _ h0 hlen (by omega)
            omega
        · intro a ha b hb
          rw [List.singleton_append] at hb
          rcases List.mem_cons.1 hb with rfl | hb
          · obtain ⟨j, hj, rfl⟩ := List.getElem_of_mem ha
            rw [List.getElem_take]
            have hj' : j < posS (dr l.reverse).2 x := by simp at hj; omega
            obtain ⟨g, g1, g2⟩ := posS_lt _ _ _ hj'
            have hjl : j < (dr l.reverse).2.length := by omega
            rw [List.getElem?_eq_getElem hjl, Option.some.injEq] at g1
            omega
          · exact s3 a ha b hb
  have := key row.reverse
  rw [List.reverse_reverse] at this
  simpa using this

theorem Draw_L3 {gone : List Int} {x : Int} (h0 : 0 ≤ x) (h1 : x ≤ 1099511627776) (hl : gone.length ≤ 1000) : loopL (tape_Draw_L3 gone) (x, 0) = some (nthS gone x, (posS gone x : Int)) := by
  have hp := posS_le gone x
  have := trajL (body := tape_Draw_L3 gone) (posS gone x) (fun i => (x + (i : Int), (i : Int))) (r := (nthS gone x, (posS gone x : Int))) (by omega) (fun i hi => by
      obtain ⟨g, g1, g2⟩ := posS_lt gone x i hi
      unfold tape_Draw_L3
      dsimp only
      rw [if_pos (by simp; omega)]
      simp only [idx_of g1, Option.bind_some]
      rw [if_pos (by simp; omega), wrap64 (by omega) (by omega), wrap_nat (by omega)]
      have e : x + (i : Int) + 1 = x + ((i + 1 : Nat) : Int) := by omega
      rw [e]) (by
      unfold tape_Draw_L3
      dsimp only
      by_cases hlt : posS gone x < gone.length
      · rw [if_pos (by simp; omega)]
        have hx := List.getElem?_eq_getElem hlt
        have e := posS_end gone x _ hx
        simp only [idx_of hx, Option.bind_some]
        rw [if_neg (by simp; omega), nthS_pos]
      · rw [if_neg (by simp; omega), nthS_pos])
  simpa using this

open Classical in
theorem Draw_eq {row : List Int} (n : Int) (hr : row.length < 4611686018427387904) : tape_Draw row n = some (if rOk row n then ((dr row).1, 0) else ([], 1)) := by
  unfold tape_Draw
  rw [Right_eq n hr]
  simp only [Option.bind_some]
  by_cases h : rOk row n
  · rw [if_neg (by simp [h]), if_pos h]
    obtain ⟨k1, k2, k3, k4, k5⟩ := h
    have hm : mkL 8 0 (row.length : Int) (0 : Int) = some [] := by
      unfold mkL
      have := maxLen_is
      rw [if_pos ⟨by omega, by omega, by omega, by simp; omega⟩]
      rfl
    rw [hm]
    simp only [Option.bind_some]
    have := trajL (body := tape_Draw_L1 row) row.length (fun i => ((i : Int), (dr (row.take i)).1, (dr (row.take i)).2)) (r := (dr row).1) (by omega) (fun i hi => by
        have hx := List.getElem?_eq_getElem hi
        obtain ⟨b1, b2⟩ := k5 i _ hx
        obtain ⟨d1, d2, d3, d4⟩ := dr_inv (row.take i)
        have hl : (row.take i).length = i := by simp; omega
        unfold tape_Draw_L1
        dsimp only
        rw [if_pos (by simp; omega)]
        simp only [idx_of hx, Option.bind_some]
        rw [Draw_L3 b1 (by omega) (by omega)]
        simp only [Option.bind_some]
        rw [app_ok (by simp; omega) (by omega)]
        simp only [Option.bind_some]
        have hp := posS_le (dr (row.take i)).2 row[i]
        have hins : insL 8 (dr (row.take i)).2 (posS (dr (row.take i)).2 row[i] : Int) [nthS (dr (row.take i)).2 row[i]] = some ((dr (row.take i)).2.take (posS (dr (row.take i)).2 row[i]) ++ ([nthS (dr (row.take i)).2 row[i]] ++ (dr (row.take i)).2.drop (posS (dr (row.take i)).2 row[i]))) := by
          unfold insL
          rw [if_pos ⟨by omega, by omega, by simp, by simp; omega⟩]
          simp
        rw [hins]
        simp only [Option.bind_some, wrap_nat (show i < 4611686018427387904 by omega)]
        rw [List.take_succ_eq_append_getElem hi, dr_snoc]
        rfl) (by
        unfold tape_Draw_L1
        dsimp only
        rw [if_neg (by simp), List.take_length])
    have this' : loopL (tape_Draw_L1 row) (0, [], []) = some (dr row).1 := by simpa [dr] using this
    rw [this']
    rfl
  · rw [if_pos (by simp [h]), if_neg h]

theorem rnth_L3 {out : List Int} {v : Int} (hl : out.length ≤ 1000) : loopL (r50_nth_L3 out v) (0, 0) = some (cnt out v : Int) := by
  have := trajL (body := r50_nth_L3 out v) out.length (fun i => ((cnt (out.take i) v : Int), (i : Int))) (r := (cnt out v : Int)) (by omega) (fun i hi => by
      have hx := List.getElem?_eq_getElem hi
      have hc : cnt (out.take i) v ≤ (out.take i).length := List.countP_le_length
      have hcl : (out.take i).length ≤ i := by simp; omega
      unfold r50_nth_L3
      dsimp only
      rw [if_pos (by simp; omega)]
      simp only [idx_of hx, Option.bind_some, wrap_nat (show i < 4611686018427387904 by omega)]
      have e : cnt (out.take (i + 1)) v = cnt (out.take i) v + if out[i] ≤ v then 1 else 0 := by
        rw [List.take_succ_eq_append_getElem hi]
        unfold cnt
        rw [List.countP_append, List.countP_cons]
        simp
      rw [e]
      by_cases hv : out[i] ≤ v
      · rw [if_pos (by simp; omega), if_pos hv, wrap_nat (by omega)]
      · rw [if_neg (by simp; omega), if_neg hv]; rfl) (by
      unfold r50_nth_L3
      dsimp only
      rw [if_neg (by simp), List.take_length])
  simpa [cnt] using this

theorem rnth_eq {out gone : List Int} {x : Int} (h0 : 0 ≤ x) (h1 : x ≤ 1099511627776) (hl : out.length ≤ 1000) (hp : out.Perm gone) (hs : gone.Pairwise (· < ·)) : r50_nth out x = some (nthS gone x) := by
  unfold r50_nth
  have hc : ∀ v, cnt out v = cnt gone v := fun v => hp.countP_eq _
  have hle : ∀ v, cnt out v ≤ 1000 := fun v => Nat.le_trans List.countP_le_length hl
  have hfix : nthS gone x = x + cnt out (nthS gone x) := by rw [hc, cnt_nthS gone x hs, nthS_pos]
  obtain ⟨r, hr, rfl⟩ := loopL_of (body := r50_nth_L1 out x) (fun s => x ≤ s ∧ s ≤ nthS gone x ∧ s ≤ x + cnt out s) (fun s => (nthS gone x - s).toNat) (fun r => r = nthS gone x) (s := x) ⟨by omega, nthS_ge _ _, by omega⟩
    (by have := hle (nthS gone x); have : FU = 1000000000000000000000000 := rfl; omega) (by
      rintro s ⟨k1, k2, k3⟩
      have q1 := hle s
      have q2 := hle (nthS gone x)
      have q3 := cnt_mono (l := out) k2
      unfold r50_nth_L1
      dsimp only
      rw [rnth_L3 hl]
      simp only [Option.bind_some]
      rw [wrap64 (by omega) (by omega)]
      by_cases he : s = x + (cnt out s : Int)
      · rw [if_pos (by simp; exact he)]
        refine .inr ⟨s, rfl, ?_⟩
        have := nthS_least gone x s (by rw [← hc]; exact he)
        omega
      · rw [if_neg (by simp; exact he)]
        refine .inl ⟨_, rfl, ⟨by omega, by omega, ?_⟩, by omega⟩
        have := cnt_mono (l := out) (u := s) (v := x + (cnt out s : Int)) (by omega)
        omega)
  rw [hr]
  rfl

open Classical in
theorem rDraw_eq {row : List Int} (n : Int) (hr : row.length < 4611686018427387904) : r50_Draw row n = some (if rOk row n then ((dr row).1, 0) else ([], 1)) := by
  unfold r50_Draw
  rw [rRight_eq n hr]
  simp only [Option.bind_some]
  by_cases h : rOk row n
  · rw [if_neg (by simp [h]), if_pos h]
    obtain ⟨k1, k2, k3, k4, k5⟩ := h
    have := trajL (body := r50_Draw_L1 row) row.length (fun i => ((i : Int), (dr (row.take i)).1)) (r := (dr row).1) (by omega) (fun i hi => by
        have hx := List.getElem?_eq_getElem hi
        obtain ⟨b1, b2⟩ := k5 i _ hx
        obtain ⟨d1, d2, d3, d4⟩ := dr_inv (row.take i)
        have hl : (row.take i).length = i := by simp; omega
        unfold r50_Draw_L1
        dsimp only
        rw [if_pos (by simp; omega)]
        simp only [idx_of hx, Option.bind_some]
        rw [rnth_eq b1 (by omega) (by omega) d3 d4]
        simp only [Option.bind_some]
        rw [app_ok (by simp; omega) (by omega)]
        simp only [Option.bind_some, wrap_nat (show i < 4611686018427387904 by omega)]
        rw [List.take_succ_eq_append_getElem hi, dr_snoc]
        rfl) (by
        unfold r50_Draw_L1
        dsimp only
        rw [if_neg (by simp), List.take_length])
    have this' : loopL (r50_Draw_L1 row) (0, []) = some (dr row).1 := by simpa [dr] using this
    rw [this']
    rfl
  · rw [if_pos (by simp [h]), if_neg h]

/-! The tape that draws some things. -/
def low (l : List Int) (y : Int) : Nat := l.countP fun g => decide (g < y)
def fd (l : List Int) : List Int := (List.range l.length).map fun j => l.getD j 0 - (low (l.take j) (l.getD j 0) : Int)
theorem fd_len (l : List Int) : (fd l).length = l.length := by simp [fd]
theorem fd_at {l : List Int} {j : Nat} (h : j < l.length) : (fd l)[j]? = some (l[j] - (low (l.take j) l[j] : Int)) := by
  simp [fd, h]
theorem low_snoc (l : List Int) (x y : Int) : low (l ++ [x]) y = low l y + if x < y then 1 else 0 := by
  unfold low
  rw [List.countP_append, List.countP_cons]
  simp
theorem low_le (l : List Int) (y : Int) : low l y ≤ l.length := List.countP_le_length

theorem twice_eq {l : List Int} (hl : l.length * 8 ≤ 140737488351232) : tape_twice l = some (decide (¬ l.Nodup)) := by
  unfold tape_twice slices_Values slices_Sorted_slices_Values_int_int_1 slices_Compact valuesW
  simp only [Option.bind_some]
  unfold sortedW
  rw [if_pos hl]
  simp only [Option.bind_some]
  unfold compW
  have hlen := sortI_len l
  rw [if_pos (by omega)]
  simp only [Option.bind_some]
  have hperm : (sortI l).Perm l := List.mergeSort_perm _ _
  have hsort : (sortI l).Pairwise (fun a b => decide (a ≤ b) = true) := List.pairwise_mergeSort (fun a b c h1 h2 => by simp at *; omega) (fun a b => by simp; omega) l
  have hpos : ∀ (s : List Int) (h : s.length = s.length), (Lib.compact s).length ≤ s.length := fun s _ => by
    unfold Lib.compact Lib.compactUpTo
    rw [List.length_map]
    refine Nat.le_trans (List.length_filter_le _ _) (by simp)
  by_cases hn : l.Nodup
  · have hs : (sortI l).Nodup := hperm.nodup_iff.2 hn
    have : Lib.compact (sortI l) = sortI l := Lib.compact_all _ fun j hj => by
      unfold Lib.keeps
      by_cases h0 : j = 0
      · simp [h0]
      · have h1 : j - 1 < (sortI l).length := by omega
        have := (List.pairwise_iff_getElem.1 hs) (j - 1) j h1 hj (by omega)
        simp only [decide_eq_true_eq]
        refine .inr ?_
        simp only [List.getElem!_toArray]
        rw [getElem!_pos (sortI l) j hj, getElem!_pos (sortI l) (j - 1) h1]
        exact fun h => this h.symm
    rw [this, hlen]
    simp [hn]
  · have : (Lib.compact (sortI l)).length < l.length := by
      refine Nat.lt_of_le_of_ne (by rw [← hlen]; exact hpos _ rfl) fun he => hn (hperm.nodup_iff.1 ?_)
      unfold Lib.compact Lib.compactUpTo at he
      rw [List.length_map] at he
      have hall := (List.length_filter_eq_length_iff (l := List.range (sortI l).length) (p := Lib.keeps (sortI l).toArray)).1 (by rw [he, List.length_range, hlen])
      refine List.pairwise_iff_getElem.2 fun i j hi hj hij => ?_
      have hk := hall j (List.mem_range.2 hj)
      unfold Lib.keeps at hk
      simp only [decide_eq_true_eq] at hk
      have h1 : j - 1 < (sortI l).length := by omega
      rcases hk with hk | hk
      · omega
      · simp only [List.getElem!_toArray] at hk
        rw [getElem!_pos (sortI l) j hj, getElem!_pos (sortI l) (j - 1) h1] at hk
        have a2 := (List.pairwise_iff_getElem.1 hsort) (j - 1) j h1 hj (by omega)
        simp only [decide_eq_true_eq] at a2
        by_cases hij' : i = j - 1
        · subst hij'; exact fun h => hk h.symm
        · have a1 := (List.pairwise_iff_getElem.1 hsort) i (j - 1) hi h1 (by omega)
          simp only [decide_eq_true_eq] at a1
          omega
    simp [hn]
    omega
end Go.Proofs.YtdecgihkgpgejaaDoor.P
namespace Go.Proofs.YtdecgihkgpgejaaDoor.P
open Go.RowKit
set_option linter.unusedSimpArgs false
set_option linter.unusedVariables false

def fOk (l : List Int) (n : Int) : Prop := 0 ≤ n ∧ n ≤ 1099511627776 ∧ l.length ≤ 100 ∧ ∀ x ∈ l, 0 ≤ x ∧ x < n
theorem contains_eq {l : List Int} {n : Int} (hl : l.length < 4611686018427387904) : ∃ b, slices_ContainsFunc_tape_Find_1 l n = some b ∧ (b = false ↔ ∀ x ∈ l, 0 ≤ x ∧ x < n) := by
  unfold slices_ContainsFunc_tape_Find_1 slices_IndexFunc_tape_Find_1
  have hs := scanL l (body := slices_IndexFunc_tape_Find_1_L1 l n) (fun i x => if 0 ≤ x ∧ x < n then none else some (i : Int)) hl (fun i x hx => by
    have hi := (List.getElem?_eq_some_iff.1 hx).1
    unfold slices_IndexFunc_tape_Find_1_L1 tape_Find_1
    dsimp only
    rw [if_pos (by simp; omega)]
    simp only [idx_of hx, Option.bind_some, wrap_nat (show i < 4611686018427387904 by omega)]
    by_cases h0 : x < 0
    · rw [if_pos (by simp [h0]), if_neg (by omega)]
      simp
    · rw [if_neg (by simp; omega)]
      simp only [Option.bind_some]
      by_cases h1 : x ≥ n
      · rw [if_pos (by simp; omega), if_neg (by omega)]
      · rw [if_neg (by simp; omega), if_pos (by omega)]) (by unfold slices_IndexFunc_tape_Find_1_L1; simp)
  rw [hs]
  cases hf : firstS (fun i x => if 0 ≤ x ∧ x < n then none else some (i : Int)) 0 l with
  | none =>
    refine ⟨_, rfl, ?_⟩
    have : ∀ x ∈ l, 0 ≤ x ∧ x < n := by
      intro x hx
      obtain ⟨j, hj, rfl⟩ := List.getElem_of_mem hx
      have := firstS_none.1 hf j _ (List.getElem?_eq_getElem hj)
      by_cases q : 0 ≤ l[j] ∧ l[j] < n
      · exact q
      · rw [if_neg q] at this; cases this
    simp
    exact this
  | some r =>
    obtain ⟨j, x, e1, e2⟩ := firstS_some hf
    refine ⟨_, rfl, ?_⟩
    by_cases q : 0 ≤ x ∧ x < n
    · rw [if_pos q] at e2; cases e2
    · rw [if_neg q] at e2
      simp only [Nat.zero_add, Option.some.injEq] at e2
      subst e2
      constructor
      · intro h; simp at h
      · intro h; exact absurd (h x (List.mem_of_getElem? e1)) q

theorem Find_L4 {l out : List Int} {j : Nat} {y : Int} (hj : l[j]? = some y) (ho : out[j]? = some y) (hl : l.length ≤ 100) (h0 : 0 ≤ y) (h1 : y ≤ 1099511627776) :
    loopL (tape_Find_L4 l (j : Int) (l.take j)) (0, out) = some (out.set j (y - (low (l.take j) y : Int))) := by
  have hjl := (List.getElem?_eq_some_iff.1 hj).1
  have hjo := (List.getElem?_eq_some_iff.1 ho).1
  have hlen : (l.take j).length = j := by simp; omega
  have := trajL (body := tape_Find_L4 l (j : Int) (l.take j)) j (fun i => ((i : Int), out.set j (y - (low (l.take i) y : Int)))) (r := out.set j (y - (low (l.take j) y : Int))) (by omega) (fun i hi => by
      have hil : i < l.length := by omega
      have hx : (l.take j)[i]? = some l[i] := by rw [List.getElem?_take_of_lt hi]; exact List.getElem?_eq_getElem hil
      have hlo := low_le (l.take i) y
      have hcl : (l.take i).length ≤ i := by simp; omega
      unfold tape_Find_L4
      dsimp only
      rw [if_pos (by simp; omega)]
      simp only [idx_of hx, idx_of hj, Option.bind_some, wrap_nat (show i < 4611686018427387904 by omega)]
      have e : low (l.take (i + 1)) y = low (l.take i) y + if l[i] < y then 1 else 0 := by rw [List.take_succ_eq_append_getElem hil, low_snoc]
      rw [e]
      by_cases hlt : l[i] < y
      · have hg : (out.set j (y - (low (l.take i) y : Int)))[j]? = some (y - (low (l.take i) y : Int)) := by simp [hjo]
        rw [if_pos (by simp; omega), if_pos hlt]
        simp only [idx_of hg, Option.bind_some, Int.toNat_natCast, List.set_set]
        rw [wrap64 (by omega) (by omega)]
        have e2 : y - (low (l.take i) y : Int) - 1 = y - ((low (l.take i) y + 1 : Nat) : Int) := by omega
        rw [e2]
      · rw [if_neg (by simp; omega), if_neg hlt]
        rfl) (by
      unfold tape_Find_L4
      dsimp only
      rw [if_neg (by simp; omega)])
  have e0 : out.set j (y - (low (l.take 0) y : Int)) = out := by
    have : y - (low (l.take 0) y : Int) = y := by simp [low]
    rw [this]
    have := (List.getElem?_eq_some_iff.1 ho).2
    rw [← this, List.set_getElem_self]
  rw [e0] at this
  exact this

theorem clone_eq {l : List Int} (hl : l.length ≤ 1000) : slices_Clone l = some l := by
  unfold slices_Clone
  rw [app_ok (by simp; omega) (by omega)]
  rfl

open Classical in
theorem Find_eq {l : List Int} (n : Int) (hl : l.length * 8 ≤ 140737488351232) : tape_Find l n = some (if fOk l n then (if l.Nodup then (fd l, 0) else ([], 5)) else ([], 1)) := by
  unfold tape_Find
  by_cases h1 : n < 0
  · rw [if_pos (by simp [h1]), if_neg (fun h => by have := h.1; omega)]; rfl
  rw [if_neg (by simp; omega)]
  by_cases h2 : n > 1099511627776
  · rw [if_pos (by simp; omega), if_neg (fun h => by have := h.2.1; omega)]; rfl
  rw [if_neg (by simp; omega)]
  by_cases h3 : (l.length : Int) > 100
  · rw [if_pos (by simp; omega), if_neg (fun h => by have := h.2.2.1; omega)]; rfl
  rw [if_neg (by simp; omega)]
  obtain ⟨b, hb, hb2⟩ := contains_eq (l := l) (n := n) (by omega)
  rw [hb]
  simp only [Option.bind_some]
  cases b with
  | true =>
    rw [if_pos rfl, if_neg (fun h => by have := hb2.2 h.2.2.2; cases this)]
  | false =>
    rw [if_neg (by simp), if_pos ⟨by omega, by omega, by omega, hb2.1 rfl⟩, twice_eq hl]
    simp only [Option.bind_some]
    by_cases hn : l.Nodup
    · rw [if_neg (by simp [hn]), if_pos hn, clone_eq (by omega)]
      simp only [Option.bind_some]
      have := trajL (body := tape_Find_L2 l l) l.length (fun j => ((j : Int), (fd l).take j ++ l.drop j)) (r := fd l) (by omega) (fun j hj => by
          have hx := List.getElem?_eq_getElem hj
          have hr := hb2.1 rfl _ (List.getElem_mem hj)
          unfold tape_Find_L2
          dsimp only
          rw [if_pos (by simp; omega), slc_nat (by omega)]
          simp only [Option.bind_some]
          rw [Find_L4 hx (by rw [get_step (fd_len l) hj]; exact hx) (by omega) hr.1 (by omega)]
          simp only [Option.bind_some, wrap_nat (show j < 4611686018427387904 by omega)]
          rw [set_step (fd_len l) (fd_at hj)]) (by
          unfold tape_Find_L2
          dsimp only
          rw [if_neg (by simp), List.take_of_length_le (by rw [fd_len]; omega), List.drop_eq_nil_of_le (by omega), List.append_nil])
      have this' : loopL (tape_Find_L2 l l) (0, l) = some (fd l) := by simpa using this
      rw [this']
      rfl
    · rw [if_pos (by simp [hn]), if_neg hn]

theorem has_eq {l : List Int} {x : Int} (hl : l.length < 4611686018427387904) : r50_has l x = some (decide (x ∈ l)) := by
  unfold r50_has
  have hs := scanL l (body := r50_has_L1 l x) (fun _ y => if y = x then some true else none) hl (fun i y hy => by
    have hi := (List.getElem?_eq_some_iff.1 hy).1
    unfold r50_has_L1
    dsimp only
    rw [if_pos (by simp; omega)]
    simp only [idx_of hy, Option.bind_some, wrap_nat (show i < 4611686018427387904 by omega)]
    by_cases h : y = x
    · rw [if_pos (by simp [h]), if_pos h]
    · rw [if_neg (by simp [h]), if_neg h]) (by unfold r50_has_L1; simp)
  rw [hs]
  cases hf : firstS (fun (_ : Nat) y => if y = x then some true else none) 0 l with
  | none =>
    have : x ∉ l := fun hx => by
      obtain ⟨j, hj, rfl⟩ := List.getElem_of_mem hx
      have := firstS_none.1 hf j _ (List.getElem?_eq_getElem hj)
      rw [if_pos rfl] at this
      cases this
    simp [this]
  | some r =>
    obtain ⟨j, y, e1, e2⟩ := firstS_some hf
    by_cases h : y = x
    · rw [if_pos h] at e2
      cases e2
      have := List.mem_of_getElem? e1
      rw [h] at this
      simp [this]
    · rw [if_neg h] at e2; cases e2

theorem rFind_L5 {l : List Int} {j : Nat} {y : Int} (hj : j ≤ l.length) (hl : l.length ≤ 100) (h0 : 0 ≤ y) (h1 : y ≤ 1099511627776) : loopL (r50_Find_L5 l (j : Int) y) (y, 0) = some (y - (low (l.take j) y : Int)) := by
  have := trajL (body := r50_Find_L5 l (j : Int) y) j (fun i => (y - (low (l.take i) y : Int), (i : Int))) (r := y - (low (l.take j) y : Int)) (by omega) (fun i hi => by
      have hil : i < l.length := by omega
      have hx := List.getElem?_eq_getElem hil
      have hlo := low_le (l.take i) y
      have hcl : (l.take i).length ≤ i := by simp; omega
      unfold r50_Find_L5
      dsimp only
      rw [if_pos (by simp; omega)]
      simp only [idx_of hx, Option.bind_some, wrap_nat (show i < 4611686018427387904 by omega)]
      have e : low (l.take (i + 1)) y = low (l.take i) y + if l[i] < y then 1 else 0 := by rw [List.take_succ_eq_append_getElem hil, low_snoc]
      rw [e]
      by_cases hlt : l[i] < y
      · rw [if_pos (by simp; omega), if_pos hlt, wrap64 (by omega) (by omega)]
        have e2 : y - (low (l.take i) y : Int) - 1 = y - ((low (l.take i) y + 1 : Nat) : Int) := by omega
        rw [e2]
      · rw [if_neg (by simp; omega), if_neg hlt]
        rfl) (by
      unfold r50_Find_L5
      dsimp only
      rw [if_neg (by simp)])
  simpa [low] using this

theorem nodup_snoc {l : List Int} {x : Int} : (l ++ [x]).Nodup ↔ l.Nodup ∧ x ∉ l := by
  rw [List.nodup_append]
  constructor
  · rintro ⟨h1, h2, h3⟩
    exact ⟨h1, fun h => h3 x h x (by simp) rfl⟩
  · rintro ⟨h1, h2⟩
    exact ⟨h1, by simp, fun a ha b hb => by simp at hb; subst hb; exact fun h => h2 (h ▸ ha)⟩

open Classical in
theorem rFind_eq {l : List Int} (n : Int) (hl : l.length * 8 ≤ 140737488351232) : r50_Find l n = some (if fOk l n then (if l.Nodup then (fd l, 0) else ([], 5)) else ([], 1)) := by
  unfold r50_Find
  by_cases h1 : n < 0
  · rw [if_pos (by simp [h1]), if_neg (fun h => by have := h.1; omega)]; rfl
  rw [if_neg (by simp; omega)]
  by_cases h2 : n > 1099511627776
  · rw [if_pos (by simp; omega), if_neg (fun h => by have := h.2.1; omega)]; rfl
  rw [if_neg (by simp; omega)]
  simp only [Option.bind_some]
  by_cases h3 : (l.length : Int) > 100
  · rw [if_pos (by simp; omega), if_neg (fun h => by have := h.2.2.1; omega)]
  rw [if_neg (by simp; omega)]
  have hs := scanL l (body := r50_Find_L2 l n) (fun _ x => if 0 ≤ x ∧ x < n then none else some (([], 1) : List Int × Int)) (by omega) (fun i x hx => by
    have hi := (List.getElem?_eq_some_iff.1 hx).1
    unfold r50_Find_L2
    dsimp only
    rw [if_pos (by simp; omega)]
    simp only [idx_of hx, Option.bind_some, wrap_nat (show i < 4611686018427387904 by omega)]
    by_cases h0 : x < 0
    · rw [if_pos (by simp [h0]), if_neg (by omega)]
    · rw [if_neg (by simp; omega)]
      by_cases h1 : x ≥ n
      · rw [if_pos (by simp; omega), if_neg (by omega)]
      · rw [if_neg (by simp; omega), if_pos (by omega)]) (by unfold r50_Find_L2; simp)
  rw [hs]
  cases hf : firstS (fun (_ : Nat) x => if 0 ≤ x ∧ x < n then none else some (([], 1) : List Int × Int)) 0 l with
  | some r =>
    obtain ⟨j, x, e1, e2⟩ := firstS_some hf
    by_cases q : 0 ≤ x ∧ x < n
    · rw [if_pos q] at e2; cases e2
    · rw [if_neg q] at e2
      cases e2
      rw [if_neg (fun h => q (h.2.2.2 x (List.mem_of_getElem? e1)))]
      rfl
  | none =>
    have hall : ∀ x ∈ l, 0 ≤ x ∧ x < n := by
      intro x hx
      obtain ⟨j, hj, rfl⟩ := List.getElem_of_mem hx
      have := firstS_none.1 hf j _ (List.getElem?_eq_getElem hj)
      by_cases q : 0 ≤ l[j] ∧ l[j] < n
      · exact q
      · rw [if_neg q] at this; cases this
    rw [if_pos ⟨by omega, by omega, by omega, hall⟩]
    simp only [Option.bind_some]
    obtain ⟨r, hr, hp⟩ := loopL_of (body := r50_Find_L3 l) (fun s => ∃ i : Nat, s = ((i : Int), (fd l).take i) ∧ i ≤ l.length ∧ (l.take i).Nodup) (fun s => (l.length - s.1).toNat)
      (fun r => match r with | .inl m => m = fd l ∧ l.Nodup | .inr b => b = ([], 5) ∧ ¬ l.Nodup) (s := (0, [])) ⟨0, rfl, by omega, by simp⟩ (by have : FU = 1000000000000000000000000 := rfl; dsimp only; omega)
      (by
        rintro s ⟨i, rfl, k1, k2⟩
        unfold r50_Find_L3
        dsimp only
        by_cases hi : i < l.length
        · have hx := List.getElem?_eq_getElem hi
          have hr := hall _ (List.getElem_mem hi)
          rw [if_pos (by simp; omega), slc_nat (by omega)]
          simp only [Option.bind_some, idx_of hx]
          rw [has_eq (by simp; omega)]
          simp only [Option.bind_some]
          by_cases hm : l[i] ∈ l.take i
          · rw [if_pos (by simp [hm])]
            refine .inr ⟨_, rfl, rfl, fun hn => ?_⟩
            have : (l.take (i + 1)).Nodup := List.Nodup.sublist (List.take_sublist _ _) hn
            rw [List.take_succ_eq_append_getElem hi, nodup_snoc] at this
            exact this.2 hm
          · rw [if_neg (by simp [hm]), rFind_L5 (by omega) (by omega) hr.1 (by omega)]
            simp only [Option.bind_some]
            rw [app_ok (by simp; omega) (by omega)]
            simp only [Option.bind_some, wrap_nat (show i < 4611686018427387904 by omega)]
            refine .inl ⟨_, rfl, ⟨i + 1, ?_, by omega, ?_⟩, by dsimp only; omega⟩
            · have hfl : i < (fd l).length := by rw [fd_len]; exact hi
              rw [List.take_succ_eq_append_getElem hfl]
              have e := fd_at hi
              rw [List.getElem?_eq_getElem hfl, Option.some.injEq] at e
              rw [e]
            · rw [List.take_succ_eq_append_getElem hi, nodup_snoc]
              exact ⟨k2, hm⟩
        · rw [if_neg (by simp; omega)]
          refine .inr ⟨_, rfl, ?_, ?_⟩
          · rw [List.take_of_length_le (by rw [fd_len]; omega)]
          · rwa [List.take_of_length_le (by omega)] at k2)
    rw [hr]
    simp only [Option.bind_some]
    cases r with
    | inl m => obtain ⟨rfl, hn⟩ := hp; rw [if_pos hn]
    | inr b => obtain ⟨rfl, hn⟩ := hp; rw [if_neg hn]

/-! Drawing and finding undo one another. -/
theorem low_none {gs : List Int} {v : Int} (h : ∀ g ∈ gs, v ≤ g) : low gs v = 0 := List.countP_eq_zero.2 fun x hx => by have := h x hx; simp; omega
theorem low_cons (g : Int) (gs : List Int) (v : Int) : low (g :: gs) v = low gs v + if g < v then 1 else 0 := by
  unfold low
  rw [List.countP_cons]
  simp
theorem low_nthS : ∀ (gs : List Int) (x : Int), gs.Pairwise (· < ·) → low gs (nthS gs x) = posS gs x
  | [], x, _ => by simp [low, posS]
  | g :: gs, x, h => by
    obtain ⟨h1, h2⟩ := List.pairwise_cons.1 h
    rw [low_cons]
    simp only [nthS, posS]
    split
    · rename_i hg
      have := nthS_ge gs (x + 1)
      rw [low_nthS gs (x + 1) h2, if_pos (by omega)]
    · rename_i hg
      rw [low_none (fun a ha => by have := h1 a ha; omega), if_neg (by omega)]
theorem nthS_not : ∀ (gs : List Int) (x : Int), gs.Pairwise (· < ·) → nthS gs x ∉ gs
  | [], x, _ => by simp
  | g :: gs, x, h => by
    obtain ⟨h1, h2⟩ := List.pairwise_cons.1 h
    simp only [nthS]
    split
    · rename_i hg
      have := nthS_ge gs (x + 1)
      intro hm
      rcases List.mem_cons.1 hm with hm | hm
      · omega
      · exact nthS_not gs (x + 1) h2 hm
    · rename_i hg
      intro hm
      rcases List.mem_cons.1 hm with hm | hm
      · omega
      · have := h1 _ hm; omega
theorem low_bound : ∀ (gs : List Int) (a y : Int), gs.Pairwise (· < ·) → (∀ g ∈ gs, a ≤ g) → a ≤ y → (low gs y : Int) ≤ y - a
  | [], a, y, _, _, h => by simp [low]; omega
  | g :: gs, a, y, hs, hg, h => by
    obtain ⟨h1, h2⟩ := List.pairwise_cons.1 hs
    have hga := hg g (by simp)
    rw [low_cons]
    by_cases hy : g < y
    · rw [if_pos hy]
      have := low_bound gs (g + 1) y h2 (fun b hb => by have := h1 b hb; omega) (by omega)
      omega
    · rw [if_neg hy, low_none (fun b hb => by have := h1 b hb; omega)]
      omega
theorem len_bound : ∀ (gs : List Int) (a n : Int), gs.Pairwise (· < ·) → (∀ g ∈ gs, a ≤ g ∧ g < n) → a ≤ n → (gs.length : Int) ≤ n - a
  | [], a, n, _, _, h => by simp; omega
  | g :: gs, a, n, hs, hg, h => by
    obtain ⟨h1, h2⟩ := List.pairwise_cons.1 hs
    have hga := hg g (by simp)
    have := len_bound gs (g + 1) n h2 (fun b hb => ⟨by have := h1 b hb; omega, (hg b (by simp [hb])).2⟩) (by omega)
    simp
    omega
theorem high_bound : ∀ (gs : List Int) (n y : Int), gs.Pairwise (· < ·) → (∀ g ∈ gs, g < n) → y ∉ gs → y < n → (gs.length : Int) - low gs y ≤ n - 1 - y
  | [], n, y, _, _, _, h => by simp [low]; omega
  | g :: gs, n, y, hs, hg, hm, h => by
    obtain ⟨h1, h2⟩ := List.pairwise_cons.1 hs
    rw [low_cons]
    have hne : g ≠ y := fun e => hm (by simp [e])
    by_cases hy : g < y
    · rw [if_pos hy]
      have := high_bound gs n y h2 (fun b hb => hg b (by simp [hb])) (fun hb => hm (by simp [hb])) h
      simp
      omega
    · rw [if_neg hy]
      have := len_bound (g :: gs) g n hs (fun b hb => ⟨by rcases List.mem_cons.1 hb with rfl | hb; omega; have := h1 b hb; omega, hg b hb⟩) (by have := hg g (by simp); omega)
      omega
theorem nthS_low : ∀ (gs : List Int) (y : Int), gs.Pairwise (· < ·) → y ∉ gs → nthS gs (y - (low gs y : Int)) = y
  | [], y, _, _ => by simp [nthS, low]
  | g :: gs, y, hs, hm => by
    obtain ⟨h1, h2⟩ := List.pairwise_cons.1 hs
    have hne : g ≠ y := fun e => hm (by simp [e])
    rw [low_cons]
    simp only [nthS]
    by_cases hy : g < y
    · have hb := low_bound gs (g + 1) y h2 (fun b hb => by have := h1 b hb; omega) (by omega)
      rw [if_pos hy, if_pos (by omega)]
      have e : y - ((low gs y + 1 : Nat) : Int) + 1 = y - (low gs y : Int) := by omega
      rw [e]
      exact nthS_low gs y h2 fun hb => hm (by simp [hb])
    · rw [if_neg hy, low_none (fun b hb => by have := h1 b hb; omega), if_neg (by omega)]
      simp
theorem fd_snoc (l : List Int) (y : Int) : fd (l ++ [y]) = fd l ++ [y - (low l y : Int)] := by
  unfold fd
  rw [List.length_append, List.length_singleton, List.range_succ, List.map_append]
  congr 1
  · apply List.map_congr_left
    intro j hj
    have hj' : j < l.length := List.mem_range.1 hj
    have e1 : (l ++ [y]).getD j 0 = l.getD j 0 := by simp [List.getD, List.getElem?_append_left hj']
    have e2 : (l ++ [y]).take j = l.take j := List.take_append_of_le_length (by omega)
    rw [e1, e2]
  · simp
theorem dr_sorted (row : List Int) : (dr row).1.Nodup := by
  obtain ⟨_, _, h3, h4⟩ := dr_inv row
  refine h3.nodup_iff.2 ?_
  exact h4.imp fun h => by omega
theorem fd_dr (row : List Int) : fd (dr row).1 = row := by
  have key : ∀ l : List Int, fd (dr l.reverse).1 = l.reverse := by
    intro l
    induction l with
    | nil => simp [dr, fd]
    | cons x l ih =>
      obtain ⟨_, _, h3, h4⟩ := dr_inv l.reverse
      rw [List.reverse_cons, dr_snoc]
      simp only [drawS]
      rw [fd_snoc, ih]
      have e : low (dr l.reverse).1 (nthS (dr l.reverse).2 x) = posS (dr l.reverse).2 x := by
        rw [← low_nthS _ x h4]
        exact h3.countP_eq _
      rw [e, nthS_pos]
      congr 2
      omega
  have := key row.reverse
  rwa [List.reverse_reverse] at this
theorem dr_range {row : List Int} {n : Int} (h : ∀ i x, row[i]? = some x → 0 ≤ x ∧ x < n - (i : Nat)) : ∀ v ∈ (dr row).1, 0 ≤ v ∧ v < n := by
  have key : ∀ k, k ≤ row.length → ∀ v ∈ (dr (row.take k)).1, 0 ≤ v ∧ v < n := by
    intro k
    induction k with
    | zero => intro _ v hv; simp [dr] at hv
    | succ k ih =>
      intro hk v hv
      have hkl : k < row.length := by omega
      rw [List.take_succ_eq_append_getElem hkl, dr_snoc] at hv
      simp only [drawS, List.mem_append, List.mem_singleton] at hv
      rcases hv with hv | rfl
      · exact ih (by omega) v hv
      · obtain ⟨_, h2, _, _⟩ := dr_inv (row.take k)
        have hp := posS_le (dr (row.take k)).2 row[k]
        obtain ⟨b1, b2⟩ := h k _ (List.getElem?_eq_getElem hkl)
        have hl : (row.take k).length = k := by simp; omega
        rw [nthS_pos]
        omega
  have := key row.length (Nat.le_refl _)
  rwa [List.take_length] at this
theorem dr_fd {l : List Int} (hn : l.Nodup) : (dr (fd l)).1 = l := by
  have key : ∀ k, k ≤ l.length → (dr (fd (l.take k))).1 = l.take k := by
    intro k
    induction k with
    | zero => intro _; simp [dr, fd]
    | succ k ih =>
      intro hk
      have hkl : k < l.length := by omega
      have hn' : (l.take (k + 1)).Nodup := List.Nodup.sublist (List.take_sublist _ _) hn
      rw [List.take_succ_eq_append_getElem hkl] at hn' ⊢
      rw [nodup_snoc] at hn'
      rw [fd_snoc, dr_snoc]
      simp only [drawS]
      obtain ⟨_, _, h3, h4⟩ := dr_inv (fd (l.take k))
      have i1 := ih (by omega)
      rw [i1]
      congr 2
      rw [i1] at h3
      have e : low (l.take k) l[k] = low (dr (fd (l.take k))).2 l[k] := h3.countP_eq _
      rw [e]
      exact nthS_low _ _ h4 fun hm => hn'.2 (h3.mem_iff.2 hm)
  have := key l.length (Nat.le_refl _)
  rwa [List.take_length] at this
theorem fd_ok {l : List Int} {n : Int} (h : fOk l n) (hn : l.Nodup) : rOk (fd l) n := by
  obtain ⟨h1, h2, h3, h4⟩ := h
  have key : ∀ i (hi : i < l.length), 0 ≤ l[i] - (low (l.take i) l[i] : Int) ∧ l[i] - (low (l.take i) l[i] : Int) < n - (i : Nat) := by
    intro i hi
    have hn' : (l.take (i + 1)).Nodup := List.Nodup.sublist (List.take_sublist _ _) hn
    rw [List.take_succ_eq_append_getElem hi, nodup_snoc] at hn'
    obtain ⟨q1, q2, q3, q4⟩ := dr_inv (fd (l.take i))
    rw [dr_fd hn'.1] at q3
    have e : low (l.take i) l[i] = low (dr (fd (l.take i))).2 l[i] := q3.countP_eq _
    have hm : ∀ g ∈ (dr (fd (l.take i))).2, 0 ≤ g ∧ g < n := fun g hg => h4 g (List.mem_of_mem_take (q3.mem_iff.2 hg))
    have hx := h4 _ (List.getElem_mem hi)
    have b1 := low_bound _ 0 l[i] q4 (fun g hg => (hm g hg).1) hx.1
    have b2 := high_bound _ n l[i] q4 (fun g hg => (hm g hg).2) (fun hg => hn'.2 (q3.mem_iff.2 hg)) hx.2
    have hl : (dr (fd (l.take i))).2.length = i := by rw [q2, fd_len]; simp; omega
    rw [hl] at b2
    rw [e]
    omega
  refine ⟨h1, h2, by rw [fd_len]; exact h3, ?_, fun i x hx => ?_⟩
  · rw [fd_len]
    obtain ⟨q1, q2, q3, q4⟩ := dr_inv (fd l)
    rw [dr_fd hn] at q3
    have := len_bound _ 0 n q4 (fun g hg => h4 g (q3.mem_iff.2 hg)) h1
    rw [q2, fd_len] at this
    omega
  · have hi : i < l.length := by have := (List.getElem?_eq_some_iff.1 hx).1; rwa [fd_len] at this
    rw [fd_at hi, Option.some.injEq] at hx
    subst hx
    exact key i hi
end Go.Proofs.YtdecgihkgpgejaaDoor.P
namespace Go.Proofs.YtdecgihkgpgejaaDoor.P
open Go.RowKit
set_option linter.unusedSimpArgs false
set_option linter.unusedVariables false

theorem dec_mem : ∀ (n u : Nat), u < n → ∀ d ∈ Lib.decDigits u, ∃ k : Nat, k < 10 ∧ d = UInt8.ofNat (48 + k)
  | 0, u, h => by omega
  | n + 1, u, h => by
    intro d hd
    rw [Lib.decDigits] at hd
    split at hd
    · exact ⟨u, by assumption, by simpa using hd⟩
    · rename_i h10
      rcases List.mem_append.1 hd with hd | hd
      · exact dec_mem n (u / 10) (by omega) d hd
      · exact ⟨u % 10, by omega, by simpa using hd⟩
def dval (l : List UInt8) : Nat := l.foldl (fun a d => a * 10 + (d.toNat - 48)) 0
theorem dval_dec : ∀ (n u : Nat), u < n → dval (Lib.decDigits u) = u
  | 0, u, h => by omega
  | n + 1, u, h => by
    rw [Lib.decDigits]
    split
    · rename_i h10
      simp [dval, UInt8.toNat_ofNat']
      omega
    · rename_i h10
      unfold dval
      rw [List.foldl_append]
      have := dval_dec n (u / 10) (by omega)
      unfold dval at this
      rw [this]
      simp [UInt8.toNat_ofNat']
      omega
theorem dec_inj {u v : Nat} (h : Lib.decDigits u = Lib.decDigits v) : u = v := by
  rw [← dval_dec (u + 1) u (by omega), ← dval_dec (v + 1) v (by omega), h]
theorem digit_ne {k : Nat} (hk : k < 10) {c : Nat} (hc : c < 48 ∨ 57 < c) (hc2 : c < 256) : UInt8.ofNat (48 + k) ≠ UInt8.ofNat c := by
  intro h
  have := congrArg UInt8.toNat h
  rw [UInt8.toNat_ofNat', UInt8.toNat_ofNat'] at this
  omega
theorem itoa_not {n : Int} {c : Nat} (hc : c < 45 ∨ 57 < c) (hc2 : c < 256) : UInt8.ofNat c ∉ Lib.itoa n := by
  intro h
  unfold Lib.itoa at h
  split at h
  · rcases List.mem_cons.1 h with h | h
    · have h' : UInt8.ofNat c = UInt8.ofNat 45 := h
      have := congrArg UInt8.toNat h'
      rw [UInt8.toNat_ofNat', UInt8.toNat_ofNat'] at this
      omega
    · obtain ⟨k, hk, e⟩ := dec_mem _ _ (Nat.lt_succ_self _) _ h
      exact digit_ne hk (by omega) hc2 e.symm
  · obtain ⟨k, hk, e⟩ := dec_mem _ _ (Nat.lt_succ_self _) _ h
    exact digit_ne hk (by omega) hc2 e.symm
theorem itoa_inj {m n : Int} (h : Lib.itoa m = Lib.itoa n) : m = n := by
  have hm : ∀ u : Nat, ∀ l, Lib.decDigits u ≠ 45 :: l := fun u l e => by
    obtain ⟨k, hk, e2⟩ := dec_mem _ _ (Nat.lt_succ_self u) 45 (by rw [e]; simp)
    exact digit_ne hk (c := 45) (by omega) (by omega) e2.symm
  unfold Lib.itoa at h
  split at h
  · split at h
    · have := dec_inj (List.cons.inj h).2
      omega
    · exact absurd h.symm (hm _ _)
  · split at h
    · exact absurd h (hm _ _)
    · have := dec_inj h
      omega
theorem split_at {c : UInt8} : ∀ {a b r s : List UInt8}, c ∉ a → c ∉ b → a ++ c :: r = b ++ c :: s → a = b ∧ r = s
  | [], [], r, s, _, _, h => ⟨rfl, by simpa using h⟩
  | [], y :: b, r, s, _, hb, h => by
    simp only [List.nil_append, List.cons_append, List.cons.injEq] at h
    exact absurd (by rw [h.1]; simp) hb
  | x :: a, [], r, s, ha, _, h => by
    simp only [List.nil_append, List.cons_append, List.cons.injEq] at h
    exact absurd (by rw [← h.1]; simp) ha
  | x :: a, y :: b, r, s, ha, hb, h => by
    simp only [List.cons_append, List.cons.injEq] at h
    obtain ⟨h1, h2⟩ := split_at (a := a) (b := b) (fun hh => ha (by simp [hh])) (fun hh => hb (by simp [hh])) h.2
    exact ⟨by rw [h.1, h1], h2⟩
theorem numsL_snoc (a : List Int) (x : Int) : numsL (a ++ [x]) = numsL a ++ (Lib.itoa x ++ [59]) := by simp [numsL]
theorem numsL_inj : ∀ {a b : List Int}, numsL a = numsL b → a = b
  | [], [], _ => rfl
  | [], y :: b, h => by
    have := congrArg List.length h
    simp [numsL] at this
  | x :: a, [], h => by
    have := congrArg List.length h
    simp [numsL] at this
  | x :: a, y :: b, h => by
    have h' : Lib.itoa x ++ 59 :: numsL a = Lib.itoa y ++ 59 :: numsL b := by simpa [numsL] using h
    obtain ⟨h1, h2⟩ := split_at (c := 59) (itoa_not (c := 59) (by omega) (by omega)) (itoa_not (c := 59) (by omega) (by omega)) h'
    rw [itoa_inj h1, numsL_inj h2]
theorem numsB_inj {a b : List Int} (h : numsB a = numsB b) : a = b := by
  unfold numsB at h
  obtain ⟨h1, h2⟩ := split_at (c := 91) (itoa_not (c := 91) (by omega) (by omega)) (itoa_not (c := 91) (by omega) (by omega)) h
  exact numsL_inj (List.append_cancel_right h2)

def wfL (l : List Int) : Prop := ∀ x ∈ l, -9223372036854775808 ≤ x ∧ x ≤ 9223372036854775807
theorem numsL_len : ∀ {l : List Int}, wfL l → (numsL l).length ≤ 22 * l.length
  | [], _ => by simp [numsL]
  | x :: l, h => by
    have h1 := Lib.itoa_length_le x (h x (by simp)).1 (h x (by simp)).2
    have h2 := numsL_len (l := l) fun y hy => h y (by simp [hy])
    have e : numsL (x :: l) = Lib.itoa x ++ [59] ++ numsL l := by simp [numsL]
    rw [e]
    simp
    omega
theorem numsB_len {l : List Int} (h : wfL l) (hl : l.length ≤ 200) : (numsB l).length ≤ 5000 := by
  have h1 := numsL_len h
  have h2 := Lib.itoa_length_le (l.length : Int) (by omega) (by omega)
  unfold numsB
  simp
  omega
def txt (l : List Int) : ByteArray := ⟨(numsB l).toArray⟩
theorem txt_inj {a b : List Int} (h : txt a = txt b) : a = b := by
  have : (numsB a).toArray = (numsB b).toArray := congrArg ByteArray.data h
  exact numsB_inj (by simpa using this)
theorem txt_size {l : List Int} (h : wfL l) (hl : l.length ≤ 200) : (txt l).size ≤ 5000 := by
  have := numsB_len h hl
  simpa [txt, ByteArray.size] using this
theorem Text_eq {l : List Int} (h : wfL l) (hl : l.length ≤ 200) : tape_Text l = some (txt l) := by
  unfold tape_Text wire_Nums numsW
  have := numsB_len h hl
  rw [if_pos ⟨h, by omega, by omega⟩]
  rfl

theorem bapp (a b : List UInt8) : (⟨a.toArray⟩ : ByteArray) ++ ⟨b.toArray⟩ = ⟨(a ++ b).toArray⟩ := by
  apply ByteArray.ext
  simp
theorem cat_ok {a b : List UInt8} (h : a.length + b.length ≤ 1000000) : catS ⟨a.toArray⟩ ⟨b.toArray⟩ = some ⟨(a ++ b).toArray⟩ := by
  unfold catS
  have e : IntKind.i64.max = 9223372036854775807 := by decide
  rw [if_neg (by simp only [e, ByteArray.size, List.size_toArray]; omega), bapp]
theorem cat_ok' {a b : List UInt8} {x y : ByteArray} (hx : x = ⟨a.toArray⟩) (hy : y = ⟨b.toArray⟩) (h : a.length + b.length ≤ 1000000) : catS x y = some ⟨(a ++ b).toArray⟩ := by
  subst hx; subst hy
  exact cat_ok h
theorem rInt_eq {x : Int} (h0 : -9223372036854775808 ≤ x) (h1 : x ≤ 9223372036854775807) : r01_Int x = some ⟨(Lib.itoa x ++ [59]).toArray⟩ := by
  have hlen := Lib.itoa_length_le x h0 h1
  unfold r01_Int r01_digits digitsW
  by_cases hx : x < 0
  · rw [if_pos (by simp [hx]), if_pos (by omega)]
    simp only [Option.bind_some]
    have e : Lib.itoa x = 45 :: Lib.decDigits x.natAbs := by unfold Lib.itoa; rw [if_pos hx]
    rw [e] at hlen
    simp only [List.length_cons] at hlen
    rw [cat_ok' (a := [45]) (b := Lib.decDigits x.natAbs) rfl rfl (by simp; omega)]
    simp only [Option.bind_some]
    rw [cat_ok' (a := [45] ++ Lib.decDigits x.natAbs) (b := [59]) rfl rfl (by simp; omega), e]
    rfl
  · have hw : IntKind.i64.wrap (0 - x) = 0 - x := wrap64 (by omega) (by omega)
    rw [if_neg (by simp; omega), hw, if_pos (by omega)]
    simp only [Option.bind_some]
    have e : Lib.itoa x = Lib.decDigits (0 - x).natAbs := by
      unfold Lib.itoa
      rw [if_neg hx]
      congr 1
      omega
    rw [← e, cat_ok' (a := Lib.itoa x) (b := [59]) rfl rfl (by simp; omega)]
    rfl
theorem rText_eq {l : List Int} (h : wfL l) (hl : l.length ≤ 200) : r50_Text l = some (txt l) := by
  unfold r50_Text r01_Nums r01_digits digitsW
  have hw : IntKind.i64.wrap (0 - (l.length : Int)) = 0 - (l.length : Int) := wrap64 (by omega) (by omega)
  have hlen := Lib.itoa_length_le (l.length : Int) (by omega) (by omega)
  have e : Lib.itoa (l.length : Int) = Lib.decDigits (0 - (l.length : Int)).natAbs := by
    unfold Lib.itoa
    rw [if_neg (by omega)]
    congr 1
    omega
  rw [hw, if_pos (by omega)]
  simp only [Option.bind_some]
  rw [← e, cat_ok' (a := Lib.itoa l.length) (b := [91]) rfl rfl (by simp; omega)]
  simp only [Option.bind_some]
  have hpre : ∀ i, (numsL (l.take i)).length ≤ 22 * i := fun i => Nat.le_trans (numsL_len fun x hx => h x (List.mem_of_mem_take hx)) (by simp; omega)
  have := trajL (body := r01_Nums_L1 l) l.length (fun i => (⟨(Lib.itoa l.length ++ [91] ++ numsL (l.take i)).toArray⟩, (i : Int))) (r := ⟨(Lib.itoa l.length ++ [91] ++ numsL l).toArray⟩) (by omega) (fun i hi => by
      have hx := List.getElem?_eq_getElem hi
      obtain ⟨b1, b2⟩ := h _ (List.getElem_mem hi)
      have h3 := Lib.itoa_length_le _ b1 b2
      have h4 := hpre i
      unfold r01_Nums_L1
      dsimp only
      rw [if_pos (by simp; omega)]
      simp only [idx_of hx, Option.bind_some]
      rw [rInt_eq b1 b2]
      simp only [Option.bind_some]
      rw [cat_ok (by simp; omega)]
      simp only [Option.bind_some, wrap_nat (show i < 4611686018427387904 by omega)]
      have e2 : numsL (l.take (i + 1)) = numsL (l.take i) ++ (Lib.itoa l[i] ++ [59]) := by
        rw [List.take_succ_eq_append_getElem hi, numsL_snoc]
      rw [e2]
      simp only [List.append_assoc]) (by
      unfold r01_Nums_L1
      dsimp only
      rw [if_neg (by simp), List.take_length])
  have h5 := hpre l.length
  rw [List.take_length] at h5
  have this' : loopL (r01_Nums_L1 l) (⟨(Lib.itoa l.length ++ [91]).toArray⟩, 0) = some ⟨(Lib.itoa l.length ++ [91] ++ numsL l).toArray⟩ := by simpa [numsL] using this
  rw [this']
  simp only [Option.bind_some]
  rw [cat_ok' (a := Lib.itoa l.length ++ [91] ++ numsL l) (b := [93]) rfl rfl (by simp; omega)]
  simp only [Option.bind_some, txt, numsB]
  congr 2
  simp
end Go.Proofs.YtdecgihkgpgejaaDoor.P
namespace Go.Proofs.YtdecgihkgpgejaaDoor.P
open Go.RowKit
set_option linter.unusedSimpArgs false
set_option linter.unusedVariables false

theorem in_eq (n h : Int) : r35_in n 0 h = some (decide (0 ≤ n ∧ n ≤ h)) := by
  rw [← within_eq]
  rfl
theorem rLeafy_eq (x : TThing) : r35_Leafy x = some (decide (x.f_Left = -1 ∧ x.f_Right = -1)) := by
  unfold r35_Leafy
  by_cases h1 : x.f_Left = -1
  · rw [if_pos (by simp [h1])]
    by_cases h2 : x.f_Right = -1 <;> simp [h1, h2]
  · rw [if_neg (by simp [h1])]; simp [h1]
theorem rleaf_eq (x : TThing) : r35_leaf x = some (decide (leafP x)) := by
  unfold r35_leaf
  simp only [rLeafy_eq, in_eq, Option.bind_some]
  by_cases h1 : x.f_Left = -1 ∧ x.f_Right = -1
  · rw [if_pos (decide_eq_true h1)]
    by_cases h3 : (x.f_Text.size : Int) ≤ 8000
    · rw [if_pos (decide_eq_true h3)]
      by_cases h4 : 0 ≤ x.f_Value ∧ x.f_Value ≤ 1099511627776
      · rw [if_pos (decide_eq_true h4)]
        congr 1
        rw [decide_eq_decide]
        exact ⟨fun h => ⟨h1.1, h1.2, h3, h4, h⟩, fun h => h.2.2.2.2⟩
      · rw [if_neg (by simpa using h4), decide_eq_false (fun h : leafP x => h4 h.2.2.2.1)]
    · rw [if_neg (by simpa using h3), decide_eq_false (fun h : leafP x => h3 h.2.2.1)]
  · rw [if_neg (by simp; omega), decide_eq_false (fun h : leafP x => h1 ⟨h.1, h.2.1⟩)]
def pairX (l : List TThing) (x : TThing) (u v : TThing) : Prop := P.idx l x.f_Left = some u ∧ P.idx l x.f_Right = some v ∧ x.f_Text = ByteArray.mk #[] ∧ x.f_Value = IntKind.i64.wrap (u.f_Value + v.f_Value) ∧ x.f_Blind = IntKind.i64.wrap (u.f_Blind + v.f_Blind) ∧ x.f_Value ≤ 1125899906842624 ∧ x.f_Blind ≤ 1125899906842624
theorem pairR_iff {l : List TThing} {x : TThing} : pairR l x.f_Left x.f_Right = (x, 0) ↔ ∃ u v, pairX l x u v := by
  unfold pairR pairX
  constructor
  · intro h
    split at h
    · rename_i u v hu hv
      split at h
      · exact absurd (congrArg Prod.snd h) (by simp)
      · rename_i hc
        have e := congrArg Prod.fst h
        simp only at e
        rw [not_or] at hc
        refine ⟨u, v, hu, hv, by rw [← e], by rw [← e], by rw [← e], ?_, ?_⟩
        · rw [← e]; simp only; omega
        · rw [← e]; simp only; omega
    · exact absurd (congrArg Prod.snd h) (by simp)
  · rintro ⟨u, v, hu, hv, h1, h2, h3, h4, h5⟩
    rw [hu, hv]
    simp only
    rw [if_neg (by rw [← h2, ← h3]; omega), ← h1, ← h2, ← h3]
theorem idx_take {l : List TThing} {i : Nat} (hi : i ≤ l.length) (a : Int) : P.idx (l.take i) a = if 0 ≤ a ∧ a < i then P.idx l a else none := by
  by_cases h : 0 ≤ a ∧ a < i
  · rw [if_pos h]
    unfold P.idx
    rw [if_pos ⟨h.1, by simp; omega⟩, if_pos ⟨h.1, by omega⟩, List.getElem?_take_of_lt (by omega)]
  · rw [if_neg h]
    unfold P.idx
    rw [if_neg (by simp; omega)]

open Classical in
theorem rSound_eq (l : List TThing) : ∃ b, r35_Sound ⟨l⟩ = some b ∧ (b = true ↔ soundP l) := by
  unfold r35_Sound
  by_cases hlen : l.length ≤ 2000
  · rw [if_neg (by simp; omega)]
    rcases allL l (body := r35_Sound_L1 ⟨l⟩) (fun i x => leafP x ∨ pairR (l.take i) x.f_Left x.f_Right = (x, 0)) (by omega) (fun i x hx => by
        have hi := (List.getElem?_eq_some_iff.1 hx).1
        have hw : IntKind.i64.wrap ((i : Int) - 1) = (i : Int) - 1 := wrap64 (by omega) (by omega)
        unfold r35_Sound_L1
        dsimp only
        rw [if_pos (by simp; omega)]
        simp only [idx_of hx, Option.bind_some, rleaf_eq, in_eq, hw, wrap_nat (show i < 4611686018427387904 by omega), str_beq]
        by_cases hl : leafP x
        · rw [if_pos (decide_eq_true hl), if_pos (.inl hl)]
        rw [if_neg (by simpa using hl)]
        have hiff : (leafP x ∨ pairR (l.take i) x.f_Left x.f_Right = (x, 0)) ↔ ∃ u v, pairX (l.take i) x u v := by rw [pairR_iff]; exact ⟨fun h => h.resolve_left hl, .inr⟩
        by_cases h1 : x.f_Text = ByteArray.mk #[]
        · rw [if_neg (by simp [h1])]
          by_cases h2 : 0 ≤ x.f_Left ∧ x.f_Left ≤ (i : Int) - 1
          · rw [if_neg (by simp [h2])]
            simp only [Option.bind_some]
            by_cases h3 : 0 ≤ x.f_Right ∧ x.f_Right ≤ (i : Int) - 1
            · rw [if_neg (by simp [h3])]
              have hu := idx_get (l := l) h2.1 (by omega)
              have hv := idx_get (l := l) h3.1 (by omega)
              generalize l[x.f_Left.toNat]'(by omega) = u at hu
              generalize l[x.f_Right.toNat]'(by omega) = v at hv
              have hu' : P.idx (l.take i) x.f_Left = some u := by rw [idx_take (by omega), if_pos (by omega), hu]
              have hv' : P.idx (l.take i) x.f_Right = some v := by rw [idx_take (by omega), if_pos (by omega), hv]
              simp only [hu, hv, Option.bind_some]
              by_cases h4 : x.f_Value = IntKind.i64.wrap (u.f_Value + v.f_Value)
              · rw [if_neg (by simp [h4])]
                by_cases h5 : x.f_Blind = IntKind.i64.wrap (u.f_Blind + v.f_Blind)
                · rw [if_neg (by simp [h5])]
                  by_cases h6 : x.f_Value > 1125899906842624
                  · rw [if_pos (by simp; omega), if_neg]
                    rw [hiff]
                    rintro ⟨_, _, h⟩
                    have := h.2.2.2.2.2.1
                    omega
                  rw [if_neg (by simp; omega)]
                  by_cases h7 : x.f_Blind > 1125899906842624
                  · rw [if_pos (by simp; omega), if_neg]
                    rw [hiff]
                    rintro ⟨_, _, h⟩
                    have := h.2.2.2.2.2.2
                    omega
                  rw [if_neg (by simp; omega), if_pos (hiff.2 ⟨u, v, hu', hv', h1, h4, h5, by omega, by omega⟩)]
                · rw [if_pos (by simpa using h5), if_neg]
                  rw [hiff]
                  rintro ⟨u', v', h⟩
                  have e1 := hu'.symm.trans h.1
                  have e2 := hv'.symm.trans h.2.1
                  cases e1; cases e2
                  exact h5 h.2.2.2.2.1
              · rw [if_pos (by simpa using h4), if_neg]
                rw [hiff]
                rintro ⟨u', v', h⟩
                have e1 := hu'.symm.trans h.1
                have e2 := hv'.symm.trans h.2.1
                cases e1; cases e2
                exact h4 h.2.2.2.1
            · rw [if_pos (by simp; omega), if_neg]
              rw [hiff]
              rintro ⟨u', v', h⟩
              have := h.2.1
              rw [idx_take (by omega), if_neg (by omega)] at this
              cases this
          · rw [if_pos (by simp; omega)]
            simp only [Option.bind_some]
            rw [if_pos trivial, if_neg]
            rw [hiff]
            rintro ⟨u', v', h⟩
            have := h.1
            rw [idx_take (by omega), if_neg (by omega)] at this
            cases this
        · rw [if_pos (by simp [h1])]
          simp only [Option.bind_some]
          rw [if_pos trivial, if_neg]
          rw [hiff]
          rintro ⟨u', v', h⟩
          exact h1 h.2.2.1) (by unfold r35_Sound_L1; simp) with ⟨h, e⟩ | ⟨h, e⟩
    · rw [e]
      exact ⟨_, rfl, fun _ => ⟨hlen, fun i _ x hx => h i x hx⟩, fun _ => rfl⟩
    · rw [e]
      refine ⟨_, rfl, ⟨(fun h => by cases h), fun hs => absurd (fun i x hx => ?_) h⟩⟩
      exact hs.2 i (List.getElem?_eq_some_iff.1 hx).1 x hx
  · rw [if_pos (by simp; omega)]
    exact ⟨_, rfl, ⟨(fun h => by cases h), fun hs => absurd hs.1 hlen⟩⟩

theorem rOpens_eq (v : TVault) (i : Int) (t : ByteArray) (a b : Int) : r35_Opens v i t a b = vault_Opens v i t a b := by
  obtain ⟨l⟩ := v
  obtain ⟨q1, h1, k1⟩ := rSound_eq l
  obtain ⟨q2, h2, k2⟩ := Sound_eq ⟨l⟩
  have : q1 = q2 := by
    cases q1 <;> cases q2
    · rfl
    · exact k1.2 (k2.1 rfl)
    · exact (k2.2 (k1.1 rfl)).symm
    · rfl
  subst this
  unfold r35_Opens vault_Opens
  simp only [h1, h2, Option.bind_some, in_eq, within_eq]

def opensP (l : List TThing) (i : Int) (t : ByteArray) (v b : Int) : Prop := soundP l ∧ ∃ x, P.idx l i = some x ∧ x.f_Text = t ∧ x.f_Value = v ∧ x.f_Blind = b
open Classical in
theorem Opens_eq {l : List TThing} (i : Int) (t : ByteArray) (v b : Int) : vault_Opens ⟨l⟩ i t v b = some (decide (opensP l i t v b)) := by
  obtain ⟨q, h1, h2⟩ := Sound_eq ⟨l⟩
  unfold vault_Opens
  rw [h1]
  simp only [Option.bind_some]
  cases q with
  | false =>
    have : ¬ opensP l i t v b := fun h => by have := h2.2 h.1; cases this
    simp [this]
  | true =>
    have hs : soundP l := h2.1 rfl
    have hm : l.length ≤ maxLen := Nat.le_trans hs.1 (by decide)
    have hw : IntKind.i64.wrap ((l.length : Int) - 1) = (l.length : Int) - 1 := wrap64 (by omega) (by have := small hm; omega)
    simp only [Bool.not_true, Bool.false_eq_true, if_false, within_eq, hw, Option.bind_some]
    by_cases hi : 0 ≤ i ∧ i < l.length
    · have hi' : 0 ≤ i ∧ i ≤ (l.length : Int) - 1 := by omega
      simp only [hi', and_self, decide_true, Bool.not_true, Bool.false_eq_true, if_false]
      have hx := idx_get (l := l) hi.1 hi.2
      generalize l[i.toNat]'(by omega) = x at hx
      have hop : opensP l i t v b ↔ x.f_Text = t ∧ x.f_Value = v ∧ x.f_Blind = b := by
        unfold opensP
        rw [hx]
        constructor
        · rintro ⟨_, y, e, h⟩; cases e; exact h
        · intro h; exact ⟨hs, x, rfl, h⟩
      simp only [hx, Option.bind_some, str_beq]
      by_cases g1 : x.f_Text = t
      · rw [if_pos (decide_eq_true g1)]
        by_cases g2 : x.f_Value = v
        · rw [if_pos (by simp [g2])]
          congr 1
          by_cases g3 : x.f_Blind = b
          · have : opensP l i t v b := hop.2 ⟨g1, g2, g3⟩
            simp [this, g3]
          · have : ¬ opensP l i t v b := fun h => g3 (hop.1 h).2.2
            simp [this, g3]
        · have : ¬ opensP l i t v b := fun h => g2 (hop.1 h).2.1
          rw [if_neg (by simp [g2])]
          simp [this]
      · have : ¬ opensP l i t v b := fun h => g1 (hop.1 h).1
        rw [if_neg (by simp [g1])]
        simp [this]
    · have hi' : ¬ (0 ≤ i ∧ i ≤ (l.length : Int) - 1) := by omega
      have : ¬ opensP l i t v b := by
        rintro ⟨_, x, e, _⟩
        rw [idx_none hi] at e
        cases e
      simp [hi', this]
theorem Few35_eq (v : TVault) (n : Int) (hl : v.f_Things.length ≤ 4611686018427387904 - 1) : ∃ b, r35_Few v n = some b ∧ (b = true → (v.f_Things.length : Int) ≤ n) := by
  unfold r35_Few
  obtain ⟨r, hr, hp⟩ := loopL_of (body := r35_Few_L1 v n) (fun s => ∃ i : Nat, s = i ∧ i ≤ v.f_Things.length) (fun s => (v.f_Things.length - s).toNat) (fun r => match r with | .inl _ => True | .inr b => b = false) (s := 0) ⟨0, rfl, by omega⟩
    (by have : FU = 1000000000000000000000000 := rfl; omega) (by
      rintro s ⟨i, rfl, h1⟩
      unfold r35_Few_L1
      dsimp only
      by_cases hi : i < v.f_Things.length
      · rw [if_pos (by simp; omega)]
        simp only [Option.bind_some]
        by_cases hn : (i : Int) < n
        · rw [if_pos (by simp; omega)]
          simp only [idx_of (List.getElem?_eq_getElem hi), Option.bind_some, wrap_nat (show i < 4611686018427387904 by omega)]
          split
          · exact .inr ⟨_, rfl, rfl⟩
          · exact .inl ⟨_, rfl, ⟨i + 1, rfl, by omega⟩, by omega⟩
        · rw [if_neg (by simp; omega)]
          exact .inr ⟨_, rfl, trivial⟩
      · rw [if_neg (by simp; omega)]
        exact .inr ⟨_, rfl, trivial⟩)
  rw [hr]
  simp only [Option.bind_some]
  cases r with
  | inl u => exact ⟨_, rfl, fun h => by simpa using h⟩
  | inr b => subst hp; exact ⟨_, rfl, fun h => by cases h⟩
end Go.Proofs.YtdecgihkgpgejaaDoor.P
namespace Go.Proofs.YtdecgihkgpgejaaDoor.P
open Go.RowKit
set_option linter.unusedSimpArgs false
set_option linter.unusedVariables false

theorem allG {α ρ : Type} (l : List α) {body : Int → Option (Int ⊕ (Unit ⊕ ρ))} (p : Nat → α → Prop) (bad : ρ) [∀ i x, Decidable (p i x)] (hlen : l.length < 4611686018427387904)
    (hb : ∀ (i : Nat) x, l[i]? = some x → body (i : Int) = some (if p i x then .inl ((i + 1 : Nat) : Int) else .inr (.inr bad))) (he : body (l.length : Int) = some (.inr (.inl ()))) :
    (∃ h : (∀ i x, l[i]? = some x → p i x), loopL body 0 = some (.inl ())) ∨ (∃ h : ¬ (∀ i x, l[i]? = some x → p i x), loopL body 0 = some (.inr bad)) := by
  have hs := scanL l (fun i x => if p i x then none else some bad) hlen (fun i x hx => by
    rw [hb i x hx]
    by_cases h : p i x
    · rw [if_pos h, if_pos h]
    · rw [if_neg h, if_neg h]) he
  cases hf : firstS (fun i x => if p i x then none else some bad) 0 l with
  | none =>
    refine .inl ⟨fun i x hx => ?_, by rw [hs, hf]⟩
    have := firstS_none.1 hf i x hx
    simp only [Nat.zero_add] at this
    by_cases h : p i x
    · exact h
    · rw [if_neg h] at this; cases this
  | some r =>
    obtain ⟨j, x, h1, h2⟩ := firstS_some hf
    simp only [Nat.zero_add] at h2
    by_cases h : p j x
    · rw [if_pos h] at h2; cases h2
    · rw [if_neg h] at h2
      cases h2
      exact .inr ⟨fun hall => h (hall j x h1), by rw [hs, hf]⟩

def allOpen (v : TVault) (seals : List Int) (rows : List (List Int)) (blinds : List Int) : Prop := ∀ i x, seals[i]? = some x → opensP v.f_Things x (txt (rows.getD i [])) 0 (blinds.getD i 0)
open Classical in
noncomputable def openR (v : TVault) (seals : List Int) (rows : List (List Int)) (blinds : List Int) (n k : Int) : List Int × Int :=
  if tOk rows n k then (if seals.length ≠ rows.length ∨ blinds.length ≠ rows.length then ([], 2) else if ¬ seals.Nodup then ([], 5) else if allOpen v seals rows blinds then (tp rows n k.toNat, 0) else ([], 22)) else ([], 1)

open Classical in
theorem Open_eq {v : TVault} {seals : List Int} {rows : List (List Int)} {blinds : List Int} {n k : Int} (h1 : rows.length < 4611686018427387904) (h2 : ∀ r ∈ rows, r.length < 4611686018427387904 ∧ wfL r) (h3 : seals.length * 8 ≤ 140737488351232) :
    tape_Open v seals rows blinds n k = some (openR v seals rows blinds n k) := by
  unfold tape_Open openR
  rw [Tape_eq h1 fun r hr => (h2 r hr).1]
  simp only [Option.bind_some]
  by_cases hok : tOk rows n k
  · rw [if_pos hok, if_pos hok, if_neg (by simp)]
    by_cases q1 : seals.length = rows.length
    · rw [if_neg (by simp [q1])]
      simp only [Option.bind_some]
      by_cases q2 : blinds.length = rows.length
      · rw [if_neg (by simp [q2]), if_neg (by simp [q1, q2]), twice_eq h3]
        simp only [Option.bind_some]
        by_cases q3 : seals.Nodup
        · rw [if_neg (by simp [q3]), if_neg (by simp [q3])]
          rcases allG seals (body := tape_Open_L2 v seals rows blinds) (fun i x => opensP v.f_Things x (txt (rows.getD i [])) 0 (blinds.getD i 0)) ([], 22) (by omega) (fun i x hx => by
              have hi := (List.getElem?_eq_some_iff.1 hx).1
              have hr : rows[i]? = some (rows[i]'(by omega)) := List.getElem?_eq_getElem (by omega)
              have hb : blinds[i]? = some (blinds[i]'(by omega)) := List.getElem?_eq_getElem (by omega)
              have hm := List.mem_of_getElem? hr
              unfold tape_Open_L2
              dsimp only
              rw [if_pos (by simp; omega)]
              simp only [idx_of hx, idx_of hr, Option.bind_some]
              rw [Text_eq (h2 _ hm).2 (by have := (hok.2.2.2.2.2 _ hm).1; have := hok.2.1; omega)]
              simp only [Option.bind_some, idx_of hb]
              rw [show v = ⟨v.f_Things⟩ from rfl, Opens_eq]
              have e1 : rows.getD i [] = rows[i]'(by omega) := by simp [List.getD, hr]
              have e2 : blinds.getD i 0 = blinds[i]'(by omega) := by simp [List.getD, hb]
              rw [e1, e2]
              simp only [Option.bind_some, wrap_nat (show i < 4611686018427387904 by omega)]
              by_cases ho : opensP v.f_Things x (txt (rows[i]'(by omega))) 0 (blinds[i]'(by omega))
              · rw [if_neg (by simp [ho]), if_pos ho]
              · rw [if_pos (by simp [ho]), if_neg ho]) (by unfold tape_Open_L2; simp) with ⟨h, e⟩ | ⟨h, e⟩
          · rw [e, if_pos (show allOpen v seals rows blinds from h)]; rfl
          · rw [e, if_neg (show ¬ allOpen v seals rows blinds from h)]; rfl
        · rw [if_pos (by simp [q3]), if_pos q3]
      · rw [if_pos (by simp; omega), if_pos (.inr q2)]
    · rw [if_pos (by simp; omega)]
      simp only [Option.bind_some]
      rw [if_pos trivial, if_pos (.inl q1)]
  · rw [if_neg hok, if_neg hok, if_pos (by simp)]

theorem nodup_take {l : List Int} : l.Nodup ↔ ∀ (i : Nat) x, l[i]? = some x → x ∉ l.take i := by
  constructor
  · intro h i x hx hm
    obtain ⟨j, hj, e⟩ := List.getElem_of_mem hm
    have hi := (List.getElem?_eq_some_iff.1 hx).1
    have hj' : j < i := by simp at hj; omega
    have := (List.pairwise_iff_getElem.1 h) j i (by omega) hi hj'
    rw [List.getElem_take] at e
    rw [List.getElem?_eq_getElem hi, Option.some.injEq] at hx
    exact this (by rw [e, hx])
  · intro h
    refine List.pairwise_iff_getElem.2 fun i j hi hj hij he => ?_
    refine h j _ (List.getElem?_eq_getElem hj) ?_
    rw [← he]
    exact List.mem_of_getElem? (i := i) (by rw [List.getElem?_take_of_lt hij]; exact List.getElem?_eq_getElem hi)
theorem rOpen_L4 {l : List Int} {i : Nat} {x : Int} (hx : l[i]? = some x) (hl : l.length < 4611686018427387904) : loopL (r50_Open_L4 l (i : Int)) 0 = some (if x ∈ l.take i then .inr ([], 5) else .inl ()) := by
  have hi := (List.getElem?_eq_some_iff.1 hx).1
  rw [scanN l i (body := r50_Open_L4 l (i : Int)) (fun _ y => if y = x then some ([], 5) else none) (by omega) (by omega) (fun j y hj hy => by
    unfold r50_Open_L4
    dsimp only
    rw [if_pos (by simp; omega)]
    simp only [idx_of hx, idx_of hy, Option.bind_some, wrap_nat (show j < 4611686018427387904 by omega)]
    by_cases h : y = x
    · rw [if_pos (by simp [h]), if_pos h]
    · rw [if_neg (by simp [h]), if_neg h]) (by unfold r50_Open_L4; simp)]
  cases hf : firstS (fun (_ : Nat) y => if y = x then some (([], 5) : List Int × Int) else none) 0 (l.take i) with
  | none =>
    rw [if_neg]
    intro hm
    obtain ⟨j, hj, e⟩ := List.getElem_of_mem hm
    have := firstS_none.1 hf j _ (List.getElem?_eq_getElem hj)
    rw [if_pos e] at this
    cases this
  | some r =>
    obtain ⟨j, y, e1, e2⟩ := firstS_some hf
    by_cases h : y = x
    · rw [if_pos h] at e2
      cases e2
      rw [if_pos (h ▸ List.mem_of_getElem? e1)]
    · rw [if_neg h] at e2; cases e2
open Classical in
theorem rOpen_eq {v : TVault} {seals : List Int} {rows : List (List Int)} {blinds : List Int} {n k : Int} (h1 : rows.length < 4611686018427387904) (h2 : ∀ r ∈ rows, r.length < 4611686018427387904 ∧ wfL r) (h3 : seals.length * 8 ≤ 140737488351232) :
    r50_Open v seals rows blinds n k = some (openR v seals rows blinds n k) := by
  unfold r50_Open openR
  rw [rTape_eq h1 fun r hr => (h2 r hr).1]
  simp only [Option.bind_some]
  by_cases hok : tOk rows n k
  · rw [if_pos hok, if_pos hok, if_neg (by simp)]
    by_cases q1 : seals.length = rows.length
    · rw [if_neg (by simp [q1])]
      simp only [Option.bind_some]
      by_cases q2 : blinds.length = rows.length
      · rw [if_neg (by simp [q2]), if_neg (by simp [q1, q2])]
        rcases allG seals (body := r50_Open_L2 seals) (fun i x => x ∉ seals.take i) ([], 5) (by omega) (fun i x hx => by
            have hi := (List.getElem?_eq_some_iff.1 hx).1
            unfold r50_Open_L2
            dsimp only
            rw [if_pos (by simp; omega), rOpen_L4 hx (by omega)]
            by_cases hm : x ∈ seals.take i
            · rw [if_pos hm, if_neg (fun h => h hm)]; rfl
            · rw [if_neg hm, if_pos hm]
              simp only [Option.bind_some, wrap_nat (show i < 4611686018427387904 by omega)]) (by unfold r50_Open_L2; simp) with ⟨h, e⟩ | ⟨h, e⟩
        · have q3 : seals.Nodup := nodup_take.2 h
          rw [e, if_neg (fun h => h q3)]
          simp only [Option.bind_some]
          rcases allG seals (body := r50_Open_L5 v seals rows blinds) (fun i x => opensP v.f_Things x (txt (rows.getD i [])) 0 (blinds.getD i 0)) ([], 22) (by omega) (fun i x hx => by
              have hi := (List.getElem?_eq_some_iff.1 hx).1
              have hr : rows[i]? = some (rows[i]'(by omega)) := List.getElem?_eq_getElem (by omega)
              have hb : blinds[i]? = some (blinds[i]'(by omega)) := List.getElem?_eq_getElem (by omega)
              have hm := List.mem_of_getElem? hr
              unfold r50_Open_L5
              dsimp only
              rw [if_pos (by simp; omega)]
              simp only [idx_of hx, idx_of hr, Option.bind_some]
              rw [rText_eq (h2 _ hm).2 (by have := (hok.2.2.2.2.2 _ hm).1; have := hok.2.1; omega)]
              simp only [Option.bind_some, idx_of hb]
              rw [rOpens_eq, show v = ⟨v.f_Things⟩ from rfl, Opens_eq]
              have e1 : rows.getD i [] = rows[i]'(by omega) := by simp [List.getD, hr]
              have e2 : blinds.getD i 0 = blinds[i]'(by omega) := by simp [List.getD, hb]
              rw [e1, e2]
              simp only [Option.bind_some, wrap_nat (show i < 4611686018427387904 by omega)]
              by_cases ho : opensP v.f_Things x (txt (rows[i]'(by omega))) 0 (blinds[i]'(by omega))
              · rw [if_neg (by simp [ho]), if_pos ho]
              · rw [if_pos (by simp [ho]), if_neg ho]) (by unfold r50_Open_L5; simp) with ⟨h, e⟩ | ⟨h, e⟩
          · rw [e, if_pos (show allOpen v seals rows blinds from h)]; rfl
          · rw [e, if_neg (show ¬ allOpen v seals rows blinds from h)]; rfl
        · have q3 : ¬ seals.Nodup := fun hn => h (nodup_take.1 hn)
          rw [e, if_pos q3]
          rfl
      · rw [if_pos (by simp; omega), if_pos (.inr q2)]
    · rw [if_pos (by simp; omega)]
      simp only [Option.bind_some]
      rw [if_pos trivial, if_pos (.inl q1)]
  · rw [if_neg hok, if_neg hok, if_pos (by simp)]

/-! Putting leaves. -/
theorem put_eq {l : List TThing} (hl : l.length < 10000) (x : TThing) : vault_put ⟨l⟩ x = some (⟨l ++ [x]⟩, (l.length : Int), 0) := by
  have hm := maxLen_is
  unfold vault_put slices_Clone_58 slices_Clip appL
  simp only [List.length_nil, Nat.zero_add, List.nil_append, List.length_cons]
  rw [if_pos (by omega)]
  simp only [Option.bind_some]
  rw [if_pos (by omega)]
  simp only [Option.bind_some]
  rw [if_pos (by omega)]
  rfl
theorem soundP_nil : soundP [] := ⟨by simp, fun i hi => by simp at hi⟩
theorem soundP_leaf {l : List TThing} {x : TThing} (hs : soundP l) (hl : l.length < 2000) (hx : leafP x) : soundP (l ++ [x]) := by
  refine ⟨by simp; omega, fun i hi y hy => ?_⟩
  simp only [List.length_append, List.length_cons, List.length_nil] at hi
  by_cases h : i < l.length
  · rw [List.getElem?_append_left h] at hy
    rw [List.take_append_of_le_length (by omega)]
    exact hs.2 i h y hy
  · have : i = l.length := by omega
    subst this
    simp at hy
    subst hy
    exact .inl hx
theorem Leaf_ok {l : List TThing} (hs : soundP l) (hl : l.length < 1000) {t : ByteArray} (ht : (t.size : Int) ≤ 8000) {b : Int} (hb : 0 ≤ b ∧ b ≤ 1099511627776) : vault_Leaf ⟨l⟩ t 0 b = some (⟨l ++ [TThing.mk t 0 b (-1) (-1)]⟩, (l.length : Int), 0) := by
  obtain ⟨q, h1, h2⟩ := Sound_eq ⟨l⟩
  have hq : q = true := h2.2 hs
  subst hq
  have hleaf : leafP (TThing.mk t 0 b (-1) (-1)) := ⟨rfl, rfl, ht, ⟨by simp, by simp⟩, hb⟩
  unfold vault_Leaf
  simp only [h1, Option.bind_some, Bool.not_true, Bool.false_eq_true, if_false, leaf_eq]
  simp only [hleaf, decide_true, Bool.not_true, Bool.false_eq_true, if_false]
  rw [if_neg (by simp; omega), put_eq (by omega)]
  rfl

theorem sane_Tape : tape_Tape [[3, 2], [4, 2]] 5 2 = some ([2, 0], 0) := by kernel_rfl
theorem sane_Draw : tape_Draw [2, 0, 2] 5 = some ([2, 0, 4], 0) := by kernel_rfl
theorem sane_Right : tape_Right [4, 4] 5 = some false ∧ tape_Right [4, 3] 5 = some true := ⟨by kernel_rfl, by kernel_rfl⟩
theorem wf32 : wfL [3, 2] := fun x hx => by simp at hx; omega
theorem wf42 : wfL [4, 2] := fun x hx => by simp at hx; omega
theorem tok_one {r : List Int} {n k : Int} (h1 : 0 ≤ k ∧ k ≤ 100 ∧ k ≤ n ∧ n ≤ 1099511627776) (h2 : (r.length : Int) = k) (h3 : rOk r n) : tOk [r] n k := ⟨h1.1, h1.2.1, h1.2.2.1, h1.2.2.2, by simp, fun x hx => by simp at hx; subst hx; exact ⟨h2, h3⟩⟩
theorem rok2 {a b n : Int} (h : 0 ≤ a ∧ a < n ∧ 0 ≤ b ∧ b < n - 1 ∧ 2 ≤ n ∧ n ≤ 1000) : rOk [a, b] n := by
  refine ⟨by omega, by omega, by simp, by simp; omega, fun i x hx => ?_⟩
  match i with
  | 0 => simp at hx; subst hx; simp; omega
  | 1 => simp at hx; subst hx; simp; omega
  | i + 2 => simp at hx
theorem sane_eq : l50_sane = some true := by
  have hF : tape_Find [2, 0, 4] 5 = some (fd [2, 0, 4], 0) := by
    rw [Find_eq 5 (by simp), if_pos ⟨by omega, by omega, by simp, fun x hx => by simp at hx; omega⟩, if_pos (by decide)]
  have hF2 : fd [2, 0, 4] = [2, 0, 2] := by decide
  have hs : (txt [3, 2]).size ≤ 5000 := txt_size wf32 (by simp)
  have hL := Leaf_ok soundP_nil (by simp) (t := txt [3, 2]) (by omega) (b := 7) (by omega)
  have hsd : soundP [TThing.mk (txt [3, 2]) 0 7 (-1) (-1)] := soundP_leaf soundP_nil (by simp) ⟨rfl, rfl, by simp only; omega, ⟨by simp, by simp⟩, ⟨by simp, by simp⟩⟩
  have hO1 : tape_Open ⟨[TThing.mk (txt [3, 2]) 0 7 (-1) (-1)]⟩ [0] [[3, 2]] [7] 5 2 = some (tp [[3, 2]] 5 2, 0) := by
    rw [Open_eq (by simp) (fun r hr => by simp at hr; subst hr; exact ⟨by simp, wf32⟩) (by simp)]
    unfold openR
    rw [if_pos (tok_one (by omega) (by simp) (rok2 (by omega))), if_neg (by simp), if_neg (by simp), if_pos]
    · rfl
    · intro i x hx
      match i with
      | 0 =>
        simp at hx; subst hx
        exact ⟨hsd, _, rfl, rfl, rfl, rfl⟩
      | i + 1 => simp at hx
  have hO2 : tape_Open ⟨[TThing.mk (txt [3, 2]) 0 7 (-1) (-1)]⟩ [0] [[4, 2]] [7] 5 2 = some ([], 22) := by
    rw [Open_eq (by simp) (fun r hr => by simp at hr; subst hr; exact ⟨by simp, wf42⟩) (by simp)]
    unfold openR
    rw [if_pos (tok_one (by omega) (by simp) (rok2 (by omega))), if_neg (by simp), if_neg (by simp), if_neg]
    intro h
    obtain ⟨_, x, e1, e2, _, _⟩ := h 0 0 rfl
    cases e1
    have := txt_inj e2
    simp at this
  have hT : tp [[3, 2]] 5 2 = [3, 2] := by decide
  unfold l50_sane
  rw [sane_Tape, sane_Draw]
  simp only [Option.bind_some]
  rw [hF, hF2]
  simp only [Option.bind_some]
  rw [Text_eq wf32 (by simp)]
  simp only [Option.bind_some]
  rw [hL]
  simp only [Option.bind_some, List.nil_append, List.length_nil, Int.ofNat_zero]
  rw [hO1]
  simp only [Option.bind_some]
  rw [hO2, hT]
  simp only [Option.bind_some, bne_self_eq_false, Bool.false_eq_true, if_false]
  simp only [sameI_eq (show [(2 : Int), 0].length < 4611686018427387904 by simp), sameI_eq (show [(2 : Int), 0, 4].length < 4611686018427387904 by simp), sameI_eq (show [(2 : Int), 0, 2].length < 4611686018427387904 by simp), sameI_eq (show [(3 : Int), 2].length < 4611686018427387904 by simp), sane_Right.1, sane_Right.2]
  rfl
theorem wf_range {y : Int} (h : (Lit.int .i64 y).wf = true) : -9223372036854775808 ≤ y ∧ y ≤ 9223372036854775807 := by
  have h' : (decide (IntKind.i64.min ≤ y) && decide (y ≤ IntKind.i64.max)) = true := h
  simp only [Bool.and_eq_true, decide_eq_true_eq] at h'
  exact h'

theorem TapeTells_eq (a0 : List (List Int)) (a1 : List Int) (a2 a3 : Int) (a4 : TVault) (a5 a6 : List Int) (h0 : a0.length * 24 ≤ 140737488351232 ∧ ∀ y ∈ a0, (y.length * 8 ≤ 140737488351232 ∧ ∀ z ∈ y, (Lit.int .i64 z).wf = true))
    (h1 : a1.length * 8 ≤ 140737488351232 ∧ ∀ y ∈ a1, (Lit.int .i64 y).wf = true) (h4 : a4.f_Things.length * 48 ≤ 140737488351232) (h5 : a5.length * 8 ≤ 140737488351232) (h6 : a6.length * 8 ≤ 140737488351232) : l50_TapeTells a0 a1 a2 a3 a4 a5 a6 = some true := by
  have hw0 : ∀ r ∈ a0, r.length < 4611686018427387904 ∧ wfL r := fun r hr => ⟨by have := (h0.2 r hr).1; omega, fun x hx => wf_range ((h0.2 r hr).2 x hx)⟩
  have hw1 : wfL a1 := fun x hx => wf_range (h1.2 x hx)
  unfold l50_TapeTells
  rw [sane_eq]
  simp only [Option.bind_some]
  obtain ⟨b1, e1, k1⟩ := Few_eq a0 (by omega)
  obtain ⟨b2, e2, k2⟩ := FewRow_eq a1
  obtain ⟨b3, e3, k3⟩ := Few35_eq a4 20 (by omega)
  rw [e1]
  simp only [Option.bind_some]
  cases b1 with
  | false => rfl
  | true =>
  rw [if_neg (by simp), e2]
  simp only [Option.bind_some]
  cases b2 with
  | false => rfl
  | true =>
  rw [if_neg (by simp), e3]
  simp only [Option.bind_some]
  cases b3 with
  | false => rfl
  | true =>
  rw [if_neg (by simp)]
  by_cases g5 : (a5.length : Int) > 10
  · rw [if_pos (by simp; omega)]; rfl
  rw [if_neg (by simp; omega)]
  simp only [Option.bind_some]
  by_cases g6 : (a6.length : Int) > 10
  · rw [if_pos (by simp; omega)]
  rw [if_neg (by simp; omega)]
  have l1 := k2 rfl
  have hA : ∀ l : List Int, l.length < 4611686018427387904 → r50_SameInts l l = some true := fun l hl => by rw [sameI_eq hl]; simp
  have hlen : ∀ (p : Prop) [Decidable p] (x y : List Int × Int), x.1.length < 4611686018427387904 → y.1.length < 4611686018427387904 → (if p then x else y).1.length < 4611686018427387904 := fun p _ x y hx hy => by split <;> assumption
  have l2 := fd_len a1
  have l3 := (dr_inv a1).1
  rw [Tape_eq (by omega) (fun r hr => (hw0 r hr).1), rTape_eq (by omega) (fun r hr => (hw0 r hr).1), Open_eq (by omega) hw0 h5, rOpen_eq (by omega) hw0 h5]
  simp only [Option.bind_some, bne_self_eq_false, Bool.false_eq_true, if_false]
  have ht : ∀ k : Int, k ≤ 100 → (tp a0 a2 k.toNat).length < 4611686018427387904 := fun k hk => by rw [tp_len]; omega
  rw [hA _ (by
    split
    · rename_i hok; exact ht _ hok.2.1
    · simp)]
  simp only [Option.bind_some, Bool.not_true, Bool.false_eq_true, if_false]
  rw [hA _ (by
    unfold openR
    split
    · rename_i hok
      split
      · simp
      · split
        · simp
        · split
          · exact ht _ hok.2.1
          · simp
    · simp)]
  simp only [Option.bind_some, Bool.not_true, Bool.false_eq_true, if_false]
  rw [Right_eq a2 (by omega), rRight_eq a2 (by omega)]
  simp only [Option.bind_some, beq_self_eq_true, Bool.not_true, Bool.false_eq_true, if_false]
  rw [Text_eq hw1 (by omega), rText_eq hw1 (by omega)]
  simp only [Option.bind_some, beq_self_eq_true, Bool.not_true, Bool.false_eq_true, if_false]
  rw [Draw_eq a2 (by omega), rDraw_eq a2 (by omega), Find_eq a2 (by omega), rFind_eq a2 (by omega)]
  simp only [Option.bind_some, beq_self_eq_true, if_true]
  rw [hA _ (by split <;> simp; omega)]
  simp only [Option.bind_some, if_true]
  rw [hA _ (by split <;> (try split) <;> simp; omega)]
  rfl
end Go.Proofs.YtdecgihkgpgejaaDoor.P
