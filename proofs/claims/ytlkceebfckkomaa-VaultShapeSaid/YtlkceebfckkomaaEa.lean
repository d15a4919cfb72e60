/- The vault, in plain words. -/
import Derived.Test.YtlkceebfckkomaaDp
import Derived.Test.YtlkceebfckkomaaCe
namespace Go.Proofs.Ytlkceebfckkomaa.P
open Go.RowKit
set_option linter.unusedSimpArgs false
set_option linter.unusedVariables false

theorem within_eq (n h : Int) : vault_within n h = some (decide (0 ≤ n ∧ n ≤ h)) := by
  unfold vault_within
  by_cases h0 : n ≥ 0
  · rw [if_pos (by simpa using h0)]
    have : (0 ≤ n ∧ n ≤ h) ↔ n ≤ h := by omega
    simp [this]
  · rw [if_neg (by simpa using h0)]
    have : ¬ (0 ≤ n ∧ n ≤ h) := by omega
    simp [this]

def leafP (x : TThing) : Prop := x.f_Left = -1 ∧ x.f_Right = -1 ∧ (x.f_Text.size : Int) ≤ 8000 ∧ (0 ≤ x.f_Value ∧ x.f_Value ≤ 1099511627776) ∧ (0 ≤ x.f_Blind ∧ x.f_Blind ≤ 1099511627776)
instance (x : TThing) : Decidable (leafP x) := by unfold leafP; infer_instance
theorem leaf_eq (x : TThing) : vault_leaf x = some (decide (leafP x)) := by
  unfold vault_leaf
  simp only [within_eq, Option.bind_some]
  by_cases h1 : x.f_Left = -1
  · rw [if_pos (by simpa using h1), Option.bind_some]
    by_cases h2 : x.f_Right = -1
    · rw [if_pos (by simpa using h2)]
      by_cases h3 : (x.f_Text.size : Int) ≤ 8000
      · rw [if_pos (decide_eq_true h3)]
        by_cases h4 : 0 ≤ x.f_Value ∧ x.f_Value ≤ 1099511627776
        · rw [if_pos (decide_eq_true h4)]
          congr 1
          rw [decide_eq_decide]
          exact ⟨fun h => ⟨h1, h2, h3, h4, h⟩, fun h => h.2.2.2.2⟩
        · rw [if_neg (by simpa using h4), decide_eq_false (fun h : leafP x => h4 h.2.2.2.1)]
      · rw [if_neg (by simpa using h3), decide_eq_false (fun h : leafP x => h3 h.2.2.1)]
    · rw [if_neg (by simpa using h2), decide_eq_false (fun h : leafP x => h2 h.2.1)]
  · rw [if_neg (by simpa using h1), Option.bind_some, if_neg (by simp), decide_eq_false (fun h : leafP x => h1 h.1)]

def thing0 : TThing := TThing.mk (ByteArray.mk #[]) 0 0 0 0
def pairR (l : List TThing) (a b : Int) : TThing × Int :=
  match P.idx l a, P.idx l b with
  | some x, some y =>
    if IntKind.i64.wrap (x.f_Value + y.f_Value) > 1125899906842624 ∨ IntKind.i64.wrap (x.f_Blind + y.f_Blind) > 1125899906842624 then (thing0, 3)
    else (TThing.mk (ByteArray.mk #[]) (IntKind.i64.wrap (x.f_Value + y.f_Value)) (IntKind.i64.wrap (x.f_Blind + y.f_Blind)) a b, 0)
  | _, _ => (thing0, 4)

theorem idx_none {α : Type} {l : List α} {i : Int} (h : ¬ (0 ≤ i ∧ i < l.length)) : P.idx l i = none := by
  unfold P.idx
  rw [if_neg h]

theorem small {n : Nat} (h : n ≤ maxLen) : (n : Int) ≤ 9223372036854775807 := by
  have : maxLen ≤ 9223372036854775807 := by decide
  omega

theorem pair_eq {l : List TThing} (hl : l.length ≤ maxLen) (a b : Int) : vault_pair l a b = some (pairR l a b) := by
  unfold vault_pair
  have hw : IntKind.i64.wrap ((l.length : Int) - 1) = (l.length : Int) - 1 := wrap64 (by omega) (by have := small hl; omega)
  simp only [within_eq, hw, Option.bind_some]
  by_cases ha : 0 ≤ a ∧ a < l.length
  · have ha' : (0 ≤ a ∧ a ≤ (l.length : Int) - 1) := by omega
    by_cases hb : 0 ≤ b ∧ b < l.length
    · have hb' : (0 ≤ b ∧ b ≤ (l.length : Int) - 1) := by omega
      simp only [ha', hb', and_self, decide_true, Bool.not_true, Bool.false_eq_true, if_false, idx_get ha.1 ha.2, idx_get hb.1 hb.2, Option.bind_some, pairR, decide_eq_true_eq]
      split
      · rename_i h; rw [if_pos (.inl h)]; rfl
      · split
        · rename_i h; rw [if_pos (.inr h)]; rfl
        · rename_i h h'; rw [if_neg (by intro hh; rcases hh with hh | hh <;> contradiction)]
    · have hb' : ¬ (0 ≤ b ∧ b ≤ (l.length : Int) - 1) := by omega
      simp only [ha', hb', and_self, decide_true, decide_false, Bool.not_true, Bool.not_false, Bool.false_eq_true, if_false, if_true, idx_get ha.1 ha.2, idx_none hb, pairR]
      rfl
  · have ha' : ¬ (0 ≤ a ∧ a ≤ (l.length : Int) - 1) := by omega
    simp only [ha', decide_false, Bool.not_false, if_true, idx_none ha, pairR]
    rfl

def okAt (l : List TThing) (i : Nat) : Prop := ∀ x, l[i]? = some x → leafP x ∨ pairR (l.take i) x.f_Left x.f_Right = (x, 0)
def soundP (l : List TThing) : Prop := l.length ≤ 2000 ∧ ∀ i, i < l.length → okAt l i

theorem same_eq (x y : TThing) : ((x.f_Text == y.f_Text) && ((x.f_Value == y.f_Value) && ((x.f_Blind == y.f_Blind) && ((x.f_Left == y.f_Left) && (x.f_Right == y.f_Right))))) = true ↔ x = y := by
  obtain ⟨a, b, c, d, e⟩ := x
  obtain ⟨a', b', c', d', e'⟩ := y
  simp [ba_beq]

theorem Sound_eq (v : TVault) : ∃ b, vault_Sound v = some b ∧ (b = true ↔ soundP v.f_Things) := by
  obtain ⟨l⟩ := v
  unfold vault_Sound
  simp only
  by_cases hlen : l.length ≤ 2000
  · have hle : ¬ ((l.length : Int) > 2000) := by omega
    simp only [hle, decide_false, Bool.false_eq_true, if_false]
    have hm : l.length ≤ maxLen := Nat.le_trans hlen (by decide)
    obtain ⟨r, h1, h2⟩ := loopL_of (body := vault_Sound_L1 ⟨l⟩) (fun s => ∃ i : Nat, s = i ∧ i ≤ l.length ∧ ∀ j, j < i → okAt l j) (fun s => (l.length : Int).toNat - s.toNat)
      (fun r => match r with | .inl _ => soundP l | .inr b => b = false ∧ ¬ soundP l) (s := 0) ⟨0, rfl, Nat.zero_le _, fun j hj => by omega⟩ (by simp only [FU]; omega) (fun s hs => by
        obtain ⟨i, rfl, hi, hok⟩ := hs
        simp only [vault_Sound_L1]
        by_cases hlt : i < l.length
        · rw [if_pos (by simp; omega)]
          simp only [idx_nat hlt, Option.bind_some, leaf_eq]
          have hw : IntKind.i64.wrap ((i : Int) + 1) = ((i + 1 : Nat) : Int) := by rw [wrap64 (by omega) (by omega)]; rfl
          have hnext : okAt l i → (∃ i' : Nat, IntKind.i64.wrap ((i : Int) + 1) = i' ∧ i' ≤ l.length ∧ ∀ j, j < i' → okAt l j) ∧ (l.length : Int).toNat - (IntKind.i64.wrap ((i : Int) + 1)).toNat < (l.length : Int).toNat - (i : Int).toNat := by
            intro hk
            refine ⟨⟨i + 1, hw, hlt, fun j hj => ?_⟩, by rw [hw]; omega⟩
            rcases Nat.lt_succ_iff_lt_or_eq.1 hj with h | rfl
            · exact hok j h
            · exact hk
          by_cases hleaf : leafP l[i]
          · left
            refine ⟨_, by simp only [hleaf, decide_true, if_true], hnext fun x hx => ?_⟩
            rw [List.getElem?_eq_getElem hlt, Option.some.injEq] at hx
            subst hx; exact .inl hleaf
          · simp only [hleaf, decide_false, Bool.false_eq_true, if_false, slc_nat hi, Option.bind_some, pair_eq (show (l.take i).length ≤ maxLen by simp; omega)]
            have hbad : pairR (l.take i) l[i].f_Left l[i].f_Right ≠ (l[i], 0) → ¬ soundP l := by
              intro hne hs
              rcases hs.2 i hlt _ (List.getElem?_eq_getElem hlt) with h | h
              · exact hleaf h
              · exact hne h
            generalize hp : pairR (l.take i) l[i].f_Left l[i].f_Right = p at *
            obtain ⟨y, e⟩ := p
            by_cases he : e = 0
            · subst he
              simp only [bne_self_eq_false, Bool.false_eq_true, if_false]
              by_cases hxy : l[i] = y
              · left
                have := (same_eq l[i] y).2 hxy
                refine ⟨_, by simp only [this, Bool.not_true, Bool.false_eq_true, if_false], hnext fun x hx => ?_⟩
                rw [List.getElem?_eq_getElem hlt, Option.some.injEq] at hx
                subst hx
                exact .inr (by rw [hp, hxy])
              · right
                have := mt (same_eq l[i] y).1 hxy
                refine ⟨.inr false, by rw [if_pos (by rw [Bool.not_eq_true] at this; rw [this]; rfl)], rfl, hbad fun h => hxy ?_⟩
                simp only [Prod.mk.injEq] at h
                exact h.1.symm
            · right
              refine ⟨.inr false, by rw [if_pos (by simpa using he)], rfl, hbad fun h => he ?_⟩
              simp only [Prod.mk.injEq] at h
              exact h.2
        · right
          refine ⟨.inl (), by rw [if_neg (by simp; omega)], hlen, fun j hj => hok j (by omega)⟩)
    rw [h1]
    cases r with
    | inl u => exact ⟨true, rfl, by simpa using h2⟩
    | inr b => obtain ⟨rfl, h3⟩ := h2; exact ⟨false, rfl, by simpa using h3⟩
  · have hle : ((l.length : Int) > 2000) := by omega
    simp only [hle, decide_true, if_true]
    exact ⟨false, rfl, by simp only [Bool.false_eq_true, false_iff]; exact fun h => hlen h.1⟩
end Go.Proofs.Ytlkceebfckkomaa.P
