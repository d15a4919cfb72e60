/- The vault, in plain words: putting, opening; the law VaultKeeps. -/
import Derived.Test.YtcdckmfiknhiiaaEa
namespace Go.Proofs.Ytcdckmfiknhiiaa.P
open Go.RowKit
set_option linter.unusedSimpArgs false
set_option linter.unusedVariables false

theorem put_eq {l : List TThing} (hl : l.length < 100000) (x : TThing) : vault_put ⟨l⟩ x = some (⟨l ++ [x]⟩, (l.length : Int), 0) := by
  have hm : 100000 ≤ maxLen := by decide
  unfold vault_put slices_Clone slices_Clip appL
  simp only [List.length_nil, Nat.zero_add, List.nil_append, List.length_cons]
  rw [if_pos (by omega)]
  simp only [Option.bind_some]
  rw [if_pos (by omega)]
  simp only [Option.bind_some]
  rw [if_pos (by omega)]
  rfl

theorem Leaf_eq {l : List TThing} (hs : soundP l) (t : ByteArray) (v b : Int) : ∃ r, vault_Leaf ⟨l⟩ t v b = some r ∧ ((r = (⟨l ++ [TThing.mk t v b (-1) (-1)]⟩, (l.length : Int), 0) ∧ leafP (TThing.mk t v b (-1) (-1)) ∧ l.length < 2000) ∨ (r.1 = ⟨[]⟩ ∧ r.2.1 = -1 ∧ r.2.2 ≠ 0)) := by
  obtain ⟨q, h1, h2⟩ := Sound_eq ⟨l⟩
  have hq : q = true := h2.2 hs
  subst hq
  unfold vault_Leaf
  simp only [h1, Option.bind_some, Bool.not_true, Bool.false_eq_true, if_false, leaf_eq]
  by_cases hleaf : leafP (TThing.mk t v b (-1) (-1))
  · simp only [hleaf, decide_true, Bool.not_true, Bool.false_eq_true, if_false]
    by_cases hl : l.length < 2000
    · rw [if_neg (by simp; omega), put_eq (by omega)]
      exact ⟨_, rfl, .inl ⟨rfl, trivial, hl⟩⟩
    · rw [if_pos (by simp; omega)]
      exact ⟨_, rfl, .inr ⟨rfl, rfl, by simp⟩⟩
  · simp only [hleaf, decide_false, Bool.not_false, if_true]
    exact ⟨_, rfl, .inr ⟨rfl, rfl, by simp⟩⟩

theorem pairR_of {l : List TThing} {a b : Int} {y : TThing} (h : pairR l a b = (y, 0)) : y.f_Left = a ∧ y.f_Right = b := by
  unfold pairR at h
  split at h
  · split at h
    · simp at h
    · simp only [Prod.mk.injEq, and_true] at h
      subst h
      exact ⟨rfl, rfl⟩
  · simp at h

theorem Pair_eq {l : List TThing} (hs : soundP l) (a b : Int) : ∃ r, vault_Pair ⟨l⟩ a b = some r ∧ ((∃ y, r = (⟨l ++ [y]⟩, (l.length : Int), 0) ∧ pairR l y.f_Left y.f_Right = (y, 0) ∧ l.length < 2000) ∨ (r.1 = ⟨[]⟩ ∧ r.2.1 = -1 ∧ r.2.2 ≠ 0)) := by
  obtain ⟨q, h1, h2⟩ := Sound_eq ⟨l⟩
  have hq : q = true := h2.2 hs
  subst hq
  have hm : l.length ≤ maxLen := Nat.le_trans hs.1 (by decide)
  unfold vault_Pair
  simp only [h1, Option.bind_some, Bool.not_true, Bool.false_eq_true, if_false, pair_eq hm]
  generalize hp : pairR l a b = p
  obtain ⟨y, e⟩ := p
  have fin : e = 0 → l.length < 2000 → ∃ r, ((vault_put ⟨l⟩ y).bind fun r7 => some (r7.1, r7.2.1, r7.2.2)) = some r ∧ ((∃ y, r = (⟨l ++ [y]⟩, (l.length : Int), 0) ∧ pairR l y.f_Left y.f_Right = (y, 0) ∧ l.length < 2000) ∨ (r.1 = ⟨[]⟩ ∧ r.2.1 = -1 ∧ r.2.2 ≠ 0)) := by
    intro he hl
    subst he
    rw [put_eq (by omega)]
    obtain ⟨e1, e2⟩ := pairR_of hp
    exact ⟨_, rfl, .inl ⟨y, rfl, by rw [e1, e2]; exact hp, hl⟩⟩
  by_cases h4 : e = 4
  · subst h4
    exact ⟨_, rfl, .inr ⟨rfl, rfl, by simp⟩⟩
  · rw [if_pos (by simpa using h4)]
    by_cases hl : l.length < 2000
    · rw [if_neg (by simp; omega)]
      by_cases he : e = 0
      · rw [if_neg (by simp [he])]
        exact fin he hl
      · rw [if_pos (by simpa using he)]
        exact ⟨_, rfl, .inr ⟨rfl, rfl, he⟩⟩
    · rw [if_pos (by simp; omega)]
      exact ⟨_, rfl, .inr ⟨rfl, rfl, by simp⟩⟩

theorem soundP_snoc {l : List TThing} {x : TThing} (hs : soundP l) (hl : l.length < 2000) (hx : leafP x ∨ pairR l x.f_Left x.f_Right = (x, 0)) : soundP (l ++ [x]) := by
  refine ⟨by simp; omega, fun i hi y hy => ?_⟩
  simp only [List.length_append, List.length_cons, List.length_nil] at hi
  by_cases h : i < l.length
  · rw [List.getElem?_append_left h] at hy
    rw [List.take_append_of_le_length (by omega)]
    exact hs.2 i h y hy
  · have : i = l.length := by omega
    subst this
    simp at hy
    subst hy
    rw [List.take_left']
    · exact hx
    · rfl

def opensP (l : List TThing) (i : Int) (t : ByteArray) (v b : Int) : Prop := ∃ x, P.idx l i = some x ∧ x.f_Text = t ∧ x.f_Value = v ∧ x.f_Blind = b
theorem Opens_eq {l : List TThing} (hs : soundP l) (i : Int) (t : ByteArray) (v b : Int) : ∃ q, vault_Opens ⟨l⟩ i t v b = some q ∧ (q = true ↔ opensP l i t v b) := by
  obtain ⟨q, h1, h2⟩ := Sound_eq ⟨l⟩
  have hq : q = true := h2.2 hs
  subst hq
  have hm : l.length ≤ maxLen := Nat.le_trans hs.1 (by decide)
  have hw : IntKind.i64.wrap ((l.length : Int) - 1) = (l.length : Int) - 1 := wrap64 (by omega) (by have := small hm; omega)
  unfold vault_Opens
  simp only [h1, Option.bind_some, Bool.not_true, Bool.false_eq_true, if_false, within_eq, hw]
  by_cases hi : 0 ≤ i ∧ i < l.length
  · have hi' : 0 ≤ i ∧ i ≤ (l.length : Int) - 1 := by omega
    simp only [hi', and_self, decide_true, Bool.not_true, Bool.false_eq_true, if_false, idx_get hi.1 hi.2, Option.bind_some, opensP, Option.some.injEq, str_beq]
    generalize l[i.toNat]'(by omega) = x
    refine ⟨decide (x.f_Text = t ∧ x.f_Value = v ∧ x.f_Blind = b), ?_, by simp⟩
    simp only [decide_eq_true_eq, beq_iff_eq]
    split
    · split
      · congr 1
        simp_all
        by_cases hb : x.f_Blind = b <;> simp [hb]
      · simp_all
    · simp_all
  · have hi' : ¬ (0 ≤ i ∧ i ≤ (l.length : Int) - 1) := by omega
    simp only [hi', decide_false, Bool.not_false, if_true, opensP, idx_none hi]
    exact ⟨false, rfl, by simp⟩

theorem Few_eq (l : List TThing) (n : Int) (hl : l.length ≤ maxLen) : ∃ b, r35_Few ⟨l⟩ n = some b ∧ (b = true → (l.length : Int) ≤ n) := by
  have hs := small hl
  obtain ⟨r, h1, h2⟩ := loopL_of (body := r35_Few_L1 ⟨l⟩ n) (fun s => ∃ i : Nat, s = i ∧ i ≤ l.length) (fun s => (l.length : Int).toNat - s.toNat)
    (fun r => match r with | .inl _ => True | .inr b => b = false) (s := 0) ⟨0, rfl, Nat.zero_le _⟩ (by simp only [FU]; omega) (fun s hs' => by
      obtain ⟨i, rfl, hi⟩ := hs'
      simp only [r35_Few_L1]
      by_cases hlt : i < l.length
      · rw [if_pos (by simp; omega)]
        split
        · simp only [idx_nat hlt, Option.bind_some]
          split
          · exact .inr ⟨.inr false, rfl, rfl⟩
          · have hw : IntKind.i64.wrap ((i : Int) + 1) = ((i + 1 : Nat) : Int) := by rw [wrap64 (by omega) (by omega)]; rfl
            exact .inl ⟨_, rfl, ⟨i + 1, hw, hlt⟩, by rw [hw]; omega⟩
        · exact .inr ⟨.inl (), rfl, trivial⟩
      · rw [if_neg (by simp; omega)]
        exact .inr ⟨.inl (), rfl, trivial⟩)
  unfold r35_Few
  rw [h1]
  cases r with
  | inl u => exact ⟨_, rfl, fun h => by simpa using h⟩
  | inr b => subst h2; exact ⟨_, rfl, fun h => by cases h⟩

theorem sane_eq : l35_sane = some true := by kernel_rfl

/-- What a put comes to. -/
def PutP (l : List TThing) (r : TVault × Int × Int) : Prop := (∃ y, r = (⟨l ++ [y]⟩, (l.length : Int), 0) ∧ soundP (l ++ [y])) ∨ (r.1 = ⟨[]⟩ ∧ r.2.1 = -1 ∧ r.2.2 ≠ 0)
theorem Leaf_put {l : List TThing} (hs : soundP l) (t : ByteArray) (v b : Int) : ∃ r, vault_Leaf ⟨l⟩ t v b = some r ∧ PutP l r := by
  obtain ⟨r, h1, h2⟩ := Leaf_eq hs t v b
  refine ⟨r, h1, ?_⟩
  rcases h2 with ⟨h2, h3, h4⟩ | h2
  · exact .inl ⟨_, h2, soundP_snoc hs h4 (.inl h3)⟩
  · exact .inr h2
theorem Pair_put {l : List TThing} (hs : soundP l) (a b : Int) : ∃ r, vault_Pair ⟨l⟩ a b = some r ∧ PutP l r := by
  obtain ⟨r, h1, h2⟩ := Pair_eq hs a b
  refine ⟨r, h1, ?_⟩
  rcases h2 with ⟨y, h2, h3, h4⟩ | h2
  · exact .inl ⟨_, h2, soundP_snoc hs h4 (.inr h3)⟩
  · exact .inr h2

theorem keeps_loop {l : List TThing} {puts : List TPut} (hs : soundP l) (hl : l.length ≤ 40) (hp : puts.length ≤ 10) : ∃ r, loopL (l35_VaultKeeps_L1 puts true) (0, l) = some r ∧ (match r with | .inl now => soundP now ∧ ∃ m, now = l ++ m | .inr b => b = true) := by
  refine loopL_of (body := l35_VaultKeeps_L1 puts true) (fun s => ∃ (i : Nat) (m : List TThing), s = ((i : Int), l ++ m) ∧ i ≤ puts.length ∧ m.length ≤ i ∧ soundP (l ++ m)) (fun s => (puts.length : Int).toNat - s.1.toNat) _ ⟨0, [], by simp, Nat.zero_le _, Nat.le_refl _, by simpa using hs⟩ (by simp only [FU]; omega) (fun s h => ?_)
  obtain ⟨i, m, rfl, hi, hm, hsd⟩ := h
  simp only [l35_VaultKeeps_L1]
  by_cases hlt : i < puts.length
  · rw [if_pos (by simp; omega)]
    simp only [idx_nat hlt, Option.bind_some]
    split
    · exact .inr ⟨.inr true, rfl, rfl⟩
    · have hw : IntKind.i64.wrap ((i : Int) + 1) = ((i + 1 : Nat) : Int) := by rw [wrap64 (by omega) (by omega)]; rfl
      obtain ⟨r, h1, h2⟩ := Leaf_put hsd puts[i].f_Text puts[i].f_Value puts[i].f_Blind
      simp only [h1, Option.bind_some]
      have fin : ∀ r : TVault × Int × Int, PutP (l ++ m) r → ∀ c : Option ((Int × List TThing) ⊕ (List TThing ⊕ Bool)), c = (if (r.2.2 != 0) = true then
            if (r.2.1 != (-1)) = true then some (.inr (.inr false)) else if ((r.1.f_Things.length : Int) != 0) = true then some (.inr (.inr false)) else some (.inl (IntKind.i64.wrap ((i : Int) + 1), l ++ m))
          else if (r.2.1 != ((l ++ m).length : Int)) = true then some (.inr (.inr false)) else if ((r.1.f_Things.length : Int) != (IntKind.i64.wrap (r.2.1 + 1))) = true then some (.inr (.inr false)) else
            (vault_Sound r.1).bind fun r41 => if (!r41) = true then some (.inr (.inr false)) else some (.inl (IntKind.i64.wrap ((i : Int) + 1), r.1.f_Things))) →
          (∃ s', c = some (.inl s') ∧ (∃ (i : Nat) (m : List TThing), s' = ((i : Int), l ++ m) ∧ i ≤ puts.length ∧ m.length ≤ i ∧ soundP (l ++ m)) ∧ (puts.length : Int).toNat - s'.1.toNat < (puts.length : Int).toNat - (i : Int).toNat) ∨ (∃ r : List TThing ⊕ Bool, c = some (.inr r) ∧ (match r with | .inl now => soundP now ∧ ∃ m, now = l ++ m | .inr b => b = true)) := by
        intro r hr c hc
        left
        rcases hr with ⟨y, rfl, hy⟩ | ⟨e1, e2, e3⟩
        · obtain ⟨q, k1, k2⟩ := Sound_eq ⟨l ++ m ++ [y]⟩
          have hq : q = true := k2.2 hy
          subst hq
          have hw2 : IntKind.i64.wrap (((l ++ m).length : Int) + 1) = ((l ++ m).length : Int) + 1 := wrap64 (by omega) (by simp; omega)
          simp only [bne_self_eq_false, Bool.false_eq_true, if_false, k1, Option.bind_some, Bool.not_true] at hc
          rw [if_neg (by rw [hw2]; simp; omega)] at hc
          refine ⟨_, hc, ⟨i + 1, m ++ [y], by rw [hw, List.append_assoc], hlt, by simp; omega, by rwa [← List.append_assoc]⟩, by simp only [hw]; omega⟩
        · rw [if_pos (by simpa using e3), if_neg (by simp [e2]), if_neg (by simp [e1])] at hc
          exact ⟨_, hc, ⟨i + 1, m, by rw [hw], hlt, by omega, hsd⟩, by simp only [hw]; omega⟩
      split
      · obtain ⟨r', h3, h4⟩ := Pair_put hsd puts[i].f_Value puts[i].f_Blind
        simp only [h3, Option.bind_some]
        exact fin r' h4 _ rfl
      · exact fin r h2 _ rfl
  · rw [if_neg (by simp; omega)]
    exact .inr ⟨.inl (l ++ m), rfl, hsd, m, rfl⟩

theorem VaultKeeps_eq {v : TVault} (puts : List TPut) (i : Int) (t : ByteArray) (a b : Int) (hv : v.f_Things.length ≤ maxLen) : l35_VaultKeeps v puts i t a b = some true := by
  obtain ⟨l⟩ := v
  obtain ⟨few, h1, h2⟩ := Few_eq l 40 hv
  obtain ⟨sd, h3, h4⟩ := Sound_eq ⟨l⟩
  unfold l35_VaultKeeps
  simp only [sane_eq, h1, h3, Option.bind_some]
  cases few with
  | false => rfl
  | true =>
    have hl := h2 rfl
    simp only [Bool.not_true, Bool.false_eq_true, if_false]
    split
    · rfl
    · rename_i hp
      split
      · rfl
      · cases sd with
        | false => rfl
        | true =>
          have hs : soundP l := h4.1 rfl
          simp only [Bool.not_true, Bool.false_eq_true, if_false]
          obtain ⟨r, h5, h6⟩ := keeps_loop (puts := puts) hs (by omega) (by simp at hp; omega)
          rw [h5]
          cases r with
          | inr q => subst h6; rfl
          | inl now =>
            obtain ⟨hn, m, rfl⟩ := h6
            simp only [Option.bind_some]
            split
            · rfl
            · split
              · rfl
              · rename_i hi0 hi1
                have hi : 0 ≤ i ∧ i < l.length := by
                  simp at hi0 hi1; omega
                obtain ⟨q1, k1, k2⟩ := Opens_eq hs i t a b
                obtain ⟨q2, k3, k4⟩ := Opens_eq hn i t a b
                have hx := idx_get (l := l) hi.1 hi.2
                generalize l[i.toNat]'(by omega) = x at hx
                have hx2 : P.idx (l ++ m) i = some x := by
                  have := (show P.idx l i = some x from hx)
                  unfold P.idx at this ⊢
                  rw [if_pos hi] at this
                  rw [if_pos ⟨hi.1, by simp; omega⟩, List.getElem?_append_left (by omega)]
                  exact this
                obtain ⟨q3, k5, k6⟩ := Opens_eq hn i x.f_Text x.f_Value x.f_Blind
                have hq3 : q3 = true := k6.2 ⟨x, hx2, rfl, rfl, rfl⟩
                have hq1 : q1 = true ↔ x.f_Text = t ∧ x.f_Value = a ∧ x.f_Blind = b := by
                  rw [k2]
                  constructor
                  · rintro ⟨y, e1, e2⟩; rw [hx] at e1; cases e1; exact e2
                  · intro e; exact ⟨x, hx, e⟩
                have hq2 : q2 = true ↔ x.f_Text = t ∧ x.f_Value = a ∧ x.f_Blind = b := by
                  rw [k4]
                  constructor
                  · rintro ⟨y, e1, e2⟩; rw [hx2] at e1; cases e1; exact e2
                  · intro e; exact ⟨x, hx2, e⟩
                have h12 : q2 = q1 := by
                  cases q1 <;> cases q2 <;> simp_all
                subst h12 hq3
                simp only [hx, k1, k3, k5, Option.bind_some, str_beq, if_true, beq_self_eq_true]
                by_cases g1 : x.f_Text = t <;> by_cases g2 : x.f_Value = a <;> by_cases g3 : x.f_Blind = b <;> cases q2 <;> simp_all
end Go.Proofs.Ytcdckmfiknhiiaa.P
