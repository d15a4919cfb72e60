/- The program's whole numbers: digits, trimmed; sums, differences. -/
import Derived.Test.YtoclpeomlofcjaaDp
import Derived.Test.YtoclpeomlofcjaaFa
namespace Go.Proofs.Ytoclpeomlofcjaa.P
open Go.RowKit
set_option linter.unusedSimpArgs false
set_option linter.unusedVariables false

/-- A list that fits in memory. -/
abbrev Fit (l : List Int) : Prop := l.length ≤ 17592186044416

theorem wl {l : List Int} (h : Fit l) (k : Int) (hk : -17592186044416 ≤ k ∧ k ≤ 17592186044416) : IntKind.i64.wrap ((l.length : Int) + k) = (l.length : Int) + k := wrap64 (by unfold Fit at h; omega) (by unfold Fit at h; omega)
theorem w64 {x : Int} (h : -4611686018427387904 ≤ x ∧ x ≤ 4611686018427387904) : IntKind.i64.wrap x = x := wrap64 (by omega) (by omega)

theorem bind_bind' {α β γ : Type} (o : Option α) (f : α → Option β) (g : β → Option γ) : (o.bind f).bind g = o.bind fun x => (f x).bind g := by cases o <;> rfl

theorem obind_id {α : Type} (o : Option α) : (o.bind fun r => some r) = o := by cases o <;> rfl

/-! Zeros at the end. -/
theorem trim_loop {l : List Int} (hl : Fit l) : ∃ r, loopL (big_trim_L1 l) (l.length : Int) = some r ∧ ∃ k : Nat, r = k ∧ k ≤ l.length ∧ (∀ j (hj : j < l.length), k ≤ j → l[j] = 0) ∧ (∀ h : 0 < k, ∀ hk : k - 1 < l.length, l[k - 1] ≠ 0) := by
  unfold Fit at hl
  refine loop_nat (I := fun i s => s = ((l.length - i : Nat) : Int) ∧ (∀ j (hj : j < l.length), l.length - i ≤ j → l[j] = 0)) l.length _ ⟨rfl, fun j hj h => by omega⟩ (lenFU hl) ?_
  rintro i s hi ⟨rfl, hz⟩
  generalize hk : l.length - i = k at *
  simp only [big_trim_L1]
  by_cases h0 : 0 < k
  · have hk1 : k - 1 < l.length := by omega
    have e : IntKind.i64.wrap ((k : Int) - 1) = ((k - 1 : Nat) : Int) := by rw [w64 (by omega)]; omega
    rw [if_pos (by simp; omega), e, idx_nat hk1, Option.bind_some]
    by_cases hx : l[k - 1] = 0
    · left
      refine ⟨by omega, _, by rw [if_pos (by simpa using hx)], by rw [show l.length - (i + 1) = k - 1 by omega], fun j hj h => ?_⟩
      by_cases hj' : j = k - 1
      · subst hj'; exact hx
      · exact hz j hj (by omega)
    · right
      exact ⟨_, by rw [if_neg (by simpa using hx)], k, rfl, by omega, hz, fun _ _ => hx⟩
  · right
    exact ⟨_, by rw [if_neg (by simp; omega)], k, rfl, by omega, hz, fun h => absurd h h0⟩

theorem dv_zeros {l : List Int} {k : Nat} (hz : ∀ j (hj : j < l.length), k ≤ j → l[j] = 0) : dv (l.drop k) = 0 := by
  have : l.drop k = List.replicate (l.drop k).length 0 := by
    refine List.eq_replicate_of_mem fun x hx => ?_
    obtain ⟨i, hi, rfl⟩ := List.mem_iff_getElem.1 hx
    rw [List.getElem_drop]
    exact hz _ _ (by omega)
  rw [this, dv_rep]

theorem trim_eq {l : List Int} (hl : Fit l) (hd : Dg l) : big_trim l = some (digs (dv l).toNat) := by
  obtain ⟨r, h1, k, rfl, hk, hz, hlast⟩ := trim_loop hl
  unfold big_trim
  rw [h1, Option.bind_some, slc_nat hk, Option.bind_some]
  congr 1
  have h2 : dv l = dv (l.take k) := by rw [dv_split l hk, dv_zeros hz]; omega
  rw [h2]
  refine (digs_dv (hd.take k) fun hne => ?_).symm
  have hk0 : 0 < k := by
    rcases Nat.eq_zero_or_pos k with h | h
    · subst h; simp at hne
    · exact h
  have := hlast hk0 (by omega)
  rw [List.getLast_eq_getElem]
  simp only [List.length_take, List.getElem_take, Nat.min_eq_left hk]
  exact this

/-- Digits that stand for a number. -/
theorem trim_of {l : List Int} {n : Nat} (hl : Fit l) (hd : Dg l) (hn : dv l = n) : big_trim l = some (digs n) := by
  rw [trim_eq hl hd, hn]; rfl

/-! Sums. -/
def gd (l : List Int) (i : Nat) : Int := if h : i < l.length then l[i] else 0
theorem gd_dg {l : List Int} (h : Dg l) (i : Nat) : 0 ≤ gd l i ∧ gd l i < 1048576 := by
  unfold gd
  split
  · exact h.get _
  · omega
theorem gd_take {l : List Int} (i : Nat) : dv (l.take (i + 1)) = dv (l.take i) + pw i * gd l i := by
  unfold gd
  split
  · exact dv_take_succ _
  · rw [List.take_of_length_le (by omega), List.take_of_length_le (by omega)]; simp
theorem gd_all {l : List Int} {i : Nat} (h : l.length ≤ i) : dv (l.take i) = dv l := by rw [List.take_of_length_le h]

theorem add_loop {a b : List Int} (ha : Dg a) (hb : Dg b) (hf : a.length < 17592186044416) (hab : b.length ≤ a.length) :
    ∃ r, loopL (big_add_L2 a b) (0, 0, List.replicate (a.length + 1) 0) = some r ∧ r.2.length = a.length + 1 ∧ Dg r.2 ∧ (∀ j (hj : j < r.2.length), a.length ≤ j → r.2[j] = 0) ∧ (0 ≤ r.1 ∧ r.1 ≤ 1) ∧ dv r.2 + pw a.length * r.1 = dv a + dv b := by
  refine loop_nat (I := fun i s => s.2.1 = (i : Int) ∧ s.2.2.length = a.length + 1 ∧ Dg s.2.2 ∧ (∀ j (hj : j < s.2.2.length), i ≤ j → s.2.2[j] = 0) ∧ (0 ≤ s.1 ∧ s.1 ≤ 1) ∧ dv s.2.2 + pw i * s.1 = dv (a.take i) + dv (b.take i))
    a.length _ ⟨rfl, by simp, Dg.rep _, fun j hj _ => by simp, by simp, by simp [dv_rep, dv]⟩ (lenFU (by omega)) ?_
  rintro i ⟨c, s, l⟩ hi ⟨h1, hl, hd, hz, hc, he⟩
  simp only at h1 hl hd hz hc he
  subst h1
  simp only [big_add_L2]
  by_cases hlt : i < a.length
  · left
    rw [if_pos (by simpa using hlt), idx_nat hlt, Option.bind_some]
    have ga := ha.get hlt
    have gb := gd_dg hb i
    have hT : (if decide ((i : Int) < (b.length : Int)) = true then (P.idx b (i : Int)).bind fun x22 => some (IntKind.i64.wrap ((IntKind.i64.wrap (c + a[i])) + x22)) else some (IntKind.i64.wrap (c + a[i]))) = some (c + a[i] + gd b i) := by
      by_cases hib : i < b.length
      · rw [if_pos (by simpa using hib), idx_nat hib, Option.bind_some]
        have : gd b i = b[i] := by unfold gd; rw [dif_pos hib]
        rw [this] at gb ⊢
        rw [w64 (x := c + a[i]) (by omega), w64 (by omega)]
      · rw [if_neg (by simpa using hib)]
        have : gd b i = 0 := by unfold gd; rw [dif_neg hib]
        rw [this, w64 (by omega)]; simp
    rw [hT, Option.bind_some, idx_nat (by omega), Option.bind_some, shr20, Option.bind_some, and_mask (by omega) (by omega)]
    have hli : l[i] = 0 := hz i (by omega) (Nat.le_refl _)
    have e1 : IntKind.i64.wrap ((i : Int) + 1) = ((i + 1 : Nat) : Int) := by rw [w64 (by omega)]; omega
    refine ⟨hlt, _, rfl, e1, by simpa using hl, hd.set _ (by omega), fun j hj hij => ?_, by simp only; omega, ?_⟩
    · simp only [Int.toNat_natCast] at hj ⊢
      rw [List.getElem_set_ne (by omega)]
      exact hz j (by simpa using hj) (by omega)
    · simp only [Int.toNat_natCast]
      rw [dv_set (by omega), hli, gd_take, gd_take]
      have hga : gd a i = a[i] := by unfold gd; rw [dif_pos hlt]
      rw [hga]
      have hp := pw_div i (c + a[i] + gd b i)
      rw [Int.mul_add, Int.mul_add] at hp
      rw [Int.sub_zero]
      omega
  · right
    have hia : i = a.length := by omega
    subst hia
    refine ⟨_, by rw [if_neg (by simp)], hl, hd, fun j hj h => hz j hj h, hc, ?_⟩
    rw [he, gd_all (Nat.le_refl _), gd_all hab]

theorem add_eq {a b : List Int} (ha : Dg a) (hb : Dg b) (hfa : a.length < 17592186044416) (hfb : b.length < 17592186044416) : big_add a b = some (digs (dv a + dv b).toNat) := by
  have main : ∀ {a b : List Int}, Dg a → Dg b → a.length < 17592186044416 → b.length ≤ a.length →
      ((mkL 8 (IntKind.i64.wrap ((a.length : Int) + 1)) (IntKind.i64.wrap ((a.length : Int) + 1)) 0).bind fun x2 =>
        (loopL (big_add_L2 a b) (0, 0, x2)).bind fun q => match q with
        | (s6bx, l5bx) =>
          (P.idx l5bx (a.length : Int)).bind fun x23 =>
          (big_trim (l5bx.set ((a.length : Int)).toNat s6bx)).bind fun r26 =>
          some r26) = some (digs (dv a + dv b).toNat) := by
    intro a b ha hb hfa hab
    have e : IntKind.i64.wrap ((a.length : Int) + 1) = ((a.length + 1 : Nat) : Int) := by rw [w64 (by omega)]; omega
    rw [e, mk0 (by omega), Option.bind_some]
    obtain ⟨⟨c, l⟩, h1, h2, h3, h4, h5, h6⟩ := add_loop ha hb hfa hab
    rw [h1]
    simp only [Option.bind_some] at h2 h3 h4 h5 h6 ⊢
    have hlt : a.length < l.length := by omega
    rw [idx_nat hlt, Option.bind_some, Int.toNat_natCast, obind_id]
    have hv : dv (l.set a.length c) = dv a + dv b := by
      rw [dv_set hlt, h4 _ hlt (Nat.le_refl _), Int.sub_zero, h6]
    rw [trim_eq (by simp [Fit]; omega) (h3.set _ (by omega)), hv]
  unfold big_add
  by_cases h : a.length < b.length
  · rw [if_pos (by simpa using h), Option.bind_some, Int.add_comm]
    exact main hb ha hfb (by omega)
  · rw [if_neg (by simpa using h), Option.bind_some]
    exact main ha hb hfa (by omega)
end Go.Proofs.Ytoclpeomlofcjaa.P
