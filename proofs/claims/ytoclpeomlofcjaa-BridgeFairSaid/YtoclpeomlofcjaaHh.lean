/- The law of fairness. -/
import Derived.Test.YtoclpeomlofcjaaHx
namespace Go.Proofs.Ytoclpeomlofcjaa.P
open Go.RowKit
set_option linter.unusedSimpArgs false
set_option linter.unusedVariables false

theorem slim_eq {x : Int} (h : Ln x ≤ Lmax) : frac_slim (mkB x) = some (mkB x) := by
  unfold frac_slim
  rw [Neg_eq h, Option.bind_some, Neg_eq (by rw [Ln_neg]; exact h), Option.bind_some, Int.neg_neg]
theorem either_eq {a b : Rat} {d : Int} (ha : LF a ≤ 10000000) (hb : LF b ≤ 10000000) (hd : d = 1 ∨ d = -1) : frac_either (mkF a) (mkF b) d = some (mkF (if cmpQ a b * d < 0 then b else a), 0) := by
  have a1 := LF_num a
  have a2 := LF_den a
  have b1 := LF_num b
  have b2 := LF_den b
  have hw : IntKind.i64.wrap (cmpQ a b * d) = cmpQ a b * d := by
    have : cmpQ a b = 1 ∨ cmpQ a b = -1 ∨ cmpQ a b = 0 := by
      unfold cmpQ
      split
      · simp
      · split <;> simp
    rcases this with h | h | h <;> rcases hd with h' | h' <;> rw [h, h'] <;> decide
  unfold frac_either
  rw [Right_mk (by unfold Lmax; omega), Option.bind_some, if_neg (by simp), Right_mk (by unfold Lmax; omega), Option.bind_some, Option.bind_some, if_neg (by simp), Compare_f (by unfold Lmax; omega), Option.bind_some, hw]
  by_cases h : cmpQ a b * d < 0
  · rw [if_pos (decide_eq_true h), if_pos h]
    show (frac_slim (mkB b.num)).bind _ = _
    rw [slim_eq (by unfold Lmax; omega), Option.bind_some]
    show (frac_slim (mkB b.den)).bind _ = _
    rw [slim_eq (by unfold Lmax; omega), Option.bind_some]
    rfl
  · rw [if_neg (by simpa using h), if_neg h]
    show (frac_slim (mkB a.num)).bind _ = _
    rw [slim_eq (by unfold Lmax; omega), Option.bind_some]
    show (frac_slim (mkB a.den)).bind _ = _
    rw [slim_eq (by unfold Lmax; omega), Option.bind_some]
    rfl
theorem Min_f {a b : Rat} (ha : LF a ≤ 10000000) (hb : LF b ≤ 10000000) : ∃ c, frac_Min (mkF a) (mkF b) = some (mkF c, 0) ∧ LF c ≤ max (LF a) (LF b) ∧ c ≤ a ∧ c ≤ b := by
  unfold frac_Min
  rw [either_eq ha hb (.inr rfl), Option.bind_some]
  refine ⟨_, rfl, ?_⟩
  unfold cmpQ
  by_cases h1 : a < b
  · rw [if_pos h1, if_neg (by decide)]; exact ⟨by omega, by grind, by grind⟩
  · rw [if_neg h1]
    by_cases h2 : b < a
    · rw [if_pos h2, if_pos (by decide)]; exact ⟨by omega, by grind, by grind⟩
    · rw [if_neg h2, if_neg (by decide)]; exact ⟨by omega, by grind, by grind⟩
theorem Max_f {a b : Rat} (ha : LF a ≤ 10000000) (hb : LF b ≤ 10000000) : ∃ c, frac_Max (mkF a) (mkF b) = some (mkF c, 0) ∧ LF c ≤ max (LF a) (LF b) ∧ a ≤ c ∧ b ≤ c := by
  unfold frac_Max
  rw [either_eq ha hb (.inl rfl), Option.bind_some]
  refine ⟨_, rfl, ?_⟩
  unfold cmpQ
  by_cases h1 : a < b
  · rw [if_pos h1, if_pos (by decide)]; exact ⟨by omega, by grind, by grind⟩
  · rw [if_neg h1]
    by_cases h2 : b < a
    · rw [if_pos h2, if_neg (by decide)]; exact ⟨by omega, by grind, by grind⟩
    · rw [if_neg h2, if_neg (by decide)]; exact ⟨by omega, by grind, by grind⟩

theorem sumN_le {n : Nat} {f g : Nat → Rat} (h : ∀ i, i < n → f i ≤ g i) : sumN n f ≤ sumN n g := by
  induction n with
  | zero => simp only [sumN]; grind
  | succ n ih =>
    simp only [sumN]
    have h1 := ih (fun i hi => h i (by omega))
    have h2 := h n (by omega)
    grind
theorem bits3_all : ((List.range 6).all fun n => (List.range (2 ^ n)).all fun s => (List.range n).all fun a => !s.testBit a || ((List.range n).all fun i => i == a || ((s - 2 ^ a).testBit i == s.testBit i && (!s.testBit i || ((s - 2 ^ i).testBit a && s - 2 ^ i - 2 ^ a == s - 2 ^ a - 2 ^ i)))) && !(s - 2 ^ a).testBit a && s - 2 ^ a + 2 ^ a == s) = true := by decide +kernel
theorem bits3 {n s a : Nat} (hn : n ≤ 5) (hs : s < 2 ^ n) (ha : a < n) (hb : s.testBit a = true) : (∀ i, i < n → i = a ∨ ((s - 2 ^ a).testBit i = s.testBit i ∧ (s.testBit i = false ∨ ((s - 2 ^ i).testBit a = true ∧ s - 2 ^ i - 2 ^ a = s - 2 ^ a - 2 ^ i)))) ∧ (s - 2 ^ a).testBit a = false ∧ s - 2 ^ a + 2 ^ a = s := by
  have h := bits3_all
  simp only [List.all_eq_true, List.mem_range] at h
  have h := h n (by omega) s hs a ha
  rw [hb] at h
  simp only [Bool.and_eq_true, List.all_eq_true, List.mem_range, beq_iff_eq, Bool.or_eq_true, Bool.not_eq_true', Bool.true_eq_false, false_or] at h
  exact ⟨h.1.1, h.1.2, h.2⟩

section
variable {V : Nat → Rat} {n : Nat}
/-- The share of one: a mean of what it adds. -/
theorem mean_eq (hn : n ≤ 5) {s a : Nat} (hs : s < 2 ^ n) (ha : a < n) (hb : s.testBit a = true) :
    (cnt n s : Rat) * (pot V n s - pot V n (s - 2 ^ a)) = sumN n (fun i => if s.testBit i then (if i = a then V s - V (s - 2 ^ a) else pot V n (s - 2 ^ i) - pot V n (s - 2 ^ i - 2 ^ a)) else 0) := by
  have hb3 := bits3 hn hs ha hb
  have h0 : s ≠ 0 := fun h => by subst h; simp at hb
  have hs' : s - 2 ^ a < 2 ^ n := Nat.lt_of_le_of_lt (Nat.sub_le _ _) hs
  have h1 := pot_eq (V := V) hn hs h0
  have h2 : sumN n (fun i => if (s - 2 ^ a).testBit i then pot V n (s - 2 ^ a) - pot V n (s - 2 ^ a - 2 ^ i) else 0) = V (s - 2 ^ a) - V 0 := by
    by_cases hz : s - 2 ^ a = 0
    · rw [hz]
      rw [sumN_congr (g := fun _ => 0 * 0) (fun i _ => by simp), sumN_mul]
      grind
    · exact pot_eq hn hs' hz
  rw [← sumN_cnt]
  have h3 : sumN n (fun i => if i = a then V s - V (s - 2 ^ a) else 0) = V s - V (s - 2 ^ a) := by
    rw [sumN_split _ ha, if_pos rfl, sumN_congr (g := fun _ => 0 * 0) (fun i _ => by by_cases h : i = a <;> simp [h] <;> grind), sumN_mul]
    grind
  have h4 : sumN n (fun i => if s.testBit i then pot V n s - pot V n (s - 2 ^ a) else 0) = sumN n (fun i => (if s.testBit i then pot V n s - pot V n (s - 2 ^ i) else 0) - (if (s - 2 ^ a).testBit i then pot V n (s - 2 ^ a) - pot V n (s - 2 ^ a - 2 ^ i) else 0) + ((if s.testBit i then (if i = a then V s - V (s - 2 ^ a) else pot V n (s - 2 ^ i) - pot V n (s - 2 ^ i - 2 ^ a)) else 0) - (if i = a then V s - V (s - 2 ^ a) else 0))) := by
    refine sumN_congr fun i hi => ?_
    by_cases hia : i = a
    · subst hia
      rw [hb3.2.1, hb]
      simp
      grind
    · have h := (hb3.1 i hi).resolve_left hia
      rw [h.1, if_neg hia, if_neg hia]
      by_cases hbi : s.testBit i = true
      · have h' := (h.2.resolve_left (by rw [hbi]; decide)).2
        rw [if_pos hbi, if_pos hbi, if_pos hbi, if_pos hbi, h']
        grind
      · rw [if_neg hbi, if_neg hbi, if_neg hbi, if_neg hbi]
        grind
  rw [h4, sumN_add, sumN_sub, sumN_sub, h1, h2, h3]
  grind
theorem pot_bounds (hn : n ≤ 5) {a : Nat} (ha : a < n) {lo hi : Rat} (hd : ∀ s, s < 2 ^ n → s.testBit a = false → s + 2 ^ a < 2 ^ n → lo ≤ V (s + 2 ^ a) - V s ∧ V (s + 2 ^ a) - V s ≤ hi) :
    ∀ s, s < 2 ^ n → s.testBit a = true → lo ≤ pot V n s - pot V n (s - 2 ^ a) ∧ pot V n s - pot V n (s - 2 ^ a) ≤ hi := by
  intro s
  induction s using Nat.strongRecOn with
  | _ s ih =>
    intro hs hb
    have hb3 := bits3 hn hs ha hb
    have h0 : s ≠ 0 := fun h => by subst h; simp at hb
    have hm := mean_eq (V := V) hn hs ha hb
    have hds := hd (s - 2 ^ a) (Nat.lt_of_le_of_lt (Nat.sub_le _ _) hs) hb3.2.1 (by rw [hb3.2.2]; exact hs)
    rw [hb3.2.2] at hds
    have hF : ∀ i, i < n → s.testBit i = true → lo ≤ (if i = a then V s - V (s - 2 ^ a) else pot V n (s - 2 ^ i) - pot V n (s - 2 ^ i - 2 ^ a)) ∧ (if i = a then V s - V (s - 2 ^ a) else pot V n (s - 2 ^ i) - pot V n (s - 2 ^ i - 2 ^ a)) ≤ hi := fun i hi hbi => by
      by_cases hia : i = a
      · rw [if_pos hia]; exact hds
      · rw [if_neg hia]
        have h := ((hb3.1 i hi).resolve_left hia).2.resolve_left (by rw [hbi]; decide)
        have hlt := ((bits_fact n hn s hs).2.2 i hi hbi).2.2
        exact ih _ hlt (Nat.lt_trans hlt hs) h.1
    have h1 : sumN n (fun i => if s.testBit i then lo else 0) ≤ sumN n (fun i => if s.testBit i then (if i = a then V s - V (s - 2 ^ a) else pot V n (s - 2 ^ i) - pot V n (s - 2 ^ i - 2 ^ a)) else 0) := sumN_le fun i hi => by
      by_cases hbi : s.testBit i = true
      · rw [if_pos hbi, if_pos hbi]; exact (hF i hi hbi).1
      · rw [if_neg hbi, if_neg hbi]; grind
    have h2 : sumN n (fun i => if s.testBit i then (if i = a then V s - V (s - 2 ^ a) else pot V n (s - 2 ^ i) - pot V n (s - 2 ^ i - 2 ^ a)) else 0) ≤ sumN n (fun i => if s.testBit i then hi else 0) := sumN_le fun i hi => by
      by_cases hbi : s.testBit i = true
      · rw [if_pos hbi, if_pos hbi]; exact (hF i hi hbi).2
      · rw [if_neg hbi, if_neg hbi]; grind
    rw [sumN_cnt, ← hm] at h1
    rw [sumN_cnt, ← hm] at h2
    have hc : (0 : Rat) < (cnt n s : Rat) := by
      have := (bits_fact n hn s hs).1 h0
      have : ((0 : Nat) : Rat) < (cnt n s : Rat) := Rat.natCast_lt_natCast.2 (by omega)
      exact this
    exact ⟨Rat.le_of_mul_le_mul_left h1 hc, Rat.le_of_mul_le_mul_left h2 hc⟩
theorem shr_bounds (hn : n ≤ 5) {a : Nat} (ha : a < n) {lo hi : Rat} (hd : ∀ s, s < 2 ^ n → s.testBit a = false → s + 2 ^ a < 2 ^ n → lo ≤ V (s + 2 ^ a) - V s ∧ V (s + 2 ^ a) - V s ≤ hi) : lo ≤ shr V n a ∧ shr V n a ≤ hi := by
  have h32 := pow32 hn
  exact pot_bounds hn ha hd _ (by omega) ((all_fact n hn).2 a ha)
end
end Go.Proofs.Ytoclpeomlofcjaa.P
