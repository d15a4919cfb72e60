/- Potentials of values of edits: the mathematics. -/
import Derived.Test.YtoclpeomlofcjaaGb
namespace Go.Proofs.Ytoclpeomlofcjaa.P
open Go.RowKit
set_option linter.unusedSimpArgs false
set_option linter.unusedVariables false

def sumN : Nat → (Nat → Rat) → Rat
  | 0, _ => 0
  | n + 1, f => sumN n f + f n
/-- How many of the first n bits are set. -/
def cnt : Nat → Nat → Nat
  | 0, _ => 0
  | n + 1, s => cnt n s + (if s.testBit n then 1 else 0)

theorem sumN_congr {n : Nat} {f g : Nat → Rat} (h : ∀ i, i < n → f i = g i) : sumN n f = sumN n g := by
  induction n with
  | zero => rfl
  | succ n ih => rw [sumN, sumN, ih (fun i hi => h i (by omega)), h n (by omega)]
theorem sumN_add (n : Nat) (f g : Nat → Rat) : sumN n (fun i => f i + g i) = sumN n f + sumN n g := by
  induction n with
  | zero => simp [sumN, Rat.zero_add]
  | succ n ih => simp only [sumN]; rw [ih]; grind
theorem sumN_sub (n : Nat) (f g : Nat → Rat) : sumN n (fun i => f i - g i) = sumN n f - sumN n g := by
  induction n with
  | zero => simp only [sumN]; grind
  | succ n ih => simp only [sumN]; rw [ih]; grind
theorem sumN_mul (n : Nat) (c : Rat) (f : Nat → Rat) : sumN n (fun i => c * f i) = c * sumN n f := by
  induction n with
  | zero => simp only [sumN]; grind
  | succ n ih => simp only [sumN]; rw [ih]; grind
theorem sumN_cnt (n s : Nat) (c : Rat) : sumN n (fun i => if s.testBit i then c else 0) = (cnt n s : Rat) * c := by
  induction n with
  | zero => simp only [sumN, cnt]; grind
  | succ n ih =>
    simp only [sumN, cnt]
    rw [ih]
    split
    · rw [Rat.natCast_add]; grind
    · rw [Nat.add_zero]; grind
theorem LF_sumN {n K : Nat} {x0 : Rat} {f : Nat → Rat} (h : ∀ i, i < n → LF (f i) ≤ K) : LF (x0 + sumN n f) ≤ LF x0 + n * (K + 1) := by
  induction n with
  | zero => simp only [sumN, Rat.add_zero]; omega
  | succ n ih =>
    have h1 := ih (fun i hi => h i (by omega))
    have h2 := LF_add (x0 + sumN n f) (f n)
    have h3 := h n (by omega)
    rw [sumN, ← Rat.add_assoc, Nat.succ_mul]
    omega
theorem LF_zero : LF 0 ≤ 1 := LF_int (n := 0) (by decide)

/-- The potential: of values V of sets of n edits, k steps deep. -/
def potF (V : Nat → Rat) (n : Nat) : Nat → Nat → Rat
  | 0, _ => 0
  | k + 1, s => if s = 0 then 0 else (V s - V 0 + sumN n (fun i => if s.testBit i then potF V n k (s - 2 ^ i) else 0)) / (cnt n s : Rat)
def pot (V : Nat → Rat) (n s : Nat) : Rat := potF V n 5 s

theorem bits1 : ∀ n, n < 6 → ∀ s, s < 2 ^ n → (s ≠ 0 → cnt n s ≠ 0) ∧ cnt n s ≤ 5 := by decide +kernel
theorem bits2 : ∀ n, n < 6 → ∀ s, s < 2 ^ n → ∀ i, i < n → s.testBit i = false ∨ (2 ^ i ≤ s ∧ cnt n (s - 2 ^ i) + 1 = cnt n s ∧ s - 2 ^ i < s) := by decide +kernel
theorem bits_fact (n : Nat) (hn : n ≤ 5) (s : Nat) (hs : s < 2 ^ n) : (s ≠ 0 → cnt n s ≠ 0) ∧ cnt n s ≤ 5 ∧ (∀ i, i < n → s.testBit i = true → 2 ^ i ≤ s ∧ cnt n (s - 2 ^ i) + 1 = cnt n s ∧ s - 2 ^ i < s) := by
  have h := bits1 n (by omega) s hs
  refine ⟨h.1, h.2, fun i hi hb => ?_⟩
  rcases bits2 n (by omega) s hs i hi with h | h
  · rw [hb] at h; cases h
  · exact h
theorem all_fact6 : ∀ n, n < 6 → cnt n (2 ^ n - 1) = n ∧ ∀ i, i < n → (2 ^ n - 1).testBit i = true := by decide +kernel
theorem all_fact (n : Nat) (hn : n ≤ 5) : cnt n (2 ^ n - 1) = n ∧ ∀ i, i < n → (2 ^ n - 1).testBit i = true := all_fact6 n (by omega)

section
variable {V : Nat → Rat} {n : Nat}
theorem potF_stable (hn : n ≤ 5) : ∀ (k s : Nat), s < 2 ^ n → cnt n s ≤ k → potF V n k s = potF V n (k + 1) s := by
  intro k
  induction k with
  | zero =>
    intro s hs hc
    have : s = 0 := by
      rcases Nat.eq_zero_or_pos s with h | h
      · exact h
      · exact absurd (by omega) ((bits_fact n hn s hs).1 (by omega))
    subst this
    simp [potF]
  | succ k ih =>
    intro s hs hc
    rw [potF, potF]
    by_cases h0 : s = 0
    · rw [if_pos h0, if_pos h0]
    · rw [if_neg h0, if_neg h0]
      congr 2
      refine sumN_congr fun i hi => ?_
      by_cases hb : s.testBit i = true
      · rw [if_pos hb, if_pos hb]
        have := (bits_fact n hn s hs).2.2 i hi hb
        exact ih _ (by omega) (by omega)
      · rw [if_neg hb, if_neg hb]
theorem pot_zero : pot V n 0 = 0 := by unfold pot potF; rw [if_pos rfl]
theorem pot_rec (hn : n ≤ 5) {s : Nat} (hs : s < 2 ^ n) (h0 : s ≠ 0) : pot V n s = (V s - V 0 + sumN n (fun i => if s.testBit i then pot V n (s - 2 ^ i) else 0)) / (cnt n s : Rat) := by
  have hb := bits_fact n hn s hs
  unfold pot
  rw [potF, if_neg h0]
  congr 2
  refine sumN_congr fun i hi => ?_
  by_cases hbt : s.testBit i = true
  · rw [if_pos hbt, if_pos hbt]
    have := hb.2.2 i hi hbt
    exact potF_stable hn 4 _ (by omega) (by omega)
  · rw [if_neg hbt, if_neg hbt]
theorem cnt_ne (hn : n ≤ 5) {s : Nat} (hs : s < 2 ^ n) (h0 : s ≠ 0) : (cnt n s : Rat) ≠ 0 := by
  have := (bits_fact n hn s hs).1 h0
  intro h
  have h2 : ((cnt n s : Nat) : Rat) = ((0 : Nat) : Rat) := h
  rw [Rat.natCast_inj] at h2
  exact this h2
/-- What the potential is. -/
theorem pot_eq (hn : n ≤ 5) {s : Nat} (hs : s < 2 ^ n) (h0 : s ≠ 0) : sumN n (fun i => if s.testBit i then pot V n s - pot V n (s - 2 ^ i) else 0) = V s - V 0 := by
  have h1 := pot_rec (V := V) hn hs h0
  have h2 := cnt_ne hn hs h0
  have e : sumN n (fun i => if s.testBit i then pot V n s - pot V n (s - 2 ^ i) else 0) = sumN n (fun i => if s.testBit i then pot V n s else 0) - sumN n (fun i => if s.testBit i then pot V n (s - 2 ^ i) else 0) := by
    rw [← sumN_sub]
    refine sumN_congr fun i hi => ?_
    split
    · rfl
    · grind
  rw [e, sumN_cnt]
  grind
/-- And nothing else is. -/
theorem pot_unique (hn : n ≤ 5) {p : Nat → Rat} (hp0 : p 0 = 0) (hp : ∀ s, s < 2 ^ n → s ≠ 0 → sumN n (fun i => if s.testBit i then p s - p (s - 2 ^ i) else 0) = V s - V 0) : ∀ s, s < 2 ^ n → p s = pot V n s := by
  intro s
  induction s using Nat.strongRecOn with
  | _ s ih =>
    intro hs
    by_cases h0 : s = 0
    · subst h0; rw [hp0, pot_zero]
    · have h1 := hp s hs h0
      have h2 := pot_eq (V := V) hn hs h0
      have h3 := cnt_ne hn hs h0
      have e : ∀ q : Nat → Rat, sumN n (fun i => if s.testBit i then q s - q (s - 2 ^ i) else 0) = (cnt n s : Rat) * q s - sumN n (fun i => if s.testBit i then q (s - 2 ^ i) else 0) := by
        intro q
        rw [← sumN_cnt, ← sumN_sub]
        refine sumN_congr fun i hi => ?_
        split
        · rfl
        · grind
      rw [e p] at h1
      rw [e (pot V n)] at h2
      have h4 : sumN n (fun i => if s.testBit i then p (s - 2 ^ i) else 0) = sumN n (fun i => if s.testBit i then pot V n (s - 2 ^ i) else 0) := by
        refine sumN_congr fun i hi => ?_
        by_cases hb : s.testBit i = true
        · rw [if_pos hb, if_pos hb]
          have := (bits_fact n hn s hs).2.2 i hi hb
          exact ih _ this.2.2 (by omega)
        · rw [if_neg hb, if_neg hb]
      have h5 : (cnt n s : Rat) * p s = (cnt n s : Rat) * pot V n s := by grind
      grind
/-- The shares. -/
def shr (V : Nat → Rat) (n i : Nat) : Rat := pot V n (2 ^ n - 1) - pot V n (2 ^ n - 1 - 2 ^ i)
theorem shr_sum (hn : n ≤ 5) : sumN n (shr V n) = V (2 ^ n - 1) - V 0 := by
  by_cases h0 : 2 ^ n - 1 = 0
  · have : n = 0 := by
      rcases Nat.eq_zero_or_pos n with h | h
      · exact h
      · have := Nat.pow_le_pow_right (show 0 < 2 by decide) h; omega
    subst this
    simp only [sumN]
    grind
  · rw [← pot_eq hn (s := 2 ^ n - 1) (by have := Nat.pow_pos (show 0 < 2 by decide) (n := n); omega) h0]
    refine sumN_congr fun i hi => ?_
    rw [if_pos ((all_fact n hn).2 i hi)]
    rfl
theorem LF_cnt (hn : n ≤ 5) {s : Nat} (hs : s < 2 ^ n) : LF (cnt n s : Rat) ≤ 1 := by
  have := (bits_fact n hn s hs).2.1
  have h := LF_int (n := (cnt n s : Int)) (by omega)
  rwa [Rat.intCast_natCast] at h
theorem LF_potF (hn : n ≤ 5) (hV : ∀ s, s < 2 ^ n → LF (V s) ≤ 20) : ∀ (k s : Nat), s < 2 ^ n → LF (potF V n k s) ≤ 100 * 6 ^ k := by
  have hp := Nat.pow_pos (show 0 < 2 by decide) (n := n)
  intro k
  induction k with
  | zero => intro s hs; rw [potF]; have := LF_zero; omega
  | succ k ih =>
    intro s hs
    rw [potF]
    by_cases h0 : s = 0
    · rw [if_pos h0]
      have h1 := LF_zero
      have := Nat.pow_pos (show 0 < 6 by decide) (n := k + 1)
      omega
    · rw [if_neg h0]
      have h1 := LF_sumN (n := n) (K := 100 * 6 ^ k) (x0 := V s - V 0) (f := fun i => if s.testBit i then potF V n k (s - 2 ^ i) else 0) (by
        intro i hi
        split
        · exact ih _ (Nat.lt_of_le_of_lt (Nat.sub_le _ _) hs)
        · have h2 := LF_zero
          have := Nat.pow_pos (show 0 < 6 by decide) (n := k)
          omega)
      have h2 := LF_div (a := V s - V 0 + sumN n (fun i => if s.testBit i then potF V n k (s - 2 ^ i) else 0)) (cnt_ne hn hs h0)
      have h3 := LF_cnt hn hs
      have h4 := LF_sub (V s) (V 0)
      have h5 := hV s hs
      have h6 := hV 0 hp
      have h7 : n * (100 * 6 ^ k + 1) ≤ 5 * (100 * 6 ^ k + 1) := Nat.mul_le_mul_right _ hn
      have h8 := Nat.pow_pos (show 0 < 6 by decide) (n := k)
      rw [Nat.pow_succ]
      omega
theorem LF_pot (hn : n ≤ 5) (hV : ∀ s, s < 2 ^ n → LF (V s) ≤ 20) {s : Nat} (hs : s < 2 ^ n) : LF (pot V n s) ≤ 777600 := LF_potF hn hV 5 s hs
end
end Go.Proofs.Ytoclpeomlofcjaa.P
