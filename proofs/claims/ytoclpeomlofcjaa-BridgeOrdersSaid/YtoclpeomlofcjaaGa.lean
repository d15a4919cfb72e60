/- The reference's whole numbers. -/
import Derived.Test.YtoclpeomlofcjaaFh
namespace Go.Proofs.Ytoclpeomlofcjaa.P
open Go.RowKit
set_option linter.unusedSimpArgs false
set_option linter.unusedVariables false

theorem trim4 {l : List Int} (hl : Fit l) (hd : Dg l) : r04_trim l = some (digs (dv l).toNat) := by
  have h := trim_eq hl hd
  obtain ⟨r, h1, k, rfl, hk, _⟩ := trim_loop hl
  unfold big_trim at h
  unfold r04_trim
  have e : r04_trim_L1 l = big_trim_L1 l := rfl
  rw [h1, Option.bind_some, slc_nat hk, Option.bind_some] at h
  rw [e, h1, Option.bind_some, slc_nat hk, Option.bind_some, app8 (by unfold Fit at hl; simp; omega), Option.bind_some]
  exact h
theorem trim4_of {l : List Int} {n : Nat} (hl : Fit l) (hd : Dg l) (hn : dv l = n) : r04_trim l = some (digs n) := by
  rw [trim4 hl hd, hn]; rfl
theorem made_of {s : Int} {l : List Int} (x : Int) (hf : Fit l) (hd : Dg l) (hv : dv l = x.natAbs) (hs : x ≠ 0 → s = x.sign) : r04_made s l = some (mkB x) := by
  have h := signed_of x hf hd hv hs
  unfold big_signed at h
  rw [trim_eq hf hd] at h
  unfold r04_made
  rw [trim4 hf hd]
  exact h
theorem madeDigits {x : Int} {s : Int} {n : Nat} (hn : n = x.natAbs) (hs : x ≠ 0 → s = x.sign) (hL : n ≠ 0 → (digs n).length ≤ 17592186044416) : r04_made s (digs n) = some (mkB x) := by
  subst hn
  refine made_of x ?_ (dg_digs _) (dv_digs _) hs
  unfold Fit
  by_cases h : x.natAbs = 0
  · rw [h, digs_zero]; simp
  · exact hL h

theorem right4_loop {s : Int} {l : List Int} (hf : Fit l) : ∃ r, loopL (r04_Right_L1 ⟨s, l⟩) 0 = some r ∧ (match r with | .inl _ => Dg l | .inr x => x = false ∧ ¬ Dg l) := by
  refine loop_nat (I := fun i s => s = (i : Int) ∧ Dg (l.take i)) l.length _ ⟨rfl, by simpa using Dg.nil⟩ (lenFU hf) ?_
  unfold Fit at hf
  rintro i s hi ⟨rfl, hd⟩
  simp only [r04_Right_L1]
  by_cases hlt : i < l.length
  · rw [if_pos (by simpa using hlt), idx_nat hlt, Option.bind_some]
    by_cases h1 : l[i] < 0
    · right
      exact ⟨.inr false, by rw [if_pos (by simpa using h1)], rfl, fun hh => by have := hh.get hlt; omega⟩
    · by_cases h2 : l[i] ≥ 1048576
      · right
        exact ⟨.inr false, by rw [if_neg (by simpa using h1), if_pos (by simpa using h2)], rfl, fun hh => by have := hh.get hlt; omega⟩
      · left
        refine ⟨hlt, _, by rw [if_neg (by simpa using h1), if_neg (by simpa using h2)], by rw [w64 (by omega)]; omega, ?_⟩
        have e : l.take (i + 1) = l.take i ++ [l[i]] := by rw [List.take_add_one]; simp [hlt]
        rw [e]
        exact hd.append (Dg.mk (by omega) Dg.nil)
  · right
    have : i = l.length := by omega
    subst this
    rw [List.take_length] at hd
    exact ⟨.inl (), by rw [if_neg (by simp)], hd⟩
theorem right4 {b : TBig} (hf : Fit b.f_Digits) : r04_Right b = some (okB b) := by
  obtain ⟨s, l⟩ := b
  simp only [Fit] at hf
  obtain ⟨r, h1, h2⟩ := right4_loop (s := s) (l := l) hf
  unfold r04_Right okB
  rw [h1, Option.bind_some]
  cases r with
  | inr x =>
    obtain ⟨rfl, h⟩ := h2
    simp [h]
  | inl u =>
    simp only at h2 ⊢
    simp only [h2, decide_true, Bool.true_and]
    by_cases h0 : l = []
    · subst h0
      by_cases hs0 : s = 0
      · subst hs0; simp
      · have : (s == 0) = false := by simpa using hs0
        simp only [List.length_nil, List.getLast?_nil, this]
        split <;> (try split) <;> simp
    · have hp : 0 < l.length := List.length_pos_iff.2 h0
      have e : IntKind.i64.wrap ((l.length : Int) - 1) = ((l.length - 1 : Nat) : Int) := by rw [w64 (by omega)]; omega
      have hl0 : ((l.length : Int) == 0) = false := by simpa using h0
      rw [e, idx_nat (by omega), List.getLast?_eq_some_getLast h0, List.getLast_eq_getElem, hl0]
      simp only [Option.bind_some, Bool.false_eq_true, if_false]
      by_cases hs : s < -1
      · rw [if_pos (by simpa using hs)]
        have h1 : (s == 1) = false := by simp; omega
        have h2 : (s == -1) = false := by simp; omega
        simp [h1, h2]
      · rw [if_neg (by simpa using hs)]
        by_cases hs' : s > 1
        · rw [if_pos (by simpa using hs')]
          have h1 : (s == 1) = false := by simp; omega
          have h2 : (s == -1) = false := by simp; omega
          simp [h1, h2]
        · rw [if_neg (by simpa using hs')]
          rcases (show s = -1 ∨ s = 0 ∨ s = 1 by omega) with rfl | rfl | rfl <;> simp
theorem right4_mk {x : Int} (h : Ln x ≤ 17592186044416) : r04_Right (mkB x) = some true := by
  rw [right4 (show Fit (mkB x).f_Digits from h), okB_mk]

theorem digit_eq (l : List Int) (i : Nat) : r04_digit l (i : Int) = some (gd l i) := by
  unfold r04_digit
  by_cases h : i < l.length
  · rw [if_pos (by simpa using h), idx_nat h, Option.bind_some, gd_lt h]
  · rw [if_neg (by simpa using h), gd_ge (by omega)]

/-! Products. -/
theorem times_loop5 {a b l0 : List Int} {i n : Nat} (ha : Dg a) (hb : Dg b) (hia : i < a.length) (h0 : Dg l0) (hn : l0.length = n) (hi : i + b.length < n) (hf : n ≤ 17592186044416) (hz : ∀ j (hj : j < l0.length), i + b.length ≤ j → l0[j] = 0) :
    ∃ l, loopL (r04_times_L5 a b (i : Int)) (0, 0, l0) = some l ∧ l.length = n ∧ Dg l ∧ (∀ j (hj : j < l.length), i + b.length < j → l[j] = 0) ∧ dv l = dv l0 + pw i * (a[i] * dv b) := by
  have hx := ha.get hia
  refine loop_nat (I := fun k s => s.2.1 = (k : Int) ∧ s.2.2.length = n ∧ Dg s.2.2 ∧ (0 ≤ s.1 ∧ s.1 < 1048576) ∧ (∀ j (hj : j < s.2.2.length), i + b.length ≤ j → i + k ≤ j → s.2.2[j] = 0) ∧ (k = b.length + 1 → s.1 = 0) ∧ dv s.2.2 + pw (i + k) * s.1 = dv l0 + pw i * (a[i] * dv (b.take k)))
    (b.length + 1) _ ⟨rfl, hn, h0, by simp, fun j hj h _ => hz j hj h, by omega, by simp [dv]⟩ (lenFU (by omega)) ?_
  rintro k ⟨c, s, l⟩ hk ⟨h1, hl, hd, hc, hz, hend, he⟩
  simp only at h1 hl hd hc hz hend he
  subst h1
  simp only [r04_times_L5]
  have hT : (if decide ((k : Int) < (b.length : Int)) = true then some true else some (decide (c > 0))) = some (decide (k < b.length ∨ c > 0)) := by
    by_cases h : k < b.length
    · rw [if_pos (by simpa using h)]; simp [h]
    · rw [if_neg (by simpa using h)]; simp [h]
  rw [hT, Option.bind_some]
  by_cases hgo : k < b.length ∨ c > 0
  · left
    have hkb : k ≤ b.length := by
      rcases hgo with h | h
      · omega
      · rcases Nat.lt_or_ge b.length k with h' | h'
        · have := hend (by omega); omega
        · exact h'
    have hik : i + k < l.length := by omega
    have ei : IntKind.i64.wrap ((i : Int) + (k : Int)) = ((i + k : Nat) : Int) := by rw [w64 (by omega)]; omega
    have gb := gd_dg hb k
    have gl := hd.get hik
    have hm0 : 0 ≤ a[i] * gd b k := Int.mul_nonneg hx.1 gb.1
    have hm1 : a[i] * gd b k ≤ 1048575 * 1048575 := Int.mul_le_mul (by omega) (by omega) gb.1 (by omega)
    rw [if_pos (by simpa using hgo), ei, idx_nat hik, Option.bind_some, idx_nat hia, Option.bind_some, digit_eq, Option.bind_some, w64 (x := a[i] * gd b k) (by omega), w64 (x := l[i + k] + a[i] * gd b k) (by omega), w64 (x := l[i + k] + a[i] * gd b k + c) (by omega), modq (by omega) (by omega), Option.bind_some, divq (by omega) (by omega) (by omega), Option.bind_some]
    have e1 : IntKind.i64.wrap ((k : Int) + 1) = ((k + 1 : Nat) : Int) := by rw [w64 (by omega)]; omega
    refine ⟨by omega, _, rfl, e1, by simpa using hl, hd.set _ (by omega), by simp only; omega, fun j hj hij hij2 => ?_, fun hk1 => ?_, ?_⟩
    · simp only [Int.toNat_natCast] at hj ⊢
      rw [List.getElem_set_ne (by omega)]
      exact hz j (by simpa using hj) hij (by omega)
    · have hkl : k = b.length := by omega
      simp only
      rw [gd_ge (by omega), Int.mul_zero, hz _ hik (by omega) (Nat.le_refl _)]
      omega
    · simp only [Int.toNat_natCast]
      rw [dv_set hik, gd_take]
      have hp := pw_div (i + k) (l[i + k] + a[i] * gd b k + c)
      rw [Int.mul_add (pw (i + k)), Int.mul_add (pw (i + k))] at hp
      have e2 : pw i * (a[i] * (dv (b.take k) + pw k * gd b k)) = pw i * (a[i] * dv (b.take k)) + pw (i + k) * (a[i] * gd b k) := by
        rw [Int.mul_add, Int.mul_add, pw_add]
        congr 1
        rw [Int.mul_left_comm a[i], ← Int.mul_assoc]
      rw [e2, Int.mul_sub, show i + (k + 1) = i + k + 1 by omega]
      omega
  · right
    have hkb : b.length ≤ k := by omega
    have hc0 : c = 0 := by omega
    subst hc0
    refine ⟨l, by rw [if_neg (by simpa using hgo)], hl, hd, fun j hj h => hz j hj (by omega) (by omega), ?_⟩
    rw [gd_all hkb, Int.mul_zero] at he
    omega

theorem times4 {a b : List Int} (ha : Dg a) (hb : Dg b) (hf : a.length + b.length ≤ 17592186044416) : r04_times a b = some (digs (dv a * dv b).toNat) := by
  have key : ∃ l, loopL (r04_times_L1 a b) (0, List.replicate (a.length + b.length) 0) = some l ∧ l.length = a.length + b.length ∧ Dg l ∧ dv l = dv a * dv b := by
    refine loop_nat (I := fun i s => s.1 = (i : Int) ∧ s.2.length = a.length + b.length ∧ Dg s.2 ∧ (∀ j (hj : j < s.2.length), i + b.length ≤ j → s.2[j] = 0) ∧ dv s.2 = dv (a.take i) * dv b)
      a.length _ ⟨rfl, by simp, Dg.rep _, fun j hj _ => by simp, by simp [dv, dv_rep]⟩ (lenFU (by omega)) ?_
    rintro i ⟨s, l⟩ hi ⟨h1, hl, hd, hz, he⟩
    simp only at h1 hl hd hz he
    subst h1
    simp only [r04_times_L1]
    by_cases hlt : i < a.length
    · left
      obtain ⟨m, g1, g2, g3, g4, g5⟩ := times_loop5 (i := i) (n := a.length + b.length) ha hb hlt hd hl (by omega) hf hz
      rw [if_pos (by simpa using hlt), g1, Option.bind_some]
      have e1 : IntKind.i64.wrap ((i : Int) + 1) = ((i + 1 : Nat) : Int) := by rw [w64 (by omega)]; omega
      refine ⟨hlt, _, rfl, e1, g2, g3, fun j hj hij => g4 j hj (by omega), ?_⟩
      rw [g5, he, dv_take_succ hlt, Int.add_mul, Int.mul_assoc]
    · right
      have hia : i = a.length := by omega
      subst hia
      refine ⟨l, by rw [if_neg (by simp)], hl, hd, ?_⟩
      rw [he, List.take_length]
  obtain ⟨l, h1, h2, h3, h4⟩ := key
  unfold r04_times
  have e : IntKind.i64.wrap ((a.length : Int) + (b.length : Int)) = ((a.length + b.length : Nat) : Int) := by rw [w64 (by omega)]; omega
  rw [e, mk0 hf, Option.bind_some, h1, Option.bind_some, obind_id, trim4 (by unfold Fit; omega) h3, h4]

/-! Comparing. -/
theorem dv_split' (l : List Int) (i : Nat) : dv l = dv (l.take i) + pw i * dv (l.drop i) := by
  by_cases h : i ≤ l.length
  · exact dv_split l h
  · rw [List.take_of_length_le (by omega), List.drop_eq_nil_of_le (by omega)]; simp [dv]
theorem dv_drop_gd (l : List Int) (i : Nat) : dv (l.drop i) = gd l i + 1048576 * dv (l.drop (i + 1)) := by
  by_cases h : i < l.length
  · rw [dv_drop h, gd_lt h]
  · rw [List.drop_eq_nil_of_le (by omega), List.drop_eq_nil_of_le (by omega), gd_ge (by omega)]; simp [dv]
theorem dv_take_lt {l : List Int} (h : Dg l) (i : Nat) : 0 ≤ dv (l.take i) ∧ dv (l.take i) < pw i := by
  have h1 := dv_lt (h.take i)
  have h2 := pw_mono (show (l.take i).length ≤ i by rw [List.length_take]; omega)
  exact ⟨dv_nonneg (h.take i), by omega⟩
theorem dv_cmp {a b : List Int} (ha : Dg a) (hb : Dg b) {k : Nat} (he : dv (a.drop (k + 1)) = dv (b.drop (k + 1))) (hlt : gd a k < gd b k) : dv a < dv b := by
  have ea := dv_split' a k
  have eb := dv_split' b k
  rw [dv_drop_gd] at ea eb
  have la := dv_take_lt ha k
  have lb := dv_take_lt hb k
  have hp := pw_pos k
  have : pw k * (gd a k + 1048576 * dv (a.drop (k + 1)) + 1) ≤ pw k * (gd b k + 1048576 * dv (b.drop (k + 1))) := Int.mul_le_mul_of_nonneg_left (by omega) (by omega)
  rw [Int.mul_add _ _ 1, Int.mul_one] at this
  omega
theorem less4 {a b : List Int} (ha : Dg a) (hb : Dg b) (hfa : Fit a) (hfb : Fit b) : r04_less a b = some (decide (dv a < dv b)) := by
  unfold Fit at hfa hfb
  generalize hm : max a.length b.length = m
  have em : (if (b.length : Int) > (a.length : Int) then (b.length : Int) else (a.length : Int)) = (m : Int) := by split <;> omega
  have key : ∃ r, loopL (r04_less_L1 a b) ((m : Int) - 1) = some r ∧ (match r with | .inl _ => ¬ dv a < dv b | .inr x => x = decide (dv a < dv b)) := by
    refine loop_nat (I := fun i s => s = ((m - i : Nat) : Int) - 1 ∧ dv (a.drop (m - i)) = dv (b.drop (m - i))) m _ ⟨rfl, ?_⟩ (lenFU (by omega)) ?_
    · rw [List.drop_eq_nil_of_le (by omega), List.drop_eq_nil_of_le (by omega)]
    rintro i s hi ⟨rfl, he⟩
    generalize hk : m - i = k at *
    simp only [r04_less_L1]
    by_cases h0 : 0 < k
    · have ek : ((k : Int) - 1) = ((k - 1 : Nat) : Int) := by omega
      rw [ek, if_pos (by simp), digit_eq, Option.bind_some, digit_eq, Option.bind_some]
      rw [show k = k - 1 + 1 by omega] at he
      by_cases hx : gd a (k - 1) = gd b (k - 1)
      · left
        rw [if_neg (by simpa using hx)]
        refine ⟨by omega, _, rfl, by rw [w64 (by omega)]; omega, ?_⟩
        rw [show m - (i + 1) = k - 1 by omega, dv_drop_gd, dv_drop_gd b, hx, he]
      · right
        rw [if_pos (by simpa using hx)]
        refine ⟨.inr (decide (gd a (k - 1) < gd b (k - 1))), rfl, ?_⟩
        rcases Int.lt_or_gt_of_ne hx with h | h
        · have := dv_cmp ha hb he h
          simp [h, this]
        · have := dv_cmp hb ha he.symm h
          have h1 : ¬ gd a (k - 1) < gd b (k - 1) := by omega
          have h2 : ¬ dv a < dv b := by omega
          simp [h1, h2]
    · right
      have : k = 0 := by omega
      subst this
      refine ⟨.inl (), by rw [if_neg (by simp)], ?_⟩
      simp only [List.drop_zero] at he
      omega
  obtain ⟨r, h1, h2⟩ := key
  unfold r04_less
  rw [em, w64 (x := (m : Int) - 1) (by omega), h1, Option.bind_some]
  cases r with
  | inl u => simp only at h2 ⊢; simp [h2]
  | inr x => simp only at h2 ⊢; rw [h2]

/-! Differences. -/
theorem minus4 {a b : List Int} (ha : Dg a) (hb : Dg b) (hf : Fit a) (hab : b.length ≤ a.length) (hle : dv b ≤ dv a) : r04_minus a b = some (digs (dv a - dv b).toNat) := by
  unfold Fit at hf
  have key : ∃ l, loopL (r04_minus_L1 a b) (0, 0, []) = some l ∧ l.length = a.length ∧ Dg l ∧ dv l = dv a - dv b := by
    refine loop_nat (I := fun i s => s.2.1 = (i : Int) ∧ s.2.2.length = i ∧ Dg s.2.2 ∧ (0 ≤ s.1 ∧ s.1 ≤ 1) ∧ dv s.2.2 + dv (b.take i) = dv (a.take i) + pw i * s.1)
      a.length _ ⟨rfl, rfl, Dg.nil, by simp, by simp [dv]⟩ (lenFU (by omega)) ?_
    rintro i ⟨c, s, l⟩ hi ⟨h1, hl, hd, hc, he⟩
    simp only at h1 hl hd hc he
    subst h1
    simp only [r04_minus_L1]
    by_cases hlt : i < a.length
    · left
      have ga := ha.get hlt
      have gb := gd_dg hb i
      rw [if_pos (by simpa using hlt), idx_nat hlt, Option.bind_some, digit_eq, Option.bind_some, w64 (x := a[i] - gd b i) (by omega), w64 (x := a[i] - gd b i - c) (by omega)]
      have e1 : IntKind.i64.wrap ((i : Int) + 1) = ((i + 1 : Nat) : Int) := by rw [w64 (by omega)]; omega
      by_cases hn : a[i] - gd b i - c < 0
      · rw [if_pos (by simpa using hn), w64 (by omega), app8 (by simp; omega), Option.bind_some]
        refine ⟨hlt, _, rfl, e1, by simp [hl], hd.append (Dg.mk (by omega) Dg.nil), by simp, ?_⟩
        simp only
        rw [dv_append, gd_take, dv_take_succ hlt, hl, pw_mul3]
        simp only [dv, Int.mul_zero, Int.add_zero, Int.mul_one]
        rw [Int.mul_add, Int.mul_sub, Int.mul_sub]
        omega
      · rw [if_neg (by simpa using hn), app8 (by simp; omega), Option.bind_some]
        refine ⟨hlt, _, rfl, e1, by simp [hl], hd.append (Dg.mk (by omega) Dg.nil), by simp, ?_⟩
        simp only
        rw [dv_append, gd_take, dv_take_succ hlt, hl]
        simp only [dv, Int.mul_zero, Int.add_zero]
        rw [Int.mul_sub, Int.mul_sub]
        omega
    · right
      have hia : i = a.length := by omega
      subst hia
      refine ⟨l, by rw [if_neg (by simp)], hl, hd, ?_⟩
      rw [gd_all hab, List.take_length] at he
      have h1 := dv_lt hd
      rw [hl] at h1
      have hc0 : c = 0 := by
        rcases (show c = 0 ∨ c = 1 by omega) with h | h
        · exact h
        · subst h; omega
      subst hc0
      omega
  obtain ⟨l, h1, h2, h3, h4⟩ := key
  unfold r04_minus
  rw [h1, Option.bind_some, obind_id, trim4 (by unfold Fit; omega) h3, h4]

/-! Sums. -/
theorem plus4 {a b : List Int} (ha : Dg a) (hb : Dg b) (hfa : a.length < 17592186044410) (hfb : b.length < 17592186044410) : r04_plus a b = some (digs (dv a + dv b).toNat) := by
  generalize hm : max a.length b.length = m
  have key : ∃ l, loopL (r04_plus_L1 a b) (0, 0, []) = some l ∧ l.length ≤ m + 1 ∧ Dg l ∧ dv l = dv a + dv b := by
    refine loop_nat (I := fun i s => s.2.1 = (i : Int) ∧ s.2.2.length = i ∧ Dg s.2.2 ∧ (0 ≤ s.1 ∧ s.1 ≤ 1) ∧ (i = m + 1 → s.1 = 0) ∧ dv s.2.2 + pw i * s.1 = dv (a.take i) + dv (b.take i))
      (m + 1) _ ⟨rfl, rfl, Dg.nil, by simp, by omega, by simp [dv]⟩ (lenFU (by omega)) ?_
    rintro i ⟨c, s, l⟩ hi ⟨h1, hl, hd, hc, hend, he⟩
    simp only at h1 hl hd hc hend he
    subst h1
    simp only [r04_plus_L1]
    have hT : (if decide ((i : Int) < (a.length : Int)) = true then some true else if decide ((i : Int) < (b.length : Int)) = true then some true else some (decide (c > 0))) = some (decide (i < m ∨ c > 0)) := by
      by_cases h : i < a.length
      · rw [if_pos (by simpa using h)]
        have : i < m := by omega
        simp [this]
      · rw [if_neg (by simpa using h)]
        by_cases h' : i < b.length
        · rw [if_pos (by simpa using h')]
          have : i < m := by omega
          simp [this]
        · rw [if_neg (by simpa using h')]
          have : ¬ i < m := by omega
          simp [this]
    rw [hT, Option.bind_some]
    by_cases hgo : i < m ∨ c > 0
    · left
      have him : i ≤ m := by
        rcases hgo with h | h
        · omega
        · rcases Nat.lt_or_ge m i with h' | h'
          · have := hend (by omega); omega
          · exact h'
      have ga := gd_dg ha i
      have gb := gd_dg hb i
      rw [if_pos (by simpa using hgo), digit_eq, Option.bind_some, digit_eq, Option.bind_some, w64 (x := gd a i + gd b i) (by omega), w64 (x := gd a i + gd b i + c) (by omega), modq (by omega) (by omega), Option.bind_some, app8 (by simp; omega), Option.bind_some, divq (by omega) (by omega) (by omega), Option.bind_some]
      have e1 : IntKind.i64.wrap ((i : Int) + 1) = ((i + 1 : Nat) : Int) := by rw [w64 (by omega)]; omega
      refine ⟨by omega, _, rfl, e1, by simp [hl], hd.append (Dg.mk (by omega) Dg.nil), by simp only; omega, fun hi1 => ?_, ?_⟩
      · have : i = m := by omega
        simp only
        rw [gd_ge (by omega), gd_ge (l := b) (by omega)]
        omega
      · simp only
        rw [dv_append, gd_take, gd_take, hl]
        simp only [dv, Int.mul_zero, Int.add_zero]
        have hp := pw_div i (gd a i + gd b i + c)
        rw [Int.mul_add (pw i), Int.mul_add (pw i)] at hp
        omega
    · right
      refine ⟨l, by rw [if_neg (by simpa using hgo)], by omega, hd, ?_⟩
      have hc0 : c = 0 := by omega
      subst hc0
      rw [gd_all (by omega), gd_all (by omega), Int.mul_zero] at he
      omega
  obtain ⟨l, h1, h2, h3, h4⟩ := key
  unfold r04_plus
  rw [h1, Option.bind_some, obind_id, trim4 (by unfold Fit; omega) h3, h4]
end Go.Proofs.Ytoclpeomlofcjaa.P
