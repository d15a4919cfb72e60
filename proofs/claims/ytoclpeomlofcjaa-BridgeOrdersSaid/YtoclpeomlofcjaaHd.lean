/- The check; the law of the whole. -/
import Derived.Test.YtoclpeomlofcjaaHc
namespace Go.Proofs.Ytoclpeomlofcjaa.P
open Go.RowKit
set_option linter.unusedSimpArgs false
set_option linter.unusedVariables false

/-- Not too long. -/
def SzF (f : TFrac) : Prop := f.f_P.f_Digits.length ≤ Kf ∧ f.f_Q.f_Digits.length ≤ Kf
theorem SzF_fit {f : TFrac} (h : SzF f) : FitF f := by
  unfold SzF Kf at h
  unfold FitF Lbig
  omega
theorem SzF_LF {q : Rat} (h : SzF (mkF q)) : LF q ≤ Kf := LF_of h
theorem SzF_mk {q : Rat} (h : LF q ≤ Kf) : SzF (mkF q) := by
  have h1 := LF_num q
  have h2 := LF_den q
  have h3 : (mkF q).f_P.f_Digits.length = Ln q.num := rfl
  have h4 : (mkF q).f_Q.f_Digits.length = Ln q.den := rfl
  unfold SzF
  omega

section
variable {V : Nat → Rat} {n : Nat}

theorem check_inner (hn : n ≤ 5) {s : Nat} (hs : s < 2 ^ n) {G : Nat → Rat} {l : List TFrac} (hl : ∀ t, t < 2 ^ n → l[t]? = some (mkF (G t))) (hG : ∀ t, t < 2 ^ n → LF (G t) ≤ Kf) :
    loopL (bridge_Check_L4 l ((n : Int), true) (s : Int)) (0, (mkF 0).f_P.f_Sign, (mkF 0).f_P.f_Digits, (mkF 0).f_Q.f_Sign, (mkF 0).f_Q.f_Digits) =
      some ((mkF (sumN n (fun i => if s.testBit i then G s - G (s - 2 ^ i) else 0))).f_P.f_Sign, (mkF (sumN n (fun i => if s.testBit i then G s - G (s - 2 ^ i) else 0))).f_P.f_Digits, (mkF (sumN n (fun i => if s.testBit i then G s - G (s - 2 ^ i) else 0))).f_Q.f_Sign, (mkF (sumN n (fun i => if s.testBit i then G s - G (s - 2 ^ i) else 0))).f_Q.f_Digits)
    ∧ LF (sumN n (fun i => if s.testBit i then G s - G (s - 2 ^ i) else 0)) ≤ 11 * Kf := by
  have hbf := (bits_fact n hn s hs).2.2
  have h32 := pow32 hn
  have hT : ∀ i, LF (if s.testBit i then G s - G (s - 2 ^ i) else 0) ≤ 2 * Kf + 1 := by
    intro i
    split
    · have h1 := LF_sub (G s) (G (s - 2 ^ i))
      have h2 := hG s hs
      have h3 := hG (s - 2 ^ i) (Nat.lt_of_le_of_lt (Nat.sub_le _ _) hs)
      omega
    · have := LF_zero; unfold Kf; omega
  have hLF : ∀ i, i ≤ n → LF (sumN i (fun i => if s.testBit i then G s - G (s - 2 ^ i) else 0)) ≤ 1 + i * (2 * Kf + 2) := by
    intro i hi
    have := LF_sumN (n := i) (K := 2 * Kf + 1) (x0 := 0) (f := fun i => if s.testBit i then G s - G (s - 2 ^ i) else 0) (fun j hj => hT j)
    rw [Rat.zero_add, show 2 * Kf + 1 + 1 = 2 * Kf + 2 from rfl] at this
    have := LF_zero
    omega
  have hLe : ∀ i, i ≤ n → LF (sumN i (fun i => if s.testBit i then G s - G (s - 2 ^ i) else 0)) ≤ 11 * Kf := by
    intro i hi
    have h1 := hLF i hi
    have h5 : i * (2 * Kf + 2) ≤ 5 * (2 * Kf + 2) := Nat.mul_le_mul_right _ (by omega)
    unfold Kf at *
    omega
  refine ⟨?_, hLe n (Nat.le_refl _)⟩
  obtain ⟨r, h1, h2⟩ := loop_nat (body := bridge_Check_L4 l ((n : Int), true) (s : Int))
    (I := fun i st => st = ((i : Int), (mkF (sumN i (fun i => if s.testBit i then G s - G (s - 2 ^ i) else 0))).f_P.f_Sign, (mkF (sumN i (fun i => if s.testBit i then G s - G (s - 2 ^ i) else 0))).f_P.f_Digits, (mkF (sumN i (fun i => if s.testBit i then G s - G (s - 2 ^ i) else 0))).f_Q.f_Sign, (mkF (sumN i (fun i => if s.testBit i then G s - G (s - 2 ^ i) else 0))).f_Q.f_Digits))
    n (fun r => r = ((mkF (sumN n (fun i => if s.testBit i then G s - G (s - 2 ^ i) else 0))).f_P.f_Sign, (mkF (sumN n (fun i => if s.testBit i then G s - G (s - 2 ^ i) else 0))).f_P.f_Digits, (mkF (sumN n (fun i => if s.testBit i then G s - G (s - 2 ^ i) else 0))).f_Q.f_Sign, (mkF (sumN n (fun i => if s.testBit i then G s - G (s - 2 ^ i) else 0))).f_Q.f_Digits))
    (s := (0, (mkF 0).f_P.f_Sign, (mkF 0).f_P.f_Digits, (mkF 0).f_Q.f_Sign, (mkF 0).f_Q.f_Digits)) rfl (lenFU (by omega)) (by
      rintro i st hi rfl
      simp only [bridge_Check_L4]
      by_cases hin : i < n
      · left
        refine ⟨hin, ?_⟩
        have e1 : IntKind.i64.wrap ((i : Int) + 1) = ((i + 1 : Nat) : Int) := by rw [w64 (by omega)]; omega
        rw [if_pos (by simp; omega), shl1 i (by omega), Option.bind_some, bitA_fact s (by omega) i (by omega), e1]
        by_cases hb : s.testBit i = true
        · have hbb := hbf i hin hb
          have hN : bitI .andNot .i64 ((s : Nat) : Int) ((2 ^ i : Nat) : Int) = ((s - 2 ^ i : Nat) : Int) := by
            rcases bitN_fact s (by omega) i (by omega) with h | h
            · rw [hb] at h; cases h
            · exact h
          have hlt : s - 2 ^ i < 2 ^ n := Nat.lt_of_le_of_lt (Nat.sub_le _ _) hs
          rw [if_pos hb, hN, idx_opt, idx_opt, hl _ hlt, hl _ hs, Option.bind_some, Option.bind_some,
            sub_q (by have := hG _ hs; unfold Kf at *; omega) (by have := hG _ hlt; unfold Kf at *; omega), Option.bind_some]
          have ha : bridge_add (mkF (sumN i (fun i => if s.testBit i then G s - G (s - 2 ^ i) else 0))) (mkF (G s - G (s - 2 ^ i))) = some (mkF (sumN (i + 1) (fun i => if s.testBit i then G s - G (s - 2 ^ i) else 0))) := by
            have hTi := hT i
            rw [if_pos hb] at hTi
            have h6 := hLF i hi
            have h5 : i * (2 * Kf + 2) ≤ 4 * (2 * Kf + 2) := Nat.mul_le_mul_right _ (by omega)
            rw [add_q (by unfold Kf at *; omega) (by unfold Kf at *; omega)]
            congr 2
            simp only [sumN]
            rw [if_pos hb]
          exact ⟨_, by erw [ha]; rfl, rfl⟩
        · rw [if_neg hb]
          refine ⟨_, rfl, ?_⟩
          have : sumN (i + 1) (fun i => if s.testBit i then G s - G (s - 2 ^ i) else 0) = sumN i (fun i => if s.testBit i then G s - G (s - 2 ^ i) else 0) := by
            simp only [sumN]
            rw [if_neg hb, Rat.add_zero]
          rw [this]
      · right
        have : i = n := by omega
        subst this
        exact ⟨_, by rw [if_neg (by simp)], rfl⟩)
  rw [h1, h2]

theorem cmpQ_ne {a b : Rat} : (cmpQ a b != 0) = decide (a ≠ b) := by
  unfold cmpQ
  by_cases h1 : a < b
  · rw [if_pos h1]
    have : a ≠ b := by grind
    simp [this]
  · rw [if_neg h1]
    by_cases h2 : b < a
    · rw [if_pos h2]
      have : a ≠ b := by grind
      simp [this]
    · rw [if_neg h2]
      have : a = b := by grind
      simp [this]

theorem check_loop1 {qs : List Rat} (hn : n ≤ 5) (hl : qs.length = 2 ^ n) (hq : ∀ q ∈ qs, LF q ≤ 20) {G : Nat → Rat} {l : List TFrac} (hll : ∀ t, t < 2 ^ n → l[t]? = some (mkF (G t))) (hG : ∀ t, t < 2 ^ n → LF (G t) ≤ Kf) :
    ∃ r, loopL (bridge_Check_L2 (qs.map mkF) l ((n : Int), true)) 1 = some r ∧ (match r with
      | .inl _ => ∀ s, s < 2 ^ n → s ≠ 0 → sumN n (fun i => if s.testBit i then G s - G (s - 2 ^ i) else 0) = Vq qs s - Vq qs 0
      | .inr b => b = false ∧ ∃ s, s < 2 ^ n ∧ s ≠ 0 ∧ sumN n (fun i => if s.testBit i then G s - G (s - 2 ^ i) else 0) ≠ Vq qs s - Vq qs 0) := by
  have h32 := pow32 hn
  have hV : ∀ s, s < 2 ^ n → LF (Vq qs s) ≤ 20 := fun s hs => Vq_LF hq (by omega)
  have hL : (qs.map mkF).length = 2 ^ n := by simpa using hl
  refine loop_nat (I := fun i s => s = ((i + 1 : Nat) : Int) ∧ ∀ s, s < i + 1 → s ≠ 0 → sumN n (fun i => if s.testBit i then G s - G (s - 2 ^ i) else 0) = Vq qs s - Vq qs 0) (2 ^ n - 1) _ ⟨rfl, fun s h1 h2 => by omega⟩ (lenFU (by omega)) ?_
  rintro i s hi ⟨rfl, hI⟩
  simp only [bridge_Check_L2]
  rw [hL]
  by_cases hin : i + 1 < 2 ^ n
  · have e0 : idx (qs.map mkF) 0 = some (mkF (Vq qs 0)) := by rw [idx_zero, Vq_get (by omega)]
    have hin1 := check_inner hn hin hll hG
    have hcm : frac_Compare (mkF (sumN n (fun j => if (i + 1).testBit j then G (i + 1) - G (i + 1 - 2 ^ j) else 0))) (mkF (Vq qs (i + 1) - Vq qs 0)) = some (cmpQ (sumN n (fun j => if (i + 1).testBit j then G (i + 1) - G (i + 1 - 2 ^ j) else 0)) (Vq qs (i + 1) - Vq qs 0)) := by
      refine Compare_f ?_
      have h4 := LF_sub (Vq qs (i + 1)) (Vq qs 0)
      have h5 := hV _ hin
      have h6 := hV 0 (by omega)
      have h7 := hin1.2
      unfold Kf at h7
      unfold Lmax
      omega
    rw [if_pos (decide_eq_true (by omega)), Int_f (by omega), Option.bind_some]
    erw [hin1.1]
    rw [Option.bind_some]
    simp only
    rw [idx_opt, Vq_get (by omega), Option.bind_some, e0, Option.bind_some,
      sub_q (by have := hV _ hin; unfold Kf; omega) (by have := hV 0 (by omega); unfold Kf; omega), Option.bind_some]
    erw [hcm]
    rw [Option.bind_some, cmpQ_ne]
    by_cases he : sumN n (fun j => if (i + 1).testBit j then G (i + 1) - G (i + 1 - 2 ^ j) else 0) = Vq qs (i + 1) - Vq qs 0
    · left
      rw [if_neg (by simp [he])]
      refine ⟨by omega, _, rfl, by rw [w64 (by omega)]; omega, fun t ht h0 => ?_⟩
      by_cases htt : t = i + 1
      · subst htt; exact he
      · exact hI t (by omega) h0
    · right
      rw [if_pos (decide_eq_true he)]
      exact ⟨_, rfl, rfl, i + 1, hin, by omega, he⟩
  · right
    refine ⟨.inl (), by rw [if_neg (by rw [decide_eq_true_eq]; omega)], ?_⟩
    intro s hs h0
    exact hI s (by omega) h0

theorem check_loop2 {qs : List Rat} (hn : n ≤ 5) (hl : qs.length = 2 ^ n) {G : Nat → Rat} {l m : List TFrac} {H : Nat → Rat} (hll : ∀ t, t < 2 ^ n → l[t]? = some (mkF (G t))) (hG : ∀ t, t < 2 ^ n → LF (G t) ≤ Kf)
    (hm : m.length = n) (hmm : ∀ t, t < n → m[t]? = some (mkF (H t))) (hH : ∀ t, t < n → LF (H t) ≤ Kf) :
    ∃ r, loopL (bridge_Check_L5 (qs.map mkF) m l) 0 = some r ∧ (match r with
      | .inl _ => ∀ i, i < n → H i = G (2 ^ n - 1) - G (2 ^ n - 1 - 2 ^ i)
      | .inr b => b = false ∧ ∃ i, i < n ∧ H i ≠ G (2 ^ n - 1) - G (2 ^ n - 1 - 2 ^ i)) := by
  have h32 := pow32 hn
  have hL : (qs.map mkF).length = 2 ^ n := by simpa using hl
  refine loop_nat (I := fun i s => s = (i : Int) ∧ ∀ j, j < i → H j = G (2 ^ n - 1) - G (2 ^ n - 1 - 2 ^ j)) n _ ⟨rfl, fun s h1 => by omega⟩ (lenFU (by omega)) ?_
  rintro i s hi ⟨rfl, hI⟩
  simp only [bridge_Check_L5]
  rw [hL, hm]
  by_cases hin : i < n
  · have hg1 := hG (2 ^ n - 1) (by omega)
    have hg2 := hG (2 ^ n - 1 - 2 ^ i) (lt1 hn i)
    have hcm : frac_Compare (mkF (H i)) (mkF (G (2 ^ n - 1) - G (2 ^ n - 1 - 2 ^ i))) = some (cmpQ (H i) (G (2 ^ n - 1) - G (2 ^ n - 1 - 2 ^ i))) := by
      refine Compare_f ?_
      have h4 := LF_sub (G (2 ^ n - 1)) (G (2 ^ n - 1 - 2 ^ i))
      have h5 := hH i hin
      unfold Kf at *
      unfold Lmax
      omega
    rw [if_pos (by simpa using hin), idx_opt, hmm i hin, Option.bind_some, allN hn, idx_opt, hll _ (by omega), Option.bind_some, shl1 i (by omega), Option.bind_some, allN_bit hn hin, idx_opt, hll _ (lt1 hn i), Option.bind_some,
      sub_q (by unfold Kf at *; omega) (by unfold Kf at *; omega), Option.bind_some, hcm, Option.bind_some, cmpQ_ne]
    by_cases he : H i = G (2 ^ n - 1) - G (2 ^ n - 1 - 2 ^ i)
    · left
      rw [if_neg (by simp [he])]
      refine ⟨by omega, _, rfl, by rw [w64 (by omega)]; omega, fun t ht => ?_⟩
      by_cases htt : t = i
      · subst htt; exact he
      · exact hI t (by omega)
    · right
      rw [if_pos (decide_eq_true he)]
      exact ⟨_, rfl, rfl, i, hin, he⟩
  · right
    refine ⟨.inl (), by rw [if_neg (by simpa using hin)], ?_⟩
    intro s hs
    exact hI s (by omega)

theorem rats_get {rs : List Rat} {t : Nat} (h : t < rs.length) : (rs.map mkF)[t]? = some (mkF (rs.getD t 0)) := Vq_get h
theorem sign_ne {q : Rat} : (q.num.sign != 0) = decide (q ≠ 0) := by
  by_cases h : q = 0
  · subst h; rfl
  · have : q.num ≠ 0 := fun hh => h (Rat.num_eq_zero.1 hh)
    have : q.num.sign ≠ 0 := fun hh => this (Int.sign_eq_zero_iff_zero.1 hh)
    simp [h, this]
/-- What the check tells. -/
theorem Check_eq {qs : List Rat} (hn : n ≤ 5) (hl : qs.length = 2 ^ n) (hq : ∀ q ∈ qs, LF q ≤ 20) {p1 p2 : List TFrac} (h1 : ∀ f ∈ p1, SzF f) (h2 : ∀ f ∈ p2, SzF f) (hf1 : p1.length ≤ 17592186044416) :
    bridge_Check (qs.map mkF) p1 p2 = some (decide (p1 = Sh (Vq qs) n ∧ p2 = Po (Vq qs) n)) := by
  have h32 := pow32 hn
  have hV : ∀ s, s < 2 ^ n → LF (Vq qs s) ≤ 20 := fun s hs => Vq_LF hq (by omega)
  have hL : (qs.map mkF).length = 2 ^ n := by simpa using hl
  have hno : ∀ {b : Bool}, ¬ (p1 = Sh (Vq qs) n ∧ p2 = Po (Vq qs) n) → some false = some (decide (p1 = Sh (Vq qs) n ∧ p2 = Po (Vq qs) n)) := fun h => by rw [decide_eq_false h]
  unfold bridge_Check
  rw [bridge_edits_eq hn hl (fun q h => by have := hq q h; unfold Lmax; omega), Option.bind_some, if_neg (by simp), hL]
  by_cases hl1 : p1.length = n
  rotate_left
  · rw [if_pos (by simpa using fun h => hl1 (by omega)), Option.bind_some, if_pos rfl]
    exact hno (b := true) fun h => hl1 (by rw [h.1, Sh_len])
  by_cases hl2 : p2.length = 2 ^ n
  rotate_left
  · rw [if_neg (by simp; omega), if_pos (by rw [bne_iff_ne]; omega), Option.bind_some, if_pos rfl]
    exact hno (b := true) fun h => hl2 (by rw [h.2, Po_len])
  rw [if_neg (by simp; omega), if_neg (by rw [bne_iff_ne]; omega), bridge_right_eq hf1 (fun f hf => SzF_fit (h1 f hf)), Option.bind_some]
  by_cases hr1 : p1.all okF = true
  rotate_left
  · rw [if_pos (by simpa using hr1), Option.bind_some, if_pos rfl]
    refine hno (b := true) fun h => hr1 ?_
    rw [h.1, List.all_eq_true]
    intro f hf
    obtain ⟨i, _, rfl⟩ := List.mem_map.1 hf
    exact okF_mk _
  rw [if_neg (by simpa using hr1), bridge_right_eq (by omega) (fun f hf => SzF_fit (h2 f hf)), Option.bind_some]
  by_cases hr2 : p2.all okF = true
  rotate_left
  · rw [if_pos (by simpa using hr2), Option.bind_some, if_pos rfl]
    refine hno (b := true) fun h => hr2 ?_
    rw [h.2, List.all_eq_true]
    intro f hf
    obtain ⟨i, _, rfl⟩ := List.mem_map.1 hf
    exact okF_mk _
  rw [if_neg (by simpa using hr2)]
  obtain ⟨ss, rfl⟩ := rats_of (List.all_eq_true.1 hr1)
  obtain ⟨ps, rfl⟩ := rats_of (List.all_eq_true.1 hr2)
  have hls : ss.length = n := by simpa using hl1
  have hlp : ps.length = 2 ^ n := by simpa using hl2
  have hss : ∀ t, t < n → LF (ss.getD t 0) ≤ Kf := fun t ht => Vq_LF (qs := ss) (fun q hq => SzF_LF (h1 _ (List.mem_map.2 ⟨q, hq, rfl⟩))) (by omega)
  have hps : ∀ t, t < 2 ^ n → LF (ps.getD t 0) ≤ Kf := fun t ht => Vq_LF (qs := ps) (fun q hq => SzF_LF (h2 _ (List.mem_map.2 ⟨q, hq, rfl⟩))) (by omega)
  have gs : ∀ t, t < n → (ss.map mkF)[t]? = some (mkF (ss.getD t 0)) := fun t ht => rats_get (by omega)
  have gp : ∀ t, t < 2 ^ n → (ps.map mkF)[t]? = some (mkF (ps.getD t 0)) := fun t ht => rats_get (by omega)
  rw [idx_zero, gp 0 (by omega), Option.bind_some, Sign_f (by have := hps 0 (by omega); unfold Kf at this; unfold Lmax; omega), Option.bind_some, Option.bind_some, sign_ne]
  by_cases h0 : ps.getD 0 0 = 0
  rotate_left
  · rw [if_pos (decide_eq_true h0)]
    refine hno (b := true) fun h => h0 ?_
    have := gp 0 (by omega)
    rw [h.2, Po_get (by omega), pot_zero] at this
    exact (mkF_inj (Option.some.inj this)).symm
  rw [if_neg (by simpa using h0)]
  obtain ⟨r, e1, e2⟩ := check_loop1 (l := ps.map mkF) (G := fun t => ps.getD t 0) hn hl hq gp hps
  rw [e1, Option.bind_some]
  have toP : ps.map mkF = Po (Vq qs) n → ∀ t, t < 2 ^ n → ps.getD t 0 = pot (Vq qs) n t := fun h t ht => by
    have := gp t ht
    rw [h, Po_get ht] at this
    exact (mkF_inj (Option.some.inj this)).symm
  have toS : ss.map mkF = Sh (Vq qs) n → ∀ t, t < n → ss.getD t 0 = shr (Vq qs) n t := fun h t ht => by
    have := gs t ht
    rw [h, Sh_get ht] at this
    exact (mkF_inj (Option.some.inj this)).symm
  cases r with
  | inr b =>
    simp only at e2 ⊢
    obtain ⟨rfl, s, hs, hs0, hne⟩ := e2
    refine hno (b := true) fun h => hne ?_
    have hP := toP h.2
    rw [← pot_eq hn hs hs0]
    refine sumN_congr fun i hi => ?_
    by_cases hb : s.testBit i = true
    · rw [if_pos hb, if_pos hb, hP s hs, hP _ (Nat.lt_of_le_of_lt (Nat.sub_le _ _) hs)]
    · rw [if_neg hb, if_neg hb]
  | inl u =>
    simp only at e2 ⊢
    have hP := pot_unique hn (p := fun t => ps.getD t 0) h0 e2
    have hPo : ps.map mkF = Po (Vq qs) n := List.ext_getElem? fun t => by
      by_cases ht : t < 2 ^ n
      · rw [gp t ht, Po_get ht, show ps.getD t 0 = _ from hP t ht]
      · rw [List.getElem?_eq_none (by simp; omega), List.getElem?_eq_none (by rw [Po_len]; omega)]
    obtain ⟨r, e3, e4⟩ := check_loop2 (qs := qs) (l := ps.map mkF) (G := fun t => ps.getD t 0) (m := ss.map mkF) (H := fun t => ss.getD t 0) hn hl gp hps hl1 gs hss
    rw [e3, Option.bind_some]
    have hsh : ∀ i, i < n → ps.getD (2 ^ n - 1) 0 - ps.getD (2 ^ n - 1 - 2 ^ i) 0 = shr (Vq qs) n i := fun i hi => by
      unfold shr
      rw [show ps.getD (2 ^ n - 1) 0 = _ from hP _ (by omega), show ps.getD (2 ^ n - 1 - 2 ^ i) 0 = _ from hP _ (lt1 hn i)]
    cases r with
    | inr b =>
      simp only at e4 ⊢
      obtain ⟨rfl, i, hi, hne⟩ := e4
      refine hno (b := true) fun h => hne ?_
      rw [toS h.1 i hi, hsh i hi]
    | inl u =>
      simp only at e4 ⊢
      have hS : ss.map mkF = Sh (Vq qs) n := List.ext_getElem? fun t => by
        by_cases ht : t < n
        · rw [gs t ht, Sh_get ht, e4 t ht, hsh t ht]
        · rw [List.getElem?_eq_none (by simp; omega), List.getElem?_eq_none (by rw [Sh_len]; omega)]
      rw [decide_eq_true ⟨hS, hPo⟩]

theorem Sz_Sh (hn : n ≤ 5) (hV : ∀ s, s < 2 ^ n → LF (V s) ≤ 20) : ∀ f ∈ Sh V n, SzF f := fun f hf => by
  obtain ⟨i, _, rfl⟩ := List.mem_map.1 hf
  exact SzF_mk (by have := LF_shr hn hV (i := i); unfold Kf; omega)
theorem Sz_Po (hn : n ≤ 5) (hV : ∀ s, s < 2 ^ n → LF (V s) ≤ 20) : ∀ f ∈ Po V n, SzF f := fun f hf => by
  obtain ⟨i, hi, rfl⟩ := List.mem_map.1 hf
  exact SzF_mk (by have := LF_pot hn hV (s := i) (by simpa using hi); unfold Kf; omega)

theorem total_eq {H : Nat → Rat} {l : List TFrac} (hn : n ≤ 5) (hl : l.length = n) (hll : ∀ t, t < n → l[t]? = some (mkF (H t))) (hH : ∀ t, t < n → LF (H t) ≤ Kf) :
    l44_total l = some (mkF (sumN n H)) := by
  have hLF : ∀ i, i ≤ n → LF (sumN i H) ≤ 10 * Kf := by
    intro i hi
    have := LF_sumN (n := i) (K := Kf) (x0 := 0) (f := H) (fun j hj => hH j (by omega))
    rw [Rat.zero_add] at this
    have := LF_zero
    have h5 : i * (Kf + 1) ≤ 5 * (Kf + 1) := Nat.mul_le_mul_right _ (by omega)
    unfold Kf at *
    omega
  unfold l44_total
  rw [Int5 (by omega), Option.bind_some]
  obtain ⟨r, h1, h2⟩ := loop_nat (body := l44_total_L1 l)
    (I := fun i st => st = ((i : Int), (mkF (sumN i H)).f_P.f_Sign, (mkF (sumN i H)).f_P.f_Digits, (mkF (sumN i H)).f_Q.f_Sign, (mkF (sumN i H)).f_Q.f_Digits))
    n (fun r => r = ((mkF (sumN n H)).f_P.f_Sign, (mkF (sumN n H)).f_P.f_Digits, (mkF (sumN n H)).f_Q.f_Sign, (mkF (sumN n H)).f_Q.f_Digits))
    (s := (0, (mkF 0).f_P.f_Sign, (mkF 0).f_P.f_Digits, (mkF 0).f_Q.f_Sign, (mkF 0).f_Q.f_Digits)) rfl (lenFU (by omega)) (by
      rintro i st hi rfl
      simp only [l44_total_L1]
      rw [hl]
      by_cases hin : i < n
      · left
        refine ⟨hin, ?_⟩
        have e1 : IntKind.i64.wrap ((i : Int) + 1) = ((i + 1 : Nat) : Int) := by rw [w64 (by omega)]; omega
        rw [if_pos (by simpa using hin), idx_opt, hll i hin, Option.bind_some, e1]
        have ha : frac_Add (mkF (sumN i H)) (mkF (H i)) = some (mkF (sumN (i + 1) H), 0) := by
          rw [Add_f (by have h1 := hLF i hi; have h2 := hH i hin; unfold Kf at *; unfold Lmax; omega)]
          rfl
        exact ⟨_, by erw [ha]; rfl, rfl⟩
      · right
        have : i = n := by omega
        subst this
        exact ⟨_, by rw [if_neg (by simp)], rfl⟩)
  erw [h1]
  rw [h2]
  rfl
end
end Go.Proofs.Ytoclpeomlofcjaa.P
