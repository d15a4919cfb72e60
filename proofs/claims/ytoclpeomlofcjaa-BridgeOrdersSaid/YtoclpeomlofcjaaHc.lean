/- The potential, the shares and the check. -/
import Derived.Test.YtoclpeomlofcjaaHb
namespace Go.Proofs.Ytoclpeomlofcjaa.P
open Go.RowKit
set_option linter.unusedSimpArgs false
set_option linter.unusedVariables false

theorem idx_opt {α : Type} (l : List α) (t : Nat) : idx l (t : Int) = l[t]? := by
  unfold idx
  by_cases h : t < l.length
  · rw [if_pos (by omega)]; rfl
  · rw [if_neg (by omega)]; exact (List.getElem?_eq_none (by omega)).symm
theorem idx_zero {α : Type} (l : List α) : idx l 0 = l[0]? := idx_opt l 0
theorem bitA_fact : ∀ s, s < 32 → ∀ i, i < 5 → (bitI .and .i64 ((s : Nat) : Int) ((2 ^ i : Nat) : Int) != 0) = s.testBit i := by decide +kernel
theorem bitN_fact : ∀ s, s < 32 → ∀ i, i < 5 → s.testBit i = false ∨ bitI .andNot .i64 ((s : Nat) : Int) ((2 ^ i : Nat) : Int) = ((s - 2 ^ i : Nat) : Int) := by decide +kernel
theorem ones_fact : ∀ n, n < 6 → ∀ s, s < 2 ^ n → math_bits_OnesCount (IntKind.u64.wrap ((s : Nat) : Int)) = some ((cnt n s : Nat) : Int) := by decide +kernel
theorem pow32 {n : Nat} (hn : n ≤ 5) : 2 ^ n ≤ 32 ∧ 0 < 2 ^ n := ⟨Nat.pow_le_pow_right (by decide) hn, Nat.pow_pos (by decide)⟩

/-- Sizes. -/
def Kf : Nat := 4000000
theorem sub_q {a b : Rat} (ha : LF a ≤ 10 * Kf) (hb : LF b ≤ 10 * Kf) : bridge_sub (mkF a) (mkF b) = some (mkF (a - b)) := by
  unfold bridge_sub
  rw [Sub_f (by unfold Kf at ha hb; unfold Lmax; omega)]; rfl
theorem add_q {a b : Rat} (ha : LF a ≤ 10 * Kf) (hb : LF b ≤ 10 * Kf) : bridge_add (mkF a) (mkF b) = some (mkF (a + b)) := by
  unfold bridge_add
  rw [Add_f (by unfold Kf at ha hb; unfold Lmax; omega)]; rfl

section
variable {V : Nat → Rat} {n : Nat}

theorem pot_inner (hn : n ≤ 5) {s : Nat} (hs : s < 2 ^ n) {x0 : Rat} (hx : LF x0 ≤ 100) {G : Nat → Rat} {l : List TFrac} (hl : ∀ t, t < s → l[t]? = some (mkF (G t))) (hG : ∀ t, t < s → LF (G t) ≤ 777600) :
    loopL (bridge_Potential_L3 ((n : Int), true) (s : Int) l) (0, (mkF x0).f_P.f_Sign, (mkF x0).f_P.f_Digits, (mkF x0).f_Q.f_Sign, (mkF x0).f_Q.f_Digits) =
      some ((mkF (x0 + sumN n (fun i => if s.testBit i then G (s - 2 ^ i) else 0))).f_P.f_Sign, (mkF (x0 + sumN n (fun i => if s.testBit i then G (s - 2 ^ i) else 0))).f_P.f_Digits, (mkF (x0 + sumN n (fun i => if s.testBit i then G (s - 2 ^ i) else 0))).f_Q.f_Sign, (mkF (x0 + sumN n (fun i => if s.testBit i then G (s - 2 ^ i) else 0))).f_Q.f_Digits) := by
  have hbf := (bits_fact n hn s hs).2.2
  have h32 := pow32 hn
  have hLF : ∀ i, i ≤ n → LF (x0 + sumN i (fun i => if s.testBit i then G (s - 2 ^ i) else 0)) ≤ 10 * Kf := by
    intro i hi
    have := LF_sumN (n := i) (K := 777600) (x0 := x0) (f := fun i => if s.testBit i then G (s - 2 ^ i) else 0) (by
      intro j hj
      split
      · rename_i hb
        exact hG _ (hbf j (by omega) hb).2.2
      · have := LF_zero; omega)
    have h5 : i * (777600 + 1) ≤ 5 * (777600 + 1) := Nat.mul_le_mul_right _ (by omega)
    unfold Kf
    omega
  obtain ⟨r, h1, h2⟩ := loop_nat (body := bridge_Potential_L3 ((n : Int), true) (s : Int) l)
    (I := fun i st => st = ((i : Int), (mkF (x0 + sumN i (fun i => if s.testBit i then G (s - 2 ^ i) else 0))).f_P.f_Sign, (mkF (x0 + sumN i (fun i => if s.testBit i then G (s - 2 ^ i) else 0))).f_P.f_Digits, (mkF (x0 + sumN i (fun i => if s.testBit i then G (s - 2 ^ i) else 0))).f_Q.f_Sign, (mkF (x0 + sumN i (fun i => if s.testBit i then G (s - 2 ^ i) else 0))).f_Q.f_Digits))
    n (fun r => r = ((mkF (x0 + sumN n (fun i => if s.testBit i then G (s - 2 ^ i) else 0))).f_P.f_Sign, (mkF (x0 + sumN n (fun i => if s.testBit i then G (s - 2 ^ i) else 0))).f_P.f_Digits, (mkF (x0 + sumN n (fun i => if s.testBit i then G (s - 2 ^ i) else 0))).f_Q.f_Sign, (mkF (x0 + sumN n (fun i => if s.testBit i then G (s - 2 ^ i) else 0))).f_Q.f_Digits))
    (s := (0, (mkF x0).f_P.f_Sign, (mkF x0).f_P.f_Digits, (mkF x0).f_Q.f_Sign, (mkF x0).f_Q.f_Digits)) (by simp only [sumN, Rat.add_zero]; rfl) (lenFU (by omega)) (by
      rintro i st hi rfl
      simp only [bridge_Potential_L3]
      by_cases hin : i < n
      · left
        refine ⟨hin, ?_⟩
        have e1 : IntKind.i64.wrap ((i : Int) + 1) = ((i + 1 : Nat) : Int) := by rw [w64 (by omega)]; omega
        rw [if_pos (by simp; omega), shl1 i (by omega), Option.bind_some, bitA_fact s (by omega) i (by omega), e1]
        by_cases hb : s.testBit i = true
        · have hbb := hbf i hin hb
          have hN : bitI .andNot .i64 ((s : Nat) : Int) ((2 ^ i : Nat) : Int) = ((s - 2 ^ i : Nat) : Int) := by
            rcases bitN_fact s (by omega) i (by omega) with h | h
            · rw [hb] at h; cases h
            · exact h
          rw [if_pos hb, hN, idx_opt, hl _ hbb.2.2, Option.bind_some]
          have ha : bridge_add (mkF (x0 + sumN i (fun i => if s.testBit i then G (s - 2 ^ i) else 0))) (mkF (G (s - 2 ^ i))) = some (mkF (x0 + sumN (i + 1) (fun i => if s.testBit i then G (s - 2 ^ i) else 0))) := by
            rw [add_q (hLF i (by omega)) (by have := hG _ hbb.2.2; unfold Kf; omega), Rat.add_assoc]
            congr 3
            simp only [sumN]
            rw [if_pos hb]
          exact ⟨_, by erw [ha]; rfl, rfl⟩
        · rw [if_neg hb]
          refine ⟨_, rfl, ?_⟩
          have : sumN (i + 1) (fun i => if s.testBit i then G (s - 2 ^ i) else 0) = sumN i (fun i => if s.testBit i then G (s - 2 ^ i) else 0) := by
            simp only [sumN]
            rw [if_neg hb, Rat.add_zero]
          rw [this]
      · right
        have : i = n := by omega
        subst this
        exact ⟨_, by rw [if_neg (by simp)], rfl⟩)
  rw [h1, h2]

/-- The list of potentials; the list of shares. -/
def Po (V : Nat → Rat) (n : Nat) : List TFrac := (List.range (2 ^ n)).map (fun s => mkF (pot V n s))
def Sh (V : Nat → Rat) (n : Nat) : List TFrac := (List.range n).map (fun i => mkF (shr V n i))
theorem Po_get {s : Nat} (hs : s < 2 ^ n) : (Po V n)[s]? = some (mkF (pot V n s)) := by unfold Po; simp [hs]
theorem Po_len : (Po V n).length = 2 ^ n := by simp [Po]
theorem Sh_get {i : Nat} (hi : i < n) : (Sh V n)[i]? = some (mkF (shr V n i)) := by unfold Sh; simp [hi]
theorem Sh_len : (Sh V n).length = n := by simp [Sh]
def Vq (qs : List Rat) (s : Nat) : Rat := qs.getD s 0
theorem Vq_get {qs : List Rat} {s : Nat} (h : s < qs.length) : (qs.map mkF)[s]? = some (mkF (Vq qs s)) := by
  unfold Vq
  simp [h]
theorem Vq_LF {qs : List Rat} {K : Nat} (h : ∀ q ∈ qs, LF q ≤ K) {s : Nat} (hs : s < qs.length) : LF (Vq qs s) ≤ K := by
  unfold Vq
  rw [List.getD_eq_getElem?_getD, List.getElem?_eq_getElem hs]
  exact h _ (List.getElem_mem hs)

theorem Potential_eq {qs : List Rat} (hn : n ≤ 5) (hl : qs.length = 2 ^ n) (hq : ∀ q ∈ qs, LF q ≤ 20) : bridge_Potential (qs.map mkF) = some (Po (Vq qs) n) := by
  have h32 := pow32 hn
  have hV : ∀ s, s < 2 ^ n → LF (Vq qs s) ≤ 20 := fun s hs => Vq_LF hq (by omega)
  have hL : (qs.map mkF).length = 2 ^ n := by simpa using hl
  unfold bridge_Potential
  rw [bridge_edits_eq hn hl (fun q h => by have := hq q h; unfold Lmax; omega), Option.bind_some, if_neg (by simp), hL]
  have hmk : mkL 64 ((2 ^ n : Nat) : Int) ((2 ^ n : Nat) : Int) (TFrac.mk (TBig.mk 0 ([])) (TBig.mk 0 ([]))) = some (List.replicate (2 ^ n) (TFrac.mk (TBig.mk 0 ([])) (TBig.mk 0 ([])))) := by
    have : maxLen = 140737488355328 ∨ (2 ^ n : Nat) ≤ maxLen := by right; unfold maxLen; omega
    unfold mkL
    rw [if_pos (by unfold maxLen; omega)]
    rfl
  rw [hmk, Option.bind_some, Int_f (by omega), Option.bind_some, idx_zero]
  rw [show (List.replicate (2 ^ n) (TFrac.mk (TBig.mk 0 ([])) (TBig.mk 0 ([]))))[0]? = some (TFrac.mk (TBig.mk 0 ([])) (TBig.mk 0 ([]))) from by rw [List.getElem?_replicate, if_pos h32.2], Option.bind_some]
  obtain ⟨r, h1, h2⟩ := loop_nat (body := bridge_Potential_L1 (qs.map mkF) ((n : Int), true))
    (I := fun i st => st.1 = ((i + 1 : Nat) : Int) ∧ st.2.length = 2 ^ n ∧ ∀ t, t < i + 1 → st.2[t]? = some (mkF (pot (Vq qs) n t))) (2 ^ n - 1) (fun r => r = Po (Vq qs) n)
    (s := (1, (List.replicate (2 ^ n) (TFrac.mk (TBig.mk 0 ([])) (TBig.mk 0 ([])))).set (0 : Nat) (mkF 0))) ⟨rfl, by simp, fun t ht => by
      have : t = 0 := by omega
      subst this
      rw [pot_zero, List.getElem?_set_self (by rw [List.length_replicate]; exact h32.2)]⟩ (lenFU (by omega)) (by
      rintro i ⟨s, l⟩ hi ⟨hs, hll, hP⟩
      simp only at hs hll hP
      subst hs
      simp only [bridge_Potential_L1]
      rw [hL]
      by_cases hin : i + 1 < 2 ^ n
      · left
        refine ⟨by omega, ?_⟩
        have e0 : idx (qs.map mkF) 0 = some (mkF (Vq qs 0)) := by rw [show (0 : Int) = ((0 : Nat) : Int) from rfl, idx_opt, Vq_get (by omega)]
        have hc := ones_fact n (by omega) (i + 1) hin
        have hcnt := (bits_fact n hn (i + 1) hin).2.1
        rw [if_pos (decide_eq_true (by omega)), idx_opt, Vq_get (by omega), Option.bind_some, e0, Option.bind_some,
          sub_q (by have := hV _ hin; unfold Kf; omega) (by have := hV 0 (by omega); unfold Kf; omega), Option.bind_some]
        have hx0 : LF (Vq qs (i + 1) - Vq qs 0) ≤ 100 := by
          have h4 := LF_sub (Vq qs (i + 1)) (Vq qs 0)
          have := hV _ hin
          have := hV 0 (by omega)
          omega
        rw [pot_inner hn hin hx0 (G := pot (Vq qs) n) hP (fun t ht => LF_pot hn hV (by omega)), Option.bind_some]
        simp only
        rw [hc, Option.bind_some, Int_f (by omega), Option.bind_some]
        have hLs := LF_sumN (n := n) (K := 777600) (x0 := Vq qs (i + 1) - Vq qs 0) (f := fun j => if (i + 1).testBit j then pot (Vq qs) n (i + 1 - 2 ^ j) else 0) (by
          intro j hj
          split
          · exact LF_pot hn hV (Nat.lt_of_le_of_lt (Nat.sub_le _ _) hin)
          · have := LF_zero; omega)
        have h5 : n * (777600 + 1) ≤ 5 * (777600 + 1) := Nat.mul_le_mul_right _ hn
        have hLc := LF_cnt hn hin
        have hd : frac_Div (mkF (Vq qs (i + 1) - Vq qs 0 + sumN n (fun j => if (i + 1).testBit j then pot (Vq qs) n (i + 1 - 2 ^ j) else 0))) (mkF (((cnt n (i + 1) : Nat) : Int) : Rat)) = some (mkF (pot (Vq qs) n (i + 1)), 0) := by
          rw [Rat.intCast_natCast, Div_f (by unfold Lmax; omega) (cnt_ne hn hin (by omega)), ← pot_rec hn hin (by omega)]
        erw [hd]
        rw [Option.bind_some]
        rw [idx_opt, List.getElem?_eq_getElem (by omega), Option.bind_some]
        refine ⟨_, rfl, by rw [w64 (by omega)]; omega, by simpa using hll, fun t ht => ?_⟩
        simp only [Int.toNat_natCast]
        by_cases htt : t = i + 1
        · subst htt
          rw [List.getElem?_set_self (by omega)]
        · rw [List.getElem?_set_ne (by omega)]
          exact hP t (by omega)
      · right
        refine ⟨_, by rw [if_neg (by rw [decide_eq_true_eq]; omega)], ?_⟩
        refine List.ext_getElem? fun t => ?_
        by_cases ht : t < 2 ^ n
        · rw [hP t (by omega), Po_get ht]
        · rw [List.getElem?_eq_none (by omega), List.getElem?_eq_none (by rw [Po_len]; omega)])
  erw [h1]
  rw [h2]
  rfl

theorem lt1 (hn : n ≤ 5) (i : Nat) : 2 ^ n - 1 - 2 ^ i < 2 ^ n := by
  have h32 := pow32 hn
  have := Nat.sub_le (2 ^ n - 1) (2 ^ i)
  omega
theorem LF_shr (hn : n ≤ 5) (hV : ∀ s, s < 2 ^ n → LF (V s) ≤ 20) {i : Nat} : LF (shr V n i) ≤ 1555201 := by
  have h32 := pow32 hn
  have h1 := LF_pot hn hV (s := 2 ^ n - 1) (by omega)
  have h2 := LF_pot hn hV (s := 2 ^ n - 1 - 2 ^ i) (lt1 hn i)
  have h3 := LF_sub (pot V n (2 ^ n - 1)) (pot V n (2 ^ n - 1 - 2 ^ i))
  unfold shr
  omega
theorem app64 {l : List TFrac} {x : TFrac} (h : l.length ≤ 1000) : appL 64 l [x] = some (l ++ [x]) := by
  unfold appL
  rw [if_pos (by unfold maxLen; simp; omega)]
theorem allN (hn : n ≤ 5) : IntKind.i64.wrap (((2 ^ n : Nat) : Int) - 1) = ((2 ^ n - 1 : Nat) : Int) := by
  have h32 := pow32 hn
  rw [w64 (by omega)]; omega
theorem allN_bit (hn : n ≤ 5) {i : Nat} (hi : i < n) : bitI .andNot .i64 ((2 ^ n - 1 : Nat) : Int) ((2 ^ i : Nat) : Int) = ((2 ^ n - 1 - 2 ^ i : Nat) : Int) := by
  have h32 := pow32 hn
  rcases bitN_fact (2 ^ n - 1) (by omega) i (by omega) with h | h
  · rw [(all_fact n hn).2 i hi] at h; cases h
  · exact h
theorem Shares_eq {qs : List Rat} (hn : n ≤ 5) (hl : qs.length = 2 ^ n) (hq : ∀ q ∈ qs, LF q ≤ 20) : bridge_Shares (qs.map mkF) = some (Sh (Vq qs) n, 0) := by
  have h32 := pow32 hn
  have hV : ∀ s, s < 2 ^ n → LF (Vq qs s) ≤ 20 := fun s hs => Vq_LF hq (by omega)
  have hL : (qs.map mkF).length = 2 ^ n := by simpa using hl
  unfold bridge_Shares
  rw [bridge_edits_eq hn hl (fun q h => by have := hq q h; unfold Lmax; omega), Option.bind_some, if_neg (by simp), Potential_eq hn hl hq, Option.bind_some]
  obtain ⟨r, h1, h2⟩ := loop_nat (body := bridge_Shares_L1 (qs.map mkF) ((n : Int), true) (Po (Vq qs) n))
    (I := fun i st => st = ((i : Int), (List.range i).map (fun i => mkF (shr (Vq qs) n i)))) n (fun r => r = Sh (Vq qs) n) (s := (0, [])) rfl (lenFU (by omega)) (by
      rintro i st hi rfl
      simp only [bridge_Shares_L1]
      rw [hL]
      by_cases hin : i < n
      · left
        refine ⟨hin, ?_⟩
        rw [if_pos (by simpa using hin), allN hn, shl1 i (by omega), idx_opt, Po_get (by omega), Option.bind_some, Option.bind_some, allN_bit hn hin, idx_opt, Po_get (lt1 hn i), Option.bind_some,
          sub_q (by have := LF_pot hn hV (s := 2 ^ n - 1) (by omega); unfold Kf; omega) (by have := LF_pot hn hV (s := 2 ^ n - 1 - 2 ^ i) (lt1 hn i); unfold Kf; omega), Option.bind_some, app64 (by simp; omega), Option.bind_some]
        refine ⟨_, rfl, ?_⟩
        rw [w64 (by omega), List.range_succ, List.map_append]
        rfl
      · right
        have : i = n := by omega
        subst this
        exact ⟨Sh (Vq qs) i, by rw [if_neg (by simp)]; rfl, rfl⟩)
  rw [h1, h2]
  rfl
end
end Go.Proofs.Ytoclpeomlofcjaa.P
