/- The law of the whole. -/
import Derived.Test.YtoclpeomlofcjaaHd
namespace Go.Proofs.Ytoclpeomlofcjaa.P
open Go.RowKit
set_option linter.unusedSimpArgs false
set_option linter.unusedVariables false

theorem small_eq : l44_small = some true := by kernel_rfl
theorem Vlast {qs : List Rat} {n : Nat} (hn : n ≤ 5) (hl : qs.length = 2 ^ n) : idx (qs.map mkF) (IntKind.i64.wrap (((qs.map mkF).length : Int) - 1)) = some (mkF (Vq qs (2 ^ n - 1))) := by
  have h32 := pow32 hn
  rw [show (qs.map mkF).length = 2 ^ n by simpa using hl, allN hn, idx_opt, Vq_get (by omega)]
theorem Vzero {qs : List Rat} {n : Nat} (hn : n ≤ 5) (hl : qs.length = 2 ^ n) : idx (qs.map mkF) 0 = some (mkF (Vq qs 0)) := by
  have h32 := pow32 hn
  rw [idx_zero, Vq_get (by omega)]
theorem FitF_Fit {f : TFrac} (h : FitF f) : Fit f.f_P.f_Digits ∧ Fit f.f_Q.f_Digits := by
  have hL : Lbig = 17592186043904 := rfl
  unfold FitF at h
  unfold Fit
  omega
theorem few_sz {l : List TFrac} (h : ∀ f ∈ l, f.f_P.f_Digits.length ≤ 4 ∧ f.f_Q.f_Digits.length ≤ 4) : ∀ f ∈ l, SzF f := fun f hf => by
  have := h f hf
  unfold SzF Kf
  omega

theorem BridgeWhole_eq (a0 a1 a2 : List TFrac) (h0 : a0.length ≤ 17592186044416) (h1 : a1.length ≤ 17592186044416) (h2 : a2.length ≤ 17592186044416) (g0 : ∀ f ∈ a0, FitF f) (g1 : ∀ f ∈ a1, FitF f) (g2 : ∀ f ∈ a2, FitF f) :
    l44_BridgeWhole a0 a1 a2 = some true := by
  obtain ⟨r, e1, e2⟩ := edits_eq h0 g0
  obtain ⟨b1, f1, f1'⟩ := few_eq h1
  obtain ⟨b2, f2, f2'⟩ := few_eq h2
  unfold l44_BridgeWhole
  rw [small_eq, Option.bind_some, e1, Option.bind_some]
  rcases e2 with hr | ⟨n, hn, rfl, qs, rfl, hl, hq⟩
  · rw [if_pos (decide_eq_true hr)]; rfl
  rw [if_neg (by simp)]
  rw [f1, Option.bind_some]
  cases b1 with
  | false => rfl
  | true =>
  rw [f2]
  cases b2 with
  | false => rfl
  | true =>
  have h32 := pow32 hn
  have hq20 : ∀ q ∈ qs, LF q ≤ 20 := fun q h => Nat.le_trans (hq q h) (by decide)
  have hV : ∀ s, s < 2 ^ n → LF (Vq qs s) ≤ 20 := fun s hs => Vq_LF hq20 (by omega)
  have hs1 := few_sz (f1' rfl)
  have hs2 := few_sz (f2' rfl)
  have hsh := Sz_Sh hn hV
  have hpo := Sz_Po hn hV
  have htot : l44_total (Sh (Vq qs) n) = some (mkF (Vq qs (2 ^ n - 1) - Vq qs 0)) := by
    rw [total_eq (H := shr (Vq qs) n) hn Sh_len (fun t ht => Sh_get ht) (fun t _ => by have := LF_shr hn hV (i := t); unfold Kf; omega), shr_sum hn]
  have hsub : frac_Sub (mkF (Vq qs (2 ^ n - 1))) (mkF (Vq qs 0)) = some (mkF (Vq qs (2 ^ n - 1) - Vq qs 0), 0) := Sub_f (by
    have := hV (2 ^ n - 1) (by omega)
    have := hV 0 (by omega)
    unfold Lmax; omega)
  have hsame : r05_Same (mkF (Vq qs (2 ^ n - 1) - Vq qs 0)) (mkF (Vq qs (2 ^ n - 1) - Vq qs 0)) = some true := by
    have hF := FitF_Fit (FitF_mk (q := Vq qs (2 ^ n - 1) - Vq qs 0) (by
      have := LF_sub (Vq qs (2 ^ n - 1)) (Vq qs 0)
      have := hV (2 ^ n - 1) (by omega)
      have := hV 0 (by omega)
      unfold Lmax; omega))
    rw [same5 hF.1 hF.2, decide_eq_true rfl]
  have hch : bridge_Check (qs.map mkF) (Sh (Vq qs) n) (Po (Vq qs) n) = some true := by
    rw [Check_eq hn hl hq20 hsh hpo (by rw [Sh_len]; omega), decide_eq_true ⟨rfl, rfl⟩]
  simp only [Bool.not_true, Bool.false_eq_true, if_false, Option.bind_some]
  rw [Shares_eq hn hl hq20, Potential_eq hn hl hq20, Option.bind_some, Option.bind_some, Vlast hn hl, Option.bind_some, Vzero hn hl, Option.bind_some, hsub, Option.bind_some]
  simp only [Sh_len, bne_self_eq_false, Bool.false_eq_true, if_false]
  rw [htot, Option.bind_some, hsame, Option.bind_some]
  simp only [Bool.not_true, Bool.false_eq_true, if_false]
  rw [hch, Option.bind_some, Option.bind_some]
  simp only [Bool.not_true, Bool.false_eq_true, if_false]
  rw [sameList h1 g1, Option.bind_some, sameList h2 g2, Check_eq hn hl hq20 hs1 hs2 h1]
  by_cases ha : a1 = Sh (Vq qs) n
  · by_cases hb : a2 = Po (Vq qs) n
    · simp [ha, hb]
    · simp [ha, hb]
  · simp [ha]
end Go.Proofs.Ytoclpeomlofcjaa.P
