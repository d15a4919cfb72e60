/- What the laws of the bridge share. -/
import Derived.Test.YtoclpeomlofcjaaHd
import Derived.WalkKit
namespace Go.Proofs.Ytoclpeomlofcjaa.P
open Go.RowKit
set_option linter.unusedSimpArgs false
set_option linter.unusedVariables false

theorem small_eq : l44_small = some true := by kernel_rfl
theorem Vlast {qs : List Rat} {n : Nat} (hn : n ≤ 5) (hl : qs.length = 2 ^ n) : idx (qs.map mkF) (IntKind.i64.wrap (((qs.map mkF).length : Int) - 1)) = some (mkF (Vq qs (2 ^ n - 1))) := by
  have h32 := pow32 hn
  rw [show (qs.map mkF).length = 2 ^ n by simpa using hl, allN hn, idx_opt, Vq_get (by omega)]
theorem Vzero {qs : List Rat} {n : Nat} (hn : n ≤ 5) (hl : qs.length = 2 ^ n) : idx (qs.map mkF) 0 = some (mkF (Vq qs 0)) := by
  have h32 := pow32 hn
  rw [idx_zero, Vq_get (by omega)]
theorem FitF_Fit {f : TFrac} (h : FitF f) : Fit f.f_P.f_Digits ∧ Fit f.f_Q.f_Digits := by
  have hL : Lbig = 17592186043904 := rfl
  unfold FitF at h
  unfold Fit
  omega
theorem few_sz {l : List TFrac} (h : ∀ f ∈ l, f.f_P.f_Digits.length ≤ 4 ∧ f.f_Q.f_Digits.length ≤ 4) : ∀ f ∈ l, SzF f := fun f hf => by
  have := h f hf
  unfold SzF Kf
  omega

theorem sumN_split {n a : Nat} (f : Nat → Rat) (h : a < n) : sumN n f = f a + sumN n (fun i => if i = a then 0 else f i) := by
  induction n with
  | zero => omega
  | succ n ih =>
    simp only [sumN]
    by_cases ha : a = n
    · subst ha
      rw [if_pos rfl, sumN_congr (n := a) (f := fun i => if i = a then 0 else f i) (g := f) (fun i hi => by rw [if_neg (by omega)])]
      grind
    · rw [if_neg (by omega), ih (by omega)]
      grind
/-- The remainder of a small number. -/
theorem mod_small {x : Int} {n : Nat} (hx : (Lit.int .u8 x).wf = true) (hn : 0 < n) : ∃ a : Nat, a < n ∧ modI .i64 (IntKind.i64.wrap x) (n : Int) = some (a : Int) := by
  have hx : 0 ≤ x ∧ x ≤ 255 := by
    simpa [Lit.wf, IntKind.min, IntKind.max, IntKind.signed, IntKind.bits] using hx
  refine ⟨(x.tmod n).toNat, ?_, ?_⟩
  · have h1 := Int.tmod_lt_of_pos x (show (0 : Int) < n by omega)
    have h2 := Int.tmod_nonneg (n : Int) hx.1
    omega
  · unfold modI
    have h2 := Int.tmod_nonneg (n : Int) hx.1
    rw [if_neg (by omega), w64 (by omega), Int.toNat_of_nonneg h2]
theorem r05_same_mk {a b : Rat} (h : LF a ≤ Lmax) : r05_Same (mkF a) (mkF b) = some (decide (a = b)) := by
  have hF := FitF_Fit (FitF_mk h)
  rw [same5 hF.1 hF.2]
  congr 1
  by_cases hab : a = b
  · rw [hab, decide_eq_true rfl, decide_eq_true rfl]
  · rw [decide_eq_false (fun h => hab (mkF_inj h)), decide_eq_false hab]

end Go.Proofs.Ytoclpeomlofcjaa.P
