/- What the laws of the bridge share. -/
import Derived.Test.YtoclpeomlofcjaaHd
import Derived.WalkKit
namespace Go.Proofs.Ytoclpeomlofcjaa.P
open Go.RowKit
set_option linter.unusedSimpArgs false
set_option linter.unusedVariables false

theorem small_eq : l44_small = some true := by kernel_rfl
theorem Vlast {qs : List Rat} {n : Nat} (hn : n ≤ 5) (hl : qs.length = 2 ^ n) : idx (qs.map mkF) (IntKind.i64.wrap (((qs.map mkF).length : Int) - 1)) = some (mkF (Vq qs (2 ^ n - 1))) := by
  have h32 := pow32 hn
  rw [show (qs.map mkF).length = 2 ^ n by simpa using hl, allN hn, idx_opt, Vq_get (by omega)]
theorem Vzero {qs : List Rat} {n : Nat} (hn : n ≤ 5) (hl : qs.length = 2 ^ n) : idx (qs.map mkF) 0 = some (mkF (Vq qs 0)) := by
  have h32 := pow32 hn
  rw [idx_zero, Vq_get (by omega)]
theorem FitF_Fit {f : TFrac} (h : FitF f) : Fit f.f_P.f_Digits ∧ Fit f.f_Q.f_Digits := by
  have hL : Lbig = 17592186043904 := rfl
  unfold FitF at h
  unfold Fit
  omega
theorem few_sz {l : List TFrac} (h : ∀ f ∈ l, f.f_P.f_Digits.length ≤ 4 ∧ f.f_Q.f_Digits.length ≤ 4) : ∀ f ∈ l, SzF f := fun f hf => by
  have := h f hf
  unfold SzF Kf
  omega

def tau (a b i : Nat) : Nat := if i = a then b else if i = b then a else i
def swp (a b s : Nat) : Nat := if s.testBit a = s.testBit b then s else if s.testBit a = true then s - 2 ^ a + 2 ^ b else s - 2 ^ b + 2 ^ a
def chk1 (n a b : Nat) : Bool := swp a b 0 == 0 && swp a b (2 ^ n - 1) == 2 ^ n - 1 && ((List.range n).all fun i => decide (tau a b i < n)) && ((List.range (2 ^ n)).all fun s => decide (swp a b s < 2 ^ n) && (s == 0 || swp a b s != 0) &&
  ((List.range n).all fun i => (swp a b s).testBit (tau a b i) == s.testBit i && (!s.testBit i || swp a b (s - 2 ^ i) == swp a b s - 2 ^ (tau a b i))))
theorem chk1_all : ((List.range 6).all fun n => (List.range n).all fun a => (List.range n).all fun b => chk1 n a b) = true := by decide +kernel
theorem chk1_of {n a b : Nat} (hn : n < 6) (ha : a < n) (hb : b < n) : chk1 n a b = true := by
  have h := List.all_eq_true.1 chk1_all n (List.mem_range.2 hn)
  exact List.all_eq_true.1 (List.all_eq_true.1 h a (List.mem_range.2 ha)) b (List.mem_range.2 hb)
theorem swp_fact1 (n : Nat) (hn : n < 6) (a : Nat) (ha : a < n) (b : Nat) (hb : b < n) : swp a b 0 = 0 ∧ swp a b (2 ^ n - 1) = 2 ^ n - 1 ∧ (∀ i, i < n → tau a b i < n) ∧ ∀ s, s < 2 ^ n → swp a b s < 2 ^ n ∧ (s = 0 ∨ swp a b s ≠ 0) := by
  have h := chk1_of hn ha hb
  simp only [chk1, Bool.and_eq_true, List.all_eq_true, List.mem_range, beq_iff_eq, decide_eq_true_eq, Bool.or_eq_true, bne_iff_ne, ne_eq] at h
  exact ⟨h.1.1.1, h.1.1.2, h.1.2, fun s hs => ⟨(h.2 s hs).1.1, (h.2 s hs).1.2⟩⟩
theorem swp_fact2 (n : Nat) (hn : n < 6) (a : Nat) (ha : a < n) (b : Nat) (hb : b < n) (s : Nat) (hs : s < 2 ^ n) (i : Nat) (hi : i < n) : (swp a b s).testBit (tau a b i) = s.testBit i ∧ (s.testBit i = false ∨ swp a b (s - 2 ^ i) = swp a b s - 2 ^ (tau a b i)) := by
  have h := chk1_of hn ha hb
  simp only [chk1, Bool.and_eq_true, List.all_eq_true, List.mem_range, beq_iff_eq, decide_eq_true_eq, Bool.or_eq_true, bne_iff_ne, ne_eq, Bool.not_eq_true'] at h
  exact (h.2 s hs).2 i hi
def swc (s x5 x7 : Int) : Option Int :=
  (shlI .i64 1 x5).bind fun x41 =>
  (shlI .i64 1 x7).bind fun x43 =>
  (shrI .i64 s x5).bind fun x45 =>
  (shlI .i64 (bitI .and .i64 x45 1) x7).bind fun x47 =>
  (shrI .i64 s x7).bind fun x49 =>
  (shlI .i64 (bitI .and .i64 x49 1) x5).bind fun x51 =>
  some (bitI .or .i64 (bitI .or .i64 (bitI .andNot .i64 s (bitI .or .i64 x41 x43)) x47) x51)
theorem swc_all : ((List.range 32).all fun s => (List.range 5).all fun a => (List.range 5).all fun b => swc (s : Int) (a : Int) (b : Int) == some ((swp a b s : Nat) : Int)) = true := by decide +kernel
theorem swc_fact (s : Nat) (hs : s < 32) (a : Nat) (ha : a < 5) (b : Nat) (hb : b < 5) : swc (s : Int) (a : Int) (b : Int) = some ((swp a b s : Nat) : Int) := by
  have h := swc_all
  simp only [List.all_eq_true, List.mem_range, beq_iff_eq] at h
  exact h s hs a ha b hb
theorem swc_bind {ρ : Type} {s x5 x7 : Int} {f : Int → Option ρ} : ((shlI .i64 1 x5).bind fun x41 =>
  (shlI .i64 1 x7).bind fun x43 =>
  (shrI .i64 s x5).bind fun x45 =>
  (shlI .i64 (bitI .and .i64 x45 1) x7).bind fun x47 =>
  (shrI .i64 s x7).bind fun x49 =>
  (shlI .i64 (bitI .and .i64 x49 1) x5).bind fun x51 => f (bitI .or .i64 (bitI .or .i64 (bitI .andNot .i64 s (bitI .or .i64 x41 x43)) x47) x51)) = (swc s x5 x7).bind f := by
  unfold swc
  simp only [Option.bind_assoc, Option.bind_some]

theorem sumN_split {n a : Nat} (f : Nat → Rat) (h : a < n) : sumN n f = f a + sumN n (fun i => if i = a then 0 else f i) := by
  induction n with
  | zero => omega
  | succ n ih =>
    simp only [sumN]
    by_cases ha : a = n
    · subst ha
      rw [if_pos rfl, sumN_congr (n := a) (f := fun i => if i = a then 0 else f i) (g := f) (fun i hi => by rw [if_neg (by omega)])]
      grind
    · rw [if_neg (by omega), ih (by omega)]
      grind
theorem sumN_tau {n a b : Nat} (f : Nat → Rat) (ha : a < n) (hb : b < n) : sumN n (fun i => f (tau a b i)) = sumN n f := by
  by_cases hab : a = b
  · subst hab
    refine sumN_congr fun i _ => ?_
    unfold tau
    split
    · rename_i h; rw [h]
    · rfl
  · have L1 := sumN_split (fun i => f (tau a b i)) ha
    have L2 := sumN_split (fun i => if i = a then 0 else f (tau a b i)) hb
    have R1 := sumN_split f ha
    have R2 := sumN_split (fun i => if i = a then 0 else f i) hb
    have e1 : tau a b a = b := by unfold tau; rw [if_pos rfl]
    have e2 : tau a b b = a := by unfold tau; rw [if_neg (Ne.symm hab), if_pos rfl]
    have e3 : sumN n (fun i => if i = b then 0 else if i = a then 0 else f (tau a b i)) = sumN n (fun i => if i = b then 0 else if i = a then 0 else f i) := by
      refine sumN_congr fun i _ => ?_
      by_cases h1 : i = b
      · rw [if_pos h1, if_pos h1]
      · rw [if_neg h1, if_neg h1]
        by_cases h2 : i = a
        · rw [if_pos h2, if_pos h2]
        · rw [if_neg h2, if_neg h2]
          unfold tau
          rw [if_neg h2, if_neg h1]
    try simp only at L1 L2 R1 R2
    rw [if_neg (Ne.symm hab), e2] at L2
    rw [if_neg (Ne.symm hab)] at R2
    rw [e1] at L1
    rw [L1, R1, L2, R2, e3]
    grind

section
variable {V W U : Nat → Rat} {n : Nat}
theorem pot_sum (hn : n ≤ 5) {c : Rat} (h : ∀ s, s < 2 ^ n → U s = V s + W s + c) : ∀ s, s < 2 ^ n → pot U n s = pot V n s + pot W n s := by
  have h32 := pow32 hn
  intro s hs
  refine (pot_unique hn (p := fun s => pot V n s + pot W n s) (by simp only [pot_zero]; grind) (fun s hs h0 => ?_) s hs).symm
  rw [h s hs, h 0 h32.2]
  have h1 := pot_eq (V := V) hn hs h0
  have h2 := pot_eq (V := W) hn hs h0
  have e : sumN n (fun i => if s.testBit i then (pot V n s + pot W n s) - (pot V n (s - 2 ^ i) + pot W n (s - 2 ^ i)) else 0) = sumN n (fun i => if s.testBit i then pot V n s - pot V n (s - 2 ^ i) else 0) + sumN n (fun i => if s.testBit i then pot W n s - pot W n (s - 2 ^ i) else 0) := by
    rw [← sumN_add]
    refine sumN_congr fun i _ => ?_
    split <;> grind
  rw [e, h1, h2]
  grind
theorem shr_sums (hn : n ≤ 5) {c : Rat} (h : ∀ s, s < 2 ^ n → U s = V s + W s + c) (i : Nat) : shr U n i = shr V n i + shr W n i := by
  have h32 := pow32 hn
  unfold shr
  rw [pot_sum hn h _ (by omega), pot_sum hn h _ (lt1 hn i)]
  grind
theorem pot_swap (hn : n ≤ 5) {a b : Nat} (ha : a < n) (hb : b < n) (h : ∀ s, s < 2 ^ n → U s = V (swp a b s)) : ∀ s, s < 2 ^ n → pot U n s = pot V n (swp a b s) := by
  have h32 := pow32 hn
  have f1 := swp_fact1 n (by omega) a ha b hb
  have f2 := swp_fact2 n (by omega) a ha b hb
  intro s hs
  refine (pot_unique hn (p := fun s => pot V n (swp a b s)) (by simp only [f1.1, pot_zero]) (fun s hs h0 => ?_) s hs).symm
  have hne : swp a b s ≠ 0 := (f1.2.2.2 s hs).2.resolve_left h0
  rw [h s hs, h 0 h32.2, f1.1, ← pot_eq (V := V) hn (f1.2.2.2 s hs).1 hne]
  rw [← sumN_tau (a := a) (b := b) (fun i => if (swp a b s).testBit i then pot V n (swp a b s) - pot V n (swp a b s - 2 ^ i) else 0) ha hb]
  refine sumN_congr fun i hi => ?_
  have := f2 s hs i hi
  simp only [this.1]
  by_cases hb : s.testBit i = true
  · rw [if_pos hb, if_pos hb, this.2.resolve_left (by rw [hb]; decide)]
  · rw [if_neg hb, if_neg hb]
theorem shr_swap (hn : n ≤ 5) {a b : Nat} (ha : a < n) (hb : b < n) (h : ∀ s, s < 2 ^ n → U s = V (swp a b s)) {i : Nat} (hi : i < n) : shr U n i = shr V n (tau a b i) := by
  have h32 := pow32 hn
  have f1 := swp_fact1 n (by omega) a ha b hb
  have f2 := swp_fact2 n (by omega) a ha b hb (2 ^ n - 1) (by omega) i hi
  unfold shr
  rw [pot_swap hn ha hb h _ (by omega), pot_swap hn ha hb h _ (lt1 hn i), f2.2.resolve_left (by rw [(all_fact n hn).2 i hi]; decide), f1.2.1]
end

/-- The remainder of a small number. -/
theorem mod_small {x : Int} {n : Nat} (hx : (Lit.int .u8 x).wf = true) (hn : 0 < n) : ∃ a : Nat, a < n ∧ modI .i64 (IntKind.i64.wrap x) (n : Int) = some (a : Int) := by
  have hx : 0 ≤ x ∧ x ≤ 255 := by
    simpa [Lit.wf, IntKind.min, IntKind.max, IntKind.signed, IntKind.bits] using hx
  refine ⟨(x.tmod n).toNat, ?_, ?_⟩
  · have h1 := Int.tmod_lt_of_pos x (show (0 : Int) < n by omega)
    have h2 := Int.tmod_nonneg (n : Int) hx.1
    omega
  · unfold modI
    have h2 := Int.tmod_nonneg (n : Int) hx.1
    rw [if_neg (by omega), w64 (by omega), Int.toNat_of_nonneg h2]
theorem r05_same_mk {a b : Rat} (h : LF a ≤ Lmax) : r05_Same (mkF a) (mkF b) = some (decide (a = b)) := by
  have hF := FitF_Fit (FitF_mk h)
  rw [same5 hF.1 hF.2]
  congr 1
  by_cases hab : a = b
  · rw [hab, decide_eq_true rfl, decide_eq_true rfl]
  · rw [decide_eq_false (fun h => hab (mkF_inj h)), decide_eq_false hab]

end Go.Proofs.Ytoclpeomlofcjaa.P
