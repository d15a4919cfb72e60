/- The program's whole numbers with a sign. -/
import Derived.Test.YtadpbhbkdnfbpaaFf
namespace Go.Proofs.Ytadpbhbkdnfbpaa.P
open Go.RowKit
set_option linter.unusedSimpArgs false
set_option linter.unusedVariables false

/-- A whole number as the program holds it. -/
def mkB (x : Int) : TBig := TBig.mk x.sign (digs x.natAbs)
/-- How many digits it has. -/
def Ln (x : Int) : Nat := (digs x.natAbs).length
/-- So long may numbers be. -/
def Lmax : Nat := 4398046511104
/-- So long may they be where they are read. -/
def Lbig : Nat := 17592186043904
theorem Lmax_big {n : Nat} (h : n ≤ Lmax) : n ≤ Lbig := Nat.le_trans h (by decide)

theorem mkB_zero : mkB 0 = TBig.mk 0 [] := by unfold mkB; rw [show (0 : Int).natAbs = 0 from rfl, digs_zero]; rfl
theorem mkB_inj {x y : Int} (h : mkB x = mkB y) : x = y := by
  unfold mkB at h
  simp only [TBig.mk.injEq] at h
  have := digs_inj h.2
  have h1 := Int.sign_mul_natAbs x
  have h2 := Int.sign_mul_natAbs y
  rw [← h1, ← h2, h.1, this]

theorem Ln_le {x : Int} {k : Nat} (h : (x.natAbs : Int) < pw k) : Ln x ≤ k := digs_len_le h
theorem lt_Ln (x : Int) : (x.natAbs : Int) < pw (Ln x) := lt_pw_digs _
theorem Ln_mono {x y : Int} (h : x.natAbs ≤ y.natAbs) : Ln x ≤ Ln y := digs_len_mono h
theorem Ln_neg (x : Int) : Ln (-x) = Ln x := by unfold Ln; rw [Int.natAbs_neg]
theorem Ln_add (x y : Int) : Ln (x + y) ≤ max (Ln x) (Ln y) + 1 := by
  apply Ln_le
  have h1 := lt_Ln x
  have h2 := lt_Ln y
  have h3 := pw_mono (i := Ln x) (j := max (Ln x) (Ln y)) (by omega)
  have h4 := pw_mono (i := Ln y) (j := max (Ln x) (Ln y)) (by omega)
  have h5 := Int.natAbs_add_le x y
  rw [pw_succ]
  omega
theorem Ln_mul (x y : Int) : Ln (x * y) ≤ Ln x + Ln y := by
  apply Ln_le
  have h1 := lt_Ln x
  have h2 := lt_Ln y
  rw [Int.natAbs_mul, Int.natCast_mul, pw_add]
  have hx := pw_pos (Ln x)
  calc (x.natAbs : Int) * y.natAbs ≤ pw (Ln x) * y.natAbs := Int.mul_le_mul_of_nonneg_right (by omega) (by omega)
    _ < pw (Ln x) * pw (Ln y) := Int.mul_lt_mul_of_pos_left h2 hx
theorem Ln_small {x : Int} (h : x.natAbs < 1048576) : Ln x ≤ 1 := Ln_le (by rw [pw_succ, pw_zero]; omega)
theorem Ln_zero : Ln 0 = 0 := by unfold Ln; rw [show (0 : Int).natAbs = 0 from rfl, digs_zero]; rfl

/-! Is it right? -/
instance (l : List Int) : Decidable (Dg l) := by unfold Dg; infer_instance
def okB (b : TBig) : Bool := decide (Dg b.f_Digits) && (match b.f_Digits.getLast? with | none => b.f_Sign == 0 | some d => (b.f_Sign == 1 || b.f_Sign == -1) && d != 0)

theorem okB_iff {b : TBig} : okB b = true ↔ ∃ x, b = mkB x := by
  obtain ⟨s, l⟩ := b
  unfold okB
  simp only [Bool.and_eq_true, decide_eq_true_eq]
  constructor
  · rintro ⟨hd, h⟩
    cases hl : l.getLast? with
    | none =>
      rw [hl] at h
      have : l = [] := List.getLast?_eq_none_iff.1 hl
      subst this
      exact ⟨0, by rw [mkB_zero]; simpa using h⟩
    | some d =>
      rw [hl] at h
      simp only [Bool.and_eq_true, Bool.or_eq_true, beq_iff_eq, bne_iff_ne] at h
      have hne : l ≠ [] := by intro h0; subst h0; simp at hl
      have hlast : ∀ h : l ≠ [], l.getLast h ≠ 0 := by
        intro h'
        rw [List.getLast?_eq_some_getLast h'] at hl
        cases hl
        exact h.2
      have e := digs_dv hd hlast
      have h0 : (dv l).toNat ≠ 0 := by
        intro h0
        rw [h0, digs_zero] at e
        exact hne e.symm
      have hn := dv_nonneg hd
      refine ⟨s * dv l, ?_⟩
      unfold mkB
      rcases h.1 with rfl | rfl
      · rw [Int.one_mul, Int.sign_eq_one_of_pos (by omega)]
        have : (dv l).natAbs = (dv l).toNat := by omega
        rw [this, e]
      · rw [Int.neg_mul, Int.one_mul, Int.sign_neg, Int.sign_eq_one_of_pos (by omega)]
        have : (-dv l).natAbs = (dv l).toNat := by omega
        rw [this, e]
  · rintro ⟨x, hx⟩
    unfold mkB at hx
    simp only [TBig.mk.injEq] at hx
    obtain ⟨rfl, rfl⟩ := hx
    refine ⟨dg_digs _, ?_⟩
    by_cases h0 : x = 0
    · subst h0; simp [digs_zero]
    · have hne : digs x.natAbs ≠ [] := fun h => h0 (by have := digs_nil.1 h; omega)
      rw [List.getLast?_eq_some_getLast hne]
      have h1 := digs_last _ hne
      simp only [Bool.and_eq_true, Bool.or_eq_true, beq_iff_eq, bne_iff_ne]
      refine ⟨?_, h1⟩
      rcases Int.lt_trichotomy x 0 with h | h | h
      · right; exact Int.sign_eq_neg_one_of_neg h
      · exact absurd h h0
      · left; exact Int.sign_eq_one_of_pos h
theorem okB_mk (x : Int) : okB (mkB x) = true := okB_iff.2 ⟨x, rfl⟩

theorem right_eq {b : TBig} (hf : Fit b.f_Digits) : big_Right b = some (okB b) := by
  obtain ⟨s, l⟩ := b
  simp only [Fit] at hf
  have key : ∃ r, loopL (big_Right_L1 ⟨s, l⟩) 0 = some r ∧ (match r with | .inl _ => Dg l | .inr x => x = false ∧ ¬ Dg l) := by
    refine loop_nat (I := fun i s => s = (i : Int) ∧ Dg (l.take i)) l.length _ ⟨rfl, by simpa using Dg.nil⟩ (lenFU hf) ?_
    rintro i s hi ⟨rfl, hd⟩
    simp only [big_Right_L1]
    by_cases hlt : i < l.length
    · rw [if_pos (by simpa using hlt), idx_nat hlt, Option.bind_some]
      by_cases h1 : l[i] < 0
      · right
        exact ⟨.inr false, by rw [if_pos (by simpa using h1)], rfl, fun hh => by have := hh.get hlt; omega⟩
      · by_cases h2 : l[i] > 1048575
        · right
          exact ⟨.inr false, by rw [if_neg (by simpa using h1), if_pos (by simpa using h2)], rfl, fun hh => by have := hh.get hlt; omega⟩
        · left
          refine ⟨hlt, _, by rw [if_neg (by simpa using h1), if_neg (by simpa using h2)], by rw [w64 (by omega)]; omega, ?_⟩
          have e : l.take (i + 1) = l.take i ++ [l[i]] := by rw [List.take_add_one]; simp [hlt]
          rw [e]
          exact hd.append (Dg.mk (by omega) Dg.nil)
    · right
      have : i = l.length := by omega
      subst this
      rw [List.take_length] at hd
      exact ⟨.inl (), by rw [if_neg (by simp)], hd⟩
  obtain ⟨r, h1, h2⟩ := key
  unfold big_Right okB
  rw [h1, Option.bind_some]
  cases r with
  | inr x =>
    obtain ⟨rfl, h⟩ := h2
    simp [h]
  | inl u =>
    simp only at h2 ⊢
    simp only [h2, decide_true, Bool.true_and]
    by_cases h0 : l = []
    · subst h0; simp
    · have hp : 0 < l.length := List.length_pos_iff.2 h0
      have e : IntKind.i64.wrap ((l.length : Int) - 1) = ((l.length - 1 : Nat) : Int) := by rw [w64 (by omega)]; omega
      rw [if_neg (by simpa using h0), e, idx_nat (by omega), List.getLast?_eq_some_getLast h0, List.getLast_eq_getElem]
      simp only [Option.bind_some]
      by_cases hs : s = 1
      · subst hs; simp
      · rw [if_neg (by simpa using hs)]
        by_cases hs' : s = -1
        · subst hs'; simp
        · rw [if_neg (by simpa using hs')]
          simp [hs, hs']
theorem right_mk {x : Int} (h : Ln x ≤ 17592186044416) : big_Right (mkB x) = some true := by
  rw [right_eq (show Fit (mkB x).f_Digits from h), okB_mk]

theorem signed_of {s : Int} {l : List Int} (x : Int) (hf : Fit l) (hd : Dg l) (hv : dv l = x.natAbs) (hs : x ≠ 0 → s = x.sign) : big_signed s l = some (mkB x) := by
  unfold big_signed
  rw [trim_of hf hd hv, Option.bind_some]
  by_cases h0 : x = 0
  · subst h0
    rw [show (0 : Int).natAbs = 0 from rfl, digs_zero, mkB_zero]; rfl
  · have : digs x.natAbs ≠ [] := fun h => h0 (by have := digs_nil.1 h; omega)
    rw [if_neg (by simpa using this), hs h0]; rfl

theorem checked_true (b : TBig) : big_checked true b = some (b, 0) := rfl
theorem sign_or (x : Int) : x.sign = -1 ∨ x.sign = 0 ∨ x.sign = 1 := by
  rcases Int.lt_trichotomy x 0 with h | h | h
  · left; exact Int.sign_eq_neg_one_of_neg h
  · subst h; right; left; rfl
  · right; right; exact Int.sign_eq_one_of_pos h

theorem Neg_eq {x : Int} (h : Ln x ≤ Lmax) : big_Neg (mkB x) = some (mkB (-x)) := by
  unfold big_Neg
  have hL : Lmax = 4398046511104 := rfl
  rw [right_mk (by omega), Option.bind_some]
  simp only [Bool.not_true, Bool.false_eq_true, if_false]
  have hf : Fit (mkB x).f_Digits := by unfold Fit; show Ln x ≤ _; omega
  rw [clone_eq hf, Option.bind_some, signed_of (-x) hf (dg_digs _) (by show dv (digs _) = _; rw [dv_digs, Int.natAbs_neg]), Option.bind_some]
  intro h0
  show IntKind.i64.wrap (0 - x.sign) = _
  rw [w64 (by have := sign_or x; omega), Int.sign_neg, Int.zero_sub]

theorem sign_abs (x : Int) : x.sign = 1 ∧ x = x.natAbs ∧ 0 < x ∨ x.sign = -1 ∧ x = -x.natAbs ∧ x < 0 ∨ x.sign = 0 ∧ x = 0 := by
  rcases Int.lt_trichotomy x 0 with h | h | h
  · right; left; exact ⟨Int.sign_eq_neg_one_of_neg h, by omega, h⟩
  · subst h; right; right; exact ⟨rfl, rfl⟩
  · left; exact ⟨Int.sign_eq_one_of_pos h, by omega, h⟩

theorem sumDigits {x : Int} {s : Int} {n : Nat} (hn : n = x.natAbs) (hs : x ≠ 0 → s = x.sign) (hL : n ≠ 0 → (digs n).length ≤ 17592186044416) : big_signed s (digs n) = some (mkB x) := by
  subst hn
  refine signed_of x ?_ (dg_digs _) (dv_digs _) hs
  unfold Fit
  by_cases h : x.natAbs = 0
  · rw [h, digs_zero]; simp
  · exact hL h

theorem Mul_eq {x y : Int} (hx : Ln x ≤ Lmax) (hy : Ln y ≤ Lmax) : big_Mul (mkB x) (mkB y) = some (mkB (x * y), 0) := by
  have hL : Lmax = 4398046511104 := rfl
  have hLa := Ln_mul x y
  unfold big_Mul
  rw [right_mk (by omega), Option.bind_some]
  simp only [Bool.not_true, Bool.false_eq_true, if_false]
  rw [right_mk (by omega), Option.bind_some, Option.bind_some]
  simp only [Bool.not_true, Bool.false_eq_true, if_false]
  have hxd : (mkB x).f_Digits = digs x.natAbs := rfl
  have hyd : (mkB y).f_Digits = digs y.natAbs := rfl
  have hxs : (mkB x).f_Sign = x.sign := rfl
  have hys : (mkB y).f_Sign = y.sign := rfl
  rw [hxd, hyd, hxs, hys]
  have fx : (digs x.natAbs).length ≤ 4398046511104 := by show Ln x ≤ _; omega
  have fy : (digs y.natAbs).length ≤ 4398046511104 := by show Ln y ≤ _; omega
  have hw : IntKind.i64.wrap (x.sign * y.sign) = (x * y).sign := by
    rw [Int.sign_mul]
    apply w64
    rcases sign_or x with h | h | h <;> rcases sign_or y with g | g | g <;> rw [h, g] <;> decide
  rw [hw, mul_eq (dg_digs _) (dg_digs _) (by omega), Option.bind_some, dv_digs, dv_digs]
  have hn : ((x.natAbs : Int) * y.natAbs).toNat = (x * y).natAbs := by rw [Int.natAbs_mul, ← Int.natCast_mul]; rfl
  rw [hn, sumDigits (x := x * y) rfl (fun _ => rfl) (fun _ => by show Ln (x * y) ≤ _; omega), Option.bind_some, checked_true, Option.bind_some]
theorem times_eq {x y : Int} (hx : Ln x ≤ Lmax) (hy : Ln y ≤ Lmax) : frac_times (mkB x) (mkB y) = some (mkB (x * y)) := by
  unfold frac_times
  rw [Mul_eq hx hy]; rfl

/-! The greatest common divisor. -/
def lg (n : Nat) : Nat := if n = 0 then 0 else n.log2 + 1
theorem lg_zero : lg 0 = 0 := rfl
theorem lg_lt {r x : Nat} (h : 2 * r < x) : lg r < lg x := by
  unfold lg
  rw [if_neg (show x ≠ 0 by omega)]
  by_cases h0 : r = 0
  · rw [if_pos h0]; omega
  · rw [if_neg h0]
    have h1 := Nat.log2_self_le h0
    have h2 := @Nat.lt_log2_self x
    have : 2 ^ (r.log2 + 1) < 2 ^ (x.log2 + 1) := by rw [Nat.pow_succ]; omega
    have := (Nat.pow_lt_pow_iff_right (by decide : 1 < 2)).1 this
    omega
theorem lg_le {n k : Nat} (h : (n : Int) < pw k) : lg n ≤ 20 * k := by
  unfold lg
  by_cases h0 : n = 0
  · rw [if_pos h0]; omega
  · rw [if_neg h0]
    have : n < 2 ^ (20 * k) := by
      have : pw k = ((2 ^ (20 * k) : Nat) : Int) := by
        unfold pw
        rw [Nat.pow_mul, Int.natCast_pow]; rfl
      omega
    have := (Nat.log2_lt h0).2 this
    omega

theorem gcd_loop {a b : Nat} (ha : (digs a).length ≤ Lbig) (hb : (digs b).length ≤ Lbig) : loopL big_Gcd_L2 (digs a, digs b) = some (digs (Nat.gcd a b)) := by
  have hL : Lbig = 17592186043904 := rfl
  have key : ∃ r, loopL big_Gcd_L2 (digs a, digs b) = some r ∧ r = digs (Nat.gcd a b) := by
    have la := lg_le (lt_pw_digs a)
    have lb := lg_le (lt_pw_digs b)
    -- the numbers behind the state
    let val : List Int → Nat := fun l => (dv l).toNat
    have hval : ∀ n, val (digs n) = n := fun n => by show (dv (digs n)).toNat = n; rw [dv_digs]; rfl
    refine loopL_of (I := fun (s : List Int × List Int) => ∃ x y, s = (digs x, digs y) ∧ Nat.gcd x y = Nat.gcd a b ∧ (digs x).length ≤ Lbig ∧ (digs y).length ≤ Lbig)
      (μ := fun (s : List Int × List Int) => lg (val s.1) + lg (val s.2) + (if val s.1 < val s.2 then 1 else 0)) _ ⟨a, b, rfl, rfl, ha, hb⟩ (by simp only [hval]; unfold FU; split <;> omega) ?_
    rintro _ ⟨x, y, rfl, hg, hx, hy⟩
    simp only [big_Gcd_L2]
    by_cases h0 : y = 0
    · right
      subst h0
      refine ⟨_, by rw [digs_zero, if_neg (by simp)], ?_⟩
      rw [← hg, Nat.gcd_zero_right]
    · left
      have hne : 0 < (digs y).length := List.length_pos_iff.2 (fun h => h0 (digs_nil.1 h))
      rw [if_pos (by simpa using hne), div_eq h0 (by omega) (by omega), Option.bind_some]
      have hlt := Nat.mod_lt x (Nat.pos_of_ne_zero h0)
      refine ⟨_, rfl, ⟨y, x % y, rfl, ?_, hy, ?_⟩, ?_⟩
      · rw [← hg, Nat.gcd_comm y, ← Nat.gcd_rec, Nat.gcd_comm]
      · have := digs_len_mono (Nat.mod_le x y); omega
      · simp only [hval]
        rw [if_neg (by omega)]
        by_cases hxy : x < y
        · rw [if_pos hxy, Nat.mod_eq_of_lt hxy]; omega
        · rw [if_neg hxy]
          have : lg (x % y) < lg x := by
            apply lg_lt
            have h1 := Nat.div_add_mod x y
            have h2 : 1 ≤ x / y := (Nat.one_le_div_iff (by omega)).2 (by omega)
            have h3 : y * 1 ≤ y * (x / y) := Nat.mul_le_mul_left _ h2
            omega
          omega
  obtain ⟨r, h1, rfl⟩ := key
  exact h1

theorem Gcd_eq {x y : Int} (hx : Ln x ≤ Lbig) (hy : Ln y ≤ Lbig) : big_Gcd (mkB x) (mkB y) = some (mkB (Int.gcd x y), 0) := by
  have hL : Lbig = 17592186043904 := rfl
  unfold big_Gcd
  rw [right_mk (by omega), Option.bind_some]
  simp only [Bool.not_true, Bool.false_eq_true, if_false]
  rw [right_mk (by omega), Option.bind_some, Option.bind_some]
  simp only [Bool.not_true, Bool.false_eq_true, if_false]
  have hxd : (mkB x).f_Digits = digs x.natAbs := rfl
  have hyd : (mkB y).f_Digits = digs y.natAbs := rfl
  rw [hxd, hyd]
  have fx : (digs x.natAbs).length ≤ 17592186043904 := by show Ln x ≤ _; omega
  have fy : (digs y.natAbs).length ≤ 17592186043904 := by show Ln y ≤ _; omega
  have fg : (digs (Nat.gcd x.natAbs y.natAbs)).length ≤ 17592186043904 := by
    by_cases h : y.natAbs = 0
    · rw [h, Nat.gcd_zero_right]; exact fx
    · have := digs_len_mono (Nat.gcd_le_right x.natAbs (Nat.pos_of_ne_zero h)); omega
  rw [clone_eq (by unfold Fit; omega), Option.bind_some, gcd_loop (by omega) (by omega), Option.bind_some, clone_eq (by unfold Fit; omega), Option.bind_some]
  have hgn : Nat.gcd x.natAbs y.natAbs = ((Int.gcd x y : Nat) : Int).natAbs := rfl
  rw [sumDigits (x := (Int.gcd x y : Int)) hgn ?_ (fun _ => by omega), Option.bind_some, checked_true, Option.bind_some]
  intro h
  rw [Int.sign_eq_one_of_pos (by omega)]

/-! Comparing. -/
theorem Compare_eq {x y : Int} (hx : Ln x ≤ Lmax) (hy : Ln y ≤ Lmax) : big_Compare (mkB x) (mkB y) = some (cmpI x y) := by
  have hL : Lmax = 4398046511104 := rfl
  unfold big_Compare
  rw [right_mk (by omega), Option.bind_some]
  simp only [Bool.not_true, Bool.false_eq_true, if_false]
  rw [right_mk (by omega), Option.bind_some, Option.bind_some]
  simp only [Bool.not_true, Bool.false_eq_true, if_false]
  have hxd : (mkB x).f_Digits = digs x.natAbs := rfl
  have hyd : (mkB y).f_Digits = digs y.natAbs := rfl
  have hxs : (mkB x).f_Sign = x.sign := rfl
  have hys : (mkB y).f_Sign = y.sign := rfl
  rw [hxd, hyd, hxs, hys]
  have fx : (digs x.natAbs).length ≤ 4398046511104 := by show Ln x ≤ _; omega
  have fy : (digs y.natAbs).length ≤ 4398046511104 := by show Ln y ≤ _; omega
  by_cases h : x.sign = y.sign
  · rw [if_neg (by simpa using h), compare_eq (by unfold Fit; omega) (by unfold Fit; omega), Option.bind_some]
    have hc : ∀ s : Int, s = -1 ∨ s = 0 ∨ s = 1 → ∀ c : Int, c = -1 ∨ c = 0 ∨ c = 1 → IntKind.i64.wrap (s * c) = s * c := by
      rintro s (rfl | rfl | rfl) c (rfl | rfl | rfl) <;> exact w64 (by decide)
    have hcm : ∀ a b : Int, cmpI a b = -1 ∨ cmpI a b = 0 ∨ cmpI a b = 1 := by
      intro a b; unfold cmpI; split
      · simp
      · split <;> simp
    rw [hc _ (sign_or x) _ (hcm _ _)]
    congr 1
    unfold cmpI
    rcases sign_abs x with ⟨a, b, c⟩ | ⟨a, b, c⟩ | ⟨a, b⟩ <;> rcases sign_abs y with ⟨a', b', c'⟩ | ⟨a', b', c'⟩ | ⟨a', b'⟩ <;> (try (rw [a, a'] at h; exact absurd h (by decide))) <;> rw [a] <;> split <;> (try split) <;> (try split) <;> (try split) <;> omega
  · rw [if_pos (by simpa using h), cmp_eq, Option.bind_some]
    congr 1
    unfold cmpI
    rcases sign_abs x with ⟨a, b, c⟩ | ⟨a, b, c⟩ | ⟨a, b⟩ <;> rcases sign_abs y with ⟨a', b', c'⟩ | ⟨a', b', c'⟩ | ⟨a', b'⟩ <;> (try (exact absurd (a.trans a'.symm) h)) <;> rw [a, a'] <;> split <;> (try split) <;> (try split) <;> (try split) <;> omega
end Go.Proofs.Ytadpbhbkdnfbpaa.P
