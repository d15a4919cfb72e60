/- The program's fractions. -/
import Derived.Test.YtadpbhbkdnfbpaaFg
namespace Go.Proofs.Ytadpbhbkdnfbpaa.P
open Go.RowKit
set_option linter.unusedSimpArgs false
set_option linter.unusedVariables false

theorem wrapu (x : Int) : IntKind.u64.wrap x = x % 18446744073709551616 := by
  unfold IntKind.wrap
  simp only [IntKind.bits, IntKind.signed, Bool.false_and, Bool.false_eq_true, if_false]
  rfl
theorem wu {x : Int} (h : 0 ≤ x ∧ x < 18446744073709551616) : IntKind.u64.wrap x = x := by rw [wrapu]; omega
theorem and_masku {x : Int} (h : 0 ≤ x ∧ x < 18446744073709551616) : bitI .and .u64 x 1048575 = x % 1048576 := by
  unfold bitI
  simp only
  have e1 : (BitVec.ofInt IntKind.u64.bits x &&& BitVec.ofInt IntKind.u64.bits 1048575).toNat = ((x % 18446744073709551616).toNat) % 1048576 := by
    rw [BitVec.toNat_and, BitVec.toNat_ofInt, BitVec.toNat_ofInt]
    have e : ((1048575 : Int) % ((2 ^ IntKind.u64.bits : Nat) : Int)).toNat = 2 ^ 20 - 1 := by decide
    rw [e, Nat.and_two_pow_sub_one_eq_mod]
    rfl
  rw [e1, wu (by omega)]
  omega
theorem shr20u (x : Int) : shrI .u64 x 20 = some (x / 1048576) := by
  unfold shrI
  rw [if_neg (by decide)]
  have e : (2 : Int) ^ (min (Int.toNat 20) IntKind.u64.bits) = 1048576 := by decide
  rw [e, Int.fdiv_eq_ediv_of_nonneg _ (by decide)]

theorem pw4 : pw 4 = 1208925819614629174706176 := by decide

theorem of_loop {n : Nat} (hn : n < 18446744073709551616) : ∃ l, loopL big_Of_L2 ((n : Int), []) = some l ∧ Dg l ∧ dv l = n ∧ l.length ≤ 5 := by
  refine loopL_of (I := fun (s : Int × List Int) => 0 ≤ s.1 ∧ Dg s.2 ∧ dv s.2 + pw s.2.length * s.1 = n ∧ s.2.length ≤ 5 ∧ (s.1 = 0 ∨ s.2.length < 5)) (μ := fun (s : Int × List Int) => s.1.toNat) _ ⟨by simp, Dg.nil, by simp [dv, pw_zero], by simp, by simp⟩ (by simp only [Int.toNat_natCast]; unfold FU; omega) ?_
  rintro ⟨u, l⟩ ⟨h1, hd, h2, h3, h5⟩
  simp only at h1 hd h2 h3 h5
  have hp := pw_pos l.length
  have hdl := dv_nonneg hd
  have hu : u ≤ n := by
    have : 1 * u ≤ pw l.length * u := Int.mul_le_mul_of_nonneg_right (by omega) h1
    omega
  simp only [big_Of_L2]
  by_cases h0 : u > 0
  · left
    have hl5 : l.length < 5 := by omega
    have hl4 : l.length < 4 := by
      rcases Nat.lt_or_ge l.length 4 with h | h
      · exact h
      · have h4 : l.length = 4 := by omega
        rw [h4, pw4] at h2
        omega
    have hw : IntKind.i64.wrap (u % 1048576) = u % 1048576 := w64 (by omega)
    rw [if_pos (by simpa using h0), and_masku ⟨h1, by omega⟩, hw, app8 (by simp; omega), Option.bind_some, shr20u, Option.bind_some]
    refine ⟨_, rfl, ⟨by simp only; omega, hd.append (Dg.mk (by omega) Dg.nil), ?_, by simp; omega, by right; simp; omega⟩, by simp only; omega⟩
    simp only [dv_append, dv, List.length_append, List.length_cons, List.length_nil, Int.mul_zero, Int.add_zero, Nat.zero_add]
    have := pw_div l.length u
    omega
  · right
    have : u = 0 := by omega
    subst this
    refine ⟨l, by rw [if_neg (by simp)], hd, ?_, h3⟩
    rw [Int.mul_zero] at h2
    omega

theorem Of_eq {x : Int} (h : -9223372036854775808 ≤ x ∧ x < 9223372036854775808) : big_Of x = some (mkB x) := by
  have hT : (if decide (x < 0) = true then some ((-1 : Int), IntKind.u64.wrap (0 - (IntKind.u64.wrap x))) else some (1, IntKind.u64.wrap x)) = some (if x < 0 then -1 else 1, ((x.natAbs : Nat) : Int)) := by
    by_cases hx : x < 0
    · rw [if_pos (by simpa using hx), if_pos hx, wrapu, wrapu]
      congr 2
      omega
    · rw [if_neg (by simpa using hx), if_neg hx, wrapu]
      congr 2
      omega
  obtain ⟨l, h1, h2, h3, h4⟩ := of_loop (n := x.natAbs) (by omega)
  unfold big_Of
  rw [hT, Option.bind_some]
  simp only
  rw [h1, Option.bind_some, obind_id]
  refine signed_of x (by unfold Fit; omega) h2 h3 (fun h0 => ?_)
  split
  · rw [Int.sign_eq_neg_one_of_neg (by omega)]
  · rw [Int.sign_eq_one_of_pos (by omega)]

/-! Is it one? -/
theorem shlu {d : Int} {i : Nat} (hi : i ≤ 3) (hd : 0 ≤ d ∧ d < 1048576) (h8 : i = 3 → d ≤ 8) : shlI .u64 (IntKind.u64.wrap d) (IntKind.i64.wrap (20 * (i : Int))) = some (pw i * d) := by
  rw [wu (by omega), w64 (by omega)]
  unfold shlI
  rw [if_neg (by omega)]
  have e : (2 : Int) ^ (min (20 * (i : Int)).toNat IntKind.u64.bits) = pw i := by
    have : ∀ i : Nat, i ≤ 3 → (2 : Int) ^ (min (20 * (i : Int)).toNat IntKind.u64.bits) = pw i := by decide
    exact this i hi
  rw [e, wu, Int.mul_comm]
  rcases (show i = 0 ∨ i = 1 ∨ i = 2 ∨ i = 3 by omega) with rfl | rfl | rfl | rfl
  · rw [show pw 0 = 1 by decide]; omega
  · rw [show pw 1 = 1048576 by decide]; omega
  · rw [show pw 2 = 1099511627776 by decide]; omega
  · rw [show pw 3 = 1152921504606846976 by decide]; have := h8 rfl; omega
theorem or_pw {u d : Int} {i : Nat} (hi : i ≤ 3) (hu : 0 ≤ u ∧ u < pw i) (hd : 0 ≤ d ∧ pw i * d < 9223372036854775809) : bitI .or .u64 u (pw i * d) = u + pw i * d := by
  have hp := pw_pos i
  have hpd : 0 ≤ pw i * d := Int.mul_nonneg (by omega) hd.1
  have hpw : pw i = ((2 ^ (20 * i) : Nat) : Int) := by unfold pw; rw [Nat.pow_mul, Int.natCast_pow]; rfl
  have hp3 : pw i ≤ 1152921504606846976 := by
    have := pw_mono hi
    rwa [show pw 3 = 1152921504606846976 by decide] at this
  unfold bitI
  simp only
  have e1 : (BitVec.ofInt IntKind.u64.bits u ||| BitVec.ofInt IntKind.u64.bits (pw i * d)).toNat = (u + pw i * d).toNat := by
    rw [BitVec.toNat_or, BitVec.toNat_ofInt, BitVec.toNat_ofInt]
    have e : ((2 ^ IntKind.u64.bits : Nat) : Int) = 18446744073709551616 := by decide
    rw [e]
    have e2 : (u % 18446744073709551616).toNat = u.toNat := by omega
    have e3 : ((pw i * d) % 18446744073709551616).toNat = d.toNat <<< (20 * i) := by
      rw [Nat.shiftLeft_eq, Int.emod_eq_of_lt hpd (by omega), hpw]
      have : d = (d.toNat : Int) := by omega
      rw [this, ← Int.natCast_mul, Int.toNat_natCast, Int.toNat_natCast, Nat.mul_comm]
    rw [e2, e3, Nat.or_comm, ← Nat.shiftLeft_add_eq_or_of_lt (by omega), Nat.shiftLeft_eq]
    have : pw i * d = ((d.toNat * 2 ^ (20 * i) : Nat) : Int) := by
      rw [hpw, Int.natCast_mul, Int.mul_comm]
      congr 1
      omega
    omega
  rw [e1, wu (by omega)]
  omega

theorem one_eq {g : Nat} (h : (digs g).length ≤ Lbig) : frac_one (mkB g) = some (decide (g = 1)) := by
  have hL : Lbig = 17592186043904 := rfl
  have hgd : (mkB (g : Int)).f_Digits = digs g := rfl
  have hLn : Ln (g : Int) = (digs g).length := rfl
  unfold frac_one
  have hsmall : g = 1 → (digs g).length ≤ 4 := by
    rintro rfl
    exact Nat.le_trans (digs_len_le (k := 1) (by decide)) (by decide)
  suffices hI : ∃ r, big_Int (mkB g) = some r ∧ ((if r.2 = true then some (r.1 == 1) else some false) = some (decide (g = 1))) by
    obtain ⟨r, h1, h2⟩ := hI
    rw [h1, Option.bind_some, h2]
  unfold big_Int
  rw [right_mk (by rw [hLn]; omega), Option.bind_some]
  simp only [Bool.not_true, Bool.false_eq_true, if_false, Option.bind_some, hgd]
  by_cases h4 : (digs g).length > 4
  · rw [if_pos (by simp; omega)]
    refine ⟨_, rfl, ?_⟩
    have : g ≠ 1 := fun hh => by have := hsmall hh; omega
    simp [this]
  rw [if_neg (by simp; omega)]
  have key : ∃ r, loopL (big_Int_L2 (mkB g)) (0, 0) = some r ∧ (match r with | .inl u => u = (g : Int) | .inr x => x = (0, false) ∧ g ≠ 1) := by
    refine loop_nat (I := fun i s => s.2 = (i : Int) ∧ s.1 = dv ((digs g).take i)) (digs g).length _ ⟨rfl, rfl⟩ (lenFU (by omega)) ?_
    rintro i ⟨u, s⟩ hi ⟨h1, h2⟩
    simp only at h1 h2
    subst h1 h2
    simp only [big_Int_L2, hgd]
    have hdg := (dg_digs g).take i
    have hu0 := dv_nonneg hdg
    have hu1 := dv_lt hdg
    rw [List.length_take, Nat.min_eq_left hi] at hu1
    by_cases hlt : i < (digs g).length
    · have gd := (dg_digs g).get hlt
      rw [if_pos (by simpa using hlt), idx_nat hlt, Option.bind_some]
      have hT : (if ((i : Int) == 3) = true then some (decide ((digs g)[i] > 8)) else some false) = some (decide (i = 3 ∧ (digs g)[i] > 8)) := by
        by_cases h3 : i = 3
        · subst h3; simp
        · rw [if_neg (by simp; omega)]; simp [h3]
      rw [hT, Option.bind_some]
      by_cases h8 : i = 3 ∧ (digs g)[i] > 8
      · right
        rw [if_pos (by simpa using h8)]
        refine ⟨.inr (0, false), rfl, rfl, ?_⟩
        rintro rfl
        have := digs_len_le (n := 1) (k := 1) (by decide)
        omega
      · left
        rw [if_neg (by simpa using h8), shlu (by omega) gd (by omega), Option.bind_some]
        have hb : pw i * (digs g)[i] < 9223372036854775809 := by
          rcases (show i = 0 ∨ i = 1 ∨ i = 2 ∨ i = 3 by omega) with h | h | h | h
          · have : pw i = 1 := by rw [h]; decide
            rw [this]; omega
          · have : pw i = 1048576 := by rw [h]; decide
            rw [this]; omega
          · have : pw i = 1099511627776 := by rw [h]; decide
            rw [this]; omega
          · have : pw i = 1152921504606846976 := by rw [h]; decide
            rw [this]; omega
        rw [or_pw (by omega) ⟨hu0, hu1⟩ ⟨gd.1, hb⟩]
        exact ⟨hlt, _, rfl, by rw [w64 (by omega)]; omega, by rw [dv_take_succ hlt]⟩
    · right
      have : i = (digs g).length := by omega
      subst this
      exact ⟨.inl (dv ((digs g).take (digs g).length)), by rw [if_neg (by simp)], by rw [List.take_length, dv_digs]⟩
  obtain ⟨r, h1, h2⟩ := key
  rw [h1, Option.bind_some]
  cases r with
  | inr x => obtain ⟨rfl, h⟩ := h2; exact ⟨_, rfl, by simp [h]⟩
  | inl u =>
    simp only at h2
    subst h2
    have hs : (mkB (g : Int)).f_Sign = (g : Int).sign := rfl
    have hs0 : ¬ (g : Int).sign < 0 := by have := sign_abs (g : Int); omega
    simp only [hs]
    rw [if_neg (by simp), Option.bind_some, if_neg (by simp), if_pos (by simp)]
    by_cases hg : (g : Int) < 9223372036854775808
    · rw [if_pos (by simpa using hg)]
      refine ⟨_, rfl, ?_⟩
      simp only [if_true]
      rw [wrap64 (by omega) hg]
      congr 1
      by_cases h : g = 1
      · subst h; rfl
      · have : ¬ ((g : Int) = 1) := by omega
        simp [h, this]
    · rw [if_neg (by simpa using hg)]
      have : g ≠ 1 := by omega
      exact ⟨_, rfl, by simp [this]⟩

/-! Fractions. -/
def mkF (q : Rat) : TFrac := TFrac.mk (mkB q.num) (mkB q.den)
/-- How many digits its parts have at most. -/
def LF (q : Rat) : Nat := max (Ln q.num) (Ln q.den)
theorem mkF_inj {p q : Rat} (h : mkF p = mkF q) : p = q := by
  unfold mkF at h
  simp only [TFrac.mk.injEq] at h
  have h1 := mkB_inj h.1
  have h2 := mkB_inj h.2
  exact Rat.ext h1 (by omega)
def okF (f : TFrac) : Bool := okB f.f_P && okB f.f_Q && (f.f_Q.f_Sign == 1) && decide (Nat.gcd (dv f.f_P.f_Digits).toNat (dv f.f_Q.f_Digits).toNat = 1)
theorem okF_iff {f : TFrac} : okF f = true ↔ ∃ q, f = mkF q := by
  obtain ⟨p, q⟩ := f
  unfold okF
  simp only [Bool.and_eq_true, beq_iff_eq, decide_eq_true_eq]
  constructor
  · rintro ⟨⟨⟨h1, h2⟩, h3⟩, h4⟩
    obtain ⟨x, rfl⟩ := okB_iff.1 h1
    obtain ⟨y, rfl⟩ := okB_iff.1 h2
    have hy : 0 < y := by
      have : y.sign = 1 := h3
      rcases sign_abs y with ⟨a, b, c⟩ | ⟨a, b, c⟩ | ⟨a, b⟩ <;> omega
    have h5 : (dv (mkB x).f_Digits).toNat = x.natAbs := by show (dv (digs _)).toNat = _; rw [dv_digs]; rfl
    have h6 : (dv (mkB y).f_Digits).toNat = y.natAbs := by show (dv (digs _)).toNat = _; rw [dv_digs]; rfl
    rw [h5, h6] at h4
    refine ⟨⟨x, y.natAbs, by omega, h4⟩, ?_⟩
    unfold mkF
    simp only
    congr 2
    omega
  · rintro ⟨q, hq⟩
    unfold mkF at hq
    simp only [TFrac.mk.injEq] at hq
    obtain ⟨rfl, rfl⟩ := hq
    have hd := q.den_pos
    refine ⟨⟨⟨okB_mk _, okB_mk _⟩, Int.sign_eq_one_of_pos (by omega)⟩, ?_⟩
    have h5 : (dv (mkB q.num).f_Digits).toNat = q.num.natAbs := by show (dv (digs _)).toNat = _; rw [dv_digs]; rfl
    have h6 : (dv (mkB (q.den : Int)).f_Digits).toNat = q.den := by show (dv (digs _)).toNat = _; rw [dv_digs]; rfl
    rw [h5, h6]
    exact q.reduced
theorem okF_mk (q : Rat) : okF (mkF q) = true := okF_iff.2 ⟨q, rfl⟩

/-- Its parts are no longer than so. -/
def FitF (f : TFrac) : Prop := f.f_P.f_Digits.length ≤ Lbig ∧ f.f_Q.f_Digits.length ≤ Lbig
theorem FitF_mk {q : Rat} (h : LF q ≤ Lmax) : FitF (mkF q) := by
  unfold LF at h
  exact ⟨Lmax_big (show Ln q.num ≤ _ by omega), Lmax_big (show Ln q.den ≤ _ by omega)⟩

theorem Right_eq {f : TFrac} (hf : FitF f) : frac_Right f = some (okF f) := by
  have hL : Lbig = 17592186043904 := rfl
  obtain ⟨p, q⟩ := f
  simp only [FitF] at hf
  unfold frac_Right okF
  rw [right_eq (show Fit p.f_Digits by unfold Fit; omega), Option.bind_some]
  by_cases h1 : okB p = true
  · simp only [h1, Bool.not_true, Bool.false_eq_true, if_false, Bool.true_and]
    rw [right_eq (show Fit q.f_Digits by unfold Fit; omega), Option.bind_some]
    by_cases h2 : okB q = true
    · simp only [h2, Bool.not_true, Bool.false_eq_true, if_false, Bool.true_and, Option.bind_some]
      by_cases h3 : q.f_Sign = 1
      · rw [if_neg (by simp [h3])]
        obtain ⟨x, rfl⟩ := okB_iff.1 h1
        obtain ⟨y, rfl⟩ := okB_iff.1 h2
        rw [Gcd_eq hf.1 hf.2, Option.bind_some]
        simp only [beq_self_eq_true, if_true]
        have h5 : (dv (mkB x).f_Digits).toNat = x.natAbs := by show (dv (digs _)).toNat = _; rw [dv_digs]; rfl
        have h6 : (dv (mkB y).f_Digits).toNat = y.natAbs := by show (dv (digs _)).toNat = _; rw [dv_digs]; rfl
        rw [one_eq, Option.bind_some, h5, h6]
        · rw [h3]; rfl
        · have hy : 0 < y.natAbs := by
            have : y.sign = 1 := h3
            rcases sign_abs y with ⟨a, b, c⟩ | ⟨a, b, c⟩ | ⟨a, b⟩ <;> omega
          have := digs_len_mono (Nat.gcd_le_right x.natAbs hy)
          have h7 : (digs y.natAbs).length ≤ Lbig := hf.2
          show (digs (Nat.gcd x.natAbs y.natAbs)).length ≤ _
          omega
      · rw [if_pos (by simpa using h3)]
        simp [h3]
    · simp only [h2, Bool.not_false, if_true, Option.bind_some, Bool.false_and]
  · simp only [h1, Bool.not_false, if_true, Option.bind_some, Bool.false_and]
theorem Right_mk {q : Rat} (h : LF q ≤ Lmax) : frac_Right (mkF q) = some true := by rw [Right_eq (FitF_mk h), okF_mk]

theorem LF_num (q : Rat) : Ln q.num ≤ LF q := by unfold LF; omega
theorem LF_den (q : Rat) : Ln q.den ≤ LF q := by unfold LF; omega
theorem LF_divInt {p q : Int} (h0 : q ≠ 0) : LF (Rat.divInt p q) ≤ max (Ln p) (Ln q) := by
  have hg : 0 < Int.gcd q p := Int.gcd_pos_of_ne_zero_left _ h0
  have h1 : Ln (Rat.divInt p q).num ≤ Ln p := by
    apply Ln_mono
    rw [Rat.num_divInt]
    obtain ⟨z, hz⟩ : (Int.gcd q p : Int) ∣ q.sign * p := Int.dvd_mul_of_dvd_right (Int.gcd_dvd_right ..)
    rw [hz, Int.mul_ediv_cancel_left _ (by omega)]
    have h2 : (q.sign * p).natAbs = p.natAbs := by
      rw [Int.natAbs_mul]
      have : q.sign.natAbs = 1 := by
        rcases sign_abs q with ⟨a, b, c⟩ | ⟨a, b, c⟩ | ⟨a, b⟩
        · rw [a]; rfl
        · rw [a]; rfl
        · exact absurd b h0
      rw [this, Nat.one_mul]
    rw [← h2, hz, Int.natAbs_mul]
    exact Nat.le_mul_of_pos_left _ (by omega)
  have h2 : Ln ((Rat.divInt p q).den : Int) ≤ Ln q := by
    apply Ln_mono
    rw [Rat.den_divInt, if_neg h0]
    exact Nat.div_le_self _ _
  unfold LF
  omega

theorem LF_add (a b : Rat) : LF (a + b) ≤ LF a + LF b + 1 := by
  have n1 := LF_num a
  have n2 := LF_num b
  have d1 := LF_den a
  have d2 := LF_den b
  have m1 := Ln_mul a.num b.den
  have m2 := Ln_mul b.num a.den
  have m3 := Ln_mul a.den b.den
  have m4 := Ln_add (a.num * b.den) (b.num * a.den)
  have hden : (a.den : Int) * b.den ≠ 0 := by
    rw [← Int.natCast_mul]
    have := Nat.mul_pos a.den_pos b.den_pos
    omega
  rw [Rat.add_def', ← Rat.divInt_ofNat, Int.natCast_mul]
  have := LF_divInt (p := a.num * b.den + b.num * a.den) hden
  omega
theorem LF_neg (a : Rat) : LF (-a) = LF a := by unfold LF; rw [Rat.neg_num, Rat.neg_den, Ln_neg]
theorem LF_sub (a b : Rat) : LF (a - b) ≤ LF a + LF b + 1 := by
  rw [Rat.sub_eq_add_neg]
  have := LF_add a (-b)
  rw [LF_neg] at this
  exact this
theorem LF_mul (a b : Rat) : LF (a * b) ≤ LF a + LF b := by
  have n1 := LF_num a
  have n2 := LF_num b
  have d1 := LF_den a
  have d2 := LF_den b
  have m1 := Ln_mul a.num b.num
  have m3 := Ln_mul a.den b.den
  have hden : (a.den : Int) * b.den ≠ 0 := by
    rw [← Int.natCast_mul]
    have := Nat.mul_pos a.den_pos b.den_pos
    omega
  rw [Rat.mul_def', ← Rat.divInt_ofNat, Int.natCast_mul]
  have := LF_divInt (p := a.num * b.num) hden
  omega
theorem div_divInt (a b : Rat) : a / b = Rat.divInt (a.num * b.den) (a.den * b.num) := by
  rw [Rat.div_def, Rat.inv_def]
  conv => lhs; rw [← Rat.num_divInt_den a]
  rw [Rat.divInt_mul_divInt]
theorem LF_div {a b : Rat} (h0 : b ≠ 0) : LF (a / b) ≤ LF a + LF b := by
  have n1 := LF_num a
  have n2 := LF_num b
  have d1 := LF_den a
  have d2 := LF_den b
  have m1 := Ln_mul a.num b.den
  have m3 := Ln_mul a.den b.num
  have hb : b.num ≠ 0 := fun hh => h0 (Rat.num_eq_zero.1 hh)
  have hden : (a.den : Int) * b.num ≠ 0 := Int.mul_ne_zero (by have := a.den_pos; omega) hb
  rw [div_divInt]
  have := LF_divInt (p := a.num * b.den) hden
  omega

theorem Int_f {n : Int} (h : -9223372036854775808 ≤ n ∧ n < 9223372036854775808) : frac_Int n = some (mkF n) := by
  unfold frac_Int
  rw [Of_eq h, Option.bind_some, Of_eq (by decide), Option.bind_some]
  unfold mkF
  rw [Rat.num_intCast, Rat.den_intCast]
  rfl
theorem LF_int {n : Int} (h : n.natAbs < 1048576) : LF (n : Rat) ≤ 1 := by
  unfold LF
  rw [Rat.num_intCast, Rat.den_intCast]
  have h1 := Ln_small h
  have h2 := Ln_small (x := ((1 : Nat) : Int)) (by decide)
  omega
/-- -1, 0, 1 -/
def cmpQ (a b : Rat) : Int := if a < b then -1 else if b < a then 1 else 0
theorem cmpQ_eq (a b : Rat) : cmpI (a.num * b.den) (b.num * a.den) = cmpQ a b := by
  unfold cmpI cmpQ
  simp only [Rat.lt_iff]
theorem Compare_f {a b : Rat} (h : LF a + LF b ≤ Lmax) : frac_Compare (mkF a) (mkF b) = some (cmpQ a b) := by
  have n1 := LF_num a
  have n2 := LF_num b
  have d1 := LF_den a
  have d2 := LF_den b
  have m1 := Ln_mul a.num b.den
  have m2 := Ln_mul b.num a.den
  unfold frac_Compare
  rw [Right_mk (by omega), Option.bind_some]
  simp only [Bool.not_true, Bool.false_eq_true, if_false]
  rw [Right_mk (by omega), Option.bind_some, Option.bind_some]
  simp only [Bool.not_true, Bool.false_eq_true, if_false]
  show (frac_times (mkB a.num) (mkB b.den)).bind _ = _
  rw [times_eq (by omega) (by omega), Option.bind_some]
  show (frac_times (mkB b.num) (mkB a.den)).bind _ = _
  rw [times_eq (by omega) (by omega), Option.bind_some, Compare_eq (by omega) (by omega), Option.bind_some, cmpQ_eq]
end Go.Proofs.Ytadpbhbkdnfbpaa.P
