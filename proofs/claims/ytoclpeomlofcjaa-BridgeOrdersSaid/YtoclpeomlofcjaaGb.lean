/- The reference's whole numbers and fractions. -/
import Derived.Test.YtoclpeomlofcjaaGa
namespace Go.Proofs.Ytoclpeomlofcjaa.P
open Go.RowKit
set_option linter.unusedSimpArgs false
set_option linter.unusedVariables false

/-! Quotients. -/
theorem over_search {n R : Nat} (hn : n ≠ 0) (hfn : (digs n).length ≤ 17592186043904) (hfR : (digs R).length ≤ 17592186043906) (hR : R < 1048576 * n) : loopL (r04_over_L3 (digs n) (digs R)) (0, 1048576) = some ((R / n : Nat) : Int) := by
  have key : ∃ r, loopL (r04_over_L3 (digs n) (digs R)) (0, 1048576) = some r ∧ r = ((R / n : Nat) : Int) := by
    refine loopL_of (I := fun (s : Int × Int) => ∃ lo hi : Nat, s = ((lo : Int), (hi : Int)) ∧ lo < hi ∧ hi ≤ 1048576 ∧ lo * n ≤ R ∧ R < hi * n) (μ := fun (s : Int × Int) => (s.2 - s.1).toNat) _ ⟨0, 1048576, rfl, by omega, by omega, by omega, hR⟩ (by simp only; unfold FU; omega) ?_
    rintro _ ⟨lo, hi, rfl, h1, h2, h3, h4⟩
    simp only [r04_over_L3]
    rw [w64 (x := (hi : Int) - lo) (by omega)]
    by_cases hgo : (hi : Int) - lo > 1
    · left
      have em : ((lo : Int) + hi) / 2 = (((lo + hi) / 2 : Nat) : Int) := by omega
      have hd : Dg [(((lo + hi) / 2 : Nat) : Int)] := Dg.mk (by omega) Dg.nil
      have ed : dv (digs n) * dv [(((lo + hi) / 2 : Nat) : Int)] = ((n * ((lo + hi) / 2) : Nat) : Int) := by rw [dv_digs, Int.natCast_mul]; simp [dv]
      rw [if_pos (by simpa using hgo), w64 (x := (lo : Int) + hi) (by omega), divq (by omega) (by omega) (by omega), Option.bind_some, em, times4 (dg_digs n) hd (by simp; omega), Option.bind_some, ed, Int.toNat_natCast]
      have hfl : (digs (n * ((lo + hi) / 2))).length ≤ 17592186043905 := by
        have : ((n * ((lo + hi) / 2) : Nat) : Int) < pw ((digs n).length + 1) := by
          rw [pw_succ, Int.natCast_mul]
          have a1 := lt_pw_digs n
          have : (n : Int) * ((lo + hi) / 2 : Nat) ≤ n * 1048576 := Int.mul_le_mul_of_nonneg_left (by omega) (by omega)
          omega
        have := digs_len_le this
        omega
      rw [less4 (dg_digs R) (dg_digs _) (by unfold Fit; omega) (by unfold Fit; omega), Option.bind_some, dv_digs, dv_digs]
      by_cases hc : R < n * ((lo + hi) / 2)
      · rw [if_pos (decide_eq_true (by omega))]
        refine ⟨_, rfl, ⟨lo, (lo + hi) / 2, rfl, by omega, by omega, h3, by rw [Nat.mul_comm]; exact hc⟩, by simp only; omega⟩
      · rw [if_neg (by rw [decide_eq_true_eq]; omega)]
        refine ⟨_, rfl, ⟨(lo + hi) / 2, hi, rfl, by omega, by omega, by rw [Nat.mul_comm]; omega, h4⟩, by simp only; omega⟩
    · right
      refine ⟨_, by rw [if_neg (by simpa using hgo)], ?_⟩
      have : hi = lo + 1 := by omega
      subst this
      congr 1
      have : R / n = lo := by
        apply Nat.div_eq_of_lt_le
        · exact h3
        · exact h4
      exact this.symm
  obtain ⟨r, h1, rfl⟩ := key
  exact h1

theorem over4 {m n : Nat} (hn : n ≠ 0) (hfm : (digs m).length ≤ 17592186043904) (hfn : (digs n).length ≤ 17592186043904) : r04_over (digs m) (digs n) = some (digs (m / n), digs (m % n)) := by
  generalize ha : digs m = a at *
  have hda : Dg a := by rw [← ha]; exact dg_digs m
  have key : ∃ r, loopL (r04_over_L1 a (digs n)) ([], (a.length : Int) - 1, List.replicate a.length 0) = some r ∧ r.2.length = a.length ∧ Dg r.2 ∧ ∃ R : Nat, r.1 = digs R ∧ R < n ∧ dv a = n * dv r.2 + R := by
    refine loop_nat (I := fun i s => s.2.1 = ((a.length - i : Nat) : Int) - 1 ∧ s.2.2.length = a.length ∧ Dg s.2.2 ∧ ∃ R : Nat, s.1 = digs R ∧ R < n ∧ dv (a.drop (a.length - i)) = n * dv (s.2.2.drop (a.length - i)) + R)
      a.length _ ⟨rfl, by simp, Dg.rep _, 0, digs_zero.symm, by omega, by simp [dv]⟩ (lenFU (by omega)) ?_
    rintro i ⟨r, s, l⟩ hi ⟨h1, hl, hg, R, h2, hR, he⟩
    simp only at h1 hl hg h2 he
    subst h1 h2
    generalize hk : a.length - i = k at *
    simp only [r04_over_L1]
    by_cases h0 : 0 < k
    · left
      have hk1 : k - 1 < a.length := by omega
      have hk2 : k - 1 < l.length := by omega
      have ek : ((k : Int) - 1) = ((k - 1 : Nat) : Int) := by omega
      have ga := hda.get hk1
      have hRl := digs_len_mono (show R ≤ n by omega)
      have hdR : Dg ([a[k - 1]] ++ digs R) := (Dg.mk ga Dg.nil).append (dg_digs R)
      obtain ⟨X, hX⟩ : ∃ X : Nat, a[k - 1] + 1048576 * (R : Int) = X := ⟨(a[k - 1] + 1048576 * (R : Int)).toNat, by omega⟩
      have hXn : X < 1048576 * n := by omega
      have hXl : (digs X).length ≤ 17592186043906 := by
        have : (X : Int) < pw ((digs n).length + 1) := by
          rw [pw_succ]
          have a1 := lt_pw_digs n
          omega
        have := digs_len_le this
        omega
      rw [ek, if_pos (by simp), idx_nat hk1, Option.bind_some, app8 (by simp; omega), Option.bind_some, trim4_of (n := X) (by unfold Fit; simp; omega) hdR (by rw [dv_append, dv_digs]; simp only [dv, List.length_cons, List.length_nil]; rw [show pw (0 + 1) = 1048576 by decide]; omega), Option.bind_some, over_search hn hfn hXl hXn, Option.bind_some, idx_nat hk2, Option.bind_some]
      have hq : X / n < 1048576 := Nat.div_lt_of_lt_mul (by rw [Nat.mul_comm]; exact hXn)
      have hq0 : (0 : Int) ≤ ((X / n : Nat) : Int) := Int.natCast_nonneg _
      rw [trim4_of (n := X / n) (by simp [Fit]) (Dg.mk (by omega) Dg.nil) (by simp [dv]), Option.bind_some]
      have hql : (digs (X / n)).length ≤ 1 := digs_len_le (by rw [pw_succ, pw_zero]; omega)
      have hprod : (dv (digs n) * dv (digs (X / n))).toNat = n * (X / n) := by rw [dv_digs, dv_digs, ← Int.natCast_mul]; rfl
      rw [times4 (dg_digs _) (dg_digs _) (by omega), Option.bind_some, hprod]
      have hle : n * (X / n) ≤ X := Nat.mul_div_le X n
      rw [minus4 (dg_digs _) (dg_digs _) (by unfold Fit; omega) (digs_len_mono hle) (by rw [dv_digs, dv_digs]; omega), Option.bind_some, dv_digs, dv_digs]
      have hsub : ((X : Int) - (n * (X / n) : Nat)).toNat = X % n := by
        have := Nat.div_add_mod X n
        omega
      rw [hsub]
      have e1 : IntKind.i64.wrap (((k - 1 : Nat) : Int) - 1) = ((k - 1 : Nat) : Int) - 1 := w64 (by omega)
      refine ⟨by omega, _, rfl, by rw [e1, show a.length - (i + 1) = k - 1 by omega], by simpa using hl, hg.set _ (by omega), X % n, rfl, Nat.mod_lt _ (by omega), ?_⟩
      simp only [Int.toNat_natCast]
      rw [show a.length - (i + 1) = k - 1 by omega, dv_drop hk1, dv_drop (l := l.set (k - 1) _) (i := k - 1) (by simpa using hk2), show k - 1 + 1 = k by omega, List.getElem_set_self, List.drop_set_of_lt (by omega), he, Int.mul_add, Int.mul_add]
      have h3 := Nat.div_add_mod X n
      have e3 : (n : Int) * (1048576 * dv (l.drop k)) = 1048576 * (n * dv (l.drop k)) := Int.mul_left_comm _ _ _
      rw [e3, ← Int.natCast_mul n (X / n)]
      omega
    · right
      have : k = 0 := by omega
      subst this
      refine ⟨(digs R, l), by rw [if_neg (by simp)], hl, hg, R, rfl, hR, ?_⟩
      simpa using he
  obtain ⟨⟨r, l⟩, h1, h2, h3, R, h4, h5, h6⟩ := key
  simp only at h2 h3 h4 h6
  unfold r04_over
  rw [mk0 (by omega), Option.bind_some, w64 (x := (a.length : Int) - 1) (by omega), h1, Option.bind_some]
  simp only
  rw [← ha, dv_digs] at h6
  have hl0 := dv_nonneg h3
  obtain ⟨Q, hQ⟩ : ∃ Q : Nat, dv l = Q := ⟨(dv l).toNat, by omega⟩
  rw [hQ] at h6
  have hm : m = n * Q + R := by
    have : ((m : Nat) : Int) = ((n * Q + R : Nat) : Int) := by rw [Int.natCast_add, Int.natCast_mul]; exact h6
    omega
  have e1 : m / n = Q := by rw [hm, Nat.mul_add_div (by omega), Nat.div_eq_of_lt h5, Nat.add_zero]
  have e2 : m % n = R := by rw [hm, Nat.mul_add_mod, Nat.mod_eq_of_lt h5]
  rw [trim4_of (n := Q) (by unfold Fit; omega) h3 hQ, Option.bind_some, h4, e1, e2]

theorem gcd_loop4 {a b : Nat} (ha : (digs a).length ≤ Lbig) (hb : (digs b).length ≤ Lbig) : loopL r04_Gcd_L2 (digs a, digs b) = some (digs (Nat.gcd a b)) := by
  have hL : Lbig = 17592186043904 := rfl
  have key : ∃ r, loopL r04_Gcd_L2 (digs a, digs b) = some r ∧ r = digs (Nat.gcd a b) := by
    have la := lg_le (lt_pw_digs a)
    have lb := lg_le (lt_pw_digs b)
    let val : List Int → Nat := fun l => (dv l).toNat
    have hval : ∀ n, val (digs n) = n := fun n => by show (dv (digs n)).toNat = n; rw [dv_digs]; rfl
    refine loopL_of (I := fun (s : List Int × List Int) => ∃ x y, s = (digs x, digs y) ∧ Nat.gcd x y = Nat.gcd a b ∧ (digs x).length ≤ Lbig ∧ (digs y).length ≤ Lbig)
      (μ := fun (s : List Int × List Int) => lg (val s.1) + lg (val s.2) + (if val s.1 < val s.2 then 1 else 0)) _ ⟨a, b, rfl, rfl, ha, hb⟩ (by simp only [hval]; unfold FU; split <;> omega) ?_
    rintro _ ⟨x, y, rfl, hg, hx, hy⟩
    simp only [r04_Gcd_L2]
    by_cases h0 : y = 0
    · right
      subst h0
      refine ⟨_, by rw [digs_zero, if_neg (by simp)], ?_⟩
      rw [← hg, Nat.gcd_zero_right]
    · left
      have hne : 0 < (digs y).length := List.length_pos_iff.2 (fun h => h0 (digs_nil.1 h))
      rw [if_pos (by simpa using hne), over4 h0 (by omega) (by omega), Option.bind_some]
      have hlt := Nat.mod_lt x (Nat.pos_of_ne_zero h0)
      refine ⟨_, rfl, ⟨y, x % y, rfl, ?_, hy, ?_⟩, ?_⟩
      · rw [← hg, Nat.gcd_comm y, ← Nat.gcd_rec, Nat.gcd_comm]
      · have := digs_len_mono (Nat.mod_le x y); omega
      · simp only [hval]
        rw [if_neg (by omega)]
        by_cases hxy : x < y
        · rw [if_pos hxy, Nat.mod_eq_of_lt hxy]; omega
        · rw [if_neg hxy]
          have : lg (x % y) < lg x := by
            apply lg_lt
            have h1 := Nat.div_add_mod x y
            have h2 : 1 ≤ x / y := (Nat.one_le_div_iff (by omega)).2 (by omega)
            have h3 : y * 1 ≤ y * (x / y) := Nat.mul_le_mul_left _ h2
            omega
          omega
  obtain ⟨r, h1, rfl⟩ := key
  exact h1

theorem Gcd4 {x y : Int} (hx : Ln x ≤ Lbig) (hy : Ln y ≤ Lbig) : r04_Gcd (mkB x) (mkB y) = some (mkB (Int.gcd x y), 0) := by
  have hL : Lbig = 17592186043904 := rfl
  unfold r04_Gcd
  rw [right4_mk (by omega), Option.bind_some]
  simp only [Bool.not_true, Bool.false_eq_true, if_false]
  rw [right4_mk (by omega), Option.bind_some, Option.bind_some]
  simp only [Bool.not_true, Bool.false_eq_true, if_false]
  have hxd : (mkB x).f_Digits = digs x.natAbs := rfl
  have hyd : (mkB y).f_Digits = digs y.natAbs := rfl
  rw [hxd, hyd]
  have fx : (digs x.natAbs).length ≤ 17592186043904 := by show Ln x ≤ _; omega
  have fy : (digs y.natAbs).length ≤ 17592186043904 := by show Ln y ≤ _; omega
  have fg : (digs (Nat.gcd x.natAbs y.natAbs)).length ≤ 17592186043904 := by
    by_cases h : y.natAbs = 0
    · rw [h, Nat.gcd_zero_right]; exact fx
    · have := digs_len_mono (Nat.gcd_le_right x.natAbs (Nat.pos_of_ne_zero h)); omega
  have hgn : Nat.gcd x.natAbs y.natAbs = ((Int.gcd x y : Nat) : Int).natAbs := rfl
  rw [gcd_loop4 (by omega) (by omega), Option.bind_some, madeDigits (x := (Int.gcd x y : Int)) hgn ?_ (fun _ => by omega), Option.bind_some]
  intro h
  rw [Int.sign_eq_one_of_pos (by omega)]

theorem Div4 {x y : Int} (hx : Ln x ≤ Lmax) (hy : Ln y ≤ Lmax) (h0 : 0 < y) (hd : y ∣ x) : r04_Div (mkB x) (mkB y) = some (mkB (x / y), mkB 0, 0) := by
  have hL : Lmax = 4398046511104 := rfl
  unfold r04_Div
  rw [right4_mk (by omega), Option.bind_some]
  simp only [Bool.not_true, Bool.false_eq_true, if_false]
  rw [right4_mk (by omega), Option.bind_some, Option.bind_some]
  simp only [Bool.not_true, Bool.false_eq_true, if_false]
  have hxd : (mkB x).f_Digits = digs x.natAbs := rfl
  have hyd : (mkB y).f_Digits = digs y.natAbs := rfl
  have hxs : (mkB x).f_Sign = x.sign := rfl
  have hys : (mkB y).f_Sign = 1 := Int.sign_eq_one_of_pos h0
  rw [hxd, hyd, hxs, hys]
  have fx : (digs x.natAbs).length ≤ 4398046511104 := by show Ln x ≤ _; omega
  have fy : (digs y.natAbs).length ≤ 4398046511104 := by show Ln y ≤ _; omega
  have fq := digs_len_mono (Nat.div_le_self x.natAbs y.natAbs)
  obtain ⟨z, rfl⟩ := hd
  have hyz : y * z / y = z := Int.mul_ediv_cancel_left _ (by omega)
  have hn : (y * z).natAbs = y.natAbs * z.natAbs := Int.natAbs_mul _ _
  have hq : (y * z).natAbs / y.natAbs = z.natAbs := by rw [hn, Nat.mul_div_cancel_left _ (by omega)]
  have hr : (y * z).natAbs % y.natAbs = 0 := by rw [hn, Nat.mul_mod_right]
  have hsg : (y * z).sign = z.sign := by rw [Int.sign_mul, Int.sign_eq_one_of_pos h0, Int.one_mul]
  rw [if_neg (by decide), over4 (by omega) (by omega) (by omega), Option.bind_some, Int.mul_one, hsg, w64 (x := z.sign) (by have := sign_or z; omega), hyz, hq, hr, digs_zero]
  rw [hq] at fq
  have hT : (if decide (z.sign ≥ 0) = true then some true else some ((([] : List Int).length : Int) == 0)) = some true := by split <;> rfl
  simp only [hT, Option.bind_some, if_true]
  rw [madeDigits (x := z) rfl (fun _ => rfl) (fun _ => by omega), Option.bind_some]
  have : r04_made z.sign [] = some (mkB 0) := made_of 0 (by simp [Fit]) Dg.nil rfl (fun h => absurd rfl h)
  rw [this, Option.bind_some]

theorem Neg4 {x : Int} (h : Ln x ≤ Lmax) : r04_Neg (mkB x) = some (mkB (-x)) := by
  unfold r04_Neg
  have hL : Lmax = 4398046511104 := rfl
  rw [right4_mk (by omega), Option.bind_some]
  simp only [Bool.not_true, Bool.false_eq_true, if_false]
  have hf : Fit (mkB x).f_Digits := by unfold Fit; show Ln x ≤ _; omega
  rw [made_of (-x) hf (dg_digs _) (by show dv (digs _) = _; rw [dv_digs, Int.natAbs_neg]), Option.bind_some]
  intro h0
  show IntKind.i64.wrap (0 - x.sign) = _
  rw [w64 (by have := sign_or x; omega), Int.sign_neg, Int.zero_sub]

theorem of_loop4 {x : Int} (hx : -9223372036854775808 ≤ x ∧ x < 9223372036854775808) : ∃ l, loopL r04_Of_L2 (x, []) = some l ∧ Dg l ∧ dv l = x.natAbs ∧ l.length ≤ 5 := by
  refine loopL_of (I := fun (s : Int × List Int) => Dg s.2 ∧ dv s.2 + pw s.2.length * s.1.natAbs = x.natAbs ∧ s.2.length ≤ 5 ∧ (s.1 = 0 ∨ s.2.length < 5)) (μ := fun (s : Int × List Int) => s.1.natAbs) _ ⟨Dg.nil, by simp [dv, pw_zero], by simp, by simp⟩ (by simp only; unfold FU; omega) ?_
  rintro ⟨u, l⟩ ⟨hd, h2, h3, h5⟩
  simp only at hd h2 h3 h5
  have hp := pw_pos l.length
  have hdl := dv_nonneg hd
  have hu : (u.natAbs : Int) ≤ x.natAbs := by
    have : 1 * (u.natAbs : Int) ≤ pw l.length * u.natAbs := Int.mul_le_mul_of_nonneg_right (by omega) (by omega)
    omega
  simp only [r04_Of_L2]
  by_cases h0 : u ≠ 0
  · left
    have hl4 : l.length < 4 := by
      rcases Nat.lt_or_ge l.length 4 with h | h
      · exact h
      · have h4 : l.length = 4 := by omega
        rw [h4, pw4] at h2
        omega
    have hm : modI .i64 u 1048576 = some (u.tmod 1048576) := by unfold modI; rw [if_neg (by decide)]
    have hq : divI .i64 u 1048576 = some (u.tdiv 1048576) := by
      unfold divI
      have : (u.tdiv 1048576).natAbs = u.natAbs / 1048576 := Int.natAbs_tdiv u 1048576
      rw [if_neg (by decide), w64 (by omega)]
    have ha : (u.tmod 1048576).natAbs = u.natAbs % 1048576 := Int.natAbs_tmod u 1048576
    have hb : (u.tdiv 1048576).natAbs = u.natAbs / 1048576 := Int.natAbs_tdiv u 1048576
    have hpd := pw_div l.length (u.natAbs : Int)
    rw [if_pos (by simpa using h0), hm, Option.bind_some]
    have fin : ∀ d : Int, d = ((u.natAbs % 1048576 : Nat) : Int) → (Dg (l ++ [d]) ∧ dv (l ++ [d]) + pw (l ++ [d]).length * ((u.tdiv 1048576).natAbs : Int) = x.natAbs ∧ (l ++ [d]).length ≤ 5 ∧ (u.tdiv 1048576 = 0 ∨ (l ++ [d]).length < 5)) ∧ (u.tdiv 1048576).natAbs < u.natAbs := by
      rintro d rfl
      refine ⟨⟨hd.append (Dg.mk (by omega) Dg.nil), ?_, by simp; omega, by right; simp; omega⟩, by omega⟩
      rw [hb]
      simp only [dv_append, dv, List.length_append, List.length_cons, List.length_nil, Int.mul_zero, Int.add_zero, Nat.zero_add]
      rw [Int.natCast_emod, Int.natCast_ediv]
      have : ((1048576 : Nat) : Int) = 1048576 := rfl
      rw [this]
      omega
    by_cases hneg : u.tmod 1048576 < 0
    · rw [if_pos (by simpa using hneg), w64 (x := 0 - u.tmod 1048576) (by omega), app8 (by simp; omega), Option.bind_some, hq, Option.bind_some]
      have := fin (0 - u.tmod 1048576) (by omega)
      exact ⟨_, rfl, this.1, this.2⟩
    · rw [if_neg (by simpa using hneg), app8 (by simp; omega), Option.bind_some, hq, Option.bind_some]
      have := fin (u.tmod 1048576) (by omega)
      exact ⟨_, rfl, this.1, this.2⟩
  · right
    have : u = 0 := by omega
    subst this
    refine ⟨l, by rw [if_neg (by simp)], hd, ?_, h3⟩
    simp at h2
    omega

theorem Of4 {x : Int} (h : -9223372036854775808 ≤ x ∧ x < 9223372036854775808) : r04_Of x = some (mkB x) := by
  unfold r04_Of
  by_cases h0 : x = 0
  · subst h0; rw [mkB_zero]; rfl
  · have hT : (if decide (x < 0) = true then some (-1 : Int) else some 1) = some x.sign := by
      rcases sign_abs x with ⟨a, b, c⟩ | ⟨a, b, c⟩ | ⟨a, b⟩
      · rw [if_neg (by simp; omega), a]
      · rw [if_pos (by simp; omega), a]
      · exact absurd b h0
    obtain ⟨l, h1, h2, h3, h4⟩ := of_loop4 h
    rw [if_neg (by simpa using h0), hT, Option.bind_some, h1, Option.bind_some, obind_id, made_of x (by unfold Fit; omega) h2 h3 (fun _ => rfl)]

instance : DecidableEq TBig := fun a b => decidable_of_iff (a.f_Sign = b.f_Sign ∧ a.f_Digits = b.f_Digits) (by cases a; cases b; simp)
instance : DecidableEq TFrac := fun a b => decidable_of_iff (a.f_P = b.f_P ∧ a.f_Q = b.f_Q) (by cases a; cases b; simp)

theorem same_loop {b c : TBig} (hf : Fit b.f_Digits) (hl : b.f_Digits.length = c.f_Digits.length) : ∃ r, loopL (r05_SameBig_L2 b c) 0 = some r ∧ (match r with | .inl _ => b.f_Digits = c.f_Digits | .inr x => x = false ∧ b.f_Digits ≠ c.f_Digits) := by
  refine loop_nat (I := fun i s => s = (i : Int) ∧ b.f_Digits.take i = c.f_Digits.take i) b.f_Digits.length _ ⟨rfl, by simp⟩ (lenFU hf) ?_
  unfold Fit at hf
  rintro i s hi ⟨rfl, he⟩
  simp only [r05_SameBig_L2]
  by_cases hlt : i < b.f_Digits.length
  · rw [if_pos (by simpa using hlt), idx_nat hlt, Option.bind_some, idx_nat (by omega), Option.bind_some]
    by_cases hx : b.f_Digits[i] = c.f_Digits[i]
    · left
      rw [if_neg (by simpa using hx)]
      refine ⟨hlt, _, rfl, by rw [w64 (by omega)]; omega, ?_⟩
      rw [List.take_add_one, List.take_add_one, he]
      simp [hlt, show i < c.f_Digits.length by omega, hx]
    · right
      rw [if_pos (by simpa using hx)]
      refine ⟨.inr false, rfl, rfl, fun h => hx ?_⟩
      simp [h]
  · right
    have : i = b.f_Digits.length := by omega
    subst this
    refine ⟨.inl (), by rw [if_neg (by simp)], ?_⟩
    rw [List.take_length, List.take_of_length_le (by omega)] at he
    exact he
theorem sameBig {b c : TBig} (hf : Fit b.f_Digits) : r05_SameBig b c = some (decide (b = c)) := by
  have hiff : b = c ↔ b.f_Sign = c.f_Sign ∧ b.f_Digits = c.f_Digits := by cases b; cases c; simp
  unfold r05_SameBig
  by_cases h1 : b.f_Sign = c.f_Sign
  · rw [if_neg (by simpa using h1), Option.bind_some]
    by_cases h2 : b.f_Digits.length = c.f_Digits.length
    · rw [if_neg (by simp; omega)]
      obtain ⟨r, h3, h4⟩ := same_loop hf h2
      rw [h3, Option.bind_some]
      cases r with
      | inl u => simp only at h4 ⊢; simp [hiff, h1, h4]
      | inr x => simp only at h4 ⊢; simp [hiff, h1, h4.1, h4.2]
    · rw [if_pos (by simp; omega)]
      have : b ≠ c := fun h => h2 (by rw [h])
      simp [this]
  · rw [if_pos (by simpa using h1), Option.bind_some, if_pos rfl]
    have : b ≠ c := fun h => h1 (by rw [h])
    simp [this]
theorem same4 {b c : TBig} (hf : Fit b.f_Digits) : r04_Same b c = some (decide (b = c)) := sameBig hf
theorem same5 {f g : TFrac} (hp : Fit f.f_P.f_Digits) (hq : Fit f.f_Q.f_Digits) : r05_Same f g = some (decide (f = g)) := by
  have hiff : f = g ↔ f.f_P = g.f_P ∧ f.f_Q = g.f_Q := by cases f; cases g; simp
  unfold r05_Same
  rw [sameBig hp, Option.bind_some]
  by_cases h : f.f_P = g.f_P
  · rw [if_pos (by simpa using h), sameBig hq, Option.bind_some]; simp [hiff, h]
  · rw [if_neg (by simpa using h)]; simp [hiff, h]

theorem Compare4 {x y : Int} (hx : Ln x ≤ Lbig) (hy : Ln y ≤ Lbig) : r04_Compare (mkB x) (mkB y) = some (cmpI x y) := by
  have hL : Lbig = 17592186043904 := rfl
  unfold r04_Compare
  rw [right4_mk (by omega), Option.bind_some]
  simp only [Bool.not_true, Bool.false_eq_true, if_false]
  rw [right4_mk (by omega), Option.bind_some]
  simp only [Bool.not_true, Bool.false_eq_true, if_false]
  have fx : (digs x.natAbs).length ≤ 17592186043904 := by show Ln x ≤ _; omega
  have fy : (digs y.natAbs).length ≤ 17592186043904 := by show Ln y ≤ _; omega
  rw [same4 (by unfold Fit; show Ln x ≤ _; omega), Option.bind_some, Option.bind_some]
  have hxd : (mkB x).f_Digits = digs x.natAbs := rfl
  have hyd : (mkB y).f_Digits = digs y.natAbs := rfl
  have hxs : (mkB x).f_Sign = x.sign := rfl
  have hys : (mkB y).f_Sign = y.sign := rfl
  by_cases he : x = y
  · subst he
    rw [if_pos (by simp)]
    simp [cmpI]
  · rw [if_neg (by simp only [decide_eq_true_eq]; exact fun h => he (mkB_inj h)), hxd, hyd, hxs, hys]
    by_cases h : x.sign = y.sign
    · rw [if_neg (by simpa using h), less4 (dg_digs _) (dg_digs _) (by unfold Fit; omega) (by unfold Fit; omega), Option.bind_some, dv_digs, dv_digs]
      have hc : cmpI x y = if x < y then -1 else 1 := by
        unfold cmpI
        split
        · rfl
        · rw [if_pos (by omega)]
      rcases sign_abs x with ⟨a, b, c⟩ | ⟨a, b, c⟩ | ⟨a, b⟩ <;> rcases sign_abs y with ⟨a', b', c'⟩ | ⟨a', b', c'⟩ | ⟨a', b'⟩ <;> (try (rw [a, a'] at h; exact absurd h (by decide)))
      · rw [a, hc]
        by_cases hlt : x < y
        · have h1 : (x.natAbs : Int) < y.natAbs := by omega
          rw [if_pos hlt, decide_eq_true h1]; rfl
        · have h1 : ¬ (x.natAbs : Int) < y.natAbs := by omega
          rw [if_neg hlt, decide_eq_false h1]; rfl
      · rw [a, hc]
        by_cases hlt : x < y
        · have h1 : ¬ (x.natAbs : Int) < y.natAbs := by omega
          rw [if_pos hlt, decide_eq_false h1]; rfl
        · have h1 : (x.natAbs : Int) < y.natAbs := by omega
          rw [if_neg hlt, decide_eq_true h1]; rfl
      · exact absurd (b.trans b'.symm) he
    · rw [if_pos (by simpa using h)]
      unfold cmpI
      rcases sign_abs x with ⟨a, b, c⟩ | ⟨a, b, c⟩ | ⟨a, b⟩ <;> rcases sign_abs y with ⟨a', b', c'⟩ | ⟨a', b', c'⟩ | ⟨a', b'⟩ <;> (try (exact absurd (a.trans a'.symm) h)) <;> rw [a, a'] <;> (try rw [if_pos (show x < y by omega)]) <;> (try rw [if_neg (show ¬ x < y by omega), if_pos (show y < x by omega)]) <;> rfl

/-! Fractions. -/
theorem Right5 {f : TFrac} (hf : FitF f) : r05_Right f = some (okF f) := by
  have hL : Lbig = 17592186043904 := rfl
  obtain ⟨p, q⟩ := f
  simp only [FitF] at hf
  unfold r05_Right okF
  rw [right4 (show Fit p.f_Digits by unfold Fit; omega), Option.bind_some]
  by_cases h1 : okB p = true
  · simp only [h1, Bool.not_true, Bool.false_eq_true, if_false, Bool.true_and]
    rw [right4 (show Fit q.f_Digits by unfold Fit; omega), Option.bind_some]
    by_cases h2 : okB q = true
    · simp only [h2, Bool.not_true, Bool.false_eq_true, if_false, Bool.true_and, Option.bind_some]
      obtain ⟨x, rfl⟩ := okB_iff.1 h1
      obtain ⟨y, rfl⟩ := okB_iff.1 h2
      have hys : (mkB y).f_Sign = y.sign := rfl
      by_cases h3 : y.sign = 1
      · rw [if_neg (by rw [hys, h3]; decide), Gcd4 hf.1 hf.2, Option.bind_some, Of4 (by decide), Option.bind_some]
        have h5 : (dv (mkB x).f_Digits).toNat = x.natAbs := by show (dv (digs _)).toNat = _; rw [dv_digs]; rfl
        have h6 : (dv (mkB y).f_Digits).toNat = y.natAbs := by show (dv (digs _)).toNat = _; rw [dv_digs]; rfl
        have hy : 0 < y.natAbs := by rcases sign_abs y with ⟨a, b, c⟩ | ⟨a, b, c⟩ | ⟨a, b⟩ <;> omega
        have hgl : Ln (Int.gcd x y : Int) ≤ Lbig := by
          have := digs_len_mono (Nat.gcd_le_right x.natAbs hy)
          have h7 : (digs y.natAbs).length ≤ Lbig := hf.2
          show (digs (Nat.gcd x.natAbs y.natAbs)).length ≤ _
          omega
        simp only
        rw [Compare4 hgl (Nat.le_trans (Ln_small (by decide)) (by decide)), Option.bind_some, h5, h6, hys, h3]
        have hg : Nat.gcd x.natAbs y.natAbs = Int.gcd x y := rfl
        congr 1
        unfold cmpI
        by_cases h : Int.gcd x y = 1
        · rw [decide_eq_true (hg.trans h), h]; rfl
        · have h1 : ¬ ((Int.gcd x y : Nat) : Int) = 1 := by omega
          rw [decide_eq_false (fun h' => h (hg.symm.trans h'))]
          split
          · rfl
          · rw [if_pos (by omega)]; rfl
      · have h4 : ((mkB y).f_Sign == 1) = false := by rw [hys]; simpa using h3
        rw [if_pos (by rw [hys]; have := sign_or y; simp; omega), h4]
        rfl
    · simp only [h2, Bool.not_false, if_true, Option.bind_some, Bool.false_and]
  · simp only [h1, Bool.not_false, if_true, Option.bind_some, Bool.false_and]

theorem New5 {p q : Int} (hp : Ln p ≤ Lmax) (hq : Ln q ≤ Lmax) (h0 : q ≠ 0) : r05_New (mkB p) (mkB q) = some (mkF (Rat.divInt p q), 0) := by
  have hL : Lmax = 4398046511104 := rfl
  have main : ∀ {p q : Int}, Ln p ≤ Lmax → Ln q ≤ Lmax → 0 < q →
      ((r04_Gcd (mkB p) (mkB q)).bind fun r6 => (r04_Div (mkB p) r6.1).bind fun r7 => (r04_Div (mkB q) r6.1).bind fun r8 => some ((TFrac.mk r7.1 r8.1), (0 : Int))) = some (mkF (Rat.divInt p q), 0) := by
    intro p q hp hq h0
    have hg : 0 < Int.gcd p q := Int.gcd_pos_of_ne_zero_right _ (by omega)
    have hgl : Ln (Int.gcd p q : Int) ≤ Lmax := by
      have := digs_len_mono (Nat.gcd_le_right p.natAbs (show 0 < q.natAbs by omega))
      show (digs (Nat.gcd p.natAbs q.natAbs)).length ≤ _
      have h7 : (digs q.natAbs).length ≤ Lmax := hq
      omega
    rw [Gcd4 (Lmax_big hp) (Lmax_big hq), Option.bind_some]
    simp only
    rw [Div4 hp hgl (by omega) (Int.gcd_dvd_left ..), Option.bind_some, Div4 hq hgl (by omega) (Int.gcd_dvd_right ..), Option.bind_some]
    have hd : ((q.natAbs / Int.gcd p q : Nat) : Int) = q / (Int.gcd p q : Int) := by
      rw [Int.natCast_ediv]
      congr 1
      omega
    unfold mkF
    rw [Rat.num_divInt, Rat.den_divInt, if_neg (by omega), Int.sign_eq_one_of_pos h0, Int.one_mul, Int.gcd_comm q p, hd]
  unfold r05_New
  rw [right4_mk (by omega), Option.bind_some]
  simp only [Bool.not_true, Bool.false_eq_true, if_false]
  rw [right4_mk (by omega), Option.bind_some, Option.bind_some]
  simp only [Bool.not_true, Bool.false_eq_true, if_false]
  have hqs : (mkB q).f_Sign = q.sign := rfl
  rw [hqs]
  rcases sign_abs q with ⟨a, b, c⟩ | ⟨a, b, c⟩ | ⟨a, b⟩
  · rw [if_neg (by rw [a]; decide), if_neg (by rw [a]; decide), Option.bind_some]
    exact main hp hq c
  · rw [if_neg (by rw [a]; decide), if_pos (by rw [a]; decide), Neg4 hp, Option.bind_some, Neg4 hq, Option.bind_some, Option.bind_some]
    have := main (p := -p) (q := -q) (by rw [Ln_neg]; exact hp) (by rw [Ln_neg]; exact hq) (by omega)
    rw [Rat.neg_divInt_neg] at this
    exact this
  · exact absurd b h0

theorem Ln_i64 {x : Int} (h : -9223372036854775808 ≤ x ∧ x < 9223372036854775808) : Ln x ≤ Lmax := by
  have : Ln x ≤ 4 := Ln_le (by rw [pw4]; omega)
  have hL : Lmax = 4398046511104 := rfl
  omega
theorem Of5 {p q : Int} (hp : -9223372036854775808 ≤ p ∧ p < 9223372036854775808) (hq : -9223372036854775808 ≤ q ∧ q < 9223372036854775808) (h0 : q ≠ 0) : r05_Of p q = some (mkF (Rat.divInt p q), 0) := by
  unfold r05_Of
  rw [Of4 hp, Option.bind_some, Of4 hq, Option.bind_some, New5 (Ln_i64 hp) (Ln_i64 hq) h0, Option.bind_some]
theorem Int5 {n : Int} (h : -9223372036854775808 ≤ n ∧ n < 9223372036854775808) : r05_Int n = some (mkF n) := by
  unfold r05_Int
  rw [Of5 h (by decide) (by decide), Option.bind_some]
  simp only
  congr 2
  have := Rat.num_divInt_den (n : Rat)
  rw [Rat.num_intCast, Rat.den_intCast] at this
  exact this
theorem few5 (f : TFrac) (n : Int) : r05_Few f n = some (decide ((f.f_P.f_Digits.length : Int) ≤ n ∧ (f.f_Q.f_Digits.length : Int) ≤ n)) := by
  unfold r05_Few
  by_cases h : (f.f_P.f_Digits.length : Int) ≤ n
  · rw [if_pos (by simpa using h)]; simp [h]
  · rw [if_neg (by simpa using h)]; simp [h]
end Go.Proofs.Ytoclpeomlofcjaa.P
