/- The program's whole numbers: comparing, and the one step of a long division. -/
import Derived.Test.YtadpbhbkdnfbpaaFc
namespace Go.Proofs.Ytadpbhbkdnfbpaa.P
open Go.RowKit
set_option linter.unusedSimpArgs false
set_option linter.unusedVariables false

/-- -1, 0, 1 -/
def cmpI (x y : Int) : Int := if x < y then -1 else if y < x then 1 else 0
theorem cmp_eq (x y : Int) : cmp_Compare x y = some (cmpI x y) := by
  unfold cmp_Compare cmp_isNaN cmpI
  simp only [bne_self_eq_false, Option.bind_some, Bool.false_eq_true, if_false, decide_eq_true_eq]
  split
  · rfl
  · split <;> rfl

theorem compare_len {a b : List Int} (ha : Dg a) (hb : Dg b) (hf : Fit a) (hl : a.length = b.length) : big_compare a b = some (cmpI (dv a) (dv b)) := by
  unfold Fit at hf
  unfold big_compare
  rw [if_neg (by simp; omega)]
  have e0 : IntKind.i64.wrap ((a.length : Int) - 1) = (a.length : Int) - 1 := w64 (by omega)
  rw [e0]
  have key : ∃ r, loopL (big_compare_L1 a b) ((a.length : Int) - 1) = some r ∧ (match r with | .inl _ => cmpI (dv a) (dv b) = 0 | .inr x => x = cmpI (dv a) (dv b)) := by
    refine loop_nat (I := fun i s => s = ((a.length - i : Nat) : Int) - 1 ∧ a.drop (a.length - i) = b.drop (a.length - i)) a.length _ ⟨rfl, ?_⟩ (lenFU hf) ?_
    · rw [List.drop_eq_nil_of_le (by omega), List.drop_eq_nil_of_le (by omega)]
    rintro i s hi ⟨rfl, he⟩
    generalize hk : a.length - i = k at *
    simp only [big_compare_L1]
    by_cases h0 : 0 < k
    · have h1 : k - 1 < a.length := by omega
      have h2 : k - 1 < b.length := by omega
      have ek : ((k : Int) - 1) = ((k - 1 : Nat) : Int) := by omega
      rw [ek, if_pos (by simp), idx_nat h1, Option.bind_some, idx_nat h2, Option.bind_some]
      by_cases hx : a[k - 1] = b[k - 1]
      · left
        rw [if_neg (by simpa using hx)]
        refine ⟨by omega, _, rfl, by rw [w64 (by omega)]; omega, ?_⟩
        rw [show a.length - (i + 1) = k - 1 by omega, List.drop_eq_getElem_cons h1, List.drop_eq_getElem_cons h2, hx, show k - 1 + 1 = k by omega, he]
      · right
        rw [if_pos (by simpa using hx), cmp_eq, Option.bind_some]
        refine ⟨_, rfl, ?_⟩
        simp only
        have ea := dv_split a (i := k) (by omega)
        have eb := dv_split b (i := k) (by omega)
        have ta := dv_take_succ h1
        have tb := dv_take_succ h2
        rw [show k - 1 + 1 = k by omega] at ta tb
        have la := dv_lt (ha.take (k - 1))
        have lb := dv_lt (hb.take (k - 1))
        rw [List.length_take, Nat.min_eq_left (by omega)] at la lb
        have na := dv_nonneg (ha.take (k - 1))
        have nb := dv_nonneg (hb.take (k - 1))
        have hp := pw_pos (k - 1)
        rw [ta] at ea
        rw [tb] at eb
        rw [he] at ea
        unfold cmpI
        rcases Int.lt_or_gt_of_ne hx with hlt | hlt
        · have : pw (k - 1) * a[k - 1] + pw (k - 1) ≤ pw (k - 1) * b[k - 1] := by
            have : pw (k - 1) * (a[k - 1] + 1) ≤ pw (k - 1) * b[k - 1] := Int.mul_le_mul_of_nonneg_left (by omega) (by omega)
            rwa [Int.mul_add, Int.mul_one] at this
          rw [if_pos hlt, if_pos (by omega)]
        · have : pw (k - 1) * b[k - 1] + pw (k - 1) ≤ pw (k - 1) * a[k - 1] := by
            have : pw (k - 1) * (b[k - 1] + 1) ≤ pw (k - 1) * a[k - 1] := Int.mul_le_mul_of_nonneg_left (by omega) (by omega)
            rwa [Int.mul_add, Int.mul_one] at this
          rw [if_neg (by omega), if_pos hlt, if_neg (by omega), if_pos (by omega)]
    · right
      have : k = 0 := by omega
      subst this
      refine ⟨.inl (), by rw [if_neg (by simp)], ?_⟩
      simp only [List.drop_zero] at he
      simp [he, cmpI]
  obtain ⟨r, h1, h2⟩ := key
  rw [h1, Option.bind_some]
  cases r with
  | inl u => simp only at h2 ⊢; rw [h2]
  | inr x => simp only at h2 ⊢; rw [h2]

theorem digs_len_lt {m n : Nat} (h : (digs m).length < (digs n).length) : m < n := by
  have h1 := lt_pw_digs m
  have hn : n ≠ 0 := fun h0 => by subst h0; rw [digs_zero] at h; simp at h
  have h2 := digs_len_pos hn
  have h3 := pw_mono (i := (digs m).length) (j := (digs n).length - 1) (by omega)
  omega
theorem digs_len_mono {m n : Nat} (h : m ≤ n) : (digs m).length ≤ (digs n).length := by
  rcases Nat.lt_or_ge (digs n).length (digs m).length with h1 | h1
  · have := digs_len_lt h1; omega
  · exact h1

theorem compare_eq {m n : Nat} (hm : Fit (digs m)) (hn : Fit (digs n)) : big_compare (digs m) (digs n) = some (cmpI m n) := by
  by_cases hl : (digs m).length = (digs n).length
  · rw [compare_len (dg_digs m) (dg_digs n) hm hl, dv_digs, dv_digs]
  · unfold big_compare
    rw [if_pos (by simp; omega), cmp_eq, obind_id]
    unfold cmpI
    rcases Nat.lt_or_gt_of_ne hl with h | h
    · have := digs_len_lt h
      rw [if_pos (by omega), if_pos (by omega)]
    · have := digs_len_lt h
      rw [if_neg (by omega), if_pos (by omega), if_neg (by omega), if_pos (by omega)]

/-! A multiple taken away. -/
theorem settle_loop1 {u v : List Int} {g : Int} (hu : Dg u) (hv : Dg v) (hg : 0 ≤ g ∧ g ≤ 1048576) (hf : Fit u) (hl : v.length ≤ u.length) :
    ∃ r, loopL (big_settle_w_L1 u v g) (0, 0, u) = some r ∧ r.2.length = u.length ∧ Dg r.2 ∧ (0 ≤ r.1 ∧ r.1 ≤ 1048576) ∧ dv r.2 + g * dv v = dv u + pw u.length * r.1 := by
  unfold Fit at hf
  refine loop_nat (I := fun i s => s.2.1 = (i : Int) ∧ s.2.2.length = u.length ∧ Dg s.2.2 ∧ (∀ j (hj : j < s.2.2.length) (hj' : j < u.length), i ≤ j → s.2.2[j] = u[j]) ∧ (0 ≤ s.1 ∧ s.1 ≤ 1048576) ∧ dv s.2.2 + g * dv (v.take i) = dv u + pw i * s.1)
    u.length _ ⟨rfl, rfl, hu, fun j hj _ _ => rfl, by simp, by simp [dv]⟩ (lenFU (by omega)) ?_
  rintro i ⟨c, s, l⟩ hi ⟨h1, hll, hd, hz, hc, he⟩
  simp only at h1 hll hd hz hc he
  subst h1
  simp only [big_settle_w_L1]
  by_cases hlt : i < u.length
  · left
    have hli : i < l.length := by omega
    rw [if_pos (by simpa using hlt), idx_nat hli, Option.bind_some, hz i hli hlt (Nat.le_refl _)]
    have ga := hu.get hlt
    have gb := gd_dg hv i
    have hm0 : 0 ≤ g * gd v i := Int.mul_nonneg hg.1 gb.1
    have hm1 : g * gd v i ≤ 1048576 * 1048575 := Int.mul_le_mul (by omega) (by omega) gb.1 (by omega)
    have hT : (if decide ((i : Int) < (v.length : Int)) = true then (P.idx v (i : Int)).bind fun x17 => some (IntKind.i64.wrap ((IntKind.i64.wrap (u[i] - c)) - (IntKind.i64.wrap (g * x17)))) else some (IntKind.i64.wrap (u[i] - c))) = some (u[i] - c - g * gd v i) := by
      by_cases hib : i < v.length
      · rw [if_pos (by simpa using hib), idx_nat hib, Option.bind_some]
        rw [gd_lt hib] at gb hm0 hm1 ⊢
        rw [w64 (x := u[i] - c) (by omega), w64 (x := g * v[i]) (by omega), w64 (by omega)]
      · rw [if_neg (by simpa using hib), gd_ge (by omega), w64 (by omega)]; simp
    rw [hT, Option.bind_some, shr20, Option.bind_some, and_mask (by omega) (by omega), w64 (x := 0 - _) (by omega)]
    have e1 : IntKind.i64.wrap ((i : Int) + 1) = ((i + 1 : Nat) : Int) := by rw [w64 (by omega)]; omega
    refine ⟨hlt, _, rfl, e1, by simpa using hll, hd.set _ (by omega), fun j hj hj' hij => ?_, by simp only; omega, ?_⟩
    · simp only [Int.toNat_natCast] at hj ⊢
      rw [List.getElem_set_ne (by omega)]
      exact hz j (by simpa using hj) hj' (by omega)
    · simp only [Int.toNat_natCast]
      rw [dv_set hli, hz i hli hlt (Nat.le_refl _), gd_take]
      have hp := pw_div i (u[i] - c - g * gd v i)
      rw [Int.mul_sub (pw i), Int.mul_sub (pw i)] at hp
      have e2 : g * (dv (v.take i) + pw i * gd v i) = g * dv (v.take i) + pw i * (g * gd v i) := by rw [Int.mul_add, Int.mul_left_comm]
      rw [e2, Int.mul_sub (pw i), Int.mul_sub (pw (i + 1)), Int.mul_zero]
      omega
  · right
    have hia : i = u.length := by omega
    subst hia
    refine ⟨(c, l), by rw [if_neg (by simp)], hll, hd, hc, ?_⟩
    rw [gd_all hl] at he
    exact he

theorem settle_loop4 {u v : List Int} (hu : Dg u) (hv : Dg v) (hf : Fit u) (hl : v.length ≤ u.length) :
    ∃ l, loopL (big_settle_w_L4 v u) (0, 0, u) = some l ∧ l.length = u.length ∧ Dg l ∧ ∃ c, 0 ≤ c ∧ dv l + pw u.length * c = dv u + dv v := by
  unfold Fit at hf
  refine loop_nat (I := fun i s => s.2.1 = (i : Int) ∧ s.2.2.length = u.length ∧ Dg s.2.2 ∧ (∀ j (hj : j < s.2.2.length) (hj' : j < u.length), i ≤ j → s.2.2[j] = u[j]) ∧ (0 ≤ s.1 ∧ s.1 ≤ 1) ∧ dv s.2.2 + pw i * s.1 = dv u + dv (v.take i))
    u.length _ ⟨rfl, rfl, hu, fun j hj _ _ => rfl, by simp, by simp [dv]⟩ (lenFU (by omega)) ?_
  rintro i ⟨c, s, l⟩ hi ⟨h1, hll, hd, hz, hc, he⟩
  simp only at h1 hll hd hz hc he
  subst h1
  simp only [big_settle_w_L4]
  by_cases hlt : i < u.length
  · left
    have hli : i < l.length := by omega
    rw [if_pos (by simpa using hlt), idx_nat hli, Option.bind_some, hz i hli hlt (Nat.le_refl _)]
    have ga := hu.get hlt
    have gb := gd_dg hv i
    have hT : (if decide ((i : Int) < (v.length : Int)) = true then (P.idx v (i : Int)).bind fun x35 => some (IntKind.i64.wrap ((IntKind.i64.wrap (c + u[i])) + x35)) else some (IntKind.i64.wrap (c + u[i]))) = some (c + u[i] + gd v i) := by
      by_cases hib : i < v.length
      · rw [if_pos (by simpa using hib), idx_nat hib, Option.bind_some]
        rw [gd_lt hib] at gb ⊢
        rw [w64 (x := c + u[i]) (by omega), w64 (by omega)]
      · rw [if_neg (by simpa using hib), gd_ge (by omega), w64 (by omega)]; simp
    rw [hT, Option.bind_some, shr20, Option.bind_some, and_mask (by omega) (by omega)]
    have e1 : IntKind.i64.wrap ((i : Int) + 1) = ((i + 1 : Nat) : Int) := by rw [w64 (by omega)]; omega
    refine ⟨hlt, _, rfl, e1, by simpa using hll, hd.set _ (by omega), fun j hj hj' hij => ?_, by simp only; omega, ?_⟩
    · simp only [Int.toNat_natCast] at hj ⊢
      rw [List.getElem_set_ne (by omega)]
      exact hz j (by simpa using hj) hj' (by omega)
    · simp only [Int.toNat_natCast]
      rw [dv_set hli, hz i hli hlt (Nat.le_refl _), gd_take]
      have hp := pw_div i (c + u[i] + gd v i)
      rw [Int.mul_add (pw i), Int.mul_add (pw i)] at hp
      rw [Int.mul_sub (pw i)]
      omega
  · right
    have hia : i = u.length := by omega
    subst hia
    refine ⟨l, by rw [if_neg (by simp)], hll, hd, c, hc.1, ?_⟩
    rw [gd_all hl] at he
    exact he

theorem settle_eq {u v : List Int} {g : Int} (hu : Dg u) (hv : Dg v) (hf : Fit u) (hl : v.length ≤ u.length) (hV : 0 < dv v) (hg0 : dv u / dv v ≤ g) (hg1 : g ≤ dv u / dv v + 1) (hgB : g ≤ 1048576) :
    ∃ l, big_settle_w u v g = some (l, dv u / dv v) ∧ l.length = u.length ∧ Dg l ∧ dv l = dv u % dv v := by
  have hq0 : 0 ≤ dv u / dv v := Int.ediv_nonneg (dv_nonneg hu) (by omega)
  obtain ⟨⟨c, l⟩, h1, h2, h3, h4, h5⟩ := settle_loop1 hu hv ⟨by omega, hgB⟩ hf hl
  simp only at h2 h3 h4 h5
  have hm := Int.mul_ediv_add_emod (dv u) (dv v)
  have hm0 := Int.emod_nonneg (dv u) (show dv v ≠ 0 by omega)
  have hm1 := Int.emod_lt_of_pos (dv u) hV
  have hll := dv_lt h3
  have hl0 := dv_nonneg h3
  rw [h2] at hll
  have hp := pw_pos u.length
  have hvl : dv v < pw u.length := Int.lt_of_lt_of_le (dv_lt hv) (pw_mono hl)
  unfold big_settle_w big_settle_w_B
  rw [h1, Option.bind_some]
  simp only
  rcases (show g = dv u / dv v ∨ g = dv u / dv v + 1 by omega) with hg | hg
  · -- the guess is right
    have hgv : g * dv v = dv v * (dv u / dv v) := by rw [hg, Int.mul_comm]
    have hc0 : c = 0 := by
      rcases (show c = 0 ∨ 1 ≤ c by omega) with h | h
      · exact h
      · have : pw u.length * 1 ≤ pw u.length * c := Int.mul_le_mul_of_nonneg_left h (by omega)
        omega
    subst hc0
    rw [if_pos (by simp), Option.bind_some, if_pos (by simpa using h2)]
    exact ⟨l, by rw [hg], h2, h3, by rw [Int.mul_zero] at h5; omega⟩
  · -- one too much
    have hgv : g * dv v = dv v * (dv u / dv v) + dv v := by rw [hg, Int.add_mul, Int.one_mul, Int.mul_comm]
    have hc0 : c ≠ 0 := by
      intro h
      subst h
      rw [Int.mul_zero] at h5
      omega
    obtain ⟨m, g1, g2, g3, d, g4, g5⟩ := settle_loop4 h3 hv (by unfold Fit at *; omega) (by omega)
    rw [if_neg (by simpa using hc0), g1, Option.bind_some, Option.bind_some, if_pos (by simp; omega)]
    refine ⟨m, by rw [w64 (by omega), hg]; simp, by omega, g3, ?_⟩
    rw [h2] at g5
    have hml := dv_lt g3
    have hm0' := dv_nonneg g3
    rw [g2, h2] at hml
    have hcd : c = d := by
      rcases Int.lt_trichotomy c d with h | h | h
      · have : pw u.length * (c + 1) ≤ pw u.length * d := Int.mul_le_mul_of_nonneg_left (by omega) (by omega)
        rw [Int.mul_add, Int.mul_one] at this
        omega
      · exact h
      · have : pw u.length * (d + 1) ≤ pw u.length * c := Int.mul_le_mul_of_nonneg_left (by omega) (by omega)
        rw [Int.mul_add, Int.mul_one] at this
        omega
    subst hcd
    omega
end Go.Proofs.Ytadpbhbkdnfbpaa.P
