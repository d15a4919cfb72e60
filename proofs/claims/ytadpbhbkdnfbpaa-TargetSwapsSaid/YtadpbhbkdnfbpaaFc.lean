/- The program's whole numbers: differences, products, quotients by one digit. -/
import Derived.Test.YtadpbhbkdnfbpaaFb
namespace Go.Proofs.Ytadpbhbkdnfbpaa.P
open Go.RowKit
set_option linter.unusedSimpArgs false
set_option linter.unusedVariables false

theorem clone_eq {l : List Int} (h : Fit l) : slices_Clone l = some l := by
  unfold slices_Clone
  rw [app8 (by simpa using h), List.nil_append]

theorem gd_lt {l : List Int} {i : Nat} (h : i < l.length) : gd l i = l[i] := by unfold gd; rw [dif_pos h]
theorem gd_ge {l : List Int} {i : Nat} (h : l.length ≤ i) : gd l i = 0 := by unfold gd; rw [dif_neg (by omega)]

/-! One digit. -/
theorem dv_drop {l : List Int} {i : Nat} (h : i < l.length) : dv (l.drop i) = l[i] + 1048576 * dv (l.drop (i + 1)) := by
  rw [List.drop_eq_getElem_cons h, dv]
theorem divq {x d : Int} (h : 0 ≤ x) (hd : 0 < d) (hx : x < 4611686018427387904) : divI .i64 x d = some (x / d) := by
  unfold divI
  rw [if_neg (by omega), Int.tdiv_eq_ediv_of_nonneg h, w64]
  have := Int.ediv_nonneg h (Int.le_of_lt hd)
  have := Int.ediv_le_self d h
  omega
theorem modq {x d : Int} (h : 0 ≤ x) (hd : 0 < d) : modI .i64 x d = some (x % d) := by
  unfold modI
  rw [if_neg (by omega), Int.tmod_eq_emod_of_nonneg h]

theorem short_loop {a : List Int} {d : Int} (ha : Dg a) (hd : 0 < d ∧ d ≤ 1048576) (hf : Fit a) :
    ∃ r, loopL (big_short_L1 a d) (0, IntKind.i64.wrap ((a.length : Int) - 1), List.replicate a.length 0) = some r ∧ r.2.length = a.length ∧ Dg r.2 ∧ (0 ≤ r.1 ∧ r.1 < d) ∧ dv a = d * dv r.2 + r.1 := by
  unfold Fit at hf
  have e0 : IntKind.i64.wrap ((a.length : Int) - 1) = (a.length : Int) - 1 := w64 (by omega)
  rw [e0]
  refine loop_nat (I := fun i s => s.2.1 = ((a.length - i : Nat) : Int) - 1 ∧ s.2.2.length = a.length ∧ Dg s.2.2 ∧ (0 ≤ s.1 ∧ s.1 < d) ∧ dv (a.drop (a.length - i)) = d * dv (s.2.2.drop (a.length - i)) + s.1)
    a.length _ ⟨rfl, by simp, Dg.rep _, by simp; omega, by simp [dv]⟩ (lenFU (by omega)) ?_
  rintro i ⟨r, s, l⟩ hi ⟨h1, hl, hg, hr, he⟩
  simp only at h1 hl hg hr he
  subst h1
  generalize hk : a.length - i = k at *
  simp only [big_short_L1]
  by_cases h0 : 0 < k
  · left
    have hk1 : k - 1 < a.length := by omega
    have hk2 : k - 1 < l.length := by omega
    have ek : ((k : Int) - 1) = ((k - 1 : Nat) : Int) := by omega
    have ga := ha.get hk1
    rw [ek, if_pos (by simp), shl20 (by omega) (by omega), Option.bind_some, idx_nat hk1, Option.bind_some, or_low (by omega) (by omega) ga, divq (by omega) hd.1 (by omega), Option.bind_some, idx_nat hk2, Option.bind_some, modq (by omega) hd.1, Option.bind_some]
    have e1 : IntKind.i64.wrap (((k - 1 : Nat) : Int) - 1) = ((k - 1 : Nat) : Int) - 1 := w64 (by omega)
    have hx0 : 0 ≤ 1048576 * r + a[k - 1] := by omega
    have hq0 : 0 ≤ (1048576 * r + a[k - 1]) / d := Int.ediv_nonneg hx0 (by omega)
    have hq1 : (1048576 * r + a[k - 1]) / d < 1048576 := by
      apply Int.ediv_lt_of_lt_mul hd.1
      have : 1048576 * r ≤ 1048576 * (d - 1) := Int.mul_le_mul_of_nonneg_left (by omega) (by omega)
      omega
    have hm0 := Int.emod_nonneg (1048576 * r + a[k - 1]) (show d ≠ 0 by omega)
    have hm1 := Int.emod_lt_of_pos (1048576 * r + a[k - 1]) hd.1
    refine ⟨by omega, _, rfl, by rw [e1, show a.length - (i + 1) = k - 1 by omega], by simpa using hl, hg.set _ ⟨hq0, hq1⟩, ⟨hm0, hm1⟩, ?_⟩
    simp only [Int.toNat_natCast]
    rw [show a.length - (i + 1) = k - 1 by omega, dv_drop hk1, dv_drop (l := l.set (k - 1) _) (i := k - 1) (by simpa using hk2), show k - 1 + 1 = k by omega, List.getElem_set_self, List.drop_set_of_lt (by omega), he]
    have := Int.mul_ediv_add_emod (1048576 * r + a[k - 1]) d
    rw [Int.mul_add, Int.mul_add]
    have e3 : d * (1048576 * dv (l.drop k)) = 1048576 * (d * dv (l.drop k)) := by rw [← Int.mul_assoc, Int.mul_comm d, Int.mul_assoc]
    rw [e3]
    omega
  · right
    have : k = 0 := by omega
    subst this
    refine ⟨(r, l), by rw [if_neg (by simp)], hl, hg, hr, ?_⟩
    simpa using he

theorem short_eq {a : List Int} {d : Int} (ha : Dg a) (hd : 0 < d ∧ d ≤ 1048576) (hf : Fit a) : big_short a d = some (digs (dv a / d).toNat, dv a % d) := by
  obtain ⟨⟨r, l⟩, h1, h2, h3, h4, h5⟩ := short_loop ha hd hf
  unfold big_short
  rw [mk0 hf, Option.bind_some, h1, Option.bind_some]
  simp only at h2 h3 h4 h5 ⊢
  rw [trim_eq (by unfold Fit at *; omega) h3, Option.bind_some]
  have e1 : dv a / d = dv l := by
    rw [h5, Int.mul_comm, Int.add_comm, Int.add_mul_ediv_right _ _ (by omega), Int.ediv_eq_zero_of_lt h4.1 h4.2]; omega
  have e2 : dv a % d = r := by
    rw [h5, Int.mul_comm, Int.add_comm, Int.add_mul_emod_self_right]
    exact Int.emod_eq_of_lt h4.1 h4.2
  rw [e1, e2]

/-! Products. -/
theorem mul_loop3 {b l0 : List Int} {x : Int} {i n : Nat} (hb : Dg b) (hx : 0 ≤ x ∧ x < 1048576) (h0 : Dg l0) (hn : l0.length = n) (hi : i + b.length < n) (hf : n ≤ 17592186044416) (hz : ∀ j (hj : j < l0.length), i + b.length ≤ j → l0[j] = 0) :
    ∃ r, loopL (big_mul_L3 b (i : Int) x) (0, 0, l0) = some r ∧ r.2.length = n ∧ Dg r.2 ∧ (0 ≤ r.1 ∧ r.1 < 1048576) ∧ (∀ j (hj : j < r.2.length), i + b.length ≤ j → r.2[j] = 0) ∧ dv r.2 + pw (i + b.length) * r.1 = dv l0 + pw i * (x * dv b) := by
  refine loop_nat (I := fun k s => s.2.1 = (k : Int) ∧ s.2.2.length = n ∧ Dg s.2.2 ∧ (0 ≤ s.1 ∧ s.1 < 1048576) ∧ (∀ j (hj : j < s.2.2.length), i + b.length ≤ j → s.2.2[j] = 0) ∧ dv s.2.2 + pw (i + k) * s.1 = dv l0 + pw i * (x * dv (b.take k)))
    b.length _ ⟨rfl, hn, h0, by simp, hz, by simp [dv]⟩ (lenFU (by omega)) ?_
  rintro k ⟨c, s, l⟩ hk ⟨h1, hl, hd, hc, hz, he⟩
  simp only at h1 hl hd hc hz he
  subst h1
  simp only [big_mul_L3]
  by_cases hlt : k < b.length
  · left
    have hik : i + k < l.length := by omega
    have ei : IntKind.i64.wrap ((i : Int) + (k : Int)) = ((i + k : Nat) : Int) := by rw [w64 (by omega)]; omega
    have gb := hb.get hlt
    have gl := hd.get hik
    have hm0 : 0 ≤ x * b[k] := Int.mul_nonneg hx.1 gb.1
    have hm1 : x * b[k] ≤ 1048575 * 1048575 := Int.mul_le_mul (by omega) (by omega) gb.1 (by omega)
    rw [if_pos (by simpa using hlt), idx_nat hlt, Option.bind_some, ei, idx_nat hik, Option.bind_some, w64 (x := x * b[k]) (by omega), w64 (x := l[i + k] + x * b[k]) (by omega), w64 (x := l[i + k] + x * b[k] + c) (by omega), shr20, Option.bind_some, and_mask (by omega) (by omega)]
    have e1 : IntKind.i64.wrap ((k : Int) + 1) = ((k + 1 : Nat) : Int) := by rw [w64 (by omega)]; omega
    refine ⟨hlt, _, rfl, e1, by simpa using hl, hd.set _ (by omega), by simp only; omega, fun j hj hij => ?_, ?_⟩
    · simp only [Int.toNat_natCast] at hj ⊢
      rw [List.getElem_set_ne (by omega)]
      exact hz j (by simpa using hj) hij
    · simp only [Int.toNat_natCast]
      rw [dv_set hik, dv_take_succ hlt]
      have hp := pw_div (i + k) (l[i + k] + x * b[k] + c)
      rw [Int.mul_add (pw (i + k)), Int.mul_add (pw (i + k))] at hp
      have e2 : pw i * (x * (dv (b.take k) + pw k * b[k])) = pw i * (x * dv (b.take k)) + pw (i + k) * (x * b[k]) := by
        rw [Int.mul_add, Int.mul_add, pw_add]
        congr 1
        rw [Int.mul_left_comm x, ← Int.mul_assoc]
      rw [e2, Int.mul_sub, show i + (k + 1) = i + k + 1 by omega]
      omega
  · right
    have hkb : k = b.length := by omega
    subst hkb
    refine ⟨(c, l), by rw [if_neg (by simp)], hl, hd, hc, hz, ?_⟩
    rw [he, List.take_length]

theorem mul_loop1 {a b : List Int} (ha : Dg a) (hb : Dg b) (hf : a.length + b.length ≤ 17592186044416) :
    ∃ l, loopL (big_mul_L1 a b) (0, List.replicate (a.length + b.length) 0) = some l ∧ l.length = a.length + b.length ∧ Dg l ∧ dv l = dv a * dv b := by
  refine loop_nat (I := fun i s => s.1 = (i : Int) ∧ s.2.length = a.length + b.length ∧ Dg s.2 ∧ (∀ j (hj : j < s.2.length), i + b.length ≤ j → s.2[j] = 0) ∧ dv s.2 = dv (a.take i) * dv b)
    a.length _ ⟨rfl, by simp, Dg.rep _, fun j hj _ => by simp, by simp [dv, dv_rep]⟩ (lenFU (by omega)) ?_
  rintro i ⟨s, l⟩ hi ⟨h1, hl, hd, hz, he⟩
  simp only at h1 hl hd hz he
  subst h1
  simp only [big_mul_L1]
  by_cases hlt : i < a.length
  · left
    have ga := ha.get hlt
    obtain ⟨⟨c, m⟩, g1, g2, g3, g4, g5, g6⟩ := mul_loop3 (i := i) (n := a.length + b.length) hb ga hd hl (by omega) hf hz
    rw [if_pos (by simpa using hlt), idx_nat hlt, Option.bind_some, g1, Option.bind_some]
    simp only at g2 g3 g4 g5 g6 ⊢
    have ei : IntKind.i64.wrap ((i : Int) + (b.length : Int)) = ((i + b.length : Nat) : Int) := by rw [w64 (by omega)]; omega
    have hib : i + b.length < m.length := by omega
    rw [ei, idx_nat hib, Option.bind_some, g5 _ hib (Nat.le_refl _), Int.zero_add, w64 (x := c) (by omega)]
    have e1 : IntKind.i64.wrap ((i : Int) + 1) = ((i + 1 : Nat) : Int) := by rw [w64 (by omega)]; omega
    refine ⟨hlt, _, rfl, e1, by simpa using g2, g3.set _ g4, fun j hj hij => ?_, ?_⟩
    · simp only [Int.toNat_natCast] at hj ⊢
      rw [List.getElem_set_ne (by omega)]
      exact g5 j (by simpa using hj) (by omega)
    · simp only [Int.toNat_natCast]
      rw [dv_set hib, g5 _ hib (Nat.le_refl _), Int.sub_zero, g6, he, dv_take_succ hlt, Int.add_mul, Int.mul_assoc]
  · right
    have hia : i = a.length := by omega
    subst hia
    refine ⟨l, by rw [if_neg (by simp)], hl, hd, ?_⟩
    rw [he, List.take_length]

theorem mul_eq {a b : List Int} (ha : Dg a) (hb : Dg b) (hf : a.length + b.length ≤ 17592186044416) : big_mul a b = some (digs (dv a * dv b).toNat) := by
  obtain ⟨l, h1, h2, h3, h4⟩ := mul_loop1 ha hb hf
  unfold big_mul
  have e : IntKind.i64.wrap ((a.length : Int) + (b.length : Int)) = ((a.length + b.length : Nat) : Int) := by rw [w64 (by omega)]; omega
  rw [e, mk0 hf, Option.bind_some, h1, Option.bind_some, obind_id, trim_eq (by unfold Fit; omega) h3, h4]
end Go.Proofs.Ytadpbhbkdnfbpaa.P
