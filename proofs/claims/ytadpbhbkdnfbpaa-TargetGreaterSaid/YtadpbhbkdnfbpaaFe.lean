/- The program's whole numbers: long division. -/
import Derived.Test.YtadpbhbkdnfbpaaFd
namespace Go.Proofs.Ytadpbhbkdnfbpaa.P
open Go.RowKit
set_option linter.unusedSimpArgs false
set_option linter.unusedVariables false

/-- What the guess of a quotient's digit comes to. -/
theorem guess_loop {v u : List Int} {s13 : Int} {v1 v2 w2 T V W : Int} {n : Nat} (hn : 2 ≤ n) (hlen : v.length = n) (hfv : n ≤ 17592186044416) (i : Nat) (hs : s13 = i) (hfi : i + n ≤ 17592186044416)
    (hv2 : P.idx v (((n - 2 : Nat)) : Int) = some v2) (hw2 : P.idx u (((i + n - 2 : Nat)) : Int) = some w2)
    (b1 : 524288 ≤ v1 ∧ v1 < 1048576) (b2 : 0 ≤ v2 ∧ v2 < 1048576) (bw : 0 ≤ w2 ∧ w2 < 1048576) (hT0 : 0 ≤ T) (hT1 : T < 1048576 * 1048576)
    (hV : pw (n - 2) * (v1 * 1048576 + v2) ≤ V ∧ V < pw (n - 2) * (v1 * 1048576 + v2 + 1)) (hW : pw (n - 2) * (T * 1048576 + w2) ≤ W ∧ W < pw (n - 2) * (T * 1048576 + w2 + 1)) (hWV : W < 1048576 * V) :
    ∃ g, loopL (big_div_L7 v s13 u v1) (T / v1, T % v1) = some g ∧ W / V ≤ g ∧ g ≤ W / V + 1 ∧ g ≤ 1048576 := by
  subst hs
  have hp := pw_pos (n - 2)
  have hVp : 0 < V := by
    have : pw (n - 2) * 1 ≤ pw (n - 2) * (v1 * 1048576 + v2) := Int.mul_le_mul_of_nonneg_left (by omega) (by omega)
    omega
  have hW0 : 0 ≤ W := by
    have : 0 ≤ pw (n - 2) * (T * 1048576 + w2) := Int.mul_nonneg (by omega) (by omega)
    omega
  have hq0 : 0 ≤ W / V := Int.ediv_nonneg hW0 (by omega)
  have hqB : W / V < 1048576 := Int.ediv_lt_of_lt_mul hVp hWV
  have hm := Int.mul_ediv_add_emod T v1
  have hm0 := Int.emod_nonneg T (show v1 ≠ 0 by omega)
  have hm1 := Int.emod_lt_of_pos T (show 0 < v1 by omega)
  have hd0 : 0 ≤ T / v1 := Int.ediv_nonneg hT0 (by omega)
  have hd1 : T / v1 ≤ 2097152 := by
    have : T / v1 < 2097153 := Int.ediv_lt_of_lt_mul (by omega) (by
      have : 2097153 * 524288 ≤ 2097153 * v1 := Int.mul_le_mul_of_nonneg_left b1.1 (by omega)
      omega)
    omega
  -- a quotient that is not too small
  have hge : ∀ g r : Int, g * v1 + r = T → W / V ≤ g → g * v2 > r * 1048576 + w2 → W / V ≤ g - 1 := by
    intro g r h1 h2 h3
    have h4 : W < g * V := by
      have e1 : g * (v1 * 1048576 + v2) ≥ T * 1048576 + w2 + 1 := by
        rw [← h1]
        have : g * (v1 * 1048576 + v2) = g * v1 * 1048576 + g * v2 := by rw [Int.mul_add, Int.mul_assoc]
        rw [this, Int.add_mul]
        omega
      have e2 : pw (n - 2) * (T * 1048576 + w2 + 1) ≤ pw (n - 2) * (g * (v1 * 1048576 + v2)) := Int.mul_le_mul_of_nonneg_left e1 (by omega)
      have e3 : g * (pw (n - 2) * (v1 * 1048576 + v2)) ≤ g * V := Int.mul_le_mul_of_nonneg_left hV.1 (by omega)
      have e4 : pw (n - 2) * (g * (v1 * 1048576 + v2)) = g * (pw (n - 2) * (v1 * 1048576 + v2)) := Int.mul_left_comm _ _ _
      omega
    have := Int.ediv_lt_of_lt_mul hVp h4
    omega
  have hle : ∀ g r : Int, g * v1 + r = T → 0 ≤ g → g ≤ 1048576 → g * v2 ≤ r * 1048576 + w2 → g ≤ W / V + 1 := by
    intro g r h1 h0 hB h3
    have e1 : g * (v1 * 1048576 + v2) ≤ T * 1048576 + w2 := by
      rw [← h1]
      have : g * (v1 * 1048576 + v2) = g * v1 * 1048576 + g * v2 := by rw [Int.mul_add, Int.mul_assoc]
      rw [this, Int.add_mul]
      omega
    have e2 : g * V ≤ W + V := by
      have f1 : g * V ≤ g * (pw (n - 2) * (v1 * 1048576 + v2 + 1)) := Int.mul_le_mul_of_nonneg_left (by omega) h0
      have f2 : g * (pw (n - 2) * (v1 * 1048576 + v2 + 1)) = pw (n - 2) * (g * (v1 * 1048576 + v2)) + pw (n - 2) * g := by
        rw [Int.mul_left_comm, Int.mul_add g, Int.mul_one, Int.mul_add]
      have f3 : pw (n - 2) * (g * (v1 * 1048576 + v2)) ≤ pw (n - 2) * (T * 1048576 + w2) := Int.mul_le_mul_of_nonneg_left e1 (by omega)
      have f4 : pw (n - 2) * g ≤ pw (n - 2) * (v1 * 1048576 + v2) := Int.mul_le_mul_of_nonneg_left (by omega) (by omega)
      omega
    have e3 : (g - 1) * V ≤ W := by rw [Int.sub_mul, Int.one_mul]; omega
    have := Int.le_ediv_of_mul_le hVp e3
    omega
  have hbase : W / V ≤ T / v1 := by
    have e1 : W < (T / v1 + 1) * V := by
      have f1 : T + 1 ≤ (T / v1 + 1) * v1 := by
        have : (T / v1 + 1) * v1 = v1 * (T / v1) + v1 := by rw [Int.add_mul, Int.one_mul, Int.mul_comm]
        omega
      have f2 : T * 1048576 + w2 + 1 ≤ (T / v1 + 1) * (v1 * 1048576 + v2) := by
        have g1 : (T + 1) * 1048576 ≤ (T / v1 + 1) * v1 * 1048576 := Int.mul_le_mul_of_nonneg_right f1 (by omega)
        have g2 : 0 ≤ (T / v1 + 1) * v2 := Int.mul_nonneg (by omega) b2.1
        rw [Int.mul_add, ← Int.mul_assoc]
        omega
      have f3 : pw (n - 2) * (T * 1048576 + w2 + 1) ≤ pw (n - 2) * ((T / v1 + 1) * (v1 * 1048576 + v2)) := Int.mul_le_mul_of_nonneg_left f2 (by omega)
      have f4 : (T / v1 + 1) * (pw (n - 2) * (v1 * 1048576 + v2)) ≤ (T / v1 + 1) * V := Int.mul_le_mul_of_nonneg_left hV.1 (by omega)
      have f5 : pw (n - 2) * ((T / v1 + 1) * (v1 * 1048576 + v2)) = (T / v1 + 1) * (pw (n - 2) * (v1 * 1048576 + v2)) := Int.mul_left_comm _ _ _
      omega
    have := Int.ediv_lt_of_lt_mul hVp e1
    omega
  refine loopL_of (I := fun (s : Int × Int) => s.1 * v1 + s.2 = T ∧ W / V ≤ s.1 ∧ s.1 ≤ 2097152 ∧ 0 ≤ s.2) (μ := fun (s : Int × Int) => s.1.toNat) _ ⟨?_, hbase, hd1, hm0⟩ (by unfold FU; omega) ?_
  · show T / v1 * v1 + T % v1 = T
    rw [Int.mul_comm]; exact hm
  rintro ⟨g, r⟩ ⟨h1, h2, h3, h4⟩
  simp only at h1 h2 h3 h4
  have hgv : 0 ≤ g * v1 := Int.mul_nonneg (by omega) (by omega)
  simp only [big_div_L7]
  have el : IntKind.i64.wrap ((v.length : Int) - 2) = ((n - 2 : Nat) : Int) := by rw [hlen, w64 (by omega)]; omega
  have ei : IntKind.i64.wrap ((IntKind.i64.wrap ((i : Int) + (v.length : Int))) - 2) = ((i + n - 2 : Nat) : Int) := by rw [hlen, w64 (x := (i : Int) + n) (by omega), w64 (by omega)]; omega
  rw [el, ei]
  have hstep : W / V ≤ g - 1 → ∃ s' : Int × Int, (some (Sum.inl (IntKind.i64.wrap (g - 1), IntKind.i64.wrap (r + v1))) : Option ((Int × Int) ⊕ Int)) = some (.inl s') ∧ (s'.1 * v1 + s'.2 = T ∧ W / V ≤ s'.1 ∧ s'.1 ≤ 2097152 ∧ 0 ≤ s'.2) ∧ s'.1.toNat < g.toNat := by
    intro hlt
    refine ⟨_, rfl, ?_⟩
    rw [w64 (x := g - 1) (by omega), w64 (x := r + v1) (by omega)]
    simp only
    refine ⟨⟨by rw [Int.sub_mul, Int.one_mul]; omega, hlt, by omega, by omega⟩, by omega⟩
  by_cases hgB : g ≥ 1048576
  · rw [if_pos (by simpa using hgB), Option.bind_some, if_pos rfl]
    exact .inl (hstep (by omega))
  · rw [if_neg (by simpa using hgB)]
    by_cases hr : r < 1048576
    · have hgv2 : 0 ≤ g * v2 := Int.mul_nonneg (by omega) b2.1
      have hgv2' : g * v2 ≤ 1048576 * 1048576 := Int.mul_le_mul (by omega) (by omega) b2.1 (by omega)
      rw [if_pos (by simpa using hr), hv2, Option.bind_some, shl20 h4 (by omega), Option.bind_some, hw2, Option.bind_some, w64 (x := g * v2) (by omega), or_low h4 (by omega) bw, Option.bind_some]
      by_cases ht : g * v2 > 1048576 * r + w2
      · rw [if_pos (by simpa using ht)]
        exact .inl (hstep (hge g r h1 h2 (by omega)))
      · rw [if_neg (by simpa using ht)]
        exact .inr ⟨g, rfl, h2, hle g r h1 (by omega) (by omega) (by omega), by omega⟩
    · rw [if_neg (by simpa using hr), Option.bind_some, if_neg (by simp)]
      refine .inr ⟨g, rfl, h2, hle g r h1 (by omega) (by omega) ?_, by omega⟩
      have : g * v2 ≤ 1048575 * 1048575 := Int.mul_le_mul (by omega) (by omega) b2.1 (by omega)
      have : 1048576 * 1048576 ≤ r * 1048576 := Int.mul_le_mul_of_nonneg_right (by omega) (by omega)
      omega
end Go.Proofs.Ytadpbhbkdnfbpaa.P
