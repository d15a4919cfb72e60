/- The program's whole numbers: digits, trimmed; sums, differences. -/
import Derived.Test.YtadpbhbkdnfbpaaDp
import Derived.Test.YtadpbhbkdnfbpaaFa
namespace Go.Proofs.Ytadpbhbkdnfbpaa.P
open Go.RowKit
set_option linter.unusedSimpArgs false
set_option linter.unusedVariables false

/-- A list that fits in memory. -/
abbrev Fit (l : List Int) : Prop := l.length ≤ 17592186044416

theorem wl {l : List Int} (h : Fit l) (k : Int) (hk : -17592186044416 ≤ k ∧ k ≤ 17592186044416) : IntKind.i64.wrap ((l.length : Int) + k) = (l.length : Int) + k := wrap64 (by unfold Fit at h; omega) (by unfold Fit at h; omega)
theorem w64 {x : Int} (h : -4611686018427387904 ≤ x ∧ x ≤ 4611686018427387904) : IntKind.i64.wrap x = x := wrap64 (by omega) (by omega)

theorem bind_bind' {α β γ : Type} (o : Option α) (f : α → Option β) (g : β → Option γ) : (o.bind f).bind g = o.bind fun x => (f x).bind g := by cases o <;> rfl

theorem obind_id {α : Type} (o : Option α) : (o.bind fun r => some r) = o := by cases o <;> rfl

/-! Zeros at the end. -/
theorem trim_loop {l : List Int} (hl : Fit l) : ∃ r, loopL (big_trim_L1 l) (l.length : Int) = some r ∧ ∃ k : Nat, r = k ∧ k ≤ l.length ∧ (∀ j (hj : j < l.length), k ≤ j → l[j] = 0) ∧ (∀ h : 0 < k, ∀ hk : k - 1 < l.length, l[k - 1] ≠ 0) := by
  unfold Fit at hl
  refine loop_nat (I := fun i s => s = ((l.length - i : Nat) : Int) ∧ (∀ j (hj : j < l.length), l.length - i ≤ j → l[j] = 0)) l.length _ ⟨rfl, fun j hj h => by omega⟩ (lenFU hl) ?_
  rintro i s hi ⟨rfl, hz⟩
  generalize hk : l.length - i = k at *
  simp only [big_trim_L1]
  by_cases h0 : 0 < k
  · have hk1 : k - 1 < l.length := by omega
    have e : IntKind.i64.wrap ((k : Int) - 1) = ((k - 1 : Nat) : Int) := by rw [w64 (by omega)]; omega
    rw [if_pos (by simp; omega), e, idx_nat hk1, Option.bind_some]
    by_cases hx : l[k - 1] = 0
    · left
      refine ⟨by omega, _, by rw [if_pos (by simpa using hx)], by rw [show l.length - (i + 1) = k - 1 by omega], fun j hj h => ?_⟩
      by_cases hj' : j = k - 1
      · subst hj'; exact hx
      · exact hz j hj (by omega)
    · right
      exact ⟨_, by rw [if_neg (by simpa using hx)], k, rfl, by omega, hz, fun _ _ => hx⟩
  · right
    exact ⟨_, by rw [if_neg (by simp; omega)], k, rfl, by omega, hz, fun h => absurd h h0⟩

theorem dv_zeros {l : List Int} {k : Nat} (hz : ∀ j (hj : j < l.length), k ≤ j → l[j] = 0) : dv (l.drop k) = 0 := by
  have : l.drop k = List.replicate (l.drop k).length 0 := by
    refine List.eq_replicate_of_mem fun x hx => ?_
    obtain ⟨i, hi, rfl⟩ := List.mem_iff_getElem.1 hx
    rw [List.getElem_drop]
    exact hz _ _ (by omega)
  rw [this, dv_rep]

theorem trim_eq {l : List Int} (hl : Fit l) (hd : Dg l) : big_trim l = some (digs (dv l).toNat) := by
  obtain ⟨r, h1, k, rfl, hk, hz, hlast⟩ := trim_loop hl
  unfold big_trim
  rw [h1, Option.bind_some, slc_nat hk, Option.bind_some]
  congr 1
  have h2 : dv l = dv (l.take k) := by rw [dv_split l hk, dv_zeros hz]; omega
  rw [h2]
  refine (digs_dv (hd.take k) fun hne => ?_).symm
  have hk0 : 0 < k := by
    rcases Nat.eq_zero_or_pos k with h | h
    · subst h; simp at hne
    · exact h
  have := hlast hk0 (by omega)
  rw [List.getLast_eq_getElem]
  simp only [List.length_take, List.getElem_take, Nat.min_eq_left hk]
  exact this

/-- Digits that stand for a number. -/
theorem trim_of {l : List Int} {n : Nat} (hl : Fit l) (hd : Dg l) (hn : dv l = n) : big_trim l = some (digs n) := by
  rw [trim_eq hl hd, hn]; rfl

/-! Sums. -/
def gd (l : List Int) (i : Nat) : Int := if h : i < l.length then l[i] else 0
theorem gd_dg {l : List Int} (h : Dg l) (i : Nat) : 0 ≤ gd l i ∧ gd l i < 1048576 := by
  unfold gd
  split
  · exact h.get _
  · omega
theorem gd_take {l : List Int} (i : Nat) : dv (l.take (i + 1)) = dv (l.take i) + pw i * gd l i := by
  unfold gd
  split
  · exact dv_take_succ _
  · rw [List.take_of_length_le (by omega), List.take_of_length_le (by omega)]; simp
theorem gd_all {l : List Int} {i : Nat} (h : l.length ≤ i) : dv (l.take i) = dv l := by rw [List.take_of_length_le h]

end Go.Proofs.Ytadpbhbkdnfbpaa.P
