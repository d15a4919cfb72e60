/- Whole numbers as lists of digits. -/
import Derived.Test.YtadpbhbkdnfbpaaCe
namespace Go.Proofs.Ytadpbhbkdnfbpaa.P
open Go.RowKit
set_option linter.unusedSimpArgs false
set_option linter.unusedVariables false

/-- The digits of a number, the least first. -/
def digs (n : Nat) : List Int := if h : n = 0 then [] else ((n % 1048576 : Nat) : Int) :: digs (n / 1048576)
termination_by n
decreasing_by omega
/-- The number of digits. -/
def dv : List Int → Int
  | [] => 0
  | d :: l => d + 1048576 * dv l
def Dg (l : List Int) : Prop := ∀ d ∈ l, 0 ≤ d ∧ d < 1048576
def pw (i : Nat) : Int := 1048576 ^ i

theorem pw_zero : pw 0 = 1 := rfl
theorem pw_succ (i : Nat) : pw (i + 1) = 1048576 * pw i := by unfold pw; rw [Int.pow_succ, Int.mul_comm]
theorem pw_pos (i : Nat) : 0 < pw i := by unfold pw; exact Int.pow_pos (by decide)
theorem pw_add (i j : Nat) : pw (i + j) = pw i * pw j := by unfold pw; rw [Int.pow_add]
theorem pw_mono {i j : Nat} (h : i ≤ j) : pw i ≤ pw j := by
  obtain ⟨k, rfl⟩ := Nat.le.dest h
  rw [pw_add]
  have h1 := pw_pos i
  have h2 := pw_pos k
  calc pw i = pw i * 1 := by rw [Int.mul_one]
    _ ≤ pw i * pw k := Int.mul_le_mul_of_nonneg_left (by omega) (by omega)

theorem digs_zero : digs 0 = [] := by rw [digs]; rfl
theorem digs_pos {n : Nat} (h : n ≠ 0) : digs n = ((n % 1048576 : Nat) : Int) :: digs (n / 1048576) := by rw [digs, dif_neg h]
theorem digs_nil {n : Nat} : digs n = [] ↔ n = 0 := by
  constructor
  · intro h
    rcases Nat.eq_zero_or_pos n with h0 | h0
    · exact h0
    · rw [digs_pos (by omega)] at h; cases h
  · rintro rfl; exact digs_zero
theorem dv_digs : ∀ n : Nat, dv (digs n) = n := by
  intro n
  induction n using Nat.strongRecOn with
  | _ n ih =>
    rcases Nat.eq_zero_or_pos n with h0 | h0
    · subst h0; rw [digs_zero]; rfl
    · rw [digs_pos (by omega), dv, ih (n / 1048576) (by omega)]
      omega
theorem dg_digs : ∀ n : Nat, Dg (digs n) := by
  intro n
  induction n using Nat.strongRecOn with
  | _ n ih =>
    rcases Nat.eq_zero_or_pos n with h0 | h0
    · subst h0; rw [digs_zero]; intro d hd; cases hd
    · rw [digs_pos (by omega)]
      intro d hd
      rcases List.mem_cons.1 hd with rfl | hd
      · omega
      · exact ih (n / 1048576) (by omega) d hd
theorem Dg.nil : Dg [] := fun d hd => by cases hd
theorem Dg.cons {d : Int} {l : List Int} (h : Dg (d :: l)) : (0 ≤ d ∧ d < 1048576) ∧ Dg l := ⟨h d List.mem_cons_self, fun x hx => h x (List.mem_cons_of_mem _ hx)⟩
theorem Dg.mk {d : Int} {l : List Int} (h : 0 ≤ d ∧ d < 1048576) (hl : Dg l) : Dg (d :: l) := fun x hx => by
  rcases List.mem_cons.1 hx with rfl | hx
  · exact h
  · exact hl x hx
theorem Dg.append {l m : List Int} (h : Dg l) (hm : Dg m) : Dg (l ++ m) := fun x hx => (List.mem_append.1 hx).elim (h x) (hm x)
theorem Dg.take {l : List Int} (h : Dg l) (n : Nat) : Dg (l.take n) := fun x hx => h x (List.mem_of_mem_take hx)
theorem Dg.drop {l : List Int} (h : Dg l) (n : Nat) : Dg (l.drop n) := fun x hx => h x (List.mem_of_mem_drop hx)
theorem Dg.rep (n : Nat) : Dg (List.replicate n 0) := fun x hx => by rw [(List.mem_replicate.1 hx).2]; omega
theorem Dg.set {l : List Int} (h : Dg l) (i : Nat) {x : Int} (hx : 0 ≤ x ∧ x < 1048576) : Dg (l.set i x) := fun y hy => by
  rcases List.mem_or_eq_of_mem_set hy with hy | rfl
  · exact h y hy
  · exact hx
theorem Dg.get {l : List Int} (h : Dg l) {i : Nat} (hi : i < l.length) : 0 ≤ l[i] ∧ l[i] < 1048576 := h _ (List.getElem_mem hi)

theorem dv_nonneg : ∀ {l : List Int}, Dg l → 0 ≤ dv l
  | [], _ => Int.le_refl _
  | d :: l, h => by
    have h1 := h.cons
    have := dv_nonneg h1.2
    simp only [dv]
    omega
theorem dv_lt : ∀ {l : List Int}, Dg l → dv l < pw l.length
  | [], _ => by simp [dv, pw_zero]
  | d :: l, h => by
    have h1 := h.cons
    have := dv_lt h1.2
    simp only [dv, List.length_cons, pw_succ]
    omega
theorem dv_append : ∀ l m : List Int, dv (l ++ m) = dv l + pw l.length * dv m
  | [], m => by simp [dv, pw_zero]
  | d :: l, m => by
    rw [List.cons_append, dv, dv, dv_append l m, List.length_cons, pw_succ, Int.mul_add, Int.mul_assoc]
    omega
theorem dv_rep : ∀ n : Nat, dv (List.replicate n 0) = 0
  | 0 => rfl
  | n + 1 => by rw [List.replicate_succ, dv, dv_rep n]; rfl
theorem dv_take_succ {l : List Int} {i : Nat} (h : i < l.length) : dv (l.take (i + 1)) = dv (l.take i) + pw i * l[i] := by
  have e : l.take (i + 1) = l.take i ++ [l[i]] := by rw [List.take_add_one]; simp [h]
  rw [e, dv_append, List.length_take, Nat.min_eq_left (by omega)]
  simp [dv]
theorem dv_split (l : List Int) {i : Nat} (h : i ≤ l.length) : dv l = dv (l.take i) + pw i * dv (l.drop i) := by
  have := dv_append (l.take i) (l.drop i)
  rw [List.take_append_drop, List.length_take, Nat.min_eq_left h] at this
  exact this
theorem dv_set {l : List Int} {i : Nat} (h : i < l.length) (x : Int) : dv (l.set i x) = dv l + pw i * (x - l[i]) := by
  induction l generalizing i with
  | nil => simp at h
  | cons d l ih =>
    cases i with
    | zero => simp only [List.set_cons_zero, dv, pw_zero, List.getElem_cons_zero]; omega
    | succ i =>
      have := ih (i := i) (by simpa using h)
      simp only [List.set_cons_succ, dv, this, pw_succ, List.getElem_cons_succ, Int.mul_add, Int.mul_assoc]
      omega

/-- Digits without zeros at the end are those of the number. -/
theorem digs_dv : ∀ {l : List Int}, Dg l → (∀ h : l ≠ [], l.getLast h ≠ 0) → digs (dv l).toNat = l
  | [], _, _ => by simp [dv, digs_zero]
  | d :: l, h, hl => by
    have h1 := h.cons
    have h2 := dv_nonneg h1.2
    have hne : (dv (d :: l)).toNat ≠ 0 := by
      simp only [dv]
      intro h0
      have hd : d = 0 := by omega
      have hv : dv l = 0 := by omega
      cases l with
      | nil => exact hl (by simp) (by simpa using hd)
      | cons e m =>
        have ih := digs_dv h1.2 (fun hh => by have := hl (by simp); simpa using this)
        rw [hv] at ih
        simp [digs_zero] at ih
    rw [digs_pos hne]
    have e1 : (dv (d :: l)).toNat % 1048576 = d.toNat := by simp only [dv]; omega
    have e2 : (dv (d :: l)).toNat / 1048576 = (dv l).toNat := by simp only [dv]; omega
    rw [e1, e2]
    have hd : (d.toNat : Int) = d := by omega
    rw [hd]
    cases l with
    | nil => simp [dv, digs_zero]
    | cons e m => rw [digs_dv h1.2 (fun hh => by have := hl (by simp); simpa using this)]
theorem digs_last : ∀ (n : Nat) (h : digs n ≠ []), (digs n).getLast h ≠ 0 := by
  intro n
  induction n using Nat.strongRecOn with
  | _ n ih =>
    intro h
    have hn : n ≠ 0 := fun h0 => h (digs_nil.2 h0)
    have e := digs_pos hn
    by_cases hq : n / 1048576 = 0
    · have : digs n = [((n % 1048576 : Nat) : Int)] := by rw [e, hq, digs_zero]
      simp only [this, List.getLast_singleton]
      omega
    · have hne : digs (n / 1048576) ≠ [] := fun h0 => hq (digs_nil.1 h0)
      have := ih (n / 1048576) (by omega) hne
      simp only [e]
      rw [List.getLast_cons hne]
      exact this
theorem digs_inj {a b : Nat} (h : digs a = digs b) : a = b := by
  have := congrArg dv h
  rw [dv_digs, dv_digs] at this
  omega
theorem digs_len_le {n k : Nat} (h : (n : Int) < pw k) : (digs n).length ≤ k := by
  induction k generalizing n with
  | zero =>
    rw [pw_zero] at h
    have : n = 0 := by omega
    rw [this, digs_zero]; simp
  | succ k ih =>
    by_cases h0 : n = 0
    · rw [h0, digs_zero]; simp
    · rw [digs_pos h0, List.length_cons]
      rw [pw_succ] at h
      have := ih (n := n / 1048576) (by omega)
      omega
theorem lt_pw_digs (n : Nat) : (n : Int) < pw (digs n).length := by
  have := dv_lt (dg_digs n)
  rwa [dv_digs] at this
theorem digs_len_pos {n : Nat} (h : n ≠ 0) : pw ((digs n).length - 1) ≤ n ∧ 0 < (digs n).length := by
  induction n using Nat.strongRecOn with
  | _ n ih =>
    rw [digs_pos h, List.length_cons]
    refine ⟨?_, by omega⟩
    by_cases hq : n / 1048576 = 0
    · rw [hq, digs_zero]; simp [pw_zero]; omega
    · obtain ⟨h1, h2⟩ := ih (n / 1048576) (by omega) hq
      have : (digs (n / 1048576)).length + 1 - 1 = ((digs (n / 1048576)).length - 1) + 1 := by omega
      rw [this, pw_succ]
      omega

/-! Words on ints. -/
theorem and_mask {x : Int} (h1 : -9223372036854775808 ≤ x) (h2 : x < 9223372036854775808) : bitI .and .i64 x 1048575 = x % 1048576 := by
  unfold bitI
  simp only
  have e1 : (BitVec.ofInt IntKind.i64.bits x &&& BitVec.ofInt IntKind.i64.bits 1048575).toNat = ((x % 18446744073709551616).toNat) % 1048576 := by
    rw [BitVec.toNat_and, BitVec.toNat_ofInt, BitVec.toNat_ofInt]
    have e : ((1048575 : Int) % ((2 ^ IntKind.i64.bits : Nat) : Int)).toNat = 2 ^ 20 - 1 := by decide
    rw [e, Nat.and_two_pow_sub_one_eq_mod]
    rfl
  rw [e1, wrap64 (by omega) (by omega)]
  omega
theorem and_one {x : Int} (h1 : -9223372036854775808 ≤ x) (h2 : x < 9223372036854775808) : bitI .and .i64 x 1 = x % 2 := by
  unfold bitI
  simp only
  have e1 : (BitVec.ofInt IntKind.i64.bits x &&& BitVec.ofInt IntKind.i64.bits 1).toNat = ((x % 18446744073709551616).toNat) % 2 := by
    rw [BitVec.toNat_and, BitVec.toNat_ofInt, BitVec.toNat_ofInt]
    have e : ((1 : Int) % ((2 ^ IntKind.i64.bits : Nat) : Int)).toNat = 2 ^ 1 - 1 := by decide
    rw [e, Nat.and_two_pow_sub_one_eq_mod]
    rfl
  rw [e1, wrap64 (by omega) (by omega)]
  omega
theorem shr20 (x : Int) : shrI .i64 x 20 = some (x / 1048576) := by
  unfold shrI
  rw [if_neg (by decide)]
  have e : (2 : Int) ^ (min (Int.toNat 20) IntKind.i64.bits) = 1048576 := by decide
  rw [e, Int.fdiv_eq_ediv_of_nonneg _ (by decide)]
theorem shl20 {x : Int} (h0 : 0 ≤ x) (h : x < 8796093022208) : shlI .i64 x 20 = some (1048576 * x) := by
  unfold shlI
  rw [if_neg (by decide)]
  have e : (2 : Int) ^ (min (Int.toNat 20) IntKind.i64.bits) = 1048576 := by decide
  rw [e, wrap64 (by omega) (by omega), Int.mul_comm]
theorem or_low {x y : Int} (h0 : 0 ≤ x) (h : x < 8796093022208) (hy : 0 ≤ y ∧ y < 1048576) : bitI .or .i64 (1048576 * x) y = 1048576 * x + y := by
  unfold bitI
  simp only
  have e1 : (BitVec.ofInt IntKind.i64.bits (1048576 * x) ||| BitVec.ofInt IntKind.i64.bits y).toNat = 1048576 * x.toNat + y.toNat := by
    rw [BitVec.toNat_or, BitVec.toNat_ofInt, BitVec.toNat_ofInt]
    have e : ((2 ^ IntKind.i64.bits : Nat) : Int) = 18446744073709551616 := by decide
    rw [e]
    have e2 : ((1048576 * x) % 18446744073709551616).toNat = x.toNat <<< 20 := by rw [Nat.shiftLeft_eq]; omega
    have e3 : (y % 18446744073709551616).toNat = y.toNat := by omega
    rw [e2, e3, ← Nat.shiftLeft_add_eq_or_of_lt (by omega), Nat.shiftLeft_eq]
    omega
  rw [e1, wrap64 (by omega) (by omega)]
  omega
theorem mk0 {n : Nat} (h : n ≤ 17592186044416) : mkL 8 (n : Int) (n : Int) (0 : Int) = some (List.replicate n 0) := by
  unfold mkL
  rw [if_pos]
  · simp
  · have : (17592186044416 : Int) ≤ maxLen := by decide
    refine ⟨by omega, by omega, by omega, ?_⟩
    simp only [Int.toNat_natCast]
    omega
theorem app8 {l m : List Int} (h : l.length + m.length ≤ 17592186044416) : appL 8 l m = some (l ++ m) := by
  unfold appL
  have : (17592186044416 : Nat) ≤ maxLen := by decide
  rw [if_pos ⟨by omega, by omega⟩]
/-- A loop that counts up. -/
theorem loop_nat {σ ρ : Type} {body : σ → Option (σ ⊕ ρ)} (I : Nat → σ → Prop) (n : Nat) (Q : ρ → Prop) {s : σ} (hI : I 0 s) (hn : n + 1 < FU)
    (hstep : ∀ i s, i ≤ n → I i s → (i < n ∧ ∃ s', body s = some (.inl s') ∧ I (i + 1) s') ∨ (∃ r, body s = some (.inr r) ∧ Q r)) : ∃ r, loopL body s = some r ∧ Q r := by
  have key : ∀ (k i : Nat) (s : σ), i ≤ n → n - i < k → I i s → ∃ r, iterL body k s = some r ∧ Q r := by
    intro k
    induction k with
    | zero => intro i s _ h; omega
    | succ k ih =>
      intro i s hi hk hI
      rcases hstep i s hi hI with ⟨hlt, s', h1, h2⟩ | ⟨r, h1, h2⟩
      · obtain ⟨r, h3, h4⟩ := ih (i + 1) s' (by omega) (by omega) h2
        exact ⟨r, by simp only [iterL, h1]; exact h3, h4⟩
      · exact ⟨r, by simp only [iterL, h1], h2⟩
  exact key FU 0 s (Nat.zero_le _) (by omega) hI
theorem pw_mul3 (i : Nat) (x : Int) : pw (i + 1) * x = pw i * (1048576 * x) := by rw [pw_succ, Int.mul_comm 1048576 (pw i), Int.mul_assoc]
theorem pw_div (i : Nat) (t : Int) : pw i * (t % 1048576) + pw (i + 1) * (t / 1048576) = pw i * t := by
  rw [pw_mul3, ← Int.mul_add]
  congr 1
  omega
theorem lenFU {n : Nat} (h : n ≤ 17592186044416) : n + 1 < FU := by unfold FU; omega
end Go.Proofs.Ytadpbhbkdnfbpaa.P
