/- The law VaultShape. -/
import Derived.Test.YtlkceebfckkomaaEa
import Derived.WalkKit
namespace Go.Proofs.Ytlkceebfckkomaa.P
open Go.RowKit
set_option linter.unusedSimpArgs false
set_option linter.unusedVariables false

theorem pairR_of {l : List TThing} {a b : Int} {y : TThing} (h : pairR l a b = (y, 0)) : y.f_Left = a ∧ y.f_Right = b := by
  unfold pairR at h
  split at h
  · split at h
    · simp at h
    · simp only [Prod.mk.injEq, and_true] at h
      subst h
      exact ⟨rfl, rfl⟩
  · simp at h

def opensP (l : List TThing) (i : Int) (t : ByteArray) (v b : Int) : Prop := ∃ x, P.idx l i = some x ∧ x.f_Text = t ∧ x.f_Value = v ∧ x.f_Blind = b
theorem Opens_eq {l : List TThing} (hs : soundP l) (i : Int) (t : ByteArray) (v b : Int) : ∃ q, vault_Opens ⟨l⟩ i t v b = some q ∧ (q = true ↔ opensP l i t v b) := by
  obtain ⟨q, h1, h2⟩ := Sound_eq ⟨l⟩
  have hq : q = true := h2.2 hs
  subst hq
  have hm : l.length ≤ maxLen := Nat.le_trans hs.1 (by decide)
  have hw : IntKind.i64.wrap ((l.length : Int) - 1) = (l.length : Int) - 1 := wrap64 (by omega) (by have := small hm; omega)
  unfold vault_Opens
  simp only [h1, Option.bind_some, Bool.not_true, Bool.false_eq_true, if_false, within_eq, hw]
  by_cases hi : 0 ≤ i ∧ i < l.length
  · have hi' : 0 ≤ i ∧ i ≤ (l.length : Int) - 1 := by omega
    simp only [hi', and_self, decide_true, Bool.not_true, Bool.false_eq_true, if_false, idx_get hi.1 hi.2, Option.bind_some, opensP, Option.some.injEq, str_beq]
    generalize l[i.toNat]'(by omega) = x
    refine ⟨decide (x.f_Text = t ∧ x.f_Value = v ∧ x.f_Blind = b), ?_, by simp⟩
    simp only [decide_eq_true_eq, beq_iff_eq]
    split
    · split
      · congr 1
        simp_all
        by_cases hb : x.f_Blind = b <;> simp [hb]
      · simp_all
    · simp_all
  · have hi' : ¬ (0 ≤ i ∧ i ≤ (l.length : Int) - 1) := by omega
    simp only [hi', decide_false, Bool.not_false, if_true, opensP, idx_none hi]
    exact ⟨false, rfl, by simp⟩

theorem Few_eq (l : List TThing) (n : Int) (hl : l.length ≤ maxLen) : ∃ b, r35_Few ⟨l⟩ n = some b ∧ (b = true → (l.length : Int) ≤ n) := by
  have hs := small hl
  obtain ⟨r, h1, h2⟩ := loopL_of (body := r35_Few_L1 ⟨l⟩ n) (fun s => ∃ i : Nat, s = i ∧ i ≤ l.length) (fun s => (l.length : Int).toNat - s.toNat)
    (fun r => match r with | .inl _ => True | .inr b => b = false) (s := 0) ⟨0, rfl, Nat.zero_le _⟩ (by simp only [FU]; omega) (fun s hs' => by
      obtain ⟨i, rfl, hi⟩ := hs'
      simp only [r35_Few_L1]
      by_cases hlt : i < l.length
      · rw [if_pos (by simp; omega), Option.bind_some]
        split
        · simp only [idx_nat hlt, Option.bind_some]
          split
          · exact .inr ⟨.inr false, rfl, rfl⟩
          · have hw : IntKind.i64.wrap ((i : Int) + 1) = ((i + 1 : Nat) : Int) := by rw [wrap64 (by omega) (by omega)]; rfl
            exact .inl ⟨_, rfl, ⟨i + 1, hw, hlt⟩, by rw [hw]; omega⟩
        · exact .inr ⟨.inl (), rfl, trivial⟩
      · rw [if_neg (by simp; omega), Option.bind_some, if_neg (by simp)]
        exact .inr ⟨.inl (), rfl, trivial⟩)
  unfold r35_Few
  rw [h1]
  cases r with
  | inl u => exact ⟨_, rfl, fun h => by simpa using h⟩
  | inr b => subst h2; exact ⟨_, rfl, fun h => by cases h⟩

theorem sane_eq : l35_sane = some true := by kernel_rfl


theorem wrap_mod (x : Int) : ∃ q : Int, IntKind.i64.wrap x = x + q * 18446744073709551616 := by
  have key : IntKind.i64.wrap x = if x % 18446744073709551616 ≥ 9223372036854775808 then x % 18446744073709551616 - 18446744073709551616 else x % 18446744073709551616 := by
    unfold IntKind.wrap
    by_cases h : x % 18446744073709551616 ≥ 9223372036854775808
    · rw [if_pos h]; exact if_pos (by simpa [IntKind.bits, IntKind.signed] using h)
    · rw [if_neg h]; exact if_neg (by simpa [IntKind.bits, IntKind.signed] using h)
  have hd := Int.emod_add_mul_ediv x 18446744073709551616
  rw [key]
  split
  · exact ⟨-(x / 18446744073709551616) - 1, by omega⟩
  · exact ⟨-(x / 18446744073709551616), by omega⟩
theorem bent1 {p : Int} (hp : -32768 ≤ p ∧ p ≤ 32767) (h0 : p ≠ 0) (a : Int) : IntKind.i64.wrap (a + IntKind.i64.wrap p) ≠ a := by
  obtain ⟨q1, e1⟩ := wrap_mod p
  obtain ⟨q2, e2⟩ := wrap_mod (a + IntKind.i64.wrap p)
  generalize IntKind.i64.wrap (a + IntKind.i64.wrap p) = c at *
  generalize IntKind.i64.wrap p = d at *
  omega
theorem bent2 {p : Int} (hp : -32768 ≤ p ∧ p ≤ 32767) (h0 : p ≠ 0) (a b : Int) : IntKind.i64.wrap (IntKind.i64.wrap (a + IntKind.i64.wrap p) + b) ≠ IntKind.i64.wrap (a + b) := by
  obtain ⟨q1, e1⟩ := wrap_mod p
  obtain ⟨q2, e2⟩ := wrap_mod (a + IntKind.i64.wrap p)
  obtain ⟨q3, e3⟩ := wrap_mod (IntKind.i64.wrap (a + IntKind.i64.wrap p) + b)
  obtain ⟨q4, e4⟩ := wrap_mod (a + b)
  generalize IntKind.i64.wrap (IntKind.i64.wrap (a + IntKind.i64.wrap p) + b) = f at *
  generalize IntKind.i64.wrap (a + IntKind.i64.wrap p) = c at *
  generalize IntKind.i64.wrap p = d at *
  generalize IntKind.i64.wrap (a + b) = g at *
  omega
theorem bent3 {p : Int} (hp : -32768 ≤ p ∧ p ≤ 32767) (h0 : p ≠ 0) (a : Int) : IntKind.i64.wrap (IntKind.i64.wrap (a + IntKind.i64.wrap p) + IntKind.i64.wrap (a + IntKind.i64.wrap p)) ≠ IntKind.i64.wrap (a + a) := by
  obtain ⟨q1, e1⟩ := wrap_mod p
  obtain ⟨q2, e2⟩ := wrap_mod (a + IntKind.i64.wrap p)
  obtain ⟨q3, e3⟩ := wrap_mod (IntKind.i64.wrap (a + IntKind.i64.wrap p) + IntKind.i64.wrap (a + IntKind.i64.wrap p))
  obtain ⟨q4, e4⟩ := wrap_mod (a + a)
  generalize IntKind.i64.wrap (IntKind.i64.wrap (a + IntKind.i64.wrap p) + IntKind.i64.wrap (a + IntKind.i64.wrap p)) = f at *
  generalize IntKind.i64.wrap (a + IntKind.i64.wrap p) = c at *
  generalize IntKind.i64.wrap p = d at *
  generalize IntKind.i64.wrap (a + a) = g at *
  omega
theorem idx_of {α : Type} {l : List α} {i : Int} {x : α} (h : P.idx l i = some x) : ∃ n : Nat, i = n ∧ n < l.length ∧ l[n]? = some x := by
  unfold P.idx at h
  split at h
  · rename_i hc
    exact ⟨i.toNat, by omega, by omega, h⟩
  · cases h
theorem idx_nat' {α : Type} {l : List α} {n : Nat} (h : n < l.length) : P.idx l (n : Int) = l[n]? := by
  unfold P.idx
  rw [if_pos (by omega), Int.toNat_natCast]
theorem pairR_ok {l : List TThing} {a b : Int} {y : TThing} (h : pairR l a b = (y, 0)) : ∃ (m n : Nat) (u v : TThing), a = m ∧ b = n ∧ m < l.length ∧ n < l.length ∧ l[m]? = some u ∧ l[n]? = some v ∧ y.f_Value = IntKind.i64.wrap (u.f_Value + v.f_Value) := by
  unfold pairR at h
  split at h
  · rename_i u v h1 h2
    obtain ⟨m, k1, k2, k3⟩ := idx_of h1
    obtain ⟨n, k4, k5, k6⟩ := idx_of h2
    split at h
    · simp at h
    · simp only [Prod.mk.injEq, and_true] at h
      subst h
      exact ⟨m, n, u, v, k1, k4, k2, k5, k3, k6, rfl⟩
  · simp at h
theorem soundP_take {l : List TThing} (hs : soundP l) (k : Nat) : soundP (l.take k) := by
  refine ⟨by have := hs.1; simp; omega, fun i hi x hx => ?_⟩
  have hik : i < k ∧ i < l.length := by simpa [Nat.lt_min] using hi
  rw [List.getElem?_take, if_pos hik.1] at hx
  have := hs.2 i hik.2 x hx
  rw [List.take_take, Nat.min_eq_left (by omega)]
  exact this
/-- The thing with another value. -/
def bent (x : TThing) (p : Int) : TThing := TThing.mk x.f_Text (IntKind.i64.wrap (x.f_Value + (IntKind.i64.wrap p))) x.f_Blind x.f_Left x.f_Right
theorem bent_unsound {l : List TThing} (hs : soundP l) {k : Nat} {x : TThing} (hk : l[k]? = some x) {p : Int} (hp : -32768 ≤ p ∧ p ≤ 32767) (h0 : p ≠ 0)
    (hb : ¬ (x.f_Left = -1 ∧ x.f_Right = -1) ∨ ∃ (i : Nat) (y : TThing), l[i]? = some y ∧ (y.f_Left = k ∨ y.f_Right = k)) : ¬ soundP (l.set k (bent x p)) := by
  intro hs'
  have hkl : k < l.length := (List.getElem?_eq_some_iff.1 hk).1
  have hpair : ∀ (i : Nat) (y : TThing), l[i]? = some y → (y.f_Left = k ∨ y.f_Right = k) → False := by
    intro i y hy hlr
    have hil : i < l.length := (List.getElem?_eq_some_iff.1 hy).1
    have hnl : ∀ z : TThing, z.f_Left = y.f_Left → z.f_Right = y.f_Right → ¬ leafP z := by
      intro z z1 z2 hl
      unfold leafP at hl
      omega
    have h1 := (hs.2 i hil y hy).resolve_left (hnl y rfl rfl)
    obtain ⟨m, n, u, v, a1, a2, a3, a4, a5, a6, a7⟩ := pairR_ok h1
    have hki : k < i := by
      simp only [List.length_take] at a3 a4
      omega
    have hy' : (l.set k (bent x p))[i]? = some y := by rw [List.getElem?_set_ne (by omega)]; exact hy
    have h2 := (hs'.2 i (by simpa using hil) y hy').resolve_left (hnl y rfl rfl)
    obtain ⟨m', n', u', v', b1, b2, b3, b4, b5, b6, b7⟩ := pairR_ok h2
    have hm : m' = m := by omega
    have hn : n' = n := by omega
    subst hm
    subst hn
    have hget : ∀ (j : Nat) (w w' : TThing), j < i → (l.take i)[j]? = some w → ((l.set k (bent x p)).take i)[j]? = some w' → if j = k then w = x ∧ w' = bent x p else w = w' := by
      intro j w w' hj c1 c2
      rw [List.getElem?_take, if_pos hj] at c1 c2
      by_cases hjk : j = k
      · subst hjk
        rw [if_pos rfl]
        rw [hk] at c1
        rw [List.getElem?_set_self hkl] at c2
        exact ⟨(Option.some.inj c1).symm, (Option.some.inj c2).symm⟩
      · rw [if_neg hjk]
        rw [List.getElem?_set_ne (by omega), c1] at c2
        exact Option.some.inj c2
    have hmi : m' < i := by simp only [List.length_take] at a3; omega
    have hni : n' < i := by simp only [List.length_take] at a4; omega
    have g1 := hget m' u u' hmi a5 b5
    have g2 := hget n' v v' hni a6 b6
    rw [a7] at b7
    have hbv : (bent x p).f_Value = IntKind.i64.wrap (x.f_Value + IntKind.i64.wrap p) := rfl
    by_cases c1 : m' = k
    · rw [if_pos c1] at g1
      by_cases c2 : n' = k
      · rw [if_pos c2] at g2
        rw [g1.1, g2.1, g1.2, g2.2, hbv] at b7
        exact bent3 hp h0 _ b7.symm
      · rw [if_neg c2] at g2
        rw [g1.1, g1.2, hbv, ← g2] at b7
        exact bent2 hp h0 _ _ b7.symm
    · rw [if_neg c1] at g1
      by_cases c2 : n' = k
      · rw [if_pos c2] at g2
        rw [g2.1, g2.2, hbv, ← g1, Int.add_comm, Int.add_comm u.f_Value] at b7
        exact bent2 hp h0 _ _ b7.symm
      · rcases hlr with h | h
        · exact c1 (by omega)
        · exact c2 (by omega)
  rcases hb with hb | ⟨i, y, hy, hlr⟩
  · have hnl : ∀ z : TThing, z.f_Left = x.f_Left → z.f_Right = x.f_Right → ¬ leafP z := fun z z1 z2 hl => by
      unfold leafP at hl
      exact hb ⟨by omega, by omega⟩
    have h1 := (hs.2 k hkl x hk).resolve_left (hnl x rfl rfl)
    have hx' : (l.set k (bent x p))[k]? = some (bent x p) := List.getElem?_set_self hkl
    have h2 := (hs'.2 k (by simpa using hkl) _ hx').resolve_left (hnl _ rfl rfl)
    have ht : (l.set k (bent x p)).take k = l.take k := by
      refine List.ext_getElem? (fun j => ?_)
      rw [List.getElem?_take, List.getElem?_take]
      split
      · rw [List.getElem?_set_ne (by omega)]
      · rfl
    rw [ht] at h2
    have h3 : (x, (0 : Int)) = (bent x p, 0) := by rw [← h1, ← h2]; rfl
    have h4 : x.f_Value = IntKind.i64.wrap (x.f_Value + IntKind.i64.wrap p) := by
      have := congrArg (fun z : TThing × Int => z.1.f_Value) h3
      exact this
    exact bent1 hp h0 _ h4.symm
  · exact hpair i y hy hlr

theorem unsound_opens {l : List TThing} (h : ¬ soundP l) (i : Int) (t : ByteArray) (v b : Int) : vault_Sound ⟨l⟩ = some false ∧ vault_Opens ⟨l⟩ i t v b = some false := by
  obtain ⟨q, h1, h2⟩ := Sound_eq ⟨l⟩
  have hq : q = false := by
    cases q with
    | false => rfl
    | true => exact absurd (h2.1 rfl) h
  subst hq
  refine ⟨h1, ?_⟩
  unfold vault_Opens
  rw [h1]
  rfl
theorem mod_small {x : Int} {n : Nat} (hx : (Lit.int .u8 x).wf = true) (hn : 0 < n) : ∃ a : Nat, a < n ∧ modI .i64 (IntKind.i64.wrap x) (n : Int) = some (a : Int) := by
  have hx : 0 ≤ x ∧ x ≤ 255 := by
    simpa [Lit.wf, IntKind.min, IntKind.max, IntKind.signed, IntKind.bits] using hx
  refine ⟨(x.tmod n).toNat, ?_, ?_⟩
  · have h1 := Int.tmod_lt_of_pos x (show (0 : Int) < n by omega)
    have h2 := Int.tmod_nonneg (n : Int) hx.1
    omega
  · unfold modI
    have h2 := Int.tmod_nonneg (n : Int) hx.1
    rw [if_neg (by omega), wrap64 (by omega) (by omega), Int.toNat_of_nonneg h2]
theorem leafy_eq (x : TThing) : r35_Leafy x = some (decide (x.f_Left = -1 ∧ x.f_Right = -1)) := by
  unfold r35_Leafy
  by_cases h : x.f_Left = -1
  · rw [if_pos (by simpa using h)]
    by_cases h' : x.f_Right = -1 <;> simp [h, h']
  · rw [if_neg (by simpa using h)]
    simp [h]

theorem shape_loop2 {l : List TThing} (hs : soundP l) (hl : l.length ≤ 40) {k : Nat} (hk : k < l.length) : ∃ u, loopL (l35_VaultShape_L2 ⟨l⟩ (k : Int) (l.take k)) 0 = some (.inl u) := by
  obtain ⟨r, h1, h2⟩ := loopL_of (body := l35_VaultShape_L2 ⟨l⟩ (k : Int) (l.take k)) (fun s => ∃ i : Nat, s = i ∧ i ≤ k) (fun s => k - s.toNat) (fun r => ∃ u, r = .inl u) (s := 0) ⟨0, rfl, Nat.zero_le _⟩ (by simp only [FU]; omega) (fun s hs' => by
    obtain ⟨i, rfl, hi⟩ := hs'
    simp only [l35_VaultShape_L2]
    by_cases hlt : i < k
    · left
      have hil : i < l.length := by omega
      obtain ⟨q, k1, k2⟩ := Opens_eq (soundP_take hs k) (i : Int) l[i].f_Text l[i].f_Value l[i].f_Blind
      have hq : q = true := k2.2 ⟨l[i], by rw [idx_nat' (by simp; omega), List.getElem?_take, if_pos hlt, List.getElem?_eq_getElem hil], rfl, rfl, rfl⟩
      subst hq
      have hw : IntKind.i64.wrap ((i : Int) + 1) = ((i + 1 : Nat) : Int) := by rw [wrap64 (by omega) (by omega)]; rfl
      rw [if_pos (decide_eq_true (by omega)), idx_nat hil, Option.bind_some, k1, Option.bind_some, if_neg (by simp), hw]
      exact ⟨_, rfl, ⟨i + 1, rfl, hlt⟩, by omega⟩
    · right
      rw [if_neg (by simp; omega)]
      exact ⟨_, rfl, _, rfl⟩)
  obtain ⟨u, rfl⟩ := h2
  exact ⟨u, h1⟩
theorem shape_loop3 {l : List TThing} (hl : l.length ≤ 40) (k : Nat) (b : Bool) : ∃ r, loopL (l35_VaultShape_L3 ⟨l⟩ (k : Int)) (b, 0) = some r ∧ (r = true → b = true ∨ ∃ (i : Nat) (y : TThing), l[i]? = some y ∧ (y.f_Left = k ∨ y.f_Right = k)) := by
  refine loopL_of (body := l35_VaultShape_L3 ⟨l⟩ (k : Int)) (fun s => ∃ i : Nat, s.2 = i ∧ i ≤ l.length ∧ (s.1 = true → b = true ∨ ∃ (i : Nat) (y : TThing), l[i]? = some y ∧ (y.f_Left = k ∨ y.f_Right = k))) (fun s => l.length - s.2.toNat) _ (s := (b, 0)) ⟨0, rfl, Nat.zero_le _, fun h => .inl h⟩ (by simp only [FU]; omega) (fun s hs' => ?_)
  obtain ⟨c, j⟩ := s
  obtain ⟨i, hi0, hi, hc⟩ := hs'
  simp only at hi0 hc
  subst hi0
  simp only [l35_VaultShape_L3]
  by_cases hlt : i < l.length
  · left
    have hw : IntKind.i64.wrap ((i : Int) + 1) = ((i + 1 : Nat) : Int) := by rw [wrap64 (by omega) (by omega)]; rfl
    rw [if_pos (decide_eq_true (by omega)), hw]
    cases c with
    | true => rw [if_pos rfl]; exact ⟨_, rfl, ⟨i + 1, rfl, hlt, hc⟩, by simp; omega⟩
    | false =>
      rw [if_neg (by simp), idx_nat hlt, Option.bind_some]
      by_cases h1 : l[i].f_Left = k
      · rw [if_pos (by simpa using h1)]
        exact ⟨_, rfl, ⟨i + 1, rfl, hlt, fun _ => .inr ⟨i, l[i], List.getElem?_eq_getElem hlt, .inl h1⟩⟩, by simp; omega⟩
      · rw [if_neg (by simpa using h1)]
        exact ⟨_, rfl, ⟨i + 1, rfl, hlt, fun h => .inr ⟨i, l[i], List.getElem?_eq_getElem hlt, .inr (by simpa using h)⟩⟩, by simp; omega⟩
  · right
    rw [if_neg (by simp; omega)]
    exact ⟨_, rfl, hc⟩

theorem VaultShape_eq (v : TVault) (a1 a2 : Int) (hl : v.f_Things.length * 48 ≤ 140737488351232) (h1 : (Lit.int .u8 a1).wf = true) (h2 : (Lit.int .i16 a2).wf = true) : l35_VaultShape v a1 a2 = some true := by
  obtain ⟨l⟩ := v
  simp only at hl
  have hp : -32768 ≤ a2 ∧ a2 ≤ 32767 := by
    simpa [Lit.wf, IntKind.min, IntKind.max, IntKind.signed, IntKind.bits] using h2
  have hm : l.length ≤ maxLen := by have : maxLen = 9223372036854775807 := rfl; omega
  obtain ⟨b, hb, hfew⟩ := Few_eq l 40 hm
  unfold l35_VaultShape
  rw [sane_eq, Option.bind_some, hb, Option.bind_some]
  cases b with
  | false => rfl
  | true =>
  have h40 : l.length ≤ 40 := by have := hfew rfl; omega
  rw [if_neg (by simp)]
  simp only
  by_cases h0 : l.length = 0
  · rw [if_pos (by rw [h0]; rfl)]; rfl
  rw [if_neg (by simp only [beq_iff_eq]; omega)]
  obtain ⟨q, hq1, hq2⟩ := Sound_eq ⟨l⟩
  rw [hq1, Option.bind_some]
  cases q with
  | false => rfl
  | true =>
  have hs : soundP l := hq2.1 rfl
  obtain ⟨k, hk, ek⟩ := mod_small h1 (show 0 < l.length by omega)
  obtain ⟨u, hu⟩ := shape_loop2 hs h40 hk
  obtain ⟨q', hq1', hq2'⟩ := Sound_eq ⟨l.take k⟩
  have hq' : q' = true := hq2'.2 (soundP_take hs k)
  subst hq'
  rw [Option.bind_some, if_neg (by simp), ek, Option.bind_some, slc_nat (by omega), Option.bind_some, hq1', Option.bind_some, if_neg (by simp), hu, Option.bind_some]
  simp only
  have happ : appL 48 ([] : List TThing) l = some l := by
    unfold appL
    rw [if_pos (by have : maxLen = 9223372036854775807 := rfl; simp; omega)]
    rfl
  obtain ⟨r, hr1, hr2⟩ := shape_loop3 h40 k (!decide (l[k].f_Left = -1 ∧ l[k].f_Right = -1))
  rw [happ, Option.bind_some, idx_nat hk, Option.bind_some, leafy_eq, Option.bind_some, hr1, Option.bind_some, if_pos trivial]
  by_cases hz : a2 = 0
  · rw [if_pos (by simpa using hz)]
  rw [if_neg (by simpa using hz)]
  cases r with
  | false => rfl
  | true =>
  have hun := bent_unsound hs (List.getElem?_eq_getElem hk) hp hz (by
    rcases hr2 rfl with h | h
    · exact .inl (fun hh => by rw [decide_eq_true hh] at h; cases h)
    · exact .inr h)
  obtain ⟨s1, s2⟩ := unsound_opens hun (k : Int) (ByteArray.mk #[]) 0 0
  rw [if_neg (by simp), Int.toNat_natCast]
  show ((vault_Sound ⟨l.set k (bent l[k] a2)⟩).bind _) = _
  rw [s1, Option.bind_some, if_pos (show (!false) = true from rfl)]
  show ((vault_Opens ⟨l.set k (bent l[k] a2)⟩ _ _ _ _).bind _) = _
  rw [s2]
  rfl
end Go.Proofs.Ytlkceebfckkomaa.P
