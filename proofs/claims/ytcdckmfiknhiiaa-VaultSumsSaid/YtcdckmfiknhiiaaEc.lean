/- The vault, in plain words: the law VaultSums. -/
import Derived.Test.YtcdckmfiknhiiaaEb
namespace Go.Proofs.Ytcdckmfiknhiiaa.P
open Go.RowKit
set_option linter.unusedSimpArgs false
set_option linter.unusedVariables false

def V (l : List TThing) (j : Nat) : Int := match l[j]? with | some x => x.f_Value | none => 0

theorem leaf_of {l : List TThing} {i : Nat} {x : TThing} (h : pairR l x.f_Left x.f_Right = (x, 0)) : ∃ a b : Nat, a < l.length ∧ b < l.length ∧ x.f_Left = a ∧ x.f_Right = b ∧ IntKind.i64.wrap (V l a + V l b) = x.f_Value ∧ x.f_Value ≤ 1125899906842624 := by
  unfold pairR at h
  split at h
  · rename_i y z hy hz
    split at h
    · simp at h
    · rename_i hw
      simp only [Prod.mk.injEq, and_true] at h
      have h1 : 0 ≤ x.f_Left ∧ x.f_Left < l.length := by
        unfold P.idx at hy; split at hy
        · assumption
        · cases hy
      have h2 : 0 ≤ x.f_Right ∧ x.f_Right < l.length := by
        unfold P.idx at hz; split at hz
        · assumption
        · cases hz
      rw [idx_get h1.1 h1.2] at hy
      rw [idx_get h2.1 h2.2] at hz
      have e1 : V l x.f_Left.toNat = y.f_Value := by
        unfold V; rw [List.getElem?_eq_getElem (by omega)]; simp only [Option.some.injEq] at hy; rw [hy]
      have e2 : V l x.f_Right.toNat = z.f_Value := by
        unfold V; rw [List.getElem?_eq_getElem (by omega)]; simp only [Option.some.injEq] at hz; rw [hz]
      refine ⟨x.f_Left.toNat, x.f_Right.toNat, by omega, by omega, by omega, by omega, ?_, ?_⟩
      · rw [e1, e2, ← h]
      · rw [← h]
        simp only
        omega
  · simp at h

theorem V_take {l : List TThing} {i a : Nat} (h : a < i) : V (l.take i) a = V l a := by
  unfold V
  rw [List.getElem?_take, if_pos h]

theorem V_range {l : List TThing} (hs : soundP l) : ∀ n j, j < n → j < l.length → 0 ≤ V l j ∧ V l j ≤ 1125899906842624
  | 0, j, h, _ => by omega
  | n + 1, j, h, hj => by
    have hx := hs.2 j hj _ (List.getElem?_eq_getElem hj)
    have hv : V l j = l[j].f_Value := by unfold V; rw [List.getElem?_eq_getElem hj]
    rcases hx with hx | hx
    · rw [hv]
      obtain ⟨_, _, _, h1, _⟩ := hx
      omega
    · obtain ⟨a, b, ha, hb, _, _, h1, h2⟩ := leaf_of (i := j) hx
      simp only [List.length_take] at ha hb
      rw [V_take (by omega), V_take (by omega)] at h1
      have q1 := V_range hs n a (by omega) (by omega)
      have q2 := V_range hs n b (by omega) (by omega)
      rw [wrap64 (by omega) (by omega)] at h1
      rw [hv]
      omega

theorem sound_cases {l : List TThing} (hs : soundP l) {i : Nat} (hi : i < l.length) : (l[i].f_Left = -1 ∧ l[i].f_Right = -1) ∨ (∃ a b : Nat, a < i ∧ b < i ∧ l[i].f_Left = a ∧ l[i].f_Right = b ∧ V l a + V l b = V l i) := by
  have hx := hs.2 i hi _ (List.getElem?_eq_getElem hi)
  have hv : V l i = l[i].f_Value := by unfold V; rw [List.getElem?_eq_getElem hi]
  rcases hx with hx | hx
  · exact .inl ⟨hx.1, hx.2.1⟩
  · obtain ⟨a, b, ha, hb, h3, h4, h1, h2⟩ := leaf_of (i := i) hx
    simp only [List.length_take] at ha hb
    rw [V_take (by omega), V_take (by omega)] at h1
    have q1 := V_range hs _ a (Nat.lt_succ_self a) (by omega)
    have q2 := V_range hs _ b (Nat.lt_succ_self b) (by omega)
    rw [wrap64 (by omega) (by omega)] at h1
    exact .inr ⟨a, b, by omega, by omega, h3, h4, by rw [hv]; exact h1⟩

def S (f : Nat → Int) : Nat → Int
  | 0 => 0
  | n + 1 => S f n + f n
theorem S_add (f : Nat → Int) (a : Nat) (d : Int) (n : Nat) : S (fun j => f j + if j = a then d else 0) n = S f n + if a < n then d else 0 := by
  induction n with
  | zero => simp [S]
  | succ n ih =>
    simp only [S, ih]
    by_cases h : a < n
    · rw [if_pos h, if_neg (by omega), if_pos (by omega)]; omega
    · by_cases h2 : n = a
      · subst h2; simp; omega
      · rw [if_neg h, if_neg h2, if_neg (by omega)]; omega
theorem S_congr {f g : Nat → Int} {n : Nat} (h : ∀ j, j < n → f j = g j) : S f n = S g n := by
  induction n with
  | zero => rfl
  | succ n ih => simp only [S]; rw [ih fun j hj => h j (by omega), h n (by omega)]
theorem S_nonneg {f : Nat → Int} {n : Nat} (h : ∀ j, j < n → 0 ≤ f j) : 0 ≤ S f n := by
  induction n with
  | zero => exact Int.le_refl _
  | succ n ih =>
    simp only [S]
    have := ih fun j hj => h j (by omega)
    have := h n (by omega)
    omega

def Wt (ws : List Int) (j : Nat) : Int := ws.getD j 0
theorem Wt_idx {ws : List Int} {j : Nat} (h : j < ws.length) : P.idx ws (j : Int) = some (Wt ws j) := by
  rw [idx_nat h]; simp [Wt, List.getD, List.getElem?_eq_getElem h]
theorem Wt_set {ws : List Int} {a : Nat} (h : a < ws.length) (d : Int) (j : Nat) : Wt (ws.set a (Wt ws a + d)) j = Wt ws j + if j = a then d else 0 := by
  unfold Wt
  simp only [List.getD, List.getElem?_set]
  by_cases hj : a = j
  · subst hj; simp [h]
  · rw [if_neg hj, if_neg (fun h => hj h.symm)]; omega

theorem Leafy_eq (x : TThing) : r35_Leafy x = some (decide (x.f_Left = -1 ∧ x.f_Right = -1)) := by
  unfold r35_Leafy
  by_cases h : x.f_Left = -1
  · by_cases h2 : x.f_Right = -1 <;> simp [h, h2]
  · simp [h]

structure SumI (l : List TThing) (top : Nat) (s i : Int) (ws : List Int) (n : Nat) : Prop where
  hi : i = (n : Int) - 1
  hn : n ≤ top + 1
  hw : ws.length = l.length
  pos : ∀ j, 0 ≤ Wt ws j
  sum : S (fun j => Wt ws j * V l j) n + s = V l top
  few : S (fun j => Wt ws j) n ≤ 2 ^ (top + 1 - n)
  s0 : 0 ≤ s

theorem sums_loop {l : List TThing} (hs : soundP l) {top : Nat} (ht : top < l.length) (hl : l.length ≤ 40) {ws : List Int} (h0 : SumI l top 0 (top : Int) ws (top + 1)) : ∃ r, loopL (l35_VaultSums_L1 ⟨l⟩ (top : Int)) (0, (top : Int), ws) = some r ∧ r = .inl (V l top) := by
  refine loopL_of (body := l35_VaultSums_L1 ⟨l⟩ (top : Int)) (fun s => ∃ n, SumI l top s.1 s.2.1 s.2.2 n) (fun s => (s.2.1 + 1).toNat) _ ⟨top + 1, h0⟩ (by simp only [FU]; omega) (fun s h => ?_)
  obtain ⟨s, i, ws⟩ := s
  obtain ⟨n, hI⟩ := h
  simp only at hI
  obtain ⟨rfl, hn, hw, pos, sum, few, s0⟩ := hI
  simp only [l35_VaultSums_L1]
  cases n with
  | zero =>
    rw [if_neg (by simp)]
    simp only [S, Int.zero_add] at sum
    exact .inr ⟨_, rfl, by rw [sum]⟩
  | succ n =>
    have hnl : n < l.length := by omega
    have hi : ((n + 1 : Nat) : Int) - 1 = (n : Int) := by omega
    rw [hi, if_pos (by simp)]
    simp only [idx_nat hnl, Option.bind_some, Leafy_eq]
    have hdec : IntKind.i64.wrap ((n : Int) - 1) = (n : Int) - 1 := wrap64 (by omega) (by omega)
    simp only [S] at sum few
    have hpow : (2 : Int) ^ (top + 1 - (n + 1)) ≤ 1099511627776 := by
      have h1 : top + 1 - (n + 1) ≤ 40 := by omega
      have h2 : (2 : Nat) ^ (top + 1 - (n + 1)) ≤ 2 ^ 40 := Nat.pow_le_pow_right (by omega) h1
      have h3 : ((2 ^ (top + 1 - (n + 1)) : Nat) : Int) = (2 : Int) ^ (top + 1 - (n + 1)) := by simp
      rw [← h3]
      omega
    have hV := V_range hs (n + 1) n (by omega) hnl
    have hT := V_range hs (top + 1) top (by omega) ht
    have hS := S_nonneg (f := fun j => Wt ws j) (n := n) (fun j _ => pos j)
    have hSV := S_nonneg (f := fun j => Wt ws j * V l j) (n := n) (fun j hj => Int.mul_nonneg (pos j) (V_range hs (j + 1) j (by omega) (by omega)).1)
    have hpn := pos n
    have hpd : (2 : Int) ^ (top + 1 - n) = 2 * 2 ^ (top + 1 - (n + 1)) := by
      have : top + 1 - n = (top + 1 - (n + 1)) + 1 := by omega
      rw [this, Int.pow_succ]; omega
    have hWV : 0 ≤ Wt ws n * V l n := Int.mul_nonneg hpn hV.1
    have hle : ∀ j, j < n → Wt ws j ≤ S (fun j => Wt ws j) n := by
      intro j hj
      have h1 := S_add (fun j => Wt ws j) j (- Wt ws j) n
      rw [if_pos hj] at h1
      have h2 := S_nonneg (f := fun k => Wt ws k + if k = j then - Wt ws j else 0) (n := n) (fun k _ => by
        have := pos k
        by_cases hk : k = j
        · subst hk; simp only [if_true]; omega
        · simp only [if_neg hk]; omega)
      omega
    rcases sound_cases hs hnl with hleaf | ⟨a, b, ha, hb, hL, hR, hab⟩
    · simp only [hleaf, and_self, decide_true, Bool.not_true, Bool.false_eq_true, if_false]
      have hx : l[n].f_Value = V l n := by unfold V; rw [List.getElem?_eq_getElem hnl]
      have next : ∀ s' : Int, s' = s + Wt ws n * V l n → (∃ m, SumI l top s' (IntKind.i64.wrap ((n : Int) - 1)) ws m) ∧ (IntKind.i64.wrap ((n : Int) - 1) + 1).toNat < ((n : Int) + 1).toNat := by
        intro s' hs'
        refine ⟨⟨n, by rw [hdec], by omega, hw, pos, by omega, by rw [hpd]; omega, by omega⟩, by rw [hdec]; omega⟩
      have htop : P.idx l (top : Int) = some (l[top]) := idx_nat ht
      have htv : l[top].f_Value = V l top := by unfold V; rw [List.getElem?_eq_getElem ht]
      rw [hx]
      by_cases hv0 : V l n > 0
      · rw [if_pos (by simpa using hv0)]
        simp only [Wt_idx (show n < ws.length by omega), Option.bind_some]
        by_cases hw0 : Wt ws n > 0
        · rw [if_pos (by simpa using hw0)]
          simp only [htop, Option.bind_some, htv, divI, if_neg (show ¬ V l n = 0 by omega)]
          have hq : Wt ws n ≤ (V l top).tdiv (V l n) := by
            rw [Int.tdiv_eq_ediv_of_nonneg hT.1]
            exact Int.le_ediv_of_mul_le hv0 (by omega)
          have hq2 : (V l top).tdiv (V l n) ≤ V l top := by
            rw [Int.tdiv_eq_ediv_of_nonneg hT.1]
            exact Int.ediv_le_self _ hT.1
          have hwr : IntKind.i64.wrap ((V l top).tdiv (V l n)) = (V l top).tdiv (V l n) := wrap64 (by omega) (by omega)
          rw [hwr, if_neg (by simp; omega)]
          have hm : IntKind.i64.wrap (Wt ws n * V l n) = Wt ws n * V l n := wrap64 (by omega) (by omega)
          have hm2 : IntKind.i64.wrap (s + Wt ws n * V l n) = s + Wt ws n * V l n := wrap64 (by omega) (by omega)
          rw [hm, hm2]
          exact .inl ⟨_, rfl, next _ rfl⟩
        · rw [if_neg (by simpa using hw0)]
          have hz : Wt ws n = 0 := by omega
          exact .inl ⟨_, rfl, next s (by rw [hz]; omega)⟩
      · rw [if_neg (by simpa using hv0)]
        have hz : V l n = 0 := by omega
        exact .inl ⟨_, rfl, next s (by rw [hz]; omega)⟩
    · have hne : ¬ (l[n].f_Left = -1 ∧ l[n].f_Right = -1) := by omega
      simp only [hne, decide_false, Bool.not_false, if_true, hL, hR]
      have ea := hle a ha
      have eb := hle b hb
      simp only [Wt_idx (show a < ws.length by omega), Wt_idx (show n < ws.length by omega), Option.bind_some, Int.toNat_natCast]
      have hw1 : IntKind.i64.wrap (Wt ws a + Wt ws n) = Wt ws a + Wt ws n := wrap64 (by have := pos a; omega) (by omega)
      rw [hw1]
      generalize hws1 : ws.set a (Wt ws a + Wt ws n) = ws1
      have hl1 : ws1.length = l.length := by rw [← hws1]; simp [hw]
      have hW1 : ∀ j, Wt ws1 j = Wt ws j + if j = a then Wt ws n else 0 := by intro j; rw [← hws1]; exact Wt_set (by omega) _ j
      simp only [Wt_idx (show b < ws1.length by omega), Wt_idx (show n < ws1.length by omega), Option.bind_some]
      have hn1 : Wt ws1 n = Wt ws n := by rw [hW1, if_neg (by omega)]; omega
      have hb1 : Wt ws1 b ≤ Wt ws b + Wt ws n := by rw [hW1]; split <;> omega
      have hb0 : 0 ≤ Wt ws1 b := by have := pos b; rw [hW1]; split <;> omega
      have hw2 : IntKind.i64.wrap (Wt ws1 b + Wt ws1 n) = Wt ws1 b + Wt ws n := by rw [hn1]; exact wrap64 (by omega) (by omega)
      rw [hw2]
      have hW2 : ∀ j, Wt (ws1.set b (Wt ws1 b + Wt ws n)) j = Wt ws j + (if j = a then Wt ws n else 0) + if j = b then Wt ws n else 0 := by
        intro j
        rw [Wt_set (by omega), hW1]
      refine .inl ⟨_, rfl, ⟨n, by rw [hdec], by omega, by simp [hl1], fun j => ?_, ?_, ?_, s0⟩, by simp only [hdec]; omega⟩
      · rw [hW2]
        have := pos j
        split <;> split <;> omega
      · have e : S (fun j => Wt (ws1.set b (Wt ws1 b + Wt ws n)) j * V l j) n = S (fun j => ((fun j => Wt ws j * V l j + if j = a then Wt ws n * V l a else 0) j) + if j = b then Wt ws n * V l b else 0) n := by
          refine S_congr fun j _ => ?_
          simp only [hW2, Int.add_mul]
          congr 1
          · congr 1
            split
            · rename_i h; rw [h]
            · simp
          · split
            · rename_i h; rw [h]
            · simp
        rw [e, S_add, S_add, if_pos ha, if_pos hb]
        have : Wt ws n * V l n = Wt ws n * V l a + Wt ws n * V l b := by rw [← hab, Int.mul_add]
        omega
      · have e : S (fun j => Wt (ws1.set b (Wt ws1 b + Wt ws n)) j) n = S (fun j => ((fun j => Wt ws j + if j = a then Wt ws n else 0) j) + if j = b then Wt ws n else 0) n := S_congr fun j _ => hW2 j
        rw [e, S_add, S_add, if_pos ha, if_pos hb, hpd]
        have eta : S (Wt ws) n = S (fun j => Wt ws j) n := rfl
        omega

theorem VaultSums_eq {v : TVault} {w : Int} (hv : v.f_Things.length ≤ maxLen) (hw : 0 ≤ w ∧ w ≤ 255) : l35_VaultSums v w = some true := by
  obtain ⟨l⟩ := v
  obtain ⟨few, h1, h2⟩ := Few_eq l 40 hv
  obtain ⟨sd, h3, h4⟩ := Sound_eq ⟨l⟩
  unfold l35_VaultSums
  simp only [sane_eq, h1, h3, Option.bind_some]
  cases few with
  | false => rfl
  | true =>
    have hl := h2 rfl
    simp only [Bool.not_true, Bool.false_eq_true, if_false]
    split
    · rfl
    · rename_i hne
      have hpos : 0 < l.length := by simp at hne; exact List.length_pos_iff.2 hne
      cases sd with
      | false => rfl
      | true =>
        have hs : soundP l := h4.1 rfl
        have hww : IntKind.i64.wrap w = w := wrap64 (by omega) (by omega)
        have hmod : w.tmod (l.length : Int) = ((w.toNat % l.length : Nat) : Int) := by
          rw [Int.tmod_eq_emod_of_nonneg hw.1]
          have : ((w.toNat : Int)) = w := Int.toNat_of_nonneg hw.1
          rw [Int.natCast_emod, this]
        have hlt : w.toNat % l.length < l.length := Nat.mod_lt _ hpos
        simp only [Bool.not_true, Bool.false_eq_true, if_false, hww, modI, if_neg (show ¬ (l.length : Int) = 0 by omega), hmod, Option.bind_some]
        generalize w.toNat % l.length = top at hlt
        have hmk : mkL 8 (l.length : Int) (l.length : Int) (0 : Int) = some (List.replicate l.length 0) := by
          unfold mkL
          have hm : 1000 ≤ maxLen := by decide
          rw [if_pos ⟨by omega, by omega, by omega, by omega⟩]
          simp
        simp only [hmk, Option.bind_some]
        have hix : P.idx (List.replicate l.length (0 : Int)) (top : Int) = some 0 := by rw [idx_nat (by simpa using hlt)]; simp
        simp only [hix, Option.bind_some, Int.toNat_natCast]
        have hW : ∀ j, Wt ((List.replicate l.length (0 : Int)).set top 1) j = if j = top then 1 else 0 := by
          intro j
          unfold Wt
          simp only [List.getD, List.getElem?_set]
          by_cases hj : top = j
          · subst hj; simp [hlt]
          · rw [if_neg hj, if_neg (fun h => hj h.symm)]
            simp only [List.getElem?_replicate]
            split <;> rfl
        have hI : SumI l top 0 (top : Int) ((List.replicate l.length (0 : Int)).set top 1) (top + 1) := by
          refine ⟨by omega, Nat.le_refl _, by simp, fun j => ?_, ?_, ?_, Int.le_refl _⟩
          · rw [hW]; split <;> omega
          · have e : S (fun j => Wt ((List.replicate l.length (0 : Int)).set top 1) j * V l j) (top + 1) = S (fun j => (fun _ => (0 : Int)) j + if j = top then V l top else 0) (top + 1) := S_congr fun j _ => by
              simp only [hW]
              split
              · rename_i h; rw [h]; omega
              · omega
            have z : S (fun _ => (0 : Int)) (top + 1) = 0 := by
              generalize top + 1 = k
              induction k with
              | zero => rfl
              | succ k ih => simp only [S, ih]; rfl
            rw [e, S_add, if_pos (by omega), z]; omega
          · have e : S (fun j => Wt ((List.replicate l.length (0 : Int)).set top 1) j) (top + 1) = S (fun j => (fun _ => (0 : Int)) j + if j = top then 1 else 0) (top + 1) := S_congr fun j _ => by
              simp only [hW]
              split <;> omega
            have z : S (fun _ => (0 : Int)) (top + 1) = 0 := by
              generalize top + 1 = k
              induction k with
              | zero => rfl
              | succ k ih => simp only [S, ih]; rfl
            rw [e, S_add, if_pos (by omega), z]
            simp
        obtain ⟨r, h5, rfl⟩ := sums_loop hs hlt (by omega) hI
        rw [h5]
        have htv : l[top].f_Value = V l top := by unfold V; rw [List.getElem?_eq_getElem hlt]
        simp only [Option.bind_some, if_true, idx_nat hlt, htv, beq_self_eq_true]
end Go.Proofs.Ytcdckmfiknhiiaa.P
