/- The program's whole numbers: quotients and remainders. -/
import Derived.Test.YtadpbhbkdnfbpaaFe
namespace Go.Proofs.Ytadpbhbkdnfbpaa.P
open Go.RowKit
set_option linter.unusedSimpArgs false
set_option linter.unusedVariables false

theorem slc_at {α : Type} {l : List α} {a b : Nat} (h : a ≤ b) (hb : b ≤ l.length) : slc l (a : Int) (b : Int) = some ((l.drop a).take (b - a)) := by
  unfold slc
  rw [if_pos ⟨by omega, by omega, by omega⟩]
  simp

theorem dv_top2 {l : List Int} {n : Nat} (hl : l.length = n) (hn : 2 ≤ n) (hd : Dg l) :
    pw (n - 2) * ((l[n - 1]'(by omega)) * 1048576 + l[n - 2]'(by omega)) ≤ dv l ∧ dv l < pw (n - 2) * ((l[n - 1]'(by omega)) * 1048576 + l[n - 2]'(by omega) + 1) := by
  have e := dv_split l (i := n - 2) (by omega)
  rw [dv_drop (by omega), dv_drop (i := n - 2 + 1) (by omega), List.drop_eq_nil_of_le (by omega)] at e
  have e1 : l[n - 2 + 1]'(by omega) = l[n - 1]'(by omega) := by congr 1; omega
  rw [e1] at e
  have h1 := dv_nonneg (hd.take (n - 2))
  have h2 := dv_lt (hd.take (n - 2))
  rw [List.length_take, Nat.min_eq_left (by omega)] at h2
  simp only [dv] at e
  have e2 : l[n - 2]'(by omega) + 1048576 * (l[n - 1]'(by omega) + 1048576 * 0) = (l[n - 1]'(by omega)) * 1048576 + l[n - 2]'(by omega) := by omega
  rw [e2] at e
  rw [Int.mul_add (pw (n - 2)) _ 1, Int.mul_one]
  omega

theorem dv_top3 {l : List Int} {n : Nat} (hl : l.length = n + 1) (hn : 2 ≤ n) (hd : Dg l) :
    pw (n - 2) * ((1048576 * (l[n]'(by omega)) + l[n - 1]'(by omega)) * 1048576 + l[n - 2]'(by omega)) ≤ dv l ∧ dv l < pw (n - 2) * ((1048576 * (l[n]'(by omega)) + l[n - 1]'(by omega)) * 1048576 + l[n - 2]'(by omega) + 1) := by
  have e := dv_split l (i := n - 2) (by omega)
  rw [dv_drop (by omega), dv_drop (i := n - 2 + 1) (by omega), dv_drop (i := n - 2 + 1 + 1) (by omega), List.drop_eq_nil_of_le (by omega)] at e
  have e1 : l[n - 2 + 1]'(by omega) = l[n - 1]'(by omega) := by congr 1; omega
  have e3 : l[n - 2 + 1 + 1]'(by omega) = l[n]'(by omega) := by congr 1; omega
  rw [e1, e3] at e
  have h1 := dv_nonneg (hd.take (n - 2))
  have h2 := dv_lt (hd.take (n - 2))
  rw [List.length_take, Nat.min_eq_left (by omega)] at h2
  simp only [dv] at e
  have e2 : l[n - 2]'(by omega) + 1048576 * (l[n - 1]'(by omega) + 1048576 * (l[n]'(by omega) + 1048576 * 0)) = (1048576 * (l[n]'(by omega)) + l[n - 1]'(by omega)) * 1048576 + l[n - 2]'(by omega) := by omega
  rw [e2] at e
  rw [Int.mul_add (pw (n - 2)) _ 1, Int.mul_one]
  omega

theorem div_loop {v u0 : List Int} {n m : Nat} (hv : Dg v) (hvl : v.length = n) (hn : 2 ≤ n) (hv1 : 524288 ≤ v[n - 1]'(by omega)) (hu : Dg u0) (hul : u0.length = m + n) (hf : m + n ≤ 17592186044416) (hdr : dv (u0.drop m) < dv v) :
    ∃ r, loopL (big_div_L3 v) ((m : Int) - 1, u0, List.replicate m 0) = some r ∧ r.1.length = m + n ∧ Dg r.1 ∧ r.2.length = m ∧ Dg r.2 ∧ dv r.1 + dv v * dv r.2 = dv u0 ∧ dv r.1 < dv v := by
  have hvn := dv_lt hv
  rw [hvl] at hvn
  refine loop_nat (I := fun i s => s.1 = ((m - i : Nat) : Int) - 1 ∧ s.2.1.length = m + n ∧ Dg s.2.1 ∧ s.2.2.length = m ∧ Dg s.2.2 ∧ (∀ j (hj : j < s.2.2.length), j < m - i → s.2.2[j] = 0) ∧ dv s.2.1 + dv v * dv s.2.2 = dv u0 ∧ dv (s.2.1.drop (m - i)) < dv v)
    m _ ⟨rfl, hul, hu, by simp, Dg.rep _, fun j hj _ => by simp, by simp [dv_rep], hdr⟩ (lenFU (by omega)) ?_
  rintro i ⟨s, u, q⟩ hi ⟨h1, hl, hd, hql, hqd, hz, he, hdr⟩
  simp only at h1 hl hd hql hqd hz he hdr
  subst h1
  generalize hk : m - i = k at *
  simp only [big_div_L3]
  by_cases h0 : 0 < k
  · left
    have ek : ((k : Int) - 1) = ((k - 1 : Nat) : Int) := by omega
    rw [ek, if_pos (by simp)]
    have e1 : IntKind.i64.wrap (((k - 1 : Nat) : Int) + (v.length : Int)) = ((k - 1 + n : Nat) : Int) := by rw [hvl, w64 (by omega)]; omega
    have e2 : IntKind.i64.wrap (((k - 1 + n : Nat) : Int) - 1) = ((k - 1 + n - 1 : Nat) : Int) := by rw [w64 (by omega)]; omega
    have e3 : IntKind.i64.wrap ((v.length : Int) - 1) = ((n - 1 : Nat) : Int) := by rw [hvl, w64 (by omega)]; omega
    have e4 : IntKind.i64.wrap (((k - 1 + n : Nat) : Int) + 1) = ((k - 1 + n + 1 : Nat) : Int) := by rw [w64 (by omega)]; omega
    have e5 : IntKind.i64.wrap (((k - 1 : Nat) : Int) - 1) = ((k - 1 : Nat) : Int) - 1 := w64 (by omega)
    rw [e1, e2, e3, e4, e5]
    have i1 : k - 1 + n < u.length := by omega
    have i2 : k - 1 + n - 1 < u.length := by omega
    have i3 : k - 1 + n - 2 < u.length := by omega
    have iv : n - 1 < v.length := by omega
    have iv2 : n - 2 < v.length := by omega
    have g1 := hd.get i1
    have g2 := hd.get i2
    have g3 := hd.get i3
    have gv := hv.get iv
    have gv2 := hv.get iv2
    rw [idx_nat i1, Option.bind_some, shl20 g1.1 (by omega), Option.bind_some, idx_nat i2, Option.bind_some, idx_nat iv, Option.bind_some, or_low g1.1 (by omega) g2, divq (by omega) (by omega) (by omega), Option.bind_some, modq (by omega) (by omega), Option.bind_some, slc_at (by omega) (by omega), show k - 1 + n + 1 - (k - 1) = n + 1 by omega]
    generalize hw : (u.drop (k - 1)).take (n + 1) = w
    have hwl : w.length = n + 1 := by rw [← hw, List.length_take, List.length_drop]; omega
    have hwd : Dg w := by rw [← hw]; exact (hd.drop _).take _
    have hwg : ∀ j (hj : j < n + 1), w[j]'(by omega) = u[k - 1 + j]'(by omega) := by
      intro j hj
      subst hw
      rw [List.getElem_take, List.getElem_drop]
    -- above the window there is nothing
    have hup : dv (u.drop (k + n)) = 0 := by
      have s1 := dv_split (u.drop k) (i := n) (by rw [List.length_drop]; omega)
      rw [List.drop_drop] at s1
      have n1 := dv_nonneg ((hd.drop k).take n)
      have n2 := dv_nonneg (hd.drop (k + n))
      have hp := pw_pos n
      rcases (show dv (u.drop (k + n)) = 0 ∨ 1 ≤ dv (u.drop (k + n)) by omega) with h | h
      · exact h
      · have : pw n * 1 ≤ pw n * dv (u.drop (k + n)) := Int.mul_le_mul_of_nonneg_left h (by omega)
        omega
    have hW : dv w = dv (u.drop (k - 1)) := by
      have s1 := dv_split (u.drop (k - 1)) (i := n + 1) (by rw [List.length_drop]; omega)
      rw [List.drop_drop, show k - 1 + (n + 1) = k + n by omega, hup, hw] at s1
      omega
    have hWk : dv w = u[k - 1] + 1048576 * dv (u.drop k) := by
      rw [hW, dv_drop (by omega), show k - 1 + 1 = k by omega]
    have gk := hd.get (show k - 1 < u.length by omega)
    have hWV : dv w < 1048576 * dv v := by omega
    have t2 := dv_top2 hvl hn hv
    have t3 := dv_top3 hwl hn hwd
    rw [hwg n (by omega), hwg (n - 1) (by omega), hwg (n - 2) (by omega)] at t3
    have a1 : u[k - 1 + (n - 1)]'(by omega) = u[k - 1 + n - 1]'(by omega) := by congr 1; omega
    have a2 : u[k - 1 + (n - 2)]'(by omega) = u[k - 1 + n - 2]'(by omega) := by congr 1; omega
    rw [a1, a2] at t3
    obtain ⟨g, q1, q2, q3, q4⟩ := guess_loop (s13 := ((k - 1 : Nat) : Int)) hn hvl (by omega) (k - 1) rfl (by omega) (idx_nat iv2) (idx_nat i3) ⟨hv1, gv.2⟩ gv2 g3 (T := 1048576 * u[k - 1 + n] + u[k - 1 + n - 1]) (by omega) (by omega) t2 t3 hWV
    rw [q1, Option.bind_some, Option.bind_some]
    have hVp : 0 < dv v := by
      have := dv_nonneg hwd
      omega
    obtain ⟨l, r1, r2, r3, r4⟩ := settle_eq hwd hv (by unfold Fit; omega) (by omega) hVp q2 q3 q4
    have iq : k - 1 < q.length := by omega
    rw [r1, Option.bind_some, idx_nat iq, Option.bind_some]
    simp only
    have hq0 : 0 ≤ dv w / dv v := Int.ediv_nonneg (dv_nonneg hwd) (by omega)
    have hqB : dv w / dv v < 1048576 := Int.ediv_lt_of_lt_mul hVp hWV
    have hmod := Int.emod_lt_of_pos (dv w) hVp
    simp only [Int.toNat_natCast]
    have hdl : dv (l ++ u.drop (k - 1 + n + 1)) = dv w % dv v := by
      rw [dv_append, show k - 1 + n + 1 = k + n by omega, hup, r4]; omega
    have hut : (u.take (k - 1)).length = k - 1 := by rw [List.length_take]; omega
    have hdu : dv (u.take (k - 1) ++ (l ++ u.drop (k - 1 + n + 1))) = dv (u.take (k - 1)) + pw (k - 1) * (dv w % dv v) := by rw [dv_append, hut, hdl]
    refine ⟨by omega, _, rfl, by rw [show m - (i + 1) = k - 1 by omega], ?_, (hd.take _).append (r3.append (hd.drop _)), by simpa using hql, hqd.set _ ⟨hq0, hqB⟩, fun j hj hjk => ?_, ?_, ?_⟩
    · simp only [List.length_append, List.length_take, List.length_drop]; omega
    · rw [List.getElem_set_ne (by omega)]
      exact hz j (by simpa using hj) (by omega)
    · rw [hdu, dv_set iq, hz _ iq (by omega), Int.sub_zero, Int.mul_add]
      have s2 := dv_split u (i := k - 1) (by omega)
      rw [← hW] at s2
      have hm := Int.mul_ediv_add_emod (dv w) (dv v)
      have : pw (k - 1) * dv w = dv v * (pw (k - 1) * (dv w / dv v)) + pw (k - 1) * (dv w % dv v) := by
        rw [Int.mul_left_comm, ← Int.mul_add, hm]
      omega
    · rw [show m - (i + 1) = k - 1 by omega, List.drop_append, hut, Nat.sub_self, List.drop_zero, List.drop_eq_nil_of_le (by omega), List.nil_append, hdl]
      exact hmod
  · right
    have : k = 0 := by omega
    subst this
    refine ⟨(u, q), by rw [if_neg (by simp)], hl, hd, hql, hqd, he, ?_⟩
    simpa using hdr

theorem shift_loop {v : List Int} {t : Int} {n : Nat} (hl : v.length = n) (hn : 0 < n) (hf : n ≤ 17592186044416) (ht : v[n - 1]'(by omega) = t) (h1 : 1 ≤ t) (h2 : t < 1048576) :
    ∃ s, loopL (big_div_L1 v) 1 = some s ∧ ∃ j : Nat, s = 2 ^ j ∧ j ≤ 19 ∧ 524288 ≤ t * s ∧ t * s < 1048576 := by
  refine loop_nat (I := fun i s => s = 2 ^ i ∧ t * s < 1048576) 20 _ ⟨rfl, by omega⟩ (by unfold FU; omega) ?_
  rintro i s hi ⟨rfl, hb⟩
  have hp : (0 : Int) < 2 ^ i := Int.pow_pos (by decide)
  have hpt : (2 : Int) ^ i ≤ t * 2 ^ i := by
    have : 1 * (2 : Int) ^ i ≤ t * 2 ^ i := Int.mul_le_mul_of_nonneg_right h1 (by omega)
    omega
  have hi20 : i ≤ 19 := by
    rcases Nat.lt_or_ge 19 i with h | h
    · have hx : i = 20 := by omega
      subst hx
      omega
    · exact h
  simp only [big_div_L1]
  have e : IntKind.i64.wrap ((v.length : Int) - 1) = ((n - 1 : Nat) : Int) := by rw [hl, w64 (by omega)]; omega
  rw [e, idx_nat (by omega), Option.bind_some, ht, w64 (x := t * 2 ^ i) (by omega)]
  by_cases h : t * 2 ^ i < 524288
  · left
    rw [if_pos (by simpa using h)]
    refine ⟨by omega, _, rfl, by rw [w64 (by omega), Int.pow_succ], ?_⟩
    rw [w64 (by omega), ← Int.mul_assoc]
    omega
  · right
    rw [if_neg (by simpa using h)]
    exact ⟨_, rfl, i, rfl, hi20, by omega, hb⟩

theorem div_eq {m n : Nat} (hn : n ≠ 0) (hfm : (digs m).length ≤ 17592186043904) (hfn : (digs n).length ≤ 17592186043904) : big_div (digs m) (digs n) = some (digs (m / n), digs (m % n)) := by
  unfold big_div
  rw [compare_eq (by unfold Fit; omega) (by unfold Fit; omega), Option.bind_some]
  by_cases hlt : m < n
  · have : cmpI (m : Int) n < 0 := by unfold cmpI; rw [if_pos (by omega)]; decide
    rw [if_pos (by simpa using this), clone_eq (by unfold Fit; omega), Option.bind_some, Nat.div_eq_of_lt hlt, Nat.mod_eq_of_lt hlt, digs_zero]
  have : ¬ cmpI (m : Int) n < 0 := by unfold cmpI; rw [if_neg (by omega)]; split <;> decide
  rw [if_neg (by simpa using this)]
  obtain ⟨hp1, hp2⟩ := digs_len_pos hn
  have hnl := lt_pw_digs n
  by_cases h1 : (digs n).length = 1
  · rw [if_pos (by simp; omega)]
    have hnB : (n : Int) < 1048576 := by rw [h1] at hnl; simpa [pw] using hnl
    have e : digs n = [(n : Int)] := by
      rw [digs_pos hn, Nat.div_eq_of_lt (by omega), digs_zero, Nat.mod_eq_of_lt (by omega)]
    have ei : P.idx (digs n) 0 = some (n : Int) := by rw [e]; rfl
    rw [ei, Option.bind_some, short_eq (dg_digs m) ⟨by omega, by omega⟩ (by unfold Fit; omega), Option.bind_some, dv_digs]
    have hm1 : (m : Int) % n = ((m % n : Nat) : Int) := (Int.natCast_emod m n).symm
    have hm2 : ((m : Int) / n).toNat = m / n := by
      rw [← Int.natCast_ediv]; rfl
    have hml : m % n < n := Nat.mod_lt _ (by omega)
    simp only [hm1, hm2]
    rw [trim_of (n := m % n) (by simp [Fit]) (Dg.mk (by omega) Dg.nil) (by simp [dv]), Option.bind_some]
  · rw [if_neg (by simp; omega)]
    generalize hN : (digs n).length = N at *
    have hN2 : 2 ≤ N := by omega
    -- the top digit
    have hdn := dg_digs n
    have gt := hdn.get (show N - 1 < (digs n).length by omega)
    generalize ht : (digs n)[N - 1]'(by omega) = t at gt
    have hsp := dv_split (digs n) (i := N - 1) (by omega)
    rw [dv_digs, dv_drop (by omega), List.drop_eq_nil_of_le (by omega), ht] at hsp
    simp only [dv, Int.mul_zero, Int.add_zero] at hsp
    have lo0 := dv_nonneg (hdn.take (N - 1))
    have lo1 := dv_lt (hdn.take (N - 1))
    rw [List.length_take, Nat.min_eq_left (by omega)] at lo1
    have hpw := pw_pos (N - 1)
    have ht1 : 1 ≤ t := by
      rcases (show t = 0 ∨ 1 ≤ t by omega) with h | h
      · subst h; omega
      · exact h
    obtain ⟨s, hs1, j, hs2, hj, hs3, hs4⟩ := shift_loop hN (by omega) (by omega) ht ht1 gt.2
    have hj2 : (2 : Int) ^ j ≤ 524288 := by
      have : ∀ j : Nat, j ≤ 19 → (2 : Int) ^ j ≤ 524288 := by decide
      exact this j hj
    have hj1 : (0 : Int) < 2 ^ j := Int.pow_pos (by decide)
    have hts : (t + 1) * s ≤ 1048576 := by
      have h20 : (1048576 : Int) = 2 ^ (20 - j) * 2 ^ j := by rw [← Int.pow_add, Nat.sub_add_cancel (by omega)]; rfl
      rw [h20] at hs4 ⊢
      rw [hs2] at hs4 ⊢
      have : t < 2 ^ (20 - j) := Int.lt_of_mul_lt_mul_right hs4 (by omega)
      exact Int.mul_le_mul_of_nonneg_right (by omega) (by omega)
    rw [← hs2] at hj1 hj2
    obtain ⟨S, rfl⟩ : ∃ S : Nat, s = S := ⟨s.toNat, by omega⟩
    have hSd : Dg [(S : Int)] := Dg.mk (by omega) Dg.nil
    have hdvS : dv [(S : Int)] = S := by simp [dv]
    rw [hs1, Option.bind_some, mul_eq (dg_digs m) hSd (by simp; omega), Option.bind_some, dv_digs, hdvS]
    have em : ((m : Int) * S).toNat = m * S := by rw [← Int.natCast_mul]; rfl
    have en : ((n : Int) * S).toNat = n * S := by rw [← Int.natCast_mul]; rfl
    rw [em]
    -- its length
    have hmS : (digs (m * S)).length ≤ (digs m).length + 1 := by
      apply digs_len_le
      rw [pw_succ, Int.natCast_mul]
      have a1 := lt_pw_digs m
      have : (m : Int) * S ≤ m * 1048576 := Int.mul_le_mul_of_nonneg_left (by omega) (by omega)
      omega
    have hU : ∃ u, ((if ((((digs (m * S) ++ [0]).length : Int)) == ((digs m).length : Int)) = true then (appL 8 (digs (m * S) ++ [0]) [0]).bind fun x98 => some x98 else some (digs (m * S) ++ [0])) = some u) ∧ Dg u ∧ dv u = (m * S : Nat) ∧ dv u < pw (u.length - 1) ∧ (digs (m * S)).length + 1 ≤ u.length ∧ u.length ≤ (digs m).length + 3 := by
      have d1 : Dg (digs (m * S) ++ [0]) := (dg_digs _).append (Dg.mk (by omega) Dg.nil)
      have v1 : dv (digs (m * S) ++ [0]) = (m * S : Nat) := by rw [dv_append, dv_digs]; simp [dv]
      have v2 := lt_pw_digs (m * S)
      split
      · rw [app8 (by simp; omega), Option.bind_some]
        refine ⟨_, rfl, d1.append (Dg.mk (by omega) Dg.nil), by rw [dv_append, v1]; simp [dv], ?_, by simp, by simp; omega⟩
        rw [dv_append, v1]
        simp only [dv, List.length_append, List.length_cons, List.length_nil]
        have := pw_mono (i := (digs (m * S)).length) (j := (digs (m * S)).length + 1) (by omega)
        rw [show (digs (m * S)).length + (0 + 1) + (0 + 1) - 1 = (digs (m * S)).length + 1 by omega]
        omega
      · refine ⟨_, rfl, d1, v1, ?_, by simp, by simp; omega⟩
        rw [v1]
        simpa using v2
    obtain ⟨u, hu1, hu2, hu3, hu4, hu5, hu6⟩ := hU
    rw [app8 (by simp; omega), Option.bind_some, mul_eq (dg_digs n) hSd (by simp; omega), Option.bind_some, dv_digs, hdvS, en, hu1, Option.bind_some]
    -- the divisor, shifted
    have hVlo : 524288 * pw (N - 1) ≤ ((n * S : Nat) : Int) := by
      rw [Int.natCast_mul, hsp, Int.add_mul]
      have a1 : 0 ≤ dv ((digs n).take (N - 1)) * S := Int.mul_nonneg lo0 (by omega)
      have a2 : pw (N - 1) * 524288 ≤ pw (N - 1) * (t * S) := Int.mul_le_mul_of_nonneg_left hs3 (by omega)
      rw [Int.mul_assoc]
      omega
    have hVhi : ((n * S : Nat) : Int) < pw N := by
      have a0 : pw N = 1048576 * pw (N - 1) := by rw [← pw_succ]; congr 1; omega
      rw [a0, Int.natCast_mul, hsp]
      have a1 : (dv ((digs n).take (N - 1)) + pw (N - 1) * t + 1) * S ≤ (pw (N - 1) * (t + 1)) * S := Int.mul_le_mul_of_nonneg_right (by rw [Int.mul_add]; omega) (by omega)
      have a2 : pw (N - 1) * ((t + 1) * S) ≤ pw (N - 1) * 1048576 := Int.mul_le_mul_of_nonneg_left hts (by omega)
      rw [Int.mul_assoc] at a1
      rw [Int.add_mul _ 1, Int.one_mul] at a1
      omega
    have hVN : (digs (n * S)).length = N := by
      have a1 := digs_len_le hVhi
      rcases Nat.lt_or_ge (digs (n * S)).length N with h | h
      · have a2 := lt_pw_digs (n * S)
        have a3 := pw_mono (i := (digs (n * S)).length) (j := N - 1) (by omega)
        omega
      · omega
    have hV1 : 524288 ≤ (digs (n * S))[N - 1]'(by omega) := by
      have a1 := dv_split (digs (n * S)) (i := N - 1) (by omega)
      rw [dv_digs, dv_drop (by omega), List.drop_eq_nil_of_le (by omega)] at a1
      simp only [dv, Int.mul_zero, Int.add_zero] at a1
      have a2 := dv_lt ((dg_digs (n * S)).take (N - 1))
      rw [List.length_take, Nat.min_eq_left (by omega)] at a2
      have a3 : pw (N - 1) * 524288 < pw (N - 1) * ((digs (n * S))[N - 1]'(by omega) + 1) := by rw [Int.mul_add]; omega
      have := Int.lt_of_mul_lt_mul_left a3 (by omega)
      omega
    have hlen : N + 1 ≤ u.length := by
      have : n * S ≤ m * S := Nat.mul_le_mul_right _ (by omega)
      have := digs_len_mono this
      omega
    obtain ⟨M, hM⟩ : ∃ M, u.length = M + N := ⟨u.length - N, by omega⟩
    have e1 : IntKind.i64.wrap ((u.length : Int) - ((digs (n * S)).length : Int)) = (M : Int) := by rw [hVN, hM, w64 (by omega)]; omega
    rw [e1, mk0 (by omega), Option.bind_some, List.length_replicate, w64 (x := (M : Int) - 1) (by omega)]
    have hdr : dv (u.drop M) < dv (digs (n * S)) := by
      rw [dv_digs]
      have a1 := dv_split u (i := M) (by omega)
      have a2 := dv_nonneg (hu2.take M)
      have a3 : pw M * dv (u.drop M) < pw M * pw (N - 1) := by
        rw [← pw_add, show M + (N - 1) = u.length - 1 by omega]
        omega
      have := Int.lt_of_mul_lt_mul_left a3 (by have := pw_pos M; omega)
      omega
    obtain ⟨⟨U, Q⟩, r1, r2, r3, r4, r5, r6, r7⟩ := div_loop (dg_digs (n * S)) hVN hN2 hV1 hu2 hM (by omega) hdr
    simp only at r2 r3 r4 r5 r6 r7
    rw [r1, Option.bind_some]
    simp only
    rw [dv_digs, hu3] at r6
    rw [dv_digs] at r7
    have hU0 := dv_nonneg r3
    have hQ0 := dv_nonneg r5
    have hS : 0 < S := by omega
    have hnS : 0 < n * S := Nat.mul_pos (by omega) hS
    -- what came out
    obtain ⟨U', hU'⟩ : ∃ k : Nat, dv U = k := ⟨(dv U).toNat, by omega⟩
    obtain ⟨Q', hQ'⟩ : ∃ k : Nat, dv Q = k := ⟨(dv Q).toNat, by omega⟩
    rw [hU', hQ'] at r6
    rw [hU'] at r7
    have hnat : U' + n * S * Q' = m * S := by
      have : ((U' + n * S * Q' : Nat) : Int) = ((m * S : Nat) : Int) := by rw [Int.natCast_add, Int.natCast_mul (n * S) Q']; exact r6
      omega
    have hUlt : U' < n * S := by omega
    have hQe : Q' = m / n := by
      have : m * S / (n * S) = Q' := by
        rw [← hnat, Nat.add_mul_div_left _ _ hnS, Nat.div_eq_of_lt hUlt, Nat.zero_add]
      rw [← this, Nat.mul_div_mul_right _ _ hS]
    have hUe : U' = (m % n) * S := by
      have : m * S % (n * S) = U' := by rw [← hnat, Nat.add_mul_mod_self_left, Nat.mod_eq_of_lt hUlt]
      rw [← this, Nat.mul_mod_mul_right]
    rw [trim_of (n := U') (by unfold Fit; omega) r3 hU', Option.bind_some]
    have hUlen : (digs U').length ≤ N := digs_len_le (by omega)
    rw [short_eq (dg_digs U') ⟨by omega, by omega⟩ (by unfold Fit; omega), Option.bind_some, trim_of (n := Q') (by unfold Fit; omega) r5 hQ', Option.bind_some, dv_digs, hQe, hUe]
    have : ((((m % n) * S : Nat) : Int) / (S : Int)).toNat = m % n := by
      rw [Int.natCast_mul, Int.mul_ediv_cancel _ (by omega)]; rfl
    rw [this]
end Go.Proofs.Ytadpbhbkdnfbpaa.P
