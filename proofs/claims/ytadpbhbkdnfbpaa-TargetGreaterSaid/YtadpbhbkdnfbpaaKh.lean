/- The law of the greater target. -/
import Derived.Test.YtadpbhbkdnfbpaaKe
namespace Go.Proofs.Ytadpbhbkdnfbpaa.P
open Go.RowKit
set_option linter.unusedSimpArgs false
set_option linter.unusedVariables false

theorem slim_eq {x : Int} (h : Ln x ≤ Lmax) : frac_slim (mkB x) = some (mkB x) := by
  unfold frac_slim
  rw [Neg_eq h, Option.bind_some, Neg_eq (by rw [Ln_neg]; exact h), Option.bind_some, Int.neg_neg]
theorem min_eq {a b : Rat} (ha : LF a ≤ 20) (hb : LF b ≤ 20) : frac_Min (mkF a) (mkF b) = some (mkF (if b < a then b else a), 0) := by
  have a1 := LF_num a
  have a2 := LF_den a
  have b1 := LF_num b
  have b2 := LF_den b
  have hw : ∀ c, (cmpQ a b = c) → IntKind.i64.wrap (c * -1) = c * -1 := by
    intro c hc
    have : c = 1 ∨ c = -1 ∨ c = 0 := by
      rw [← hc]
      unfold cmpQ
      split
      · simp
      · split <;> simp
    rcases this with h | h | h <;> rw [h] <;> decide
  have hlt : cmpQ a b * -1 < 0 ↔ b < a := by
    unfold cmpQ
    by_cases h1 : a < b
    · rw [if_pos h1]; exact ⟨fun h => absurd h (by decide), fun h => by grind⟩
    · rw [if_neg h1]
      by_cases h2 : b < a
      · rw [if_pos h2]; exact ⟨fun _ => h2, fun _ => by decide⟩
      · rw [if_neg h2]; exact ⟨fun h => absurd h (by decide), fun h => absurd h h2⟩
  unfold frac_Min frac_either
  rw [Right_mk (by unfold Lmax; omega), Option.bind_some, if_neg (by simp), Right_mk (by unfold Lmax; omega), Option.bind_some, Option.bind_some, if_neg (by simp), Compare_f (by unfold Lmax; omega), Option.bind_some, hw _ rfl]
  by_cases h : b < a
  · rw [if_pos (decide_eq_true (hlt.2 h)), if_pos h]
    show ((frac_slim (mkB b.num)).bind _).bind _ = _
    rw [slim_eq (by unfold Lmax; omega), Option.bind_some]
    show ((frac_slim (mkB b.den)).bind _).bind _ = _
    rw [slim_eq (by unfold Lmax; omega), Option.bind_some]
    rfl
  · rw [if_neg (by simpa using fun h' => h (hlt.1 h')), if_neg h]
    show ((frac_slim (mkB a.num)).bind _).bind _ = _
    rw [slim_eq (by unfold Lmax; omega), Option.bind_some]
    show ((frac_slim (mkB a.den)).bind _).bind _ = _
    rw [slim_eq (by unfold Lmax; omega), Option.bind_some]
    rfl

theorem Greater_L3 {qs : List Rat} {n : Nat} (hn : n ≤ 5) (hl : qs.length = 2 ^ n) (hq : ∀ q ∈ qs, LF q ≤ 20) :
    ∃ j, j < 2 ^ n ∧ (∀ s, s < 2 ^ n → Vq qs j ≤ Vq qs s) ∧ loopL (l47_TargetGreater_L3 (qs.map mkF)) (0, (mkF (Vq qs 0)).f_P.f_Sign, (mkF (Vq qs 0)).f_P.f_Digits, (mkF (Vq qs 0)).f_Q.f_Sign, (mkF (Vq qs 0)).f_Q.f_Digits) =
      some ((mkF (Vq qs j)).f_P.f_Sign, (mkF (Vq qs j)).f_P.f_Digits, (mkF (Vq qs j)).f_Q.f_Sign, (mkF (Vq qs j)).f_Q.f_Digits) := by
  have h32 := pow32 hn
  obtain ⟨r, h1, j, hj, h2, h3⟩ := loop_nat (body := l47_TargetGreater_L3 (qs.map mkF))
    (I := fun i st => ∃ j, j < 2 ^ n ∧ (∀ s, s < i → Vq qs j ≤ Vq qs s) ∧ st = ((i : Int), (mkF (Vq qs j)).f_P.f_Sign, (mkF (Vq qs j)).f_P.f_Digits, (mkF (Vq qs j)).f_Q.f_Sign, (mkF (Vq qs j)).f_Q.f_Digits)) (2 ^ n)
    (fun r => ∃ j, j < 2 ^ n ∧ (∀ s, s < 2 ^ n → Vq qs j ≤ Vq qs s) ∧ r = ((mkF (Vq qs j)).f_P.f_Sign, (mkF (Vq qs j)).f_P.f_Digits, (mkF (Vq qs j)).f_Q.f_Sign, (mkF (Vq qs j)).f_Q.f_Digits))
    (s := (0, (mkF (Vq qs 0)).f_P.f_Sign, (mkF (Vq qs 0)).f_P.f_Digits, (mkF (Vq qs 0)).f_Q.f_Sign, (mkF (Vq qs 0)).f_Q.f_Digits)) ⟨0, h32.2, fun s hs => by omega, rfl⟩ (lenFU (by omega)) (by
      rintro i st hi ⟨j, hj, hm, rfl⟩
      simp only [l47_TargetGreater_L3]
      rw [List.length_map, hl]
      by_cases hin : i < 2 ^ n
      · left
        refine ⟨hin, ?_⟩
        rw [if_pos (decide_eq_true (by omega)), idx_opt, Vq_get (by omega), Option.bind_some]
        show ∃ s', (((frac_Min (mkF (Vq qs j)) (mkF (Vq qs i))).bind _) = some (Sum.inl s')) ∧ _
        rw [min_eq (Vq_LF hq (by omega)) (Vq_LF hq (by omega)), Option.bind_some]
        refine ⟨_, rfl, ?_⟩
        by_cases h : Vq qs i < Vq qs j
        · rw [if_pos h]
          refine ⟨i, hin, fun s hs => ?_, by rw [w64 (by omega)]; rfl⟩
          rcases Nat.lt_succ_iff_lt_or_eq.1 hs with h' | h'
          · have := hm s h'
            grind
          · rw [h']; grind
        · rw [if_neg h]
          refine ⟨j, hj, fun s hs => ?_, by rw [w64 (by omega)]; rfl⟩
          rcases Nat.lt_succ_iff_lt_or_eq.1 hs with h' | h'
          · exact hm s h'
          · rw [h']; grind
      · right
        have : i = 2 ^ n := by omega
        subst this
        rw [if_neg (by simp)]
        exact ⟨_, rfl, j, hj, hm, rfl⟩)
  exact ⟨j, hj, h2, by rw [h1, h3]⟩

theorem TargetGreater_eq (a0 : List TFrac) (a1 a2 : TFrac) (g0 : ∀ f ∈ a0, FitF f) (g1 : FitF a1) (g2 : FitF a2) :
    l47_TargetGreater a0 a1 a2 = some true := by
  obtain ⟨b, hb, hfew⟩ := few_eq (l := a0) (g := a1)
  obtain ⟨b', hb', hfew'⟩ := few_eq (l := a0) (g := a2)
  unfold l47_TargetGreater
  rw [small_eq, Option.bind_some, hb, Option.bind_some]
  cases b with
  | false => rfl
  | true =>
  obtain ⟨hlen, hF, hG⟩ := hfew rfl
  rw [if_neg (by simp), hb', Option.bind_some, Option.bind_some]
  cases b' with
  | false => rfl
  | true =>
  obtain ⟨_, _, hG'⟩ := hfew' rfl
  rw [if_neg (by simp)]
  obtain ⟨r, hE, hr⟩ := edits_eq hlen g0
  rw [hE, Option.bind_some]
  by_cases h0 : r < 0
  · rw [if_pos (decide_eq_true h0)]; rfl
  rw [if_neg (by simpa using h0)]
  by_cases h5 : r > 5
  · rw [if_pos (decide_eq_true h5)]; rfl
  rw [if_neg (by simpa using h5)]
  rcases hr with hr | ⟨n, hn8, rfl, qs, rfl, hl⟩
  · omega
  have hn : n ≤ 5 := by omega
  have h32 := pow32 hn
  have hq : ∀ q ∈ qs, LF q ≤ 20 := fun q hq => Nat.le_trans (LF_of (hF _ (List.mem_map.2 ⟨q, hq, rfl⟩))) (by decide)
  rw [if_neg (by rw [List.length_map, hl, beq_iff_eq]; omega), Right_eq g1, Option.bind_some]
  by_cases hok : okF a1 = true
  rotate_left
  · rw [show okF a1 = false from by simpa using hok]; rfl
  rw [hok, if_neg (by simp), Right_eq g2, Option.bind_some]
  by_cases hok' : okF a2 = true
  rotate_left
  · rw [show okF a2 = false from by simpa using hok']; rfl
  rw [hok', if_neg (by simp)]
  obtain ⟨a, rfl⟩ := okF_iff.1 hok
  obtain ⟨b, rfl⟩ := okF_iff.1 hok'
  have ha : LF a ≤ 20 := Nat.le_trans (LF_of hG) (by decide)
  have hb2 : LF b ≤ 20 := Nat.le_trans (LF_of hG') (by decide)
  rw [Compare_f (by unfold Lmax; omega), Option.bind_some, Option.bind_some]
  by_cases hab : cmpQ a b > 0
  · rw [if_pos (decide_eq_true hab)]
  rw [if_neg (by simpa using hab)]
  have hab : a ≤ b := cmpQ_le.1 (by omega)
  obtain ⟨j, hj, hmin, hloop⟩ := Greater_L3 hn hl hq
  have hc : LF (Vq qs j) ≤ 20 := Vq_LF hq (by omega)
  have hSa := sets_eq hn hl hq ha hE
  have hSb := sets_eq hn hl hq hb2 hE
  have hSc := sets_eq hn hl hq hc hE
  have ne_of : ∀ {g : Rat} {s : Nat}, s < 2 ^ n → Vq qs s ≤ g → ms n (rch qs g) ≠ [] := by
    intro g s hs h he
    obtain ⟨m, hm, _⟩ := ms_part (R := rch qs g) hn hs (by unfold rch; exact decide_eq_true h)
    rw [he] at hm
    cases hm
  have hcne : ms n (rch qs (Vq qs j)) ≠ [] := ne_of hj (by grind)
  rw [if_neg hcne] at hSc
  have st_ne : ∀ {l : List Nat}, l ≠ [] → ∃ h u t, l = h :: t ∧ st l = h :: u := by
    intro l hne
    obtain ⟨h, t, e⟩ := List.exists_cons_of_ne_nil hne
    have : ∃ u, st l = h :: u := by
      unfold st
      rw [e, List.takeWhile_cons_of_pos (by simp)]
      exact ⟨_, rfl⟩
    obtain ⟨u, hu⟩ := this
    exact ⟨h, u, t, e, hu⟩
  obtain ⟨hC, uC, tC, _, eC⟩ := st_ne hcne
  rw [hSa, Option.bind_some, hSb, Option.bind_some, idx_zero, Vq_get (by omega), Option.bind_some, hloop, Option.bind_some]
  simp only
  rw [show TFrac.mk (TBig.mk (mkF (Vq qs j)).f_P.f_Sign (mkF (Vq qs j)).f_P.f_Digits) (TBig.mk (mkF (Vq qs j)).f_Q.f_Sign (mkF (Vq qs j)).f_Q.f_Digits) = mkF (Vq qs j) from rfl, hSc, Option.bind_some, eC]
  simp only [bne_self_eq_false, Bool.false_eq_true, if_false, List.map_cons, List.length_cons]
  rw [if_neg (by rw [beq_iff_eq]; omega), Compare_f (by unfold Lmax; omega), Option.bind_some, Option.bind_some]
  have hdec : decide (cmpQ (Vq qs j) a ≤ 0) = decide (Vq qs j ≤ a) := by rw [decide_eq_decide]; exact cmpQ_le
  rw [hdec]
  by_cases hca : Vq qs j ≤ a
  · have hane := ne_of hj hca
    obtain ⟨hA, uA, tA, eA, eA'⟩ := st_ne hane
    have hAm : hA ∈ ms n (rch qs a) := by rw [eA]; exact List.mem_cons_self ..
    have hAR := ms_R hn hAm
    have hVA : Vq qs hA ≤ a := of_decide_eq_true hAR.2.2.1
    have hVb : Vq qs hA ≤ b := by grind
    have hbne := ne_of hAR.1 hVb
    obtain ⟨hB, uB, tB, eB, eB'⟩ := st_ne hbne
    obtain ⟨m, hm, hp⟩ := ms_part (R := rch qs b) hn hAR.1 (by unfold rch; exact decide_eq_true hVb)
    have b1 := ms_head hn eB m hm
    have b2 := (part_bl (ms_R hn hm).2.1 hAR.2.1).2.2.1 hp
    rw [if_neg hane, if_neg hbne, decide_eq_true hca, eA', eB']
    simp only [List.map_cons, List.length_cons, beq_self_eq_true, Bool.not_true, Bool.false_eq_true, if_false, if_true, bne_self_eq_false]
    rw [if_pos (decide_eq_true (by omega)), if_pos (decide_eq_true (by omega)), idx_zero, List.getElem?_cons_zero, Option.bind_some, idx_zero, List.getElem?_cons_zero, Option.bind_some, decide_eq_true (by omega)]
  · have hae : ms n (rch qs a) = [] := by
      cases hM : ms n (rch qs a) with
      | nil => rfl
      | cons x l =>
        have hx : x ∈ ms n (rch qs a) := by rw [hM]; exact List.mem_cons_self ..
        have hR := ms_R hn hx
        have h1 : Vq qs x ≤ a := of_decide_eq_true hR.2.2.1
        have h2 := hmin x hR.1
        exact absurd (by grind) hca
    rw [if_pos hae, decide_eq_false hca]
    rfl
end Go.Proofs.Ytadpbhbkdnfbpaa.P
