/- The law of fairness: the walk. -/
import Derived.Test.YtoclpeomlofcjaaHh
namespace Go.Proofs.Ytoclpeomlofcjaa.P
open Go.RowKit
set_option linter.unusedSimpArgs false
set_option linter.unusedVariables false

def bitD (s x : Int) : Option Int := (shrI .i64 s x).bind fun x10 => some (bitI .and .i64 x10 1)
theorem bitD_all : ((List.range 32).all fun s => (List.range 5).all fun a => bitD (s : Int) (a : Int) == some (if s.testBit a then 1 else 0) && (s.testBit a || bitI .or .i64 (s : Int) ((2 ^ a : Nat) : Int) == ((s + 2 ^ a : Nat) : Int))) = true := by decide +kernel
theorem bitD_fact {s a : Nat} (hs : s < 32) (ha : a < 5) : (∃ x, shrI .i64 (s : Int) (a : Int) = some x ∧ bitI .and .i64 x 1 = (if s.testBit a then 1 else 0)) ∧ (s.testBit a = false → bitI .or .i64 (s : Int) ((2 ^ a : Nat) : Int) = ((s + 2 ^ a : Nat) : Int)) := by
  have h := bitD_all
  simp only [List.all_eq_true, List.mem_range, beq_iff_eq, Bool.and_eq_true, Bool.or_eq_true] at h
  have h := h s hs a ha
  refine ⟨?_, fun hb => h.2.resolve_left (by rw [hb]; decide)⟩
  have h := h.1
  unfold bitD at h
  cases hx : shrI .i64 (s : Int) (a : Int) with
  | none => rw [hx] at h; cases h
  | some x => rw [hx] at h; exact ⟨x, rfl, Option.some.inj h⟩
theorem clear_all : ((List.range 6).all fun n => (List.range (2 ^ n)).all fun s => (List.range n).all fun a => s.testBit a || (decide (s + 2 ^ a < 2 ^ n) && (s + 2 ^ a).testBit a && (s + 2 ^ a - 2 ^ a == s))) = true := by decide +kernel
theorem clear_fact {n s a : Nat} (hn : n ≤ 5) (hs : s < 2 ^ n) (ha : a < n) (hb : s.testBit a = false) : s + 2 ^ a < 2 ^ n ∧ (s + 2 ^ a).testBit a = true := by
  have h := clear_all
  simp only [List.all_eq_true, List.mem_range, beq_iff_eq, Bool.and_eq_true, Bool.or_eq_true, decide_eq_true_eq] at h
  have h := (h n (by omega) s hs a ha).resolve_left (by rw [hb]; decide)
  exact ⟨h.1.1, h.1.2⟩
theorem swp_of_all : ((List.range 32).all fun s => (List.range 5).all fun a => (List.range 5).all fun b => s.testBit a == s.testBit b || (swp a b s == (if s.testBit a then s - 2 ^ a + 2 ^ b else s - 2 ^ b + 2 ^ a) && !(s - 2 ^ (if s.testBit a then a else b)).testBit a && !(s - 2 ^ (if s.testBit a then a else b)).testBit b && s - 2 ^ (if s.testBit a then a else b) + 2 ^ (if s.testBit a then a else b) == s)) = true := by decide +kernel

/-- If a and b add the same to every set, the values do not change at a swap. -/
theorem swap_same {V : Nat → Rat} {n a b : Nat} (hn : n ≤ 5) (ha : a < n) (hb : b < n) (h : ∀ t, t < 2 ^ n → t.testBit a = false → t.testBit b = false → V (t + 2 ^ a) = V (t + 2 ^ b)) : ∀ s, s < 2 ^ n → V s = V (swp a b s) := by
  intro s hs
  have h32 := pow32 hn
  by_cases he : s.testBit a = s.testBit b
  · unfold swp; rw [if_pos he]
  · have hh := swp_of_all
    simp only [List.all_eq_true, List.mem_range, beq_iff_eq, Bool.and_eq_true, Bool.or_eq_true, Bool.not_eq_true'] at hh
    have hh := (hh s (by omega) a (by omega) b (by omega)).resolve_left he
    by_cases hba : s.testBit a = true
    · simp only [if_pos hba] at hh
      have := h (s - 2 ^ a) (Nat.lt_of_le_of_lt (Nat.sub_le _ _) hs) hh.1.1.2 hh.1.2
      rw [hh.1.1.1, ← this, hh.2]
    · simp only [if_neg hba] at hh
      have := h (s - 2 ^ b) (Nat.lt_of_le_of_lt (Nat.sub_le _ _) hs) hh.1.1.2 hh.1.2
      rw [hh.1.1.1, this, hh.2]

theorem BridgeFair_eq (a0 : List TFrac) (a1 a2 : Int) (h0 : a0.length ≤ 17592186044416) (g0 : ∀ f ∈ a0, FitF f) (h3 : (Lit.int .u8 a1).wf = true) (h4 : (Lit.int .u8 a2).wf = true) :
    l44_BridgeFair a0 a1 a2 = some true := by
  obtain ⟨r, e1, e2⟩ := edits_eq h0 g0
  unfold l44_BridgeFair
  rw [small_eq, Option.bind_some, e1, Option.bind_some]
  by_cases hr : r < 1
  · rw [if_pos (decide_eq_true hr)]
  rw [if_neg (by simpa using hr)]
  rcases e2 with hneg | ⟨n, hn, rfl, qs, rfl, hl, hq⟩
  · omega
  have h32 := pow32 hn
  obtain ⟨a, ha, ea⟩ := mod_small h3 (n := n) (by omega)
  obtain ⟨b, hb, eb⟩ := mod_small h4 (n := n) (by omega)
  have hq20 : ∀ q ∈ qs, LF q ≤ 20 := fun q h => Nat.le_trans (hq q h) (by decide)
  have hV : ∀ s, s < 2 ^ n → LF (Vq qs s) ≤ 20 := fun s hs => Vq_LF hq20 (by omega)
  have hL : (qs.map mkF).length = 2 ^ n := by simpa using hl
  have hza : (0 : Nat).testBit a = false := by simp
  have h2a := clear_fact hn h32.2 ha hza
  rw [Nat.zero_add] at h2a
  have hD : ∀ s t, s < 2 ^ n → t < 2 ^ n → LF (Vq qs s - Vq qs t) ≤ 41 := fun s t hs ht => by
    have := LF_sub (Vq qs s) (Vq qs t)
    have := hV s hs
    have := hV t ht
    omega
  have hsub : ∀ s t, s < 2 ^ n → t < 2 ^ n → frac_Sub (mkF (Vq qs s)) (mkF (Vq qs t)) = some (mkF (Vq qs s - Vq qs t), 0) := fun s t hs ht => Sub_f (by
    have := hV s hs
    have := hV t ht
    unfold Lmax
    omega)
  rw [ea, Option.bind_some, eb, Option.bind_some, Shares_eq hn hl hq20, Option.bind_some]
  simp only [Sh_len, bne_self_eq_false, Bool.false_eq_true, if_false, Option.bind_some]
  rw [shl1 a (by omega), Option.bind_some, idx_opt, Vq_get (by omega), Option.bind_some, Vzero hn hl, Option.bind_some, hsub _ _ h2a.1 h32.2, Option.bind_some]
  obtain ⟨r, h1, h2⟩ := loop_nat (body := l44_BridgeFair_L2 (qs.map mkF) (a : Int) (b : Int) ((2 ^ a : Nat) : Int))
    (I := fun i st => ∃ (fl : Bool) (l h : Rat), st = (fl, (i : Int), (mkF l).f_P.f_Sign, (mkF l).f_P.f_Digits, (mkF l).f_Q.f_Sign, (mkF l).f_Q.f_Digits, (mkF h).f_P.f_Sign, (mkF h).f_P.f_Digits, (mkF h).f_Q.f_Sign, (mkF h).f_Q.f_Digits) ∧ LF l ≤ 41 ∧ LF h ≤ 41 ∧
      (fl = true → ∀ t, t < i → t.testBit a = false → t.testBit b = false → Vq qs (t + 2 ^ a) = Vq qs (t + 2 ^ b)) ∧ (∀ t, t < i → t.testBit a = false → l ≤ Vq qs (t + 2 ^ a) - Vq qs t ∧ Vq qs (t + 2 ^ a) - Vq qs t ≤ h)) (2 ^ n)
    (fun r => ∃ (fl : Bool) (l h : Rat), r = (fl, (mkF l).f_P.f_Sign, (mkF l).f_P.f_Digits, (mkF l).f_Q.f_Sign, (mkF l).f_Q.f_Digits, (mkF h).f_P.f_Sign, (mkF h).f_P.f_Digits, (mkF h).f_Q.f_Sign, (mkF h).f_Q.f_Digits) ∧ LF l ≤ 41 ∧ LF h ≤ 41 ∧
      (fl = true → ∀ t, t < 2 ^ n → t.testBit a = false → t.testBit b = false → Vq qs (t + 2 ^ a) = Vq qs (t + 2 ^ b)) ∧ (∀ t, t < 2 ^ n → t.testBit a = false → l ≤ Vq qs (t + 2 ^ a) - Vq qs t ∧ Vq qs (t + 2 ^ a) - Vq qs t ≤ h))
    (s := (true, 0, (mkF (Vq qs (2 ^ a) - Vq qs 0)).f_P.f_Sign, (mkF (Vq qs (2 ^ a) - Vq qs 0)).f_P.f_Digits, (mkF (Vq qs (2 ^ a) - Vq qs 0)).f_Q.f_Sign, (mkF (Vq qs (2 ^ a) - Vq qs 0)).f_Q.f_Digits, (mkF (Vq qs (2 ^ a) - Vq qs 0)).f_P.f_Sign, (mkF (Vq qs (2 ^ a) - Vq qs 0)).f_P.f_Digits, (mkF (Vq qs (2 ^ a) - Vq qs 0)).f_Q.f_Sign, (mkF (Vq qs (2 ^ a) - Vq qs 0)).f_Q.f_Digits))
    ⟨true, _, _, rfl, hD _ _ h2a.1 h32.2, hD _ _ h2a.1 h32.2, fun _ t ht => by omega, fun t ht => by omega⟩ (lenFU (by omega)) (by
      rintro i st hi ⟨fl, l, h, rfl, hl1, hh1, hfl, hbd⟩
      simp only [l44_BridgeFair_L2]
      rw [hL]
      by_cases hin : i < 2 ^ n
      · left
        refine ⟨hin, ?_⟩
        have e3 : IntKind.i64.wrap ((i : Int) + 1) = ((i + 1 : Nat) : Int) := by rw [w64 (by omega)]; omega
        obtain ⟨⟨x, ex, ex'⟩, ho⟩ := bitD_fact (s := i) (a := a) (by omega) (by omega)
        obtain ⟨⟨y, ey, ey'⟩, ho'⟩ := bitD_fact (s := i) (a := b) (by omega) (by omega)
        rw [if_pos (decide_eq_true (by omega)), ex, Option.bind_some, ex', e3]
        have step : ∀ t, t < i + 1 → t = i ∨ t < i := fun t ht => by omega
        by_cases hba : i.testBit a = true
        · rw [if_pos hba, if_pos (by decide)]
          refine ⟨_, rfl, fl, l, h, rfl, hl1, hh1, fun hf t ht hta htb => ?_, fun t ht hta => ?_⟩
          · rcases step t ht with rfl | ht
            · rw [hba] at hta; cases hta
            · exact hfl hf t ht hta htb
          · rcases step t ht with rfl | ht
            · rw [hba] at hta; cases hta
            · exact hbd t ht hta
        · have hba : i.testBit a = false := by simpa using hba
          have hcl := clear_fact hn hin ha hba
          have hd := hD (i + 2 ^ a) i hcl.1 hin
          obtain ⟨c, c1, c2, c3, c4⟩ := Min_f (a := l) (b := Vq qs (i + 2 ^ a) - Vq qs i) (by omega) (by omega)
          obtain ⟨d, d1, d2, d3, d4⟩ := Max_f (a := h) (b := Vq qs (i + 2 ^ a) - Vq qs i) (by omega) (by omega)
          have hbd' : ∀ t, t < i + 1 → t.testBit a = false → c ≤ Vq qs (t + 2 ^ a) - Vq qs t ∧ Vq qs (t + 2 ^ a) - Vq qs t ≤ d := fun t ht hta => by
            rcases step t ht with rfl | ht
            · exact ⟨c4, d4⟩
            · have := hbd t ht hta
              exact ⟨Rat.le_trans c3 this.1, Rat.le_trans this.2 d3⟩
          rw [if_neg (by rw [hba]; decide), ho hba, idx_opt, Vq_get (by omega), Option.bind_some, idx_opt, Vq_get (by omega), Option.bind_some, hsub _ _ hcl.1 hin, Option.bind_some]
          erw [c1]
          rw [Option.bind_some]
          erw [d1]
          rw [Option.bind_some, ey, Option.bind_some, ey']
          by_cases hbb : i.testBit b = true
          · rw [if_pos hbb, if_neg (by decide)]
            refine ⟨_, rfl, fl, c, d, rfl, by omega, by omega, fun hf t ht hta htb => ?_, hbd'⟩
            rcases step t ht with rfl | ht
            · rw [hbb] at htb; cases htb
            · exact hfl hf t ht hta htb
          · have hbb : i.testBit b = false := by simpa using hbb
            have hcb := clear_fact hn hin hb hbb
            rw [if_neg (show ¬ (i.testBit b = true) by rw [hbb]; decide), if_pos (by decide)]
            cases fl with
            | false =>
              rw [if_neg (by decide)]
              refine ⟨_, rfl, false, c, d, rfl, by omega, by omega, ?_, hbd'⟩
              intro hf
              cases hf
            | true =>
              rw [if_pos rfl, shl1 b (by omega), Option.bind_some, ho' hbb, idx_opt, Vq_get (by omega), Option.bind_some, r05_same_mk (by have := hV _ hcl.1; unfold Lmax; omega), Option.bind_some]
              refine ⟨_, rfl, _, c, d, rfl, by omega, by omega, fun hf t ht hta htb => ?_, hbd'⟩
              rcases step t ht with rfl | ht
              · exact of_decide_eq_true hf
              · exact hfl rfl t ht hta htb
      · right
        have : i = 2 ^ n := by omega
        subst this
        exact ⟨_, by rw [if_neg (by simp)], fl, l, h, rfl, hl1, hh1, hfl, hbd⟩)
  obtain ⟨fl, l, h, rfl, hl1, hh1, hfl, hbd⟩ := h2
  erw [h1]
  rw [Option.bind_some]
  have hs := LF_shr hn hV (i := a)
  have hb2 := shr_bounds (V := Vq qs) hn ha (lo := l) (hi := h) (fun s hs hb _ => hbd s hs hb)
  simp only
  rw [idx_opt, Sh_get ha, Option.bind_some]
  have hc1 : frac_Compare (mkF l) (mkF (shr (Vq qs) n a)) = some (cmpQ l (shr (Vq qs) n a)) := Compare_f (by unfold Lmax; omega)
  have hc2 : frac_Compare (mkF (shr (Vq qs) n a)) (mkF h) = some (cmpQ (shr (Vq qs) n a) h) := Compare_f (by unfold Lmax; omega)
  have hq1 : ∀ {x y : Rat}, x ≤ y → decide (cmpQ x y > 0) = false := fun {x y} hxy => by
    unfold cmpQ
    split
    · decide
    · rw [if_neg (by grind)]; decide
  erw [hc1]
  rw [Option.bind_some, hq1 hb2.1, if_neg (by decide)]
  erw [hc2]
  rw [Option.bind_some, hq1 hb2.2, Option.bind_some, if_neg (by decide), if_true]
  cases fl with
  | false => rfl
  | true =>
    rw [if_neg (by decide), idx_opt, Sh_get hb, Option.bind_some, r05_same_mk (by unfold Lmax; omega), Option.bind_some]
    have := shr_swap (V := Vq qs) (U := Vq qs) hn ha hb (swap_same hn ha hb (hfl rfl)) ha
    rw [this]
    unfold tau
    rw [if_pos rfl, decide_eq_true rfl]
end Go.Proofs.Ytoclpeomlofcjaa.P
