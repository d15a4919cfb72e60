/- The law of all orders. -/
import Derived.Test.YtoclpeomlofcjaaHj
namespace Go.Proofs.Ytoclpeomlofcjaa.P
open Go.RowKit
set_option linter.unusedSimpArgs false
set_option linter.unusedVariables false

def bitE (s x : Int) : Option Int := (shrI .i64 s x).bind fun x10 => some (bitI .and .i64 x10 1)
theorem bitE_all : ((List.range 32).all fun s => (List.range 5).all fun a => bitE (s : Int) (a : Int) == some (if s.testBit a then 1 else 0) && (s.testBit a || bitI .or .i64 (s : Int) ((2 ^ a : Nat) : Int) == ((s + 2 ^ a : Nat) : Int))) = true := by decide +kernel
theorem bitE_fact {s a : Nat} (hs : s < 32) (ha : a < 5) : (∃ x, shrI .i64 (s : Int) (a : Int) = some x ∧ bitI .and .i64 x 1 = (if s.testBit a then 1 else 0)) ∧ (s.testBit a = false → bitI .or .i64 (s : Int) ((2 ^ a : Nat) : Int) = ((s + 2 ^ a : Nat) : Int)) := by
  have h := bitE_all
  simp only [List.all_eq_true, List.mem_range, beq_iff_eq, Bool.and_eq_true, Bool.or_eq_true] at h
  have h := h s hs a ha
  refine ⟨?_, fun hb => h.2.resolve_left (by rw [hb]; decide)⟩
  have h := h.1
  unfold bitE at h
  cases hx : shrI .i64 (s : Int) (a : Int) with
  | none => rw [hx] at h; cases h
  | some x => rw [hx] at h; exact ⟨x, rfl, Option.some.inj h⟩
theorem sumI_le {n K : Nat} {f : Nat → Nat} (h : ∀ i, i < n → f i ≤ K) : sumI n f ≤ n * K := by
  induction n with
  | zero => simp [sumI]
  | succ n ih =>
    have h1 := ih (fun i hi => h i (by omega))
    have h2 := h n (by omega)
    rw [sumI, Nat.succ_mul]
    omega

section
variable {n a : Nat} {qs : List Rat}
theorem orders_loop (hn : n ≤ 5) (ha : a < n) (hl : qs.length = 2 ^ n) (hV : ∀ s, s < 2 ^ n → LF (Vq qs s) ≤ 20) {s : Nat} (hs : s < 2 ^ n) {slf : List TFrac → Int → Int → Int → Option (TFrac × Int)} {T : Nat → Rat} {C : Nat → Nat}
    (hslf : ∀ i, i < n → s.testBit i = false → slf (qs.map mkF) (n : Int) ((s + 2 ^ i : Nat) : Int) (a : Int) = some (mkF (T i), (C i : Int)) ∧ C i ≤ 120 ∧ LF (T i) ≤ 3000000) :
    ∃ r, loopL (l44_orders_L1 (qs.map mkF) (n : Int) (s : Int) (a : Int) slf) (0, 0, (mkF 0).f_P.f_Sign, (mkF 0).f_P.f_Digits, (mkF 0).f_Q.f_Sign, (mkF 0).f_Q.f_Digits) = some r ∧
      r = (((sumI n (fun i => if s.testBit i then 0 else C i) : Nat) : Int), (mkF (sumN n (fun i => if s.testBit i then 0 else T i + (if i = a then (Vq qs (s + 2 ^ a) - Vq qs s) * (C i : Rat) else 0)))).f_P.f_Sign, (mkF (sumN n (fun i => if s.testBit i then 0 else T i + (if i = a then (Vq qs (s + 2 ^ a) - Vq qs s) * (C i : Rat) else 0)))).f_P.f_Digits, (mkF (sumN n (fun i => if s.testBit i then 0 else T i + (if i = a then (Vq qs (s + 2 ^ a) - Vq qs s) * (C i : Rat) else 0)))).f_Q.f_Sign, (mkF (sumN n (fun i => if s.testBit i then 0 else T i + (if i = a then (Vq qs (s + 2 ^ a) - Vq qs s) * (C i : Rat) else 0)))).f_Q.f_Digits) := by
  have h32 := pow32 hn
  have hL : (qs.map mkF).length = 2 ^ n := by simpa using hl
  have hX : ∀ i, i < n → s.testBit i = false → LF (if i = a then (Vq qs (s + 2 ^ a) - Vq qs s) * (C i : Rat) else 0) ≤ 42 := fun i hi hb => by
    by_cases hia : i = a
    · subst hia
      have hc := (clear2 hn hs).2.2 i hi hb
      rw [if_pos rfl]
      have h4 := LF_mul (Vq qs (s + 2 ^ i) - Vq qs s) (C i : Rat)
      have h5 := LF_sub (Vq qs (s + 2 ^ i)) (Vq qs s)
      have h6 := hV _ hc.1
      have h7 := hV _ hs
      have h8 := (hslf i hi hb).2.1
      have h9 := LF_int (n := (C i : Int)) (by omega)
      rw [Rat.intCast_natCast] at h9
      omega
    · rw [if_neg hia]; have := LF_zero; omega
  have hT : ∀ i, i < n → LF (if s.testBit i then 0 else T i + (if i = a then (Vq qs (s + 2 ^ a) - Vq qs s) * (C i : Rat) else 0)) ≤ 3000043 := fun i hi => by
    by_cases hb : s.testBit i = true
    · rw [if_pos hb]; have := LF_zero; omega
    · have hb : s.testBit i = false := by simpa using hb
      rw [if_neg (by rw [hb]; decide)]
      have h1 := LF_add (T i) (if i = a then (Vq qs (s + 2 ^ a) - Vq qs s) * (C i : Rat) else 0)
      have h2 := hX i hi hb
      have h3 := (hslf i hi hb).2.2
      omega
  have hLF : ∀ i, i ≤ n → LF (sumN i (fun i => if s.testBit i then 0 else T i + (if i = a then (Vq qs (s + 2 ^ a) - Vq qs s) * (C i : Rat) else 0))) ≤ 20000000 := fun i hi => by
    have h1 := LF_sumN (n := i) (K := 3000043) (x0 := 0) (fun j hj => hT j (by omega))
    rw [Rat.zero_add] at h1
    have h2 : i * (3000043 + 1) ≤ 5 * (3000043 + 1) := Nat.mul_le_mul_right _ (by omega)
    have h3 := LF_zero
    omega
  have hC : ∀ i, i ≤ n → sumI i (fun i => if s.testBit i then 0 else C i) ≤ 600 := fun i hi => by
    have h1 := sumI_le (n := i) (K := 120) (f := fun i => if s.testBit i then 0 else C i) (fun j hj => by
      by_cases hb : s.testBit j = true
      · rw [if_pos hb]; omega
      · rw [if_neg hb]; exact (hslf j (by omega) (by simpa using hb)).2.1)
    omega
  refine loop_nat (I := fun i st => st = (((sumI i (fun i => if s.testBit i then 0 else C i) : Nat) : Int), (i : Int), (mkF (sumN i (fun i => if s.testBit i then 0 else T i + (if i = a then (Vq qs (s + 2 ^ a) - Vq qs s) * (C i : Rat) else 0)))).f_P.f_Sign, (mkF (sumN i (fun i => if s.testBit i then 0 else T i + (if i = a then (Vq qs (s + 2 ^ a) - Vq qs s) * (C i : Rat) else 0)))).f_P.f_Digits, (mkF (sumN i (fun i => if s.testBit i then 0 else T i + (if i = a then (Vq qs (s + 2 ^ a) - Vq qs s) * (C i : Rat) else 0)))).f_Q.f_Sign, (mkF (sumN i (fun i => if s.testBit i then 0 else T i + (if i = a then (Vq qs (s + 2 ^ a) - Vq qs s) * (C i : Rat) else 0)))).f_Q.f_Digits)) n _ rfl (lenFU (by omega)) ?_
  rintro i st hi rfl
  simp only [l44_orders_L1]
  by_cases hin : i < n
  · left
    refine ⟨hin, ?_⟩
    have e3 : IntKind.i64.wrap ((i : Int) + 1) = ((i + 1 : Nat) : Int) := by rw [w64 (by omega)]; omega
    obtain ⟨⟨x, ex, ex'⟩, ho⟩ := bitE_fact (s := s) (a := i) (by omega) (by omega)
    rw [if_pos (by simpa using hin), ex, Option.bind_some, ex', e3]
    by_cases hb : s.testBit i = true
    · rw [if_pos hb, if_pos (by decide)]
      refine ⟨_, rfl, ?_⟩
      simp only [sumI, sumN]
      rw [if_pos hb, if_pos hb, Rat.add_zero]
      rfl
    · have hb : s.testBit i = false := by simpa using hb
      have hS := hslf i hin hb
      have hc := (clear2 hn hs).2.2 i hin hb
      have hXi := hX i hin hb
      have hLi := hLF i hi
      have hTi := hT i hin
      have hCi := hC i hi
      rw [if_neg (show ¬ (s.testBit i = true) by rw [hb]; decide)] at hTi
      rw [if_neg (show ¬ (s.testBit i = true) by rw [hb]; decide), if_neg (by decide), shl1 i (by omega), Option.bind_some, ho hb, hS.1, Option.bind_some]
      have hw : IntKind.i64.wrap (((sumI i (fun i => if s.testBit i then 0 else C i) : Nat) : Int) + ((C i : Nat) : Int)) = ((sumI (i + 1) (fun i => if s.testBit i then 0 else C i) : Nat) : Int) := by
        rw [w64 (by omega)]
        simp only [sumI]
        rw [if_neg (show ¬ (s.testBit i = true) by rw [hb]; decide)]
        omega
      have hsum : sumN (i + 1) (fun i => if s.testBit i then 0 else T i + (if i = a then (Vq qs (s + 2 ^ a) - Vq qs s) * (C i : Rat) else 0)) = sumN i (fun i => if s.testBit i then 0 else T i + (if i = a then (Vq qs (s + 2 ^ a) - Vq qs s) * (C i : Rat) else 0)) + (T i + (if i = a then (Vq qs (s + 2 ^ a) - Vq qs s) * (C i : Rat) else 0)) := by
        simp only [sumN]
        rw [if_neg (show ¬ (s.testBit i = true) by rw [hb]; decide)]
      have hadd : frac_Add (mkF (sumN i (fun i => if s.testBit i then 0 else T i + (if i = a then (Vq qs (s + 2 ^ a) - Vq qs s) * (C i : Rat) else 0)))) (mkF (T i + (if i = a then (Vq qs (s + 2 ^ a) - Vq qs s) * (C i : Rat) else 0))) = some (mkF (sumN (i + 1) (fun i => if s.testBit i then 0 else T i + (if i = a then (Vq qs (s + 2 ^ a) - Vq qs s) * (C i : Rat) else 0))), 0) := by
        rw [hsum]
        exact Add_f (by unfold Lmax; omega)
      have hin2 : (if (i : Int) == (a : Int) then
          (idx (qs.map mkF) ((s + 2 ^ i : Nat) : Int)).bind fun x31 =>
          (idx (qs.map mkF) (s : Int)).bind fun x32 =>
          (frac_Sub x31 x32).bind fun r33 =>
          (r05_Int ((C i : Nat) : Int)).bind fun r34 =>
          (frac_Mul r33.1 r34).bind fun r35 =>
          (frac_Add (mkF (T i)) r35.1).bind fun r36 =>
          some (r36.1.f_P.f_Sign, r36.1.f_P.f_Digits, r36.1.f_Q.f_Sign, r36.1.f_Q.f_Digits)
        else
          some ((mkF (T i)).f_P.f_Sign, (mkF (T i)).f_P.f_Digits, (mkF (T i)).f_Q.f_Sign, (mkF (T i)).f_Q.f_Digits)) = some ((mkF (T i + (if i = a then (Vq qs (s + 2 ^ a) - Vq qs s) * (C i : Rat) else 0))).f_P.f_Sign, (mkF (T i + (if i = a then (Vq qs (s + 2 ^ a) - Vq qs s) * (C i : Rat) else 0))).f_P.f_Digits, (mkF (T i + (if i = a then (Vq qs (s + 2 ^ a) - Vq qs s) * (C i : Rat) else 0))).f_Q.f_Sign, (mkF (T i + (if i = a then (Vq qs (s + 2 ^ a) - Vq qs s) * (C i : Rat) else 0))).f_Q.f_Digits) := by
        by_cases hia : i = a
        · subst hia
          rw [if_pos rfl] at hXi
          have h5 := LF_sub (Vq qs (s + 2 ^ i)) (Vq qs s)
          have h6 := hV _ hc.1
          have h7 := hV _ hs
          have h9 := LF_int (n := (C i : Int)) (by omega)
          have h10 := hS.2.2
          rw [if_pos (by rw [beq_self_eq_true]), idx_opt, Vq_get (by omega), Option.bind_some, idx_opt, Vq_get (by omega), Option.bind_some, Sub_f (by unfold Lmax; omega), Option.bind_some, Int5 (by omega), Option.bind_some, Mul_f (by unfold Lmax; omega), Option.bind_some, Rat.intCast_natCast, Add_f (by unfold Lmax; omega), Option.bind_some, if_pos rfl]
        · rw [if_neg (by rw [beq_iff_eq]; omega), if_neg hia, Rat.add_zero]
      erw [hin2]
      rw [Option.bind_some]
      simp only
      exact ⟨_, by erw [hadd]; rfl, by rw [← hw]⟩
  · right
    have : i = n := by omega
    subst this
    exact ⟨_, by rw [if_neg (by simp)], rfl⟩

theorem orders_eq (hn : n ≤ 5) (ha : a < n) (hl : qs.length = 2 ^ n) (hV : ∀ s, s < 2 ^ n → LF (Vq qs s) ≤ 20) : ∀ (k s fuel : Nat), s < 2 ^ n → cnt n s + k = n → l44_orders (k + 1 + fuel) (qs.map mkF) (n : Int) (s : Int) (a : Int) = some (mkF (tO (Vq qs) n a k s), ((cO n k s : Nat) : Int)) := by
  intro k
  induction k with
  | zero =>
    intro s fuel hs hk
    have hfull := (clear2 hn hs).1 (by omega)
    obtain ⟨r, h1, h2⟩ := orders_loop hn ha hl hV hs (slf := l44_orders fuel) (T := fun _ => 0) (C := fun _ => 0) (fun i hi hb => by rw [hfull i hi] at hb; cases hb)
    have e1 : sumI n (fun i => if s.testBit i then 0 else 0) = 0 := by
      have := sumI_le (n := n) (K := 0) (f := fun i => if s.testBit i then 0 else 0) (fun i _ => by split <;> omega)
      omega
    have e2 : sumN n (fun i => if s.testBit i then 0 else (0 : Rat) + (if i = a then (Vq qs (s + 2 ^ a) - Vq qs s) * ((0 : Nat) : Rat) else 0)) = 0 := by
      rw [sumN_congr (g := fun _ => 0 * 0) (fun i hi => by rw [if_pos (hfull i hi)]; grind), sumN_mul]
      grind
    rw [e1, e2] at h2
    rw [show 0 + 1 + fuel = fuel + 1 by omega]
    show l44_orders_B (l44_orders fuel) _ _ _ _ = _
    unfold l44_orders_B
    rw [Int5 (by omega), Option.bind_some]
    erw [h1]
    rw [h2]
    rfl
  | succ k ih =>
    intro s fuel hs hk
    have hpos := (clear2 hn hs).2.1
    rw [show n - cnt n s = k + 1 by omega] at hpos
    obtain ⟨r, h1, h2⟩ := orders_loop hn ha hl hV hs (slf := l44_orders (k + 1 + fuel)) (T := fun i => tO (Vq qs) n a k (s + 2 ^ i)) (C := fun i => cO n k (s + 2 ^ i)) (fun i hi hb => by
      have hc := (clear2 hn hs).2.2 i hi hb
      have h8 := (clear2 hn hc.1).2.1.2
      rw [show n - cnt n (s + 2 ^ i) = k by omega] at h8
      refine ⟨ih _ _ hc.1 (by omega), h8, ?_⟩
      have := LF_tO hn ha hV k (s + 2 ^ i) hc.1 (by omega)
      have h6 : 6 ^ k ≤ 6 ^ 5 := Nat.pow_le_pow_right (by decide) (by omega)
      omega)
    rw [show k + 1 + 1 + fuel = (k + 1 + fuel) + 1 by omega]
    show l44_orders_B (l44_orders (k + 1 + fuel)) _ _ _ _ = _
    unfold l44_orders_B
    rw [Int5 (by omega), Option.bind_some]
    erw [h1]
    rw [h2, Option.bind_some]
    simp only
    have e : sumI n (fun i => if s.testBit i then 0 else cO n k (s + 2 ^ i)) = cO n (k + 1) s := rfl
    rw [e, if_neg (by rw [beq_iff_eq]; omega)]
    rfl
end

theorem BridgeOrders_eq (a0 : List TFrac) (a1 : Int) (h0 : a0.length ≤ 17592186044416) (g0 : ∀ f ∈ a0, FitF f) (h3 : (Lit.int .u8 a1).wf = true) :
    l44_BridgeOrders a0 a1 = some true := by
  obtain ⟨r, e1, e2⟩ := edits_eq h0 g0
  unfold l44_BridgeOrders
  rw [small_eq, Option.bind_some, e1, Option.bind_some]
  by_cases hr : r < 1
  · rw [if_pos (decide_eq_true hr)]
  rw [if_neg (by simpa using hr)]
  rcases e2 with hneg | ⟨n, hn, rfl, qs, rfl, hl, hq⟩
  · omega
  have h32 := pow32 hn
  obtain ⟨a, ha, ea⟩ := mod_small h3 (n := n) (by omega)
  have hq20 : ∀ q ∈ qs, LF q ≤ 20 := fun q h => Nat.le_trans (hq q h) (by decide)
  have hV : ∀ s, s < 2 ^ n → LF (Vq qs s) ≤ 20 := fun s hs => Vq_LF hq20 (by omega)
  have hc0 : cnt n 0 = 0 := by
    have : ∀ n, n < 6 → cnt n 0 = 0 := by decide +kernel
    exact this n (by omega)
  have hord := orders_eq hn ha hl hV n 0 (99 - n) h32.2 (by omega)
  rw [show n + 1 + (99 - n) = 100 by omega] at hord
  have hcO := (clear2 hn h32.2).2.1
  rw [hc0, Nat.sub_zero] at hcO
  have hLt := LF_tO hn ha hV n 0 h32.2 (by omega)
  have h6 : 6 ^ n ≤ 6 ^ 5 := Nat.pow_le_pow_right (by decide) hn
  have h9 := LF_int (n := (cO n n 0 : Int)) (by omega)
  have hne : ((cO n n 0 : Nat) : Rat) ≠ 0 := by
    intro h
    have h2 : ((cO n n 0 : Nat) : Rat) = ((0 : Nat) : Rat) := h
    rw [Rat.natCast_inj] at h2
    omega
  rw [ea, Option.bind_some, Shares_eq hn hl hq20, Option.bind_some]
  erw [hord]
  rw [Option.bind_some, Int5 (by omega), Option.bind_some]
  simp only [Sh_len]
  rw [Div_f (by unfold Lmax; omega) (by rw [Rat.intCast_natCast]; exact hne), Option.bind_some, Rat.intCast_natCast, ← shr_orders hn ha]
  simp only [beq_self_eq_true, if_true]
  have ew : IntKind.i64.wrap ((n : Int) - 1) = ((n - 1 : Nat) : Int) := by rw [w64 (by omega)]; omega
  rw [ew, if_neg (by omega), idx_opt, Sh_get ha, Option.bind_some, r05_same_mk (by have := LF_shr hn hV (i := a); unfold Lmax; omega), Option.bind_some, decide_eq_true rfl]
end Go.Proofs.Ytoclpeomlofcjaa.P
