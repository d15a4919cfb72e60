/- Shares, by all orders: the mathematics. -/
import Derived.Test.YtoclpeomlofcjaaHx
import Derived.WalkKit
namespace Go.Proofs.Ytoclpeomlofcjaa.P
open Go.RowKit
set_option linter.unusedSimpArgs false
set_option linter.unusedVariables false

def sumI : Nat → (Nat → Nat) → Nat
  | 0, _ => 0
  | n + 1, f => sumI n f + f n
/-- How many orders there are from the set s on, k to come. -/
def cO (n : Nat) : Nat → Nat → Nat
  | 0, _ => 1
  | k + 1, s => sumI n (fun i => if s.testBit i then 0 else cO n k (s + 2 ^ i))
/-- What a adds, all orders together. -/
def tO (V : Nat → Rat) (n a : Nat) : Nat → Nat → Rat
  | 0, _ => 0
  | k + 1, s => sumN n (fun i => if s.testBit i then 0 else tO V n a k (s + 2 ^ i) + (if i = a then (V (s + 2 ^ a) - V s) * (cO n k (s + 2 ^ i) : Rat) else 0))

/-! Linear in the values. -/
def un (j s : Nat) : Rat := if s = j then 1 else 0
def Lin (N : Nat) (F : (Nat → Rat) → Rat) : Prop := ∀ V, F V = sumN N (fun j => V j * F (un j))
theorem Lin.val {N s : Nat} (h : s < N) : Lin N (fun V => V s) := fun V => by
  show V s = sumN N (fun j => V j * un j s)
  rw [sumN_split _ h]
  rw [sumN_congr (f := fun j => if j = s then 0 else V j * un j s) (g := fun _ => 0 * 0) (fun j _ => by
    by_cases hj : j = s
    · rw [if_pos hj, Rat.mul_zero]
    · rw [if_neg hj]; unfold un; rw [if_neg (fun h => hj h.symm), Rat.mul_zero, Rat.mul_zero]), sumN_mul]
  unfold un
  rw [if_pos rfl]
  grind
theorem Lin.zero {N : Nat} : Lin N (fun _ => 0) := fun V => by
  rw [sumN_congr (g := fun _ => 0 * 0) (fun j _ => by grind), sumN_mul]
  grind
theorem Lin.add {N : Nat} {F G : (Nat → Rat) → Rat} (hF : Lin N F) (hG : Lin N G) : Lin N (fun V => F V + G V) := fun V => by
  show F V + G V = _
  rw [hF V, hG V, ← sumN_add]
  exact sumN_congr fun j _ => by grind
theorem Lin.sub {N : Nat} {F G : (Nat → Rat) → Rat} (hF : Lin N F) (hG : Lin N G) : Lin N (fun V => F V - G V) := fun V => by
  show F V - G V = _
  rw [hF V, hG V, ← sumN_sub]
  exact sumN_congr fun j _ => by grind
theorem Lin.mul {N : Nat} {F : (Nat → Rat) → Rat} (hF : Lin N F) (c : Rat) : Lin N (fun V => F V * c) := fun V => by
  show F V * c = _
  rw [hF V, Rat.mul_comm, ← sumN_mul]
  exact sumN_congr fun j _ => by grind
theorem Lin.div {N : Nat} {F : (Nat → Rat) → Rat} (hF : Lin N F) (c : Rat) : Lin N (fun V => F V / c) := by
  have := hF.mul c⁻¹
  simpa only [Rat.div_def] using this
theorem Lin.sum {N : Nat} (n : Nat) {F : Nat → (Nat → Rat) → Rat} (hF : ∀ i, i < n → Lin N (F i)) : Lin N (fun V => sumN n (fun i => F i V)) := by
  induction n with
  | zero => exact Lin.zero
  | succ n ih => exact (ih (fun i hi => hF i (by omega))).add (hF n (by omega))
theorem Lin.eq {N : Nat} {F G : (Nat → Rat) → Rat} (hF : Lin N F) (hG : Lin N G) (h : ∀ j, j < N → F (un j) = G (un j)) (V : Nat → Rat) : F V = G V := by
  rw [hF V, hG V]
  exact sumN_congr fun j hj => by rw [h j hj]

theorem lin_pot {n : Nat} (k : Nat) : ∀ s, s < 2 ^ n → Lin (2 ^ n) (fun V => potF V n k s) := by
  induction k with
  | zero => intro s hs; exact Lin.zero
  | succ k ih =>
    intro s hs
    simp only [potF]
    by_cases h0 : s = 0
    · simp only [if_pos h0]; exact Lin.zero
    · simp only [if_neg h0]
      refine Lin.div (Lin.add ((Lin.val hs).sub (Lin.val (Nat.pow_pos (by decide)))) (Lin.sum n fun i hi => ?_)) _
      by_cases hb : s.testBit i = true
      · simp only [if_pos hb]; exact ih _ (Nat.lt_of_le_of_lt (Nat.sub_le _ _) hs)
      · simp only [if_neg hb]; exact Lin.zero
theorem lin_shr {n : Nat} (i : Nat) : Lin (2 ^ n) (fun V => shr V n i) := by
  have h := Nat.pow_pos (n := n) (show 0 < 2 by decide)
  have h2 := Nat.sub_le (2 ^ n - 1) (2 ^ i)
  exact Lin.sub (lin_pot 5 _ (by omega)) (lin_pot 5 _ (by omega))

theorem clear2_all : ((List.range 6).all fun n => (List.range (2 ^ n)).all fun s => (cnt n s != n || ((List.range n).all fun a => s.testBit a)) && decide (0 < cO n (n - cnt n s) s) && decide (cO n (n - cnt n s) s ≤ 120) && decide (cnt n s ≤ n) && ((List.range n).all fun a => s.testBit a || (decide (s + 2 ^ a < 2 ^ n) && (cnt n (s + 2 ^ a) == cnt n s + 1)))) = true := by decide +kernel
theorem clear2 {n s : Nat} (hn : n ≤ 5) (hs : s < 2 ^ n) : (cnt n s = n → ∀ a, a < n → s.testBit a = true) ∧ (0 < cO n (n - cnt n s) s ∧ cO n (n - cnt n s) s ≤ 120) ∧ ∀ a, a < n → s.testBit a = false → s + 2 ^ a < 2 ^ n ∧ cnt n (s + 2 ^ a) = cnt n s + 1 := by
  have h := clear2_all
  simp only [List.all_eq_true, List.mem_range, beq_iff_eq, Bool.and_eq_true, Bool.or_eq_true, decide_eq_true_eq, bne_iff_ne, ne_eq] at h
  have h := h n (by omega) s hs
  refine ⟨fun he => h.1.1.1.1.resolve_left (fun hh => hh he), ⟨h.1.1.1.2, h.1.1.2⟩, fun a ha hb => (h.2 a ha).resolve_left (by rw [hb]; decide)⟩

theorem lin_tO {n : Nat} (hn : n ≤ 5) {a : Nat} (ha : a < n) (k : Nat) : ∀ s, s < 2 ^ n → Lin (2 ^ n) (fun V => tO V n a k s) := by
  induction k with
  | zero => intro s hs; exact Lin.zero
  | succ k ih =>
    intro s hs
    simp only [tO]
    refine Lin.sum n fun i hi => ?_
    by_cases hb : s.testBit i = true
    · simp only [if_pos hb]; exact Lin.zero
    · have hc := (clear2 hn hs).2.2 i hi (by simpa using hb)
      simp only [if_neg hb]
      refine Lin.add (ih _ hc.1) ?_
      by_cases hia : i = a
      · subst hia
        simp only [if_true]
        exact Lin.mul ((Lin.val hc.1).sub (Lin.val hs)) _
      · simp only [if_neg hia]; exact Lin.zero

/-! The closed forms at the unit lists. -/
def fct : Nat → Nat
  | 0 => 1
  | n + 1 => (n + 1) * fct n
def harm : Nat → Rat
  | 0 => 0
  | n + 1 => harm n + 1 / ((n + 1 : Nat) : Rat)
def cW (n j s : Nat) : Rat := if j = 0 then - harm (cnt n s) else if Nat.land j s = j then ((fct (cnt n j - 1) * fct (cnt n s - cnt n j) : Nat) : Rat) / ((fct (cnt n s) : Nat) : Rat) else 0
def cX (n a j s : Nat) : Rat := if s.testBit a then 0 else if j.testBit a then (if Nat.land s (j - 2 ^ a) = s then ((fct (cnt n j - 1 - cnt n s) * fct (n - cnt n j) : Nat) : Rat) else 0) else (if Nat.land s j = s then - ((fct (cnt n j - cnt n s) * fct (n - cnt n j - 1) : Nat) : Rat) else 0)
def chkW (n j s : Nat) : Bool := if s = 0 then decide (cW n j s = 0) else decide (sumN n (fun i => if s.testBit i then cW n j s - cW n j (s - 2 ^ i) else 0) = un j s - un j 0)
def chkX (n a j s : Nat) : Bool := if cnt n s = n then true else decide (cX n a j s = sumN n (fun i => if s.testBit i then 0 else cX n a j (s + 2 ^ i) + (if i = a then (un j (s + 2 ^ a) - un j s) * (fct (n - cnt n s - 1) : Rat) else 0)))
def chkE (n a j : Nat) : Bool := decide (cW n j (2 ^ n - 1) - cW n j (2 ^ n - 1 - 2 ^ a) = cX n a j 0 / (fct n : Rat))
theorem chkW_all : ((List.range 6).all fun n => (List.range (2 ^ n)).all fun j => (List.range (2 ^ n)).all fun s => chkW n j s) = true := by decide +kernel
theorem chkX_all : ((List.range 6).all fun n => (List.range n).all fun a => (List.range (2 ^ n)).all fun j => (List.range (2 ^ n)).all fun s => chkX n a j s) = true := by decide +kernel
theorem chkE_all : ((List.range 6).all fun n => (List.range n).all fun a => (List.range (2 ^ n)).all fun j => chkE n a j) = true := by decide +kernel
theorem chkC_all : ((List.range 6).all fun n => cnt n 0 == 0 && (List.range (2 ^ n)).all fun s => cO n (n - cnt n s) s == fct (n - cnt n s)) = true := by decide +kernel
theorem cO_fct {n k s : Nat} (hn : n ≤ 5) (hs : s < 2 ^ n) (hk : cnt n s + k = n) : cO n k s = fct k := by
  have h := chkC_all
  simp only [List.all_eq_true, List.mem_range, beq_iff_eq, Bool.and_eq_true] at h
  have h := (h n (by omega)).2 s hs
  rwa [show n - cnt n s = k by omega] at h
theorem cnt_zero {n : Nat} (hn : n ≤ 5) : cnt n 0 = 0 := by
  have h := chkC_all
  simp only [List.all_eq_true, List.mem_range, beq_iff_eq, Bool.and_eq_true] at h
  exact (h n (by omega)).1
theorem pot_W {n j : Nat} (hn : n ≤ 5) (hj : j < 2 ^ n) : ∀ s, s < 2 ^ n → cW n j s = pot (un j) n s := by
  have h := chkW_all
  simp only [List.all_eq_true, List.mem_range] at h
  have h := h n (by omega) j hj
  refine pot_unique hn (p := cW n j) ?_ fun s hs h0 => ?_
  · have := h 0 (Nat.pow_pos (by decide))
    unfold chkW at this
    rw [if_pos rfl] at this
    exact of_decide_eq_true this
  · have := h s hs
    unfold chkW at this
    rw [if_neg h0] at this
    exact of_decide_eq_true this
theorem tO_X {n a j : Nat} (hn : n ≤ 5) (ha : a < n) (hj : j < 2 ^ n) : ∀ k s, s < 2 ^ n → cnt n s + k = n → tO (un j) n a k s = cX n a j s := by
  have h := chkX_all
  simp only [List.all_eq_true, List.mem_range] at h
  have h := h n (by omega) a ha j hj
  intro k
  induction k with
  | zero =>
    intro s hs hk
    rw [tO]
    unfold cX
    rw [if_pos ((clear2 hn hs).1 (by omega) a ha)]
  | succ k ih =>
    intro s hs hk
    have := h s hs
    unfold chkX at this
    rw [if_neg (by omega)] at this
    rw [of_decide_eq_true this, tO]
    refine sumN_congr fun i hi => ?_
    by_cases hb : s.testBit i = true
    · rw [if_pos hb, if_pos hb]
    · have hc := (clear2 hn hs).2.2 i hi (by simpa using hb)
      rw [if_neg hb, if_neg hb, ih _ hc.1 (by omega), cO_fct hn hc.1 (show cnt n (s + 2 ^ i) + k = n by omega), show n - cnt n s - 1 = k by omega]
theorem shr_orders {V : Nat → Rat} {n a : Nat} (hn : n ≤ 5) (ha : a < n) : shr V n a = tO V n a n 0 / (cO n n 0 : Rat) := by
  have hp := Nat.pow_pos (n := n) (show 0 < 2 by decide)
  have h2 := Nat.sub_le (2 ^ n - 1) (2 ^ a)
  refine Lin.eq (F := fun V => shr V n a) (G := fun V => tO V n a n 0 / (cO n n 0 : Rat)) (lin_shr a) ((lin_tO hn ha n 0 hp).div _) (fun j hj => ?_) V
  have h := chkE_all
  simp only [List.all_eq_true, List.mem_range] at h
  have h := of_decide_eq_true (h n (by omega) a ha j hj)
  have hz := cnt_zero hn
  show shr (un j) n a = tO (un j) n a n 0 / (cO n n 0 : Rat)
  unfold shr
  rw [← pot_W hn hj _ (by omega), ← pot_W hn hj _ (by omega), h, tO_X hn ha hj n 0 hp (by omega), cO_fct hn hp (show cnt n 0 + n = n by omega)]

theorem LF_tO {V : Nat → Rat} {n a : Nat} (hn : n ≤ 5) (ha : a < n) (hV : ∀ s, s < 2 ^ n → LF (V s) ≤ 20) : ∀ (k s : Nat), s < 2 ^ n → cnt n s + k = n → LF (tO V n a k s) ≤ 300 * 6 ^ k := by
  intro k
  induction k with
  | zero => intro s hs _; rw [tO]; have := LF_zero; omega
  | succ k ih =>
    intro s hs hk
    rw [tO]
    have hp := Nat.pow_pos (show 0 < 6 by decide) (n := k)
    have hT : ∀ i, i < n → LF (if s.testBit i then 0 else tO V n a k (s + 2 ^ i) + (if i = a then (V (s + 2 ^ a) - V s) * (cO n k (s + 2 ^ i) : Rat) else 0)) ≤ 300 * 6 ^ k + 44 := by
      intro i hi
      by_cases hb : s.testBit i = true
      · rw [if_pos hb]; have := LF_zero; omega
      · have hc := (clear2 hn hs).2.2 i hi (by simpa using hb)
        have h1 := ih (s + 2 ^ i) hc.1 (by omega)
        rw [if_neg hb]
        have h2 := LF_add (tO V n a k (s + 2 ^ i)) (if i = a then (V (s + 2 ^ a) - V s) * (cO n k (s + 2 ^ i) : Rat) else 0)
        have h3 : LF (if i = a then (V (s + 2 ^ a) - V s) * (cO n k (s + 2 ^ i) : Rat) else 0) ≤ 42 := by
          by_cases hia : i = a
          · subst hia
            rw [if_pos rfl]
            have h4 := LF_mul (V (s + 2 ^ i) - V s) (cO n k (s + 2 ^ i) : Rat)
            have h5 := LF_sub (V (s + 2 ^ i)) (V s)
            have h6 := hV _ hc.1
            have h7 := hV _ hs
            have h8 := (clear2 hn hc.1).2.1.2
            rw [show n - cnt n (s + 2 ^ i) = k by omega] at h8
            have h9 := LF_int (n := (cO n k (s + 2 ^ i) : Int)) (by omega)
            rw [Rat.intCast_natCast] at h9
            omega
          · rw [if_neg hia]; have := LF_zero; omega
        omega
    have h1 := LF_sumN (n := n) (K := 300 * 6 ^ k + 44) (x0 := 0) hT
    rw [Rat.zero_add] at h1
    have h2 : n * (300 * 6 ^ k + 44 + 1) ≤ 5 * (300 * 6 ^ k + 44 + 1) := Nat.mul_le_mul_right _ hn
    have h3 := LF_zero
    rw [Nat.pow_succ]
    omega
end Go.Proofs.Ytoclpeomlofcjaa.P
