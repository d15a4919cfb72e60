/- The law of the one who is gone. -/
import Derived.Test.YtoclpeomlofcjaaHf
namespace Go.Proofs.Ytoclpeomlofcjaa.P
open Go.RowKit
set_option linter.unusedSimpArgs false
set_option linter.unusedVariables false

def sk (b i : Nat) : Nat := if i < b then i else i + 1
def ins (b t : Nat) : Nat := (t / 2 ^ b) * 2 ^ (b + 1) + t % 2 ^ b
def low (b a : Nat) : Nat := if b < a then a - 1 else a
def chk2 (m b : Nat) : Bool := ins b 0 == 0 && ins b (2 ^ m - 1) == 2 ^ (m + 1) - 1 - 2 ^ b && ((List.range (2 ^ (m + 1))).filter (fun s => !s.testBit b) == (List.range (2 ^ m)).map (ins b)) &&
  ((List.range (m + 1)).all fun a => a == b || (decide (low b a < m) && ins b (2 ^ m - 1 - 2 ^ (low b a)) == 2 ^ (m + 1) - 1 - 2 ^ b - 2 ^ a)) &&
  ((List.range (2 ^ m)).all fun t => decide (ins b t < 2 ^ (m + 1)) && (t == 0 || ins b t != 0) && !(ins b t).testBit b &&
    ((List.range m).all fun i => (ins b t).testBit (sk b i) == t.testBit i && (!t.testBit i || ins b (t - 2 ^ i) == ins b t - 2 ^ (sk b i))))
theorem chk2_all : ((List.range 5).all fun m => (List.range (m + 1)).all fun b => chk2 m b) = true := by decide +kernel
theorem chk2_of {m b : Nat} (hm : m < 5) (hb : b < m + 1) : chk2 m b = true := List.all_eq_true.1 (List.all_eq_true.1 chk2_all m (List.mem_range.2 hm)) b (List.mem_range.2 hb)
theorem ins_fact {m b : Nat} (hm : m < 5) (hb : b < m + 1) : ins b 0 = 0 ∧ ins b (2 ^ m - 1) = 2 ^ (m + 1) - 1 - 2 ^ b ∧ (List.range (2 ^ (m + 1))).filter (fun s => !s.testBit b) = (List.range (2 ^ m)).map (ins b) ∧
    (∀ a, a < m + 1 → a = b ∨ (low b a < m ∧ ins b (2 ^ m - 1 - 2 ^ (low b a)) = 2 ^ (m + 1) - 1 - 2 ^ b - 2 ^ a)) ∧
    ∀ t, t < 2 ^ m → (ins b t < 2 ^ (m + 1) ∧ (t = 0 ∨ ins b t ≠ 0) ∧ (ins b t).testBit b = false ∧ ∀ i, i < m → (ins b t).testBit (sk b i) = t.testBit i ∧ (t.testBit i = false ∨ ins b (t - 2 ^ i) = ins b t - 2 ^ (sk b i))) := by
  have h := chk2_of hm hb
  simp only [chk2, Bool.and_eq_true, List.all_eq_true, List.mem_range, beq_iff_eq, decide_eq_true_eq, Bool.or_eq_true, bne_iff_ne, ne_eq, Bool.not_eq_true'] at h
  exact ⟨h.1.1.1.1, h.1.1.1.2, h.1.1.2, h.1.2, fun t ht => ⟨(h.2 t ht).1.1.1, (h.2 t ht).1.1.2, (h.2 t ht).1.2, (h.2 t ht).2⟩⟩

theorem sumN_skip {m b : Nat} (f : Nat → Rat) (h : b ≤ m) : sumN (m + 1) f = f b + sumN m (fun i => f (sk b i)) := by
  induction m with
  | zero =>
    have : b = 0 := by omega
    subst this
    simp only [sumN]
    grind
  | succ m ih =>
    by_cases hb : b = m + 1
    · subst hb
      rw [sumN, sumN_congr (n := m + 1) (f := fun i => f (sk (m + 1) i)) (g := f) (fun i hi => by unfold sk; rw [if_pos hi])]
      grind
    · rw [sumN, ih (by omega), sumN]
      have : sk b m = m + 1 := by unfold sk; rw [if_neg (by omega)]
      rw [this]
      grind
section
variable {V U : Nat → Rat} {m : Nat}
theorem pot_ins (hm : m < 5) {b : Nat} (hb : b < m + 1) (h : ∀ t, t < 2 ^ m → U t = V (ins b t)) : ∀ t, t < 2 ^ m → pot U m t = pot V (m + 1) (ins b t) := by
  have h32 := pow32 (n := m) (by omega)
  have f1 := ins_fact hm hb
  intro t ht
  refine (pot_unique (n := m) (by omega) (p := fun t => pot V (m + 1) (ins b t)) (by simp only [f1.1, pot_zero]) (fun s hs h0 => ?_) t ht).symm
  have f2 := f1.2.2.2.2 s hs
  have hne : ins b s ≠ 0 := f2.2.1.resolve_left h0
  rw [h s hs, h 0 h32.2, f1.1, ← pot_eq (V := V) (n := m + 1) (by omega) f2.1 hne]
  rw [sumN_skip (b := b) _ (by omega), f2.2.2.1, if_neg (by decide), Rat.zero_add]
  refine sumN_congr fun i hi => ?_
  have := f2.2.2.2 i hi
  simp only [this.1]
  by_cases hbt : s.testBit i = true
  · rw [if_pos hbt, if_pos hbt, this.2.resolve_left (by rw [hbt]; decide)]
  · rw [if_neg hbt, if_neg hbt]
theorem shr_ins (hm : m < 5) {a b : Nat} (ha : a < m + 1) (hb : b < m + 1) (hab : a ≠ b) (h : ∀ t, t < 2 ^ m → U t = V (ins b t)) :
    shr U m (low b a) = pot V (m + 1) (2 ^ (m + 1) - 1 - 2 ^ b) - pot V (m + 1) (2 ^ (m + 1) - 1 - 2 ^ b - 2 ^ a) := by
  have h32 := pow32 (n := m) (by omega)
  have f1 := ins_fact hm hb
  unfold shr
  rw [pot_ins hm hb h _ (by omega), pot_ins hm hb h _ (lt1 (by omega) _), f1.2.1, ((f1.2.2.2.1 a ha).resolve_left hab).2]
end

def bitC (s x : Int) : Option Bool := (shrI .i64 s x).bind fun x10 => some (bitI .and .i64 x10 1 == 0)
theorem bitC_all : ((List.range 32).all fun s => (List.range 5).all fun a => bitC (s : Int) (a : Int) == some (!s.testBit a)) = true := by decide +kernel
theorem bitC_fact {s a : Nat} (hs : s < 32) (ha : a < 5) : ∃ x, shrI .i64 (s : Int) (a : Int) = some x ∧ (bitI .and .i64 x 1 == 0) = !s.testBit a := by
  have h := bitC_all
  simp only [List.all_eq_true, List.mem_range, beq_iff_eq] at h
  have h := h s hs a ha
  unfold bitC at h
  cases hx : shrI .i64 (s : Int) (a : Int) with
  | none => rw [hx] at h; cases h
  | some x => rw [hx] at h; exact ⟨x, rfl, Option.some.inj h⟩

theorem without_eq {qs : List Rat} {m b : Nat} (hm : m < 5) (hb : b < m + 1) (hl : qs.length = 2 ^ (m + 1)) : l44_without (qs.map mkF) (b : Int) = some (((List.range (2 ^ m)).map (fun t => Vq qs (ins b t))).map mkF) := by
  have h32 := pow32 (n := m + 1) (by omega)
  have hL : (qs.map mkF).length = 2 ^ (m + 1) := by simpa using hl
  unfold l44_without
  obtain ⟨r, h1, h2⟩ := loop_nat (body := l44_without_L1 (qs.map mkF) (b : Int))
    (I := fun i st => st = ((i : Int), ((List.range i).filter (fun s => !s.testBit b)).map (fun s => mkF (Vq qs s)))) (2 ^ (m + 1)) (fun r => r = ((List.range (2 ^ (m + 1))).filter (fun s => !s.testBit b)).map (fun s => mkF (Vq qs s)))
    (s := (0, [])) rfl (lenFU (by omega)) (by
      rintro i st hi rfl
      simp only [l44_without_L1]
      rw [hL]
      by_cases hin : i < 2 ^ (m + 1)
      · left
        refine ⟨hin, ?_⟩
        obtain ⟨x, e1, e2⟩ := bitC_fact (s := i) (a := b) (by omega) (by omega)
        rw [if_pos (decide_eq_true (by omega)), e1, Option.bind_some, e2]
        have e3 : IntKind.i64.wrap ((i : Int) + 1) = ((i + 1 : Nat) : Int) := by rw [w64 (by omega)]; omega
        by_cases hbt : i.testBit b = true
        · rw [if_neg (by simp [hbt])]
          refine ⟨_, rfl, ?_⟩
          rw [e3, List.range_succ, List.filter_append]
          simp [hbt]
        · rw [if_pos (by simp [hbt]), idx_opt, Vq_get (by omega), Option.bind_some, app64 (by
            have := List.length_filter_le (fun s => !s.testBit b) (List.range i)
            simp only [List.length_map, List.length_range] at *
            omega), Option.bind_some]
          refine ⟨_, rfl, ?_⟩
          rw [e3, List.range_succ, List.filter_append]
          simp [hbt]
      · right
        have : i = 2 ^ (m + 1) := by omega
        subst this
        exact ⟨_, by rw [if_neg (by simp)], rfl⟩)
  rw [h1, h2, (ins_fact hm hb).2.2.1]
  simp

theorem BridgeLoses_eq (a0 : List TFrac) (a1 a2 : Int) (h0 : a0.length ≤ 17592186044416) (g0 : ∀ f ∈ a0, FitF f) (h3 : (Lit.int .u8 a1).wf = true) (h4 : (Lit.int .u8 a2).wf = true) :
    l44_BridgeLoses a0 a1 a2 = some true := by
  obtain ⟨r, e1, e2⟩ := edits_eq h0 g0
  unfold l44_BridgeLoses
  rw [small_eq, Option.bind_some, e1, Option.bind_some]
  by_cases hr : r < 2
  · rw [if_pos (decide_eq_true hr)]
  rw [if_neg (by simpa using hr)]
  rcases e2 with hneg | ⟨n, hn, rfl, qs, rfl, hl, hq⟩
  · omega
  obtain ⟨m, rfl⟩ : ∃ m, n = m + 1 := ⟨n - 1, by omega⟩
  have hm : m < 5 := by omega
  have h32 := pow32 hn
  obtain ⟨a, ha, ea⟩ := mod_small h3 (n := m + 1) (by omega)
  obtain ⟨b, hb, eb⟩ := mod_small h4 (n := m + 1) (by omega)
  rw [ea, Option.bind_some, eb, Option.bind_some]
  by_cases hab : a = b
  · rw [if_pos (by rw [hab, beq_self_eq_true])]
  rw [if_neg (by rw [beq_iff_eq]; omega)]
  have hq20 : ∀ q ∈ qs, LF q ≤ 20 := fun q h => Nat.le_trans (hq q h) (by decide)
  have hV : ∀ s, s < 2 ^ (m + 1) → LF (Vq qs s) ≤ 20 := fun s hs => Vq_LF hq20 (by omega)
  have f1 := ins_fact hm ha
  have f2 := ins_fact hm hb
  have hU : ∀ c, ∀ t, t < 2 ^ m → Vq ((List.range (2 ^ m)).map (fun t => Vq qs (ins c t))) t = Vq qs (ins c t) := fun c t ht => by
    unfold Vq
    rw [List.getD_eq_getElem?_getD, List.getElem?_map, List.getElem?_range ht]
    rfl
  have hUq : ∀ c, c < m + 1 → ∀ q ∈ (List.range (2 ^ m)).map (fun t => Vq qs (ins c t)), LF q ≤ 20 := fun c hc q hq => by
    obtain ⟨t, ht, rfl⟩ := List.mem_map.1 hq
    exact hV _ ((ins_fact hm hc).2.2.2.2 t (by simpa using ht)).1
  have hUl : ∀ c, ((List.range (2 ^ m)).map (fun t => Vq qs (ins c t))).length = 2 ^ m := fun c => by simp
  have hUv : ∀ c, c < m + 1 → ∀ s, s < 2 ^ m → LF (Vq ((List.range (2 ^ m)).map (fun t => Vq qs (ins c t))) s) ≤ 20 := fun c hc s hs => Vq_LF (hUq c hc) (by rw [hUl]; exact hs)
  have ew : IntKind.i64.wrap (((m + 1 : Nat) : Int) - 1) = (m : Int) := by rw [w64 (by omega)]; omega
  rw [Shares_eq hn hl hq20, Option.bind_some, without_eq hm hb hl, Option.bind_some, Shares_eq (n := m) (by omega) (hUl b) (hUq b hb), Option.bind_some, without_eq hm ha hl, Option.bind_some, Shares_eq (n := m) (by omega) (hUl a) (hUq a ha), Option.bind_some]
  simp only [Sh_len, bne_self_eq_false, Bool.false_eq_true, if_false, Option.bind_some, ew]
  have lo : ∀ x y : Nat, x < m + 1 → y < m + 1 → (if decide ((y : Int) < (x : Int)) = true then some (IntKind.i64.wrap ((x : Int) - 1)) else some (x : Int)) = some ((low y x : Nat) : Int) := fun x y hx hy => by
    unfold low
    by_cases h : y < x
    · rw [if_pos (decide_eq_true (by omega)), if_pos h, w64 (by omega)]; congr 1; omega
    · rw [if_neg (by rw [decide_eq_true_eq]; omega), if_neg h]
  rw [lo a b ha hb, lo b a hb ha, Option.bind_some, Option.bind_some]
  have s1 := LF_shr hn hV (i := a)
  have s2 := LF_shr hn hV (i := b)
  have s3 := LF_shr (n := m) (by omega) (hUv b hb) (i := low b a)
  have s4 := LF_shr (n := m) (by omega) (hUv a ha) (i := low a b)
  rw [idx_opt, Sh_get ha, Option.bind_some, idx_opt, Sh_get ((f2.2.2.2.1 a ha).resolve_left hab).1, Option.bind_some, Sub_f (by unfold Lmax; omega), Option.bind_some,
    idx_opt, Sh_get hb, Option.bind_some, idx_opt, Sh_get ((f1.2.2.2.1 b hb).resolve_left (Ne.symm hab)).1, Option.bind_some, Sub_f (by unfold Lmax; omega), Option.bind_some, if_true,
    r05_same_mk (by have := LF_sub (shr (Vq qs) (m + 1) a) (shr (Vq ((List.range (2 ^ m)).map (fun t => Vq qs (ins b t)))) m (low b a)); unfold Lmax; omega), Option.bind_some]
  congr 1
  rw [decide_eq_true_eq, shr_ins hm ha hb hab (hU b), shr_ins hm hb ha (Ne.symm hab) (hU a)]
  unfold shr
  rw [Nat.sub_right_comm (2 ^ (m + 1) - 1) (2 ^ b) (2 ^ a)]
  grind
end Go.Proofs.Ytoclpeomlofcjaa.P
