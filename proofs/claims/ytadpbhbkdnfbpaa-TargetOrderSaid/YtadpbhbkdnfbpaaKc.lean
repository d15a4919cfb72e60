/- What find returns: the minimal sets, in order. -/
import Derived.Test.YtadpbhbkdnfbpaaKb
namespace Go.Proofs.Ytadpbhbkdnfbpaa.P
open Go.RowKit
set_option linter.unusedSimpArgs false
set_option linter.unusedVariables false

/-- The proper parts of a set, the greatest number first. -/
def subs (s : Nat) : List Nat := (List.range s).reverse.filter (fun t => t &&& s == t)
/-- A set that is reached, and of which no part is. -/
def mn (R : Nat → Bool) (s : Nat) : Bool := R s && (subs s).all (fun t => !R t)
theorem subs_all : ((List.range 32).all fun s => (s == 0 || (bitI .and .i64 (IntKind.i64.wrap ((s : Int) - 1)) (s : Int) == (((subs s).getD 0 0 : Nat) : Int) && decide (0 < (subs s).length))) && (List.range (subs s).length).all fun i => decide ((subs s).getD i 0 < s) && (((subs s).getD i 0 == 0) == (i + 1 == (subs s).length)) && (i + 1 == (subs s).length || bitI .and .i64 (IntKind.i64.wrap ((((subs s).getD i 0 : Nat) : Int) - 1)) (s : Int) == (((subs s).getD (i + 1) 0 : Nat) : Int))) = true := by decide +kernel
theorem subs_zero {s : Nat} (h : s < 32) (h0 : s ≠ 0) : bitI .and .i64 (IntKind.i64.wrap ((s : Int) - 1)) (s : Int) = (((subs s).getD 0 0 : Nat) : Int) ∧ 0 < (subs s).length := by
  have hh := subs_all
  simp only [List.all_eq_true, List.mem_range, Bool.and_eq_true, Bool.or_eq_true, beq_iff_eq, decide_eq_true_eq] at hh
  exact (hh s h).1.resolve_left h0
theorem subs_step {s i : Nat} (h : s < 32) (hi : i < (subs s).length) : (subs s).getD i 0 < s ∧ (((subs s).getD i 0 = 0) ↔ (i + 1 = (subs s).length)) ∧ (i + 1 = (subs s).length ∨ bitI .and .i64 (IntKind.i64.wrap ((((subs s).getD i 0 : Nat) : Int) - 1)) (s : Int) = (((subs s).getD (i + 1) 0 : Nat) : Int)) := by
  have hh := subs_all
  simp only [List.all_eq_true, List.mem_range, Bool.and_eq_true, Bool.or_eq_true, beq_iff_eq, decide_eq_true_eq] at hh
  obtain ⟨⟨h1, h2⟩, h3⟩ := (hh s h).2 i hi
  refine ⟨h1, ?_, h3⟩
  rw [← beq_iff_eq, h2, beq_iff_eq]
theorem mem_subs {s t : Nat} : t ∈ subs s ↔ t < s ∧ t &&& s = t := by
  unfold subs
  rw [List.mem_filter, List.mem_reverse, List.mem_range, beq_iff_eq]

section
variable {G : Tgoal} {n : Nat} {R : Nat → Bool}
theorem pow32 {n : Nat} (hn : n ≤ 5) : 2 ^ n ≤ 32 ∧ 0 < 2 ^ n := ⟨Nat.pow_le_pow_right (by decide) hn, Nat.pow_pos (by decide)⟩

theorem find_inner (hn : n ≤ 5) (hR : ∀ s : Nat, s < 2 ^ n → target_goal_reached G (s : Int) = some (R s)) {s : Nat} (hs : s < 2 ^ n) :
    loopL (target_find_target_goal_reached_L5 G (s : Int)) (R s, bitI .and .i64 (IntKind.i64.wrap ((s : Int) - 1)) (s : Int)) = some (mn R s) := by
  have h32 := (pow32 hn).1
  have hs32 : s < 32 := by omega
  by_cases h0 : s = 0
  · subst h0
    obtain ⟨r, h1, h2⟩ := loop_nat (body := target_find_target_goal_reached_L5 G ((0 : Nat) : Int)) (I := fun _ st => st = (R 0, ((0 : Nat) : Int))) 0 (fun r => r = mn R 0) (s := (R 0, ((0 : Nat) : Int))) rfl (lenFU (by omega)) (by
      rintro i st hi rfl
      right
      simp only [target_find_target_goal_reached_L5]
      refine ⟨R 0, ?_, by unfold mn subs; simp⟩
      cases R 0 <;> simp)
    rw [show bitI .and .i64 (IntKind.i64.wrap (((0 : Nat) : Int) - 1)) ((0 : Nat) : Int) = ((0 : Nat) : Int) by decide, h1, h2]
  · obtain ⟨e1, e2⟩ := subs_zero hs32 h0
    rw [e1]
    obtain ⟨r, h1, h2⟩ := loop_nat (body := target_find_target_goal_reached_L5 G (s : Int)) (I := fun i st => i < (subs s).length ∧ st = ((R s && ((subs s).take i).all (fun t => !R t)), (((subs s).getD i 0 : Nat) : Int))) (subs s).length (fun r => r = mn R s)
      (s := (R s, (((subs s).getD 0 0 : Nat) : Int))) ⟨e2, by simp⟩ (lenFU (by
        have : (subs s).length ≤ s := by unfold subs; exact Nat.le_trans (List.length_filter_le _ _) (by simp)
        omega)) (by
      rintro i st hi ⟨hlt, rfl⟩
      obtain ⟨f1, f2, f3⟩ := subs_step hs32 hlt
      have hd : subs s = (subs s).take i ++ (subs s).getD i 0 :: (subs s).drop (i + 1) := by
        rw [List.getD_eq_getElem?_getD, List.getElem?_eq_getElem hlt, Option.getD_some, List.getElem_cons_drop, List.take_append_drop]
      have ht : (subs s).take (i + 1) = (subs s).take i ++ [(subs s).getD i 0] := by
        rw [List.take_add_one, List.getD_eq_getElem?_getD, List.getElem?_eq_getElem hlt]; rfl
      generalize (subs s).getD i 0 = t at *
      simp only [target_find_target_goal_reached_L5]
      cases hb : (R s && ((subs s).take i).all (fun t => !R t)) with
      | false =>
        right
        refine ⟨false, by simp, ?_⟩
        unfold mn
        rw [hd, List.all_append, ← Bool.and_assoc, hb, Bool.false_and]
      | true =>
        rw [if_pos rfl, Option.bind_some, if_pos (by simp; omega), hR _ (by omega), Option.bind_some]
        by_cases hz : t = 0
        · right
          rw [if_pos (by rw [hz]; rfl)]
          refine ⟨_, rfl, ?_⟩
          have hend := f2.1 hz
          unfold mn
          rw [← List.take_length (l := subs s), ← hend, ht, List.all_append, ← Bool.and_assoc, hb, Bool.true_and]
          simp
        · left
          have hend : ¬ i + 1 = (subs s).length := fun h => hz (f2.2 h)
          refine ⟨hlt, ?_⟩
          rw [if_neg (by simp; omega), f3.resolve_left hend]
          refine ⟨_, rfl, by omega, ?_⟩
          rw [ht, List.all_append, ← Bool.and_assoc, hb, Bool.true_and]
          simp)
    rw [h1, h2]

theorem app24 {α : Type} {l m : List α} (h : l.length + m.length ≤ 1000) : appL 24 l m = some (l ++ m) := by
  unfold appL
  rw [if_pos (by have : maxLen = 9223372036854775807 := rfl; omega)]
theorem find_outer (hn : n ≤ 5) (hR : ∀ s : Nat, s < 2 ^ n → target_goal_reached G (s : Int) = some (R s)) :
    loopL (target_find_target_goal_reached_L1 G ((2 ^ n : Nat) : Int)) (0, []) = some (((List.range (2 ^ n)).filter (mn R)).map bl) := by
  have h32 := (pow32 hn).1
  obtain ⟨r, h1, h2⟩ := loop_nat (body := target_find_target_goal_reached_L1 G ((2 ^ n : Nat) : Int)) (I := fun i st => st = ((i : Int), ((List.range i).filter (mn R)).map bl)) (2 ^ n)
    (fun r => r = ((List.range (2 ^ n)).filter (mn R)).map bl) (s := (0, [])) rfl (lenFU (by omega)) (by
      rintro i st hi rfl
      simp only [target_find_target_goal_reached_L1]
      by_cases hin : i < 2 ^ n
      · left
        refine ⟨hin, ?_⟩
        rw [if_pos (decide_eq_true (by omega)), hR i hin, Option.bind_some, find_inner hn hR hin, Option.bind_some, List.range_succ, List.filter_append, List.map_append, w64 (by omega)]
        cases hm : mn R i with
        | true =>
          rw [if_pos rfl, list_eq (by omega), Option.bind_some, app24 (by
            have := List.length_filter_le (mn R) (List.range i)
            simp at this ⊢
            omega), Option.bind_some]
          exact ⟨_, rfl, by simp [hm]⟩
        | false =>
          rw [if_neg (by simp)]
          exact ⟨_, rfl, by simp [hm]⟩
      · right
        have : i = 2 ^ n := by omega
        subst this
        exact ⟨_, by rw [if_neg (by simp)], rfl⟩)
  rw [h1, h2]

/-! At most ten sets are minimal: the 32 sets lie on ten chains. -/
def chains : List (List Nat) := [[0, 1, 3, 7, 15, 31], [2, 6, 14, 30], [4, 5, 13, 29], [8, 9, 11, 27], [10, 26], [12, 28], [16, 17, 19, 23], [18, 22], [20, 21], [24, 25]]
theorem chains_perm : (chains.flatten).Perm (List.range 32) := by decide +kernel
theorem chains_up : ∀ c ∈ chains, c.Pairwise (fun a b => a ∈ subs b) := by decide +kernel
theorem one_of {c : List Nat} {p : Nat → Bool} (h : c.Pairwise (fun a b => p a = true → p b = true → False)) : (c.filter p).length ≤ 1 := by
  induction c with
  | nil => simp
  | cons a c ih =>
    have h' := List.pairwise_cons.1 h
    cases hp : p a with
    | false => rw [List.filter_cons_of_neg (by simp [hp])]; exact ih h'.2
    | true =>
      rw [List.filter_cons_of_pos hp]
      have : c.filter p = [] := List.filter_eq_nil_iff.2 (fun b hb hpb => h'.1 b hb hp hpb)
      rw [this]
      simp
theorem mn_anti {a b : Nat} (ha : mn R a = true) (hb : mn R b = true) (h : a ∈ subs b) : False := by
  unfold mn at ha hb
  rw [Bool.and_eq_true] at ha hb
  have := List.all_eq_true.1 hb.2 a h
  rw [ha.1] at this
  cases this
theorem few_chains {p : Nat → Bool} : ∀ {cs : List (List Nat)}, (∀ c ∈ cs, (c.filter p).length ≤ 1) → (cs.flatten.filter p).length ≤ cs.length
  | [], _ => by simp
  | c :: cs, h => by
    rw [List.flatten_cons, List.filter_append, List.length_append, List.length_cons]
    have h1 := h c (List.mem_cons_self ..)
    have h2 := few_chains (cs := cs) (fun d hd => h d (List.mem_cons_of_mem _ hd))
    omega
theorem few_mn (hn : n ≤ 5) : ((List.range (2 ^ n)).filter (mn R)).length ≤ 10 := by
  have h32 := (pow32 hn).1
  have h1 : ((List.range (2 ^ n)).filter (mn R)).length ≤ ((List.range 32).filter (mn R)).length := by
    have : (List.range (2 ^ n)).Sublist (List.range 32) := List.range_sublist.2 h32
    exact (this.filter _).length_le
  have h2 := (chains_perm.filter (mn R)).length_eq
  have h3 := few_chains (p := mn R) (cs := chains) (fun c hc => one_of ((chains_up c hc).imp (fun {a b} h ha hb => mn_anti ha hb h)))
  have h4 : chains.length = 10 := rfl
  omega
/-- The minimal sets in order. -/
def ms (n : Nat) (R : Nat → Bool) : List Nat := ord5.filter (fun s => decide (s < 2 ^ n) && mn R s)
theorem mem_ms {s : Nat} (hn : n ≤ 5) : s ∈ ms n R ↔ s < 2 ^ n ∧ mn R s = true := by
  have h32 := (pow32 hn).1
  unfold ms
  rw [List.mem_filter, Bool.and_eq_true, decide_eq_true_eq]
  exact ⟨fun h => h.2, fun h => ⟨ord5_mem s (by omega), h⟩⟩
theorem ms_len (hn : n ≤ 5) : (ms n R).length ≤ 10 := by
  refine Nat.le_trans (Nat.le_of_eq (List.Perm.length_eq ?_)) (few_mn (R := R) hn)
  refine (List.perm_ext_iff_of_nodup (List.Pairwise.filter _ (show ord5.Nodup by decide)) (List.Pairwise.filter _ List.nodup_range)).2 (fun a => ?_)
  rw [List.mem_filter (p := mn R), List.mem_range]
  exact mem_ms hn
theorem shl1 : ∀ n : Nat, n < 10 → shlI .i64 1 (n : Int) = some ((2 ^ n : Nat) : Int) := by decide +kernel
theorem find_eq (hn : n ≤ 5) (hR : ∀ s : Nat, s < 2 ^ n → target_goal_reached G (s : Int) = some (R s)) : target_find_target_goal_reached (n : Int) G = some ((ms n R).map bl) := by
  have h32 := (pow32 hn).1
  unfold target_find_target_goal_reached
  rw [shl1 n (by omega), Option.bind_some, find_outer hn hR, Option.bind_some, sort_eq (fun s hs => by
      have := List.mem_range.1 (List.mem_filter.1 hs).1
      omega) (List.Pairwise.filter _ List.nodup_range) (Nat.le_trans (few_mn hn) (by decide)), Option.bind_some]
  congr 1
  unfold ms
  show List.map bl _ = _
  congr 1
  refine List.filter_congr (fun s hs => ?_)
  rw [Bool.eq_iff_iff, decide_eq_true_eq, Bool.and_eq_true, decide_eq_true_eq, List.mem_filter, List.mem_range]
end
end Go.Proofs.Ytadpbhbkdnfbpaa.P
