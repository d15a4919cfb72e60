/- Sorting the sets: the insertion sort gives them in order. -/
import Derived.Test.YtadpbhbkdnfbpaaKa
namespace Go.Proofs.Ytadpbhbkdnfbpaa.P
open Go.RowKit
set_option linter.unusedSimpArgs false
set_option linter.unusedVariables false

theorem idx_opt {α : Type} (l : List α) (t : Nat) : idx l (t : Int) = l[t]? := by
  unfold idx
  by_cases h : t < l.length
  · rw [if_pos (by omega), Int.toNat_natCast]
  · rw [if_neg (by omega), List.getElem?_eq_none (by omega)]
theorem idx_zero {α : Type} (l : List α) : idx l 0 = l[0]? := idx_opt l 0
theorem get_mid {α : Type} (A B : List α) (x : α) : (A ++ x :: B)[A.length]? = some x := by simp
theorem set_mid {α : Type} (A B : List α) (x y : α) : (A ++ x :: B).set A.length y = A ++ y :: B := by simp

/-- In order. -/
def srt (l : List Nat) : Prop := l.Pairwise (fun a b => rk5 a < rk5 b)
theorem srt_eq : ∀ {l m : List Nat}, srt l → srt m → (∀ a, a ∈ l ↔ a ∈ m) → l = m
  | [], [], _, _, _ => rfl
  | [], b :: m, _, _, h => absurd ((h b).2 (List.mem_cons_self ..)) (by simp)
  | a :: l, [], _, _, h => absurd ((h a).1 (List.mem_cons_self ..)) (by simp)
  | a :: l, b :: m, hl, hm, h => by
    have hl' := List.pairwise_cons.1 hl
    have hm' := List.pairwise_cons.1 hm
    have hab : a = b := by
      by_cases hab : a = b
      · exact hab
      · have h1 := (List.mem_cons.1 ((h a).1 (List.mem_cons_self ..))).resolve_left hab
        have h2 := (List.mem_cons.1 ((h b).2 (List.mem_cons_self ..))).resolve_left (fun e => hab e.symm)
        have h3 := hm'.1 a h1
        have h4 := hl'.1 b h2
        omega
    subst hab
    congr 1
    refine srt_eq hl'.2 hm'.2 (fun c => ⟨fun hc => ?_, fun hc => ?_⟩)
    · rcases List.mem_cons.1 ((h c).1 (List.mem_cons_of_mem _ hc)) with e | e
      · have := hl'.1 c hc
        rw [e] at this
        omega
      · exact e
    · rcases List.mem_cons.1 ((h c).2 (List.mem_cons_of_mem _ hc)) with e | e
      · have := hm'.1 c hc
        rw [e] at this
        omega
      · exact e
theorem ord5_srt : srt ord5 := by unfold srt; decide +kernel
theorem ord5_mem : ∀ s, s < 32 → s ∈ ord5 := by decide +kernel
theorem ord5_lt : ∀ s ∈ ord5, s < 32 := by decide +kernel

theorem ins_loop {P Q : List Nat} {x : Nat} (hP : ∀ a ∈ P, a < 32) (hx : x < 32) (hn : x ∉ P) (hs : srt P) (hl : P.length ≤ 1000) :
    ∃ r, loopL (slices_insertionSortCmpFunc_target_compare_w_L5 0) ((P.length : Int), (P ++ x :: Q).map bl) = some r ∧ ∃ P', r = (P' ++ Q).map bl ∧ srt P' ∧ P'.Perm (x :: P) := by
  refine loop_nat (I := fun m s => ∃ A B, P = A ++ B ∧ B.length = m ∧ s = ((A.length : Int), (A ++ x :: (B ++ Q)).map bl) ∧ ∀ a ∈ B, rk5 x < rk5 a) P.length _ ⟨P, [], by simp, rfl, by simp, by simp⟩ (lenFU (by omega)) ?_
  rintro m s hm ⟨A, B, rfl, hB, rfl, hx'⟩
  simp only [slices_insertionSortCmpFunc_target_compare_w_L5]
  rcases List.eq_nil_or_concat A with rfl | ⟨A', p, rfl⟩
  · right
    refine ⟨_, by rw [if_neg (by simp), Option.bind_some, if_neg (by simp)], x :: B, by simp, ?_, List.Perm.refl _⟩
    exact List.pairwise_cons.2 ⟨hx', by simpa [srt] using hs⟩
  · simp only [List.concat_eq_append] at *
    have hl' : A'.length < 1000 := by simp at hl; omega
    have e1 : ((A' ++ [p]) ++ x :: (B ++ Q)).map bl = A'.map bl ++ bl p :: bl x :: (B ++ Q).map bl := by simp
    have e2 : (((A' ++ [p]).length : Nat) : Int) = ((A'.length + 1 : Nat) : Int) := by simp
    have e3 : IntKind.i64.wrap (((A'.length + 1 : Nat) : Int) - 1) = ((A'.length : Nat) : Int) := by rw [w64 (by omega)]; omega
    have g1 : (A'.map bl ++ bl p :: bl x :: (B ++ Q).map bl)[A'.length + 1]? = some (bl x) := by simp
    have g2 : (A'.map bl ++ bl p :: bl x :: (B ++ Q).map bl)[A'.length]? = some (bl p) := by simp
    have s1 : (A'.map bl ++ bl p :: bl x :: (B ++ Q).map bl).set (A'.length + 1) (bl p) = A'.map bl ++ bl p :: bl p :: (B ++ Q).map bl := by simp
    have g3 : (A'.map bl ++ bl p :: bl p :: (B ++ Q).map bl)[A'.length]? = some (bl p) := by simp
    have s2 : (A'.map bl ++ bl p :: bl p :: (B ++ Q).map bl).set A'.length (bl x) = A'.map bl ++ bl x :: bl p :: (B ++ Q).map bl := by simp
    obtain ⟨c, hc1, hc2⟩ := cmp5 hx (hP p (by simp))
    rw [e1, e2, if_pos (decide_eq_true (by omega)), idx_opt, g1, Option.bind_some, e3, idx_opt, g2, Option.bind_some, hc1, Option.bind_some, Option.bind_some]
    by_cases hlt : rk5 x < rk5 p
    · left
      rw [if_pos (decide_eq_true (hc2.2 hlt)), Option.bind_some, Option.bind_some]
      refine ⟨by simp at hm ⊢; omega, ?_⟩
      rw [Int.toNat_natCast, s1, idx_opt, g3, Option.bind_some, Int.toNat_natCast, s2]
      refine ⟨_, rfl, A', p :: B, by simp, by simp; omega, by simp, ?_⟩
      intro a ha
      rcases List.mem_cons.1 ha with rfl | ha
      · exact hlt
      · exact hx' a ha
    · right
      rw [if_neg (by simpa using fun h => hlt (hc2.1 h))]
      have hpx : rk5 p < rk5 x := by
        have : rk5 p ≠ rk5 x := fun h => hn (by rw [← rk5_inj (hP p (by simp)) hx h]; simp)
        omega
      refine ⟨_, rfl, A' ++ p :: x :: B, by simp, ?_, ?_⟩
      · unfold srt at hs ⊢
        rw [List.append_assoc, List.pairwise_append] at hs
        obtain ⟨h1, h2, h3⟩ := hs
        rw [List.pairwise_append]
        have h2' := List.pairwise_cons.1 h2
        refine ⟨h1, List.pairwise_cons.2 ⟨?_, List.pairwise_cons.2 ⟨hx', h2'.2⟩⟩, ?_⟩
        · intro a ha
          rcases List.mem_cons.1 ha with rfl | ha
          · exact hpx
          · exact h2'.1 a ha
        · intro a ha b hb
          have hap := h3 a ha p (by simp)
          rcases List.mem_cons.1 hb with rfl | hb
          · exact hap
          · rcases List.mem_cons.1 hb with rfl | hb
            · omega
            · exact h3 a ha b (by simp [hb])
      · have := List.perm_middle (a := x) (l₁ := A' ++ [p]) (l₂ := B)
        simpa using this

theorem ins_all {S : List Nat} (h32 : ∀ s ∈ S, s < 32) (hnd : S.Nodup) (hl : S.length ≤ 12) (h0 : S ≠ []) :
    loopL (slices_insertionSortCmpFunc_target_compare_w_L1 0 (S.length : Int)) (IntKind.i64.wrap (0 + 1), S.map bl) = some ((ord5.filter (fun s => decide (s ∈ S))).map bl) := by
  obtain ⟨s0, S', rfl⟩ := List.exists_cons_of_ne_nil h0
  obtain ⟨r, h1, h2⟩ := loop_nat (body := slices_insertionSortCmpFunc_target_compare_w_L1 0 (((s0 :: S').length : Nat) : Int))
    (I := fun i s => ∃ P Q, s = ((P.length : Int), (P ++ Q).map bl) ∧ P.length = i + 1 ∧ srt P ∧ (P ++ Q).Perm (s0 :: S')) S'.length
    (fun r => ∃ P, r = P.map bl ∧ srt P ∧ P.Perm (s0 :: S')) (s := (IntKind.i64.wrap (0 + 1), (s0 :: S').map bl)) ⟨[s0], S', rfl, rfl, by simp [srt], List.Perm.refl _⟩ (lenFU (by simp at hl; omega)) (by
      rintro i s hi ⟨P, Q, rfl, hP, hs, hp⟩
      simp only [slices_insertionSortCmpFunc_target_compare_w_L1]
      have hlen := hp.length_eq
      simp only [List.length_append, List.length_cons] at hlen
      cases Q with
      | nil =>
        right
        refine ⟨_, by rw [if_neg (by simp at hlen ⊢; omega)], P, by simp, hs, by simpa using hp⟩
      | cons x Q =>
        left
        refine ⟨by simp at hlen; omega, ?_⟩
        have hnd' : (P ++ x :: Q).Nodup := hp.nodup_iff.2 hnd
        have hxP : x ∉ P := fun h => (List.nodup_append.1 hnd').2.2 x h x (by simp) rfl
        obtain ⟨r, h3, P', rfl, h4, h5⟩ := ins_loop (P := P) (Q := Q) (x := x) (fun a ha => h32 a (hp.mem_iff.1 (by simp [ha]))) (h32 x (hp.mem_iff.1 (by simp))) hxP hs (by simp only [List.length_cons] at hl hlen; omega)
        rw [if_pos (by simp at hlen ⊢; omega), h3, Option.bind_some]
        have h6 := h5.length_eq
        simp only [List.length_cons] at h6
        refine ⟨_, rfl, P', Q, ?_, by omega, h4, ?_⟩
        · rw [w64 (by simp at hl; omega), h6]
          congr 1
        · refine List.Perm.trans ?_ hp
          refine List.Perm.trans (h5.append_right Q) ?_
          simpa using (List.perm_middle (a := x) (l₁ := P) (l₂ := Q)).symm)
  rw [h1]
  obtain ⟨P, rfl, h3, h4⟩ := h2
  congr 2
  refine srt_eq h3 (List.Pairwise.filter _ ord5_srt) (fun a => ?_)
  rw [List.mem_filter, decide_eq_true_eq, h4.mem_iff]
  exact ⟨fun h => ⟨ord5_mem a (h32 a h), h⟩, fun h => h.2⟩
theorem len_small_all : ((List.range 513).all fun n => (math_bits_Len (IntKind.u64.wrap ((n : Nat) : Int))).isSome) = true := by decide +kernel
theorem len_small {n : Nat} (h : n ≤ 512) : ∃ r, math_bits_Len (IntKind.u64.wrap (n : Int)) = some r := by
  have hh := len_small_all
  simp only [List.all_eq_true, List.mem_range] at hh
  exact Option.isSome_iff_exists.1 (hh n (by omega))
theorem ord_len {S : List Nat} (h32 : ∀ s ∈ S, s < 32) (hnd : S.Nodup) : (ord5.filter (fun s => decide (s ∈ S))).length = S.length := by
  refine List.Perm.length_eq ?_
  refine (List.perm_ext_iff_of_nodup ?_ hnd).2 (fun a => ?_)
  · exact List.Pairwise.filter _ (show ord5.Nodup by decide)
  · rw [List.mem_filter, decide_eq_true_eq]
    exact ⟨fun h => h.2, fun h => ⟨ord5_mem a (h32 a h), h⟩⟩
theorem sort_eq {S : List Nat} (h32 : ∀ s ∈ S, s < 32) (hnd : S.Nodup) (hl : S.length ≤ 12) : slices_SortFunc_target_compare_w (S.map bl) = some ((ord5.filter (fun s => decide (s ∈ S))).map bl, ()) := by
  have hlen := ord_len h32 hnd
  have hins : slices_insertionSortCmpFunc_target_compare_w (S.map bl) 0 ((S.map bl).length : Int) = some ((ord5.filter (fun s => decide (s ∈ S))).map bl, ()) := by
    unfold slices_insertionSortCmpFunc_target_compare_w slices_insertionSortCmpFunc_target_compare_w_B
    have : loopL (slices_insertionSortCmpFunc_target_compare_w_L1 0 ((S.map bl).length : Int)) (IntKind.i64.wrap (0 + 1), S.map bl) = some ((ord5.filter (fun s => decide (s ∈ S))).map bl) := by
      by_cases h0 : S = []
      · subst h0; decide +kernel
      · rw [List.length_map]; exact ins_all h32 hnd hl h0
    rw [this, Option.bind_some, Option.bind_some, if_pos (by simpa using hlen)]
  obtain ⟨k, hk⟩ := len_small (n := S.length) (by omega)
  unfold slices_SortFunc_target_compare_w slices_SortFunc_target_compare_w_B
  have hpd : slices_pdqsortCmpFunc_target_compare_w (S.map bl) 0 ((S.map bl).length : Int) k = some ((ord5.filter (fun s => decide (s ∈ S))).map bl, ()) := by
    unfold slices_pdqsortCmpFunc_target_compare_w slices_pdqsortCmpFunc_target_compare_w_B
    obtain ⟨r, h1, h2⟩ := loop_nat (body := slices_pdqsortCmpFunc_target_compare_w_L1 (S.map bl) 0 ((S.map bl).length : Int) k) (I := fun _ _ => True) 0
      (fun r => r = ((ord5.filter (fun s => decide (s ∈ S))).map bl, ())) (s := ()) trivial (lenFU (by omega)) (by
        rintro i s hi _
        right
        simp only [slices_pdqsortCmpFunc_target_compare_w_L1]
        rw [if_pos (decide_eq_true (by rw [w64 (by simp; omega)]; simp; omega)), hins, Option.bind_some]
        exact ⟨_, rfl, rfl⟩)
    rw [h1, h2, Option.bind_some, Option.bind_some, if_pos (by simpa using hlen)]
  rw [List.length_map, hk, Option.bind_some, ← List.length_map (f := bl), hpd, Option.bind_some, Option.bind_some, if_pos (by simpa using hlen)]
end Go.Proofs.Ytadpbhbkdnfbpaa.P
