/- What the laws of the target share; the law of the fewest. -/
import Derived.Test.YtadpbhbkdnfbpaaKd
import Derived.WalkKit
namespace Go.Proofs.Ytadpbhbkdnfbpaa.P
open Go.RowKit
set_option linter.unusedSimpArgs false
set_option linter.unusedVariables false

theorem small_eq : l47_small = some true := by kernel_rfl
theorem mod_small {x : Int} {n : Nat} (hx : (Lit.int .u8 x).wf = true) (hn : 0 < n) : ∃ a : Nat, a < n ∧ modI .i64 (IntKind.i64.wrap x) (n : Int) = some (a : Int) := by
  have hx : 0 ≤ x ∧ x ≤ 255 := by
    simpa [Lit.wf, IntKind.min, IntKind.max, IntKind.signed, IntKind.bits] using hx
  refine ⟨(x.tmod n).toNat, ?_, ?_⟩
  · have h1 := Int.tmod_lt_of_pos x (show (0 : Int) < n by omega)
    have h2 := Int.tmod_nonneg (n : Int) hx.1
    omega
  · unfold modI
    have h2 := Int.tmod_nonneg (n : Int) hx.1
    rw [if_neg (by omega), w64 (by omega), Int.toNat_of_nonneg h2]
theorem bits_all : ((List.range 6).all fun n => (List.range (2 ^ n)).all fun s => l47_bits (bl s) (n : Int) == some (s : Int)) = true := by decide +kernel
theorem bits_bl {n s : Nat} (hn : n ≤ 5) (hs : s < 2 ^ n) : l47_bits (bl s) (n : Int) = some (s : Int) := by
  have hh := bits_all
  simp only [List.all_eq_true, List.mem_range, beq_iff_eq] at hh
  exact hh n (by omega) s hs
theorem many_all : ((List.range 32).all fun s => l47_many (s : Int) == some (((bl s).length : Nat) : Int)) = true := by decide +kernel
theorem many_bl {s : Nat} (hs : s < 32) : l47_many (s : Int) = some (((bl s).length : Nat) : Int) := by
  have hh := many_all
  simp only [List.all_eq_true, List.mem_range, beq_iff_eq] at hh
  exact hh s hs
theorem less_all : ((List.range 32).all fun s => (List.range (bl s).length).all fun j => (subs s).any fun t => (shlI .i64 1 ((bl s).getD j 0)).map (fun x => bitI .andNot .i64 (s : Int) x) == some (t : Int)) = true := by decide +kernel
theorem less_bl {s j : Nat} (hs : s < 32) (hj : j < (bl s).length) : ∃ x t, shlI .i64 1 ((bl s)[j]) = some x ∧ bitI .andNot .i64 (s : Int) x = ((t : Nat) : Int) ∧ t ∈ subs s := by
  have hh := less_all
  simp only [List.all_eq_true, List.mem_range, beq_iff_eq, List.any_eq_true] at hh
  obtain ⟨t, h1, h2⟩ := hh s hs j hj
  rw [Option.map_eq_some_iff, List.getD_eq_getElem?_getD, List.getElem?_eq_getElem hj, Option.getD_some] at h2
  obtain ⟨x, h3, h4⟩ := h2
  exact ⟨x, t, h3, h4, h1⟩
theorem part_all : ((List.range 32).all fun s => (List.range 32).all fun t => ((bitI .and .i64 (s : Int) (t : Int) == (s : Int)) == (s &&& t == s)) && ((bitI .and .i64 (s : Int) (t : Int) == (t : Int)) == (s &&& t == t)) && (!(s &&& t == s) || decide ((bl s).length ≤ (bl t).length)) && (!decide (rk5 s < rk5 t) || decide ((bl s).length ≤ (bl t).length)) && (!(s &&& t == t) || t == s || (subs s).contains t) && (r47_Before (bl s) (bl t) == some (decide (rk5 s < rk5 t)))) = true := by decide +kernel
theorem part_bl {s t : Nat} (hs : s < 32) (ht : t < 32) : (bitI .and .i64 (s : Int) (t : Int) == (s : Int)) = (s &&& t == s) ∧ (bitI .and .i64 (s : Int) (t : Int) == (t : Int)) = (s &&& t == t) ∧ (s &&& t = s → (bl s).length ≤ (bl t).length) ∧ (rk5 s < rk5 t → (bl s).length ≤ (bl t).length) ∧ (s &&& t = t → t = s ∨ t ∈ subs s) ∧ r47_Before (bl s) (bl t) = some (decide (rk5 s < rk5 t)) := by
  have hh := part_all
  simp only [List.all_eq_true, List.mem_range, Bool.and_eq_true] at hh
  obtain ⟨⟨⟨⟨⟨h1, h2⟩, h3⟩, h4⟩, h5⟩, h6⟩ := hh s hs t ht
  refine ⟨beq_iff_eq.1 h1, beq_iff_eq.1 h2, fun e => ?_, fun e => ?_, fun e => ?_, beq_iff_eq.1 h6⟩
  · simpa [e] using h3
  · simpa [e] using h4
  · simpa [e] using h5

section
variable {R : Nat → Bool} {n : Nat}
/-- A set that is reached has a minimal part. -/
theorem mn_part : ∀ (x : Nat), R x = true → ∃ m, m ≤ x ∧ m &&& x = m ∧ mn R m = true := by
  intro x
  induction x using Nat.strongRecOn with
  | _ x ih =>
    intro hx
    by_cases h : (subs x).all (fun t => !R t) = true
    · exact ⟨x, Nat.le_refl _, Nat.and_self x, by unfold mn; rw [hx, h]; rfl⟩
    · simp only [List.all_eq_true, Bool.not_eq_true', Classical.not_forall] at h
      obtain ⟨t, ht, hR⟩ := h
      have hR : R t = true := by simpa using hR
      have hm := mem_subs.1 ht
      obtain ⟨m, h1, h2, h3⟩ := ih t hm.1 hR
      refine ⟨m, by omega, ?_, h3⟩
      rw [← h2, Nat.and_assoc, hm.2]
theorem ms_part (hn : n ≤ 5) {x : Nat} (hx : x < 2 ^ n) (h : R x = true) : ∃ m, m ∈ ms n R ∧ m &&& x = m := by
  obtain ⟨m, h1, h2, h3⟩ := mn_part x h
  exact ⟨m, (mem_ms hn).2 ⟨by omega, h3⟩, h2⟩
theorem ms_R (hn : n ≤ 5) {s : Nat} (h : s ∈ ms n R) : s < 2 ^ n ∧ s < 32 ∧ R s = true ∧ ∀ t ∈ subs s, R t = false := by
  have h1 := (mem_ms hn).1 h
  have := (pow32 hn).1
  have h2 := h1.2
  unfold mn at h2
  rw [Bool.and_eq_true] at h2
  exact ⟨h1.1, by omega, h2.1, fun t ht => by simpa using List.all_eq_true.1 h2.2 t ht⟩
theorem ms_srt : srt (ms n R) := List.Pairwise.filter _ ord5_srt
theorem ms_head {h : Nat} {t : List Nat} (hn : n ≤ 5) (e : ms n R = h :: t) : ∀ m ∈ ms n R, (bl h).length ≤ (bl m).length := by
  intro m hm
  have hs := ms_srt (n := n) (R := R)
  have hh := (ms_R hn (e ▸ List.mem_cons_self .. : h ∈ ms n R)).2.1
  have hm' := (ms_R hn hm).2.1
  unfold srt at hs
  rw [e] at hs hm
  rcases List.mem_cons.1 hm with rfl | h'
  · exact Nat.le_refl _
  · exact (part_bl hh hm').2.2.2.1 ((List.pairwise_cons.1 hs).1 m h')
theorem st_sub {l : List Nat} {s : Nat} (h : s ∈ st l) : s ∈ l := (List.takeWhile_sublist _).mem h
theorem st_le {l : List Nat} {s : Nat} (h : s ∈ st l) : (bl s).length ≤ (bl (l.headD 0)).length := by
  have := List.all_eq_true.1 (List.all_takeWhile (p := fun s => decide ((bl s).length ≤ (bl (l.headD 0)).length)) (l := l)) s h
  simpa using this
theorem st_len {l : List Nat} : (st l).length ≤ l.length := (List.takeWhile_sublist _).length_le
end

theorem Fewest_L10 {qs : List Rat} {g : Rat} {n s : Nat} {r : Int} (hn : n ≤ 5) (hl : qs.length = 2 ^ n) (hq : ∀ q ∈ qs, LF q ≤ 20) (hg : LF g ≤ 20) (hs : s ∈ ms n (rch qs g)) :
    loopL (l47_TargetFewest_L10 (qs.map mkF) (mkF g) (bl s) (s : Int)) 0 = some (.inl ()) := by
  obtain ⟨h1, h2, h3, h4⟩ := ms_R hn hs
  obtain ⟨r, e1, e2⟩ := loop_nat (body := l47_TargetFewest_L10 (qs.map mkF) (mkF g) (bl s) (s : Int)) (I := fun i st => st = (i : Int)) (bl s).length (fun r => r = .inl ()) (s := 0) rfl (lenFU (by
      unfold bl
      have := List.length_filter_le (fun i : Nat => s.testBit i) (List.range 8)
      simp at this ⊢
      omega)) (by
    rintro i st hi rfl
    simp only [l47_TargetFewest_L10]
    by_cases hlt : i < (bl s).length
    · left
      refine ⟨hlt, ?_⟩
      obtain ⟨x, t, f1, f2, f3⟩ := less_bl h2 hlt
      have ht := mem_subs.1 f3
      obtain ⟨c, f4, f5⟩ := comp_eq hq hg (s := t) (by omega)
      rw [h4 t f3] at f5
      rw [if_pos (by simpa using hlt), idx_nat hlt, Option.bind_some, f1, Option.bind_some, f2, idx_opt, Vq_get (by omega), Option.bind_some, f4, Option.bind_some, f5, if_neg (by simp)]
      exact ⟨_, rfl, by rw [w64 (by have := hlt; have : (bl s).length ≤ 8 := (by unfold bl; have := List.length_filter_le (fun i : Nat => s.testBit i) (List.range 8); simp at this ⊢; omega); omega)]; omega⟩
    · right
      rw [if_neg (by simpa using hlt)]
      exact ⟨_, rfl, rfl⟩)
  rw [e1, e2]

theorem TargetFewest_eq (a0 : List TFrac) (a1 : TFrac) (a2 : Int) (g0 : ∀ f ∈ a0, FitF f) (g1 : FitF a1) (h2 : (Lit.int .u8 a2).wf = true) :
    l47_TargetFewest a0 a1 a2 = some true := by
  obtain ⟨b, hb, hfew⟩ := few_eq (l := a0) (g := a1)
  unfold l47_TargetFewest
  rw [small_eq, Option.bind_some, hb, Option.bind_some]
  cases b with
  | false => rfl
  | true =>
  obtain ⟨hlen, hF, hG⟩ := hfew rfl
  rw [if_neg (by simp)]
  obtain ⟨r, hE, hr⟩ := edits_eq hlen g0
  rw [hE, Option.bind_some]
  by_cases h0 : r < 0
  · rw [if_pos (decide_eq_true h0)]; rfl
  rw [if_neg (by simpa using h0)]
  by_cases h5 : r > 5
  · rw [if_pos (decide_eq_true h5)]; rfl
  rw [if_neg (by simpa using h5)]
  rcases hr with hr | ⟨n, hn8, rfl, qs, rfl, hl⟩
  · omega
  have hn : n ≤ 5 := by omega
  have h32 := pow32 hn
  have hq : ∀ q ∈ qs, LF q ≤ 20 := fun q hq => Nat.le_trans (LF_of (hF _ (List.mem_map.2 ⟨q, hq, rfl⟩))) (by decide)
  rw [show (if (5 : Int) < (if (0 : Int) > (n : Int) then 0 else (n : Int)) then 5 else (if (0 : Int) > (n : Int) then 0 else (n : Int))) = (n : Int) by rw [if_neg (by omega : ¬ (0 : Int) > (n : Int)), if_neg (by omega)], shl1 n (by omega), Option.bind_some, List.length_map, hl, if_neg (by simp), Right_eq g1, Option.bind_some]
  by_cases hok : okF a1 = true
  rotate_left
  · rw [show okF a1 = false from by simpa using hok]; rfl
  rw [hok, Option.bind_some, if_neg (by simp)]
  obtain ⟨g, rfl⟩ := okF_iff.1 hok
  have hg : LF g ≤ 20 := Nat.le_trans (LF_of hG) (by decide)
  obtain ⟨a, ha, ea⟩ := mod_small h2 h32.2
  obtain ⟨c, hc1, hc2⟩ := comp_eq hq hg (s := a) (by omega)
  rw [sets_eq hn hl hq hg hE, Option.bind_some, minimal_eq hn hl hq hg hE, Option.bind_some, ea, Option.bind_some, idx_opt, Vq_get (by omega), Option.bind_some, hc1, Option.bind_some, hc2]
  by_cases hms : ms n (rch qs g) = []
  · rw [if_pos hms, if_pos hms]
    have hra : rch qs g a = false := by
      cases hra : rch qs g a with
      | false => rfl
      | true =>
        obtain ⟨m, hm, _⟩ := ms_part hn ha hra
        rw [hms] at hm
        cases hm
    rw [hra]
    rfl
  · rw [if_neg hms, if_neg hms]
    generalize hM : ms n (rch qs g) = M at hms
    have hlM : M.length ≤ 10 := hM ▸ ms_len hn
    have hlS : (st M).length ≤ 10 := Nat.le_trans st_len hlM
    simp only [bne_self_eq_false, Option.bind_some]
    rw [if_neg (by simp), Option.bind_some, if_neg (by simp), app24 (by simp; omega), Option.bind_some, app24 (by simp; omega), Option.bind_some, ← List.map_append]
    obtain ⟨r, h1, h2⟩ := loop_nat (body := l47_TargetFewest_L4 (qs.map mkF) (mkF g) (n : Int) ((st M).map bl, 0) (a : Int) c ((st M ++ M).map bl))
      (I := fun i s => s = ((M.take (i - (st M).length)).any (fun b => b &&& a == b), (i : Int))) (st M ++ M).length (fun r => r = .inl (M.any (fun b => b &&& a == b))) (s := (false, 0)) (by simp) (lenFU (by simp; omega)) (by
        rintro i s hi rfl
        simp only [l47_TargetFewest_L4]
        by_cases hlt : i < (st M ++ M).length
        · left
          refine ⟨hlt, ?_⟩
          rw [if_pos (decide_eq_true (by rw [List.length_map]; omega)), idx_opt, List.getElem?_map, List.getElem?_eq_getElem hlt, Option.map_some, Option.bind_some]
          generalize hx : (st M ++ M)[i] = x
          have hxM : x ∈ M := by
            have : x ∈ st M ++ M := hx ▸ List.getElem_mem hlt
            rcases List.mem_append.1 this with h | h
            · exact st_sub h
            · exact h
          have hxm : x ∈ ms n (rch qs g) := hM ▸ hxM
          obtain ⟨k1, k2, k3, k4⟩ := ms_R hn hxm
          obtain ⟨d, d1, d2⟩ := comp_eq hq hg (s := x) (by omega)
          rw [k3] at d2
          rw [bits_bl hn k1, Option.bind_some, if_neg (by simp), List.length_map, hl, decide_eq_false (by omega), Option.bind_some, if_neg (by simp), idx_opt, Vq_get (by omega), Option.bind_some, d1, Option.bind_some, if_neg (by simp at d2 ⊢; exact d2), hc2, many_bl (by omega), Option.bind_some, List.length_map]
          have hcond : (if rch qs g a = true then if decide ((i : Int) < ((st M).length : Int)) = true then some (decide (((bl a).length : Int) < ((bl x).length : Int))) else some false else some false) = some false := by
            cases hra : rch qs g a with
            | false => rfl
            | true =>
              rw [if_pos rfl]
              by_cases hi' : i < (st M).length
              · rw [if_pos (by simpa using hi')]
                obtain ⟨m, hm, hp⟩ := ms_part hn ha hra
                have hxs : x ∈ st M := by
                  rw [List.getElem_append_left hi'] at hx
                  exact hx ▸ List.getElem_mem hi'
                have b1 := st_le hxs
                obtain ⟨h0, t, e0⟩ := List.exists_cons_of_ne_nil (hM ▸ hms : ms n (rch qs g) ≠ [])
                have b2 := ms_head hn e0 m hm
                have b3 := (part_bl (ms_R hn hm).2.1 (show a < 32 by omega)).2.2.1 hp
                rw [← hM, e0] at b1
                simp only [List.headD_cons] at b1
                rw [decide_eq_false (by omega)]
              · rw [if_neg (by simpa using hi')]
          rw [hcond, Option.bind_some, if_neg (by simp), Fewest_L10 hn hl hq hg hxm (r := 0), Option.bind_some]
          simp only
          have ew : IntKind.i64.wrap ((i : Int) + 1) = ((i + 1 : Nat) : Int) := by rw [w64 (by simp at hlt; omega)]; omega
          rw [ew]
          by_cases hi' : i < (st M).length
          · rw [show i - (st M).length = 0 by omega, List.take_zero, List.any_nil, if_neg (by simp), if_neg (by simp; omega)]
            exact ⟨_, rfl, by rw [show i + 1 - (st M).length = 0 by omega]; simp⟩
          · have hj : i - (st M).length < M.length := by simp at hlt; omega
            have hxj : M[i - (st M).length] = x := by rw [← hx, List.getElem_append_right (by omega)]
            have ht : (M.take (i + 1 - (st M).length)) = M.take (i - (st M).length) ++ [x] := by
              rw [show i + 1 - (st M).length = (i - (st M).length) + 1 by omega, List.take_add_one, List.getElem?_eq_getElem hj, hxj]; rfl
            rw [ht, List.any_append, (part_bl k2 (show a < 32 by omega)).1]
            cases (M.take (i - (st M).length)).any (fun b => b &&& a == b) with
            | true => rw [if_pos rfl]; exact ⟨_, rfl, rfl⟩
            | false =>
              rw [if_neg (by simp), if_pos (by simp; omega)]
              exact ⟨_, rfl, by simp⟩
        · right
          have hi' : i = (st M ++ M).length := by omega
          subst hi'
          rw [if_neg (by simp)]
          refine ⟨_, rfl, ?_⟩
          rw [List.take_of_length_le (by simp)])
    rw [h1, h2, Option.bind_some]
    simp only
    cases hra : rch qs g a with
    | false => rfl
    | true =>
      obtain ⟨m, hm, hp⟩ := ms_part hn ha hra
      have : M.any (fun b => b &&& a == b) = true := List.any_eq_true.2 ⟨m, hM ▸ hm, by simpa using hp⟩
      rw [this]
      rfl
end Go.Proofs.Ytadpbhbkdnfbpaa.P
