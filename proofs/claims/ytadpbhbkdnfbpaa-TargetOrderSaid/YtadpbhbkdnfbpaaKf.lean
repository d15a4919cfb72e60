/- The law of the order. -/
import Derived.Test.YtadpbhbkdnfbpaaKe
namespace Go.Proofs.Ytadpbhbkdnfbpaa.P
open Go.RowKit
set_option linter.unusedSimpArgs false
set_option linter.unusedVariables false

theorem equal_refl {x : List Int} (h : x.length ≤ 1000) : slices_Equal x x = some true := by
  unfold slices_Equal
  rw [if_neg (by simp)]
  obtain ⟨r, h1, h2⟩ := loop_nat (body := slices_Equal_L1 x x) (I := fun i s => s = (i : Int)) x.length (fun r => r = .inl ()) (s := 0) rfl (lenFU (by omega)) (by
    rintro i s hi rfl
    simp only [slices_Equal_L1]
    by_cases hlt : i < x.length
    · left
      rw [if_pos (by simpa using hlt), idx_nat hlt, Option.bind_some, Option.bind_some, if_neg (by simp)]
      exact ⟨hlt, _, rfl, by rw [w64 (by omega)]; omega⟩
    · right
      rw [if_neg (by simpa using hlt)]
      exact ⟨_, rfl, rfl⟩)
  rw [h1, h2]
  rfl
theorem equalF_refl {l : List (List Int)} (h : l.length ≤ 1000) (hx : ∀ x ∈ l, x.length ≤ 1000) : slices_EqualFunc_slices_Equal l l = some true := by
  unfold slices_EqualFunc_slices_Equal
  rw [if_neg (by simp)]
  obtain ⟨r, h1, h2⟩ := loop_nat (body := slices_EqualFunc_slices_Equal_L1 l l) (I := fun i s => s = (i : Int)) l.length (fun r => r = .inl ()) (s := 0) rfl (lenFU (by omega)) (by
    rintro i s hi rfl
    simp only [slices_EqualFunc_slices_Equal_L1]
    by_cases hlt : i < l.length
    · left
      rw [if_pos (by simpa using hlt), idx_nat hlt, Option.bind_some, Option.bind_some, equal_refl (hx _ (List.getElem_mem hlt)), Option.bind_some, if_neg (by simp)]
      exact ⟨hlt, _, rfl, by rw [w64 (by omega)]; omega⟩
    · right
      rw [if_neg (by simpa using hlt)]
      exact ⟨_, rfl, rfl⟩)
  rw [h1, h2]
  rfl
theorem equalF_len {l m : List (List Int)} (h : l.length ≠ m.length) : slices_EqualFunc_slices_Equal l m = some false := by
  unfold slices_EqualFunc_slices_Equal
  rw [if_pos (by simp only [bne_iff_ne, ne_eq]; omega)]
theorem bl_len (s : Nat) : (bl s).length ≤ 8 := by
  unfold bl
  have := List.length_filter_le (fun i : Nat => s.testBit i) (List.range 8)
  simp at this ⊢
  omega
theorem one_all : ((List.range 32).all fun s => (r47_Same [bl s] [bl s] == some true) && (decide ((bl s).length = 0) == decide (s = 0))) = true := by decide +kernel
theorem one_bl {s : Nat} (h : s < 32) : r47_Same [bl s] [bl s] = some true ∧ ((bl s).length = 0 ↔ s = 0) := by
  have hh := one_all
  simp only [List.all_eq_true, List.mem_range, beq_iff_eq, Bool.and_eq_true, decide_eq_decide] at hh
  exact hh s h
theorem tw_idx (f : Nat → Nat) (c : Nat) : ∀ (l : List Nat), l.Pairwise (fun a b => f a ≤ f b) → (∀ a ∈ l, c ≤ f a) → ∀ i (h : i < l.length), (i < (l.takeWhile (fun s => decide (f s ≤ c))).length ↔ f l[i] = c)
  | [], _, _, i, h => by simp at h
  | a :: l, hp, hc, i, h => by
    have hp' := List.pairwise_cons.1 hp
    have ha := hc a (List.mem_cons_self ..)
    by_cases hac : f a ≤ c
    · rw [List.takeWhile_cons_of_pos (p := fun s => decide (f s ≤ c)) (decide_eq_true hac)]
      cases i with
      | zero => simp; omega
      | succ i =>
        have := tw_idx f c l hp'.2 (fun b hb => hc b (List.mem_cons_of_mem _ hb)) i (by simpa using h)
        simpa using this
    · rw [List.takeWhile_cons_of_neg (p := fun s => decide (f s ≤ c)) (by simpa using hac)]
      simp only [List.length_nil, Nat.not_lt_zero, false_iff]
      cases i with
      | zero => simp; omega
      | succ i =>
        have hi : i < l.length := by simpa using h
        have := hp'.1 l[i] (List.getElem_mem hi)
        simp
        omega

section
variable {R : Nat → Bool} {n : Nat}
theorem ms_pair (hn : n ≤ 5) {k i : Nat} (hk : k < i) (hi : i < (ms n R).length) : rk5 (ms n R)[k] < rk5 (ms n R)[i] := by
  have := ms_srt (n := n) (R := R)
  unfold srt at this
  exact List.pairwise_iff_getElem.1 this k i (by omega) hi hk
theorem ms_apart (hn : n ≤ 5) {s t : Nat} (hs : s ∈ ms n R) (ht : t ∈ ms n R) (hne : s ≠ t) : (s &&& t == t) = false := by
  have h1 := ms_R hn hs
  have h2 := ms_R hn ht
  cases h : (s &&& t == t) with
  | false => rfl
  | true =>
    rcases (part_bl h1.2.1 h2.2.1).2.2.2.2.1 (by simpa using h) with e | e
    · exact absurd e.symm hne
    · have := h1.2.2.2 t e
      rw [h2.2.2.1] at this
      cases this
theorem ms_len_pair (hn : n ≤ 5) : (ms n R).Pairwise (fun a b => (bl a).length ≤ (bl b).length) := by
  have := ms_srt (n := n) (R := R)
  unfold srt at this
  refine List.Pairwise.imp_of_mem (fun {a b} ha hb h => ?_) this
  exact (part_bl (ms_R hn ha).2.1 (ms_R hn hb).2.1).2.2.2.1 h
theorem st_idx (hn : n ≤ 5) {h : Nat} {t : List Nat} (e : ms n R = h :: t) {i : Nat} (hi : i < (ms n R).length) : i < (st (ms n R)).length ↔ (bl (ms n R)[i]).length = (bl h).length := by
  unfold st
  have e' : (ms n R).headD 0 = h := by rw [e]; rfl
  rw [e']
  exact tw_idx (fun s => (bl s).length) (bl h).length (ms n R) (ms_len_pair hn) (fun a ha => ms_head hn e a ha) i hi
theorem st_pre (l : List Nat) : ∃ D, l = st l ++ D := ⟨_, (List.takeWhile_append_dropWhile).symm⟩

theorem Order_L10 (hn : n ≤ 5) {i : Nat} (hi : i < (ms n R).length) : loopL (l47_TargetOrder_L10 (n : Int) ((ms n R).map bl, 0) (i : Int) (bl (ms n R)[i])) 0 = some (.inl ()) := by
  have hl := ms_len (R := R) hn
  obtain ⟨r, e1, e2⟩ := loop_nat (body := l47_TargetOrder_L10 (n : Int) ((ms n R).map bl, 0) (i : Int) (bl (ms n R)[i])) (I := fun k st => st = (k : Int)) i (fun r => r = .inl ()) (s := 0) rfl (lenFU (by omega)) (by
    rintro k s hk rfl
    simp only [l47_TargetOrder_L10]
    by_cases hlt : k < i
    · left
      refine ⟨hlt, ?_⟩
      have hkM : k < (ms n R).length := by omega
      have hp := ms_pair hn hlt hi
      have m1 : (ms n R)[k] ∈ ms n R := List.getElem_mem _
      have m2 : (ms n R)[i] ∈ ms n R := List.getElem_mem _
      have hne : (ms n R)[k] ≠ (ms n R)[i] := fun e => by rw [e] at hp; omega
      have a1 := ms_apart hn m2 m1 (fun e => hne e.symm)
      have a2 := ms_apart hn m1 m2 hne
      have r1 := ms_R hn m1
      have r2 := ms_R hn m2
      have p := part_bl r1.2.1 r2.2.1
      rw [if_pos (by simpa using hlt), idx_opt, List.getElem?_map, List.getElem?_eq_getElem hkM, Option.map_some, Option.bind_some, bits_bl hn r1.1, Option.bind_some, bits_bl hn r2.1, Option.bind_some, p.2.2.2.2.2, decide_eq_true hp, Option.bind_some, if_neg (by simp), if_neg (by simp), if_neg (by simp), p.1, p.2.1, Nat.and_comm, a1, if_neg (by simp), Nat.and_comm, a2, if_neg (by simp)]
      exact ⟨_, rfl, by rw [w64 (by omega)]; omega⟩
    · right
      rw [if_neg (by simpa using hlt)]
      exact ⟨_, rfl, rfl⟩)
  rw [e1, e2]

theorem Order_L6 (hn : n ≤ 5) {h : Nat} {t : List Nat} (e : ms n R = h :: t) : loopL (l47_TargetOrder_L6 (n : Int) ((st (ms n R)).map bl, 0) ((ms n R).map bl, 0) (bl h)) 0 = some (.inl ()) := by
  have hl := ms_len (R := R) hn
  have hls := st_len (l := ms n R)
  obtain ⟨r, e1, e2⟩ := loop_nat (body := l47_TargetOrder_L6 (n : Int) ((st (ms n R)).map bl, 0) ((ms n R).map bl, 0) (bl h)) (I := fun i st => st = (i : Int)) (ms n R).length (fun r => r = .inl ()) (s := 0) rfl (lenFU (by omega)) (by
    rintro i s hi rfl
    simp only [l47_TargetOrder_L6]
    by_cases hlt : i < (ms n R).length
    · left
      refine ⟨hlt, ?_⟩
      have hx := st_idx hn e hlt
      have r1 := ms_R hn (List.getElem_mem hlt)
      obtain ⟨D, hD⟩ := st_pre (ms n R)
      have hc : (!((decide ((i : Int) < (((st (ms n R)).map bl).length : Int))) == (((bl (ms n R)[i]).length : Int) == ((bl h).length : Int)))) = false := by
        rw [List.length_map]
        by_cases hi' : i < (st (ms n R)).length
        · rw [decide_eq_true (by omega), hx.1 hi']; simp
        · rw [decide_eq_false (by omega), show (((bl (ms n R)[i]).length : Int) == ((bl h).length : Int)) = false by
            rw [beq_eq_false_iff_ne]
            intro hh
            exact hi' (hx.2 (by omega))]; rfl
      rw [if_pos (decide_eq_true (by rw [List.length_map]; omega)), idx_opt, List.getElem?_map, List.getElem?_eq_getElem hlt, Option.map_some, Option.bind_some, hc, if_neg (by simp), List.length_map]
      have hin : (if decide ((i : Int) < ((st (ms n R)).length : Int)) = true then
          (idx ((st (ms n R)).map bl) (if IntKind.i64.wrap (((st (ms n R)).length : Int) - 1) < (i : Int) then IntKind.i64.wrap (((st (ms n R)).length : Int) - 1) else (i : Int))).bind fun x85 =>
            (slc ((ms n R).map bl) (i : Int) (IntKind.i64.wrap ((i : Int) + 1))).bind fun x86 => (r47_Same [x85] x86).bind fun r89 => some (!r89)
          else some false) = some false := by
        by_cases hi' : i < (st (ms n R)).length
        · have hg : (st (ms n R))[i]? = some (ms n R)[i] := by
            have h1 : (ms n R)[i]? = (st (ms n R))[i]? := by
              conv => lhs; rw [hD]
              rw [List.getElem?_append_left hi']
            rw [← h1, List.getElem?_eq_getElem hlt]
          have hs : slc ((ms n R).map bl) (i : Int) (IntKind.i64.wrap ((i : Int) + 1)) = some [bl (ms n R)[i]] := by
            unfold slc
            rw [w64 (by omega), if_pos (by rw [List.length_map]; omega), show ((i : Int) + 1).toNat - (i : Int).toNat = 1 by omega, Int.toNat_natCast, ← List.map_drop, ← List.getElem_cons_drop hlt]
            rfl
          rw [if_pos (decide_eq_true (by omega)), w64 (by omega), if_neg (by omega), idx_opt, List.getElem?_map, hg, Option.map_some, Option.bind_some, hs, Option.bind_some, (one_bl r1.2.1).1]
          rfl
        · rw [if_neg (by simpa using hi')]
      rw [hin, Option.bind_some, if_neg (by simp), Order_L10 hn hlt]
      exact ⟨_, rfl, by rw [w64 (by omega)]; omega⟩
    · right
      rw [if_neg (by rw [List.length_map]; simpa using hlt)]
      exact ⟨_, rfl, rfl⟩)
  rw [e1, e2]
end

theorem check_none {p0 : List TFrac} {p1 : TFrac} {s : List (List Int)} {e : Int} {l : List (List Int)} (h : target_Sets p0 p1 = some (l, e)) (he : e ≠ 0) : target_Check p0 p1 s = some false := by
  unfold target_Check
  rw [h, Option.bind_some, if_neg (by simpa using he)]
theorem check_eq {p0 : List TFrac} {p1 : TFrac} {s l : List (List Int)} (h : target_Sets p0 p1 = some (l, 0)) : target_Check p0 p1 s = slices_EqualFunc_slices_Equal l s := by
  unfold target_Check
  rw [h, Option.bind_some, if_pos (show ((0 : Int) == 0) = true from rfl)]
  cases slices_EqualFunc_slices_Equal l s <;> rfl

theorem TargetOrder_eq (a0 : List TFrac) (a1 : TFrac) (g0 : ∀ f ∈ a0, FitF f) (g1 : FitF a1) :
    l47_TargetOrder a0 a1 = some true := by
  obtain ⟨b, hb, hfew⟩ := few_eq (l := a0) (g := a1)
  unfold l47_TargetOrder
  rw [small_eq, Option.bind_some, hb, Option.bind_some]
  cases b with
  | false => rfl
  | true =>
  obtain ⟨hlen, hF, hG⟩ := hfew rfl
  rw [if_neg (by simp)]
  obtain ⟨r, hE, hr⟩ := edits_eq hlen g0
  rw [hE, Option.bind_some]
  by_cases h0 : r < 0
  · rw [if_pos (decide_eq_true h0)]; rfl
  rw [if_neg (by simpa using h0)]
  by_cases h5 : r > 5
  · rw [if_pos (decide_eq_true h5)]; rfl
  rw [if_neg (by simpa using h5)]
  rcases hr with hr | ⟨n, hn8, rfl, qs, rfl, hl⟩
  · omega
  have hn : n ≤ 5 := by omega
  have h32 := pow32 hn
  have hq : ∀ q ∈ qs, LF q ≤ 20 := fun q hq => Nat.le_trans (LF_of (hF _ (List.mem_map.2 ⟨q, hq, rfl⟩))) (by decide)
  rw [Option.bind_some, if_neg (by rw [List.length_map, hl, beq_iff_eq]; omega)]
  by_cases hok : okF a1 = true
  rotate_left
  · have hok : okF a1 = false := by simpa using hok
    rw [sets_bad g1 hok hE, Option.bind_some, minimal_bad g1 hok hE, Option.bind_some, check_none (sets_bad g1 hok hE) (by decide)]
    rfl
  obtain ⟨g, rfl⟩ := okF_iff.1 hok
  have hg : LF g ≤ 20 := Nat.le_trans (LF_of hG) (by decide)
  have hS := sets_eq hn hl hq hg hE
  by_cases hms : ms n (rch qs g) = []
  · rw [if_pos hms] at hS
    rw [hS, Option.bind_some, minimal_eq hn hl hq hg hE, if_pos hms, Option.bind_some, check_none hS (by decide)]
    rfl
  rw [if_neg hms] at hS
  obtain ⟨h, t, e⟩ := List.exists_cons_of_ne_nil hms
  have hlM := ms_len (R := rch qs g) hn
  have hlS := st_len (l := ms n (rch qs g))
  have hh : h ∈ ms n (rch qs g) := by rw [e]; exact List.mem_cons_self ..
  have hhR := ms_R hn hh
  have hst : ∃ u, st (ms n (rch qs g)) = h :: u := by
    unfold st
    rw [e, List.takeWhile_cons_of_pos (by simp)]
    exact ⟨_, rfl⟩
  obtain ⟨u, hu⟩ := hst
  have hpos : 0 < (st (ms n (rch qs g))).length := by rw [hu]; simp
  obtain ⟨c, hc1, hc2⟩ := comp_eq hq hg (s := 0) (by omega)
  have hc0 : frac_Compare (mkF (Vq qs 0)) (mkF g) = some c := hc1
  rw [hS, Option.bind_some, minimal_eq hn hl hq hg hE, if_neg hms, Option.bind_some]
  simp only [bne_self_eq_false, Option.bind_some, Bool.false_eq_true, if_false, List.length_map]
  rw [if_neg (by rw [beq_iff_eq]; omega), if_neg (by rw [decide_eq_true_eq]; omega), check_eq hS, equalF_refl (by rw [List.length_map]; omega) (fun x hx => by
      obtain ⟨s, _, rfl⟩ := List.mem_map.1 hx
      have := bl_len s
      omega), Option.bind_some, if_neg (by simp)]
  have hs1 : slc ((st (ms n (rch qs g))).map bl) 1 ((st (ms n (rch qs g))).length : Int) = some (((st (ms n (rch qs g))).map bl).drop 1) := by
    unfold slc
    rw [if_pos (by rw [List.length_map]; omega), show (1 : Int).toNat = 1 from rfl, List.take_of_length_le (by simp)]
  rw [hs1, Option.bind_some, check_eq hS, equalF_len (by simp; omega), Option.bind_some, if_neg (by simp), w64 (by omega), show ((st (ms n (rch qs g))).length : Int) - 1 = (((st (ms n (rch qs g))).length - 1 : Nat) : Int) by omega, slc_nat (by rw [List.length_map]; omega), Option.bind_some, check_eq hS, equalF_len (by simp; omega), Option.bind_some, Option.bind_some, if_neg (by simp), idx_zero, Vq_get (by omega), Option.bind_some, hc0, Option.bind_some, idx_zero, hu]
  simp only [List.map_cons, List.getElem?_cons_zero, Option.bind_some]
  have k0 : rch qs g 0 = true ↔ (bl h).length = 0 := by
    refine ⟨fun hr0 => ?_, fun hb0 => ?_⟩
    · obtain ⟨m, hm, hp⟩ := ms_part hn h32.2 hr0
      have hm0 : m = 0 := by rw [← hp]; exact Nat.and_zero m
      subst hm0
      have := ms_head hn e 0 hm
      have h0' : (bl 0).length = 0 := rfl
      omega
    · have := (one_bl hhR.2.1).2.1 hb0
      rw [← this]
      exact hhR.2.2.1
  have hcond : (if (!(decide (c ≤ 0) == (((bl h).length : Int) == 0))) = true then some true else if (((bl h).length : Int) == 0) = true then some (((ms n (rch qs g)).length : Int) != 1) else some false) = some false := by
    rw [hc2]
    by_cases hb0 : (bl h).length = 0
    · rw [k0.2 hb0, hb0]
      have h00 := (one_bl hhR.2.1).2.1 hb0
      have ht : t = [] := by
        cases t with
        | nil => rfl
        | cons s t =>
          have hsM : s ∈ ms n (rch qs g) := by rw [e]; simp
          have hs := ms_R hn hsM
          have hp := ms_srt (n := n) (R := rch qs g)
          unfold srt at hp
          rw [e] at hp
          have hrk := (List.pairwise_cons.1 hp).1 s (List.mem_cons_self ..)
          have hne : s ≠ h := fun e' => by rw [e'] at hrk; omega
          have := hs.2.2.2 0 (mem_subs.2 ⟨by omega, Nat.zero_and s⟩)
          rw [h00] at hhR
          rw [hhR.2.2.1] at this
          cases this
      rw [e, ht]
      rfl
    · have : rch qs g 0 = false := by
        cases hr : rch qs g 0 with
        | false => rfl
        | true => exact absurd (k0.1 hr) hb0
      rw [this, show (((bl h).length : Int) == 0) = false by rw [beq_eq_false_iff_ne]; omega]
      rfl
  rw [hcond, Option.bind_some, if_neg (by simp)]
  have hL := Order_L6 (R := rch qs g) hn e
  rw [hu] at hL
  rw [List.map_cons] at hL
  rw [hL]
  rfl
end Go.Proofs.Ytadpbhbkdnfbpaa.P
