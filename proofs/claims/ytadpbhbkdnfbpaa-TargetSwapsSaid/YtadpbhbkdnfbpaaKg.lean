/- The law of the swaps. -/
import Derived.Test.YtadpbhbkdnfbpaaKe
namespace Go.Proofs.Ytadpbhbkdnfbpaa.P
open Go.RowKit
set_option linter.unusedSimpArgs false
set_option linter.unusedVariables false

/-- The set with two edits exchanged. -/
def sw (a b s : Nat) : Nat := if s.testBit a = s.testBit b then s else (s ^^^ 2 ^ a) ^^^ 2 ^ b
theorem sw_all : ((List.range 6).all fun n => (List.range n).all fun a => (List.range n).all fun b => (List.range (2 ^ n)).all fun s => (l47_swapped (s : Int) (a : Int) (b : Int) == some ((sw a b s : Nat) : Int)) && decide (sw a b s < 2 ^ n) && (sw a b (sw a b s) == s)) = true := by decide +kernel
theorem sw_fact {n a b s : Nat} (hn : n ≤ 5) (ha : a < n) (hb : b < n) (hs : s < 2 ^ n) : l47_swapped (s : Int) (a : Int) (b : Int) = some ((sw a b s : Nat) : Int) ∧ sw a b s < 2 ^ n ∧ sw a b (sw a b s) = s := by
  have hh := sw_all
  simp only [List.all_eq_true, List.mem_range, beq_iff_eq, Bool.and_eq_true, decide_eq_true_eq] at hh
  obtain ⟨⟨h1, h2⟩, h3⟩ := hh n (by omega) a ha b hb s hs
  exact ⟨h1, h2, h3⟩
theorem sw_part_all : ((List.range 5).all fun a => (List.range 5).all fun b => (List.range 32).all fun s => (List.range 32).all fun t => !(t &&& s == t) || (sw a b t &&& sw a b s == sw a b t)) = true := by decide +kernel
theorem sw_part {a b s t : Nat} (ha : a < 5) (hb : b < 5) (hs : s < 32) (ht : t < 32) (h : t &&& s = t) : sw a b t &&& sw a b s = sw a b t := by
  have hh := sw_part_all
  simp only [List.all_eq_true, List.mem_range] at hh
  have := hh a ha b hb s hs t ht
  simpa [h] using this

section
variable {R R' : Nat → Bool} {n a b : Nat}
theorem mn_sw (hn : n ≤ 5) (ha : a < n) (hb : b < n) (hR : ∀ s, s < 2 ^ n → R' s = R (sw a b s)) {s : Nat} (hs : s < 2 ^ n) (h : mn R s = true) : mn R' (sw a b s) = true := by
  have h32 := (pow32 hn).1
  have f := sw_fact hn ha hb hs
  unfold mn at h ⊢
  rw [Bool.and_eq_true] at h ⊢
  refine ⟨by rw [hR _ f.2.1, f.2.2]; exact h.1, List.all_eq_true.2 (fun t ht => ?_)⟩
  obtain ⟨t1, t2⟩ := mem_subs.1 ht
  have ft := sw_fact hn ha hb (s := t) (by omega)
  have hp := sw_part (a := a) (b := b) (by omega) (by omega) (s := sw a b s) (t := t) (by omega) (by omega) t2
  rw [f.2.2] at hp
  rw [hR t (by omega)]
  refine List.all_eq_true.1 h.2 _ (mem_subs.2 ⟨?_, hp⟩)
  have hle : sw a b t ≤ s := by rw [← hp]; exact Nat.and_le_right
  have hne : sw a b t ≠ s := fun e => by
    have : sw a b (sw a b t) = sw a b s := by rw [e]
    rw [ft.2.2] at this
    omega
  omega
theorem mem_sw (hn : n ≤ 5) (ha : a < n) (hb : b < n) (hR : ∀ s, s < 2 ^ n → R' s = R (sw a b s)) {s : Nat} (h : s ∈ ms n R) : sw a b s ∈ ms n R' := by
  have h1 := (mem_ms hn).1 h
  exact (mem_ms hn).2 ⟨(sw_fact hn ha hb h1.1).2.1, mn_sw hn ha hb hR h1.1 h1.2⟩
theorem len_sw (hn : n ≤ 5) (ha : a < n) (hb : b < n) (hR : ∀ s, s < 2 ^ n → R' s = R (sw a b s)) : (ms n R').length = (ms n R).length := by
  have hR' : ∀ s, s < 2 ^ n → R s = R' (sw a b s) := fun s hs => by
    have f := sw_fact hn ha hb hs
    rw [hR _ f.2.1, f.2.2]
  have hnd : ∀ R : Nat → Bool, (ms n R).Nodup := fun R => List.Pairwise.filter _ (show ord5.Nodup by decide)
  have : (ms n R').Perm ((ms n R).map (sw a b)) := by
    refine (List.perm_ext_iff_of_nodup (hnd R') ?_).2 (fun x => ?_)
    · unfold List.Nodup
      rw [List.pairwise_map]
      refine List.Pairwise.imp_of_mem (fun {x y} hx hy hne e => ?_) (hnd R)
      have fx := sw_fact hn ha hb ((mem_ms hn).1 hx).1
      have fy := sw_fact hn ha hb ((mem_ms hn).1 hy).1
      rw [e, fy.2.2] at fx
      exact hne fx.2.2.symm
    · rw [List.mem_map]
      refine ⟨fun hx => ⟨sw a b x, mem_sw hn ha hb hR' hx, (sw_fact hn ha hb ((mem_ms hn).1 hx).1).2.2⟩, ?_⟩
      rintro ⟨y, hy, rfl⟩
      exact mem_sw hn ha hb hR hy
  rw [this.length_eq, List.length_map]
end

theorem Swaps_L2 {qs : List Rat} {n a b : Nat} (hn : n ≤ 5) (ha : a < n) (hb : b < n) (hl : qs.length = 2 ^ n) :
    loopL (l47_TargetSwaps_L2 (qs.map mkF) (a : Int) (b : Int)) (0, List.replicate (2 ^ n) (TFrac.mk (TBig.mk 0 []) (TBig.mk 0 []))) = some (((List.range (2 ^ n)).map (fun s => Vq qs (sw a b s))).map mkF) := by
  have h32 := pow32 hn
  obtain ⟨r, h1, h2⟩ := loop_nat (body := l47_TargetSwaps_L2 (qs.map mkF) (a : Int) (b : Int))
    (I := fun i st => st = ((i : Int), (List.range (2 ^ n)).map (fun t => if sw a b t < i then mkF (Vq qs (sw a b t)) else TFrac.mk (TBig.mk 0 []) (TBig.mk 0 [])))) (2 ^ n)
    (fun r => r = ((List.range (2 ^ n)).map (fun s => Vq qs (sw a b s))).map mkF) (s := (0, List.replicate (2 ^ n) (TFrac.mk (TBig.mk 0 []) (TBig.mk 0 [])))) (by
      congr 1
      refine List.ext_getElem (by simp) (fun i h1 h2 => by simp)) (lenFU (by omega)) (by
      rintro i st hi rfl
      simp only [l47_TargetSwaps_L2]
      rw [List.length_map, hl]
      by_cases hin : i < 2 ^ n
      · left
        refine ⟨hin, ?_⟩
        have f := sw_fact hn ha hb hin
        rw [if_pos (decide_eq_true (by omega)), f.1, Option.bind_some, idx_opt, Vq_get (by omega), Option.bind_some, idx_opt, List.getElem?_eq_getElem (by simpa using f.2.1), Option.bind_some, Int.toNat_natCast]
        refine ⟨_, rfl, ?_⟩
        rw [w64 (by omega)]
        congr 1
        refine List.ext_getElem (by simp) (fun t ht1 ht2 => ?_)
        have htn : t < 2 ^ n := by simpa using ht2
        have ft := sw_fact hn ha hb htn
        rw [List.getElem_set]
        simp only [List.getElem_map, List.getElem_range]
        by_cases he : sw a b i = t
        · rw [if_pos he]
          have : sw a b t = i := by rw [← he]; exact f.2.2
          rw [this, if_pos (by omega)]
        · rw [if_neg he]
          have : sw a b t ≠ i := fun e => he (by rw [← e]; exact ft.2.2)
          by_cases hlt : sw a b t < i
          · rw [if_pos hlt, if_pos (by omega)]
          · rw [if_neg hlt, if_neg (by omega)]
      · right
        have : i = 2 ^ n := by omega
        subst this
        rw [if_neg (by simp)]
        refine ⟨_, rfl, ?_⟩
        rw [List.map_map]
        refine List.map_congr_left (fun t ht => ?_)
        rw [if_pos (sw_fact hn ha hb (List.mem_range.1 ht)).2.1]
        rfl)
  rw [h1, h2]

theorem Swaps_L6 {M M' : List Nat} {n a b p : Nat} {e e' : Int} (hn : n ≤ 5) (ha : a < n) (hb : b < n) (hM : ∀ s ∈ M, s < 2 ^ n) (hM' : ∀ s ∈ M', s < 2 ^ n) (hl : M'.length ≤ 1000) (hp : p < M.length) :
    loopL (l47_TargetSwaps_L6 (n : Int) (a : Int) (b : Int) (M.map bl, e) (M'.map bl, e') (p : Int)) (false, 0) = some (M'.any (fun x => sw a b M[p] == x)) := by
  obtain ⟨r, h1, h2⟩ := loop_nat (body := l47_TargetSwaps_L6 (n : Int) (a : Int) (b : Int) (M.map bl, e) (M'.map bl, e') (p : Int))
    (I := fun i st => st = ((M'.take i).any (fun x => sw a b M[p] == x), (i : Int))) M'.length (fun r => r = M'.any (fun x => sw a b M[p] == x)) (s := (false, 0)) (by simp) (lenFU (by omega)) (by
      rintro i st hi rfl
      simp only [l47_TargetSwaps_L6]
      by_cases hlt : i < M'.length
      · left
        refine ⟨hlt, ?_⟩
        have k1 := hM _ (List.getElem_mem hp)
        have k2 := hM' _ (List.getElem_mem hlt)
        have ew : IntKind.i64.wrap ((i : Int) + 1) = ((i + 1 : Nat) : Int) := by rw [w64 (by omega)]; omega
        rw [if_pos (decide_eq_true (by rw [List.length_map]; omega)), idx_opt, List.getElem?_map, List.getElem?_eq_getElem hp, Option.map_some, Option.bind_some, bits_bl hn k1, Option.bind_some, idx_opt, List.getElem?_map, List.getElem?_eq_getElem hlt, Option.map_some, Option.bind_some, bits_bl hn k2, Option.bind_some, ew, List.take_add_one, List.getElem?_eq_getElem hlt, Option.toList_some, List.any_append]
        cases (M'.take i).any (fun x => sw a b M[p] == x) with
        | true => rw [if_pos rfl]; exact ⟨_, rfl, rfl⟩
        | false =>
          rw [if_neg (by simp), if_pos (decide_eq_true (by omega)), if_pos (decide_eq_true (by omega)), (sw_fact hn ha hb k1).1, Option.bind_some]
          refine ⟨_, rfl, ?_⟩
          congr 1
          rw [List.any_cons, List.any_nil, Bool.or_false, Bool.false_or, Bool.eq_iff_iff, beq_iff_eq, beq_iff_eq]
          omega
      · right
        have : i = M'.length := by omega
        subst this
        rw [if_neg (by rw [List.length_map]; simp), List.take_length]
        exact ⟨_, rfl, rfl⟩)
  rw [h1, h2]

theorem TargetSwaps_eq (a0 : List TFrac) (a1 : TFrac) (a2 a3 : Int) (g0 : ∀ f ∈ a0, FitF f) (g1 : FitF a1) (h2 : (Lit.int .u8 a2).wf = true) (h3 : (Lit.int .u8 a3).wf = true) :
    l47_TargetSwaps a0 a1 a2 a3 = some true := by
  obtain ⟨b, hb, hfew⟩ := few_eq (l := a0) (g := a1)
  unfold l47_TargetSwaps
  rw [small_eq, Option.bind_some, hb, Option.bind_some]
  cases b with
  | false => rfl
  | true =>
  obtain ⟨hlen, hF, hG⟩ := hfew rfl
  rw [if_neg (by simp)]
  obtain ⟨r, hE, hr⟩ := edits_eq hlen g0
  rw [hE, Option.bind_some]
  by_cases h0 : r < 1
  · rw [if_pos (decide_eq_true h0)]; rfl
  rw [if_neg (by simpa using h0)]
  by_cases h5 : r > 5
  · rw [if_pos (decide_eq_true h5)]; rfl
  rw [if_neg (by simpa using h5)]
  rcases hr with hr | ⟨n, hn8, rfl, qs, rfl, hl⟩
  · omega
  have hn : n ≤ 5 := by omega
  have h32 := pow32 hn
  have hq : ∀ q ∈ qs, LF q ≤ 20 := fun q hq => Nat.le_trans (LF_of (hF _ (List.mem_map.2 ⟨q, hq, rfl⟩))) (by decide)
  obtain ⟨a, ha, ea⟩ := mod_small h2 (show 0 < n by omega)
  obtain ⟨b, hb', eb⟩ := mod_small h3 (show 0 < n by omega)
  have hmk : mkL 64 ((2 ^ n : Nat) : Int) ((2 ^ n : Nat) : Int) (TFrac.mk (TBig.mk 0 ([])) (TBig.mk 0 ([]))) = some (List.replicate (2 ^ n) (TFrac.mk (TBig.mk 0 ([])) (TBig.mk 0 ([])))) := by
    unfold mkL
    rw [if_pos (by have : maxLen = 9223372036854775807 := rfl; simp only [Int.toNat_natCast]; omega), Int.toNat_natCast]
  rw [show (if (5 : Int) < (if (0 : Int) > (n : Int) then 0 else (n : Int)) then 5 else (if (0 : Int) > (n : Int) then 0 else (n : Int))) = (n : Int) by rw [if_neg (by omega : ¬ (0 : Int) > (n : Int)), if_neg (by omega)], shl1 n (by omega), Option.bind_some, List.length_map, hl, Option.bind_some, if_neg (by simp), ea, Option.bind_some, eb, Option.bind_some, hmk, Option.bind_some, Swaps_L2 hn ha hb' hl, Option.bind_some]
  generalize hws : (List.range (2 ^ n)).map (fun s => Vq qs (sw a b s)) = ws
  have hlw : ws.length = 2 ^ n := by rw [← hws]; simp
  have hw : ∀ q ∈ ws, LF q ≤ 20 := fun q hq' => by
    rw [← hws] at hq'
    obtain ⟨s, hs, rfl⟩ := List.mem_map.1 hq'
    exact Vq_LF hq (by rw [hl]; exact (sw_fact hn ha hb' (List.mem_range.1 hs)).2.1)
  have hVw : ∀ s, s < 2 ^ n → Vq ws s = Vq qs (sw a b s) := fun s hs => by
    rw [← hws]
    conv => lhs; unfold Vq
    rw [List.getD_eq_getElem?_getD, List.getElem?_map, List.getElem?_range hs]
    rfl
  have hE' : target_Edits (ws.map mkF) = some (n : Int) := by
    rw [edits_same hlen g0 (fun f hf => by
      obtain ⟨q, hq', rfl⟩ := List.mem_map.1 hf
      exact FitF_mk (by have := hw q hq'; unfold Lmax; omega)) (by simp [hlw, hl]) (by
      rw [List.all_eq_true.2 (fun f hf => by obtain ⟨q, _, rfl⟩ := List.mem_map.1 hf; exact okF_mk q), List.all_eq_true.2 (fun f hf => by obtain ⟨q, _, rfl⟩ := List.mem_map.1 hf; exact okF_mk q)]), hE]
  by_cases hok : okF a1 = true
  rotate_left
  · have hok : okF a1 = false := by simpa using hok
    rw [minimal_bad g1 hok hE, Option.bind_some, minimal_bad g1 hok hE', Option.bind_some]
    obtain ⟨r, h1, h2⟩ := loop_nat (body := l47_TargetSwaps_L4 (n : Int) (a : Int) (b : Int) ([], 1) ([], 1)) (I := fun i s => s = 0) 0 (fun r => r = .inl ()) (s := 0) rfl (lenFU (by omega)) (by
      rintro i s hi rfl
      right
      exact ⟨_, rfl, rfl⟩)
    simp only [bne_self_eq_false, Bool.false_eq_true, if_false, Option.bind_some]
    rw [h1, h2]
    rfl
  obtain ⟨g, rfl⟩ := okF_iff.1 hok
  have hg : LF g ≤ 20 := Nat.le_trans (LF_of hG) (by decide)
  have hR : ∀ s, s < 2 ^ n → rch ws g s = rch qs g (sw a b s) := fun s hs => by unfold rch; rw [hVw s hs]
  have hls := len_sw hn ha hb' hR
  rw [minimal_eq hn hl hq hg hE, Option.bind_some, minimal_eq hn hlw hw hg hE', Option.bind_some]
  have hlM := ms_len (R := rch qs g) hn
  have hS : ∃ e : Int, (if ms n (rch qs g) = [] then ([], 4) else ((ms n (rch qs g)).map bl, 0)) = ((ms n (rch qs g)).map bl, e) ∧ (if ms n (rch ws g) = [] then ([], 4) else ((ms n (rch ws g)).map bl, 0)) = ((ms n (rch ws g)).map bl, e) := by
    by_cases hms : ms n (rch qs g) = []
    · have : ms n (rch ws g) = [] := by rw [hms] at hls; exact List.length_eq_zero_iff.1 hls
      rw [if_pos hms, if_pos this, hms, this]
      exact ⟨4, rfl, rfl⟩
    · have : ms n (rch ws g) ≠ [] := fun h => by rw [h] at hls; exact hms (List.length_eq_zero_iff.1 hls.symm)
      rw [if_neg hms, if_neg this]
      exact ⟨0, rfl, rfl⟩
  obtain ⟨e, e1, e2⟩ := hS
  rw [e1, e2]
  simp only [bne_self_eq_false, Bool.false_eq_true, if_false, Option.bind_some, List.length_map, hls]
  obtain ⟨r, h1, h2⟩ := loop_nat (body := l47_TargetSwaps_L4 (n : Int) (a : Int) (b : Int) ((ms n (rch qs g)).map bl, e) ((ms n (rch ws g)).map bl, e)) (I := fun i s => s = (i : Int)) (ms n (rch qs g)).length (fun r => r = .inl ()) (s := 0) rfl (lenFU (by omega)) (by
    rintro i s hi rfl
    simp only [l47_TargetSwaps_L4]
    by_cases hlt : i < (ms n (rch qs g)).length
    · left
      refine ⟨hlt, ?_⟩
      have hany : (ms n (rch ws g)).any (fun x => sw a b (ms n (rch qs g))[i] == x) = true := List.any_eq_true.2 ⟨_, mem_sw hn ha hb' hR (List.getElem_mem hlt), by simp⟩
      rw [if_pos (decide_eq_true (by rw [List.length_map]; omega)), Swaps_L6 hn ha hb' (fun s hs => ((mem_ms hn).1 hs).1) (fun s hs => ((mem_ms hn).1 hs).1) (by omega) hlt, Option.bind_some, hany, if_neg (by simp)]
      exact ⟨_, rfl, by rw [w64 (by omega)]; omega⟩
    · right
      rw [if_neg (by rw [List.length_map]; simpa using hlt)]
      exact ⟨_, rfl, rfl⟩)
  rw [h1, h2]
  rfl
end Go.Proofs.Ytadpbhbkdnfbpaa.P
