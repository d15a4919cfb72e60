/- The law TapeSeals. -/
import Derived.Test.YtdecgihkgpgejaaDoorTi
namespace Go.Proofs.YtdecgihkgpgejaaDoor.P
open Go.RowKit
set_option linter.unusedSimpArgs false
set_option linter.unusedVariables false

theorem u16_range {n : Int} (h : (Lit.int .u16 n).wf = true) : 0 ≤ n ∧ n ≤ 65535 := by
  have h' : (decide (IntKind.u16.min ≤ n) && decide (n ≤ IntKind.u16.max)) = true := h
  simp only [Bool.and_eq_true, decide_eq_true_eq] at h'
  exact h'
/-- The things that are put. -/
def leavesL (rows : List (List Int)) (blinds : List Int) (k : Nat) : List TThing := (List.range k).map fun i => TThing.mk (txt (rows.getD i [])) 0 (blinds.getD i 0) (-1) (-1)
def sealsL (k : Nat) : List Int := (List.range k).map fun i => ((i : Nat) : Int)
theorem leavesL_succ (rows : List (List Int)) (blinds : List Int) (k : Nat) : leavesL rows blinds (k + 1) = leavesL rows blinds k ++ [TThing.mk (txt (rows.getD k [])) 0 (blinds.getD k 0) (-1) (-1)] := by
  unfold leavesL
  rw [List.range_succ, List.map_append]
  rfl
theorem sealsL_succ (k : Nat) : sealsL (k + 1) = sealsL k ++ [(k : Int)] := by
  unfold sealsL
  rw [List.range_succ, List.map_append]
  rfl
theorem leavesL_len (rows : List (List Int)) (blinds : List Int) (k : Nat) : (leavesL rows blinds k).length = k := by simp [leavesL]
theorem sealsL_len (k : Nat) : (sealsL k).length = k := by simp [sealsL]
theorem sealsL_at {k i : Nat} {x : Int} (h : (sealsL k)[i]? = some x) : x = i ∧ i < k := by
  have hi := (List.getElem?_eq_some_iff.1 h).1
  rw [sealsL_len] at hi
  simp [sealsL, hi] at h
  exact ⟨h.symm, hi⟩
theorem sealsL_nodup (k : Nat) : (sealsL k).Nodup := by
  refine List.pairwise_iff_getElem.2 fun i j hi hj hij => ?_
  have e1 := sealsL_at (List.getElem?_eq_getElem hi)
  have e2 := sealsL_at (List.getElem?_eq_getElem hj)
  omega
theorem leavesL_idx {rows : List (List Int)} {blinds : List Int} {k i : Nat} (h : i < k) : P.idx (leavesL rows blinds k) (i : Int) = some (TThing.mk (txt (rows.getD i [])) 0 (blinds.getD i 0) (-1) (-1)) := by
  refine idx_of ?_
  simp [leavesL, h]

theorem leafP_of {r : List Int} {b : Int} (h1 : wfL r) (h2 : r.length ≤ 200) (hb : 0 ≤ b ∧ b ≤ 65535) : leafP (TThing.mk (txt r) 0 b (-1) (-1)) := by
  have := txt_size h1 h2
  exact ⟨rfl, rfl, by simp only; omega, ⟨by simp, by simp⟩, ⟨by simp only; omega, by simp only; omega⟩⟩
theorem leavesL_sound {rows : List (List Int)} {blinds : List Int} (hw : ∀ r ∈ rows, wfL r ∧ r.length ≤ 200) (hb : ∀ b ∈ blinds, 0 ≤ b ∧ b ≤ 65535) (hl : rows.length ≤ 1000) (hbl : rows.length ≤ blinds.length) : ∀ k, k ≤ rows.length → soundP (leavesL rows blinds k)
  | 0, _ => soundP_nil
  | k + 1, h => by
    rw [leavesL_succ]
    have hk : k < rows.length := by omega
    have hr := hw _ (List.getElem_mem hk)
    have e1 : rows.getD k [] = rows[k] := by simp [List.getD, hk]
    have hkb : k < blinds.length := by omega
    have e2 : blinds.getD k 0 = blinds[k] := by simp [List.getD, hkb]
    rw [e1, e2]
    exact soundP_leaf (leavesL_sound hw hb hl hbl k (by omega)) (by rw [leavesL_len]; omega) (leafP_of hr.1 hr.2 (hb _ (List.getElem_mem hkb)))

theorem Seals_L2 {rows : List (List Int)} {blinds : List Int} {b : Bool} (hw : ∀ r ∈ rows, wfL r ∧ r.length ≤ 200) (hb : ∀ b ∈ blinds, 0 ≤ b ∧ b ≤ 65535) (hl : rows.length ≤ 100) (hbl : rows.length ≤ blinds.length) :
    loopL (l50_TapeSeals_L2 rows blinds b) (0, [], [], []) = some (.inl (leavesL rows blinds rows.length, sealsL rows.length, blinds.take rows.length)) := by
  have := trajL (body := l50_TapeSeals_L2 rows blinds b) rows.length (fun i => ((i : Int), leavesL rows blinds i, sealsL i, blinds.take i)) (r := .inl (leavesL rows blinds rows.length, sealsL rows.length, blinds.take rows.length)) (by omega) (fun i hi => by
      have hx := List.getElem?_eq_getElem hi
      have hr := hw _ (List.getElem_mem hi)
      have hib : i < blinds.length := by omega
      have hxb := List.getElem?_eq_getElem hib
      have hbr := hb _ (List.getElem_mem hib)
      have hs := txt_size hr.1 hr.2
      have e1 : rows.getD i [] = rows[i] := by simp [List.getD, hi]
      have e2 : blinds.getD i 0 = blinds[i] := by simp [List.getD, hib]
      unfold l50_TapeSeals_L2
      dsimp only
      rw [if_pos (by simp; omega)]
      simp only [idx_of hx, Option.bind_some]
      rw [Text_eq hr.1 hr.2]
      simp only [idx_of hxb, Option.bind_some]
      rw [wrap64 (by omega) (by omega), Leaf_ok (leavesL_sound hw hb (by omega) hbl i (by omega)) (by rw [leavesL_len]; omega) (by omega) ⟨hbr.1, by omega⟩]
      simp only [Option.bind_some, bne_self_eq_false, Bool.false_eq_true, if_false, leavesL_len]
      rw [app_ok (by rw [sealsL_len]; simp; omega) (by omega)]
      simp only [Option.bind_some]
      rw [app_ok (by simp; omega) (by omega)]
      simp only [Option.bind_some, wrap_nat (show i < 4611686018427387904 by omega)]
      rw [leavesL_succ, sealsL_succ, List.take_succ_eq_append_getElem hib, e1, e2]) (by
      unfold l50_TapeSeals_L2
      dsimp only
      rw [if_neg (by simp)])
  simpa [leavesL, sealsL] using this

open Classical in
theorem TapeSeals_eq (a0 : List (List Int)) (a1 : List Int) (a2 a3 a4 : Int) (a5 : List Int) (a6 : Int) (h0 : a0.length * 24 ≤ 140737488351232 ∧ ∀ y ∈ a0, (y.length * 8 ≤ 140737488351232 ∧ ∀ z ∈ y, (Lit.int .i64 z).wf = true))
    (h1 : a1.length * 2 ≤ 140737488351232 ∧ ∀ y ∈ a1, (Lit.int .u16 y).wf = true) (h4 : (Lit.int .u8 a4).wf = true) (h5 : a5.length * 8 ≤ 140737488351232 ∧ ∀ y ∈ a5, (Lit.int .i64 y).wf = true) : l50_TapeSeals a0 a1 a2 a3 a4 a5 a6 = some true := by
  have hw0 : ∀ r ∈ a0, r.length < 4611686018427387904 ∧ wfL r := fun r hr => ⟨by have := (h0.2 r hr).1; omega, fun x hx => wf_range ((h0.2 r hr).2 x hx)⟩
  have hw5 : wfL a5 := fun x hx => wf_range (h5.2 x hx)
  have hb : ∀ b ∈ a1, 0 ≤ b ∧ b ≤ 65535 := fun b hb => u16_range (h1.2 b hb)
  unfold l50_TapeSeals
  rw [sane_eq]
  simp only [Option.bind_some]
  obtain ⟨b1, e1, k1⟩ := Few_eq a0 (by omega)
  obtain ⟨b2, e2, k2⟩ := FewRow_eq a5
  rw [e1]
  simp only [Option.bind_some]
  cases b1 with
  | false => rfl
  | true =>
  rw [if_neg (by simp), e2]
  simp only [Option.bind_some]
  cases b2 with
  | false => rfl
  | true =>
  rw [if_neg (by simp)]
  by_cases g1 : (a0.length : Int) > 6
  · rw [if_pos (by simp; omega)]; rfl
  rw [if_neg (by simp; omega)]
  by_cases g2 : a0.length = 0
  · rw [if_pos (by simpa using g2)]; rfl
  rw [if_neg (by simpa using g2)]
  simp only [Option.bind_some]
  by_cases g3 : (a1.length : Int) < a0.length
  · rw [if_pos (by simp; omega)]
  rw [if_neg (by simp; omega)]
  have hr0 : ∀ r ∈ a0, wfL r ∧ r.length ≤ 200 := fun r hr => ⟨(hw0 r hr).2, by have := (k1 rfl).2 r hr; omega⟩
  rw [Seals_L2 hr0 hb (by omega) (by omega)]
  simp only [Option.bind_some]
  have hsl := sealsL_len a0.length
  have hsd := leavesL_sound hr0 hb (by omega) (by omega) a0.length (Nat.le_refl _)
  have hbl : (a1.take a0.length).length = a0.length := by simp; omega
  have hopen : ∀ (rows : List (List Int)) (bl : List Int), rows.length = a0.length → bl.length = a0.length → (∀ r ∈ rows, r.length < 4611686018427387904 ∧ wfL r) →
      tape_Open ⟨leavesL a0 a1 a0.length⟩ (sealsL a0.length) rows bl a2 a3 = some (if tOk rows a2 a3 then (if (∀ i, i < a0.length → txt (a0.getD i []) = txt (rows.getD i []) ∧ a1.getD i 0 = bl.getD i 0) then (tp rows a2 a3.toNat, 0) else ([], 22)) else ([], 1)) := by
    intro rows bl q1 q2 q3
    rw [Open_eq (by omega) q3 (by omega)]
    unfold openR
    by_cases hok : tOk rows a2 a3
    · rw [if_pos hok, if_pos hok, if_neg (by rw [hsl]; omega), if_neg (by simp [sealsL_nodup])]
      have : allOpen ⟨leavesL a0 a1 a0.length⟩ (sealsL a0.length) rows bl ↔ (∀ i, i < a0.length → txt (a0.getD i []) = txt (rows.getD i []) ∧ a1.getD i 0 = bl.getD i 0) := by
        unfold allOpen
        constructor
        · intro h i hi
          have hx : (sealsL a0.length)[i]? = some ((i : Nat) : Int) := by simp [sealsL, hi]
          obtain ⟨_, y, y1, y2, y3, y4⟩ := h i _ hx
          rw [leavesL_idx hi] at y1
          cases y1
          exact ⟨y2, y4⟩
        · intro h i x hx
          obtain ⟨rfl, hi⟩ := sealsL_at hx
          exact ⟨hsd, _, leavesL_idx hi, (h i hi).1, rfl, (h i hi).2⟩
      by_cases hall : (∀ i, i < a0.length → txt (a0.getD i []) = txt (rows.getD i []) ∧ a1.getD i 0 = bl.getD i 0)
      · rw [if_pos hall, if_pos (this.2 hall)]
      · rw [if_neg hall, if_neg (fun h => hall (this.1 h))]
    · rw [if_neg hok, if_neg hok]
  have hget : ∀ i, i < a0.length → a1.getD i 0 = (a1.take a0.length).getD i 0 := fun i hi => by simp only [List.getD]; rw [List.getElem?_take_of_lt hi]
  rw [Tape_eq (by omega) (fun r hr => (hw0 r hr).1), hopen a0 (a1.take a0.length) rfl hbl hw0, if_pos (fun i hi => ⟨rfl, hget i hi⟩)]
  simp only [Option.bind_some, bne_self_eq_false, Bool.false_eq_true, if_false]
  have htl : (if tOk a0 a2 a3 then (tp a0 a2 a3.toNat, (0 : Int)) else ([], 1)).1.length < 4611686018427387904 := by
    split
    · rename_i hok; have := hok.2.1; rw [tp_len]; omega
    · simp
  rw [sameI_eq htl]
  simp only [Option.bind_some, decide_true, Bool.not_true, Bool.false_eq_true, if_false]
  by_cases hok : tOk a0 a2 a3
  rotate_left
  · rw [if_neg hok]
    rfl
  rw [if_pos hok]
  simp only [bne_self_eq_false, Bool.false_eq_true, if_false]
  obtain ⟨P, hP, hm⟩ := mod_u8 (n := a0.length) (u8_range h4) (by omega)
  rw [hm]
  simp only [Option.bind_some]
  rw [app_ok (by simp; omega) (by omega)]
  simp only [Option.bind_some, idx_of (List.getElem?_eq_getElem hP), Int.toNat_natCast]
  have hmem : ∀ r ∈ a0.set P a5, r.length < 4611686018427387904 ∧ wfL r := fun r hr => by
    rcases List.mem_or_eq_of_mem_set hr with hr | rfl
    · exact hw0 r hr
    · exact ⟨by omega, hw5⟩
  have hset : ∀ i, (a0.set P a5).getD i [] = if i = P then a5 else a0.getD i [] := fun i => by
    simp only [List.getD, List.getElem?_set]
    by_cases h : P = i
    · subst h; rw [if_pos rfl, if_pos hP, if_pos rfl]; rfl
    · have h' : ¬ i = P := fun e => h e.symm
      rw [if_neg h, if_neg h']
  have hgP : a0.getD P [] = a0[P] := by simp [List.getD, hP]
  have hother : ∃ r, tape_Open ⟨leavesL a0 a1 a0.length⟩ (sealsL a0.length) (a0.set P a5) (a1.take a0.length) a2 a3 = some r ∧ (a5 ≠ a0[P] → r.2 ≠ 0 ∧ r.1 = []) := by
    rw [hopen (a0.set P a5) (a1.take a0.length) (by simp) hbl hmem]
    refine ⟨_, rfl, fun hne => ?_⟩
    by_cases hok2 : tOk (a0.set P a5) a2 a3
    · rw [if_pos hok2, if_neg]
      · exact ⟨by simp, rfl⟩
      · intro h
        have := (h P hP).1
        rw [hset P, if_pos rfl, hgP] at this
        exact hne (txt_inj this).symm
    · rw [if_neg hok2]
      exact ⟨by simp, rfl⟩
  obtain ⟨r, hr, hr2⟩ := hother
  rw [hr]
  simp only [Option.bind_some]
  rw [sameI_eq (by omega)]
  simp only [Option.bind_some]
  have hPb : P < (a1.take a0.length).length := by omega
  have hlast : ∃ r, tape_Open ⟨leavesL a0 a1 a0.length⟩ (sealsL a0.length) a0 ((a1.take a0.length).set P a6) a2 a3 = some r ∧ (r.2 = 0 ↔ a6 = (a1.take a0.length)[P]) := by
    rw [hopen a0 ((a1.take a0.length).set P a6) rfl (by rw [List.length_set, hbl]) hw0, if_pos hok]
    refine ⟨_, rfl, ?_⟩
    have hs2 : ∀ i, i < a0.length → ((a1.take a0.length).set P a6).getD i 0 = if i = P then a6 else a1.getD i 0 := fun i hi => by
      rw [hget i hi]
      simp only [List.getD, List.getElem?_set]
      by_cases h : P = i
      · subst h; rw [if_pos rfl, if_pos hPb, if_pos rfl]; rfl
      · have h' : ¬ i = P := fun e => h e.symm
        rw [if_neg h, if_neg h']
    have hg2 : a1.getD P 0 = (a1.take a0.length)[P] := by
      rw [hget P hP]
      simp only [List.getD]
      rw [List.getElem?_eq_getElem hPb]
      rfl
    by_cases he : a6 = (a1.take a0.length)[P]
    · rw [if_pos]
      · exact ⟨fun _ => he, fun _ => rfl⟩
      · intro i hi
        refine ⟨rfl, ?_⟩
        rw [hs2 i hi]
        by_cases h : i = P
        · rw [if_pos h, he, h, hg2]
        · rw [if_neg h]
    · rw [if_neg]
      · exact ⟨fun h => absurd h (by decide), fun h => absurd h he⟩
      · intro h
        have := (h P hP).2
        rw [hs2 P hP, if_pos rfl, hg2] at this
        exact he this.symm
  obtain ⟨q, hq, hq2⟩ := hlast
  have hfin : ((appL 8 [] (a1.take a0.length)).bind fun _ => (idx (a1.take a0.length) (P : Int)).bind fun x48 => (tape_Open ⟨leavesL a0 a1 a0.length⟩ (sealsL a0.length) a0 ((a1.take a0.length).set P a6) a2 a3).bind fun r51 => some ((r51.2 == 0) == (a6 == x48))) = some true := by
    rw [app_ok (by simp; omega) (by omega), idx_of (List.getElem?_eq_getElem hPb), hq]
    simp only [Option.bind_some]
    by_cases he : a6 = (a1.take a0.length)[P]
    · have := hq2.2 he
      simp [he, this]
    · have : ¬ q.2 = 0 := fun h => he (hq2.1 h)
      have e1 : (q.2 == 0) = false := by simpa using this
      have e2 : (a6 == (a1.take a0.length)[P]) = false := by simpa using he
      rw [e1, e2]
      rfl
  by_cases hne : a5 = a0[P]
  · rw [if_neg (by simp [hne])]
    simp only [Option.bind_some, Bool.false_eq_true, if_false, if_true]
    exact hfin
  · obtain ⟨r1, r2⟩ := hr2 hne
    rw [if_pos (by simp [hne]), if_neg (by simpa using r1), r2]
    simp only [Option.bind_some]
    rw [if_neg (by simp)]
    simp only [if_true]
    exact hfin
end Go.Proofs.YtdecgihkgpgejaaDoor.P
