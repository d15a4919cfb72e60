/- FirmMore. -/
import Derived.Test.YtnnkcegdkhclcaaLg
namespace Go.Proofs.Ytnnkcegdkhclcaa.P
open Go.RowKit
set_option linter.unusedSimpArgs false
set_option linter.unusedVariables false

theorem mod_small {x : Int} {n : Nat} (hx : (Lit.int .u8 x).wf = true) (hn : 0 < n) : ∃ a : Nat, a < n ∧ modI .i64 (IntKind.i64.wrap x) (n : Int) = some (a : Int) := by
  have hx : 0 ≤ x ∧ x ≤ 255 := by
    simpa [Lit.wf, IntKind.min, IntKind.max, IntKind.signed, IntKind.bits] using hx
  refine ⟨(x.tmod n).toNat, ?_, ?_⟩
  · have h1 := Int.tmod_lt_of_pos x (show (0 : Int) < n by omega)
    have h2 := Int.tmod_nonneg (n : Int) hx.1
    omega
  · unfold modI
    have h2 := Int.tmod_nonneg (n : Int) hx.1
    rw [if_neg (by omega), wrap64 (by omega) (by omega), Int.toNat_of_nonneg h2]
theorem slc_from {α : Type} {l : List α} {i : Nat} (h : i ≤ l.length) : slc l (i : Int) (l.length : Int) = some (l.drop i) := by
  unfold slc
  rw [if_pos ⟨by omega, by omega, by omega⟩]
  simp only [Int.toNat_natCast]
  rw [List.take_of_length_le (by simp)]

theorem Rch.mono {ds es : List TDeed} (hm : ∀ d ∈ ds, d ∈ es) {day h x : Int} (a : Rch ds day h x) : Rch es day h x := by
  induction a with
  | refl => exact .refl
  | step _ hd he hday ho ih => exact .step ih (hm _ hd) he hday ho
theorem bool_eq_iff {a b : Bool} (h : a = true ↔ b = true) : a = b := by
  cases a <;> cases b <;> simp_all
theorem endd_mem {ds es : List TDeed} (hu : (houses ds).Nodup) (hu' : (houses es).Nodup) (hm : ∀ d, d ∈ ds ↔ d ∈ es) (x day : Int) : endd ds x day = endd es x day := by
  refine bool_eq_iff ?_
  rw [endd_iff hu, endd_iff hu']
  constructor
  · rintro ⟨d, h1, h2⟩; exact ⟨d, (hm d).1 h1, h2⟩
  · rintro ⟨d, h1, h2⟩; exact ⟨d, (hm d).2 h1, h2⟩
theorem Ok.perm {ds es : List TDeed} (hv : Ok ds) (hp : ds.Perm es) : Ok es := by
  have hm : ∀ d, d ∈ ds ↔ d ∈ es := fun d => hp.mem_iff
  have hu : (houses es).Nodup := (hp.map (fun d : TDeed => d.f_House)).nodup_iff.1 hv.uniq
  exact ⟨by rw [← hp.length_eq]; exact hv.len, fun d hd => hv.fits d ((hm d).2 hd), fun d hd => hv.day d ((hm d).2 hd), hu, fun d hd o ho => by
    rw [← endd_mem hv.uniq hu hm]
    exact hv.second d ((hm d).2 hd) o ho⟩
theorem AL_perm {ds es : List TDeed} (hw : W ds) (hw' : W es) (hv : Ok ds) (hp : ds.Perm es) (o day : Int) : AL es day o = AL ds day o := by
  have hv' := hv.perm hp
  cases hh : hs o with
  | false => rw [AL_no hw hh, AL_no hw' hh]
  | true =>
    obtain ⟨a1, a2⟩ := AL_ok hw hv day hh
    obtain ⟨b1, b2⟩ := AL_ok hw' hv' day hh
    refine asc_unique b1 a1 fun x => ?_
    rw [a2 x, b2 x, endd_mem hv.uniq hv'.uniq (fun d => hp.mem_iff)]
    constructor
    · rintro ⟨h1, h2⟩; exact ⟨h1.mono fun d hd => hp.mem_iff.2 hd, h2⟩
    · rintro ⟨h1, h2⟩; exact ⟨h1.mono fun d hd => hp.mem_iff.1 hd, h2⟩

/-! One deed more. -/
section
variable {ds : List TDeed} {d : TDeed}
theorem mem_more {e : TDeed} : e ∈ ds ++ [d] ↔ e ∈ ds ∨ e = d := by simp
theorem more_fresh (hu : (houses (ds ++ [d])).Nodup) : ∀ e ∈ ds, e.f_House ≠ d.f_House := by
  simp only [houses, List.map_append, List.map_cons, List.map_nil] at hu
  intro e he heq
  have := (List.nodup_append.1 hu).2.2 e.f_House (List.mem_map.2 ⟨e, he, rfl⟩) d.f_House (by simp)
  exact this heq
theorem endd_more (hv : Ok ds) (hv' : Ok (ds ++ [d])) {x day : Int} : endd (ds ++ [d]) x day = (endd ds x day || (decide (x = d.f_House) && decide (d.f_Day ≤ day))) := by
  refine bool_eq_iff ?_
  rw [endd_iff hv'.uniq, Bool.or_eq_true, endd_iff hv.uniq, Bool.and_eq_true, decide_eq_true_eq, decide_eq_true_eq]
  constructor
  · rintro ⟨e, h1, h2, h3⟩
    rcases mem_more.1 h1 with h1 | rfl
    · exact .inl ⟨e, h1, h2, h3⟩
    · exact .inr ⟨h2.symm, h3⟩
  · rintro (⟨e, h1, h2, h3⟩ | ⟨h1, h2⟩)
    · exact ⟨e, mem_more.2 (.inl h1), h2, h3⟩
    · exact ⟨d, mem_more.2 (.inr rfl), h1.symm, h2⟩
/-- A deed that is not yet in force, or whose house may not answer, changes nothing. -/
theorem AL_more_same (hw : W ds) (hw' : W (ds ++ [d])) (hv : Ok ds) (hv' : Ok (ds ++ [d])) {h day : Int} (hc : day < d.f_Day ∨ d.f_House ∉ AL ds day h) : AL (ds ++ [d]) day h = AL ds day h := by
  cases hh : hs h with
  | false => rw [AL_no hw hh, AL_no hw' hh]
  | true =>
    obtain ⟨a1, a2⟩ := AL_ok hw hv day hh
    obtain ⟨b1, b2⟩ := AL_ok hw' hv' day hh
    have hfr := more_fresh hv'.uniq
    have hnot : day < d.f_Day ∨ ¬ Rch ds day h d.f_House := by
      rcases hc with hc | hc
      · exact .inl hc
      · right
        intro hr
        refine hc ((a2 _).2 ⟨hr, ?_⟩)
        rw [endd_not hv.uniq]
        intro e he heq
        exact absurd heq (hfr e he)
    have hr : ∀ x, Rch (ds ++ [d]) day h x ↔ Rch ds day h x := by
      intro x
      constructor
      · intro a
        induction a with
        | refl => exact .refl
        | step _ hd he hday ho ih =>
          rcases mem_more.1 hd with hd | rfl
          · exact .step ih hd he hday ho
          · rcases hnot with hn | hn
            · omega
            · rw [← he] at ih
              exact absurd ih hn
      · exact fun a => a.mono fun e he => mem_more.2 (.inl he)
    refine asc_unique b1 a1 fun x => ?_
    rw [a2 x, b2 x, hr x, endd_more hv hv']
    constructor
    · rintro ⟨h1, h2⟩
      simp only [Bool.or_eq_false_iff] at h2
      exact ⟨h1, h2.1⟩
    · rintro ⟨h1, h2⟩
      refine ⟨h1, ?_⟩
      rw [h2, Bool.false_or]
      rcases hnot with hn | hn
      · have : ¬ d.f_Day ≤ day := by omega
        simp [this]
      · have : ¬ x = d.f_House := fun he => hn (by rw [← he]; exact h1)
        simp [this]
/-- Whoever follows ends later. -/
theorem after (hv : Ok ds) (hv' : Ok (ds ++ [d])) {day o x : Int} (ho : o ∈ d.f_Others) (a : Rch ds day o x) : ∀ e ∈ ds ++ [d], e.f_House = x → d.f_Day < e.f_Day := by
  induction a with
  | refl =>
    intro e he hx
    have := hv'.second d (mem_more.2 (.inr rfl)) o ho
    exact (endd_not hv'.uniq).1 this e he hx
  | @step y z e' hr hd hy hday hz ih =>
    intro e he hx
    have h1 := ih e' (mem_more.2 (.inl hd)) hy
    have := hv'.second e' (mem_more.2 (.inl hd)) z hz
    have h2 := (endd_not hv'.uniq).1 this e he hx
    omega
end

theorem More_L6 {ds : List TDeed} {d : TDeed} (hw : W ds) (hw' : W (ds ++ [d])) (hv : Ok ds) (hv' : Ok (ds ++ [d])) {h day : Int} :
    loopL (l41_FirmMore_L6 d (AL ds day h) (AL (ds ++ [d]) day h)) 0 = some (.inl ()) := by
  have hl := (AL_eq hw h day).2
  have hl' := (AL_eq hw' h day).2
  refine scan_all (AL ds day h) (by omega) (fun i x hx => ?_) (by simp [l41_FirmMore_L6])
  have hi := (List.getElem?_eq_some_iff.1 hx).1
  have hc : decide ((i : Int) < ((AL ds day h).length : Int)) = true := by simp; omega
  have hxm := List.mem_of_getElem? hx
  have hh : hs h = true := by
    cases hh : hs h
    · rw [AL_no hw hh] at hxm; simp at hxm
    · rfl
  obtain ⟨g1, g2⟩ := ((AL_ok hw hv day hh).2 x).1 hxm
  by_cases he : x = d.f_House
  · have hn : (x != d.f_House) = false := by simp [he]
    simp only [l41_FirmMore_L6, hc, if_true, idx_of hx, Option.bind_some, hn, Bool.false_eq_true, if_false, wrap_nat (show i < 4611686018427387904 by omega)]
  · have hn : (x != d.f_House) = true := by simp [he]
    have hmem : x ∈ AL (ds ++ [d]) day h := ((AL_ok hw' hv' day hh).2 x).2 ⟨g1.mono fun e he => mem_more.2 (.inl he), by rw [endd_more hv hv', g2]; simp [he]⟩
    simp only [l41_FirmMore_L6, hc, if_true, idx_of hx, Option.bind_some, hn, has_eq (show (AL (ds ++ [d]) day h).length < 4611686018427387904 by omega), hmem, decide_true, Bool.not_true, Bool.false_eq_true, if_false, wrap_nat (show i < 4611686018427387904 by omega)]

theorem More_L7 {ds : List TDeed} {d : TDeed} (hw : W ds) (hw' : W (ds ++ [d])) (hv : Ok ds) (hv' : Ok (ds ++ [d])) {h day : Int} (hh : hs h = true) (hr : Rch ds day h d.f_House) (hday : d.f_Day ≤ day) :
    loopL (l41_FirmMore_L7 ds d day (AL (ds ++ [d]) day h)) 0 = some (.inl ()) := by
  have hl' := (AL_eq hw' h day).2
  have hdm : d ∈ ds ++ [d] := mem_more.2 (.inr rfl)
  have ho := hw'.oth hdm
  refine scan_all d.f_Others ho (fun i o hx => ?_) (by simp [l41_FirmMore_L7])
  have hi := (List.getElem?_eq_some_iff.1 hx).1
  have hom := List.mem_of_getElem? hx
  have hc : decide ((i : Int) < (d.f_Others.length : Int)) = true := by simp; omega
  obtain ⟨a1, a2⟩ := AL_eq hw o day
  have hin : loopL (l41_FirmMore_L9 (AL (ds ++ [d]) day h) (AL ds day o)) 0 = some (.inl ()) := by
    refine scan_all (AL ds day o) (by omega) (fun j y hy => ?_) (by simp [l41_FirmMore_L9])
    have hj := (List.getElem?_eq_some_iff.1 hy).1
    have hc : decide ((j : Int) < ((AL ds day o).length : Int)) = true := by simp; omega
    obtain ⟨b1, b2⟩ := ((AL_ok hw hv day (hv'.others hdm o hom).1).2 y).1 (List.mem_of_getElem? hy)
    have hmem : y ∈ AL (ds ++ [d]) day h := by
      refine ((AL_ok hw' hv' day hh).2 y).2 ⟨?_, ?_⟩
      · exact Rch.trans (.step (hr.mono fun e he => mem_more.2 (.inl he)) hdm rfl hday hom) (b1.mono fun e he => mem_more.2 (.inl he))
      · rw [endd_more hv hv', b2, Bool.false_or]
        have : ¬ y = d.f_House := fun he => by
          have := after hv hv' hom b1 d hdm he.symm
          omega
        simp [this]
    simp only [l41_FirmMore_L9, hc, if_true, idx_of hy, Option.bind_some, has_eq (show (AL (ds ++ [d]) day h).length < 4611686018427387904 by omega), hmem, decide_true, Bool.not_true, Bool.false_eq_true, if_false, wrap_nat (show j < 4611686018427387904 by omega)]
  simp only [l41_FirmMore_L7, Option.bind_some, hc, if_true, idx_of hx, a1, hin, wrap_nat (show i < 4611686018427387904 by omega)]

theorem W_perm {ds es : List TDeed} (hw : W ds) (hp : ds.Perm es) : W es := ⟨by rw [← hp.length_eq]; exact hw.1, fun d hd => hw.2 d (hp.mem_iff.2 hd)⟩
theorem app_ok {l m : List TDeed} (h : l.length + m.length ≤ 40) : appL 48 l m = some (l ++ m) := by
  unfold appL
  rw [if_pos]
  simp only [maxLen]
  omega

theorem More_eq {a0 : List TDeed} {a1 : Int} {a2 : TDeed} {a3 a4 : Int} (hw : W a0) (h1 : (Lit.int .u8 a1).wf = true) (h2 : a2.f_Others.length * 8 ≤ 140737488351232) : l41_FirmMore a0 a1 a2 a3 a4 = some true := by
  obtain ⟨b, hb⟩ := few_total hw
  unfold l41_FirmMore
  simp only [sane_eq, Option.bind_some, hb, check_eq hw]
  have hcond : (if (!b) = true then some true else if decide ((a0.length : Int) > 19) = true then some true else if decide ((a2.f_Others.length : Int) > 14) = true then some true else some (chk a0 != 0)) = some (!b || decide ((a0.length : Int) > 19) || decide ((a2.f_Others.length : Int) > 14) || (chk a0 != 0)) := by
    cases b
    · simp
    · by_cases c1 : (a0.length : Int) > 19
      · simp only [c1, decide_true, if_true, Bool.or_true, Bool.true_or]; simp
      · by_cases c2 : (a2.f_Others.length : Int) > 14 <;> simp [c1, c2]
  rw [hcond]
  by_cases hb1 : (!b || decide ((a0.length : Int) > 19) || decide ((a2.f_Others.length : Int) > 14) || (chk a0 != 0)) = true
  · simp only [Option.bind_some]
    rw [if_pos hb1]
  · have hc : chk a0 = 0 := by
      by_cases hc : chk a0 = 0
      · exact hc
      · exact absurd (by simp [hc]) hb1
    have hl : a0.length ≤ 19 := by
      by_cases hl : (a0.length : Int) > 19
      · exact absurd (by simp only [hl, decide_true, Bool.or_true, Bool.true_or]) hb1
      · omega
    simp only [Bool.not_eq_true] at hb1
    rw [hb1]
    have hv := chk_ok.1 hc
    obtain ⟨k, hk, hk2⟩ : ∃ k : Nat, k ≤ a0.length ∧ (if decide ((a0.length : Int) > 0) = true then (modI .i64 (IntKind.i64.wrap a1) (a0.length : Int)).bind fun x74 => some x74 else some 0) = some (k : Int) := by
      by_cases h0 : a0.length = 0
      · exact ⟨0, by omega, by rw [if_neg (by simp [h0])]; rfl⟩
      · obtain ⟨a, ha, hm⟩ := mod_small h1 (show 0 < a0.length by omega)
        exact ⟨a, by omega, by rw [if_pos (by simp; omega), hm]; rfl⟩
    have hp : a0.Perm (a0.drop k ++ a0.take k) := by
      have := List.perm_append_comm (l₁ := a0.take k) (l₂ := a0.drop k)
      rwa [List.take_append_drop] at this
    have hwt := W_perm hw hp
    have hvt := hv.perm hp
    obtain ⟨e1, e2⟩ := AL_eq hw a3 a4
    obtain ⟨t1, t2⟩ := AL_eq hwt a3 a4
    have ap1 : appL 48 [] (a0.drop k) = some (a0.drop k) := by rw [app_ok (by simp; omega)]; rfl
    have ap2 : appL 48 (a0.drop k) (a0.take k) = some (a0.drop k ++ a0.take k) := app_ok (by simp; omega)
    have ap3 : appL 48 [] a0 = some a0 := by rw [app_ok (by simp; omega)]; rfl
    have ap4 : appL 48 a0 [a2] = some (a0 ++ [a2]) := app_ok (by simp; omega)
    rw [AL_perm hw hwt hv hp] at t1
    have hwm : W (a0 ++ [a2]) := ⟨by simp; omega, fun d hd => by
      rcases mem_more.1 hd with hd | rfl
      · exact hw.2 d hd
      · exact h2⟩
    have h00 : (((0 : Int) != 0)) = false := rfl
    simp only [Option.bind_some, Bool.false_eq_true, if_false, hk2, slc_from hk, slc_nat hk, ap1, ap2, ap3, ap4, e1, check_eq hwt, chk_ok.2 hvt, h00, t1, same_eq (show (AL a0 a4 a3).length < 4611686018427387904 by omega), decide_true, Bool.not_true, check_eq hwm]
    by_cases hcm : chk (a0 ++ [a2]) = 0
    · have hvm := chk_ok.1 hcm
      obtain ⟨m1, m2⟩ := AL_eq hwm a3 a4
      simp only [hcm, h00, Bool.false_eq_true, if_false, m1, Option.bind_some, has_eq (show (AL a0 a4 a3).length < 4611686018427387904 by omega), has_eq (show (AL (a0 ++ [a2]) a4 a3).length < 4611686018427387904 by omega)]
      have hcond2 : (if decide (a4 < a2.f_Day) = true then some true else some (!decide (a2.f_House ∈ AL a0 a4 a3))) = some (decide (a4 < a2.f_Day ∨ a2.f_House ∉ AL a0 a4 a3)) := by
        by_cases c : a4 < a2.f_Day <;> simp [c]
      rw [hcond2]
      by_cases hcc : a4 < a2.f_Day ∨ a2.f_House ∉ AL a0 a4 a3
      · rw [AL_more_same hw hwm hv hvm hcc]
        simp [hcc, same_eq (show (AL a0 a4 a3).length < 4611686018427387904 by omega)]
      · have hday : a2.f_Day ≤ a4 := by
          by_cases c : a4 < a2.f_Day
          · exact absurd (.inl c) hcc
          · omega
        have hmem : a2.f_House ∈ AL a0 a4 a3 := by
          by_cases c : a2.f_House ∈ AL a0 a4 a3
          · exact c
          · exact absurd (.inr c) hcc
        have hh : hs a3 = true := by
          cases hh : hs a3
          · rw [AL_no hw hh] at hmem; simp at hmem
          · rfl
        have hr := (((AL_ok hw hv a4 hh).2 _).1 hmem).1
        have hnm : a2.f_House ∉ AL (a0 ++ [a2]) a4 a3 := fun hx => by
          have := (((AL_ok hwm hvm a4 hh).2 _).1 hx).2
          rw [endd_more hv hvm] at this
          simp [hday] at this
        simp only [hcc, decide_false, Option.bind_some, Bool.false_eq_true, if_false, More_L6 hw hwm hv hvm, More_L7 hw hwm hv hvm hh hr hday, if_true, hnm, Bool.not_false]
    · have : (chk (a0 ++ [a2]) != 0) = true := by simp [hcm]
      simp only [this, if_true]
end Go.Proofs.Ytnnkcegdkhclcaa.P
