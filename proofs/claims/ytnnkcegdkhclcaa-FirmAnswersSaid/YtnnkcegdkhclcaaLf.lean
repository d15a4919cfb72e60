/- FirmAnswers. -/
import Derived.Test.YtnnkcegdkhclcaaLe
namespace Go.Proofs.Ytnnkcegdkhclcaa.P
open Go.RowKit
set_option linter.unusedSimpArgs false
set_option linter.unusedVariables false

/-- A loop that finds nothing. -/
theorem scan_all {α ρ : Type} (l : List α) {body : Int → Option (Int ⊕ (Unit ⊕ ρ))} (hlen : l.length < 4611686018427387904)
    (hb : ∀ (i : Nat) x, l[i]? = some x → body (i : Int) = some (.inl ((i + 1 : Nat) : Int))) (he : body (l.length : Int) = some (.inr (.inl ()))) : loopL body 0 = some (.inl ()) := by
  rw [scanL l (fun _ _ => none) hlen hb he]
  have : firstS (fun (_ : Nat) (_ : α) => (none : Option ρ)) 0 l = none := firstS_none.2 fun _ _ _ => rfl
  rw [this]

/-- The answers, as a list. -/
def AL (ds : List TDeed) (day o : Int) : List Int := (firm_Answers ds o day).getD []
theorem AL_eq {ds : List TDeed} (hw : W ds) (o day : Int) : firm_Answers ds o day = some (AL ds day o) ∧ (AL ds day o).length ≤ 400 := by
  obtain ⟨L, h1, _, h3⟩ := ans_same hw o day
  unfold AL
  rw [h1]
  exact ⟨rfl, h3⟩
theorem AL_ok {ds : List TDeed} (hw : W ds) (hv : Ok ds) {o : Int} (day : Int) (hh : hs o = true) : Asc (AL ds day o) ∧ ∀ x, x ∈ AL ds day o ↔ Rch ds day o x ∧ endd ds x day = false := by
  obtain ⟨L, h1, h2, _, h4⟩ := ans_spec hw hv day hh
  unfold AL
  rw [h1]
  exact ⟨h2, h4⟩
theorem AL_no {ds : List TDeed} (hw : W ds) {o day : Int} (hh : hs o = false) : AL ds day o = [] := by
  unfold AL
  rw [ans_none hw (.inr hh)]
  rfl

theorem endd_iff {ds : List TDeed} (hu : (houses ds).Nodup) {x day : Int} : endd ds x day = true ↔ ∃ d ∈ ds, d.f_House = x ∧ d.f_Day ≤ day := by
  unfold endd
  constructor
  · intro h
    cases hf : fnd ds x with
    | none => rw [hf] at h; cases h
    | some d =>
      rw [hf] at h
      obtain ⟨h1, h2⟩ := fnd_mem hf
      exact ⟨d, h1, h2, by simpa using h⟩
  · rintro ⟨d, h1, rfl, h3⟩
    rw [fnd_of hu h1]
    simpa using h3
theorem endd_not {ds : List TDeed} (hu : (houses ds).Nodup) {x day : Int} : endd ds x day = false ↔ ∀ d ∈ ds, d.f_House = x → day < d.f_Day := by
  constructor
  · intro h d hd hx
    by_cases hle : d.f_Day ≤ day
    · have := (endd_iff hu).2 ⟨d, hd, hx, hle⟩
      rw [h] at this
      cases this
    · omega
  · intro h
    cases hh : endd ds x day
    · rfl
    · obtain ⟨d, h1, h2, h3⟩ := (endd_iff hu).1 hh
      have := h d h1 h2
      omega
theorem Rch.trans {ds : List TDeed} {day h x y : Int} (a : Rch ds day h x) (b : Rch ds day x y) : Rch ds day h y := by
  induction b with
  | refl => exact a
  | step _ hd he hday ho ih => exact .step ih hd he hday ho
theorem Rch.house {ds : List TDeed} (hv : Ok ds) {day h x : Int} (hh : hs h = true) (a : Rch ds day h x) : hs x = true := by
  induction a with
  | refl => exact hh
  | step _ hd _ _ ho _ => exact (hv.others hd _ ho).1
theorem Rch.split {ds : List TDeed} {day h x : Int} (a : Rch ds day h x) : x = h ∨ ∃ d ∈ ds, d.f_House = h ∧ d.f_Day ≤ day ∧ ∃ o ∈ d.f_Others, Rch ds day o x := by
  induction a with
  | refl => exact .inl rfl
  | step hr hd he hday ho ih =>
    right
    rcases ih with rfl | ⟨d', h1, h2, h3, o', h4, h5⟩
    · exact ⟨_, hd, he, hday, _, ho, .refl⟩
    · exact ⟨d', h1, h2, h3, o', h4, .step h5 hd he hday ho⟩

theorem asc_get {l : List Int} (h : Asc l) {i j : Nat} {x y : Int} (hi : l[i]? = some x) (hj : l[j]? = some y) (hij : i < j) : x < y := by
  obtain ⟨h1, rfl⟩ := List.getElem?_eq_some_iff.1 hi
  obtain ⟨h2, rfl⟩ := List.getElem?_eq_some_iff.1 hj
  exact List.pairwise_iff_getElem.1 h i j h1 h2 hij

theorem Answers_L2 {ds : List TDeed} (hw : W ds) (hv : Ok ds) {h day : Int} (hh : hs h = true) : loopL (l41_FirmAnswers_L2 ds day (AL ds day h)) 0 = some (.inl ()) := by
  obtain ⟨ha, hm⟩ := AL_ok hw hv day hh
  have hl := (AL_eq hw h day).2
  refine scan_all (AL ds day h) (by omega) (fun i x hx => ?_) (by simp [l41_FirmAnswers_L2])
  have hi := (List.getElem?_eq_some_iff.1 hx).1
  obtain ⟨hr, he⟩ := (hm x).1 (List.mem_of_getElem? hx)
  have hal : firm_Alive ds x day = some true := by rw [alive_of hw, chk_ok.2 hv, hr.house hv hh, he]; rfl
  have hc : decide ((i : Int) < ((AL ds day h).length : Int)) = true := by simp; omega
  cases hi0 : decide ((i : Int) > 0) with
  | false => simp only [l41_FirmAnswers_L2, hc, if_true, idx_of hx, Option.bind_some, hal, Bool.not_true, Bool.false_eq_true, if_false, hi0, wrap_nat (show i < 4611686018427387904 by omega)]
  | true =>
    have hi1 : 0 < i := by simpa using hi0
    have hw1 : IntKind.i64.wrap ((i : Int) - 1) = ((i - 1 : Nat) : Int) := by rw [wrap64 (by omega) (by omega)]; omega
    have hm1 : (if (0 : Int) > IntKind.i64.wrap ((i : Int) - 1) then 0 else IntKind.i64.wrap ((i : Int) - 1)) = ((i - 1 : Nat) : Int) := by rw [hw1, if_neg (by omega)]
    have hp : (AL ds day h)[i - 1]? = some ((AL ds day h)[i - 1]'(by omega)) := List.getElem?_eq_getElem (by omega)
    have hlt := asc_get ha hp hx (by omega)
    have hge : decide ((AL ds day h)[i - 1]'(by omega) ≥ x) = false := by simp; omega
    simp only [l41_FirmAnswers_L2, hc, if_true, idx_of hx, Option.bind_some, hal, Bool.not_true, Bool.false_eq_true, if_false, hi0, hm1, idx_of hp, hge, wrap_nat (show i < 4611686018427387904 by omega)]

theorem Answers_L6 {ds : List TDeed} (hw : W ds) {day : Int} {e : Nat} {d : TDeed} (he : ds[e]? = some d) (g : Int) :
    loopL (l41_FirmAnswers_L6 ds day (e : Int) g) (false, 0) = some (d.f_Others.any fun o => decide (g ∈ AL ds day o)) := by
  have ho := hw.oth (List.mem_of_getElem? he)
  have key : ∀ (rest : List Int) (i fuel : Nat) (f : Bool), i ≤ d.f_Others.length → d.f_Others.drop i = rest → rest.length < fuel →
      iterL (l41_FirmAnswers_L6 ds day (e : Int) g) fuel (f, (i : Int)) = some (f || rest.any fun o => decide (g ∈ AL ds day o)) := by
    intro rest
    induction rest with
    | nil =>
      intro i fuel f hi hd hf
      obtain ⟨n, rfl⟩ : ∃ n, fuel = n + 1 := ⟨fuel - 1, by simp at hf; omega⟩
      have hle := drop_nil hd
      have hc : decide ((i : Int) < (d.f_Others.length : Int)) = false := by simp; omega
      rw [iter_inr (r := f) (by simp only [l41_FirmAnswers_L6, idx_of he, Option.bind_some, hc, Bool.false_eq_true, if_false])]
      simp
    | cons o rest ih =>
      intro i fuel f hi hd hf
      obtain ⟨n, rfl⟩ : ∃ n, fuel = n + 1 := ⟨fuel - 1, by simp at hf; omega⟩
      obtain ⟨h1, h2, h3, _⟩ := drop_cons hd
      have hc : decide ((i : Int) < (d.f_Others.length : Int)) = true := by simp; omega
      obtain ⟨a1, a2⟩ := AL_eq hw o day
      have hb : l41_FirmAnswers_L6 ds day (e : Int) g (f, (i : Int)) = some (.inl (f || decide (g ∈ AL ds day o), ((i + 1 : Nat) : Int))) := by
        cases f with
        | true => simp only [l41_FirmAnswers_L6, idx_of he, Option.bind_some, hc, if_true, wrap_nat (show i < 4611686018427387904 by omega), Bool.true_or]
        | false => simp only [l41_FirmAnswers_L6, idx_of he, Option.bind_some, hc, if_true, Bool.false_eq_true, if_false, idx_of h2, a1, has_eq (show (AL ds day o).length < 4611686018427387904 by omega), wrap_nat (show i < 4611686018427387904 by omega), Bool.false_or]
      rw [iter_inl hb, ih (i + 1) n _ h1 h3 (by simp at hf; omega), List.any_cons, Bool.or_assoc]
  have := key d.f_Others 0 FU false (Nat.zero_le _) rfl (by rw [FU_eq]; omega)
  rw [Bool.false_or] at this
  exact this

/-- How many of a list are below a number. -/
def below (l : List Int) (i : Int) : Nat := (l.filter fun x => decide (x < i)).length
theorem below_succ {l : List Int} (hd : l.Nodup) (i : Int) : below l (i + 1) = below l i + if i ∈ l then 1 else 0 := by
  unfold below
  induction l with
  | nil => simp
  | cons x l ih =>
    rw [List.nodup_cons] at hd
    have := ih hd.2
    simp only [List.filter_cons, List.mem_cons]
    by_cases h1 : x < i
    · have h2 : x < i + 1 := by omega
      have h3 : ¬ i = x := by omega
      simp only [h1, h2, decide_true, if_true, List.length_cons, h3, false_or]
      omega
    · by_cases h2 : x = i
      · subst h2
        have h3 : x < x + 1 := by omega
        have h4 : ¬ x < x := by omega
        simp only [h3, h4, decide_true, decide_false, if_true, Bool.false_eq_true, if_false, List.length_cons, true_or]
        rw [if_neg hd.1] at this
        omega
      · have h3 : ¬ x < i + 1 := by omega
        have h4 : ¬ i = x := fun h => h2 h.symm
        simp only [h1, h3, decide_false, Bool.false_eq_true, if_false, h4, false_or]
        exact this
theorem below_le (l : List Int) (i : Int) : below l i ≤ l.length := List.length_filter_le _ _
theorem asc_nodup {l : List Int} (h : Asc l) : l.Nodup := h.imp fun {a b} hab => by omega

theorem Answers_L4 {ds : List TDeed} (hw : W ds) (hv : Ok ds) {h day : Int} (hh : hs h = true) {e : Nat} {d : TDeed} (he : ds[e]? = some d) (hdh : d.f_House = h) (hday : d.f_Day ≤ day) :
    loopL (l41_FirmAnswers_L4 ds day (AL ds day h) (e : Int)) (0, 0) = some (.inl ((AL ds day h).length : Int)) := by
  obtain ⟨ha, hm⟩ := AL_ok hw hv day hh
  have hl := (AL_eq hw h day).2
  have hdm := List.mem_of_getElem? he
  have key : ∀ (n i fuel : Nat), i ≤ 400 → 400 - i = n → n < fuel → iterL (l41_FirmAnswers_L4 ds day (AL ds day h) (e : Int)) fuel ((below (AL ds day h) i : Int), (i : Int)) = some (.inl (below (AL ds day h) 400 : Int)) := by
    intro n
    induction n with
    | zero =>
      intro i fuel hi hn hf
      obtain ⟨f, rfl⟩ : ∃ f, fuel = f + 1 := ⟨fuel - 1, by omega⟩
      have : i = 400 := by omega
      subst this
      exact iter_inr (by simp [l41_FirmAnswers_L4])
    | succ n ih =>
      intro i fuel hi hn hf
      obtain ⟨f, rfl⟩ : ∃ f, fuel = f + 1 := ⟨fuel - 1, by omega⟩
      have hc : decide ((i : Int) < 400) = true := by simp; omega
      have hbs := below_succ (asc_nodup ha) (i : Int)
      have hble := below_le (AL ds day h) (i : Int)
      have hb : l41_FirmAnswers_L4 ds day (AL ds day h) (e : Int) ((below (AL ds day h) i : Int), (i : Int)) = some (.inl ((below (AL ds day h) ((i + 1 : Nat) : Int) : Int), ((i + 1 : Nat) : Int))) := by
        by_cases hmem : (i : Int) ∈ AL ds day h
        · rw [if_pos hmem] at hbs
          have hany : (d.f_Others.any fun o => decide ((i : Int) ∈ AL ds day o)) = true := by
            obtain ⟨hr, hen⟩ := (hm _).1 hmem
            rcases hr.split with hx | ⟨d', h1, h2, h3, o, h4, h5⟩
            · have : endd ds h day = true := (endd_iff hv.uniq).2 ⟨d, hdm, hdh, hday⟩
              rw [← hx] at this
              rw [this] at hen
              cases hen
            · have : d' = d := by
                have e1 := fnd_of hv.uniq h1
                have e2 := fnd_of hv.uniq hdm
                rw [h2] at e1
                rw [hdh, e1] at e2
                cases e2
                rfl
              subst this
              rw [List.any_eq_true]
              exact ⟨o, h4, by simp only [decide_eq_true_eq]; exact ((AL_ok hw hv day (hv.others hdm o h4).1).2 _).2 ⟨h5, hen⟩⟩
          simp only [l41_FirmAnswers_L4, hc, if_true, has_eq (show (AL ds day h).length < 4611686018427387904 by omega), Option.bind_some, hmem, decide_true, Bool.not_true, Bool.false_eq_true, if_false, Answers_L6 hw he, hany, wrap_nat (show i < 4611686018427387904 by omega), wrap_nat (show below (AL ds day h) (i : Int) < 4611686018427387904 by omega)]
          have : (below (AL ds day h) ((i + 1 : Nat) : Int)) = below (AL ds day h) (i : Int) + 1 := by rw [← hbs]; congr 1
          rw [this]
        · rw [if_neg hmem] at hbs
          simp only [l41_FirmAnswers_L4, hc, if_true, has_eq (show (AL ds day h).length < 4611686018427387904 by omega), Option.bind_some, hmem, decide_false, Bool.not_false, wrap_nat (show i < 4611686018427387904 by omega)]
          have : (below (AL ds day h) ((i + 1 : Nat) : Int)) = below (AL ds day h) (i : Int) := by
            have e1 : ((i + 1 : Nat) : Int) = (i : Int) + 1 := by omega
            rw [e1, hbs]; rfl
          rw [this]
      rw [iter_inl hb]
      exact ih (i + 1) f (by omega) (by omega) (by omega)
  have h0 := key 400 0 FU (by omega) rfl (by rw [FU_eq]; omega)
  have hb0 : below (AL ds day h) ((0 : Nat) : Int) = 0 := by
    unfold below
    rw [List.length_eq_zero_iff, List.filter_eq_nil_iff]
    intro x hx
    have := (hs_iff.1 (((hm x).1 hx).1.house hv hh)).1
    simp
    omega
  have hb4 : below (AL ds day h) 400 = (AL ds day h).length := by
    unfold below
    rw [List.filter_eq_self.2]
    intro x hx
    have := (hs_iff.1 (((hm x).1 hx).1.house hv hh)).2
    simpa using this
  rw [hb0, hb4] at h0
  exact h0

theorem Answers_L7 {ds : List TDeed} (hw : W ds) (hv : Ok ds) {h day : Int} (hh : hs h = true) {e : Nat} {d : TDeed} (he : ds[e]? = some d) (hdh : d.f_House = h) (hday : d.f_Day ≤ day) :
    loopL (l41_FirmAnswers_L7 ds day (AL ds day h) (e : Int)) 0 = some (.inl ()) := by
  obtain ⟨ha, hm⟩ := AL_ok hw hv day hh
  have hl := (AL_eq hw h day).2
  have hdm := List.mem_of_getElem? he
  have ho := hw.oth hdm
  refine scan_all d.f_Others ho (fun i o hx => ?_) (by simp [l41_FirmAnswers_L7, idx_of he])
  have hi := (List.getElem?_eq_some_iff.1 hx).1
  have hom := List.mem_of_getElem? hx
  have hc : decide ((i : Int) < (d.f_Others.length : Int)) = true := by simp; omega
  obtain ⟨a1, a2⟩ := AL_eq hw o day
  have hin : loopL (l41_FirmAnswers_L9 (AL ds day h) (AL ds day o)) 0 = some (.inl ()) := by
    refine scan_all (AL ds day o) (by omega) (fun j y hy => ?_) (by simp [l41_FirmAnswers_L9])
    have hj := (List.getElem?_eq_some_iff.1 hy).1
    have hc : decide ((j : Int) < ((AL ds day o).length : Int)) = true := by simp; omega
    obtain ⟨b1, b2⟩ := ((AL_ok hw hv day (hv.others hdm o hom).1).2 y).1 (List.mem_of_getElem? hy)
    have hmem : y ∈ AL ds day h := (hm y).2 ⟨Rch.trans (.step .refl hdm hdh hday hom) b1, b2⟩
    simp only [l41_FirmAnswers_L9, hc, if_true, idx_of hy, Option.bind_some, has_eq (show (AL ds day h).length < 4611686018427387904 by omega), hmem, decide_true, Bool.not_true, Bool.false_eq_true, if_false, wrap_nat (show j < 4611686018427387904 by omega)]
  simp only [l41_FirmAnswers_L7, idx_of he, Option.bind_some, hc, if_true, idx_of hx, a1, hin, wrap_nat (show i < 4611686018427387904 by omega)]

theorem Answers_eq {a0 : List TDeed} {a1 a2 : Int} (hw : W a0) : l41_FirmAnswers a0 a1 a2 = some true := by
  obtain ⟨b, hb⟩ := few_total hw
  unfold l41_FirmAnswers
  simp only [sane_eq, Option.bind_some, hb, check_eq hw]
  cases b with
  | false => simp
  | true =>
    by_cases hc : chk a0 = 0
    · by_cases hh : hs a1 = true
      · have hv := chk_ok.1 hc
        have hr := hs_iff.1 hh
        have hcond : (if (!true) = true then some true else if (chk a0 != 0) = true then some true else if decide (a1 < 0) = true then some true else some (decide (a1 ≥ 400))) = some false := by
          have c1 : ¬ a1 < 0 := by omega
          have c2 : ¬ a1 ≥ 400 := by omega
          simp [hc, c1, c2]
        rw [hcond]
        obtain ⟨e1, e2⟩ := AL_eq hw a1 a2
        simp only [Option.bind_some, Bool.false_eq_true, if_false, e1, Answers_L2 hw hv hh, alive_of hw, hc, decide_true, hh, Bool.true_and]
        cases he : endd a0 a1 a2 with
        | false =>
          have hL : AL a0 a2 a1 = [a1] := by
            obtain ⟨ha, hm⟩ := AL_ok hw hv a2 hh
            refine asc_unique ha (by simp [Asc]) fun x => ?_
            rw [hm x, List.mem_singleton]
            constructor
            · rintro ⟨h1, h2⟩
              rcases h1.split with h1 | ⟨d, k1, k2, k3, _⟩
              · exact h1
              · have := (endd_not hv.uniq).1 he d k1 k2
                omega
            · rintro rfl
              exact ⟨.refl, he⟩
          simp only [Bool.not_false, if_true, hL, same_eq (show ([a1] : List Int).length < 4611686018427387904 by simp), decide_true, Option.bind_some]
        | true =>
          obtain ⟨d, k1, k2, k3⟩ := (endd_iff hv.uniq).1 he
          obtain ⟨r, r1, r2⟩ := end_eq (l := a0) (n := a1) hw.len
          have hf := fnd_of hv.uniq k1
          rw [k2] at hf
          rw [hf] at r2
          obtain ⟨i, rfl, hi⟩ := r2
          have hneg : decide ((i : Int) < 0) = false := by simp
          simp only [Bool.not_true, Bool.false_eq_true, if_false, r1, Option.bind_some, hneg, Answers_L4 hw hv hh hi k2 k3, Answers_L7 hw hv hh hi k2 k3, if_true, beq_self_eq_true]
      · have hcond : (if (!true) = true then some true else if (chk a0 != 0) = true then some true else if decide (a1 < 0) = true then some true else some (decide (a1 ≥ 400))) = some true := by
          by_cases c1 : a1 < 0
          · simp [c1]
          · have c2 : a1 ≥ 400 := by
              by_cases c2 : a1 < 400
              · exact absurd (hs_iff.2 ⟨by omega, c2⟩) hh
              · omega
            simp [c1, c2]
        rw [hcond]
        rfl
    · have hcond : (if (!true) = true then some true else if (chk a0 != 0) = true then some true else if decide (a1 < 0) = true then some true else some (decide (a1 ≥ 400))) = some true := by
        simp [hc]
      rw [hcond]
      rfl
end Go.Proofs.Ytnnkcegdkhclcaa.P
