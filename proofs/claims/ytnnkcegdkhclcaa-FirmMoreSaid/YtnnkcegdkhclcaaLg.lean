/- FirmLater. -/
import Derived.Test.YtnnkcegdkhclcaaLf
namespace Go.Proofs.Ytnnkcegdkhclcaa.P
open Go.RowKit
set_option linter.unusedSimpArgs false
set_option linter.unusedVariables false

theorem Rch.later {ds : List TDeed} {day later h x : Int} (hl : day ≤ later) (a : Rch ds day h x) : Rch ds later h x := by
  induction a with
  | refl => exact .refl
  | step _ hd he hday ho ih => exact .step ih hd he (by omega) ho
theorem Rch.between {ds : List TDeed} (hu : (houses ds).Nodup) {day later h x : Int} (a : Rch ds later h x) : (∃ y, Rch ds day h y ∧ endd ds y day = false ∧ Rch ds later y x) ∨ Rch ds day h x := by
  induction a with
  | refl => exact .inr .refl
  | @step x o d hr hd he hday ho ih =>
    rcases ih with ⟨y, h1, h2, h3⟩ | h1
    · exact .inl ⟨y, h1, h2, .step h3 hd he hday ho⟩
    · by_cases hle : d.f_Day ≤ day
      · exact .inr (.step h1 hd he hle ho)
      · refine .inl ⟨x, h1, ?_, .step .refl hd he hday ho⟩
        cases hh : endd ds x day
        · rfl
        · obtain ⟨d', k1, k2, k3⟩ := (endd_iff hu).1 hh
          have e1 := fnd_of hu hd
          have e2 := fnd_of hu k1
          rw [he] at e1
          rw [k2, e1] at e2
          cases e2
          omega
theorem endd_later {ds : List TDeed} (hu : (houses ds).Nodup) {x day later : Int} (hl : day ≤ later) (h : endd ds x day = true) : endd ds x later = true := by
  obtain ⟨d, h1, h2, h3⟩ := (endd_iff hu).1 h
  exact (endd_iff hu).2 ⟨d, h1, h2, by omega⟩

theorem Later_L2 {ds : List TDeed} (hw : W ds) (hv : Ok ds) {h day later : Int} (hl : day ≤ later) : loopL (l41_FirmLater_L2 ds later (AL ds day h) (AL ds later h)) 0 = some (.inl ()) := by
  have hlen := (AL_eq hw h day).2
  have hlen2 := (AL_eq hw h later).2
  refine scan_all (AL ds day h) (by omega) (fun i x hx => ?_) (by simp [l41_FirmLater_L2])
  have hi := (List.getElem?_eq_some_iff.1 hx).1
  have hc : decide ((i : Int) < ((AL ds day h).length : Int)) = true := by simp; omega
  have hxm := List.mem_of_getElem? hx
  have hh : hs h = true := by
    cases hh : hs h
    · rw [AL_no hw hh] at hxm; simp at hxm
    · rfl
  obtain ⟨g1, g2⟩ := ((AL_ok hw hv day hh).2 x).1 hxm
  obtain ⟨a1, a2⟩ := AL_eq hw x later
  have hin : loopL (l41_FirmLater_L4 (AL ds later h) (AL ds later x)) 0 = some (.inl ()) := by
    refine scan_all (AL ds later x) (by omega) (fun j y hy => ?_) (by simp [l41_FirmLater_L4])
    have hj := (List.getElem?_eq_some_iff.1 hy).1
    have hc : decide ((j : Int) < ((AL ds later x).length : Int)) = true := by simp; omega
    obtain ⟨b1, b2⟩ := ((AL_ok hw hv later (g1.house hv hh)).2 y).1 (List.mem_of_getElem? hy)
    have hmem : y ∈ AL ds later h := ((AL_ok hw hv later hh).2 y).2 ⟨(g1.later hl).trans b1, b2⟩
    simp only [l41_FirmLater_L4, hc, if_true, idx_of hy, Option.bind_some, has_eq (show (AL ds later h).length < 4611686018427387904 by omega), hmem, decide_true, Bool.not_true, Bool.false_eq_true, if_false, wrap_nat (show j < 4611686018427387904 by omega)]
  simp only [l41_FirmLater_L2, hc, if_true, idx_of hx, Option.bind_some, a1, hin, wrap_nat (show i < 4611686018427387904 by omega)]

theorem Later_L7 {ds : List TDeed} (hw : W ds) {later : Int} {L R : List Int} (hL : L.length ≤ 400) {e : Nat} {g : Int} (he : R[e]? = some g) :
    loopL (l41_FirmLater_L7 ds later L R (e : Int)) (false, 0) = some (L.any fun o => decide (g ∈ AL ds later o)) := by
  have key : ∀ (rest : List Int) (i fuel : Nat) (f : Bool), i ≤ L.length → L.drop i = rest → rest.length < fuel →
      iterL (l41_FirmLater_L7 ds later L R (e : Int)) fuel (f, (i : Int)) = some (f || rest.any fun o => decide (g ∈ AL ds later o)) := by
    intro rest
    induction rest with
    | nil =>
      intro i fuel f hi hd hf
      obtain ⟨n, rfl⟩ : ∃ n, fuel = n + 1 := ⟨fuel - 1, by simp at hf; omega⟩
      have hle := drop_nil hd
      have hc : decide ((i : Int) < (L.length : Int)) = false := by simp; omega
      rw [iter_inr (r := f) (by simp only [l41_FirmLater_L7, hc, Bool.false_eq_true, if_false])]
      simp
    | cons o rest ih =>
      intro i fuel f hi hd hf
      obtain ⟨n, rfl⟩ : ∃ n, fuel = n + 1 := ⟨fuel - 1, by simp at hf; omega⟩
      obtain ⟨h1, h2, h3, _⟩ := drop_cons hd
      have hc : decide ((i : Int) < (L.length : Int)) = true := by simp; omega
      obtain ⟨a1, a2⟩ := AL_eq hw o later
      have hb : l41_FirmLater_L7 ds later L R (e : Int) (f, (i : Int)) = some (.inl (f || decide (g ∈ AL ds later o), ((i + 1 : Nat) : Int))) := by
        cases f with
        | true => simp only [l41_FirmLater_L7, hc, if_true, wrap_nat (show i < 4611686018427387904 by omega), Bool.true_or]
        | false => simp only [l41_FirmLater_L7, Option.bind_some, hc, if_true, Bool.false_eq_true, if_false, idx_of h2, idx_of he, a1, has_eq (show (AL ds later o).length < 4611686018427387904 by omega), wrap_nat (show i < 4611686018427387904 by omega), Bool.false_or]
      rw [iter_inl hb, ih (i + 1) n _ h1 h3 (by simp at hf; omega), List.any_cons, Bool.or_assoc]
  have := key L 0 FU false (Nat.zero_le _) rfl (by rw [FU_eq]; omega)
  rw [Bool.false_or] at this
  exact this

theorem Later_L5 {ds : List TDeed} (hw : W ds) (hv : Ok ds) {h day later : Int} (hl : day ≤ later) : loopL (l41_FirmLater_L5 ds later (AL ds day h) (AL ds later h)) (0, 0) = some ((AL ds later h).length : Int) := by
  have hlen := (AL_eq hw h day).2
  have hlen2 := (AL_eq hw h later).2
  have key : ∀ (rest : List Int) (i fuel : Nat), i ≤ (AL ds later h).length → (AL ds later h).drop i = rest → rest.length < fuel →
      iterL (l41_FirmLater_L5 ds later (AL ds day h) (AL ds later h)) fuel ((i : Int), (i : Int)) = some ((AL ds later h).length : Int) := by
    intro rest
    induction rest with
    | nil =>
      intro i fuel hi hd hf
      obtain ⟨n, rfl⟩ : ∃ n, fuel = n + 1 := ⟨fuel - 1, by simp at hf; omega⟩
      have hle := drop_nil hd
      have hii : i = (AL ds later h).length := by omega
      have hc : decide ((i : Int) < ((AL ds later h).length : Int)) = false := by simp; omega
      rw [iter_inr (r := (i : Int)) (by simp only [l41_FirmLater_L5, hc, Bool.false_eq_true, if_false])]
      rw [← hii]
    | cons x rest ih =>
      intro i fuel hi hd hf
      obtain ⟨n, rfl⟩ : ∃ n, fuel = n + 1 := ⟨fuel - 1, by simp at hf; omega⟩
      obtain ⟨h1, h2, h3, _⟩ := drop_cons hd
      have hc : decide ((i : Int) < ((AL ds later h).length : Int)) = true := by simp; omega
      have hxm := List.mem_of_getElem? h2
      have hh : hs h = true := by
        cases hh : hs h
        · rw [AL_no hw hh] at hxm; simp at hxm
        · rfl
      obtain ⟨g1, g2⟩ := ((AL_ok hw hv later hh).2 x).1 hxm
      have hday : endd ds x day = false := by
        cases he : endd ds x day
        · rfl
        · rw [endd_later hv.uniq hl he] at g2; cases g2
      have hany : ((AL ds day h).any fun o => decide (x ∈ AL ds later o)) = true := by
        rw [List.any_eq_true]
        rcases Rch.between (day := day) hv.uniq g1 with ⟨y, k1, k2, k3⟩ | k1
        · exact ⟨y, ((AL_ok hw hv day hh).2 y).2 ⟨k1, k2⟩, by simp only [decide_eq_true_eq]; exact ((AL_ok hw hv later (k1.house hv hh)).2 x).2 ⟨k3, g2⟩⟩
        · exact ⟨x, ((AL_ok hw hv day hh).2 x).2 ⟨k1, hday⟩, by simp only [decide_eq_true_eq]; exact ((AL_ok hw hv later (k1.house hv hh)).2 x).2 ⟨.refl, g2⟩⟩
      have hb : l41_FirmLater_L5 ds later (AL ds day h) (AL ds later h) ((i : Int), (i : Int)) = some (.inl (((i + 1 : Nat) : Int), ((i + 1 : Nat) : Int))) := by
        simp only [l41_FirmLater_L5, hc, if_true, Later_L7 hw hlen h2, hany, Option.bind_some, wrap_nat (show i < 4611686018427387904 by omega)]
      rw [iter_inl hb, ih (i + 1) n h1 h3 (by simp at hf; omega)]
  exact key (AL ds later h) 0 FU (Nat.zero_le _) rfl (by rw [FU_eq]; omega)

theorem Later_eq {a0 : List TDeed} {a1 a2 a3 : Int} (hw : W a0) : l41_FirmLater a0 a1 a2 a3 = some true := by
  obtain ⟨b, hb⟩ := few_total hw
  unfold l41_FirmLater
  simp only [sane_eq, Option.bind_some, hb, check_eq hw]
  have hcond : (if (!b) = true then some true else if (chk a0 != 0) = true then some true else some (decide (a2 > a3))) = some (!b || decide (chk a0 ≠ 0) || decide (a2 > a3)) := by
    cases b
    · simp
    · by_cases hc : chk a0 = 0 <;> simp [hc]
  rw [hcond]
  by_cases hb1 : (!b || decide (chk a0 ≠ 0) || decide (a2 > a3)) = true
  · simp only [Option.bind_some]
    rw [if_pos hb1]
  · have hc : chk a0 = 0 := by
      by_cases hc : chk a0 = 0
      · exact hc
      · exact absurd (by simp [hc]) hb1
    have hl : a2 ≤ a3 := by
      by_cases hl : a2 > a3
      · exact absurd (by simp [hl]) hb1
      · omega
    have hv := chk_ok.1 hc
    simp only [Bool.not_eq_true] at hb1
    rw [hb1]
    obtain ⟨e1, _⟩ := AL_eq hw a1 a2
    obtain ⟨e2, _⟩ := AL_eq hw a1 a3
    simp only [Option.bind_some, Bool.false_eq_true, if_false, e1, e2, Later_L2 hw hv hl, Later_L5 hw hv hl, if_true, beq_self_eq_true, alive_of hw, hc, decide_true, Bool.true_and]
    cases hs a1 with
    | false => rfl
    | true =>
      cases he : endd a0 a1 a2 with
      | false => rfl
      | true => rw [endd_later hv.uniq hl he]; rfl
end Go.Proofs.Ytnnkcegdkhclcaa.P
