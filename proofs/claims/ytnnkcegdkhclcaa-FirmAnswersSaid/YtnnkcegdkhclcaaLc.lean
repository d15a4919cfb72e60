/- Who answers: what the firm's search computes. -/
import Derived.Test.YtnnkcegdkhclcaaLb
namespace Go.Proofs.Ytnnkcegdkhclcaa.P
open Go.RowKit
set_option linter.unusedSimpArgs false
set_option linter.unusedVariables false

theorem oth_all {h : Int} : ∀ {l : List Int} {last : Int}, oth h last l = true → ∀ x ∈ l, hs x = true ∧ x ≠ h
  | [], _, _, x, hx => by simp at hx
  | y :: l, last, ho, x, hx => by
    simp only [oth, Bool.and_eq_true, bne_iff_ne, ne_eq] at ho
    rcases List.mem_cons.1 hx with rfl | hx
    · exact ⟨ho.1.1.1, ho.1.2⟩
    · exact oth_all ho.2 x hx

/-- Deeds that are valid. -/
structure Ok (ds : List TDeed) : Prop where
  len : ds.length ≤ 400
  fits : ∀ d ∈ ds, fitsB d = true
  day : ∀ d ∈ ds, 0 ≤ d.f_Day ∧ d.f_Day ≤ 100000
  uniq : (houses ds).Nodup
  second : ∀ d ∈ ds, ∀ o ∈ d.f_Others, endd ds o d.f_Day = false
theorem Ok.house {ds : List TDeed} (h : Ok ds) {d : TDeed} (hd : d ∈ ds) : hs d.f_House = true := by
  have := h.fits d hd
  simp only [fitsB, Bool.and_eq_true] at this
  exact this.1.1
theorem Ok.others {ds : List TDeed} (h : Ok ds) {d : TDeed} (hd : d ∈ ds) : ∀ o ∈ d.f_Others, hs o = true ∧ o ≠ d.f_House := by
  have := h.fits d hd
  simp only [fitsB, Bool.and_eq_true] at this
  exact oth_all this.2
theorem fnd_of {ds : List TDeed} (hu : (houses ds).Nodup) {d : TDeed} (hd : d ∈ ds) : fnd ds d.f_House = some d := by
  induction ds with
  | nil => simp at hd
  | cons x l ih =>
    simp only [houses, List.map_cons, List.nodup_cons] at hu
    unfold fnd
    rw [List.find?_cons]
    rcases List.mem_cons.1 hd with rfl | hd
    · simp
    · have : ¬ x.f_House = d.f_House := fun he => hu.1 (by rw [he]; exact List.mem_map.2 ⟨d, hd, rfl⟩)
      rw [show (x.f_House == d.f_House) = false by simp [this]]
      exact ih hu.2 hd
theorem scan1_ok : ∀ {l seen : List TDeed}, scan1 seen l = none ↔ (∀ d ∈ l, fitsB d = true ∧ 0 ≤ d.f_Day ∧ d.f_Day ≤ 100000) ∧ (∀ d ∈ l, d.f_House ∉ houses seen) ∧ (houses l).Nodup
  | [], seen => by simp [scan1, houses]
  | d :: l, seen => by
    simp only [scan1]
    have ih := scan1_ok (l := l) (seen := seen ++ [d])
    by_cases c1 : fitsB d = true
    · rw [if_neg (by simp [c1])]
      by_cases c2 : d.f_Day < 0 ∨ d.f_Day > 100000
      · rw [if_pos c2]
        refine ⟨fun h => (by cases h), fun h => ?_⟩
        have := (h.1 d List.mem_cons_self).2
        omega
      · rw [if_neg c2]
        by_cases c3 : (fnd seen d.f_House).isSome = true
        · rw [if_pos c3]
          refine ⟨fun h => (by cases h), fun h => ?_⟩
          have := h.2.1 d List.mem_cons_self
          rw [← fnd_none] at this
          rw [this] at c3
          cases c3
        · rw [if_neg c3, ih]
          have c4 : d.f_House ∉ houses seen := by
            rw [← fnd_none]
            cases hh : fnd seen d.f_House with
            | none => rfl
            | some x => rw [hh] at c3; exact absurd rfl c3
          have e : ∀ y : TDeed, y.f_House ∉ houses (seen ++ [d]) ↔ y.f_House ∉ houses seen ∧ y.f_House ≠ d.f_House := by
            intro y
            simp [houses]
          constructor
          · rintro ⟨h1, h2, h3⟩
            refine ⟨fun y hy => ?_, fun y hy => ?_, ?_⟩
            · rcases List.mem_cons.1 hy with rfl | hy
              · exact ⟨c1, by omega⟩
              · exact h1 y hy
            · rcases List.mem_cons.1 hy with rfl | hy
              · exact c4
              · exact ((e y).1 (h2 y hy)).1
            · simp only [houses, List.map_cons, List.nodup_cons]
              refine ⟨fun hm => ?_, h3⟩
              obtain ⟨y, hy, he⟩ := List.mem_map.1 hm
              exact ((e y).1 (h2 y hy)).2 he
          · rintro ⟨h1, h2, h3⟩
            simp only [houses, List.map_cons, List.nodup_cons] at h3
            refine ⟨fun y hy => h1 y (List.mem_cons_of_mem _ hy), fun y hy => (e y).2 ⟨h2 y (List.mem_cons_of_mem _ hy), fun he => h3.1 (by rw [← he]; exact List.mem_map.2 ⟨y, hy, rfl⟩)⟩, h3.2⟩
    · rw [if_pos (by simpa using c1)]
      refine ⟨fun h => (by cases h), fun h => ?_⟩
      exact absurd (h.1 d List.mem_cons_self).1 c1
theorem chk_ok {ds : List TDeed} : chk ds = 0 ↔ Ok ds := by
  unfold chk
  by_cases h : ds.length > 400
  · rw [if_pos h]
    exact ⟨fun h => (by cases h), fun k => by have := k.len; omega⟩
  · rw [if_neg h]
    have hp : pass2 ds = true ↔ ∀ d ∈ ds, ∀ o ∈ d.f_Others, endd ds o d.f_Day = false := by
      simp [pass2, List.all_eq_true]
    cases hs : scan1 [] ds with
    | some e =>
      simp only
      refine ⟨fun he => absurd he (scan1_ne hs), fun k => ?_⟩
      have : scan1 [] ds = none := scan1_ok.2 ⟨fun d hd => ⟨k.fits d hd, k.day d hd⟩, fun d _ => by simp [houses], k.uniq⟩
      rw [this] at hs
      cases hs
    | none =>
      simp only
      obtain ⟨h1, _, h3⟩ := scan1_ok.1 hs
      constructor
      · intro he
        have : pass2 ds = true := by
          cases hh : pass2 ds
          · rw [hh] at he; simp at he
          · rfl
        exact ⟨by omega, fun d hd => (h1 d hd).1, fun d hd => (h1 d hd).2, h3, hp.1 this⟩
      · intro k
        rw [hp.2 k.second]
        rfl

/-- Who may answer for a house: itself, and who follows one that may, if that one has ended. -/
inductive Rch (ds : List TDeed) (day h : Int) : Int → Prop
  | refl : Rch ds day h h
  | step {x o : Int} {d : TDeed} : Rch ds day h x → d ∈ ds → d.f_House = x → d.f_Day ≤ day → o ∈ d.f_Others → Rch ds day h o

theorem nodup_len : ∀ (n : Nat) (l : List Int), l.Nodup → (∀ x ∈ l, 0 ≤ x ∧ x < n) → l.length ≤ n
  | 0, l, _, h => by
    cases l with
    | nil => simp
    | cons x l => have := h x List.mem_cons_self; omega
  | n + 1, l, hd, h => by
    have hl := nodup_len n (l.erase (n : Int)) (hd.erase _) (fun x hx => by
      have h1 := h x (List.mem_of_mem_erase hx)
      have h2 : x ≠ (n : Int) := ((hd.mem_erase_iff).1 hx).1
      omega)
    have h3 : (l.erase (n : Int)).length = if (n : Int) ∈ l then l.length - 1 else l.length := List.length_erase
    split at h3 <;> omega
theorem houses_len {l : List Int} (hd : l.Nodup) (h : ∀ x ∈ l, hs x = true) : l.length ≤ 400 := nodup_len 400 l hd fun x hx => hs_iff.1 (h x hx)

def seenM (K : List Int) : List (Int × Bool) := K.map fun x => (x, true)
theorem look_seen (o : Int) : ∀ K : List Int, lookM false (seenM K) o = decide (o ∈ K)
  | [] => rfl
  | x :: K => by
    have ih := look_seen o K
    simp only [seenM, List.map_cons, lookM] at ih ⊢
    by_cases h : x = o
    · simp [h]
    · rw [if_neg h, ih]
      simp [Ne.symm h]
theorem put_seen (o : Int) : ∀ K : List Int, o ∉ K → putM (seenM K) o true = seenM (K ++ [o])
  | [], _ => rfl
  | x :: K, h => by
    have ih := put_seen o K (fun hm => h (List.mem_cons_of_mem _ hm))
    simp only [seenM, List.map_cons, putM, List.cons_append] at ih ⊢
    rw [if_neg (fun he => h (by rw [he]; exact List.mem_cons_self)), ih]

theorem ans_L4 {ds : List TDeed} {d : TDeed} {x : Int} (hf : fnd ds x = some d) (ho : d.f_Others.length < 4611686018427387904) (hh : ∀ o ∈ d.f_Others, hs o = true) {N K : List Int} (hN : N.length ≤ K.length) (hK : K.Nodup) (hKh : ∀ y ∈ K, hs y = true) :
    ∃ add, loopL (firm_Answers_L4 (bk ds, 0) x) (0, N, seenM K) = some (N ++ add, seenM (K ++ add)) ∧ (K ++ add).Nodup ∧ (∀ y ∈ add, y ∈ d.f_Others) ∧ ∀ o ∈ d.f_Others, o ∈ K ++ add := by
  have hoth : (lookM (TDeed.mk 0 0 0 ([])) (bk ds) x).f_Others = d.f_Others := by rw [lookM_bk, hf]; rfl
  have key : ∀ (rest : List Int) (i fuel : Nat) (N K : List Int), i ≤ d.f_Others.length → d.f_Others.drop i = rest → rest.length < fuel → N.length ≤ K.length → K.Nodup → (∀ y ∈ K, hs y = true) →
      ∃ add, iterL (firm_Answers_L4 (bk ds, 0) x) fuel ((i : Int), N, seenM K) = some (N ++ add, seenM (K ++ add)) ∧ (K ++ add).Nodup ∧ (∀ y ∈ add, y ∈ d.f_Others) ∧ ∀ o ∈ rest, o ∈ K ++ add := by
    intro rest
    induction rest with
    | nil =>
      intro i fuel N K hi hd hfu hN hK hKh
      obtain ⟨f, rfl⟩ : ∃ f, fuel = f + 1 := ⟨fuel - 1, by simp at hfu; omega⟩
      have hle := drop_nil hd
      refine ⟨[], ?_, by simpa using hK, by simp, by simp⟩
      rw [iter_inr (r := (N, seenM K)) (by unfold firm_Answers_L4; simp only [hoth]; rw [if_neg (by simp; omega)])]
      simp
    | cons o rest ih =>
      intro i fuel N K hi hd hfu hN hK hKh
      obtain ⟨f, rfl⟩ : ∃ f, fuel = f + 1 := ⟨fuel - 1, by simp at hfu; omega⟩
      obtain ⟨h1, h2, h3, _⟩ := drop_cons hd
      have hoh := hh o (List.mem_of_getElem? h2)
      by_cases hm : o ∈ K
      · have hb : firm_Answers_L4 (bk ds, 0) x ((i : Int), N, seenM K) = some (.inl (((i + 1 : Nat) : Int), N, seenM K)) := by
          unfold firm_Answers_L4
          simp only [hoth, idx_of h2, Option.bind_some, look_seen, wrap_nat (show i < 4611686018427387904 by omega)]
          rw [if_pos (by simp; omega)]
          simp [hm]
        obtain ⟨add, e1, e2, e3, e4⟩ := ih (i + 1) f N K h1 h3 (by simp at hfu; omega) hN hK hKh
        refine ⟨add, by rw [iter_inl hb, e1], e2, e3, fun y hy => ?_⟩
        rcases List.mem_cons.1 hy with rfl | hy
        · exact List.mem_append_left _ hm
        · exact e4 y hy
      · have hK' : (K ++ [o]).Nodup := List.nodup_append.2 ⟨hK, by simp, fun a ha b hb => by simp at hb; subst hb; exact fun he => hm (by rw [← he]; exact ha)⟩
        have hKh' : ∀ y ∈ K ++ [o], hs y = true := fun y hy => by
          rcases List.mem_append.1 hy with hy | hy
          · exact hKh y hy
          · simp at hy; subst hy; exact hoh
        have hlen := houses_len hK' hKh'
        simp only [List.length_append, List.length_cons, List.length_nil] at hlen
        have hap : appL 8 N [o] = some (N ++ [o]) := by
          unfold appL
          rw [if_pos]
          simp only [List.length_cons, List.length_nil, maxLen]
          omega
        have hb : firm_Answers_L4 (bk ds, 0) x ((i : Int), N, seenM K) = some (.inl (((i + 1 : Nat) : Int), N ++ [o], seenM (K ++ [o]))) := by
          unfold firm_Answers_L4
          simp only [hoth, idx_of h2, Option.bind_some, look_seen, wrap_nat (show i < 4611686018427387904 by omega), hap, put_seen o K hm]
          rw [if_pos (by simp; omega)]
          simp [hm]
        obtain ⟨add, e1, e2, e3, e4⟩ := ih (i + 1) f (N ++ [o]) (K ++ [o]) h1 h3 (by simp at hfu; omega) (by simp; exact hN) hK' hKh'
        refine ⟨o :: add, ?_, ?_, fun y hy => ?_, fun y hy => ?_⟩
        · rw [iter_inl hb, e1]; simp
        · simpa using e2
        · rcases List.mem_cons.1 hy with rfl | hy
          · exact List.mem_of_getElem? h2
          · exact e3 y hy
        · rcases List.mem_cons.1 hy with rfl | hy
          · simp
          · have := e4 y hy
            simpa using this
  obtain ⟨add, e1, e2, e3, e4⟩ := key _ 0 FU N K (Nat.zero_le _) rfl (by rw [FU_eq, List.drop_zero]; omega) hN hK hKh
  exact ⟨add, e1, e2, e3, fun o hm => e4 o (by simpa using hm)⟩

/-- What holds at each round: who was looked at, and who is next. -/
def AnsI (ds : List TDeed) (day h : Int) (s : List Int × List Int × List (Int × Bool)) : Prop :=
  ∃ dn : List Int, s.2.2 = seenM (dn ++ s.2.1) ∧ (dn ++ s.2.1).Nodup ∧ (∀ x ∈ dn ++ s.2.1, hs x = true ∧ Rch ds day h x) ∧ s.1 = dn.filter (fun x => !endd ds x day) ∧ h ∈ dn ++ s.2.1 ∧
    ∀ x ∈ dn, ∀ d, fnd ds x = some d → d.f_Day ≤ day → ∀ o ∈ d.f_Others, o ∈ dn ++ s.2.1

theorem slc_tail {α : Type} {x : α} {l : List α} : slc (x :: l) 1 ((x :: l).length : Int) = some l := by
  unfold slc
  rw [if_pos (by simp; omega)]
  have e1 : Int.toNat 1 = 1 := rfl
  simp only [e1, List.drop_succ_cons, List.drop_zero, Int.toNat_natCast]
  rw [List.take_of_length_le (by simp)]

theorem ans_L2 {ds : List TDeed} (hw : W ds) (hv : Ok ds) {day h : Int} (hh : hs h = true) :
    ∃ out, loopL (firm_Answers_L2 day (bk ds, 0)) ([], [h], seenM [h]) = some out ∧ out.Nodup ∧ out.length ≤ 400 ∧ ∀ x, x ∈ out ↔ Rch ds day h x ∧ endd ds x day = false := by
  have hloop := loopL_of (body := firm_Answers_L2 day (bk ds, 0)) (s := ([], [h], seenM [h])) (AnsI ds day h) (fun s => 2 * (400 - s.2.2.length) + s.2.1.length)
    (fun out => out.Nodup ∧ out.length ≤ 400 ∧ ∀ x, x ∈ out ↔ Rch ds day h x ∧ endd ds x day = false) ?_ (by show 2 * (400 - 1) + 1 < FU; rw [FU_eq]; omega) ?_
  · exact hloop
  · exact ⟨[], rfl, by simp, fun x hx => by simp at hx; subst hx; exact ⟨hh, .refl⟩, rfl, by simp, fun x hx => by simp at hx⟩
  · rintro ⟨out, next, seen⟩ ⟨dn, e1, e2, e3, e4, e5, e6⟩
    simp only at e1 e2 e3 e4 e5 e6
    subst e1 e4
    cases next with
    | nil =>
      right
      refine ⟨dn.filter (fun x => !endd ds x day), by unfold firm_Answers_L2; simp, ?_, ?_, fun x => ?_⟩
      · rw [List.append_nil] at e2
        exact e2.filter _
      · rw [List.append_nil] at e2 e3
        exact Nat.le_trans (List.length_filter_le _ _) (houses_len e2 fun x hx => (e3 x hx).1)
      · rw [List.append_nil] at e3 e5 e6
        rw [List.mem_filter]
        constructor
        · rintro ⟨h1, h2⟩
          exact ⟨(e3 x h1).2, by simpa using h2⟩
        · rintro ⟨h1, h2⟩
          refine ⟨?_, by simpa using h2⟩
          clear h2
          induction h1 with
          | refl => exact e5
          | step hr hd he hday ho ih => exact e6 _ ih _ (by rw [← he]; exact fnd_of hv.uniq hd) hday _ ho
    | cons x next =>
      left
      have hxm : x ∈ dn ++ x :: next := by simp
      obtain ⟨hxh, hxr⟩ := e3 x hxm
      have hlen := houses_len e2 fun x hx => (e3 x hx).1
      simp only [List.length_append, List.length_cons] at hlen
      have hidx : P.idx (x :: next) 0 = some x := by unfold P.idx; simp
      have hpos : decide ((((x :: next).length : Nat) : Int) > 0) = true := by simp
      have eK : dn ++ x :: next = (dn ++ [x]) ++ next := by simp
      cases he : endd ds x day with
      | false =>
        have hap : appL 8 (dn.filter (fun x => !endd ds x day)) [x] = some (dn.filter (fun x => !endd ds x day) ++ [x]) := by
          have := List.length_filter_le (fun x => !endd ds x day) dn
          unfold appL
          rw [if_pos]
          simp only [List.length_cons, List.length_nil, maxLen]
          omega
        refine ⟨(dn.filter (fun x => !endd ds x day) ++ [x], next, seenM (dn ++ x :: next)), ?_, ⟨dn ++ [x], ?_, ?_, ?_, ?_, ?_, ?_⟩, ?_⟩
        · unfold firm_Answers_L2
          simp only [hpos, if_true, hidx, Option.bind_some, alive_eq, he, Bool.not_false, hap, slc_tail]
        · simp only; rw [eK]
        · simp only; rw [← eK]; exact e2
        · simp only; rw [← eK]; exact e3
        · simp [List.filter_append, he]
        · simp only; rw [← eK]; exact e5
        · simp only
          intro y hy d hd hday o ho
          rw [← eK]
          rcases List.mem_append.1 hy with hy | hy
          · exact e6 y hy d hd hday o ho
          · simp at hy
            subst hy
            unfold endd at he
            rw [hd] at he
            simp at he
            omega
        · simp only [List.length_cons]; omega
      | true =>
        have hfx : ∃ d, fnd ds x = some d ∧ d.f_Day ≤ day := by
          unfold endd at he
          cases hf : fnd ds x with
          | none => rw [hf] at he; cases he
          | some d => rw [hf] at he; exact ⟨d, rfl, by simpa using he⟩
        obtain ⟨d, hf, hday⟩ := hfx
        obtain ⟨hdm, hdh⟩ := fnd_mem hf
        obtain ⟨add, a1, a2, a3, a4⟩ := ans_L4 hf (hw.oth hdm) (fun o ho => (hv.others hdm o ho).1) (N := x :: next) (K := dn ++ x :: next) (by simp) e2 (fun y hy => (e3 y hy).1)
        have eK2 : dn ++ x :: next ++ add = (dn ++ [x]) ++ (next ++ add) := by simp
        have hlen2 := houses_len a2 (fun y hy => by
          rcases List.mem_append.1 hy with hy | hy
          · exact (e3 y hy).1
          · exact (hv.others hdm y (a3 y hy)).1)
        simp only [List.length_append, List.length_cons] at hlen2
        refine ⟨(dn.filter (fun x => !endd ds x day), next ++ add, seenM (dn ++ x :: next ++ add)), ?_, ⟨dn ++ [x], ?_, ?_, ?_, ?_, ?_, ?_⟩, ?_⟩
        · unfold firm_Answers_L2
          simp only [hpos, if_true, hidx, Option.bind_some, alive_eq, he, Bool.not_true, Bool.false_eq_true, if_false, a1]
          rw [List.cons_append, slc_tail]
          rfl
        · simp only; rw [eK2]
        · simp only; rw [← eK2]; exact a2
        · simp only
          rw [← eK2]
          intro y hy
          rcases List.mem_append.1 hy with hy | hy
          · exact e3 y hy
          · exact ⟨(hv.others hdm y (a3 y hy)).1, .step hxr hdm hdh hday (a3 y hy)⟩
        · simp [List.filter_append, he]
        · simp only; rw [← eK2]; exact List.mem_append_left _ e5
        · simp only
          intro y hy d' hd' hday' o ho
          rw [← eK2]
          rcases List.mem_append.1 hy with hy | hy
          · exact List.mem_append_left _ (e6 y hy d' hd' hday' o ho)
          · simp at hy
            subst hy
            rw [hf] at hd'
            cases hd'
            exact a4 o ho
        · simp only [seenM, List.length_append, List.length_map, List.length_cons]; omega

/-- In ascending order. -/
def Asc (l : List Int) : Prop := l.Pairwise (· < ·)
theorem asc_unique : ∀ {a b : List Int}, Asc a → Asc b → (∀ x, x ∈ a ↔ x ∈ b) → a = b
  | [], [], _, _, _ => rfl
  | [], y :: b, _, _, h => by have := (h y).2 (by simp); simp at this
  | x :: a, [], _, _, h => by have := (h x).1 (by simp); simp at this
  | x :: a, y :: b, ha, hb, h => by
    unfold Asc at ha hb
    rw [List.pairwise_cons] at ha hb
    have hxy : x = y := by
      have h1 := (h x).1 (by simp)
      have h2 := (h y).2 (by simp)
      rcases List.mem_cons.1 h1 with h1 | h1
      · exact h1
      · rcases List.mem_cons.1 h2 with h2 | h2
        · exact h2.symm
        · have := hb.1 x h1
          have := ha.1 y h2
          omega
    subst hxy
    have : a = b := asc_unique ha.2 hb.2 fun z => by
      constructor
      · intro hz
        have := (h z).1 (List.mem_cons_of_mem _ hz)
        rcases List.mem_cons.1 this with rfl | hz'
        · have := ha.1 z hz; omega
        · exact hz'
      · intro hz
        have := (h z).2 (List.mem_cons_of_mem _ hz)
        rcases List.mem_cons.1 this with rfl | hz'
        · have := hb.1 z hz; omega
        · exact hz'
    rw [this]
theorem sort_asc {l : List Int} (hd : l.Nodup) : Asc (sortI l) := by
  have hp : (sortI l).Perm l := List.mergeSort_perm l _
  have h1 : (sortI l).Pairwise (fun a b => decide (a ≤ b) = true) := List.pairwise_mergeSort (fun a b c h1 h2 => by simp at *; omega) (fun a b => by simp; omega) l
  have h2 : (sortI l).Nodup := hp.nodup_iff.2 hd
  refine (h1.and h2).imp fun {a b} hab => ?_
  have h3 := hab.1
  simp at h3
  have := hab.2
  omega

/-- The answers: who may answer and is alive, in ascending order. -/
theorem ans_spec {ds : List TDeed} (hw : W ds) (hv : Ok ds) {h : Int} (day : Int) (hh : hs h = true) : ∃ L, firm_Answers ds h day = some L ∧ Asc L ∧ L.length ≤ 400 ∧ ∀ x, x ∈ L ↔ Rch ds day h x ∧ endd ds x day = false := by
  obtain ⟨out, o1, o2, o3, o4⟩ := ans_L2 hw hv (day := day) hh
  have hc := chk_ok.2 hv
  refine ⟨sortI out, ?_, sort_asc o2, by rw [sortI_len]; exact o3, fun x => ?_⟩
  · unfold firm_Answers
    rw [read_eq hw, Option.bind_some, if_pos hc]
    have h0 : (((0 : Int) != 0)) = false := rfl
    simp only [h0, Bool.false_eq_true, if_false, house_eq, Option.bind_some, hh, Bool.not_true]
    have hp : (putM ([] : (List (Int × Bool))) h true) = seenM [h] := rfl
    rw [hp, o1, Option.bind_some]
    unfold sortS_25_w
    rw [if_pos (by omega), Option.bind_some]
  · rw [← o4 x]
    exact (List.mergeSort_perm out _).mem_iff
theorem ans_none {ds : List TDeed} (hw : W ds) {h day : Int} (hn : chk ds ≠ 0 ∨ hs h = false) : firm_Answers ds h day = some [] := by
  unfold firm_Answers
  rw [read_eq hw, Option.bind_some]
  by_cases hc : chk ds = 0
  · have hh := hn.resolve_left (fun k => k hc)
    simp [hc, house_eq, hh]
  · simp [hc]
end Go.Proofs.Ytnnkcegdkhclcaa.P
