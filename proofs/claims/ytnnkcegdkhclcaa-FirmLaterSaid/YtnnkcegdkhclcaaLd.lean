/- Who answers: what the reference computes. -/
import Derived.Test.YtnnkcegdkhclcaaLc
namespace Go.Proofs.Ytnnkcegdkhclcaa.P
open Go.RowKit
set_option linter.unusedSimpArgs false
set_option linter.unusedVariables false

/-- How many are not marked. -/
def cntF : List Bool → Nat
  | [] => 0
  | b :: l => (if b then 0 else 1) + cntF l
theorem cntF_set : ∀ {l : List Bool} {k : Nat}, l[k]? = some false → cntF (l.set k true) + 1 = cntF l
  | [], k, h => by simp at h
  | b :: l, 0, h => by
    simp only [List.getElem?_cons_zero, Option.some.injEq] at h
    subst h
    simp [cntF]
    omega
  | b :: l, k + 1, h => by
    have := cntF_set (l := l) (k := k) (by simpa using h)
    simp only [List.set_cons_succ, cntF]
    omega
theorem cntF_le : ∀ l : List Bool, cntF l ≤ l.length
  | [] => Nat.le_refl _
  | b :: l => by
    have := cntF_le l
    simp only [cntF, List.length_cons]
    split <;> omega
/-- Is a house marked? -/
def mkd (m : List Bool) (x : Int) : Prop := 0 ≤ x ∧ m[x.toNat]? = some true
theorem idx_mk {m : List Bool} (hm : m.length = 400) {x : Int} (hx : hs x = true) : ∃ b, P.idx m x = some b ∧ m[x.toNat]? = some b ∧ (b = true ↔ mkd m x) := by
  rw [hs_iff] at hx
  have hlt : x.toNat < m.length := by omega
  refine ⟨m[x.toNat], idx_some hx.1 (List.getElem?_eq_getElem hlt), List.getElem?_eq_getElem hlt, ?_⟩
  unfold mkd
  rw [List.getElem?_eq_getElem hlt]
  simp
  omega
theorem mkd_set {m : List Bool} (hm : m.length = 400) {x y : Int} (hx : hs x = true) : mkd (m.set x.toNat true) y ↔ mkd m y ∨ y = x := by
  rw [hs_iff] at hx
  unfold mkd
  rw [List.getElem?_set]
  by_cases h : x.toNat = y.toNat
  · rw [if_pos h, if_pos (by omega)]
    constructor
    · rintro ⟨h1, _⟩; right; omega
    · rintro (h1 | rfl)
      · exact ⟨h1.1, rfl⟩
      · exact ⟨hx.1, rfl⟩
  · rw [if_neg h]
    constructor
    · exact fun h1 => .inl h1
    · rintro (h1 | rfl)
      · exact h1
      · exact absurd rfl h

/-- What a pass may change. -/
structure Pass (m : Bool) (k : List Bool) (m' : Bool) (k' : List Bool) : Prop where
  len : k'.length = 400
  sub : ∀ x, mkd k x → mkd k' x
  cnt : cntF k' ≤ cntF k
  alt : (m' = m ∧ k' = k) ∨ (m' = true ∧ cntF k' < cntF k)
theorem Pass.refl {m : Bool} {k : List Bool} (h : k.length = 400) : Pass m k m k := ⟨h, fun _ h => h, Nat.le_refl _, .inl ⟨rfl, rfl⟩⟩
theorem Pass.trans {m m1 m2 : Bool} {k k1 k2 : List Bool} (a : Pass m k m1 k1) (b : Pass m1 k1 m2 k2) : Pass m k m2 k2 where
  len := b.len
  sub x h := b.sub x (a.sub x h)
  cnt := Nat.le_trans b.cnt a.cnt
  alt := by
    rcases b.alt with ⟨h1, h2⟩ | ⟨h1, h2⟩
    · subst h1 h2; exact a.alt
    · exact .inr ⟨h1, Nat.lt_of_lt_of_le h2 a.cnt⟩

theorem rans_L12 {d : TDeed} (ho : d.f_Others.length < 4611686018427387904) (hh : ∀ o ∈ d.f_Others, hs o = true) (m : Bool) {k : List Bool} (hk : k.length = 400) :
    ∃ m' k', loopL (r41_Answers_L12 d) (m, 0, k) = some (m', k') ∧ Pass m k m' k' ∧ ∀ x, mkd k' x ↔ mkd k x ∨ x ∈ d.f_Others := by
  have key : ∀ (rest : List Int) (i fuel : Nat) (m : Bool) (k : List Bool), i ≤ d.f_Others.length → d.f_Others.drop i = rest → rest.length < fuel → k.length = 400 →
      ∃ m' k', iterL (r41_Answers_L12 d) fuel (m, (i : Int), k) = some (m', k') ∧ Pass m k m' k' ∧ ∀ x, mkd k' x ↔ mkd k x ∨ x ∈ rest := by
    intro rest
    induction rest with
    | nil =>
      intro i fuel m k hi hd hf hk
      obtain ⟨f, rfl⟩ : ∃ f, fuel = f + 1 := ⟨fuel - 1, by simp at hf; omega⟩
      have hle := drop_nil hd
      exact ⟨m, k, iter_inr (by unfold r41_Answers_L12; simp; omega), .refl hk, by simp⟩
    | cons o rest ih =>
      intro i fuel m k hi hd hf hk
      obtain ⟨f, rfl⟩ : ∃ f, fuel = f + 1 := ⟨fuel - 1, by simp at hf; omega⟩
      obtain ⟨h1, h2, h3, _⟩ := drop_cons hd
      have hoh := hh o (List.mem_of_getElem? h2)
      obtain ⟨b, b1, b2, b3⟩ := idx_mk hk hoh
      cases b with
      | true =>
        have hb : r41_Answers_L12 d (m, (i : Int), k) = some (.inl (m, ((i + 1 : Nat) : Int), k)) := by
          unfold r41_Answers_L12
          simp only [idx_of h2, b1, Option.bind_some, wrap_nat (show i < 4611686018427387904 by omega)]
          rw [if_pos (by simp; omega)]
          simp
        obtain ⟨m', k', e1, e2, e3⟩ := ih (i + 1) f m k h1 h3 (by simp at hf; omega) hk
        refine ⟨m', k', by rw [iter_inl hb, e1], e2, fun x => ?_⟩
        rw [e3 x, List.mem_cons]
        constructor
        · rintro (h | h)
          · exact .inl h
          · exact .inr (.inr h)
        · rintro (h | rfl | h)
          · exact .inl h
          · exact .inl (b3.1 rfl)
          · exact .inr h
      | false =>
        have hb : r41_Answers_L12 d (m, (i : Int), k) = some (.inl (true, ((i + 1 : Nat) : Int), k.set o.toNat true)) := by
          unfold r41_Answers_L12
          simp only [idx_of h2, b1, Option.bind_some, wrap_nat (show i < 4611686018427387904 by omega)]
          rw [if_pos (by simp; omega)]
          simp
        have hc := cntF_set b2
        have hp : Pass m k true (k.set o.toNat true) := ⟨by simp [hk], fun x hx => (mkd_set hk hoh).2 (.inl hx), by omega, .inr ⟨rfl, by omega⟩⟩
        obtain ⟨m', k', e1, e2, e3⟩ := ih (i + 1) f true (k.set o.toNat true) h1 h3 (by simp at hf; omega) hp.len
        refine ⟨m', k', by rw [iter_inl hb, e1], hp.trans e2, fun x => ?_⟩
        rw [e3 x, mkd_set hk hoh, List.mem_cons, or_assoc]
  exact key _ 0 FU m k (Nat.zero_le _) rfl (by rw [FU_eq]; omega) hk

/-- Who is marked may answer. -/
def Sound (ds : List TDeed) (day h : Int) (k : List Bool) : Prop := ∀ x, mkd k x → Rch ds day h x

theorem rans_L8 {ds : List TDeed} (hw : W ds) (hv : Ok ds) {day h : Int} {k : List Bool} (hk : k.length = 400) (hs0 : Sound ds day h k) :
    ∃ m' k', loopL (r41_Answers_L8 ds day) (false, 0, k) = some (m', k') ∧ Pass false k m' k' ∧ Sound ds day h k' ∧ (m' = false → ∀ d ∈ ds, mkd k d.f_House → d.f_Day ≤ day → ∀ o ∈ d.f_Others, mkd k o) := by
  have key : ∀ (rest : List TDeed) (i fuel : Nat) (m : Bool) (k : List Bool), i ≤ ds.length → ds.drop i = rest → rest.length < fuel → k.length = 400 → Sound ds day h k →
      ∃ m' k', iterL (r41_Answers_L8 ds day) fuel (m, (i : Int), k) = some (m', k') ∧ Pass m k m' k' ∧ Sound ds day h k' ∧ (m' = false → ∀ d ∈ rest, mkd k d.f_House → d.f_Day ≤ day → ∀ o ∈ d.f_Others, mkd k o) := by
    intro rest
    induction rest with
    | nil =>
      intro i fuel m k hi hd hf hk hsd
      obtain ⟨f, rfl⟩ : ∃ f, fuel = f + 1 := ⟨fuel - 1, by simp at hf; omega⟩
      have hle := drop_nil hd
      exact ⟨m, k, iter_inr (by unfold r41_Answers_L8; simp; omega), .refl hk, hsd, by simp⟩
    | cons d rest ih =>
      intro i fuel m k hi hd hf hk hsd
      obtain ⟨f, rfl⟩ : ∃ f, fuel = f + 1 := ⟨fuel - 1, by simp at hf; omega⟩
      obtain ⟨h1, h2, h3, _⟩ := drop_cons hd
      have hdm := List.mem_of_getElem? h2
      have hlen := hw.len
      obtain ⟨b, b1, b2, b3⟩ := idx_mk hk (hv.house hdm)
      by_cases hc : b = true ∧ d.f_Day ≤ day
      · obtain ⟨rfl, hday⟩ := hc
        obtain ⟨m1, k1, e1, e2, e3⟩ := rans_L12 (hw.oth hdm) (fun o ho => (hv.others hdm o ho).1) m hk
        have hb : r41_Answers_L8 ds day (m, (i : Int), k) = some (.inl (m1, ((i + 1 : Nat) : Int), k1)) := by
          have : ¬ d.f_Day > day := by omega
          unfold r41_Answers_L8
          simp only [idx_of h2, b1, Option.bind_some, wrap_nat (show i < 4611686018427387904 by omega)]
          rw [if_pos (by simp; omega)]
          simp [this, e1]
        have hsd1 : Sound ds day h k1 := fun x hx => by
          rcases (e3 x).1 hx with hx | hx
          · exact hsd x hx
          · exact .step (hsd _ (b3.1 rfl)) hdm rfl hday hx
        obtain ⟨m', k', g1, g2, g3, g4⟩ := ih (i + 1) f m1 k1 h1 h3 (by simp at hf; omega) e2.len hsd1
        refine ⟨m', k', by rw [iter_inl hb, g1], e2.trans g2, g3, fun hm d' hd' => ?_⟩
        have hkk : m1 = m ∧ k1 = k := by
          rcases g2.alt with ⟨a1, a2⟩ | ⟨a1, _⟩
          · rcases e2.alt with a3 | ⟨a3, _⟩
            · exact a3
            · rw [← a1, hm] at a3; cases a3
          · rw [hm] at a1; cases a1
        obtain ⟨rfl, rfl⟩ := hkk
        rcases List.mem_cons.1 hd' with rfl | hd'
        · intro _ _ o ho
          exact (e3 o).2 (.inr ho)
        · exact g4 hm d' hd'
      · have hb : r41_Answers_L8 ds day (m, (i : Int), k) = some (.inl (m, ((i + 1 : Nat) : Int), k)) := by
          unfold r41_Answers_L8
          simp only [idx_of h2, b1, Option.bind_some, wrap_nat (show i < 4611686018427387904 by omega)]
          rw [if_pos (by simp; omega)]
          cases b with
          | false => simp
          | true =>
            have : d.f_Day > day := by
              have : ¬ d.f_Day ≤ day := fun h => hc ⟨rfl, h⟩
              omega
            simp [this]
        obtain ⟨m', k', g1, g2, g3, g4⟩ := ih (i + 1) f m k h1 h3 (by simp at hf; omega) hk hsd
        refine ⟨m', k', by rw [iter_inl hb, g1], g2, g3, fun hm d' hd' => ?_⟩
        rcases List.mem_cons.1 hd' with rfl | hd'
        · intro hmk hday
          exact absurd ⟨b3.2 hmk, hday⟩ hc
        · exact g4 hm d' hd'
  exact key _ 0 FU false k (Nat.zero_le _) rfl (by have := hw.1; rw [FU_eq]; omega) hk hs0

theorem rans_L2 {ds : List TDeed} (hw : W ds) (hv : Ok ds) {day h : Int} (hh : hs h = true) {k : List Bool} (hk : k.length = 400) (hm0 : ∀ x, mkd k x ↔ x = h) :
    ∃ k', loopL (r41_Answers_L2 ds day) (true, k) = some k' ∧ k'.length = 400 ∧ ∀ x, mkd k' x ↔ Rch ds day h x := by
  have hloop := loopL_of (body := r41_Answers_L2 ds day) (s := (true, k)) (fun s => s.2.length = 400 ∧ Sound ds day h s.2 ∧ mkd s.2 h ∧ (s.1 = false → ∀ d ∈ ds, mkd s.2 d.f_House → d.f_Day ≤ day → ∀ o ∈ d.f_Others, mkd s.2 o))
    (fun s => 2 * cntF s.2 + if s.1 then 1 else 0) (fun k' => k'.length = 400 ∧ ∀ x, mkd k' x ↔ Rch ds day h x) ?_ ?_ ?_
  · exact hloop
  · exact ⟨hk, fun x hx => by rw [(hm0 x).1 hx]; exact .refl, (hm0 h).2 rfl, fun he => by cases he⟩
  · have := cntF_le k
    simp only [if_true, FU_eq]
    omega
  · rintro ⟨m, k⟩ ⟨i1, i2, i3, i4⟩
    simp only at i1 i2 i3 i4
    cases m with
    | false =>
      right
      refine ⟨k, by unfold r41_Answers_L2; simp, i1, fun x => ⟨i2 x, fun hx => ?_⟩⟩
      induction hx with
      | refl => exact i3
      | step hr hd he hday ho ih => exact i4 rfl _ hd (by rw [he]; exact ih) hday _ ho
    | true =>
      left
      obtain ⟨m', k', e1, e2, e3, e4⟩ := rans_L8 hw hv i1 i2
      refine ⟨(m', k'), by unfold r41_Answers_L2; simp [e1], ⟨e2.len, e3, e2.sub _ i3, fun hm => ?_⟩, ?_⟩
      · simp only at hm ⊢
        rcases e2.alt with ⟨a1, a2⟩ | ⟨a1, _⟩
        · subst a2; exact e4 hm
        · rw [hm] at a1; cases a1
      · simp only [if_true]
        rcases e2.alt with ⟨a1, a2⟩ | ⟨a1, a2⟩
        · subst a1 a2; simp
        · subst a1; simp only [if_true]; omega

theorem rans_L13 {ds : List TDeed} (hw : W ds) {day : Int} {k : List Bool} (hk : k.length = 400) :
    ∃ out, loopL (r41_Answers_L13 ds day k) (0, []) = some out ∧ Asc out ∧ out.length ≤ 400 ∧ ∀ x, x ∈ out ↔ mkd k x ∧ endd ds x day = false := by
  have key : ∀ (n i fuel : Nat) (out : List Int), i ≤ 400 → 400 - i = n → n < fuel → Asc out → out.length ≤ i → (∀ x, x ∈ out ↔ x < i ∧ mkd k x ∧ endd ds x day = false) →
      ∃ out', iterL (r41_Answers_L13 ds day k) fuel ((i : Int), out) = some out' ∧ Asc out' ∧ out'.length ≤ 400 ∧ ∀ x, x ∈ out' ↔ mkd k x ∧ endd ds x day = false := by
    intro n
    induction n with
    | zero =>
      intro i fuel out hi hn hf ha hl hm
      obtain ⟨f, rfl⟩ : ∃ f, fuel = f + 1 := ⟨fuel - 1, by omega⟩
      have : i = 400 := by omega
      subst this
      refine ⟨out, iter_inr (by unfold r41_Answers_L13; simp [hk]), ha, hl, fun x => ?_⟩
      rw [hm x]
      refine ⟨fun h => h.2, fun h => ⟨?_, h⟩⟩
      have := (List.getElem?_eq_some_iff.1 h.1.2).1
      omega
    | succ n ih =>
      intro i fuel out hi hn hf ha hl hm
      obtain ⟨f, rfl⟩ : ∃ f, fuel = f + 1 := ⟨fuel - 1, by omega⟩
      obtain ⟨b, b1, b2, b3⟩ := idx_mk hk (x := (i : Int)) (by rw [hs_iff]; omega)
      have hap : appL 8 out [(i : Int)] = some (out ++ [(i : Int)]) := by
        unfold appL
        rw [if_pos]
        simp only [List.length_cons, List.length_nil, maxLen]
        omega
      by_cases hc : b = true ∧ endd ds (i : Int) day = false
      · obtain ⟨rfl, he⟩ := hc
        have hb : r41_Answers_L13 ds day k ((i : Int), out) = some (.inl (((i + 1 : Nat) : Int), out ++ [(i : Int)])) := by
          unfold r41_Answers_L13
          simp only [b1, Option.bind_some, ended_eq hw.len, he, hap, wrap_nat (show i < 4611686018427387904 by omega)]
          rw [if_pos (by simp [hk]; omega)]
          simp
        obtain ⟨out', e1, e2⟩ := ih (i + 1) f (out ++ [(i : Int)]) (by omega) (by omega) (by omega) (List.pairwise_append.2 ⟨ha, by simp, fun a h1 b h2 => by simp at h2; subst h2; exact ((hm a).1 h1).1⟩) (by simp; exact hl) (fun x => by
          rw [List.mem_append, hm x]
          constructor
          · rintro (h | h)
            · exact ⟨by omega, h.2⟩
            · simp at h; subst h; exact ⟨by omega, b3.1 rfl, he⟩
          · rintro ⟨h1, h2⟩
            by_cases hx : x = i
            · right; simp [hx]
            · exact .inl ⟨by omega, h2⟩)
        exact ⟨out', by rw [iter_inl hb, e1], e2⟩
      · have hb : r41_Answers_L13 ds day k ((i : Int), out) = some (.inl (((i + 1 : Nat) : Int), out)) := by
          unfold r41_Answers_L13
          simp only [b1, Option.bind_some, ended_eq hw.len, wrap_nat (show i < 4611686018427387904 by omega)]
          rw [if_pos (by simp [hk]; omega)]
          cases b with
          | false => simp
          | true =>
            have : endd ds (i : Int) day = true := by
              cases hh : endd ds (i : Int) day
              · exact absurd ⟨rfl, hh⟩ hc
              · rfl
            simp [this]
        obtain ⟨out', e1, e2⟩ := ih (i + 1) f out (by omega) (by omega) (by omega) ha (by omega) (fun x => by
          rw [hm x]
          constructor
          · rintro ⟨h1, h2⟩; exact ⟨by omega, h2⟩
          · rintro ⟨h1, h2⟩
            refine ⟨?_, h2⟩
            by_cases hx : x = i
            · subst hx; exact absurd ⟨b3.2 h2.1, h2.2⟩ hc
            · omega)
        exact ⟨out', by rw [iter_inl hb, e1], e2⟩
  have h0 := key 400 0 FU [] (by omega) rfl (by rw [FU_eq]; omega) (by simp [Asc]) (by simp) (fun x => by
    refine ⟨fun h => (by simp at h), fun h => ?_⟩
    have := h.2.1.1
    have := h.1
    omega)
  exact h0

theorem rans_spec {ds : List TDeed} (hw : W ds) (hv : Ok ds) {h : Int} (day : Int) (hh : hs h = true) : ∃ L, r41_Answers ds h day = some L ∧ Asc L ∧ L.length ≤ 400 ∧ ∀ x, x ∈ L ↔ Rch ds day h x ∧ endd ds x day = false := by
  have hc := chk_ok.2 hv
  have hmk : mkL 1 400 400 false = some (List.replicate 400 false) := by
    unfold mkL
    rw [if_pos (by simp [maxLen])]
    rfl
  have hk0 : (List.replicate 400 false).length = 400 := List.length_replicate
  obtain ⟨b, b1, _, _⟩ := idx_mk hk0 hh
  obtain ⟨k', e1, e2, e3⟩ := rans_L2 hw hv (day := day) hh (k := (List.replicate 400 false).set h.toNat true) (by rw [List.length_set, hk0]) (fun x => by
    rw [mkd_set hk0 hh]
    constructor
    · rintro (h1 | h1)
      · have := h1.2
        rw [List.getElem?_replicate] at this
        split at this <;> simp at this
      · exact h1
    · exact .inr)
  obtain ⟨out, o1, o2, o3, o4⟩ := rans_L13 hw (day := day) e2
  refine ⟨out, ?_, o2, o3, fun x => by rw [o4 x, e3 x]⟩
  unfold r41_Answers
  have h0 : (((0 : Int) != 0)) = false := rfl
  simp only [rcheck_eq hw, hc, Option.bind_some, h0, Bool.false_eq_true, if_false, rhouse_eq, hh, Bool.not_true, hmk, b1, e1, o1]
theorem rans_none {ds : List TDeed} (hw : W ds) {h day : Int} (hn : chk ds ≠ 0 ∨ hs h = false) : r41_Answers ds h day = some [] := by
  unfold r41_Answers
  simp only [rcheck_eq hw, Option.bind_some]
  by_cases hc : chk ds = 0
  · have hh := hn.resolve_left (fun k => k hc)
    simp [hc, rhouse_eq, hh]
  · simp [hc]
/-- Both answer alike. -/
theorem ans_same {ds : List TDeed} (hw : W ds) (h day : Int) : ∃ L, firm_Answers ds h day = some L ∧ r41_Answers ds h day = some L ∧ L.length ≤ 400 := by
  by_cases hn : chk ds = 0 ∧ hs h = true
  · have hv := chk_ok.1 hn.1
    obtain ⟨L, a1, a2, a3, a4⟩ := ans_spec hw hv day hn.2
    obtain ⟨L', b1, b2, b3, b4⟩ := rans_spec hw hv day hn.2
    have : L = L' := asc_unique a2 b2 fun x => by rw [a4 x, b4 x]
    subst this
    exact ⟨L, a1, b1, a3⟩
  · have hn' : chk ds ≠ 0 ∨ hs h = false := by
      by_cases hc : chk ds = 0
      · right
        cases hh : hs h
        · rfl
        · exact absurd ⟨hc, hh⟩ hn
      · exact .inl hc
    exact ⟨[], ans_none hw hn', rans_none hw hn', by simp⟩
end Go.Proofs.Ytnnkcegdkhclcaa.P
