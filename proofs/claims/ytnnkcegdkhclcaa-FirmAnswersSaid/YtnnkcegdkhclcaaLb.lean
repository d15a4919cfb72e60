/- The firm's book and both checks. -/
import Derived.Test.YtnnkcegdkhclcaaLa
namespace Go.Proofs.Ytnnkcegdkhclcaa.P
open Go.RowKit
set_option linter.unusedSimpArgs false
set_option linter.unusedVariables false

def W (ds : List TDeed) : Prop := ds.length * 48 ≤ 140737488351232 ∧ ∀ d ∈ ds, d.f_Others.length * 8 ≤ 140737488351232
theorem W.len {ds : List TDeed} (h : W ds) : ds.length < 4611686018427387904 := by have := h.1; omega
theorem W.oth {ds : List TDeed} (h : W ds) {d : TDeed} (hd : d ∈ ds) : d.f_Others.length < 4611686018427387904 := by have := h.2 d hd; omega
theorem FU_eq : FU = 1000000000000000000000000 := rfl

/-- The book of deeds. -/
def bk (l : List TDeed) : List (Int × TDeed) := l.map fun d => (d.f_House, d)
def houses (l : List TDeed) : List Int := l.map (·.f_House)
def fnd (l : List TDeed) (n : Int) : Option TDeed := l.find? (fun d => d.f_House == n)
/-- Has it ended by the end of a day? -/
def endd (l : List TDeed) (n day : Int) : Bool := match fnd l n with | none => false | some d => decide (d.f_Day ≤ day)
theorem hasM_bk (n : Int) : ∀ l : List TDeed, hasM (bk l) n = (fnd l n).isSome
  | [] => rfl
  | d :: l => by
    have ih := hasM_bk n l
    simp only [bk, List.map_cons, hasM, fnd, List.find?_cons] at ih ⊢
    cases d.f_House == n
    · simpa using ih
    · simp
theorem lookM_bk (z : TDeed) (n : Int) : ∀ l : List TDeed, lookM z (bk l) n = (fnd l n).getD z
  | [] => rfl
  | d :: l => by
    have ih := lookM_bk z n l
    simp only [bk, List.map_cons, lookM, fnd, List.find?_cons] at ih ⊢
    by_cases h : d.f_House = n
    · simp [h]
    · rw [if_neg h, show (d.f_House == n) = false by simp [h]]
      exact ih
theorem fnd_none {l : List TDeed} {n : Int} : fnd l n = none ↔ n ∉ houses l := by
  unfold fnd houses
  rw [List.find?_eq_none]
  simp
theorem fnd_mem {l : List TDeed} {n : Int} {d : TDeed} (h : fnd l n = some d) : d ∈ l ∧ d.f_House = n := by
  unfold fnd at h
  exact ⟨List.mem_of_find?_eq_some h, by simpa using List.find?_some h⟩
theorem alive_eq (l : List TDeed) (n day : Int) : firm_book_alive (bk l) n day = some (!endd l n day) := by
  unfold firm_book_alive endd
  rw [hasM_bk, lookM_bk]
  cases fnd l n with
  | none => simp
  | some d =>
    by_cases h : d.f_Day ≤ day
    · have : ¬ d.f_Day > day := by omega
      simp [h]
    · have : d.f_Day > day := by omega
      simp [h]
      omega
theorem putM_bk (d : TDeed) : ∀ l : List TDeed, fnd l d.f_House = none → putM (bk l) d.f_House d = bk (l ++ [d])
  | [], _ => rfl
  | x :: l, h => by
    unfold fnd at h
    rw [List.find?_cons] at h
    cases hx : x.f_House == d.f_House with
    | true => rw [hx] at h; cases h
    | false =>
      rw [hx] at h
      have ih := putM_bk d l h
      have hne : ¬ x.f_House = d.f_House := by simpa using hx
      simp only [bk, List.map_cons, putM, List.cons_append] at ih ⊢
      rw [if_neg hne, ih]

theorem end_eq {l : List TDeed} {n : Int} (hl : l.length < 4611686018427387904) : ∃ r, r41_End l n = some r ∧ (match fnd l n with | none => r = -1 | some d => ∃ i : Nat, r = i ∧ l[i]? = some d) := by
  unfold r41_End
  rw [scanL l (fun i (x : TDeed) => if x.f_House = n then some (i : Int) else none) hl (fun i x hx => by
    have hi := (List.getElem?_eq_some_iff.1 hx).1
    unfold r41_End_L1
    simp only [idx_of hx, Option.bind_some, wrap_nat (show i < 4611686018427387904 by omega)]
    rw [if_pos (by simp; omega)]
    by_cases he : x.f_House = n <;> simp [he]) (by unfold r41_End_L1; simp)]
  have key : ∀ (l : List TDeed) (i : Nat), (match fnd l n with | none => firstS (fun i (x : TDeed) => if x.f_House = n then some (i : Int) else none) i l = none | some d => ∃ j : Nat, firstS (fun i (x : TDeed) => if x.f_House = n then some (i : Int) else none) i l = some ((i + j : Nat) : Int) ∧ l[j]? = some d) := by
    intro l
    induction l with
    | nil => intro i; rfl
    | cons x l ih =>
      intro i
      unfold fnd at ih ⊢
      rw [List.find?_cons]
      by_cases he : x.f_House = n
      · rw [show (x.f_House == n) = true by simp [he]]
        exact ⟨0, by simp [firstS, he], rfl⟩
      · rw [show (x.f_House == n) = false by simp [he]]
        have := ih (i + 1)
        simp only [firstS, he, if_false] at this ⊢
        cases hf : List.find? (fun d => d.f_House == n) l with
        | none => rw [hf] at this; simpa using this
        | some d =>
          rw [hf] at this
          obtain ⟨j, h1, h2⟩ := this
          exact ⟨j + 1, by rw [h1]; congr 1; omega, by simpa using h2⟩
  have := key l 0
  cases hf : fnd l n with
  | none =>
    rw [hf] at this
    simp only at this
    rw [this]
    exact ⟨-1, rfl, rfl⟩
  | some d =>
    rw [hf] at this
    obtain ⟨j, h1, h2⟩ := this
    rw [h1]
    exact ⟨(j : Int), by simp, j, rfl, h2⟩
theorem ended_eq {l : List TDeed} {n day : Int} (hl : l.length < 4611686018427387904) : r41_Ended l n day = some (endd l n day) := by
  obtain ⟨r, h1, h2⟩ := end_eq (n := n) hl
  unfold r41_Ended endd
  rw [h1, Option.bind_some]
  cases hf : fnd l n with
  | none => rw [hf] at h2; subst h2; simp
  | some d =>
    rw [hf] at h2
    obtain ⟨i, rfl, hi⟩ := h2
    rw [if_neg (by simp), idx_of hi, Option.bind_some]

/-! The first pass. -/
def scan1 (seen : List TDeed) : List TDeed → Option Int
  | [] => none
  | d :: ds => if !fitsB d then some 1 else if d.f_Day < 0 ∨ d.f_Day > 100000 then some 18 else if (fnd seen d.f_House).isSome then some 5 else scan1 (seen ++ [d]) ds

theorem day_eq (d : TDeed) : (if decide (d.f_Day < 0) = true then some true else some (decide (d.f_Day > 100000))) = some (decide (d.f_Day < 0 ∨ d.f_Day > 100000)) := by
  by_cases h : d.f_Day < 0 <;> simp [h]

theorem read_L1 {ds : List TDeed} (hw : W ds) : loopL (firm_read_L1 ds) (0, []) = some (match scan1 [] ds with | some e => .inr ([], e) | none => .inl (bk ds)) := by
  have key : ∀ (rest : List TDeed) (i fuel : Nat), i ≤ ds.length → ds.drop i = rest → rest.length < fuel → iterL (firm_read_L1 ds) fuel ((i : Int), bk (ds.take i)) = some (match scan1 (ds.take i) rest with | some e => .inr ([], e) | none => .inl (bk ds)) := by
    intro rest
    induction rest with
    | nil =>
      intro i fuel hi hd hf
      obtain ⟨f, rfl⟩ : ∃ f, fuel = f + 1 := ⟨fuel - 1, by simp at hf; omega⟩
      have hle := drop_nil hd
      have hii : i = ds.length := by omega
      subst hii
      rw [iter_inr (r := .inl (bk ds)) (by unfold firm_read_L1; simp)]
      rfl
    | cons x rest ih =>
      intro i fuel hi hd hf
      obtain ⟨f, rfl⟩ : ∃ f, fuel = f + 1 := ⟨fuel - 1, by simp at hf; omega⟩
      obtain ⟨h1, h2, h3, h4⟩ := drop_cons hd
      have hlen := hw.len
      have ho := hw.oth (List.mem_of_getElem? h2)
      have hb : firm_read_L1 ds ((i : Int), bk (ds.take i)) = if (!fitsB x) = true then some (.inr (.inr ([], 1))) else if x.f_Day < 0 ∨ x.f_Day > 100000 then some (.inr (.inr ([], 18))) else if (fnd (ds.take i) x.f_House).isSome = true then some (.inr (.inr ([], 5))) else some (.inl (((i + 1 : Nat) : Int), putM (bk (ds.take i)) x.f_House x)) := by
        unfold firm_read_L1
        simp only [idx_of h2, Option.bind_some, fits_eq ho, day_eq, hasM_bk, wrap_nat (show i < 4611686018427387904 by omega)]
        rw [if_pos (by simp; omega)]
        simp only [decide_eq_true_eq]
      simp only [scan1]
      by_cases c1 : (!fitsB x) = true
      · rw [if_pos c1] at hb ⊢
        rw [iter_inr hb]
      · rw [if_neg c1] at hb ⊢
        by_cases c2 : x.f_Day < 0 ∨ x.f_Day > 100000
        · rw [if_pos c2] at hb ⊢
          rw [iter_inr hb]
        · rw [if_neg c2] at hb ⊢
          by_cases c3 : (fnd (ds.take i) x.f_House).isSome = true
          · rw [if_pos c3] at hb ⊢
            rw [iter_inr hb]
          · rw [if_neg c3] at hb ⊢
            rw [putM_bk x _ (by simpa using c3), ← h4] at hb
            rw [iter_inl hb, ih (i + 1) f h1 h3 (by simp at hf; omega), h4]
  exact key _ 0 FU (Nat.zero_le _) rfl (by have := hw.1; rw [FU_eq]; omega)

theorem rcheck_L1 {ds : List TDeed} (hw : W ds) : loopL (r41_Check_L1 ds) 0 = some (match scan1 [] ds with | some e => .inr e | none => .inl ()) := by
  have key : ∀ (rest : List TDeed) (i fuel : Nat), i ≤ ds.length → ds.drop i = rest → rest.length < fuel → iterL (r41_Check_L1 ds) fuel (i : Int) = some (match scan1 (ds.take i) rest with | some e => .inr e | none => .inl ()) := by
    intro rest
    induction rest with
    | nil =>
      intro i fuel hi hd hf
      obtain ⟨f, rfl⟩ : ∃ f, fuel = f + 1 := ⟨fuel - 1, by simp at hf; omega⟩
      have hle := drop_nil hd
      have hii : i = ds.length := by omega
      subst hii
      rw [iter_inr (r := .inl ()) (by unfold r41_Check_L1; simp)]
      rfl
    | cons x rest ih =>
      intro i fuel hi hd hf
      obtain ⟨f, rfl⟩ : ∃ f, fuel = f + 1 := ⟨fuel - 1, by simp at hf; omega⟩
      obtain ⟨h1, h2, h3, h4⟩ := drop_cons hd
      have hlen := hw.len
      have ho := hw.oth (List.mem_of_getElem? h2)
      obtain ⟨r, hr1, hr2⟩ := end_eq (l := ds.take i) (n := x.f_House) (by simp; omega)
      have hrs : decide (r ≥ 0) = (fnd (ds.take i) x.f_House).isSome := by
        cases hfn : fnd (ds.take i) x.f_House with
        | none => rw [hfn] at hr2; subst hr2; rfl
        | some d => rw [hfn] at hr2; obtain ⟨j, rfl, _⟩ := hr2; simp
      have hb : r41_Check_L1 ds (i : Int) = if (!fitsB x) = true then some (.inr (.inr 1)) else if x.f_Day < 0 ∨ x.f_Day > 100000 then some (.inr (.inr 18)) else if (fnd (ds.take i) x.f_House).isSome = true then some (.inr (.inr 5)) else some (.inl ((i + 1 : Nat) : Int)) := by
        unfold r41_Check_L1
        simp only [idx_of h2, Option.bind_some, rfits_eq ho, day_eq, slc_nat hi, hr1, hrs, wrap_nat (show i < 4611686018427387904 by omega)]
        rw [if_pos (by simp; omega)]
        simp only [decide_eq_true_eq]
      simp only [scan1]
      by_cases c1 : (!fitsB x) = true
      · rw [if_pos c1] at hb ⊢
        rw [iter_inr hb]
      · rw [if_neg c1] at hb ⊢
        by_cases c2 : x.f_Day < 0 ∨ x.f_Day > 100000
        · rw [if_pos c2] at hb ⊢
          rw [iter_inr hb]
        · rw [if_neg c2] at hb ⊢
          by_cases c3 : (fnd (ds.take i) x.f_House).isSome = true
          · rw [if_pos c3] at hb ⊢
            rw [iter_inr hb]
          · rw [if_neg c3] at hb ⊢
            rw [iter_inl hb, ih (i + 1) f h1 h3 (by simp at hf; omega), h4]
  exact key _ 0 FU (Nat.zero_le _) rfl (by have := hw.1; rw [FU_eq]; omega)

/-! The second pass. -/
def pass2 (ds : List TDeed) : Bool := ds.all fun d => d.f_Others.all fun o => !endd ds o d.f_Day

theorem contains_eq {ds : List TDeed} {d : TDeed} (ho : d.f_Others.length < 4611686018427387904) : slices_ContainsFunc_firm_read_1 d.f_Others (bk ds) d = some (!(d.f_Others.all fun o => !endd ds o d.f_Day)) := by
  unfold slices_ContainsFunc_firm_read_1 slices_IndexFunc_firm_read_1
  rw [scanL d.f_Others (fun i x => if endd ds x d.f_Day = true then some (i : Int) else none) ho (fun i x hx => by
    have hi := (List.getElem?_eq_some_iff.1 hx).1
    unfold slices_IndexFunc_firm_read_1_L1 firm_read_1
    simp only [idx_of hx, Option.bind_some, alive_eq, wrap_nat (show i < 4611686018427387904 by omega), Bool.not_not]
    rw [if_pos (by simp; omega)]
    cases endd ds x d.f_Day <;> simp) (by unfold slices_IndexFunc_firm_read_1_L1; simp)]
  simp only [Option.bind_some]
  cases hf : firstS (fun i x => if endd ds x d.f_Day = true then some (i : Int) else none) 0 d.f_Others with
  | none =>
    rw [firstS_none] at hf
    have : (d.f_Others.all fun o => !endd ds o d.f_Day) = true := by
      rw [List.all_eq_true]
      intro x hx
      obtain ⟨j, hj⟩ := List.getElem?_of_mem hx
      have := hf j x hj
      cases he : endd ds x d.f_Day
      · rfl
      · rw [he] at this; simp at this
    simp [this]
  | some r =>
    obtain ⟨j, x, h1, h2⟩ := firstS_some hf
    split at h2
    · rename_i he
      cases h2
      have : (d.f_Others.all fun o => !endd ds o d.f_Day) = false := by
        rw [List.all_eq_false]
        exact ⟨x, List.mem_of_getElem? h1, by simp [he]⟩
      rw [this]
      simp
    · cases h2
theorem read_L4 {ds : List TDeed} (hw : W ds) : loopL (firm_read_L4 ds (bk ds)) 0 = some (if pass2 ds then .inl () else .inr ([], 7)) := by
  rw [scanL ds (fun i (d : TDeed) => if (d.f_Others.all fun o => !endd ds o d.f_Day) = true then none else some ([], 7)) hw.len (fun i x hx => by
    have hi := (List.getElem?_eq_some_iff.1 hx).1
    have hlen := hw.len
    unfold firm_read_L4
    simp only [idx_of hx, Option.bind_some, contains_eq (hw.oth (List.mem_of_getElem? hx)), wrap_nat (show i < 4611686018427387904 by omega)]
    rw [if_pos (by simp; omega)]
    cases (x.f_Others.all fun o => !endd ds o x.f_Day) <;> simp) (by unfold firm_read_L4; simp)]
  cases hf : firstS (fun i (d : TDeed) => if (d.f_Others.all fun o => !endd ds o d.f_Day) = true then (none : Option (List (Int × TDeed) × Int)) else some ([], 7)) 0 ds with
  | none =>
    rw [firstS_none] at hf
    have : pass2 ds = true := by
      unfold pass2
      rw [List.all_eq_true]
      intro x hx
      obtain ⟨j, hj⟩ := List.getElem?_of_mem hx
      have := hf j x hj
      split at this
      · assumption
      · cases this
    simp [this]
  | some r =>
    obtain ⟨j, x, h1, h2⟩ := firstS_some hf
    split at h2
    · cases h2
    · rename_i he
      cases h2
      have : pass2 ds = false := by
        unfold pass2
        rw [List.all_eq_false]
        exact ⟨x, List.mem_of_getElem? h1, he⟩
      simp [this]
theorem rcheck_L4 {ds : List TDeed} (hw : W ds) : loopL (r41_Check_L4 ds) 0 = some (if pass2 ds then .inl () else .inr 7) := by
  rw [scanL ds (fun i (d : TDeed) => if (d.f_Others.all fun o => !endd ds o d.f_Day) = true then none else some 7) hw.len (fun i x hx => by
    have hi := (List.getElem?_eq_some_iff.1 hx).1
    have hlen := hw.len
    have ho := hw.oth (List.mem_of_getElem? hx)
    unfold r41_Check_L4
    rw [if_pos (by simp; omega)]
    rw [scanL x.f_Others (fun k (o : Int) => if endd ds o x.f_Day = true then some (7 : Int) else none) ho (fun k o hk => by
      have hk' := (List.getElem?_eq_some_iff.1 hk).1
      unfold r41_Check_L6
      simp only [idx_of hx, idx_of hk, Option.bind_some, ended_eq hw.len, wrap_nat (show k < 4611686018427387904 by omega)]
      rw [if_pos (by simp; omega)]
      cases endd ds o x.f_Day <;> simp) (by unfold r41_Check_L6; simp [idx_of hx])]
    simp only [Option.bind_some, wrap_nat (show i < 4611686018427387904 by omega)]
    cases hf : firstS (fun k (o : Int) => if endd ds o x.f_Day = true then some (7 : Int) else none) 0 x.f_Others with
    | none =>
      rw [firstS_none] at hf
      have : (x.f_Others.all fun o => !endd ds o x.f_Day) = true := by
        rw [List.all_eq_true]
        intro y hy
        obtain ⟨j, hj⟩ := List.getElem?_of_mem hy
        have := hf j y hj
        cases he : endd ds y x.f_Day
        · rfl
        · rw [he] at this; simp at this
      simp [this]
    | some r =>
      obtain ⟨j, y, h1, h2⟩ := firstS_some hf
      split at h2
      · rename_i he
        cases h2
        have : (x.f_Others.all fun o => !endd ds o x.f_Day) = false := by
          rw [List.all_eq_false]
          exact ⟨y, List.mem_of_getElem? h1, by simp [he]⟩
        simp [this]
      · cases h2) (by unfold r41_Check_L4; simp)]
  cases hf : firstS (fun i (d : TDeed) => if (d.f_Others.all fun o => !endd ds o d.f_Day) = true then (none : Option Int) else some 7) 0 ds with
  | none =>
    rw [firstS_none] at hf
    have : pass2 ds = true := by
      unfold pass2
      rw [List.all_eq_true]
      intro x hx
      obtain ⟨j, hj⟩ := List.getElem?_of_mem hx
      have := hf j x hj
      split at this
      · assumption
      · cases this
    simp [this]
  | some r =>
    obtain ⟨j, x, h1, h2⟩ := firstS_some hf
    split at h2
    · cases h2
    · rename_i he
      cases h2
      have : pass2 ds = false := by
        unfold pass2
        rw [List.all_eq_false]
        exact ⟨x, List.mem_of_getElem? h1, he⟩
      simp [this]

def chk (ds : List TDeed) : Int := if ds.length > 400 then 6 else match scan1 [] ds with | some e => e | none => if pass2 ds then 0 else 7
theorem scan1_ne {seen ds : List TDeed} {e : Int} (h : scan1 seen ds = some e) : e ≠ 0 := by
  induction ds generalizing seen with
  | nil => cases h
  | cons d ds ih =>
    simp only [scan1] at h
    split at h
    · cases h; decide
    · split at h
      · cases h; decide
      · split at h
        · cases h; decide
        · exact ih h
theorem read_eq {ds : List TDeed} (hw : W ds) : firm_read ds = some (if chk ds = 0 then (bk ds, 0) else ([], chk ds)) := by
  unfold firm_read chk
  by_cases h : ds.length > 400
  · rw [if_pos (by simp; omega)]
    simp [h]
  · rw [if_neg (by simp; omega)]
    simp only [h, if_false, read_L1 hw, Option.bind_some]
    cases hs : scan1 [] ds with
    | some e =>
      have := scan1_ne hs
      simp [this]
    | none =>
      simp only [read_L4 hw, Option.bind_some]
      cases pass2 ds <;> simp
theorem check_eq {ds : List TDeed} (hw : W ds) : firm_Check ds = some (chk ds) := by
  unfold firm_Check
  rw [read_eq hw, Option.bind_some]
  by_cases h : chk ds = 0 <;> simp [h]
theorem rcheck_eq {ds : List TDeed} (hw : W ds) : r41_Check ds = some (chk ds) := by
  unfold r41_Check chk
  by_cases h : ds.length > 400
  · rw [if_pos (by simp; omega)]
    simp [h]
  · rw [if_neg (by simp; omega)]
    simp only [h, if_false, rcheck_L1 hw, Option.bind_some]
    cases hs : scan1 [] ds with
    | some e => rfl
    | none =>
      simp only [rcheck_L4 hw, Option.bind_some]
      cases pass2 ds <;> simp
theorem alive_of {ds : List TDeed} (hw : W ds) (n day : Int) : firm_Alive ds n day = some (decide (chk ds = 0) && hs n && !endd ds n day) := by
  unfold firm_Alive
  rw [read_eq hw, Option.bind_some]
  by_cases h : chk ds = 0
  · simp only [h, if_true, house_eq, Option.bind_some, alive_eq]
    cases hs n <;> simp
  · simp [h]
theorem ralive_of {ds : List TDeed} (hw : W ds) (n day : Int) : r41_Alive ds n day = some (decide (chk ds = 0) && hs n && !endd ds n day) := by
  unfold r41_Alive
  rw [rcheck_eq hw, Option.bind_some]
  by_cases h : chk ds = 0
  · simp only [h, rhouse_eq, Option.bind_some, ended_eq hw.len]
    cases hs n <;> simp
  · simp [h]
end Go.Proofs.Ytnnkcegdkhclcaa.P
