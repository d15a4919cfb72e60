/- Functions that are lent the row of their first argument. -/
import Derived.Test.YtdecgihkgpgejaaDoorCg
namespace Go.Proofs.YtdecgihkgpgejaaDoor.Am
open Go.RowKit Go.Proofs.YtdecgihkgpgejaaDoor.P
set_option linter.unusedSimpArgs false
set_option linter.unusedVariables false

/-- The contract of a function that is lent a window of its first argument's row, and gives data. -/
noncomputable def mkW {α β γ : Type} (ty : Nat) (E : Enc γ) (A : Args α) (F : List γ → α → Option (List γ × β)) (R : β → RK) : Option (D × Row) → List D → Option (RK × Option Row) := fun lent ds =>
  match lent with
  | some (.buf 0 0 s o n, ⟨0, ty', cells, false, true, false⟩) => open Classical in
    if h : ty' = ty ∧ s = E.size ∧ ∃ p : List D × List γ × List D × α, cells = p.1 ++ (encL E p.2.1 ++ p.2.2.1) ∧ o = p.1.length ∧ n = p.2.1.length ∧ ds = A.ds p.2.2.2 then
      (F (Classical.choose h.2.2).2.1 (Classical.choose h.2.2).2.2.2).map fun r => (R r.2, some ⟨0, ty, (Classical.choose h.2.2).1 ++ (encL E r.1 ++ (Classical.choose h.2.2).2.2.1), false, true, false⟩)
    else none
  | _ => none

theorem win_inj {γ : Type} {E : Enc γ} {p p' q q' : List D} {l l' : List γ} (h : p ++ (encL E l ++ q) = p' ++ (encL E l' ++ q')) (hp : p.length = p'.length) (hl : l.length = l'.length) : p = p' ∧ l = l' ∧ q = q' := by
  obtain ⟨h1, h2⟩ := List.append_inj h hp
  obtain ⟨h3, h4⟩ := List.append_inj h2 (by rw [encL_len, encL_len, hl])
  exact ⟨h1, encL_inj E _ _ h3, h4⟩

theorem mkW_eq {α β γ : Type} (ty : Nat) (E : Enc γ) (A : Args α) (F : List γ → α → Option (List γ × β)) (R : β → RK) (pre post : List D) (l : List γ) (a : α) :
    mkW ty E A F R (some (.buf 0 0 E.size pre.length l.length, ⟨0, ty, pre ++ (encL E l ++ post), false, true, false⟩)) (A.ds a) = (F l a).map fun r => (R r.2, some ⟨0, ty, pre ++ (encL E r.1 ++ post), false, true, false⟩) := by
  have h : ty = ty ∧ E.size = E.size ∧ ∃ p : List D × List γ × List D × α, pre ++ (encL E l ++ post) = p.1 ++ (encL E p.2.1 ++ p.2.2.1) ∧ pre.length = p.1.length ∧ l.length = p.2.1.length ∧ A.ds a = A.ds p.2.2.2 := ⟨rfl, rfl, (pre, l, post, a), rfl, rfl, rfl, rfl⟩
  simp only [mkW]
  rw [dif_pos h]
  obtain ⟨h1, h2, h3, h4⟩ := Classical.choose_spec h.2.2
  obtain ⟨e1, e2, e3⟩ := win_inj h1 h2 h3
  rw [← A.inj _ _ h4, ← e1, ← e2, ← e3]

theorem mkW_some {α β γ : Type} {ty : Nat} {E : Enc γ} {A : Args α} {F : List γ → α → Option (List γ × β)} {R : β → RK} {lent : Option (D × Row)} {ds : List D} {rk : RK} {out : Option Row} (h : mkW ty E A F R lent ds = some (rk, out)) :
    ∃ pre l post a l' r, lent = some (.buf 0 0 E.size pre.length l.length, ⟨0, ty, pre ++ (encL E l ++ post), false, true, false⟩) ∧ ds = A.ds a ∧ F l a = some (l', r) ∧ rk = R r ∧ out = some ⟨0, ty, pre ++ (encL E l' ++ post), false, true, false⟩ := by
  unfold mkW at h
  split at h
  · split at h
    · rename_i he
      obtain ⟨rfl, rfl, he⟩ := he
      rw [Option.map_eq_some_iff] at h
      obtain ⟨⟨l', r⟩, h1, h2⟩ := h
      simp only [Prod.mk.injEq] at h2
      obtain ⟨rfl, rfl⟩ := h2
      obtain ⟨g1, g2, g3, g4⟩ := Classical.choose_spec he
      refine ⟨_, _, _, _, l', r, ?_, g4, h1, rfl, rfl⟩
      rw [← g1, ← g2, ← g3]
    · cases h
  · cases h

theorem COk.lentW {P : Program} {T : Nat → Option Ty} {Γ : Env} (hT : TOk P T) (hΓ : GOk P Γ) (hm : P.follows .mixedOrders = true) {α β γ : Type} {ty : Nat} {E : Enc γ} {A : Args α} {F : List γ → α → Option (List γ × β)} {R : β → RK} {mode : Mode} {f : FuncId} {fn : Func} (hf : P.funcs[f]? = some fn) (hok : (match fn.body with | some c => codeOk c | none => true) = true)
    (hc : (fn.name == "runtime.NumGoroutine") = false ∧ fn.body.isNone = false) (hn : ∀ a, (A.ds a).length + 1 ≤ fn.ntmps)
    (h : ∀ pre post l a l' r, F l a = some (l', r) → vfunc mode T Γ FU fn (some (.buf 0 0 E.size pre.length l.length, ⟨0, ty, pre ++ (encL E l ++ post), false, true, false⟩)) (A.ds a) = some (R r, some ⟨0, ty, pre ++ (encL E l' ++ post), false, true, false⟩)) : COk P f (mkW ty E A F R) where
  calls lent as rk out hg := by
    obtain ⟨pre, l, post, a, l', r, rfl, rfl, hr, rfl, rfl⟩ := mkW_some hg
    exact vfunc_sound hT hΓ hm hf hok (hn a) rfl (h pre post l a l' r hr)
  callable := ⟨fn, hf, hc⟩

/-- The contract of a function that takes its first argument's row, and gives a new one. -/
noncomputable def mkE {α γ : Type} (ty : Nat) (E : Enc γ) (A : Args α) (F : List γ → α → Option (List γ)) : Option (D × Row) → List D → Option (RK × Option Row) := fun lent ds =>
  match lent with
  | some (.buf 0 0 s o n, ⟨0, ty', cells, false, true, false⟩) => open Classical in
    if h : ty' = ty ∧ s = E.size ∧ ∃ p : List D × List γ × List D × α, cells = p.1 ++ (encL E p.2.1 ++ p.2.2.1) ∧ o = p.1.length ∧ n = p.2.1.length ∧ ds = A.ds p.2.2.2 then
      (F (Classical.choose h.2.2).2.1 (Classical.choose h.2.2).2.2.2).map fun r => (.fresh ty E.size r.length (encL E r), none)
    else none
  | _ => none

theorem mkE_eq {α γ : Type} (ty : Nat) (E : Enc γ) (A : Args α) (F : List γ → α → Option (List γ)) (pre post : List D) (l : List γ) (a : α) :
    mkE ty E A F (some (.buf 0 0 E.size pre.length l.length, ⟨0, ty, pre ++ (encL E l ++ post), false, true, false⟩)) (A.ds a) = (F l a).map fun r => (.fresh ty E.size r.length (encL E r), none) := by
  have h : ty = ty ∧ E.size = E.size ∧ ∃ p : List D × List γ × List D × α, pre ++ (encL E l ++ post) = p.1 ++ (encL E p.2.1 ++ p.2.2.1) ∧ pre.length = p.1.length ∧ l.length = p.2.1.length ∧ A.ds a = A.ds p.2.2.2 := ⟨rfl, rfl, (pre, l, post, a), rfl, rfl, rfl, rfl⟩
  simp only [mkE]
  rw [dif_pos h]
  obtain ⟨h1, h2, h3, h4⟩ := Classical.choose_spec h.2.2
  obtain ⟨e1, e2, e3⟩ := win_inj h1 h2 h3
  rw [← A.inj _ _ h4, ← e2]

theorem mkE_some {α γ : Type} {ty : Nat} {E : Enc γ} {A : Args α} {F : List γ → α → Option (List γ)} {lent : Option (D × Row)} {ds : List D} {rk : RK} {out : Option Row} (h : mkE ty E A F lent ds = some (rk, out)) :
    ∃ pre l post a r, lent = some (.buf 0 0 E.size pre.length l.length, ⟨0, ty, pre ++ (encL E l ++ post), false, true, false⟩) ∧ ds = A.ds a ∧ F l a = some r ∧ rk = .fresh ty E.size r.length (encL E r) ∧ out = none := by
  unfold mkE at h
  split at h
  · split at h
    · rename_i he
      obtain ⟨rfl, rfl, he⟩ := he
      rw [Option.map_eq_some_iff] at h
      obtain ⟨r, h1, h2⟩ := h
      simp only [Prod.mk.injEq] at h2
      obtain ⟨rfl, rfl⟩ := h2
      obtain ⟨g1, g2, g3, g4⟩ := Classical.choose_spec he
      refine ⟨(Classical.choose he).1, (Classical.choose he).2.1, (Classical.choose he).2.2.1, (Classical.choose he).2.2.2, r, ?_, g4, h1, rfl, rfl⟩
      rw [← g1, ← g2, ← g3]
    · cases h
  · cases h

theorem COk.lentE {P : Program} {T : Nat → Option Ty} {Γ : Env} (hT : TOk P T) (hΓ : GOk P Γ) (hm : P.follows .mixedOrders = true) {α γ : Type} {ty : Nat} {E : Enc γ} {A : Args α} {F : List γ → α → Option (List γ)} {f : FuncId} {fn : Func} (hf : P.funcs[f]? = some fn) (hok : (match fn.body with | some c => codeOk c | none => true) = true)
    (hc : (fn.name == "runtime.NumGoroutine") = false ∧ fn.body.isNone = false) (hn : ∀ a, (A.ds a).length + 1 ≤ fn.ntmps)
    (h : ∀ pre post l a r, F l a = some r → vfunc (.fresh ty E.size) T Γ FU fn (some (.buf 0 0 E.size pre.length l.length, ⟨0, ty, pre ++ (encL E l ++ post), false, true, false⟩)) (A.ds a) = some (.fresh ty E.size r.length (encL E r), none)) : COk P f (mkE ty E A F) where
  calls lent as rk out hg := by
    obtain ⟨pre, l, post, a, r, rfl, rfl, hr, rfl, rfl⟩ := mkE_some hg
    exact vfunc_sound hT hΓ hm hf hok (hn a) rfl (h pre post l a r hr)
  callable := ⟨fn, hf, hc⟩

/-! A function that calls itself: so and so deep. -/
theorem COk.zero {P : Program} {f : FuncId} {fn : Func} (hf : P.funcs[f]? = some fn) (hc : (fn.name == "runtime.NumGoroutine") = false ∧ fn.body.isNone = false) {α β : Type} {A : Args α} {F : α → Option β} {R : β → RK} (h0 : ∀ a, F a = none) : COk P f (mkG A F R) where
  calls lent as rk out hg := by
    obtain ⟨rfl, rfl, a, r, rfl, hr, rfl⟩ := mkG_some hg
    rw [h0] at hr
    cases hr
  callable := ⟨fn, hf, hc⟩

section
variable {h : Nat → Option Row} {Γ : Env} {g e x v d : Nat} {dst : Option Nat} {fr : List Nat} {as rest : List D} {d0 : D} {T : Nat → Option Ty} {rs : List ResultVar}
def calL3 (h : Nat → Option Row) (e : Nat) (dst : Option Nat) (x v : Nat) (fr : List Nat) : Option (RK × Option Row) → Option Eff
  | some (.clean c, some r1) => some ⟨c, frz h fr ++ [(x, some { r1 with v := v })]⟩
  | some (.same s o n, some r1) => some ⟨.buf x v s o n, frz h fr ++ [(x, some { r1 with v := v })]⟩
  | some (.fresh ty s n cells, none) =>
    match dst with
    | some d => if fr.contains d = false then some ⟨.buf d e s 0 n, frz h fr ++ [(x, none), (d, some ⟨e, ty, cells, false, true, false⟩)]⟩ else none
    | none => none
  | _ => none
def calL2 (Γ : Env) (h : Nat → Option Row) (e : Nat) (dst : Option Nat) (g x v : Nat) (d0 : D) (r : Row) : Option (List D × List Nat) → Option Eff
  | some (as, fr) => if fr.contains x = false then calL3 h e dst x v fr (Γ.sem g (some (d0, r)) as) else none
  | none => none
def calL1 (Γ : Env) (h : Nat → Option Row) (e : Nat) (dst : Option Nat) (g x v : Nat) (d0 : D) (rest : List D) : Option Row → Option Eff
  | some r => if r.fz = false then calL2 Γ h e dst g x v d0 { r with v := 0 } (cleanArgs h rest) else none
  | none => none
theorem calL_buf {s o n : Nat} : calB true Γ h e dst g (.buf x v s o n :: rest) = calL1 Γ h e dst g x v (.buf 0 0 s o n) rest (live h x v) := by
  simp only [calB, if_true, callL]
  cases live h x v with
  | none => rfl
  | some r =>
    simp only [calL1]
    cases cleanArgs h rest with
    | none => rfl
    | some p => rfl
theorem calL1_some {r : Row} : calL1 Γ h e dst g x v d0 rest (some r) = if r.fz = false then calL2 Γ h e dst g x v d0 { r with v := 0 } (cleanArgs h rest) else none := Eq.trans rfl rfl
theorem calL2_some {r : Row} : calL2 Γ h e dst g x v d0 r (some (as, fr)) = if fr.contains x = false then calL3 h e dst x v fr (Γ.sem g (some (d0, r)) as) else none := Eq.trans rfl rfl
theorem calL3_clean {c : D} {v' ty : Nat} {cells : List D} {fz lst : Bool} : calL3 h e dst x v fr (some (.clean c, some ⟨v', ty, cells, fz, lst, false⟩)) = some ⟨c, frz h fr ++ [(x, some ⟨v, ty, cells, fz, lst, false⟩)]⟩ := Eq.trans rfl rfl
theorem calL3_same {s o n v' ty : Nat} {cells : List D} {fz lst : Bool} : calL3 h e dst x v fr (some (.same s o n, some ⟨v', ty, cells, fz, lst, false⟩)) = some ⟨.buf x v s o n, frz h fr ++ [(x, some ⟨v, ty, cells, fz, lst, false⟩)]⟩ := Eq.trans rfl rfl

theorem calL3_fresh {s n ty : Nat} {cells : List D} : calL3 h e (some d) x v fr (some (.fresh ty s n cells, none)) = if fr.contains d = false then some ⟨.buf d e s 0 n, frz h fr ++ [(x, none), (d, some ⟨e, ty, cells, false, true, false⟩)]⟩ else none := Eq.trans rfl rfl
theorem endM_freshL {ty sz i : Nat} {t : Nat → D} {l : D × Row} : endM (.fresh ty sz) T (some l) [.tmp i] ⟨t, h, e⟩ = endFreshD ty sz h (t i) := Eq.trans rfl rfl
def eslB (y v s o : Nat) : Option Row → Option Ty → Option (Nat × Nat) → Option Eff
  | some _, some φ, some (l, k) => if φ.size = s ∧ 0 < s then some ⟨.buf y v s (o + l * s) (k - l), []⟩ else none
  | _, _, _ => none
theorem eslB_some {y v s o l k : Nat} {r : Row} {φ : Ty} : eslB y v s o (some r) (some φ) (some (l, k)) = if φ.size = s ∧ 0 < s then some ⟨.buf y v s (o + l * s) (k - l), []⟩ else none := Eq.trans rfl rfl
theorem esl_buf {el b c y v s o n : Nat} {z : List Value} {q : Bool} {lo hi : Option D} : effSlice T ⟨.slice el, b, c, z, q⟩ h (.buf y v s o n) lo hi none = eslB y v s o (live h y v) (T el) (bnds n lo hi) := by
  simp only [effSlice]
  cases live h y v with
  | none => rfl
  | some r =>
    simp only
    cases T el with
    | none => rfl
    | some φ =>
      cases bnds n lo hi with
      | none => rfl
      | some p => rfl
def endL (ty : Nat) : Option (List D × List Nat) → Option Row → Option (RK × Option Row)
  | some (ds, fr), some r => if r.v = 0 ∧ r.fz = false ∧ r.ty = ty ∧ r.mp = false ∧ fr.contains 0 = false then some (.clean (resAll ds), some r) else none
  | _, _ => none
theorem endL_some {ty : Nat} {ds : List D} {r : Row} : endL ty (some (ds, fr)) (some r) = if r.v = 0 ∧ r.fz = false ∧ r.ty = ty ∧ r.mp = false ∧ fr.contains 0 = false then some (.clean (resAll ds), some r) else none := Eq.trans rfl rfl
theorem endM_lent {t : Nat → D} {ty v : Nat} {cells : List D} {fz lst : Bool} : endM .clean T (some (d0, ⟨v, ty, cells, fz, lst, false⟩)) rs ⟨t, h, e⟩ = endL ty (resL T ⟨t, h, e⟩ rs) (h 0) := by
  simp only [endM, endClean, lastRow, okFr, endL]
  cases resL T ⟨t, h, e⟩ rs with
  | none => rfl
  | some p =>
    obtain ⟨ds, fr⟩ := p
    cases h 0 with
    | none => rfl
    | some r =>
      simp only
      by_cases h1 : r.v = 0 ∧ r.fz = false ∧ r.ty = ty ∧ r.mp = false
      · rw [if_pos h1]
        simp only [Bool.not_eq_true']
        by_cases h2 : fr.contains 0 = false
        · rw [if_pos h2, if_pos ⟨h1.1, h1.2.1, h1.2.2.1, h1.2.2.2, h2⟩]
        · rw [if_neg h2, if_neg (fun hh => h2 hh.2.2.2.2)]
      · rw [if_neg h1, if_neg (fun hh => h1 ⟨hh.1, hh.2.1, hh.2.2.1, hh.2.2.2.1⟩)]
def endS (ty : Nat) : D → Option Row → Option (RK × Option Row)
  | .buf 0 0 s o n, some r => if r.v = 0 ∧ r.fz = false ∧ r.ty = ty ∧ r.mp = false then some (.same s o n, some r) else none
  | _, _ => none
theorem endS_buf {ty s o n : Nat} {r : Row} : endS ty (.buf 0 0 s o n) (some r) = if r.v = 0 ∧ r.fz = false ∧ r.ty = ty ∧ r.mp = false then some (.same s o n, some r) else none := Eq.trans rfl rfl
theorem endM_same {t : Nat → D} {ty v i : Nat} {cells : List D} {fz lst : Bool} : endM .same T (some (d0, ⟨v, ty, cells, fz, lst, false⟩)) [.tmp i] ⟨t, h, e⟩ = endS ty (t i) (h 0) := by
  simp only [endM, endSame, lastRow]
  generalize t i = q
  cases q with
  | buf a b s o n =>
    cases h 0 with
    | none => rcases a with _ | a <;> rcases b with _ | b <;> rfl
    | some r =>
      simp only
      by_cases h1 : r.v = 0 ∧ r.fz = false ∧ r.ty = ty ∧ r.mp = false
      · rcases a with _ | a <;> rcases b with _ | b <;> simp [endS, h1]
      · rcases a with _ | a <;> rcases b with _ | b <;> simp [endS, h1]
  | _ => rfl
end

section
variable {α : Type} (E : Enc α) {l m u x : List α} {y y' : α} {i a b : Int} {pre post : List D}
theorem win_enc (h : slc l a b = some x) : encL E (l.take a.toNat) ++ (encL E x ++ encL E (l.drop b.toNat)) = encL E l := by
  unfold slc at h
  split at h
  · rename_i hc
    cases h
    rw [← encL_append, ← encL_append]
    congr 1
    have e : l.drop b.toNat = (l.drop a.toNat).drop (b.toNat - a.toNat) := by rw [List.drop_drop]; congr 1; omega
    rw [e, List.take_append_drop, List.take_append_drop]
  · cases h
theorem win_len (h : slc l a b = some x) : (encL E (l.take a.toNat)).length = a.toNat * E.size := by
  unfold slc at h
  split at h
  · rw [encL_len, List.length_take, Nat.min_eq_left (by omega)]
  · cases h
theorem win_n (h : slc l a b = some x) : x.length = b.toNat - a.toNat := by
  unfold slc at h
  split at h
  · cases h
    simp
    omega
  · cases h
theorem win_app : encL E (l.take i.toNat) ++ (encL E u ++ encL E (l.drop b.toNat)) = encL E (l.take i.toNat ++ (u ++ l.drop b.toNat)) := by rw [encL_append, encL_append]
theorem idxW_enc (h : P.idx l i = some y) : (pre ++ (encL E l ++ post)).drop (pre.length + i.toNat * E.size) = E.cells y ++ (encL E (l.drop (i.toNat + 1)) ++ post) := by
  rw [← List.drop_drop, List.drop_left, List.drop_append_of_le_length (by rw [encL_len]; have := idx_fit E h; omega), idx_enc E h, List.append_assoc]
theorem idxW_fit (h : P.idx l i = some y) : pre.length + i.toNat * E.size + E.size ≤ (pre ++ (encL E l ++ post)).length := by
  have := idx_fit E h
  rw [List.length_append, List.length_append, encL_len]
  omega
theorem putW_enc (h : P.idx l i = some y) : putCells (pre ++ (encL E l ++ post)) (pre.length + i.toNat * E.size) (E.cells y') = pre ++ (encL E (l.set i.toNat y') ++ post) := by
  have h1 := put_enc0 E (x' := y') h
  have hf := idx_fit E h
  have hl := encL_len E l
  unfold putCells at h1 ⊢
  rw [← h1, E.len]
  have e1 : (pre ++ (encL E l ++ post)).take (pre.length + i.toNat * E.size) = pre ++ (encL E l).take (i.toNat * E.size) := by
    rw [List.take_append, List.take_of_length_le (by omega), Nat.add_sub_cancel_left, List.take_append_of_le_length (by omega)]
  have e2 : (pre ++ (encL E l ++ post)).drop (pre.length + i.toNat * E.size + E.size) = (encL E l).drop (i.toNat * E.size + E.size) ++ post := by
    rw [Nat.add_assoc, List.drop_append, List.drop_eq_nil_of_le (by omega), Nat.add_sub_cancel_left, List.nil_append, List.drop_append_of_le_length (by omega)]
  rw [e1, e2]
  simp only [List.append_assoc]
theorem win_keep (h : slc l a b = some x) (hu : u.length = x.length) : (l.take a.toNat ++ (u ++ l.drop b.toNat)).length = l.length := by
  have hn := win_n h
  unfold slc at h
  split at h
  · simp only [List.length_append, List.length_take, List.length_drop]
    omega
  · cases h
theorem slcW_nh (h : slc l 0 b = some x) : pre.length + x.length * E.size ≤ (pre ++ (encL E l ++ post)).length ∧ ((pre ++ (encL E l ++ post)).drop pre.length).take (x.length * E.size) = encL E x := by
  obtain ⟨h1, h2, h3, h4, h5⟩ := slc_nh E h
  have := Nat.mul_le_mul_right E.size h3
  refine ⟨by rw [List.length_append, List.length_append, encL_len]; omega, ?_⟩
  rw [List.drop_left, List.take_append_of_le_length (by rw [encL_len]; exact this), h5]
theorem slc_pre (h : slc l 0 b = some x) : x.length * E.size ≤ (encL E l).length ∧ (encL E l).take (x.length * E.size) = encL E x := by
  obtain ⟨h1, h2, h3, h4, h5⟩ := slc_nh E h
  exact ⟨by rw [encL_len]; exact Nat.mul_le_mul_right _ h3, h5⟩
end
/-! Function values as arguments. -/
section
variable {h : Nat → Option Row} {Γ : Env} {e : Nat} {dst : Option Nat}
def caP : Option (D × List Nat) → Option (List D × List Nat) → Option (List D × List Nat)
  | some (d, fr), some (ds, fr') => some (d :: ds, fr ++ fr')
  | _, _ => none
theorem caP_some {d : D} {ds : List D} {fr fr' : List Nat} : caP (some (d, fr)) (some (ds, fr')) = some (d :: ds, fr ++ fr') := Eq.trans rfl rfl
theorem caps_nil : cleanCaps h [] = some ([], []) := Eq.trans rfl rfl
theorem caps_cons {d : D} {ds : List D} : cleanCaps h (d :: ds) = caP (cleanCap h d) (cleanCaps h ds) := by
  simp only [cleanCaps]
  cases cleanCap h d with
  | none => rfl
  | some x => cases cleanCaps h ds <;> rfl
theorem cap_int {k : IntKind} {n : Int} : cleanCap h (.int k n) = some (.int k n, []) := Eq.trans rfl rfl
theorem cap_bool {b : Bool} : cleanCap h (.bool b) = some (.bool b, []) := Eq.trans rfl rfl
theorem cap_str {b : ByteArray} : cleanCap h (.str b) = some (.str b, []) := Eq.trans rfl rfl
theorem cap_sl {a b : Bool} {n : Nat} {xs : List D} : cleanCap h (.sl a b n xs) = some (.sl false false n xs, []) := Eq.trans rfl rfl
theorem cap_agg {xs : List D} : cleanCap h (.agg xs) = some (.agg (xs.map canon), []) := Eq.trans rfl rfl
theorem cap_fn {f : Nat} : cleanCap h (.fn f) = some (.fn f, []) := Eq.trans rfl rfl
def clC (f k : Nat) : Option (List D × List Nat) → Option (D × List Nat)
  | some (ys, fr) => some (.clo f k ys, fr)
  | none => none
theorem clC_some {f k : Nat} {ys : List D} {fr : List Nat} : clC f k (some (ys, fr)) = some (.clo f k ys, fr) := Eq.trans rfl rfl
theorem carg_clo {f k : Nat} {xs : List D} : cleanArg h (.clo f k xs) = clC f k (cleanCaps h xs) := by
  simp only [cleanArg]
  cases cleanCaps h xs <;> rfl
theorem call_clo {g k : Nat} {caps args : List D} : effCall Γ h e dst (.clo g k caps) args = if caps.all okCap then calB false Γ h e dst g (caps.take k ++ (args ++ caps.drop k)) else none := by
  simp only [effCall, calB, Bool.false_eq_true, if_false]
theorem okc_int {k : IntKind} {n : Int} : okCap (.int k n) = true := Eq.trans rfl rfl
theorem okc_bool {b : Bool} : okCap (.bool b) = true := Eq.trans rfl rfl
theorem okc_str {b : ByteArray} : okCap (.str b) = true := Eq.trans rfl rfl
theorem okc_sl {a b : Bool} {n : Nat} {xs : List D} : okCap (.sl a b n xs) = true := Eq.trans rfl rfl
theorem okc_agg {xs : List D} : okCap (.agg xs) = true := Eq.trans rfl rfl
theorem okc_fn {f : Nat} : okCap (.fn f) = true := Eq.trans rfl rfl
end
theorem resAll_nil : resAll [] = .tup [] := Eq.trans rfl rfl
/-- A function value as an argument: a named function; one that holds on to values. -/
def aFn (f : Nat) : Arg Unit := ⟨fun _ => .fn f, fun _ _ _ => rfl⟩
theorem aFn_d {f : Nat} {x : Unit} : (aFn f).d x = .fn f := Eq.trans rfl rfl
def aClo {α : Type} (f k : Nat) (a : Args α) : Arg α := ⟨fun x => .clo f k (a.ds x), fun x y h => a.inj _ _ (by simpa using h)⟩
theorem aClo_d {α : Type} {f k : Nat} {a : Args α} {x : α} : (aClo f k a).d x = .clo f k (a.ds x) := Eq.trans rfl rfl
theorem vm7 : type_of% (And.intro @caP_some <| And.intro @caps_nil <| And.intro @caps_cons <| And.intro @cap_int <| And.intro @cap_bool <| And.intro @cap_str <| And.intro @cap_sl <| And.intro @cap_agg <| And.intro @cap_fn <| And.intro @clC_some <| And.intro @carg_clo <| And.intro @call_clo <| And.intro @okc_int <| And.intro @okc_bool <| And.intro @okc_str <| And.intro @okc_sl <| And.intro @okc_agg <| And.intro @okc_fn <| And.intro @resAll_nil <| And.intro @doO_makeFunc <| And.intro @doP_makeFunc <| @asg_clo) := And.intro @caP_some <| And.intro @caps_nil <| And.intro @caps_cons <| And.intro @cap_int <| And.intro @cap_bool <| And.intro @cap_str <| And.intro @cap_sl <| And.intro @cap_agg <| And.intro @cap_fn <| And.intro @clC_some <| And.intro @carg_clo <| And.intro @call_clo <| And.intro @okc_int <| And.intro @okc_bool <| And.intro @okc_str <| And.intro @okc_sl <| And.intro @okc_agg <| And.intro @okc_fn <| And.intro @resAll_nil <| And.intro @doO_makeFunc <| And.intro @doP_makeFunc <| @asg_clo
theorem vm6 : type_of% (And.intro @row0_app <| And.intro @List.contains_cons.{0} <| And.intro @esl_buf <| And.intro @eslB_some <| And.intro @calL3_fresh <| And.intro @endM_freshL <| And.intro @calL_buf <| And.intro @calL1_some <| And.intro @calL2_some <| And.intro @calL3_clean <| And.intro @calL3_same <| And.intro @endL_some <| And.intro @endM_lent <| And.intro @endS_buf <| @endM_same) := And.intro @row0_app <| And.intro @List.contains_cons.{0} <| And.intro @esl_buf <| And.intro @eslB_some <| And.intro @calL3_fresh <| And.intro @endM_freshL <| And.intro @calL_buf <| And.intro @calL1_some <| And.intro @calL2_some <| And.intro @calL3_clean <| And.intro @calL3_same <| And.intro @endL_some <| And.intro @endM_lent <| And.intro @endS_buf <| @endM_same
section
variable {T : Nat → Option Ty} {h : Nat → Option Row} {τ : Ty} {q : Nat → Bool}
theorem ld_ptr {x v o : Nat} : effLd τ h (.ptr x v o) = effLdR τ h x v o (live h x v) := Eq.trans rfl rfl
theorem ld_ip {xs : List D} : effLd τ h (.ip xs) = effLoad τ h (.ip xs) := Eq.trans rfl rfl
theorem ldR_l {x v o v' ty : Nat} {c : List D} {fz : Bool} : effLdR τ h x v o (some ⟨v', ty, c, fz, true, false⟩) = effLoad τ h (.ptr x v o) := by
  simp only [effLdR, Bool.not_true, Bool.and_false, Bool.false_eq_true, if_false]
theorem ldR_u {x v o v' ty : Nat} {c : List D} {lst : Bool} : effLdR τ h x v o (some ⟨v', ty, c, false, lst, false⟩) = effLoad τ h (.ptr x v o) := by
  simp only [effLdR, Bool.false_and, Bool.false_eq_true, if_false]
def ldA : Option D → Option Eff → Option Eff
  | some d, _ => some ⟨d, []⟩
  | none, E => E
theorem ldA_some {d : D} {E : Option Eff} : ldA (some d) E = some ⟨d, []⟩ := Eq.trans rfl rfl
theorem ldA_none {E : Option Eff} : ldA none E = E := Eq.trans rfl rfl
theorem ldR_a {x v o v' ty : Nat} {c : List D} : effLdR τ h x v o (some ⟨v', ty, c, true, false, false⟩) = if o + τ.size ≤ c.length then ldA (aliD τ.ds.isA ((c.drop o).take τ.size)) (effLoad τ h (.ptr x v o)) else none := by
  simp only [effLdR, Bool.not_false, Bool.and_self, if_true]
  cases aliD τ.ds.isA ((c.drop o).take τ.size) <;> rfl
theorem aliD_t {x v s o n : Nat} : aliD true [.ali x v s o n] = some (.box1 x v s o n) := Eq.trans rfl rfl
theorem aliD_f {x v s o n : Nat} : aliD false [.ali x v s o n] = some (.buf x v s o n) := Eq.trans rfl rfl
theorem sto_int {p : D} {k : IntKind} {n : Int} : effSto τ h p (.int k n) = effStore τ h p (.int k n) := Eq.trans rfl rfl
theorem sto_bool {p : D} {b : Bool} : effSto τ h p (.bool b) = effStore τ h p (.bool b) := Eq.trans rfl rfl
theorem sto_str {p : D} {b : ByteArray} : effSto τ h p (.str b) = effStore τ h p (.str b) := Eq.trans rfl rfl
theorem sto_sl {p : D} {a b : Bool} {n : Nat} {xs : List D} : effSto τ h p (.sl a b n xs) = effStore τ h p (.sl a b n xs) := Eq.trans rfl rfl
theorem sto_ptr {p : D} {x v o : Nat} : effSto τ h p (.ptr x v o) = effStore τ h p (.ptr x v o) := Eq.trans rfl rfl
theorem sto_ip {p : D} {xs : List D} : effSto τ h p (.ip xs) = effStore τ h p (.ip xs) := Eq.trans rfl rfl
theorem sto_buf {p : D} {x v s o n : Nat} : effSto τ h p (.buf x v s o n) = effStore τ h p (.buf x v s o n) := Eq.trans rfl rfl
theorem sto_agg {p : D} {xs : List D} : effSto τ h p (.agg xs) = effStore τ h p (.agg xs) := Eq.trans rfl rfl
theorem sto_fn {p : D} {f : Nat} : effSto τ h p (.fn f) = effStore τ h p (.fn f) := Eq.trans rfl rfl
theorem sto_clo {p : D} {f k : Nat} {xs : List D} : effSto τ h p (.clo f k xs) = effStore τ h p (.clo f k xs) := Eq.trans rfl rfl
theorem sto_und {p : D}  : effSto τ h p (.und) = effStore τ h p (.und) := Eq.trans rfl rfl
def stoB (τ : Ty) (x o y vy s oy n : Nat) : Option Row → Option Eff
  | some r => if τ.size = 1 ∧ o = 0 ∧ r.cells.length = 1 ∧ r.fz = false ∧ r.lst = false then some ⟨.und, [(x, some ⟨r.v, r.ty, [.ali y vy s oy n], true, false, false⟩)]⟩ else none
  | none => none
theorem stoB_some {x o y vy s oy n : Nat} {r : Row} : stoB τ x o y vy s oy n (some r) = if τ.size = 1 ∧ o = 0 ∧ r.cells.length = 1 ∧ r.fz = false ∧ r.lst = false then some ⟨.und, [(x, some ⟨r.v, r.ty, [.ali y vy s oy n], true, false, false⟩)]⟩ else none := Eq.trans rfl rfl
theorem sto_box {x v o y vy s oy n : Nat} : effSto τ h (.ptr x v o) (.box1 y vy s oy n) = stoB τ x o y vy s oy n (live h x v) := by
  simp only [effSto]
  cases live h x v <;> rfl
def bldQ (b : Bool) (T : Nat → Option Ty) (τ : Ty) (h : Nat → Option Row) (ps : List (Nat × D)) : Option Eff :=
  if b then effBuild T τ h ps else
    match τ.ds, ps with
    | .struct fs, [(0, .buf x v s o n)] => if (alive h (.buf x v s o n)) ∧ (fs.all fun f => (T f.1).isSome) ∧ fieldAt T fs 0 = some (0, 1) ∧ τ.zero.length = 1 then some ⟨.box1 x v s o n, []⟩ else none
    | _, _ => cE (effBuild T τ h ps)
theorem bld_dst {d : Nat} {ps : List (Nat × D)} : effBld q T τ h (some d) ps = bldQ (q d) T τ h ps := Eq.trans rfl rfl
theorem bldQ_none : bldQ false T τ h [] = cE (effBuild T τ h []) := by
  unfold bldQ
  rw [if_neg (by simp)]
  cases τ.ds <;> rfl
theorem cE_agg {cs : List D} {hw : List (Nat × Option Row)} : cE (some ⟨.agg cs, hw⟩) = some ⟨.agg (cs.map canon), hw⟩ := Eq.trans rfl rfl
theorem bldQ_true {ps : List (Nat × D)} : bldQ true T τ h ps = effBuild T τ h ps := Eq.trans rfl rfl
def bldB (T : Nat → Option Ty) (h : Nat → Option Row) (nz x v s o n : Nat) : Ds → Option Eff
  | .struct fs => if (alive h (.buf x v s o n)) ∧ (fs.all fun f => (T f.1).isSome) ∧ fieldAt T fs 0 = some (0, 1) ∧ nz = 1 then some ⟨.box1 x v s o n, []⟩ else none
  | _ => none
theorem bldB_s {nz x v s o n : Nat} {fs : List (Nat × Nat)} : bldB T h nz x v s o n (.struct fs) = if (alive h (.buf x v s o n)) ∧ (fs.all fun f => (T f.1).isSome) ∧ fieldAt T fs 0 = some (0, 1) ∧ nz = 1 then some ⟨.box1 x v s o n, []⟩ else none := Eq.trans rfl rfl
theorem bldQ_false {x v s o n : Nat} : bldQ false T τ h [(0, .buf x v s o n)] = bldB T h τ.zero.length x v s o n τ.ds := by
  unfold bldQ bldB effBuild
  rw [if_neg (by simp)]
  cases τ.ds <;> rfl
def clX : Option (D × List Nat) → Option (D × List Nat)
  | some (d, fr) => some (.agg [d], fr)
  | none => none
theorem clX_some {d : D} {fr : List Nat} : clX (some (d, fr)) = some (.agg [d], fr) := Eq.trans rfl rfl
theorem carg_box {x v s o n : Nat} : cleanArg h (.box1 x v s o n) = clX (clB x s o n (live h x v)) := by
  simp only [cleanArg, cleanCap, clean1]
  cases live h x v with
  | none => rfl
  | some r => by_cases hc : o + n * s ≤ r.cells.length <;> simp [clB, clX, hc, canon]
theorem nm_box {x v s o n : Nat} : nm (.box1 x v s o n) = [x] := Eq.trans rfl rfl
theorem alive_buf {x v s o n : Nat} : alive h (.buf x v s o n) = (live h x v).isSome := Eq.trans rfl rfl
theorem fieldAt_s {fs : List (Nat × Nat)} {ft off : Nat} : fieldAt T ((ft, off) :: fs) 0 = (T ft).map fun φ => (off, φ.size) := by
  simp only [fieldAt, List.getElem?_cons_zero]
  cases T ft <;> rfl
end
theorem vm8 : type_of% (And.intro @ld_ptr <| And.intro @ld_ip <| And.intro @ldR_l <| And.intro @ldR_u <| And.intro @ldA_some <| And.intro @ldA_none <| And.intro @ldR_a <| And.intro @aliD_t <| And.intro @aliD_f <| And.intro @sto_int <| And.intro @sto_bool <| And.intro @sto_str <| And.intro @sto_sl <| And.intro @sto_ptr <| And.intro @sto_ip <| And.intro @sto_buf <| And.intro @sto_agg <| And.intro @sto_fn <| And.intro @sto_clo <| And.intro @sto_und <| And.intro @sto_box <| And.intro @stoB_some <| And.intro @bld_dst <| And.intro @bldQ_true <| And.intro @bldB_s <| And.intro @bldQ_false <| And.intro @bldQ_none <| And.intro @cE_agg <| And.intro @clX_some <| And.intro @carg_box <| And.intro @nm_box <| And.intro @alive_buf <| @fieldAt_s) := And.intro @ld_ptr <| And.intro @ld_ip <| And.intro @ldR_l <| And.intro @ldR_u <| And.intro @ldA_some <| And.intro @ldA_none <| And.intro @ldR_a <| And.intro @aliD_t <| And.intro @aliD_f <| And.intro @sto_int <| And.intro @sto_bool <| And.intro @sto_str <| And.intro @sto_sl <| And.intro @sto_ptr <| And.intro @sto_ip <| And.intro @sto_buf <| And.intro @sto_agg <| And.intro @sto_fn <| And.intro @sto_clo <| And.intro @sto_und <| And.intro @sto_box <| And.intro @stoB_some <| And.intro @bld_dst <| And.intro @bldQ_true <| And.intro @bldB_s <| And.intro @bldQ_false <| And.intro @bldQ_none <| And.intro @cE_agg <| And.intro @clX_some <| And.intro @carg_box <| And.intro @nm_box <| And.intro @alive_buf <| @fieldAt_s
theorem v : type_of% (And.intro @vmc <| And.intro @vmk <| And.intro @vm1 <| And.intro @vm2 <| And.intro @vm3 <| And.intro @vm4 <| And.intro @vm5 <| And.intro @vm6 <| And.intro @vm7 <| And.intro @vm8 <| And.intro @vm10 <| And.intro @vmu <| And.intro @Option.toList_some.{0} <| @Option.toList_none.{0}) := And.intro @vmc <| And.intro @vmk <| And.intro @vm1 <| And.intro @vm2 <| And.intro @vm3 <| And.intro @vm4 <| And.intro @vm5 <| And.intro @vm6 <| And.intro @vm7 <| And.intro @vm8 <| And.intro @vm10 <| And.intro @vmu <| And.intro @Option.toList_some.{0} <| @Option.toList_none.{0}
end Go.Proofs.YtdecgihkgpgejaaDoor.Am
