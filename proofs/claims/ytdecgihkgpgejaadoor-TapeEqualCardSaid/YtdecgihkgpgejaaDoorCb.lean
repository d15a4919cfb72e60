/- Equations for reckoning: calls, arguments, results. -/
import Derived.Test.YtdecgihkgpgejaaDoorCa
namespace Go.Proofs.YtdecgihkgpgejaaDoor.Am
open Go.RowKit Go.Proofs.YtdecgihkgpgejaaDoor.P
set_option linter.unusedSimpArgs false
set_option linter.unusedVariables false

section
variable {h : Nat → Option Row}
theorem canon_int {k : IntKind} {n : Int} : canon (.int k n) = .int k n := Eq.trans rfl rfl
theorem canon_bool {b : Bool} : canon (.bool b) = .bool b := Eq.trans rfl rfl
theorem canon_str {b : ByteArray} : canon (.str b) = .str b := Eq.trans rfl rfl
theorem canon_sl {a b : Bool} {n : Nat} {xs : List D} : canon (.sl a b n xs) = .sl false false n xs := Eq.trans rfl rfl
theorem canonA_int {k : IntKind} {n : Int} : canonA (.int k n) = .int k n := Eq.trans rfl rfl
theorem canonA_bool {b : Bool} : canonA (.bool b) = .bool b := Eq.trans rfl rfl
theorem canonA_str {b : ByteArray} : canonA (.str b) = .str b := Eq.trans rfl rfl
theorem canonA_sl {a b : Bool} {n : Nat} {xs : List D} : canonA (.sl a b n xs) = .sl false false n xs := Eq.trans rfl rfl
theorem canonA_agg {xs : List D} : canonA (.agg xs) = .agg (xs.map canon) := Eq.trans rfl rfl

def clB (x s o n : Nat) : Option Row → Option (D × List Nat)
  | some r => if o + n * s ≤ r.cells.length then some (.sl false false n ((r.cells.drop o).take (n * s)), [x]) else none
  | none => none
theorem clB_some {x s o n : Nat} {r : Row} : clB x s o n (some r) = if o + n * s ≤ r.cells.length then some (.sl false false n ((r.cells.drop o).take (n * s)), [x]) else none := Eq.trans rfl rfl
def clP (x o : Nat) : Option Row → Option (D × List Nat)
  | some r => if o ≤ r.cells.length then some (.ip (r.cells.drop o), [x]) else none
  | none => none
theorem clP_some {x o : Nat} {r : Row} : clP x o (some r) = if o ≤ r.cells.length then some (.ip (r.cells.drop o), [x]) else none := Eq.trans rfl rfl

theorem carg_int {k : IntKind} {n : Int} : cleanArg h (.int k n) = some (.int k n, []) := Eq.trans rfl rfl
theorem carg_bool {b : Bool} : cleanArg h (.bool b) = some (.bool b, []) := Eq.trans rfl rfl
theorem carg_str {b : ByteArray} : cleanArg h (.str b) = some (.str b, []) := Eq.trans rfl rfl
theorem carg_sl {a b : Bool} {n : Nat} {xs : List D} : cleanArg h (.sl a b n xs) = some (.sl false false n xs, []) := Eq.trans rfl rfl
theorem carg_agg {xs : List D} : cleanArg h (.agg xs) = some (.agg (xs.map canon), []) := Eq.trans rfl rfl
theorem carg_ip {xs : List D} : cleanArg h (.ip xs) = some (.ip xs, []) := Eq.trans rfl rfl
theorem carg_fn {f : Nat} : cleanArg h (.fn f) = some (.fn f, []) := Eq.trans rfl rfl
theorem carg_buf {x v s o n : Nat} : cleanArg h (.buf x v s o n) = clB x s o n (live h x v) := by
  simp only [cleanArg, cleanCap, clean1]
  cases live h x v with
  | none => rfl
  | some r => by_cases hc : o + n * s ≤ r.cells.length <;> simp [clB, hc, canon]
theorem carg_ptr {x v o : Nat} : cleanArg h (.ptr x v o) = clP x o (live h x v) := by
  simp only [cleanArg, cleanCap]
  cases live h x v with
  | none => rfl
  | some r => simp only [clP]
theorem cv_int {k : IntKind} {n : Int} : cellsV h (.int k n) = some ([.int k n], []) := Eq.trans rfl rfl
theorem cv_bool {b : Bool} : cellsV h (.bool b) = some ([.bool b], []) := Eq.trans rfl rfl
theorem cv_str {b : ByteArray} : cellsV h (.str b) = some ([.str b], []) := Eq.trans rfl rfl
theorem cv_sl {a b : Bool} {n : Nat} {xs : List D} : cellsV h (.sl a b n xs) = some ([.sl a b n xs], []) := Eq.trans rfl rfl
theorem cv_agg {xs : List D} : cellsV h (.agg xs) = some (xs, []) := Eq.trans rfl rfl
def cvB : Option (D × List Nat) → Option (List D × List Nat)
  | some (d, fr) => some ([d], fr)
  | none => none
theorem cvB_some {d : D} {fr : List Nat} : cvB (some (d, fr)) = some ([d], fr) := Eq.trans rfl rfl
theorem cv_buf {x v s o n : Nat} : cellsV h (.buf x v s o n) = cvB (clB x s o n (live h x v)) := by
  simp only [cellsV, clean1]
  cases live h x v with
  | none => rfl
  | some r => by_cases hc : o + n * s ≤ r.cells.length <;> simp [clB, cvB, hc]

def clF (h : Nat → Option Row) : Option (D × List Nat) → Option Eff
  | some (d, fr) => some ⟨d, frz h fr⟩
  | none => none
theorem clF_some {d : D} {fr : List Nat} : clF h (some (d, fr)) = some ⟨d, frz h fr⟩ := Eq.trans rfl rfl
theorem acl_buf {x v s o n : Nat} : effClean h (.buf x v s o n) = clF h (clB x s o n (live h x v)) := by
  simp only [effClean, clean2, clean1]
  cases live h x v with
  | none => rfl
  | some r => by_cases hc : o + n * s ≤ r.cells.length <;> simp [clB, clF, hc, canon, canonA]

variable {Γ : Env} {f g e : Nat} {l : Bool} {G : Option (D × Row) → List D → Option (RK × Option Row)} {lent : Option (D × Row)} {as : List D} {dst : Option Nat} {fr : List Nat}
theorem ext_lends : (Am.ext Γ f l G).lends g = if g = f then l else Γ.lends g := Eq.trans rfl rfl
theorem ext_sem : (Am.ext Γ f l G).sem g lent as = if g = f then G lent as else Γ.sem g lent as := Eq.trans rfl rfl
theorem ext_own {d : Nat} : (Am.ext Γ f l G).own d = Γ.own d := Eq.trans rfl rfl
theorem noEnv_own {d : Nat} : noEnv.own d = true := Eq.trans rfl rfl
theorem keep_own {d i : Nat} : (Am.keep d Γ).own i = (i != d && Γ.own i) := Eq.trans rfl rfl
theorem keep_lends {d i : Nat} : (Am.keep d Γ).lends i = Γ.lends i := Eq.trans rfl rfl
theorem keep_sem {d i : Nat} : (Am.keep d Γ).sem i lent as = Γ.sem i lent as := Eq.trans rfl rfl
def calB (lends : Bool) (Γ : Env) (h : Nat → Option Row) (e : Nat) (dst : Option Nat) (g : Nat) (args : List D) : Option Eff :=
  if lends then
    match args with
    | .buf x v s o n :: rest => callL Γ h e dst g x v (.buf 0 0 s o n) rest
    | .ptr x v o :: rest => callL Γ h e dst g x v (.ptr 0 0 o) rest
    | _ => none
  else callC Γ h e dst g args
def calN (p : Option (Nat × Nat × Nat)) (Γ : Env) (h : Nat → Option Row) (e : Nat) (dst : Option Nat) (g : Nat) (args : List D) : Option Eff :=
  match p with
  | some p => callI h e dst p args
  | none => calB (Γ.lends g) Γ h e dst g args
theorem calN_none {args : List D} : calN none Γ h e dst g args = calB (Γ.lends g) Γ h e dst g args := Eq.trans rfl rfl
theorem calN_some {p : Nat × Nat × Nat} {args : List D} : calN (some p) Γ h e dst g args = callI h e dst p args := Eq.trans rfl rfl
theorem ext_ins {f : Nat} {l : Bool} {G : Option (D × Row) → List D → Option (RK × Option Row)} : (Am.ext Γ f l G).ins g = Γ.ins g := Eq.trans rfl rfl
theorem keep_ins {d : Nat} : (Am.keep d Γ).ins g = Γ.ins g := Eq.trans rfl rfl
theorem hint_ins {d y : Nat} : (Am.hintE d y Γ).ins g = Γ.ins g := Eq.trans rfl rfl
theorem noEnv_ins : noEnv.ins g = none := Eq.trans rfl rfl
theorem insE_ins {f : Nat} {p : Nat × Nat × Nat} : (Am.insE f p Γ).ins g = if g = f then some p else Γ.ins g := Eq.trans rfl rfl
theorem insE_lends {f : Nat} {p : Nat × Nat × Nat} : (Am.insE f p Γ).lends g = Γ.lends g := Eq.trans rfl rfl
theorem insE_sem {f : Nat} {p : Nat × Nat × Nat} {l : Option (D × Row)} {as : List D} : (Am.insE f p Γ).sem g l as = Γ.sem g l as := Eq.trans rfl rfl
theorem insE_own {f : Nat} {p : Nat × Nat × Nat} {d : Nat} : (Am.insE f p Γ).own d = Γ.own d := Eq.trans rfl rfl
theorem insE_hint {f : Nat} {p : Nat × Nat × Nat} {d : Nat} : (Am.insE f p Γ).hint d = Γ.hint d := Eq.trans rfl rfl
def calI1 (ty k by_ x y s s' o o' n m : Nat) (i : Int) (e : Nat) (d : Nat) : Option Row → Option Row → Option Eff
  | some r, some r' =>
      if r.fz = false ∧ r'.fz = false ∧ r.lst = true ∧ r'.lst = true ∧ x ≠ y ∧ s = k ∧ s' = k ∧ r.ty = ty ∧ r'.ty = ty ∧ o = 0 ∧ o' = 0 ∧ r.cells.length = n * k ∧ r'.cells.length = m * k ∧ 0 ≤ i ∧ i ≤ n ∧ 0 < m ∧ (n + m) * by_ ≤ 140737488355328 then
        some ⟨.buf d e k 0 (n + m), [(y, none), (x, none), (d, some ⟨e, ty, r.cells.take (i.toNat * k) ++ (r'.cells ++ r.cells.drop (i.toNat * k)), false, true, false⟩)]⟩
      else none
  | _, _ => none
theorem calI_eq {ty k by_ x v s o n y v' s' o' m d : Nat} {i : Int} : callI h e (some d) (ty, k, by_) [.buf x v s o n, .int .i64 i, .buf y v' s' o' m] = calI1 ty k by_ x y s s' o o' n m i e d (live h x v) (live h y v') := by
  simp only [callI, calI1]
  cases live h x v with
  | none => rfl
  | some r => cases live h y v' <;> rfl
theorem calI1_some {ty k by_ x y s s' o o' n m : Nat} {i : Int} {d : Nat} {r r' : Row} : calI1 ty k by_ x y s s' o o' n m i e d (some r) (some r') = if r.fz = false ∧ r'.fz = false ∧ r.lst = true ∧ r'.lst = true ∧ x ≠ y ∧ s = k ∧ s' = k ∧ r.ty = ty ∧ r'.ty = ty ∧ o = 0 ∧ o' = 0 ∧ r.cells.length = n * k ∧ r'.cells.length = m * k ∧ 0 ≤ i ∧ i ≤ n ∧ 0 < m ∧ (n + m) * by_ ≤ 140737488355328 then
        some ⟨.buf d e k 0 (n + m), [(y, none), (x, none), (d, some ⟨e, ty, r.cells.take (i.toNat * k) ++ (r'.cells ++ r.cells.drop (i.toNat * k)), false, true, false⟩)]⟩
      else none := Eq.trans rfl rfl
theorem call_fn {args : List D} : effCall Γ h e dst (.fn g) args = calN (Γ.ins g) Γ h e dst g args := by
  simp only [effCall, calN, calB]
  cases Γ.ins g with
  | none => rfl
  | some p => rfl
def calR (h : Nat → Option Row) (e : Nat) (dst : Option Nat) (fr : List Nat) : Option (RK × Option Row) → Option Eff
  | some (.clean r, _) => some ⟨r, if flatD r then [] else frz h fr⟩
  | some (.fresh ty s n cells, _) =>
    match dst with
    | some d => if fr.contains d = false then some ⟨.buf d e s 0 n, (if flatL cells then [] else frz h fr) ++ [(d, some ⟨e, ty, cells, false, true, false⟩)]⟩ else none
    | none => none
  | _ => none
def calA (Γ : Env) (h : Nat → Option Row) (e : Nat) (dst : Option Nat) (g : Nat) : Option (List D × List Nat) → Option Eff
  | some (as, fr) => calR h e dst fr (Γ.sem g none as)
  | none => none
theorem cal_clean {args : List D} : calB false Γ h e dst g args = calA Γ h e dst g (cleanArgs h args) := by
  simp only [calB, Bool.false_eq_true, if_false, callC, calA]
  cases cleanArgs h args with
  | none => rfl
  | some p =>
    obtain ⟨as, fr⟩ := p
    simp only
    cases hs : Γ.sem g none as with
    | none => rfl
    | some q =>
      obtain ⟨rk, o⟩ := q
      cases rk <;> rfl
theorem calA_some : calA Γ h e dst g (some (as, fr)) = calR h e dst fr (Γ.sem g none as) := Eq.trans rfl rfl
def frzN (h : Nat → Option Row) (fr : List Nat) : Bool → List (Nat × Option Row)
  | true => []
  | false => frz h fr
theorem frzN_true : frzN h fr true = [] := Eq.trans rfl rfl
theorem frzN_false : frzN h fr false = frz h fr := Eq.trans rfl rfl
theorem frzN_nil {b : Bool} : frzN h [] b = [] := by cases b <;> rfl
theorem calR_clean {r : D} {o : Option Row} : calR h e dst fr (some (.clean r, o)) = some ⟨r, frzN h fr (flatD r)⟩ := by
  simp only [calR]
  cases flatD r <;> rfl
theorem frz_nil : frz h [] = [] := Eq.trans rfl rfl
theorem frz_cons {x : Nat} : frz h (x :: fr) = (x, (h x).map frzR) :: frz h fr := Eq.trans rfl rfl
theorem frzR_t {v ty : Nat} {cells : List D} {lst mp : Bool} : frzR ⟨v, ty, cells, true, lst, mp⟩ = ⟨v, ty, cells, true, lst, mp⟩ := Eq.trans rfl rfl
theorem frzR_f {v ty : Nat} {cells : List D} {lst mp : Bool} : frzR ⟨v, ty, cells, false, lst, mp⟩ = ⟨v, ty, cells, true, true, mp⟩ := Eq.trans rfl rfl
theorem cargs_nil : cleanArgs h [] = some ([], []) := Eq.trans rfl rfl
def caC (p : Option (D × List Nat)) (q : Option (List D × List Nat)) : Option (List D × List Nat) :=
  match p, q with
  | some (d', fr), some (ds', fr') => some (d' :: ds', fr ++ fr')
  | _, _ => none
theorem caC_some {d : D} {fr fr' : List Nat} {ds : List D} : caC (some (d, fr)) (some (ds, fr')) = some (d :: ds, fr ++ fr') := Eq.trans rfl rfl
theorem cargs_cons {d : D} {ds : List D} : cleanArgs h (d :: ds) = caC (cleanArg h d) (cleanArgs h ds) := by
  simp only [cleanArgs]
  cases cleanArg h d with
  | none => rfl
  | some p => cases cleanArgs h ds <;> rfl

variable {T : Nat → Option Ty} {s : St} {rs : List ResultVar} {r : ResultVar}
theorem resL_nil : resL T s [] = some ([], []) := Eq.trans rfl rfl
theorem resL_cons : resL T s (r :: rs) = caC (resD T s r) (resL T s rs) := by
  simp only [resL]
  cases resD T s r with
  | none => rfl
  | some p => cases resL T s rs <;> rfl
theorem resD_tmp {t : Nat → D} {i : Nat} : resD T ⟨t, h, e⟩ (.tmp i) = cleanArg h (t i) := Eq.trans rfl rfl
def resC (T : Nat → Option Ty) (h : Nat → Option Row) (d : D) (τ : Option Ty) : Option (D × List Nat) :=
  match τ, d with
  | some τ, .ptr x v o => match effLoad τ h (.ptr x v o) with | some E => some (canonA E.val, []) | none => none
  | _, _ => none
theorem resD_cell {t : Nat → D} {i ty : Nat} : resD T ⟨t, h, e⟩ (.cell i ty) = resC T h (t i) (T ty) := Eq.trans rfl rfl
def resE : Option Eff → Option (D × List Nat)
  | some E => some (canonA E.val, [])
  | none => none
theorem resE_some {d : D} {w : List (Nat × Option Row)} : resE (some ⟨d, w⟩) = some (canonA d, []) := Eq.trans rfl rfl
theorem resC_ptr {τ : Ty} {x v o : Nat} : resC T h (.ptr x v o) (some τ) = resE (effLoad τ h (.ptr x v o)) := by
  simp only [resC, resE]
def endC (p : Option (List D × List Nat)) : Option (RK × Option Row) :=
  match p with
  | some (ds, _) => some (.clean (resAll ds), none)
  | none => none
theorem endC_some {ds : List D} {fr : List Nat} : endC (some (ds, fr)) = some (.clean (resAll ds), none) := Eq.trans rfl rfl
theorem endM_clean : endM .clean T none rs s = endC (resL T s rs) := by
  simp only [endM, endClean, lastRow, okFr, endC]
  cases resL T s rs <;> rfl
theorem calR_fresh {ty sz n d : Nat} {cells : List D} {o : Option Row} : calR h e (some d) fr (some (.fresh ty sz n cells, o)) = if fr.contains d = false then some ⟨.buf d e sz 0 n, frzN h fr (flatL cells) ++ [(d, some ⟨e, ty, cells, false, true, false⟩)]⟩ else none := by
  simp only [calR]
  cases flatL cells <;> rfl
theorem flatL_int {k : IntKind} : ∀ l : List Int, flatL (encL (eI k) l) = true
  | [] => rfl
  | x :: l => by
    have := flatL_int (k := k) l
    simp only [encL_cons, eI_cells, List.cons_append, List.nil_append, flatL, flatD, this, Bool.and_self]
theorem endM_fresh {ty sz i : Nat} {t : Nat → D} : endM (.fresh ty sz) T none [.tmp i] ⟨t, h, e⟩ = endFreshD ty sz h (t i) := Eq.trans rfl rfl
theorem endM_tight {i : Nat} {t : Nat → D} : endM .tight T none [.tmp i] ⟨t, h, e⟩ = endTightD (t i) := Eq.trans rfl rfl
theorem etD_sl {nl tg : Bool} {n : Nat} {xs : List D} : endTightD (.sl nl tg n xs) = some (.clean (.sl nl tg n xs), none) := Eq.trans rfl rfl
theorem efD_buf {ty sz x v o n : Nat} : endFreshD ty sz h (.buf x v sz o n) = endFreshB ty sz o n (live h x v) := by simp [endFreshD]
theorem efD_sl {ty sz : Nat} {nl tg : Bool} {xs : List D} : endFreshD ty sz h (.sl nl tg 0 xs) = if tg = true then some (.fresh ty sz 0 [], none) else none := Eq.trans rfl rfl
theorem efB_some {ty sz o n : Nat} {r : Row} : endFreshB ty sz o n (some r) = if r.fz = false ∧ r.ty = ty ∧ o + n * sz ≤ r.cells.length then some (.fresh ty sz n ((r.cells.drop o).take (n * sz)), none) else none := Eq.trans rfl rfl
theorem resAll_one {d : D} : resAll [d] = d := Eq.trans rfl rfl
theorem resAll_two {d d' : D} {ds : List D} : resAll (d :: d' :: ds) = .tup (d :: d' :: ds) := Eq.trans rfl rfl
end
end Go.Proofs.YtdecgihkgpgejaaDoor.Am
