/- The memory-free machine, part 16: a function's call. -/
import Derived.Test.YtdecgihkgpgejaaDoorBb
namespace Go.Proofs.YtdecgihkgpgejaaDoor.Am
open Go.RowKit
set_option linter.unusedSimpArgs false
set_option linter.unusedVariables false

/-- One result: clean data, out of a slot or a variable. -/
def resD (T : Nat → Option Ty) (s : St) : ResultVar → Option (D × List Nat)
  | .tmp i => cleanArg s.h (s.t i)
  | .cell i ty =>
    match T ty, s.t i with
    | some τ, .ptr x v o => match effLoad τ s.h (.ptr x v o) with | some E => some (canonA E.val, []) | none => none
    | _, _ => none

def resL (T : Nat → Option Ty) (s : St) : List ResultVar → Option (List D × List Nat)
  | [] => some ([], [])
  | r :: rs =>
    match resD T s r with
    | some (d, fr) => match resL T s rs with
      | some (ds, fr') => some (d :: ds, fr ++ fr')
      | none => none
    | none => none

def resAll : List D → D
  | [d] => d
  | ds => .tup ds

/-- How a result is told: as data · as the lent slice, cut · as a new slice. -/
inductive Mode where
  | clean | same | tight
  | fresh (ty s : Nat)

def startSt : Option (D × Row) → List D → St
  | none, args => ⟨fun i => args.getD i .und, fun _ => none, 0⟩
  | some (d0, r), args => ⟨fun i => (d0 :: args).getD i .und, fun x => if x = 0 then some { r with v := 0 } else none, 1⟩

/-- What becomes of the lent row, if it is still there. -/
def lastRow : Option (D × Row) → St → Option (Option Row)
  | none, _ => some none
  | some (_, r), s =>
    match s.h 0 with
    | some r1 => if r1.v = 0 ∧ r1.fz = false ∧ r1.ty = r.ty ∧ r1.mp = false then some (some r1) else none
    | none => none

def okFr : Option (D × Row) → List Nat → Bool
  | none, _ => true
  | some _, fr => !fr.contains 0

def endClean (T : Nat → Option Ty) (lent : Option (D × Row)) (rs : List ResultVar) (s : St) : Option (RK × Option Row) :=
  match resL T s rs, lastRow lent s with
  | some (ds, fr), some o => if okFr lent fr then some (.clean (resAll ds), o) else none
  | _, _ => none

def endSame (lent : Option (D × Row)) (rs : List ResultVar) (s : St) : Option (RK × Option Row) :=
  match rs with
  | [.tmp i] =>
    match s.t i, lastRow lent s with
    | .buf 0 0 sz o n, some (some r) => some (.same sz o n, some r)
    | _, _ => none
  | _ => none

def endTightD : D → Option (RK × Option Row)
  | .sl nl tg n xs => some (.clean (.sl nl tg n xs), none)
  | _ => none

def endTight (lent : Option (D × Row)) (rs : List ResultVar) (s : St) : Option (RK × Option Row) :=
  match lent, rs with
  | none, [.tmp i] => endTightD (s.t i)
  | _, _ => none

def endFreshB (ty s o n : Nat) : Option Row → Option (RK × Option Row)
  | some r => if r.fz = false ∧ r.ty = ty ∧ o + n * s ≤ r.cells.length then some (.fresh ty s n ((r.cells.drop o).take (n * s)), none) else none
  | none => none

def endFreshD (ty s : Nat) (h : Nat → Option Row) : D → Option (RK × Option Row)
  | .buf x v sz o n => if sz = s then endFreshB ty s o n (live h x v) else none
  | .sl _ tg 0 _ => if tg = true then some (.fresh ty s 0 [], none) else none
  | _ => none

def endFresh (ty s : Nat) (rs : List ResultVar) (st : St) : Option (RK × Option Row) :=
  match rs with
  | [.tmp i] => endFreshD ty s st.h (st.t i)
  | _ => none

def endM (mode : Mode) (T : Nat → Option Ty) (lent : Option (D × Row)) (rs : List ResultVar) (s : St) : Option (RK × Option Row) :=
  match mode with
  | .clean => endClean T lent rs s
  | .same => endSame lent rs s
  | .tight => endTight lent rs s
  | .fresh ty sz => endFresh ty sz rs s

/-- What a function computes. -/
def vfunc (mode : Mode) (T : Nat → Option Ty) (Γ : Env) (F : Nat) (fn : Func) (lent : Option (D × Row)) (args : List D) : Option (RK × Option Row) :=
  match fn.body with
  | some c =>
    match vcode T Γ fn.ntmps F c (startSt lent args) with
    | some (.exit _, _) => none
    | some (_, s) => endM mode T lent fn.results.toList s
    | none => none
  | none => none

def okLent : Option (D × Row) → Bool
  | none => true
  | some (.buf 0 0 _ _ _, _) => true
  | some (.ptr 0 0 _, _) => true
  | _ => false

def nArgs : Option (D × Row) → List D → Nat
  | none, as => as.length
  | some _, as => as.length + 1

section
variable {P : Program} {T : Nat → Option Ty} {N : Nat} {M : Nat → Prop} {L : Lent} {w0 : World} {blk : Nat → Option (Nat × Nat)} {a : Act} {w : World} {Γ : Env}

theorem Inv.lessM {V : Nat → Nat → Prop} {t : Nat → D} {h : Nat → Option Row} (hI : Inv N M L w0 blk V t h a w) (fr : List Nat) : Less M h blk fr M where
  le b hb := .inl hb
  no x hx r g hr hg hb := hI.notM hr hg hb

def resSem (tm : Array Value) : ResultVar → Sem Value
  | .tmp t => pure (tm.getD t undef)
  | .cell b t => do loadVar t (← asAddr (tm.getD b undef))

theorem results_eq (fn : Func) (tm : Array Value) : results fn tm = (do
    let vs ← fn.results.mapM (resSem tm)
    pure (if h : vs.size = 1 then vs[0] else .tuple vs)) := by
  unfold results
  congr 1

theorem run_loadD (hT : TOk P T) {M' : Nat → Prop} {ty : Nat} {τ : Ty} {g c : Nat} {xs : List D} {d : D} (hτ : T ty = some τ) (hat : At w M' g c xs) (hl : xs.length = τ.size) (hd : loadD τ xs = some d) :
    ∃ u, (loadVar ty ⟨g, c, none⟩).run P w = .ok u w ∧ RP w M' d u := by
  obtain ⟨us, h1, h2, h3, h4⟩ := hat.vals
  have hone : τ.ds.isA = false → xs.length = 1 ∧ xs = [d] := by
    intro hf
    simp only [loadD, hf, Bool.false_eq_true, if_false] at hd
    split at hd
    · simp only [Option.some.injEq] at hd; subst hd; exact ⟨rfl, rfl⟩
    · cases hd
  have hrun := run_loadVar' (hT ty τ hτ) w g c us (by rw [h1, hl]) h2 (fun hf => by rw [h1]; exact (hone hf).1)
  refine ⟨_, hrun, ?_⟩
  cases ha : τ.ds.isA with
  | true =>
    simp only [loadD, ha, if_true, Option.some.injEq] at hd
    subst hd
    exact .agg xs us h1 h3 h4
  | false =>
    obtain ⟨_, rfl⟩ := hone ha
    exact h3 0 d rfl

/-- The results, as data: apart from the blocks M', which the frozen rows are not among. -/
theorem run_resD (hT : TOk P T) {M' : Nat → Prop} {V : Nat → Nat → Prop} {s : St} (hI : Inv N M L w0 blk V s.t s.h a w) {r : ResultVar} {d : D} {fr : List Nat} (h1 : resD T s r = some (d, fr)) (hl : Less M s.h blk fr M') : ∃ u, (resSem a.tmps r).run P w = .ok u w ∧ RP w M' d u := by
  cases r with
  | tmp i =>
    simp only [resD] at h1
    exact ⟨a.tmps.getD i undef, rfl, hI.cleanArg h1 hl (hI.slots i)⟩
  | cell i ty =>
    simp only [resD] at h1
    split at h1
    · rename_i τ x v o hτ hp
      split at h1
      · rename_i E hE
        simp only [Option.some.injEq, Prod.mk.injEq] at h1
        obtain ⟨rfl, _⟩ := h1
        have hsl := hI.slots i
        rw [hp] at hsl
        simp only [effLoad] at hE
        split at hE
        · rename_i rr hlv
          obtain ⟨hx, hv⟩ := live_some hlv
          split at hE
          · rename_i hle
            split at hE
            · rename_i d' hd'
              simp only [Option.some.injEq] at hE
              subst hE
              obtain ⟨g, hg, hpv⟩ := hsl.2 rr hx hv
              have hat := ((hI.rowAt hx hg (live_mp hlv)).drop o).take τ.size
              obtain ⟨u, hu1, hu2⟩ := run_loadD hT hτ hat (by simp; omega) hd'
              refine ⟨u, ?_, (hu2.less fun b hb => hl.le b hb).canonA⟩
              simp only [resSem, hpv, asAddr, Sem.run_bind, Sem.run_pure, Result.andThen_ok, hu1]
            · cases hE
          · cases hE
        · cases hE
      · cases h1
    · cases h1

theorem run_resL (hT : TOk P T) {M' : Nat → Prop} {V : Nat → Nat → Prop} {s : St} (hI : Inv N M L w0 blk V s.t s.h a w) : ∀ (rs : List ResultVar) (ds : List D) (fr : List Nat), resL T s rs = some (ds, fr) → Less M s.h blk fr M' →
    ∃ us : List Value, (rs.mapM (resSem a.tmps)).run P w = .ok us w ∧ us.length = ds.length ∧ ∀ j d, ds[j]? = some d → RP w M' d (us.getD j undef)
  | [], ds, fr, h, _ => by
    simp only [resL, Option.some.injEq, Prod.mk.injEq] at h
    obtain ⟨rfl, _⟩ := h
    exact ⟨[], by simp, rfl, fun j d hj => by simp at hj⟩
  | r :: rs, ds, fr, h, hl => by
    simp only [resL] at h
    split at h
    · rename_i d fr1 h1
      split at h
      · rename_i ds2 fr2 h2
        simp only [Option.some.injEq, Prod.mk.injEq] at h
        obtain ⟨rfl, rfl⟩ := h
        obtain ⟨us, i1, i2, i3⟩ := run_resL hT hI rs ds2 fr2 h2 hl.right
        obtain ⟨u, hu1, hu2⟩ := run_resD (P := P) hT hI h1 hl.left
        refine ⟨u :: us, ?_, by simp [i2], fun j d hj => ?_⟩
        · simp only [List.mapM_cons, Sem.run_bind, hu1, Result.andThen_ok, i1, Sem.run_pure]
        · cases j with
          | zero => simp only [List.getElem?_cons_zero, Option.some.injEq] at hj; subst hj; simpa using hu2
          | succ j => simpa using i3 j d (by simpa using hj)
      · cases h
    · cases h

theorem run_results (hT : TOk P T) {M' : Nat → Prop} {V : Nat → Nat → Prop} {s : St} (hI : Inv N M L w0 blk V s.t s.h a w) {fn : Func} {ds : List D} {fr : List Nat} (h : resL T s fn.results.toList = some (ds, fr)) (hl : Less M s.h blk fr M') :
    ∃ v, (results fn a.tmps).run P w = .ok v w ∧ RP w M' (resAll ds) v := by
  obtain ⟨us, i1, i2, i3⟩ := run_resL (P := P) hT hI _ ds fr h hl
  have hm : (fn.results.mapM (resSem a.tmps)).run P w = .ok us.toArray w := by
    rw [Array.mapM_eq_mapM_toList, Sem.run_map, i1]
    rfl
  rw [results_eq]
  simp only [Sem.run_bind, hm, Result.andThen_ok, Sem.run_pure]
  refine ⟨_, rfl, ?_⟩
  match us, ds, i2, i3 with
  | [u], [d], _, i3 => simpa [resAll] using i3 0 d rfl
  | [], [], _, _ => exact .tup [] [] rfl (fun j x hj => by simp at hj)
  | u1 :: u2 :: us, d1 :: d2 :: ds, i2, i3 =>
    have : ¬ (u1 :: u2 :: us).toArray.size = 1 := by simp
    rw [dif_neg this]
    exact .tup _ _ (by simpa using i2) i3

/-- One result out of a slot. -/
theorem run_result1 {fn : Func} {tm : Array Value} {i : Nat} (h : fn.results.toList = [.tmp i]) : (results fn tm).run P w = .ok (tm.getD i undef) w := by
  have he : fn.results = #[.tmp i] := by rw [← h]
  rw [results_eq, he]
  simp [resSem]

theorem Inv.endFresh {V : Nat → Nat → Prop} {s : St} {ty0 s0 : Nat} (hI : Inv N M L w0 blk V s.t s.h a w) {fn : Func} {rk : RK} {out : Option Row} (he : Am.endFresh ty0 s0 fn.results.toList s = some (rk, out)) :
    out = none ∧ ∃ v ty sz n cells, rk = .fresh ty sz n cells ∧ (results fn a.tmps).run P w = .ok v w ∧ GivesK w0 w M (LB L) v rk := by
  unfold Am.endFresh at he
  split at he
  · rename_i i hrs
    have hsl := hI.slots i
    unfold endFreshD at he
    split at he
    · rename_i x v sz o n ht
      rw [ht] at hsl
      split at he
      · rename_i hsz
        subst hsz
        unfold endFreshB at he
        split at he
        · rename_i r hlv
          split at he
          · rename_i hcond
            obtain ⟨hz, hty, hle⟩ := hcond
            simp only [Option.some.injEq, Prod.mk.injEq] at he
            obtain ⟨rfl, rfl⟩ := he
            refine ⟨rfl, a.tmps.getD i undef, _, _, _, _, rfl, run_result1 hrs, ?_⟩
            obtain ⟨hx, hv⟩ := live_some hlv
            have hol : ((r.cells.drop o).take (n * sz)).length = n * sz := by simp; omega
            rcases hI.bufCells hlv hsl with ⟨g, o', c, cs, g0, g1, g2, g3, g4, g5, g7, g8⟩ | ⟨g0, rfl, g2, A, g3⟩
            · by_cases hc : 0 < c ∨ o = 0
              · obtain ⟨k1, k2⟩ := g5 hc
                subst k1
                refine .inl ⟨(g.1, g.2 + o), c, cs, g1, (show w0.heap.size ≤ g.1 ∨ LB L g.1 from hI.base hx g0), by rw [← hty]; exact g4, g2, g3, k2, by rw [hol]; simp only; omega, fun j d hj => ?_⟩
                rw [getElem?_drop_take] at hj
                split at hj
                · rw [Nat.add_assoc]
                  refine ⟨(g8 _ _ hj).1, (g8 _ _ hj).2.less fun b hb => ?_⟩
                  rcases hb with hb | rfl
                  · exact .inl hb
                  · exact .inr ⟨x, r, g, hx, hz, g0, rfl⟩
                · cases hj
              · have hn : n = 0 := by omega
                have hc0 : c = 0 := by omega
                subst hn hc0
                exact .inr ⟨rfl, by simp, _, g1⟩
            · exact .inr ⟨rfl, by simp, A, g3⟩
          · cases he
        · cases he
      · cases he
    · rename_i nl tg xs ht
      rw [ht] at hsl
      split at he
      · rename_i hnt
        simp only [Option.some.injEq, Prod.mk.injEq] at he
        obtain ⟨rfl, rfl⟩ := he
        refine ⟨rfl, a.tmps.getD i undef, _, _, _, _, rfl, run_result1 hrs, .inr ⟨rfl, rfl, ?_⟩⟩
        have hr : RP w (Own M s.h blk) (.sl nl tg 0 xs) (a.tmps.getD i undef) := hsl
        generalize a.tmps.getD i undef = u at *
        cases hr with
        | sl A c nl tight n xs us h1 h2 h3 h4 h5 h6 h7 h8 =>
          have hc : c = 0 := by
            exact h5 hnt
          subst hc
          exact ⟨A, rfl⟩
      · cases he
    · cases he
  · cases he

theorem startTmp {args : List D} {vs : Array Value} {n i : Nat} (hs : vs.size = args.length) : (vs ++ Array.replicate (n - vs.size) undef).getD i undef = vs.getD i undef ∨ args.getD i .und = .und := by
  by_cases hi : i < args.length
  · left
    have : i < vs.size := by omega
    simp [Array.getD_eq_getD_getElem?, Array.getElem?_append_left this]
  · right
    simp [List.getD, List.getElem?_eq_none (Nat.le_of_not_lt hi)]

theorem vfunc_sound (hT : TOk P T) (hΓ : GOk P Γ) (hm : P.follows .mixedOrders = true) {mode : Mode} {f : FuncId} {fn : Func} {F : Nat} {lent : Option (D × Row)} {args : List D} {rk : RK} {out : Option Row} (hf : P.funcs[f]? = some fn)
    (hok : (match fn.body with | some c => codeOk c | none => true) = true) (hn : nArgs lent args ≤ fn.ntmps) (hlo : okLent lent = true)
    (hr : vfunc mode T Γ F fn lent args = some (rk, out)) : CallsR P f lent args rk out := by
  unfold vfunc at hr
  split at hr <;> try (cases hr; done)
  rename_i c hc
  rw [hc] at hok
  simp only at hok
  split at hr <;> try (cases hr; done)
  rename_i x s hne hv
  cases lent with
  | none =>
    intro w M vs hM hargs
    have hI : Inv fn.ntmps M none w (fun _ => none) (fun _ v => v < 0) (startSt none args).t (startSt none args).h { tmps := vs ++ Array.replicate (fn.ntmps - vs.size) undef, defers := [] } w := {
      tab := fun b hb => (hargs.tab b hb).less fun b hb => by
        rcases hb with hb | ⟨x, r, g, hx, _⟩
        · exact hb
        · cases hx
      below := Beyond.refl _ _
      mlt := hM
      lent := fun b ⟨g, hg, _⟩ => by cases hg
      pin := fun go hg => by cases hg
      defers := rfl
      tsz := by have := hargs.1; simp only [nArgs] at hn; simp; omega
      slots := fun i => by
        simp only [startSt]
        rcases startTmp (n := fn.ntmps) (i := i) hargs.1 with he | he
        · rw [he]
          by_cases hi : i < args.length
          · have h1 := hargs.2 i _ (List.getElem?_eq_getElem hi)
            have e1 : args.getD i .und = args[i] := by simp [List.getD, hi]
            rw [e1]
            exact RT_of_RP (h1.less fun b hb => by
              rcases hb with hb | ⟨x, r, g, hx, _⟩
              · exact hb
              · cases hx)
          · have e1 : args.getD i .und = .und := by simp [List.getD, List.getElem?_eq_none (Nat.le_of_not_lt hi)]
            rw [e1]
            trivial
        · rw [he]; trivial
      rows := fun x r hx => by cases hx
      inj := fun x y r s g g' hx => by cases hx
      ali := fun y r g hy => by cases hy }
    refine calls_of_wp hf hc ?_
    refine vcode_sound hT hΓ hm c (startSt none args) x s _ _ _ hv hok ⟨_, hI⟩ (fun a' w' hH => ?_)
    obtain ⟨blk', hI'⟩ := hH
    have hbel : Below w.heap.size w w' := hI'.below.below (fun b ⟨g, hg, _⟩ => by cases hg)
    have hpost : a'.defers = [] ∧ ∃ v, (results fn a'.tmps).run P w' = .ok v w' ∧ (∃ v', Ending.returned v = .returned v' ∧ Below w.heap.size w w' ∧ GivesK w w' M (fun _ => False) v' rk) := by
      refine ⟨hI'.defers, ?_⟩
      cases mode with
      | clean =>
        simp only [endM, endClean, lastRow] at hr
        split at hr <;> try (cases hr; done)
        rename_i ds fr o hres ho
        split at hr <;> try (cases hr; done)
        simp only [Option.some.injEq, Prod.mk.injEq] at hr
        obtain ⟨rfl, _⟩ := hr
        obtain ⟨v, hv1, hv2⟩ := run_results (P := P) hT hI' hres (hI'.lessM fr)
        exact ⟨v, hv1, v, rfl, hbel, hv2⟩
      | same =>
        simp only [endM, endSame, lastRow] at hr
        split at hr <;> try (cases hr; done)
        split at hr
        · rename_i hq; cases hq
        · cases hr
      | tight =>
        simp only [endM, endTight] at hr
        split at hr <;> try (cases hr; done)
        rename_i i _ hrs
        have hsl := hI'.slots i
        generalize s.t i = dd at *
        unfold endTightD at hr
        split at hr <;> try (cases hr; done)
        rename_i nl tg n xs
        simp only [Option.some.injEq, Prod.mk.injEq] at hr
        obtain ⟨rfl, _⟩ := hr
        have hsl' : RP w' (Own M s.h blk') (.sl nl tg n xs) (a'.tmps.getD i undef) := hsl
        exact ⟨a'.tmps.getD i undef, run_result1 hrs, _, rfl, hbel, hsl'.less fun b hb => .inl hb⟩
      | fresh ty0 s0 =>
        obtain ⟨rfl, v, ty, sz, n, cells, rfl, hv1, hv2⟩ := hI'.endFresh (P := P) hr
        refine ⟨v, hv1, v, rfl, hbel, ?_⟩
        rcases hv2 with ⟨g, k1, cs, k2, k3, k4⟩ | hv2
        · exact .inl ⟨g, k1, cs, k2, k3.imp id (fun ⟨g, hg, _⟩ => by cases hg), k4⟩
        · exact .inr hv2
    cases x with
    | normal => exact hpost
    | ret => exact hpost
    | exit n => exact (hne n rfl).elim
  | some p =>
    obtain ⟨d0, r⟩ := p
    intro w M go u0 vs hM hgoM hz hmp hrow hlv hargs
    have hown : ∀ b, Own M (startSt (some (d0, r)) args).h (fun x => if x = 0 then go else none) b ↔ (M b ∨ In0 go b) := by
      intro b
      constructor
      · rintro (hb | ⟨x, r', g, hx, _, hg, he⟩)
        · exact .inl hb
        · simp only [startSt] at hx
          split at hx
          · rename_i h0
            subst h0
            simp only [if_true] at hg
            exact .inr ⟨g, hg, he.symm⟩
          · cases hx
      · rintro (hb | ⟨g, hg, he⟩)
        · exact .inl hb
        · exact .inr ⟨0, { r with v := 0 }, g, rfl, hz, by simpa using hg, he.symm⟩
    have hI : Inv fn.ntmps M (some go) w (fun x => if x = 0 then go else none) (fun _ v => v < 1) (startSt (some (d0, r)) args).t (startSt (some (d0, r)) args).h { tmps := (#[u0] ++ vs) ++ Array.replicate (fn.ntmps - (#[u0] ++ vs).size) undef, defers := [] } w := {
      tab := fun b hb => (hargs.tab b hb).less fun b hb => (hown b).1 hb
      below := Beyond.refl _ _
      mlt := hM
      lent := fun b ⟨g, hg, he⟩ => hgoM b ⟨g, by simpa using hg, he⟩
      pin := fun go' hg => by
        cases hg
        exact ⟨Nat.zero_lt_one, fun r' _ _ => ⟨rfl, fun g _ => rfl⟩⟩
      defers := rfl
      tsz := by have := hargs.1; simp only [nArgs] at hn; simp; omega
      slots := fun i => by
        simp only [startSt]
        rcases startTmp (args := d0 :: args) (vs := #[u0] ++ vs) (n := fn.ntmps) (i := i) (by simp [hargs.1]; omega) with he | he
        · rw [he]
          cases i with
          | zero =>
            have e1 : (#[u0] ++ vs).getD 0 undef = u0 := by simp [Array.getElem?_append]
            rw [e1]
            simp only [List.getD_cons_zero]
            cases d0 with
            | buf x v sz o n =>
              have hxv : x = 0 ∧ v = 0 := by
                simp only [okLent] at hlo
                split at hlo <;> simp_all
              obtain ⟨rfl, rfl⟩ := hxv
              exact ⟨Nat.zero_lt_one, fun r' h1 h2 => by simpa using hlv.2 ⟨0, 0, [], false, false, false⟩ rfl rfl⟩
            | ptr x v o =>
              have hxv : x = 0 ∧ v = 0 := by
                simp only [okLent] at hlo
                split at hlo <;> simp_all
              obtain ⟨rfl, rfl⟩ := hxv
              exact ⟨Nat.zero_lt_one, fun r' h1 h2 => by simpa using hlv.2 ⟨0, 0, [], false, false, false⟩ rfl rfl⟩
            | _ => simp [okLent] at hlo
          | succ i =>
            have e1 : (#[u0] ++ vs).getD (i + 1) undef = vs.getD i undef := by
              simp only [Array.getD_eq_getD_getElem?]
              rw [Array.getElem?_append_right (by simp)]
              simp
            rw [e1]
            simp only [List.getD_cons_succ]
            by_cases hi : i < args.length
            · have h1 := hargs.2 i _ (List.getElem?_eq_getElem hi)
              have e1 : args.getD i .und = args[i] := by simp [List.getD, hi]
              rw [e1]
              exact RT_of_RP (h1.less fun b hb => (hown b).1 hb)
            · have e1 : args.getD i .und = .und := by simp [List.getD, List.getElem?_eq_none (Nat.le_of_not_lt hi)]
              rw [e1]
              trivial
        · rw [he]; trivial
      rows := fun x r' hx => by
        simp only [startSt] at hx
        split at hx
        · rename_i h0
          subst h0
          simp only [Option.some.injEq] at hx
          subst hx
          refine ⟨Nat.zero_lt_one, ?_⟩
          simp only [if_true]
          cases go with
          | none => exact hrow
          | some g =>
            obtain ⟨cs, k1, k2, k3⟩ := hrow
            refine ⟨.inr ⟨g, rfl, rfl⟩, ?_⟩
            unfold RowIs
            simp only [hmp]
            exact ⟨cs, k1, k2, fun j d hj => ⟨(k3 j d hj).1, (k3 j d hj).2.less fun b hb => (hown b).1 hb⟩⟩
        · cases hx
      inj := fun x y r1 r2 g g' hx hy _ _ _ => by
        simp only [startSt] at hx hy
        split at hx
        · split at hy
          · omega
          · cases hy
        · cases hx
      ali := fun y r1 g hy hz1 => by
        simp only [startSt] at hy
        split at hy
        · simp only [Option.some.injEq] at hy
          subst hy
          simp_all
        · cases hy }
    refine calls_of_wp hf hc ?_
    refine vcode_sound hT hΓ hm c (startSt (some (d0, r)) args) x s _ _ _ hv hok ⟨_, hI⟩ (fun a' w' hH => ?_)
    obtain ⟨blk', hI'⟩ := hH
    have hbel : Beyond (In0 go) w w' := ⟨hI'.below.os, hI'.below.tape, hI'.below.output, hI'.below.size, fun k hk hn => hI'.below.block k hk (fun ⟨g, hg, he⟩ => hn ⟨g, by simpa using hg, he⟩)⟩
    have hlast : ∀ r1, lastRow (some (d0, r)) s = some (some r1) → s.h 0 = some r1 ∧ r1.v = 0 ∧ r1.fz = false ∧ (r1.ty = r.ty ∧ r1.mp = false) ∧ blk' 0 = go ∧ (∀ g, go = some g → w'.shape? g.1 = w.shape? g.1) ∧ (∀ b, (M b ∨ In0 go b) → Own M s.h blk' b) := by
      intro r1 hl
      simp only [lastRow] at hl
      split at hl <;> try (cases hl; done)
      rename_i r2 h2
      split at hl <;> try (cases hl; done)
      rename_i hcond
      simp only [Option.some.injEq] at hl
      subst hl
      obtain ⟨c1, c2, c3⟩ := hcond
      obtain ⟨_, k2⟩ := hI'.pin go rfl
      obtain ⟨k3, k4⟩ := k2 r2 h2 c1
      refine ⟨h2, c1, c2, c3, k3, k4, ?_⟩
      rintro b (hb | ⟨g, hg, he⟩)
      · exact .inl hb
      · exact .inr ⟨0, r2, g, h2, c2, k3.trans hg, he.symm⟩
    have hrowin : ∀ r1, lastRow (some (d0, r)) s = some (some r1) → RowIn w' (fun b => M b ∨ In0 go b) go r1 := by
      intro r1 hl
      obtain ⟨h1, _, _, h4, h5, _, h7⟩ := hlast r1 hl
      have := (hI'.rows 0 r1 h1).2
      rw [h5] at this
      cases go with
      | none => exact this
      | some g =>
        have this := this.2
        unfold RowIs at this
        rw [h4.2] at this
        obtain ⟨cs, k1, k2, k3⟩ := this
        exact ⟨cs, k1, k2, fun j d hj => ⟨(k3 j d hj).1, (k3 j d hj).2.less h7⟩⟩
    have hpost : a'.defers = [] ∧ ∃ v, (results fn a'.tmps).run P w' = .ok v w' ∧ (∃ v', Ending.returned v = .returned v' ∧ Beyond (In0 go) w w' ∧ OutOk w w' M go r out ∧ ResOk w w' M go v' rk) := by
      refine ⟨hI'.defers, ?_⟩
      cases mode with
      | clean =>
        simp only [endM, endClean] at hr
        split at hr <;> try (cases hr; done)
        rename_i ds fr o hres ho
        split at hr <;> try (cases hr; done)
        rename_i hfr
        simp only [okFr, Bool.not_eq_true', List.contains_eq_mem, decide_eq_false_iff_not] at hfr
        simp only [Option.some.injEq, Prod.mk.injEq] at hr
        obtain ⟨rfl, rfl⟩ := hr
        cases o with
        | none =>
          simp only [lastRow] at ho
          split at ho <;> try (cases ho; done)
          split at ho <;> cases ho
        | some r1 =>
          obtain ⟨h1, h2, h3, h4, h5, h6, h7⟩ := hlast r1 ho
          have hless : Less M s.h blk' fr (fun b => M b ∨ In0 go b) := by
            refine ⟨h7, fun x hx r' g hx' hg hb => ?_⟩
            rcases hb with hb | ⟨g', hg', he⟩
            · exact hI'.notM hx' hg hb
            · have : x = 0 := hI'.inj x 0 r' r1 g g' hx' h1 hg (h5.trans hg') he
              subst this
              exact hfr hx
          obtain ⟨v, hv1, hv2⟩ := run_results (P := P) hT hI' hres hless
          exact ⟨v, hv1, v, rfl, hbel, ⟨h4.1, h3, h4.2, h6, hrowin r1 ho⟩, hv2⟩
      | same =>
        simp only [endM, endSame] at hr
        split at hr <;> try (cases hr; done)
        rename_i i hrs
        split at hr <;> try (cases hr; done)
        rename_i sz o n r1 ht ho
        simp only [Option.some.injEq, Prod.mk.injEq] at hr
        obtain ⟨rfl, rfl⟩ := hr
        obtain ⟨h1, h2, h3, h4, h5, h6, h7⟩ := hlast r1 ho
        refine ⟨a'.tmps.getD i undef, run_result1 hrs, _, rfl, hbel, ⟨h4.1, h3, h4.2, h6, hrowin r1 ho⟩, ?_⟩
        have hsl := hI'.slots i
        rw [ht] at hsl
        refine ⟨trivial, fun r' _ _ => ?_⟩
        have := hsl.2 r1 h1 h2
        rw [h5] at this
        exact this
      | tight =>
        simp only [endM, endTight] at hr
        cases hr
      | fresh ty0 s0 =>
        obtain ⟨rfl, v, ty, sz, n, cells, rfl, hv1, hv2⟩ := hI'.endFresh (P := P) hr
        refine ⟨v, hv1, v, rfl, hbel, trivial, ?_⟩
        rcases hv2 with ⟨g, k1, cs, k2, k3, k4⟩ | hv2
        · exact .inl ⟨g, k1, cs, k2, k3.imp id (fun ⟨g, hg, he⟩ => ⟨g, by simpa using hg, he⟩), k4⟩
        · exact .inr hv2
    cases x with
    | normal => exact hpost
    | ret => exact hpost
    | exit n => exact (hne n rfl).elim

/-- The callees that are known, one more. -/
def ext (Γ : Env) (f : Nat) (l : Bool) (G : Option (D × Row) → List D → Option (RK × Option Row)) : Env := ⟨fun g => if g = f then l else Γ.lends g, fun g lent as => if g = f then G lent as else Γ.sem g lent as, Γ.own, Γ.hint, Γ.ins⟩

theorem GOk.ext (hΓ : GOk P Γ) {f : Nat} {l : Bool} {G : Option (D × Row) → List D → Option (RK × Option Row)} (hG : ∀ lent as rk out, G lent as = some (rk, out) → CallsR P f lent as rk out) (hc : Callable P f) : GOk P (Am.ext Γ f l G) := by
  refine ⟨fun g lent as rk out h => ?_, hΓ.ins⟩
  simp only [Am.ext] at h
  split at h
  · rename_i he; subst he; exact ⟨hG lent as rk out h, hc⟩
  · exact hΓ.calls g lent as rk out h

def noEnv : Env := ⟨fun _ => false, fun _ _ _ => none, fun _ => true, fun _ => none, fun _ => none⟩
theorem GOk.none : GOk P noEnv := ⟨fun f lent args rk out h => (by cases h), fun f p h => (by cases h)⟩
/-- A slot that is to hold clean data. -/
def keep (d : Nat) (Γ : Env) : Env := ⟨Γ.lends, Γ.sem, fun i => i != d && Γ.own i, Γ.hint, Γ.ins⟩
theorem GOk.keep (hΓ : GOk P Γ) (d : Nat) : GOk P (Am.keep d Γ) := ⟨hΓ.calls, hΓ.ins⟩
/-- A variable that is to hold an own map. -/
def hintE (d y : Nat) (Γ : Env) : Env := ⟨Γ.lends, Γ.sem, Γ.own, fun i => if i = d then some y else Γ.hint i, Γ.ins⟩
theorem GOk.hintE (hΓ : GOk P Γ) (d y : Nat) : GOk P (Am.hintE d y Γ) := ⟨hΓ.calls, hΓ.ins⟩
/-- A function that is the library's insertion. -/
def insE (f : Nat) (p : Nat × Nat × Nat) (Γ : Env) : Env := ⟨Γ.lends, Γ.sem, Γ.own, Γ.hint, fun g => if g = f then some p else Γ.ins g⟩
theorem GOk.insE (hΓ : GOk P Γ) {f : Nat} {p : Nat × Nat × Nat} (hi : InsC P f p) : GOk P (Am.insE f p Γ) := ⟨hΓ.calls, fun g q h => by
  simp only [Am.insE] at h
  split at h
  · rename_i he; subst he; cases h; exact hi
  · exact hΓ.ins g q h⟩
end
end Go.Proofs.YtdecgihkgpgejaaDoor.Am
