/- The memory-free machine, part 16: a function's call. -/
import Derived.Test.YtcdckmfiknhiiaaWb
namespace Go.Proofs.Ytcdckmfiknhiiaa.Vm
open Go.RowKit

/-- One result: clean data, out of a slot or a variable. -/
def resD (T : Nat → Option Ty) (s : St) : ResultVar → Option (D × List Nat)
  | .tmp i => cleanArg s.h (s.t i)
  | .cell i ty =>
    match T ty, s.t i with
    | some τ, .ptr x v o => match effLoad τ s.h (.ptr x v o) with | some E => some (E.val, []) | none => none
    | _, _ => none

def resL (T : Nat → Option Ty) (s : St) : List ResultVar → Option (List D × List Nat)
  | [] => some ([], [])
  | r :: rs =>
    match resD T s r with
    | some (d, fr) => match resL T s rs with
      | some (ds, fr') => some (d :: ds, fr ++ fr')
      | none => none
    | none => none

def resAll : List D → D
  | [d] => d
  | ds => .tup ds

def initSt (args : List D) : St := ⟨fun i => args.getD i .und, fun _ => none, 0⟩

def vend (T : Nat → Option Ty) (rs : List ResultVar) (r : Option (Ex × St)) : Option D :=
  match r with
  | some (.exit _, _) => none
  | some (_, s) => match resL T s rs with | some (ds, _) => some (resAll ds) | none => none
  | none => none

/-- What a function computes. -/
def vfunc (T : Nat → Option Ty) (Γ : Nat → List D → Option D) (F : Nat) (fn : Func) (args : List D) : Option D :=
  match fn.body with
  | some c => vend T fn.results.toList (vcode T Γ fn.ntmps F c (initSt args))
  | none => none

section
variable {P : Program} {T : Nat → Option Ty} {N : Nat} {M : Nat → Prop} {w0 : World} {blk : Nat → Nat} {a : Act} {w : World} {Γ : Nat → List D → Option D}

theorem Inv.lessM {V : Nat → Nat → Prop} {t : Nat → D} {h : Nat → Option Row} (hI : Inv N M w0 blk V t h a w) (fr : List Nat) : Less M h blk fr M where
  le b hb := .inl hb
  no x hx r hr hb := by
    have h1 := hI.mlt _ hb
    have h2 := (hI.rows x r hr).2.base
    omega

def resSem (tm : Array Value) : ResultVar → Sem Value
  | .tmp t => pure (tm.getD t undef)
  | .cell b t => do loadVar t (← asAddr (tm.getD b undef))

theorem results_eq (fn : Func) (tm : Array Value) : results fn tm = (do
    let vs ← fn.results.mapM (resSem tm)
    pure (if h : vs.size = 1 then vs[0] else .tuple vs)) := by
  unfold results
  congr 1

theorem run_loadD (hT : TOk P T) {M' : Nat → Prop} {ty : Nat} {τ : Ty} {g c : Nat} {xs : List D} {d : D} (hτ : T ty = some τ) (hat : At w M' g c xs) (hl : xs.length = τ.size) (hd : loadD τ xs = some d) :
    ∃ u, (loadVar ty ⟨g, c, none⟩).run P w = .ok u w ∧ RP w M' d u := by
  obtain ⟨us, h1, h2, h3, h4⟩ := hat.vals
  have hone : τ.ds.isA = false → xs.length = 1 ∧ xs = [d] := by
    intro hf
    simp only [loadD, hf, Bool.false_eq_true, if_false] at hd
    split at hd
    · simp only [Option.some.injEq] at hd; subst hd; exact ⟨rfl, rfl⟩
    · cases hd
  have hrun := run_loadVar' (hT ty τ hτ) w g c us (by rw [h1, hl]) h2 (fun hf => by rw [h1]; exact (hone hf).1)
  refine ⟨_, hrun, ?_⟩
  cases ha : τ.ds.isA with
  | true =>
    simp only [loadD, ha, if_true, Option.some.injEq] at hd
    subst hd
    exact .agg xs us h1 h3 h4
  | false =>
    obtain ⟨_, rfl⟩ := hone ha
    exact h3 0 d rfl

theorem run_resD (hT : TOk P T) {V : Nat → Nat → Prop} {s : St} (hI : Inv N M w0 blk V s.t s.h a w) {r : ResultVar} {d : D} {fr : List Nat} (h1 : resD T s r = some (d, fr)) : ∃ u, (resSem a.tmps r).run P w = .ok u w ∧ RP w M d u := by
  cases r with
  | tmp i =>
    simp only [resD] at h1
    exact ⟨a.tmps.getD i undef, rfl, hI.cleanArg h1 (hI.lessM fr) (hI.slots i)⟩
  | cell i ty =>
    simp only [resD] at h1
    split at h1
    · rename_i τ x v o hτ hp
      split at h1
      · rename_i E hE
        simp only [Option.some.injEq, Prod.mk.injEq] at h1
        obtain ⟨rfl, _⟩ := h1
        have hsl := hI.slots i
        rw [hp] at hsl
        simp only [effLoad] at hE
        split at hE
        · rename_i rr hl
          obtain ⟨hx, hv⟩ := live_some hl
          split at hE
          · rename_i hle
            split at hE
            · rename_i d' hd'
              simp only [Option.some.injEq] at hE
              subst hE
              have hat := ((hI.rowAt hx).drop o).take τ.size
              rw [Nat.zero_add] at hat
              obtain ⟨u, hu1, hu2⟩ := run_loadD hT hτ hat (by simp; omega) hd'
              refine ⟨u, ?_, hu2.keep fun b h1 h2 => ⟨h1, fun hb => h2 (.inl hb), rfl⟩⟩
              simp only [resSem, hsl.2 rr hx hv, asAddr, Sem.run_bind, Sem.run_pure, Result.andThen_ok, hu1]
            · cases hE
          · cases hE
        · cases hE
      · cases h1
    · cases h1

theorem run_resL (hT : TOk P T) {V : Nat → Nat → Prop} {s : St} (hI : Inv N M w0 blk V s.t s.h a w) : ∀ (rs : List ResultVar) (ds : List D) (fr : List Nat), resL T s rs = some (ds, fr) →
    ∃ us : List Value, (rs.mapM (resSem a.tmps)).run P w = .ok us w ∧ us.length = ds.length ∧ ∀ j d, ds[j]? = some d → RP w M d (us.getD j undef)
  | [], ds, fr, h => by
    simp only [resL, Option.some.injEq, Prod.mk.injEq] at h
    obtain ⟨rfl, _⟩ := h
    exact ⟨[], by simp, rfl, fun j d hj => by simp at hj⟩
  | r :: rs, ds, fr, h => by
    simp only [resL] at h
    split at h
    · rename_i d fr1 h1
      split at h
      · rename_i ds2 fr2 h2
        simp only [Option.some.injEq, Prod.mk.injEq] at h
        obtain ⟨rfl, _⟩ := h
        obtain ⟨us, i1, i2, i3⟩ := run_resL hT hI rs ds2 fr2 h2
        obtain ⟨u, hu1, hu2⟩ := run_resD (P := P) hT hI h1
        refine ⟨u :: us, ?_, by simp [i2], fun j d hj => ?_⟩
        · simp only [List.mapM_cons, Sem.run_bind, hu1, Result.andThen_ok, i1, Sem.run_pure]
        · cases j with
          | zero => simp only [List.getElem?_cons_zero, Option.some.injEq] at hj; subst hj; simpa using hu2
          | succ j => simpa using i3 j d (by simpa using hj)
      · cases h
    · cases h

theorem run_results (hT : TOk P T) {V : Nat → Nat → Prop} {s : St} (hI : Inv N M w0 blk V s.t s.h a w) {fn : Func} {ds : List D} {fr : List Nat} (h : resL T s fn.results.toList = some (ds, fr)) :
    ∃ v, (results fn a.tmps).run P w = .ok v w ∧ RP w M (resAll ds) v := by
  obtain ⟨us, i1, i2, i3⟩ := run_resL (P := P) hT hI _ ds fr h
  have hm : (fn.results.mapM (resSem a.tmps)).run P w = .ok us.toArray w := by
    rw [Array.mapM_eq_mapM_toList, Sem.run_map, i1]
    rfl
  rw [results_eq]
  simp only [Sem.run_bind, hm, Result.andThen_ok, Sem.run_pure]
  refine ⟨_, rfl, ?_⟩
  match us, ds, i2, i3 with
  | [u], [d], _, i3 => simpa [resAll] using i3 0 d rfl
  | [], [], _, _ => exact .tup [] [] rfl (fun j x hj => by simp at hj)
  | u1 :: u2 :: us, d1 :: d2 :: ds, i2, i3 =>
    have : ¬ (u1 :: u2 :: us).toArray.size = 1 := by simp
    rw [dif_neg this]
    exact .tup _ _ (by simpa using i2) i3

theorem vfunc_sound (hT : TOk P T) (hΓ : GOk P Γ) (hm : P.follows .mixedOrders = true) {f : FuncId} {fn : Func} {F : Nat} {args : List D} {r : D} (hf : P.funcs[f]? = some fn) (hok : (match fn.body with | some c => codeOk c | none => true) = true) (hn : args.length ≤ fn.ntmps)
    (hr : vfunc T Γ F fn args = some r) : CallsV P f args r := by
  intro w M vs hM hargs
  unfold vfunc at hr
  split at hr
  · rename_i c hc
    rw [hc] at hok
    simp only at hok
    unfold vend at hr
    split at hr
    · cases hr
    · rename_i x s hne hv
      split at hr
      · rename_i ds fr hres
        simp only [Option.some.injEq] at hr
        subst hr
        refine calls_of_wp hf hc ?_
        have hI : Inv fn.ntmps M w (fun _ => 0) (fun _ v => v < 0) (initSt args).t (initSt args).h { tmps := vs ++ Array.replicate (fn.ntmps - vs.size) undef, defers := [] } w := {
          below := Below.refl _ _
          mlt := hM
          defers := rfl
          tsz := by have := hargs.1; simp; omega
          slots := fun i => by
            simp only [initSt]
            by_cases hi : i < args.length
            · have h1 := hargs.2 i _ (List.getElem?_eq_getElem hi)
              have e1 : args.getD i .und = args[i] := by simp [List.getD, hi]
              have e2 : (vs ++ Array.replicate (fn.ntmps - vs.size) undef).getD i undef = vs.getD i undef := by
                have : i < vs.size := by rw [hargs.1]; exact hi
                simp [Array.getD_eq_getD_getElem?, Array.getElem?_append_left this]
              rw [e1, e2]
              exact RT_of_RP (h1.keep fun b k1 k2 => ⟨k1, fun hb => (by
                rcases hb with hb | ⟨x, r, hx, _⟩
                · exact k2 hb
                · cases hx), rfl⟩)
            · have e1 : args.getD i .und = .und := by simp [List.getD, List.getElem?_eq_none (Nat.le_of_not_lt hi)]
              rw [e1]
              trivial
          rows := fun x r hx => by cases hx
          inj := fun x y r s hx => by cases hx }
        refine vcode_sound hT hΓ hm c (initSt args) x s _ _ _ hv hok ⟨_, hI⟩ (fun a' w' hH => ?_)
        obtain ⟨blk', hI'⟩ := hH
        obtain ⟨v, hv1, hv2⟩ := run_results (P := P) hT hI' hres
        have hpost : a'.defers = [] ∧ ∃ v, (results fn a'.tmps).run P w' = .ok v w' ∧ Gives w M (resAll ds) (.returned v) w' := ⟨hI'.defers, v, hv1, v, rfl, hv2, hI'.below⟩
        cases x with
        | normal => exact hpost
        | ret => exact hpost
        | exit n => exact (hne n rfl).elim
      · cases hr
    · cases hr
  · cases hr

/-- The callees that are known, one more. -/
def ext (Γ : Nat → List D → Option D) (f : Nat) (G : List D → Option D) : Nat → List D → Option D := fun g as => if g = f then G as else Γ g as

theorem GOk.ext (hΓ : GOk P Γ) {f : Nat} {G : List D → Option D} (hG : ∀ as r, G as = some r → CallsV P f as r) (hc : Callable P f) : GOk P (Vm.ext Γ f G) := by
  intro g as r h
  unfold Vm.ext at h
  split at h
  · rename_i he; subst he; exact ⟨hG as r h, hc⟩
  · exact hΓ g as r h

theorem GOk.none : GOk P (fun _ _ => none) := fun f args r h => by cases h
end
end Go.Proofs.Ytcdckmfiknhiiaa.Vm
