/- Plain values and the machine's data; what a contract of a plain function says; loops alike. -/
import Derived.Test.YtdecgihkgpgejaaDoorBe
import Derived.Test.YtdecgihkgpgejaaDoorCp
namespace Go.Proofs.YtdecgihkgpgejaaDoor.Am
open Go.RowKit Go.Proofs.YtdecgihkgpgejaaDoor.P
set_option linter.unusedSimpArgs false
set_option linter.unusedVariables false

/-- How a plain value lies in cells. -/
structure Enc (α : Type) where
  cells : α → List D
  size : Nat
  len : ∀ x, (cells x).length = size
  pos : 0 < size
  inj : ∀ x y, cells x = cells y → x = y

def encL {α : Type} (e : Enc α) : List α → List D
  | [] => []
  | x :: l => e.cells x ++ encL e l

section
variable {α β : Type} (e : Enc α)
theorem encL_nil : encL e [] = [] := rfl
theorem encL_cons (x : α) (l : List α) : encL e (x :: l) = e.cells x ++ encL e l := rfl
theorem encL_append : ∀ l m : List α, encL e (l ++ m) = encL e l ++ encL e m
  | [], m => rfl
  | x :: l, m => by rw [List.cons_append, encL_cons, encL_cons, encL_append l m, List.append_assoc]
theorem encL_len : ∀ l : List α, (encL e l).length = l.length * e.size
  | [] => by simp [encL]
  | x :: l => by rw [encL_cons, List.length_append, encL_len l, e.len, List.length_cons, Nat.succ_mul]; omega
theorem encL_drop : ∀ (l : List α) (i : Nat), (encL e l).drop (i * e.size) = encL e (l.drop i)
  | l, 0 => by simp
  | [], i + 1 => by simp [encL]
  | x :: l, i + 1 => by
    rw [encL_cons, List.drop_succ_cons, ← encL_drop l i, List.drop_append, e.len, List.drop_eq_nil_of_le (by rw [e.len, Nat.succ_mul]; omega), List.nil_append]
    congr 1
    rw [Nat.succ_mul]; omega
theorem encL_take : ∀ (l : List α) (i : Nat), (encL e l).take (i * e.size) = encL e (l.take i)
  | l, 0 => by simp [encL]
  | [], i + 1 => by simp [encL]
  | x :: l, i + 1 => by
    rw [encL_cons, List.take_succ_cons, encL_cons, List.take_append, e.len, List.take_of_length_le (by rw [e.len, Nat.succ_mul]; omega), ← encL_take l i]
    congr 2
    rw [Nat.succ_mul]; omega
theorem encL_inj : ∀ l m : List α, encL e l = encL e m → l = m
  | [], [], _ => rfl
  | [], y :: m, h => by
    have := congrArg List.length h
    have hp := e.pos
    rw [encL_cons, List.length_append, e.len] at this
    simp [encL] at this
    omega
  | x :: l, [], h => by
    have := congrArg List.length h
    have hp := e.pos
    rw [encL_cons, List.length_append, e.len] at this
    simp [encL] at this
    omega
  | x :: l, y :: m, h => by
    rw [encL_cons, encL_cons] at h
    obtain ⟨h1, h2⟩ := List.append_inj h (by rw [e.len, e.len])
    rw [e.inj _ _ h1, encL_inj l m h2]
theorem encL_rep : ∀ (n : Nat) (x : α), repD n (e.cells x) = encL e (List.replicate n x)
  | 0, x => by simp [repD, encL]
  | n + 1, x => by rw [List.replicate_succ, encL_cons, ← encL_rep n x]; simp [repD, List.replicate_succ]
end

def eI (k : IntKind) : Enc Int := ⟨fun n => [.int k n], 1, fun _ => rfl, by decide, fun x y h => by simpa using h⟩
def eBool : Enc Bool := ⟨fun n => [.bool n], 1, fun _ => rfl, by decide, fun x y h => by simpa using h⟩
def eStr : Enc ByteArray := ⟨fun n => [.str n], 1, fun _ => rfl, by decide, fun x y h => by simpa using h⟩
def eSl {α : Type} (e : Enc α) : Enc (List α) := ⟨fun l => [.sl false false l.length (encL e l)], 1, fun _ => rfl, by decide, fun x y h => by
  simp only [List.cons.injEq, D.sl.injEq, true_and, and_true] at h
  exact encL_inj e _ _ h.2⟩
def ePair {α β : Type} (e : Enc α) (f : Enc β) : Enc (α × β) := ⟨fun x => e.cells x.1 ++ f.cells x.2, e.size + f.size, fun x => by rw [List.length_append, e.len, f.len], Nat.lt_of_lt_of_le e.pos (Nat.le_add_right _ _), fun x y h => by
  obtain ⟨h1, h2⟩ := List.append_inj h (by rw [e.len, e.len])
  exact Prod.ext (e.inj _ _ h1) (f.inj _ _ h2)⟩
def eVia {α β : Type} (e : Enc β) (f : α → β) (hf : ∀ x y, f x = f y → x = y) : Enc α := ⟨fun x => e.cells (f x), e.size, fun x => e.len _, e.pos, fun x y h => hf _ _ (e.inj _ _ h)⟩

/-- How a plain value is an argument, or a result. -/
structure Arg (α : Type) where
  d : α → D
  inj : ∀ x y, d x = d y → x = y
def aI (k : IntKind) : Arg Int := ⟨fun n => .int k n, fun x y h => by simpa using h⟩
def aBool : Arg Bool := ⟨fun n => .bool n, fun x y h => by simpa using h⟩
def aStr : Arg ByteArray := ⟨fun n => .str n, fun x y h => by simpa using h⟩
def aSl {α : Type} (e : Enc α) : Arg (List α) := ⟨fun l => .sl false false l.length (encL e l), fun x y h => by
  simp only [D.sl.injEq, true_and] at h
  exact encL_inj e _ _ h.2⟩
def aAgg {α : Type} (e : Enc α) : Arg α := ⟨fun x => .agg (e.cells x), fun x y h => e.inj _ _ (by simpa using h)⟩
theorem aI_d (k : IntKind) (n : Int) : (aI k).d n = .int k n := Eq.trans rfl rfl
theorem aBool_d (n : Bool) : aBool.d n = .bool n := Eq.trans rfl rfl
theorem aStr_d (n : ByteArray) : aStr.d n = .str n := Eq.trans rfl rfl
theorem aSl_d {α : Type} (e : Enc α) (l : List α) : (aSl e).d l = .sl false false l.length (encL e l) := Eq.trans rfl rfl
theorem aAgg_d {α : Type} (e : Enc α) (x : α) : (aAgg e).d x = .agg (e.cells x) := Eq.trans rfl rfl
theorem eI_cells (k : IntKind) (n : Int) : (eI k).cells n = [.int k n] := Eq.trans rfl rfl
theorem eBool_cells (n : Bool) : eBool.cells n = [.bool n] := Eq.trans rfl rfl
theorem eStr_cells (n : ByteArray) : eStr.cells n = [.str n] := Eq.trans rfl rfl
theorem eSl_cells {α : Type} (e : Enc α) (l : List α) : (eSl e).cells l = [.sl false false l.length (encL e l)] := Eq.trans rfl rfl

/-- Arguments in a row. -/
structure Args (α : Type) where
  ds : α → List D
  inj : ∀ x y, ds x = ds y → x = y
def as0 : Args Unit := ⟨fun _ => [], fun _ _ _ => rfl⟩
def as1 {α : Type} (a : Arg α) : Args α := ⟨fun x => [a.d x], fun x y h => a.inj _ _ (by simpa using h)⟩
def asC {α β : Type} (a : Arg α) (b : Args β) : Args (α × β) := ⟨fun x => a.d x.1 :: b.ds x.2, fun x y h => by
  simp only [List.cons.injEq] at h
  exact Prod.ext (a.inj _ _ h.1) (b.inj _ _ h.2)⟩

/-- The contract of a plain function. -/
noncomputable def mkG {α β : Type} (A : Args α) (F : α → Option β) (R : β → RK) : Option (D × Row) → List D → Option (RK × Option Row) := fun lent ds =>
  match lent with
  | none => open Classical in if h : ∃ a, A.ds a = ds then (F (Classical.choose h)).map fun r => (R r, none) else none
  | some _ => none
theorem mkG_eq {α β : Type} (A : Args α) (F : α → Option β) (R : β → RK) (a : α) : mkG A F R none (A.ds a) = (F a).map fun r => (R r, none) := by
  have h : ∃ b, A.ds b = A.ds a := ⟨a, rfl⟩
  simp only [mkG]
  rw [dif_pos h, A.inj _ _ (Classical.choose_spec h)]
theorem mkG_some {α β : Type} {A : Args α} {F : α → Option β} {R : β → RK} {lent : Option (D × Row)} {ds : List D} {rk : RK} {out : Option Row} (h : mkG A F R lent ds = some (rk, out)) : lent = none ∧ out = none ∧ ∃ a r, ds = A.ds a ∧ F a = some r ∧ rk = R r := by
  unfold mkG at h
  split at h
  · split at h
    · rename_i he
      rw [Option.map_eq_some_iff] at h
      obtain ⟨r, h1, h2⟩ := h
      simp only [Prod.mk.injEq] at h2
      obtain ⟨rfl, rfl⟩ := h2
      exact ⟨rfl, rfl, _, r, (Classical.choose_spec he).symm, h1, rfl⟩
    · cases h
  · cases h

/-- What is shown of a function of the program. -/
structure COk (P : Program) (f : FuncId) (G : Option (D × Row) → List D → Option (RK × Option Row)) : Prop where
  calls : ∀ lent as rk out, G lent as = some (rk, out) → CallsR P f lent as rk out
  callable : Callable P f

theorem COk.of {P : Program} {T : Nat → Option Ty} {Γ : Env} (hT : TOk P T) (hΓ : GOk P Γ) (hm : P.follows .mixedOrders = true) {α β : Type} {A : Args α} {F : α → Option β} {R : β → RK} {mode : Mode} {f : FuncId} {fn : Func} (hf : P.funcs[f]? = some fn) (hok : (match fn.body with | some c => codeOk c | none => true) = true)
    (hc : (fn.name == "runtime.NumGoroutine") = false ∧ fn.body.isNone = false) (hn : ∀ a, (A.ds a).length ≤ fn.ntmps) (h : ∀ a r, F a = some r → vfunc mode T Γ FU fn none (A.ds a) = some (R r, none)) : COk P f (mkG A F R) where
  calls lent as rk out hg := by
    obtain ⟨rfl, rfl, a, r, rfl, hr, rfl⟩ := mkG_some hg
    exact vfunc_sound hT hΓ hm hf hok (hn a) rfl (h a r hr)
  callable := ⟨fn, hf, hc⟩

theorem GOk.add {P : Program} {Γ : Env} (hΓ : GOk P Γ) {f : Nat} {G : Option (D × Row) → List D → Option (RK × Option Row)} (h : COk P f G) (l : Bool) : GOk P (Am.ext Γ f l G) := hΓ.ext h.calls h.callable

/-! Loops alike. -/
section
variable {T : Nat → Option Ty} {Γ : Env} {N e : Nat} {ws : List W} {Q : Kt} {t : Nat → D} {h : Nat → Option Row}

/-- What a round comes to: the next round's state, or the end's. -/
def LK {σ ρ : Type} (Rel : σ → (Nat → D) → (Nat → Option Row) → Nat → Prop) (RelX : ρ → Ex → (Nat → D) → (Nat → Option Row) → Nat → Prop) (c : σ ⊕ ρ) : Kt := fun x t h e =>
  match x with
  | .normal => ∃ s', c = .inl s' ∧ Rel s' t h e
  | x => ∃ o, c = .inr o ∧ RelX o x t h e
theorem LK_normal {σ ρ : Type} {Rel : σ → (Nat → D) → (Nat → Option Row) → Nat → Prop} {RelX : ρ → Ex → (Nat → D) → (Nat → Option Row) → Nat → Prop} {c : σ ⊕ ρ} : LK Rel RelX c .normal t h e = ∃ s', c = .inl s' ∧ Rel s' t h e := Eq.trans rfl rfl
theorem LK_exit {σ ρ : Type} {Rel : σ → (Nat → D) → (Nat → Option Row) → Nat → Prop} {RelX : ρ → Ex → (Nat → D) → (Nat → Option Row) → Nat → Prop} {c : σ ⊕ ρ} {n : Nat} : LK Rel RelX c (.exit n) t h e = ∃ o, c = .inr o ∧ RelX o (.exit n) t h e := Eq.trans rfl rfl
theorem LK_ret {σ ρ : Type} {Rel : σ → (Nat → D) → (Nat → Option Row) → Nat → Prop} {RelX : ρ → Ex → (Nat → D) → (Nat → Option Row) → Nat → Prop} {c : σ ⊕ ρ} : LK Rel RelX c .ret t h e = ∃ o, c = .inr o ∧ RelX o .ret t h e := Eq.trans rfl rfl

theorem runLoop_sim {σ ρ : Type} {body : σ → Option (σ ⊕ ρ)} {b : Code} (Rel : σ → (Nat → D) → (Nat → Option Row) → Nat → Prop) (RelX : ρ → Ex → (Nat → D) → (Nat → Option Row) → Nat → Prop) {s0 : σ} {out : ρ} (hL : loopL body s0 = some out) (h0 : Rel s0 t h e)
    (hstep : ∀ s t h e, Rel s t h e → ∀ c, body s = some c → runW T Γ N FU [.code b] (LK Rel RelX c) .normal t h e)
    (hexit : ∀ x t h e, RelX out x t h e → runW T Γ N FU ws Q x t h e) : runLoop T Γ N FU b ws Q t h e := by
  have key : ∀ (n : Nat) (s : σ) (t : Nat → D) (h : Nat → Option Row) (e : Nat), Rel s t h e → iterL body n s = some out → ∃ x s', iter (vcode T Γ N FU b) n ⟨t, h, e⟩ = some (x, s') ∧ runW T Γ N FU ws Q x s'.t s'.h s'.e := by
    intro n
    induction n with
    | zero => intro s t h e _ hi; cases hi
    | succ n ih =>
      intro s t h e hR hi
      simp only [iterL] at hi
      cases hb : body s with
      | none => rw [hb] at hi; cases hi
      | some c =>
        rw [hb] at hi
        obtain ⟨x, s1, h1, h2⟩ := wpc_ex _ _ _ _ _ (show wpc T Γ N FU b t h e (LK Rel RelX c) from hstep s t h e hR c hb)
        simp only [iter, h1]
        cases x with
        | normal =>
          obtain ⟨s', rfl, h4⟩ := h2
          exact ih s' s1.t s1.h s1.e h4 hi
        | exit m =>
          obtain ⟨o, rfl, h4⟩ := h2
          simp only [Option.some.injEq] at hi
          subst hi
          exact ⟨_, _, rfl, hexit _ _ _ _ h4⟩
        | ret =>
          obtain ⟨o, rfl, h4⟩ := h2
          simp only [Option.some.injEq] at hi
          subst hi
          exact ⟨_, _, rfl, hexit _ _ _ _ h4⟩
  exact key FU s0 t h e h0 hL

theorem wpD_mono {d : D} {g : Nat} {A B A' B' : (Nat → D) → Prop} (hk : wpD d t g A B) (h1 : ∀ t, A t → A' t) (h2 : ∀ t, B t → B' t) : wpD d t g A' B' := by
  cases d with
  | bool b => exact ⟨fun hb => h1 _ (hk.1 hb), fun hb => h2 _ (hk.2 hb)⟩
  | _ => exact hk
theorem wpS_mono {d : D} {g : Nat} {A B S A' B' S' : (Nat → D) → Prop} (hk : wpS d t g A B S) (h1 : ∀ t, A t → A' t) (h2 : ∀ t, B t → B' t) (h3 : ∀ t, S t → S' t) : wpS d t g A' B' S' := by
  unfold wpS at hk ⊢
  split at hk
  · exact h3 _ hk
  · exact wpD_mono hk h1 h2
theorem obind_mono {α : Type} {x : Option α} {K K' : α → Prop} (hk : obind x K) (h1 : ∀ a, K a → K' a) : obind x K' := by
  cases x with
  | none => exact hk
  | some a => exact h1 a hk
theorem wpG_mono {ops : List Oper} {gd : Option (Nat × Bool)} {A B A' B' : (Nat → D) → Prop} (hk : wpG ops t gd A B) (h1 : ∀ t, A t → A' t) (h2 : ∀ t, B t → B' t) : wpG ops t gd A' B' := by
  unfold wpG at hk ⊢
  split
  · exact h1 _ hk
  · rename_i j want
    refine obind_mono hk fun g hg => wpS_mono hg ?_ ?_ h2
    · intro t ht; cases want <;> simp_all
    · intro t ht; cases want <;> simp_all
theorem wpE_mono {o : Oper} {K K' : (Nat → D) → Eff → Prop} (hk : wpE T Γ e o t h K) (h1 : ∀ t E, K t E → K' t E) : wpE T Γ e o t h K' := by
  unfold wpE at hk ⊢
  split
  · rename_i ho
    rw [ho] at hk
    exact wpD_mono hk (fun _ h => h1 _ _ h) (fun _ h => h1 _ _ h)
  · rename_i hne
    split at hk
    · rename_i c a b ho; exact absurd ho (hne _ _ _)
    · exact obind_mono hk (fun _ h => h1 _ _ h)
theorem runU_mono {ops : List Oper} {K K' : (Nat → D) → (Nat → Option Row) → Prop} (h1 : ∀ t h, K t h → K' t h) : ∀ (l : List Oper) (t : Nat → D) (h : Nat → Option Row), runU T Γ N e ops l t h K → runU T Γ N e ops l t h K'
  | [], t, h, hk => h1 _ _ hk
  | o :: l, t, h, hk => by
    unfold runU at hk ⊢
    exact ⟨hk.1, wpG_mono hk.2 (fun t ht => wpE_mono ht fun t E hE => runU_mono h1 l _ _ hE) (fun t ht => runU_mono h1 l _ _ ht)⟩
theorem runK_mono {ops : List Oper} {K K' : (Nat → D) → (Nat → Option Row) → List Foot → Prop} (h1 : ∀ t h fs, K t h fs → K' t h fs) : ∀ (l : List Oper) (t : Nat → D) (h : Nat → Option Row) (fs : List Foot), runK T Γ N e ops l t h fs K → runK T Γ N e ops l t h fs K'
  | [], t, h, fs, hk => h1 _ _ _ hk
  | o :: l, t, h, fs, hk => by
    unfold runK at hk ⊢
    exact ⟨hk.1, wpG_mono hk.2 (fun t ht => wpE_mono ht fun t E hE => runK_mono h1 l _ _ _ hE) (fun t ht => runK_mono h1 l _ _ _ ht)⟩
theorem wpR_mono {ops : Array Oper} {draw : Bool} {K K' : (Nat → D) → (Nat → Option Row) → Prop} (hk : wpR T Γ N ops draw t h e K) (h1 : ∀ t h, K t h → K' t h) : wpR T Γ N ops draw t h e K' := by
  unfold wpR at hk ⊢
  cases draw with
  | true => exact runK_mono (fun t h fs hh => ⟨hh.1, h1 _ _ hh.2⟩) _ _ _ _ hk
  | false => exact runU_mono h1 _ _ _ hk
theorem wpc_monoK {F : Nat} : ∀ (c : Code) (t : Nat → D) (h : Nat → Option Row) (e : Nat) (K K' : Kt), wpc T Γ N F c t h e K → (∀ x t h e, K x t h e → K' x t h e) → wpc T Γ N F c t h e K' := by
  intro c
  induction c with
  | skip => intro t h e K K' hk hm; exact hm _ _ _ _ hk
  | region i ops draw => intro t h e K K' hk hm; exact wpR_mono hk fun t h hh => hm _ _ _ _ hh
  | seq a b iha ihb =>
    intro t h e K K' hk hm
    refine iha _ _ _ _ _ hk fun x t h e hx => ?_
    cases x with
    | normal => exact ihb _ _ _ _ _ hx hm
    | exit n => exact hm _ _ _ _ hx
    | ret => exact hm _ _ _ _ hx
  | cond c x y ihx ihy =>
    intro t h e K K' hk hm
    unfold wpc at hk ⊢
    cases c with
    | tmp g => exact wpD_mono hk (fun t ht => ihx _ _ _ _ _ ht hm) (fun t ht => ihy _ _ _ _ _ ht hm)
    | const v =>
      cases v with
      | bool b =>
        cases b with
        | true => exact ihx _ _ _ _ _ hk hm
        | false => exact ihy _ _ _ _ _ hk hm
      | _ => exact hk
    | _ => exact hk
  | block id b ih =>
    intro t h e K K' hk hm
    refine ih _ _ _ _ _ hk fun x t h e hx => ?_
    cases x with
    | normal => exact hm _ _ _ _ hx
    | ret => exact hm _ _ _ _ hx
    | exit n =>
      unfold blkK at hx ⊢
      simp only at hx ⊢
      split at hx
      · rename_i hn; rw [if_pos hn]; exact hm _ _ _ _ hx
      · rename_i hn; rw [if_neg hn]; exact hm _ _ _ _ hx
  | loop b ih =>
    intro t h e K K' hk hm
    obtain ⟨x, s, h1, h2⟩ := hk
    exact ⟨x, s, h1, hm _ _ _ _ h2⟩
  | exit id => intro t h e K K' hk hm; exact hm _ _ _ _ hk
  | ret => intro t h e K K' hk hm; exact hm _ _ _ _ hk
  | _ => intro t h e K K' hk; exact hk.elim

/-- What a piece of code comes to, before what follows: it ends at the cut, or leaves. -/
def CK {σ : Type} (J : σ → (Nat → D) → (Nat → Option Row) → Nat → Prop) (P : σ → Prop) (R : Kt) : Kt := fun x t h e =>
  match x with
  | .normal => ∃ s, P s ∧ J s t h e
  | x => R x t h e
theorem CK_normal {σ : Type} {J : σ → (Nat → D) → (Nat → Option Row) → Nat → Prop} {P : σ → Prop} {R : Kt} : CK J P R .normal t h e = ∃ s, P s ∧ J s t h e := Eq.trans rfl rfl
theorem CK_exit {σ : Type} {J : σ → (Nat → D) → (Nat → Option Row) → Nat → Prop} {P : σ → Prop} {R : Kt} {n : Nat} : CK J P R (.exit n) t h e = R (.exit n) t h e := Eq.trans rfl rfl
theorem CK_ret {σ : Type} {J : σ → (Nat → D) → (Nat → Option Row) → Nat → Prop} {P : σ → Prop} {R : Kt} : CK J P R .ret t h e = R .ret t h e := Eq.trans rfl rfl

/-- Ways meet again: a cut behind a piece of code. -/
theorem runW_cut {σ : Type} {c : Code} (J : σ → (Nat → D) → (Nat → Option Row) → Nat → Prop) (P : σ → Prop) (hrest : ∀ s t h e, P s → J s t h e → runW T Γ N FU ws Q .normal t h e)
    (hc : runW T Γ N FU [.code c] (CK J P (runW T Γ N FU ws Q)) .normal t h e) : runW T Γ N FU (.code c :: ws) Q .normal t h e := by
  refine wpc_monoK c t h e _ _ (show wpc T Γ N FU c t h e (CK J P (runW T Γ N FU ws Q)) from hc) fun x t h e hx => ?_
  cases x with
  | normal => obtain ⟨s, h1, h2⟩ := hx; exact hrest s t h e h1 h2
  | exit n => exact hx
  | ret => exact hx
end
end Go.Proofs.YtdecgihkgpgejaaDoor.Am
