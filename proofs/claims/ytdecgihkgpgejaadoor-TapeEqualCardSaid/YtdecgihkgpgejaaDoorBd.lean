/- The memory-free machine, part 17: what code computes, told forwards (for reckoning with unknown data). -/
import Derived.Test.YtdecgihkgpgejaaDoorBc
namespace Go.Proofs.YtdecgihkgpgejaaDoor.Am
open Go.RowKit
set_option linter.unusedSimpArgs false
set_option linter.unusedVariables false

def obind {α : Type} (x : Option α) (K : α → Prop) : Prop :=
  match x with
  | some a => K a
  | none => False

/-- Two branches. -/
def br (b : Bool) (A B : Prop) : Prop := (b = true → A) ∧ (b = false → B)

/-- A test of the slot g, which holds d. -/
def wpD (d : D) (t : Nat → D) (g : Nat) (A B : (Nat → D) → Prop) : Prop :=
  match d with
  | .bool b => br b (A (upd t g (.bool b))) (B (upd t g (.bool b)))
  | _ => False

/-- The same of a guard: it may have been left out itself. -/
def wpS (d : D) (t : Nat → D) (g : Nat) (A B S : (Nat → D) → Prop) : Prop :=
  match d with
  | .skp => S t
  | d => wpD d t g A B
theorem wpS_bool {t : Nat → D} {g : Nat} {b : Bool} {A B S : (Nat → D) → Prop} : wpS (.bool b) t g A B S = br b (A (upd t g (.bool b))) (B (upd t g (.bool b))) := rfl

def wpG (ops : List Oper) (t : Nat → D) (gd : Option (Nat × Bool)) (A B : (Nat → D) → Prop) : Prop :=
  match gd with
  | none => A t
  | some (j, want) => obind ((ops[j]?).bind (·.dst)) fun g => wpS (t g) t g (if want then A else B) (if want then B else A) B

def wpE (T : Nat → Option Ty) (Γ : Env) (e : Nat) (o : Oper) (t : Nat → D) (h : Nat → Option Row) (K : (Nat → D) → Eff → Prop) : Prop :=
  match o.op with
  | .pick (.tmp c) a b => wpD (t c) t c (fun t => K t ⟨ev t a, []⟩) (fun t => K t ⟨ev t b, []⟩)
  | _ => obind (eff T Γ e o (ev t) h) (K t)

/-- A region of which the order is fixed. -/
def runU (T : Nat → Option Ty) (Γ : Env) (N e : Nat) (ops : List Oper) : List Oper → (Nat → D) → (Nat → Option Row) → ((Nat → D) → (Nat → Option Row) → Prop) → Prop
  | [], t, h, K => K t h
  | o :: l, t, h, K => fits N o.dst = true ∧ wpG ops t o.guard (fun t => wpE T Γ e o t h fun t E => runU T Γ N e ops l (putT t o.dst E.val) (applyH h E.hw) K) (fun t => runU T Γ N e ops l (putT t o.dst .skp) h K)

/-- A region of which the order is drawn. -/
def runK (T : Nat → Option Ty) (Γ : Env) (N e : Nat) (ops : List Oper) : List Oper → (Nat → D) → (Nat → Option Row) → List Foot → ((Nat → D) → (Nat → Option Row) → List Foot → Prop) → Prop
  | [], t, h, fs, K => K t h fs
  | o :: l, t, h, fs, K => fits N o.dst = true ∧ wpG ops t o.guard (fun t => wpE T Γ e o t h fun t E => runK T Γ N e ops l (putT t o.dst E.val) (applyH h E.hw) (fs ++ [⟨touch o (ev t), E.hw.isEmpty⟩]) K) (fun t => runK T Γ N e ops l (putT t o.dst .skp) h (fs ++ [⟨[], true⟩]) K)

abbrev Kt := Ex → (Nat → D) → (Nat → Option Row) → Nat → Prop

def seqK (x : Ex) (A : Prop) (B : Prop) : Prop :=
  match x with
  | .normal => A
  | _ => B

def blkK (id : Nat) (x : Ex) (t : Nat → D) (h : Nat → Option Row) (e : Nat) (K : Kt) : Prop :=
  match x with
  | .exit n => if n = id then K .normal t h e else K (.exit n) t h e
  | x => K x t h e

def wpR (T : Nat → Option Ty) (Γ : Env) (N : Nat) (ops : Array Oper) (draw : Bool) (t : Nat → D) (h : Nat → Option Row) (e : Nat) (K : (Nat → D) → (Nat → Option Row) → Prop) : Prop :=
  match draw with
  | true => runK T Γ N e ops.toList ops.toList t h [] fun t h fs => dynOk ops fs = true ∧ K t h
  | false => runU T Γ N e ops.toList ops.toList t h K

def wpc (T : Nat → Option Ty) (Γ : Env) (N F : Nat) : Code → (Nat → D) → (Nat → Option Row) → Nat → Kt → Prop
  | .skip, t, h, e, K => K .normal t h e
  | .region _ ops draw, t, h, e, K => wpR T Γ N ops draw t h e fun t h => K .normal t h (e + 1)
  | .seq a b, t, h, e, K => wpc T Γ N F a t h e fun x t h e => seqK x (wpc T Γ N F b t h e K) (K x t h e)
  | .cond c x y, t, h, e, K =>
    match c with
    | .tmp g => wpD (t g) t g (fun t => wpc T Γ N F x t h e K) (fun t => wpc T Γ N F y t h e K)
    | .const (.bool true) => wpc T Γ N F x t h e K
    | .const (.bool false) => wpc T Γ N F y t h e K
    | _ => False
  | .block id b, t, h, e, K => wpc T Γ N F b t h e fun x t h e => blkK id x t h e K
  | .loop b, t, h, e, K => ∃ x s, iter (vcode T Γ N F b) F ⟨t, h, e⟩ = some (x, s) ∧ K x s.t s.h s.e
  | .exit id, t, h, e, K => K (.exit id) t h e
  | .ret, t, h, e, K => K .ret t h e
  | _, _, _, _, _ => False

def endK (mode : Mode) (T : Nat → Option Ty) (lent : Option (D × Row)) (rs : List ResultVar) (x : Ex) (t : Nat → D) (h : Nat → Option Row) (e : Nat) (r : RK × Option Row) : Prop :=
  match x with
  | .exit _ => False
  | _ => endM mode T lent rs ⟨t, h, e⟩ = some r

def wpf (mode : Mode) (T : Nat → Option Ty) (Γ : Env) (F : Nat) (fn : Func) (lent : Option (D × Row)) (args : List D) (r : RK × Option Row) : Prop :=
  obind fn.body fun c => wpc T Γ fn.ntmps F c (startSt lent args).t (startSt lent args).h (startSt lent args).e fun x t h e => endK mode T lent fn.results.toList x t h e r

theorem obind_some {α : Type} (a : α) (K : α → Prop) : obind (some a) K = K a := rfl

theorem obind_ex {α : Type} {x : Option α} {K : α → Prop} (h : obind x K) : ∃ a, x = some a ∧ K a := by
  cases x with
  | none => exact h.elim
  | some a => exact ⟨a, rfl, h⟩

theorem upd_id {t : Nat → D} {g : Nat} {d : D} (h : t g = d) : upd t g d = t := by
  funext j
  unfold upd
  split
  · rename_i e; subst e; exact h.symm
  · rfl

theorem br_true (A B : Prop) : br true A B = A := by simp [br]
theorem br_false (A B : Prop) : br false A B = B := by simp [br]
theorem br_intro {b : Bool} {A B : Prop} (h1 : b = true → A) (h2 : b = false → B) : br b A B := ⟨h1, h2⟩
theorem br_cond {b : Bool} {A B : Prop} (h : br b A B) : if b then A else B := by
  cases b with
  | true => exact h.1 rfl
  | false => exact h.2 rfl

theorem wpD_bool {t : Nat → D} {g : Nat} {b : Bool} {A B : (Nat → D) → Prop} : wpD (.bool b) t g A B = br b (A (upd t g (.bool b))) (B (upd t g (.bool b))) := rfl
theorem wpD_true {t : Nat → D} {g : Nat} {A B : (Nat → D) → Prop} (h : t g = .bool true) : wpD (.bool true) t g A B = A t := by simp [wpD, upd_id h, br_true]
theorem wpD_false {t : Nat → D} {g : Nat} {A B : (Nat → D) → Prop} (h : t g = .bool false) : wpD (.bool false) t g A B = B t := by simp [wpD, upd_id h, br_false]

theorem wpS_true {t : Nat → D} {g : Nat} {A B S : (Nat → D) → Prop} (h : t g = .bool true) : wpS (.bool true) t g A B S = A t := wpD_true h
theorem wpS_false {t : Nat → D} {g : Nat} {A B S : (Nat → D) → Prop} (h : t g = .bool false) : wpS (.bool false) t g A B S = B t := wpD_false h
theorem wpD_ex {t : Nat → D} {g : Nat} {A B : (Nat → D) → Prop} (h : wpD (t g) t g A B) : ∃ b, t g = .bool b ∧ (if b then A t else B t) := by
  unfold wpD at h
  split at h
  · rename_i b hb
    rw [upd_id hb] at h
    exact ⟨b, hb, br_cond h⟩
  · exact h.elim

section
variable {T : Nat → Option Ty} {Γ : Env} {N F e : Nat}

theorem wpG_ex {ops : Array Oper} {t : Nat → D} {o : Oper} {A B : (Nat → D) → Prop} (h : wpG ops.toList t o.guard A B) : ∃ b, guardB ops t o = some b ∧ (if b then A t else B t) := by
  unfold wpG at h
  unfold guardB
  split at h
  · rename_i hg
    rw [hg]
    exact ⟨true, rfl, by simpa using h⟩
  · rename_i j want hg
    rw [hg]
    obtain ⟨g, h1, h2⟩ := obind_ex h
    rw [Array.getElem?_toList] at h1
    unfold wpS at h2
    split at h2
    · rename_i hs
      simp only [h1, hs]
      exact ⟨false, rfl, h2⟩
    · obtain ⟨b, h3, h4⟩ := wpD_ex h2
      simp only [h1, h3]
      refine ⟨_, rfl, ?_⟩
      cases b <;> cases want <;> simpa using h4

theorem wpE_ex {o : Oper} {t : Nat → D} {h : Nat → Option Row} {K : (Nat → D) → Eff → Prop} (hw : wpE T Γ e o t h K) : ∃ E, eff T Γ e o (ev t) h = some E ∧ K t E := by
  unfold wpE at hw
  split at hw
  · rename_i c a b ho
    obtain ⟨v, h1, h2⟩ := wpD_ex hw
    cases v with
    | true => exact ⟨⟨ev t a, []⟩, by unfold eff; rw [ho]; simp only [ev, h1], by simpa only [if_true] using h2⟩
    | false => exact ⟨⟨ev t b, []⟩, by unfold eff; rw [ho]; simp only [ev, h1], by simpa only [Bool.false_eq_true, if_false] using h2⟩
  · obtain ⟨E, h1, h2⟩ := obind_ex hw
    exact ⟨E, h1, h2⟩

theorem runU_ex {ops : Array Oper} {K : (Nat → D) → (Nat → Option Row) → Prop} : ∀ (l : List Oper) (t : Nat → D) (h : Nat → Option Row), runU T Γ N e ops.toList l t h K → ∃ t' h' fs, runL T Γ N e ops l t h = some (t', h', fs) ∧ K t' h'
  | [], t, h, hk => ⟨t, h, [], rfl, hk⟩
  | o :: l, t, h, hk => by
    unfold runU at hk
    obtain ⟨hf, hg⟩ := hk
    obtain ⟨b, h1, h2⟩ := wpG_ex hg
    unfold runL step1
    rw [if_pos hf, h1]
    cases b with
    | true =>
      obtain ⟨E, h3, h4⟩ := wpE_ex (by simpa using h2)
      obtain ⟨t', h', fs, h5, h6⟩ := runU_ex l _ _ h4
      simp only [h3, h5]
      exact ⟨_, _, _, rfl, h6⟩
    | false =>
      obtain ⟨t', h', fs, h5, h6⟩ := runU_ex l _ _ (by simpa using h2)
      simp only [h5]
      exact ⟨_, _, _, rfl, h6⟩

theorem runK_ex {ops : Array Oper} {K : (Nat → D) → (Nat → Option Row) → List Foot → Prop} : ∀ (l : List Oper) (t : Nat → D) (h : Nat → Option Row) (f0 : List Foot), runK T Γ N e ops.toList l t h f0 K → ∃ t' h' fs, runL T Γ N e ops l t h = some (t', h', fs) ∧ K t' h' (f0 ++ fs)
  | [], t, h, f0, hk => ⟨t, h, [], rfl, by unfold runK at hk; simpa using hk⟩
  | o :: l, t, h, f0, hk => by
    unfold runK at hk
    obtain ⟨hf, hg⟩ := hk
    obtain ⟨b, h1, h2⟩ := wpG_ex hg
    unfold runL step1
    rw [if_pos hf, h1]
    cases b with
    | true =>
      obtain ⟨E, h3, h4⟩ := wpE_ex (by simpa using h2)
      obtain ⟨t', h', fs, h5, h6⟩ := runK_ex l _ _ _ h4
      simp only [h3, h5]
      exact ⟨_, _, _, rfl, by simpa using h6⟩
    | false =>
      obtain ⟨t', h', fs, h5, h6⟩ := runK_ex l _ _ _ (by simpa using h2)
      simp only [h5]
      exact ⟨_, _, _, rfl, by simpa using h6⟩

theorem wpR_ex {ops : Array Oper} {draw : Bool} {t : Nat → D} {h : Nat → Option Row} {K : (Nat → D) → (Nat → Option Row) → Prop} (hk : wpR T Γ N ops draw t h e K) : ∃ t' h', vregion T Γ N ops draw ⟨t, h, e⟩ = some (.normal, ⟨t', h', e + 1⟩) ∧ K t' h' := by
  unfold vregion
  cases draw with
  | false =>
    obtain ⟨t', h', fs, h1, h2⟩ := runU_ex _ _ _ hk
    simp only [h1]
    exact ⟨t', h', by simp, h2⟩
  | true =>
    obtain ⟨t', h', fs, h1, h2, h3⟩ := runK_ex _ _ _ _ hk
    simp only [h1]
    exact ⟨t', h', by rw [List.nil_append] at h2; simp [h2], h3⟩

theorem wpc_ex : ∀ (c : Code) (t : Nat → D) (h : Nat → Option Row) (e : Nat) (K : Kt), wpc T Γ N F c t h e K → ∃ x s, vcode T Γ N F c ⟨t, h, e⟩ = some (x, s) ∧ K x s.t s.h s.e := by
  intro c
  induction c with
  | skip => intro t h e K hk; exact ⟨_, _, rfl, hk⟩
  | region i ops draw =>
    intro t h e K hk
    obtain ⟨t', h', h1, h2⟩ := wpR_ex hk
    exact ⟨_, _, h1, h2⟩
  | seq a b iha ihb =>
    intro t h e K hk
    obtain ⟨x, s, h1, h2⟩ := iha _ _ _ _ hk
    simp only [vcode, h1]
    cases x with
    | normal =>
      obtain ⟨x2, s2, h3, h4⟩ := ihb _ _ _ _ h2
      exact ⟨x2, s2, h3, h4⟩
    | exit n => exact ⟨_, _, rfl, h2⟩
    | ret => exact ⟨_, _, rfl, h2⟩
  | cond c x y ihx ihy =>
    intro t h e K hk
    unfold wpc at hk
    split at hk
    · rename_i g
      obtain ⟨b, h1, h2⟩ := wpD_ex hk
      simp only [vcode, ev, h1, vcond]
      cases b with
      | true => exact ihx _ _ _ _ (by simpa using h2)
      | false => exact ihy _ _ _ _ (by simpa using h2)
    · simpa only [vcode, ev, ofV, vcond, if_true] using ihx _ _ _ _ hk
    · simpa only [vcode, ev, ofV, vcond, Bool.false_eq_true, if_false] using ihy _ _ _ _ hk
    · exact hk.elim
  | block id b ih =>
    intro t h e K hk
    obtain ⟨x, s, h1, h2⟩ := ih _ _ _ _ hk
    simp only [vcode, h1]
    cases x with
    | normal => exact ⟨_, _, rfl, h2⟩
    | ret => exact ⟨_, _, rfl, h2⟩
    | exit n =>
      simp only [vblock]
      unfold blkK at h2
      simp only at h2
      split at h2
      · rename_i hn; rw [if_pos hn]; exact ⟨_, _, rfl, h2⟩
      · rename_i hn; rw [if_neg hn]; exact ⟨_, _, rfl, h2⟩
  | loop b ih => intro t h e K hk; exact hk
  | exit id => intro t h e K hk; exact ⟨_, _, rfl, hk⟩
  | ret => intro t h e K hk; exact ⟨_, _, rfl, hk⟩
  | _ => intro t h e K hk; exact hk.elim

theorem wpf_ex {mode : Mode} {fn : Func} {lent : Option (D × Row)} {args : List D} {r : RK × Option Row} (h : wpf mode T Γ F fn lent args r) : vfunc mode T Γ F fn lent args = some r := by
  obtain ⟨c, h1, h2⟩ := obind_ex h
  obtain ⟨x, s, h3, h4⟩ := wpc_ex _ _ _ _ _ h2
  unfold vfunc
  simp only [h1]
  have e0 : startSt lent args = ⟨(startSt lent args).t, (startSt lent args).h, (startSt lent args).e⟩ := rfl
  rw [e0, h3]
  unfold endK at h4
  split at h4
  · exact h4.elim
  · rename_i hx
    split
    · rename_i n _ he; cases he; exact (hx n rfl).elim
    · rename_i _ x' s' _ he
      cases he
      exact h4
    · rename_i he; cases he

/-- A loop: the relation I holds, with a number that goes down at every round. -/
theorem wpc_loop {b : Code} {K : Kt} (I : Nat → (Nat → D) → (Nat → Option Row) → Nat → Prop) (hstep : ∀ k t h e, I k t h e → wpc T Γ N F b t h e fun x t' h' e' => match x with
      | .normal => ∃ k', k' < k ∧ I k' t' h' e'
      | x => K x t' h' e') : ∀ (k n : Nat) (t : Nat → D) (h : Nat → Option Row) (e : Nat), I k t h e → k < n → ∃ x s, iter (vcode T Γ N F b) n ⟨t, h, e⟩ = some (x, s) ∧ K x s.t s.h s.e := by
  intro k n
  induction n generalizing k with
  | zero => intro t h e _ hk; omega
  | succ n ih =>
    intro t h e hI hk
    obtain ⟨x, s, h1, h2⟩ := wpc_ex _ _ _ _ _ (hstep k t h e hI)
    simp only [iter, h1]
    cases x with
    | normal =>
      obtain ⟨k', h3, h4⟩ := h2
      exact ih k' s.t s.h s.e h4 (by omega)
    | ret => exact ⟨_, _, rfl, h2⟩
    | exit n => exact ⟨_, _, rfl, h2⟩

/-- Code, from what it does with less known of what follows. -/
theorem wpc_mono {c : Code} {t : Nat → D} {h : Nat → Option Row} {e : Nat} {K K' : Kt} (hk : wpc T Γ N F c t h e K) (hm : ∀ x t h e, K x t h e → K' x t h e) : ∃ x s, vcode T Γ N F c ⟨t, h, e⟩ = some (x, s) ∧ K' x s.t s.h s.e := by
  obtain ⟨x, s, h1, h2⟩ := wpc_ex _ _ _ _ _ hk
  exact ⟨x, s, h1, hm _ _ _ _ h2⟩

/-! Names of the parts. -/
theorem upd_app {α : Type} (f : Nat → α) (i : Nat) (v : α) (j : Nat) : upd f i v j = if j = i then v else f j := Eq.trans rfl rfl

def argT (args : List D) (i : Nat) : D := args.getD i .und
theorem argT_nil (i : Nat) : argT [] i = .und := by simp [argT]
theorem argT_zero (d : D) (l : List D) : argT (d :: l) 0 = d := Eq.trans rfl rfl
theorem argT_succ (d : D) (l : List D) (i : Nat) : argT (d :: l) (i + 1) = argT l i := Eq.trans rfl rfl
def noRow (_ : Nat) : Option Row := none
theorem noRow_app (i : Nat) : noRow i = none := Eq.trans rfl rfl

end
end Go.Proofs.YtdecgihkgpgejaaDoor.Am
