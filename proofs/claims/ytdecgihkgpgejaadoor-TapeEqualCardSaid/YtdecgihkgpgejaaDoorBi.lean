/- Arguments opened, by the dictionaries. -/
import Derived.Test.YtdecgihkgpgejaaDoorBh
import Derived.Test.YtdecgihkgpgejaaDoorCc
namespace Go.Proofs.YtdecgihkgpgejaaDoor.Am
open Go.RowKit Go.Proofs.YtdecgihkgpgejaaDoor.P
set_option linter.unusedSimpArgs false
set_option linter.unusedVariables false

/-- Cells of the type are a plain value's that is well. -/
def OpE {α : Type} (T : Nat → Option Ty) (n t : Nat) (E : Enc α) (ok : α → Prop) : Prop := (∃ φ, T t = some φ ∧ φ.size = E.size) ∧ ∀ xs, TyD T n t xs → ∃ x, xs = E.cells x ∧ ok x

section
variable {T : Nat → Option Ty} {n t : Nat} {τ : Ty}
theorem opI {k : IntKind} (hτ : T t = some τ) (hd : τ.ds = .int k) (hs : τ.size = 1) : OpE T (n + 1) t (eI k) (fun i => (Lit.int k i).wf = true) := ⟨⟨τ, hτ, hs⟩, fun _ h => tyd_int h hτ hd⟩
theorem opBool (hτ : T t = some τ) (hd : τ.ds = .bool) (hs : τ.size = 1) : OpE T (n + 1) t eBool (fun _ => True) := ⟨⟨τ, hτ, hs⟩, fun _ h => by
  obtain ⟨b, hb⟩ := tyd_bool h hτ hd
  exact ⟨b, hb, trivial⟩⟩
theorem opStr (hτ : T t = some τ) (hd : τ.ds = .str) (hs : τ.size = 1) : OpE T (n + 1) t eStr (fun s => s.size ≤ 140737488351232) := ⟨⟨τ, hτ, hs⟩, fun _ h => tyd_str h hτ hd⟩

theorem encL_flat {α : Type} (E : Enc α) : ∀ l : List α, encL E l = (l.map E.cells).flatten
  | [] => rfl
  | x :: l => by rw [encL_cons, encL_flat E l]; rfl

theorem segsP {α : Type} (E : Enc α) (ok : α → Prop) : ∀ (len : Nat) (ys : List D), ys.length = len * E.size → (∀ i, i < len → ∃ x, (ys.drop (i * E.size)).take E.size = E.cells x ∧ ok x) → ∃ l : List α, l.length = len ∧ ys = encL E l ∧ ∀ x ∈ l, ok x
  | 0, ys, hl, _ => ⟨[], rfl, by simpa [encL] using hl, fun x hx => by simp at hx⟩
  | len + 1, ys, hl, h => by
    obtain ⟨x, hx, hok⟩ := h 0 (by omega)
    obtain ⟨l, h1, h2, h3⟩ := segsP E ok len (ys.drop E.size) (by rw [List.length_drop, hl, Nat.succ_mul]; omega) (fun i hi => by
      obtain ⟨y, hy, hy2⟩ := h (i + 1) (by omega)
      refine ⟨y, ?_, hy2⟩
      rw [List.drop_drop]
      rw [Nat.succ_mul, Nat.add_comm] at hy
      exact hy)
    rw [Nat.zero_mul, List.drop_zero] at hx
    refine ⟨x :: l, by simp [h1], ?_, fun y hy => ?_⟩
    · rw [encL_cons, ← h2, ← hx, List.take_append_drop]
    · rcases List.mem_cons.1 hy with rfl | hy
      · exact hok
      · exact h3 y hy

theorem opSl {α : Type} {E : Enc α} {ok : α → Prop} {e : Nat} (hτ : T t = some τ) (hd : τ.ds = .slice e) (hs : τ.size = 1) {B : Nat} (hB : (T e).map (·.bytes) = some B) (he : OpE T n e E ok) : OpE T (n + 1) t (eSl E) (fun l => l.length * B ≤ 140737488351232 ∧ ∀ x ∈ l, ok x) := by
  obtain ⟨⟨φ, hφ, hz⟩, hx⟩ := he
  have hb : φ.bytes = B := by rw [hφ] at hB; simpa using hB
  refine ⟨⟨τ, hτ, hs⟩, fun xs h => ?_⟩
  obtain ⟨len, ys, h1, h2, h3, h4⟩ := tyd_slice h hτ hd hφ
  rw [hz] at h3 h4
  rw [hb] at h2
  obtain ⟨l, k1, k2, k3⟩ := segsP E ok len ys h3 fun i hi => hx _ (h4 i hi)
  subst k1 k2
  exact ⟨l, h1, h2, k3⟩

/-- Fields, from o on. -/
def OpF {α : Type} (T : Nat → Option Ty) (n : Nat) (fs : List (Nat × Nat)) (o : Nat) (E : Enc α) (ok : α → Prop) : Prop :=
  ∀ xs : List D, xs.length = o + E.size → (∀ f ∈ fs, ∃ φ, T f.1 = some φ ∧ TyD T n f.1 ((xs.drop f.2).take φ.size)) → ∃ x, xs.drop o = E.cells x ∧ ok x

theorem opF1 {α : Type} {E : Enc α} {ok : α → Prop} {ft o : Nat} (h : OpE T n ft E ok) : OpF T n [(ft, o)] o E ok := by
  obtain ⟨⟨φ, hφ, hz⟩, hx⟩ := h
  intro xs hl hf
  obtain ⟨ψ, h1, h2⟩ := hf (ft, o) (by simp)
  cases hφ.symm.trans h1
  rw [List.take_of_length_le (by rw [List.length_drop]; omega)] at h2
  exact hx _ h2

theorem opFC {α β : Type} {E : Enc α} {ok : α → Prop} {E' : Enc β} {ok' : β → Prop} {ft o o' : Nat} {fs : List (Nat × Nat)} (h : OpE T n ft E ok) (ho : o' = o + E.size) (h' : OpF T n fs o' E' ok') : OpF T n ((ft, o) :: fs) o (ePair E E') (fun x => ok x.1 ∧ ok' x.2) := by
  subst ho
  obtain ⟨⟨φ, hφ, hz⟩, hx⟩ := h
  intro xs hl hf
  obtain ⟨ψ, h1, h2⟩ := hf (ft, o) (by simp)
  cases hφ.symm.trans h1
  obtain ⟨x, hx1, hx2⟩ := hx _ h2
  obtain ⟨y, hy1, hy2⟩ := h' xs (by rw [hl]; show o + (E.size + E'.size) = _; omega) fun f hf' => hf f (List.mem_cons_of_mem _ hf')
  refine ⟨(x, y), ?_, hx2, hy2⟩
  show xs.drop o = E.cells x ++ E'.cells y
  rw [← hx1, ← hy1, ← hz, ← List.drop_drop, List.take_append_drop]

theorem opS {α β : Type} {E : Enc β} {ok : β → Prop} {f : α → β} {hf : ∀ x y, f x = f y → x = y} {g : β → α} {fs : List (Nat × Nat)} (hτ : T t = some τ) (hd : τ.ds = .struct fs) (hs : τ.size = E.size) (hg : ∀ y, f (g y) = y) (h : OpF T n fs 0 E ok) : OpE T (n + 1) t (eVia E f hf) (fun x => ok (f x)) := by
  refine ⟨⟨τ, hτ, hs⟩, fun xs hx => ?_⟩
  obtain ⟨h1, h2⟩ := tyd_struct hx hτ hd
  obtain ⟨y, h3, h4⟩ := h xs (by rw [h1, hs, Nat.zero_add]) h2
  refine ⟨g y, ?_, ?_⟩
  · show xs = E.cells (f (g y))
    rw [hg, ← h3, List.drop_zero]
  · show ok (f (g y))
    rw [hg]; exact h4

/-- An argument is a plain value's that is well. -/
def OpA {α : Type} (T : Nat → Option Ty) (n t : Nat) (A : Arg α) (ok : α → Prop) : Prop := ∀ d, ArgD T n t d → ∃ x, d = A.d x ∧ ok x
theorem oaI {k : IntKind} (hτ : T t = some τ) (hd : τ.ds = .int k) : OpA T (n + 1) t (aI k) (fun i => (Lit.int k i).wf = true) := fun _ h => arg_int h hτ hd
theorem oaBool (hτ : T t = some τ) (hd : τ.ds = .bool) : OpA T (n + 1) t aBool (fun _ => True) := fun _ h => by
  obtain ⟨b, hb⟩ := arg_bool h hτ hd
  exact ⟨b, hb, trivial⟩
theorem oaStr (hτ : T t = some τ) (hd : τ.ds = .str) : OpA T (n + 1) t aStr (fun s => s.size ≤ 140737488351232) := fun _ h => arg_str h hτ hd
theorem oaSl {α : Type} {E : Enc α} {ok : List α → Prop} {e : Nat} (hτ : T t = some τ) (hd : τ.ds = .slice e) (hE : OpE T n t (eSl E) ok) : OpA T n t (aSl E) ok := fun d h => by
  obtain ⟨x, h1, h2⟩ := hE.2 _ (arg_slice h hτ hd)
  simp only [eSl_cells, List.cons.injEq, and_true] at h1
  exact ⟨x, h1, h2⟩
theorem oaS {α : Type} {E : Enc α} {ok : α → Prop} {fs : List (Nat × Nat)} (hτ : T t = some τ) (hd : τ.ds = .struct fs) (hE : OpE T n t E ok) : OpA T n t (aAgg E) ok := fun d h => by
  obtain ⟨xs, rfl, h1⟩ := arg_struct h hτ hd
  obtain ⟨x, h1, h2⟩ := hE.2 _ h1
  exact ⟨x, by rw [h1]; rfl, h2⟩

/-- Arguments in a row. -/
def OpAs {α : Type} (T : Nat → Option Ty) (n : Nat) (ts : List Nat) (A : Args α) (ok : α → Prop) : Prop := ∀ ar : List D, ar.length = ts.length → (∀ (j : Nat) u, ts[j]? = some u → ∃ x, ar[j]? = some x ∧ ArgD T n u x) → ∃ x, ar = A.ds x ∧ ok x
theorem oas1 {α : Type} {A : Arg α} {ok : α → Prop} (h : OpA T n t A ok) : OpAs T n [t] (as1 A) ok := fun ar hl hs => by
  obtain ⟨a, rfl, ha⟩ := args1 hl hs
  obtain ⟨x, rfl, hx⟩ := h a ha
  exact ⟨x, rfl, hx⟩
theorem oasC {α β : Type} {A : Arg α} {ok : α → Prop} {B : Args β} {ok' : β → Prop} {ts : List Nat} (h : OpA T n t A ok) (h' : OpAs T n ts B ok') : OpAs T n (t :: ts) (asC A B) (fun x => ok x.1 ∧ ok' x.2) := fun ar hl hs => by
  obtain ⟨a, ar, rfl, ha, hl', hs'⟩ := argsC hl hs
  obtain ⟨x, rfl, hx⟩ := h a ha
  obtain ⟨y, rfl, hy⟩ := h' ar hl' hs'
  exact ⟨(x, y), rfl, hx, hy⟩

/-- A law that answers true of every well input does so in the model. -/
theorem law_of {P : Program} {f : FuncId} {α : Type} {A : Args α} {F : α → Option Bool} {ok : α → Prop} {ts : List Nat} (ho : OpAs T n ts A ok) (hG : COk P f (mkG A F (fun r => .clean (.bool r)))) (h : ∀ x, ok x → F x = some true) (ar : List D) (hl : ar.length = ts.length)
    (hs : ∀ (j : Nat) u, ts[j]? = some u → ∃ x, ar[j]? = some x ∧ ArgD T n u x) : CallsV P f ar (.bool true) := by
  obtain ⟨x, rfl, hx⟩ := ho ar hl hs
  refine hG.calls none _ _ none ?_
  rw [mkG_eq, h x hx]
  rfl
end
end Go.Proofs.YtdecgihkgpgejaaDoor.Am
