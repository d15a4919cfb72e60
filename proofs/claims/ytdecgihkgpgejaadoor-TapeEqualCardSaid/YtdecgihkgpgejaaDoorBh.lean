/- The memory-free machine, part 21: shapes of arguments, opened. -/
import Derived.Test.YtdecgihkgpgejaaDoorBg
namespace Go.Proofs.YtdecgihkgpgejaaDoor.Am
open Go.RowKit
set_option linter.unusedSimpArgs false
set_option linter.unusedVariables false

/-- Segments of one size, each of them the cells of something: the whole is those of a list. -/
theorem segs {α : Type} (s : Nat) (enc : α → List D) : ∀ (len : Nat) (ys : List D), ys.length = len * s → (∀ i, i < len → ∃ x, (ys.drop (i * s)).take s = enc x) → ∃ l : List α, l.length = len ∧ ys = (l.map enc).flatten
  | 0, ys, h, _ => ⟨[], rfl, by rw [Nat.zero_mul] at h; rw [List.eq_nil_of_length_eq_zero h]; rfl⟩
  | len + 1, ys, h, hs => by
    obtain ⟨x, hx⟩ := hs 0 (by omega)
    rw [Nat.zero_mul, List.drop_zero] at hx
    obtain ⟨l, hl, he⟩ := segs s enc len (ys.drop s) (by rw [List.length_drop, h, Nat.succ_mul]; omega) (fun i hi => by
      obtain ⟨y, hy⟩ := hs (i + 1) (by omega)
      refine ⟨y, ?_⟩
      rw [List.drop_drop, ← hy, Nat.succ_mul, Nat.add_comm])
    refine ⟨x :: l, by simp [hl], ?_⟩
    rw [List.map_cons, List.flatten_cons, ← he, ← hx, List.take_append_drop]

/-- The arguments, one by one. -/
theorem args1 {T : Nat → Option Ty} {n t : Nat} {ar : List D} (h : ar.length = [t].length) (hs : ∀ (j : Nat) u, [t][j]? = some u → ∃ x, ar[j]? = some x ∧ ArgD T n u x) : ∃ a, ar = [a] ∧ ArgD T n t a := by
  match ar, h with
  | [a], _ => obtain ⟨x, h1, h2⟩ := hs 0 t rfl; cases h1; exact ⟨a, rfl, h2⟩

theorem argsC {T : Nat → Option Ty} {n t : Nat} {ts : List Nat} {ar : List D} (h : ar.length = (t :: ts).length) (hs : ∀ (j : Nat) u, (t :: ts)[j]? = some u → ∃ x, ar[j]? = some x ∧ ArgD T n u x) :
    ∃ a as, ar = a :: as ∧ ArgD T n t a ∧ as.length = ts.length ∧ ∀ (j : Nat) u, ts[j]? = some u → ∃ x, as[j]? = some x ∧ ArgD T n u x := by
  match ar, h with
  | a :: as, h =>
    obtain ⟨x, h1, h2⟩ := hs 0 t rfl
    cases h1
    exact ⟨a, as, rfl, h2, by simpa using h, fun j u hu => by simpa using hs (j + 1) u (by simpa using hu)⟩

section
variable {T : Nat → Option Ty} {n t : Nat} {τ : Ty} {d : D}
theorem arg_int {k : IntKind} (h : ArgD T (n + 1) t d) (hτ : T t = some τ) (hd : τ.ds = .int k) : ∃ i, d = .int k i ∧ (Lit.int k i).wf = true := by
  simp only [ArgD, hτ, hd, Ds.isA, Bool.false_eq_true, if_false, TyD] at h
  obtain ⟨_, i, hi, hw⟩ := h
  cases hi
  exact ⟨i, rfl, hw⟩
theorem arg_bool (h : ArgD T (n + 1) t d) (hτ : T t = some τ) (hd : τ.ds = .bool) : ∃ i, d = .bool i := by
  simp only [ArgD, hτ, hd, Ds.isA, Bool.false_eq_true, if_false, TyD] at h
  obtain ⟨_, i, hi⟩ := h
  cases hi
  exact ⟨i, rfl⟩
theorem arg_str (h : ArgD T (n + 1) t d) (hτ : T t = some τ) (hd : τ.ds = .str) : ∃ s : ByteArray, d = .str s ∧ s.size ≤ 140737488351232 := by
  simp only [ArgD, hτ, hd, Ds.isA, Bool.false_eq_true, if_false, TyD] at h
  obtain ⟨_, i, hi, hs⟩ := h
  cases hi
  exact ⟨i, rfl, hs⟩
theorem arg_struct {fs : List (Nat × Nat)} (h : ArgD T n t d) (hτ : T t = some τ) (hd : τ.ds = .struct fs) : ∃ xs, d = .agg xs ∧ TyD T n t xs := by
  simp only [ArgD, hτ, hd, Ds.isA, if_true] at h
  exact h
theorem arg_slice {e : Nat} (h : ArgD T n t d) (hτ : T t = some τ) (hd : τ.ds = .slice e) : TyD T n t [d] := by
  simp only [ArgD, hτ, hd, Ds.isA, Bool.false_eq_true, if_false] at h
  exact h
theorem tyd_int {k : IntKind} {xs : List D} (h : TyD T (n + 1) t xs) (hτ : T t = some τ) (hd : τ.ds = .int k) : ∃ i, xs = [.int k i] ∧ (Lit.int k i).wf = true := by
  simp only [TyD, hτ, hd] at h
  exact h.2
theorem tyd_bool {xs : List D} (h : TyD T (n + 1) t xs) (hτ : T t = some τ) (hd : τ.ds = .bool) : ∃ i, xs = [.bool i] := by
  simp only [TyD, hτ, hd] at h
  exact h.2
theorem tyd_str {xs : List D} (h : TyD T (n + 1) t xs) (hτ : T t = some τ) (hd : τ.ds = .str) : ∃ s : ByteArray, xs = [.str s] ∧ s.size ≤ 140737488351232 := by
  simp only [TyD, hτ, hd] at h
  exact h.2
theorem tyd_slice {e : Nat} {φ : Ty} {xs : List D} (h : TyD T (n + 1) t xs) (hτ : T t = some τ) (hd : τ.ds = .slice e) (hφ : T e = some φ) :
    ∃ len ys, xs = [.sl false false len ys] ∧ len * φ.bytes ≤ 140737488351232 ∧ ys.length = len * φ.size ∧ ∀ i, i < len → TyD T n e ((ys.drop (i * φ.size)).take φ.size) := by
  simp only [TyD, hτ, hd] at h
  obtain ⟨_, len, ys, ψ, h1, h3, h4, h5, h6⟩ := h
  rw [hφ] at h4
  cases h4
  exact ⟨len, ys, h1, h3, h5, h6⟩
theorem tyd_struct {fs : List (Nat × Nat)} {xs : List D} (h : TyD T (n + 1) t xs) (hτ : T t = some τ) (hd : τ.ds = .struct fs) : xs.length = τ.size ∧ ∀ f ∈ fs, ∃ φ, T f.1 = some φ ∧ TyD T n f.1 ((xs.drop f.2).take φ.size) := by
  simp only [TyD, hτ, hd] at h
  exact h
theorem tyd_field {fs : List (Nat × Nat)} {xs : List D} {f o : Nat} {φ : Ty} (h : ∀ f ∈ fs, ∃ φ, T f.1 = some φ ∧ TyD T n f.1 ((xs.drop f.2).take φ.size)) (hm : (f, o) ∈ fs) (hφ : T f = some φ) : TyD T n f ((xs.drop o).take φ.size) := by
  obtain ⟨ψ, h1, h2⟩ := h _ hm
  simp only at h1 h2
  rw [hφ] at h1
  cases h1
  exact h2
end
end Go.Proofs.YtdecgihkgpgejaaDoor.Am
