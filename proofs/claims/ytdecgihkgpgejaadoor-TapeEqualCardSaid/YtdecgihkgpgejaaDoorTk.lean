/- The law TapeEqual: reckoned in the kernel. -/
import Derived.Test.YtdecgihkgpgejaaDoorTi
namespace Go.Proofs.YtdecgihkgpgejaaDoor.P
open Go.RowKit
set_option linter.unusedSimpArgs false
set_option linter.unusedVariables false
set_option maxRecDepth 100000

def manyI (t m : Nat) : Nat := min m t
/-- What the law asks at so many things and so many draws. -/
def eqCheck (t m : Nat) : Bool :=
  match loopL (l50_TapeEqual_L1 (t : Int) (m : Int)) (1, 2), loopL (l50_TapeEqual_L2 (t : Int) (m : Int)) (List.replicate (manyI t m) 0, true, List.replicate 128 0, []) with
  | some o, some (.inl (f, s)) => decide (0 < s.length) && s.all fun x => P.idx f x == some o
  | _, _ => false
theorem eq_all : ((List.range 8).all fun t => (List.range 4).all fun m => eqCheck t m) = true := by decide +kernel

theorem eq_good {t m : Nat} (h : eqCheck t m = true) : ∃ o f s, loopL (l50_TapeEqual_L1 (t : Int) (m : Int)) (1, 2) = some o ∧ loopL (l50_TapeEqual_L2 (t : Int) (m : Int)) (List.replicate (manyI t m) 0, true, List.replicate 128 0, []) = some (.inl (f, s)) ∧ 0 < s.length ∧ ∀ x ∈ s, P.idx f x = some o := by
  unfold eqCheck at h
  generalize loopL (l50_TapeEqual_L1 (t : Int) (m : Int)) (1, 2) = A at h ⊢
  generalize loopL (l50_TapeEqual_L2 (t : Int) (m : Int)) (List.replicate (manyI t m) 0, true, List.replicate 128 0, []) = B at h ⊢
  cases A with
  | none => cases h
  | some o =>
    cases B with
    | none => cases h
    | some r =>
      cases r with
      | inr b => cases h
      | inl q =>
        obtain ⟨f, s⟩ := q
        simp only [Bool.and_eq_true, decide_eq_true_eq, List.all_eq_true] at h
        exact ⟨o, f, s, rfl, rfl, h.1, fun x hx => eq_of_beq (h.2 x hx)⟩
theorem eq_at {t m : Nat} (ht : t < 8) (hm : m < 4) : eqCheck t m = true := by
  have := eq_all
  rw [List.all_eq_true] at this
  have h3 := this t (List.mem_range.2 ht)
  rw [List.all_eq_true] at h3
  exact h3 m (List.mem_range.2 hm)
theorem TapeEqual_eq (a0 a1 a2 : Int) (h0 : (Lit.int .u8 a0).wf = true) (h1 : (Lit.int .u8 a1).wf = true) (h2 : (Lit.int .u8 a2).wf = true) : l50_TapeEqual a0 a1 a2 = some true := by
  obtain ⟨t, ht, e1⟩ := mod_u8 (n := 8) (u8_range h0) (by omega)
  obtain ⟨m, hm, e2⟩ := mod_u8 (n := 4) (u8_range h1) (by omega)
  obtain ⟨o, f, s, ho, hs, hc1, hc2⟩ := eq_good (eq_at ht hm)
  have hmin : (if (m : Int) < (t : Int) then (m : Int) else (t : Int)) = ((manyI t m : Nat) : Int) := by
    unfold manyI
    split <;> omega
  have e1' : modI .i64 (IntKind.i64.wrap a0) 8 = some (t : Int) := e1
  have e2' : modI .i64 (IntKind.i64.wrap a1) 4 = some (m : Int) := e2
  have e3 : mkL 8 128 128 (0 : Int) = some (List.replicate 128 0) := mk_ok (k := 128) (by omega) (by omega)
  have e5 : mkL 8 ((manyI t m : Nat) : Int) ((manyI t m : Nat) : Int) (0 : Int) = some (List.replicate (manyI t m) 0) := mk_ok (by unfold manyI; omega) (by omega)
  obtain ⟨p, hp, e4⟩ := mod_u8 (n := s.length) (u8_range h2) hc1
  have hx := idx_of (List.getElem?_eq_getElem hp)
  have hy := hc2 _ (List.getElem_mem hp)
  have hlen : decide ((s.length : Int) > 0) = true := by simp; omega
  simp only [l50_TapeEqual, sane_eq, e1', e2', ho, hmin, e5, e3, hs, hlen, e4, hx, hy, Option.bind_some, if_true, beq_self_eq_true]
end Go.Proofs.YtdecgihkgpgejaaDoor.P
