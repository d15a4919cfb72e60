/- Plain laws of the words: whole numbers that fit, equal strings, elements, cuts. -/
import Derived.Test.YtdecgihkgpgejaaDoorCp
namespace Go.Proofs.YtdecgihkgpgejaaDoor.P
open Go.RowKit
set_option linter.unusedSimpArgs false
set_option linter.unusedVariables false

theorem wrap64 {x : Int} (h1 : -9223372036854775808 ≤ x) (h2 : x < 9223372036854775808) : IntKind.i64.wrap x = x := by
  have key : IntKind.i64.wrap x = if x % 18446744073709551616 ≥ 9223372036854775808 then x % 18446744073709551616 - 18446744073709551616 else x % 18446744073709551616 := by
    unfold IntKind.wrap
    by_cases h : x % 18446744073709551616 ≥ 9223372036854775808
    · rw [if_pos h]; exact if_pos (by simpa [IntKind.bits, IntKind.signed] using h)
    · rw [if_neg h]; exact if_neg (by simpa [IntKind.bits, IntKind.signed] using h)
  rw [key]
  split <;> omega

theorem ba_loop (b : ByteArray) : ∀ (n i : Nat) (r : List UInt8), b.size - i = n → ByteArray.toList.loop b i r = r.reverse ++ b.data.toList.drop i
  | 0, i, r, h => by
    rw [ByteArray.toList.loop]
    have hb : b.data.toList.length = b.size := Array.length_toList
    rw [if_neg (by omega), List.drop_eq_nil_of_le (by omega), List.append_nil]
  | n + 1, i, r, h => by
    rw [ByteArray.toList.loop]
    have hi : i < b.size := by omega
    have hb : i < b.data.toList.length := by rw [Array.length_toList]; exact hi
    rw [if_pos hi, ba_loop b n (i + 1) _ (by omega), List.drop_eq_getElem_cons hb]
    have hg : b.get! i = b.data.toList[i] := by
      have : b.get! i = b.data[i]! := rfl
      rw [this]
      have hd : i < b.data.size := by simpa using hb
      rw [getElem!_pos b.data i hd]
      exact (Array.getElem_toList hd).symm
    rw [hg]
    simp

theorem ba_toList (b : ByteArray) : b.toList = b.data.toList := by
  unfold ByteArray.toList
  rw [ba_loop b (b.size - 0) 0 [] rfl]
  simp

theorem ba_inj {a b : ByteArray} (h : a.toList = b.toList) : a = b := by
  rw [ba_toList, ba_toList] at h
  cases a; cases b
  simp only [ByteArray.mk.injEq]
  exact Array.ext' h

theorem str_beq {a b : ByteArray} : (a.toList == b.toList) = decide (a = b) := by
  by_cases h : a = b
  · subst h; simp
  · have : ¬ a.toList = b.toList := fun h' => h (ba_inj h')
    simp [h, this]

theorem ba_beq {a b : ByteArray} : (a == b) = decide (a = b) := by
  have e : (a == b) = (a.data == b.data) := by cases a; cases b; rfl
  rw [e]
  by_cases h : a = b
  · subst h; simp
  · have : ¬ a.data = b.data := fun h' => h (by cases a; cases b; simp only [ByteArray.mk.injEq]; exact h')
    simp [h, this]

theorem idx_some {α : Type} {l : List α} {i : Int} {x : α} (h0 : 0 ≤ i) (h : l[i.toNat]? = some x) : P.idx l i = some x := by
  have := (List.getElem?_eq_some_iff.1 h).1
  unfold P.idx
  rw [if_pos ⟨h0, by omega⟩, h]
theorem idx_get {α : Type} {l : List α} {i : Int} (h0 : 0 ≤ i) (h : i < l.length) : P.idx l i = some (l[i.toNat]'(by omega)) := idx_some h0 (List.getElem?_eq_getElem (by omega))
theorem idx_nat {α : Type} {l : List α} {i : Nat} (h : i < l.length) : P.idx l (i : Int) = some (l[i]) := idx_some (by omega) (by simp [h])
theorem slc_nat {α : Type} {l : List α} {i : Nat} (h : i ≤ l.length) : slc l 0 (i : Int) = some (l.take i) := by
  unfold slc
  rw [if_pos ⟨by omega, by omega, by omega⟩]
  simp
end Go.Proofs.YtdecgihkgpgejaaDoor.P
