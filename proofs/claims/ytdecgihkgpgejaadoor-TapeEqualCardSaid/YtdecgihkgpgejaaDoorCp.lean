/- Words for the programs' own texts as plain functions: loops, elements, cuts. -/
import GoSem.Claim
import Derived.RowKit
namespace Go.Proofs.YtdecgihkgpgejaaDoor.P
open Go.RowKit
set_option linter.unusedSimpArgs false
set_option linter.unusedVariables false

/-- How often a loop may go round: more often than any does. -/
def FU : Nat := 1000000000000000000000000

def iterL {σ ρ : Type} (body : σ → Option (σ ⊕ ρ)) : Nat → σ → Option ρ
  | 0, _ => none
  | n + 1, s =>
    match body s with
    | some (.inl s') => iterL body n s'
    | some (.inr r) => some r
    | none => none

def loopL {σ ρ : Type} (body : σ → Option (σ ⊕ ρ)) (s : σ) : Option ρ := iterL body FU s

theorem iterL_of {σ ρ : Type} {body : σ → Option (σ ⊕ ρ)} (I : σ → Prop) (μ : σ → Nat) (Q : ρ → Prop)
    (hstep : ∀ s, I s → (∃ s', body s = some (.inl s') ∧ I s' ∧ μ s' < μ s) ∨ (∃ r, body s = some (.inr r) ∧ Q r)) : ∀ (n : Nat) (s : σ), I s → μ s < n → ∃ r, iterL body n s = some r ∧ Q r := by
  intro n
  induction n with
  | zero => intro s _ h; omega
  | succ n ih =>
    intro s hI hμ
    rcases hstep s hI with ⟨s', h1, h2, h3⟩ | ⟨r, h1, h2⟩
    · obtain ⟨r, h4, h5⟩ := ih s' h2 (by omega)
      exact ⟨r, by simp only [iterL, h1]; exact h4, h5⟩
    · exact ⟨r, by simp only [iterL, h1], h2⟩

/-- A loop: a relation, a number that goes down, and what holds at the end. -/
theorem loopL_of {σ ρ : Type} {body : σ → Option (σ ⊕ ρ)} (I : σ → Prop) (μ : σ → Nat) (Q : ρ → Prop) {s : σ} (hI : I s) (hμ : μ s < FU)
    (hstep : ∀ s, I s → (∃ s', body s = some (.inl s') ∧ I s' ∧ μ s' < μ s) ∨ (∃ r, body s = some (.inr r) ∧ Q r)) : ∃ r, loopL body s = some r ∧ Q r := iterL_of I μ Q hstep FU s hI hμ

def idx {α : Type} (l : List α) (i : Int) : Option α := if 0 ≤ i ∧ i < l.length then l[i.toNat]? else none
def sidx (s : ByteArray) (i : Int) : Option Int := if 0 ≤ i then (s[i.toNat]?).map fun b => (b.toNat : Int) else none
def setL {α : Type} (l : List α) (i : Int) (x : α) : Option (List α) := if 0 ≤ i ∧ i < l.length then some (l.set i.toNat x) else none
/-- l[a:b] -/
def slc {α : Type} (l : List α) (a b : Int) : Option (List α) := if 0 ≤ a ∧ a ≤ b ∧ b ≤ l.length then some ((l.drop a.toNat).take (b.toNat - a.toNat)) else none
def sslc (s : ByteArray) (a b : Int) : Option ByteArray := if 0 ≤ a ∧ a ≤ b ∧ b ≤ s.size then some (s.extract a.toNat b.toNat) else none
/-- make, of elements of so many bytes -/
def mkL {α : Type} (bytes : Nat) (n c : Int) (z : α) : Option (List α) := if 0 ≤ n ∧ n ≤ c ∧ c ≤ maxLen ∧ c.toNat * bytes ≤ 140737488355328 then some (List.replicate n.toNat z) else none
def appL {α : Type} (bytes : Nat) (l m : List α) : Option (List α) := if l.length + m.length ≤ maxLen ∧ (l.length + m.length) * bytes ≤ 140737488355328 then some (l ++ m) else none
def catS (a b : ByteArray) : Option ByteArray := if ((a.size + b.size : Nat) : Int) > IntKind.i64.max then none else some (a ++ b)
def divI (k : IntKind) (x y : Int) : Option Int := if y = 0 then none else some (k.wrap (x.tdiv y))
def modI (_ : IntKind) (x y : Int) : Option Int := if y = 0 then none else some (x.tmod y)
def shlI (k : IntKind) (x y : Int) : Option Int := if y < 0 then none else some (k.wrap (x * 2 ^ (min y.toNat k.bits)))
def shrI (k : IntKind) (x y : Int) : Option Int := if y < 0 then none else some (x.fdiv (2 ^ (min y.toNat k.bits)))
def bitI (op : BinOp) (k : IntKind) (x y : Int) : Int :=
  let a := BitVec.ofInt k.bits x
  let b := BitVec.ofInt k.bits y
  match op with
  | .and => k.wrap (a &&& b).toNat
  | .or => k.wrap (a ||| b).toNat
  | .xor => k.wrap (a ^^^ b).toNat
  | _ => k.wrap (a &&& ~~~b).toNat

/-- A map: its entries, in the order in which they came. -/
def lookM {α : Type} (z : α) : List (Int × α) → Int → α
  | [], _ => z
  | (k, v) :: m, n => if k = n then v else lookM z m n
def hasM {α : Type} : List (Int × α) → Int → Bool
  | [], _ => false
  | (k, _) :: m, n => k == n || hasM m n
def putM {α : Type} : List (Int × α) → Int → α → List (Int × α)
  | [], n, v => [(n, v)]
  | (k, x) :: m, n, v => if k = n then (k, v) :: m else (k, x) :: putM m n v
/-- Sorted. -/
def sortI (l : List Int) : List Int := l.mergeSort fun x y => decide (x ≤ y)
theorem sortI_len (l : List Int) : (sortI l).length = l.length := List.length_mergeSort l
theorem sortI_nil : sortI [] = [] := by simp [sortI]
theorem bindS {α β : Type} {o : Option α} {f : α → Option β} {r : β} (h : o.bind f = some r) : ∃ a, o = some a ∧ f a = some r := by
  cases o with
  | none => cases h
  | some a => exact ⟨a, rfl, h⟩
theorem ite_t {α : Type} {b : Bool} {x y r : α} (hb : b = true) (h : (if b = true then x else y) = r) : x = r := by rw [if_pos hb] at h; exact h
theorem ite_f {α : Type} {b : Bool} {x y r : α} (hb : b = false) (h : (if b = true then x else y) = r) : y = r := by rw [hb] at h; simpa using h
end Go.Proofs.YtdecgihkgpgejaaDoor.P
