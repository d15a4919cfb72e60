/- Plain words of the library's functions. -/
import Derived.Test.YtdecgihkgpgejaaDoorCp
import Derived.Lib.ItoaMem
import Derived.Lib.SlicesCompact
namespace Go.Proofs.YtdecgihkgpgejaaDoor.P
open Go.RowKit
set_option linter.unusedSimpArgs false
set_option linter.unusedVariables false

/-- A number as text. -/
def itoaB (n : Int) : ByteArray := ⟨(Lib.itoa n).toArray⟩
def itoaW (n : Int) : Option ByteArray := if -9223372036854775808 ≤ n ∧ n ≤ 9223372036854775807 then some (itoaB n) else none
/-- A list of numbers as text. -/
def numsL (l : List Int) : List UInt8 := l.flatMap fun x => Lib.itoa x ++ [59]
def numsB (l : List Int) : List UInt8 := Lib.itoa l.length ++ (91 :: (numsL l ++ [93]))
def numsW (l : List Int) : Option ByteArray := if (∀ x ∈ l, -9223372036854775808 ≤ x ∧ x ≤ 9223372036854775807) ∧ l.length * 8 ≤ 140737488351232 ∧ (numsB l).length ≤ 140737488355328 then some ⟨(numsB l).toArray⟩ else none
/-- The digits of a number that is not positive. -/
def digitsW (n : Int) : Option ByteArray := if -9223372036854775808 ≤ n ∧ n ≤ 0 then some ⟨(Lib.decDigits n.natAbs).toArray⟩ else none
/-- Without what follows its like. -/
def compW (l : List Int) : Option (List Int) := if l.length ≤ 9223372036854775807 then some (Lib.compact l) else none
def valuesW (l : List Int) : Option (List Int) := some l
def sortedW (l : List Int) : Option (List Int) := if l.length * 8 ≤ 140737488351232 then some (sortI l) else none
/-- A list put into another one. -/
def insL {α : Type} (bytes : Nat) (l : List α) (i : Int) (xs : List α) : Option (List α) := if 0 ≤ i ∧ i ≤ l.length ∧ 0 < xs.length ∧ (l.length + xs.length) * bytes ≤ 140737488355328 then some (l.take i.toNat ++ (xs ++ l.drop i.toNat)) else none
end Go.Proofs.YtdecgihkgpgejaaDoor.P
