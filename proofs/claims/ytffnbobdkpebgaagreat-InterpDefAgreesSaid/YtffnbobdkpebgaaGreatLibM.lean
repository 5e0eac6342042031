/- Models of functions of Go's library, and of those that the generator leaves. -/
import Derived.Test.YtffnbobdkpebgaaGreatAbGen
import Derived.Shelf.Small.Bits
import Derived.Shelf.Slices.CompactI
import Derived.Shelf.Strings.Search3
set_option linter.unusedVariables false
namespace Go.Ab
def m_slices_Sort_int (fu : Nat) (xs : List Int) : Option (List Int) := match decide (xs.length ≤ 1000000) with
 | true => some (xs.mergeSort fun x y => decide (x ≤ y))
 | false => none
def m_slices_Compact_int (fu : Nat) (xs : List Int) : Option (List Int) := match decide (xs.length ≤ 1000000) with
 | true => some (Go.Lib.compact xs)
 | false => none
def m_bits_Mul64 (fu : Nat) (x y : Int) : Option (Int × Int) := match decide (0 ≤ x ∧ x < 18446744073709551616) && decide (0 ≤ y ∧ y < 18446744073709551616) with
 | true => some (x * y / 18446744073709551616, x * y % 18446744073709551616)
 | false => none
def m_bits_LeadingZeros64 (fu : Nat) (x : Int) : Option Int := match decide (0 ≤ x ∧ x < 18446744073709551616) with
 | true => some (64 - (Go.Lib.bitLen x.toNat : Int))
 | false => none
def m_strings_Contains (fu : Nat) (s t : BA) : Option Bool := match decide (s.size ≤ 1000000) with
 | true => some (Go.Lib.contains s.data.toList t.data.toList)
 | false => none
def m_date_DaysInMonth (fu : Nat) (y m : Int) : Option Int := some (bif decide (m < 1) || decide (12 < m) then 0 else bif decide (m = 2) then (bif decide (Int.tmod y 4 = 0) && (!decide (Int.tmod y 100 = 0) || decide (Int.tmod y 400 = 0)) then 29 else 28) else bif decide (m = 4) || (decide (m = 6) || (decide (m = 9) || decide (m = 11))) then 30 else 31)
end Go.Ab
