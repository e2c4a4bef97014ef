/-
  What some functions of Go's library compute, as plain functions: by hand.
-/
import Derived.Test.YtlbfolepljpmbaaDoorCeB
import Derived.Lib.ItoaNum
import Derived.Lib.Join
import Derived.Lib.Atoi
import Derived.Lib.Bytealg
namespace Go.CE
set_option linter.all false
-- strconv.Itoa, at what its short road serves
noncomputable def N.strconv_Itoa (n : Int) : Option ((ByteArray × Unit) × Unit) := if 0 ≤ n ∧ n < 100 then some ((⟨(Lib.decDigits n.toNat).toArray⟩, ()), ()) else none
-- strings.Join
noncomputable def N.strings_Join (l : List ByteArray) (sep : ByteArray) : Option ((ByteArray × Unit) × Unit) :=
  if l.length ≤ 140737488355328 ∧ (Lib.join (l.map (·.data.toList)) sep.data.toList).length ≤ 140737488355328 then some ((⟨(Lib.join (l.map (·.data.toList)) sep.data.toList).toArray⟩, ()), ()) else none
-- strconv.Atoi, where it reads a number
noncomputable def N.strconv_Atoi (s : ByteArray) : Option ((Int × Bool × Unit) × Unit) :=
  if s.size ≤ 18 then match Lib.atoi s.data.toList with | some n => some ((n, true, ()), ()) | none => none else none
-- Index, Count: a byte
noncomputable def N.strings_Index (s sep : ByteArray) : Option ((Int × Unit) × Unit) := match sep.data.toList with | [c] => some ((Lib.indexByte s.data.toList c, ()), ()) | _ => none
noncomputable def N.i_stringslite_Index (s sep : ByteArray) : Option ((Int × Unit) × Unit) := N.strings_Index s sep
noncomputable def N.strings_Count (s sep : ByteArray) : Option ((Int × Unit) × Unit) := match sep.data.toList with | [c] => some ((Lib.countByte s.data.toList c, ()), ()) | _ => none
end Go.CE
