/- What the laws' functions on lists of strings come to. -/
import Derived.Test.YthhfhllfbnpcgaaCoTa
import Derived.Test.YthhfhllfbnpcgaaCoQ
namespace Go.Proofs.Ythhfhllfbnpcgaa.Co
open Go
set_option maxRecDepth 100000
set_option linter.unusedSimpArgs false
set_option linter.unusedVariables false
theorem i64_id {i : Int} (h1 : -9223372036854775808 ≤ i) (h2 : i ≤ 9223372036854775807) : IntKind.i64.wrap i = i := wrap_id h1 h2
theorem i64_succ {i n : Nat} (h : i < n) (hn : n ≤ 9223372036854775807) : IntKind.i64.wrap ((i : Int) + 1) = ((i + 1 : Nat) : Int) := by rw [wrap_id] <;> omega
end Go.Proofs.Ythhfhllfbnpcgaa.Co
