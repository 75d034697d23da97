/- Part GOpen of the proof of GensPins. -/
import Derived.Test.YtkhhpimjofkbiaaGreatDoorGAnchor
import Derived.Test.YtkhhpimjofkbiaaGreatDoorGOpen1
set_option linter.unusedVariables false
set_option linter.unusedSimpArgs false
namespace Go.Adm
theorem opened : Opened := opened_of cF_ok chkAnchor_ok chkOpen_ok
theorem pins_true (n m : Int) : ∃ N M' D', callF GG prA N 4 [.i .i64 n, .i .i64 m] [] = some (.b true, M', D') := pins_run opened n m
end Go.Adm
