/- Part GAnchor of the proof of GensPins. -/
import Derived.KernelRfl
import Derived.Test.YtkhhpimjofkbiaaGreatDoorGOpen0
set_option linter.unusedVariables false
set_option linter.unusedSimpArgs false
set_option maxRecDepth 1000000
namespace Go.Adm
theorem chkAnchor_ok : chkAnchor cF = true := by kernel_rfl
end Go.Adm
