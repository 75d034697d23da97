/- Part GPinT2 of the proof of GensPins. -/
import Derived.KernelRfl
import Derived.Test.YtkhhpimjofkbiaaGreatDoorGPinT
set_option linter.unusedVariables false
set_option linter.unusedSimpArgs false
set_option maxRecDepth 1000000
namespace Go.Adm
open Go
theorem unpinS (x : Nat → AObj) (c0 c1 c3 c4 tv : AV) (k : Nat) :
    callF GG prA 300 21 [.ptr 10 0, .i .i64 1] (mkM x c0 c1 c3 c4 tv (pin1 (.ofNat (k + 1))) 1) = some (.i .i64 0, mkM x c0 c1 c3 c4 tv (pin1 (IntKind.i64.wrap (.ofNat (k + 1) - 1))) 1, [9, 8]) := by kernel_rfl
end Go.Adm
