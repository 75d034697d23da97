/- Part GPinT of the proof of GensPins. -/
import Derived.KernelRfl
import Derived.Test.YtkhhpimjofkbiaaGreatDoorGPrg
set_option linter.unusedVariables false
set_option linter.unusedSimpArgs false
set_option maxRecDepth 1000000
namespace Go.Adm
open Go
/-- The heap behind the first commit, pins and the rest apart. -/
def mkM (x : Nat → AObj) (c0 c1 c3 c4 tv : AV) (ps : List (AV × AV × Nat)) (pc : Nat) : List AObj :=
  (List.range 153).map fun i => bif Nat.beq i 10 then .box 134 [c0, c1, .i .i64 1, c3, c4, .mp 8, .mp 9] else bif Nat.beq i 9 then .map [(.i .i64 1, tv, 1)] 2 else bif Nat.beq i 8 then .map ps pc else x i

theorem pin0 (x : Nat → AObj) (c0 c1 c3 c4 tv : AV) :
    callF GG prA 200 20 [.ptr 10 0] (mkM x c0 c1 c3 c4 tv [] 0) = some (.i .i64 1, mkM x c0 c1 c3 c4 tv [(.i .i64 1, .i .i64 1, 0)] 1, [8]) := by kernel_rfl
end Go.Adm
namespace Go.Adm
open Go
abbrev pin1 (p : Int) : List (AV × AV × Nat) := [(.i .i64 1, .i .i64 p, 0)]
theorem pinS (x : Nat → AObj) (c0 c1 c3 c4 tv : AV) (p : Nat) :
    callF GG prA 200 20 [.ptr 10 0] (mkM x c0 c1 c3 c4 tv (pin1 (.ofNat p)) 1) = some (.i .i64 1, mkM x c0 c1 c3 c4 tv (pin1 (IntKind.i64.wrap (.ofNat p + 1))) 1, [8]) := by kernel_rfl
theorem unpinN (x : Nat → AObj) (c0 c1 c3 c4 tv : AV) :
    callF GG prA 200 21 [.ptr 10 0, .i .i64 1] (mkM x c0 c1 c3 c4 tv [] 0) = some (.i .i64 43, mkM x c0 c1 c3 c4 tv [] 0, []) := by kernel_rfl
theorem unpin0 (x : Nat → AObj) (c0 c1 c3 c4 tv : AV) :
    callF GG prA 200 21 [.ptr 10 0, .i .i64 1] (mkM x c0 c1 c3 c4 tv (pin1 0) 1) = some (.i .i64 43, mkM x c0 c1 c3 c4 tv (pin1 0) 1, []) := by kernel_rfl
end Go.Adm
