/- Part GRow of the proof of GensPins. -/
import Derived.Test.YtkhhpimjofkbiaaGreatDoorRows
import Derived.WalkKit
import Derived.ProofKit
import Derived.OpenShut
import Derived.LaidMore
import Derived.Stop.Joined
set_option linter.unusedVariables false
set_option linter.unusedSimpArgs false
set_option linter.unusedVariables false
set_option maxRecDepth 100000
namespace Go.Proofs.YtkhhpimjofkbiaaGreatDoor
open Go Go.ChangeShapes Go.WideShapes Go.ChangeAt Go.RowKit

theorem own : ownKnob Tryz.prog.godebug = none := by kernel_rfl
noncomputable abbrev laidL : List (String × DataW Unit) := Rows.gensPinsRow.laid
def firstCells : Array Value := match Go.Pinned.utf8First with
  | .agg ds => (ds.map fun d => match d with | .lit (.int k n) => Value.int k n | _ => undef).toArray
  | _ => #[]
def fillFirst (h : Array Obj) (g : Nat) : Array Obj := match h[g]? with
  | some (.cells _ t fr) => h.setIfInBounds g (.cells firstCells t fr)
  | _ => h
theorem gF : ∃ g, Tryz.prog.globalNamed "unicode/utf8.first" = some g := ⟨(Tryz.prog.globalNamed "unicode/utf8.first").getD 0, by kernel_rfl⟩
noncomputable def wit (os : Os) : World :=
  { World.doorLaid Tryz.prog 72 os with heap := fillFirst (World.doorLaid Tryz.prog 72 os).heap ((Tryz.prog.globalNamed "unicode/utf8.first").getD 0) }
theorem door_met (os : Os) (args : Array Value) : laidMetH Tryz.prog laidL ((wit os).forCall (fun _ _ => 0) ⟨#[], args, []⟩).memory :=
  laidMetH_of_parts3 (fuel := 8) (laidMet_of_run' 8 (by kernel_rfl) (by kernel_rfl)) (by kernel_rfl) (by kernel_rfl)
theorem shp (os : Os) (args : Array Value) : ((wit os).forCall (fun _ _ => 0) ⟨#[], args, []⟩).Shaped Tryz.checked.prog := World.shaped_of_RefB (by kernel_rfl) (by kernel_rfl)
end Go.Proofs.YtkhhpimjofkbiaaGreatDoor
