/- GensPins: whatever the input, the call returns true and the arguments read as they did; the listed tables are tied to the text. -/
import Derived.Test.YtkhhpimjofkbiaaGreatDoorTie
import Derived.Test.YtkhhpimjofkbiaaGreatDoorCards
import Derived.SevenTiedAt
import Derived.Test.YtkhhpimjofkbiaaGreatDoorGRow2
set_option linter.unusedVariables false
set_option linter.unusedSimpArgs false
set_option maxRecDepth 100000
namespace Go.Proofs.YtkhhpimjofkbiaaGreatDoor
open Go
/-- The tied card of GensPins. -/
theorem gensPins_card_holds : Rows.GensPinsCardSaid :=
  Claim7.holds_tied_plain_at .later [] [.data, .data, .data, .data, .sentinel, .sentinel, .pinned] true (true, "8bfd8e508f40b7aa726cf00fd2b29e44962b20d033fb62b7a615d426632f110b") true
    pins_over (fun _ h => by cases h) (by kernel_rfl) (fun _ h => by cases h) gensPins_row_tie rfl ⟨rfl, rfl⟩ (by kernel_rfl) rfl
    (fun f fn hf hfn => by
      obtain rfl : f = 4 := Option.some.inj ((show Tryz.prog.funcNamed "pantry/pantrylaw19.GensPins" = some 4 by kernel_rfl).symm.trans hf) |>.symm
      obtain rfl : fn = Tryz.f4 := (Option.some.inj (Tryz.func4.symm.trans hfn)).symm
      exact ⟨by kernel_rfl, fun j t ht => by
        rw [Tryz.params4] at ht
        have hm : t ∈ [3, 3] := by simpa using Array.mem_of_getElem? ht
        have hall : ([3, 3].all fun u => !Tryz.prog.wantsStandIn u) = true := by kernel_rfl
        exact (show Tryz.prog.wantsStandIn t = false by simpa using List.all_eq_true.1 hall t hm)⟩)
    (by kernel_rfl)
end Go.Proofs.YtkhhpimjofkbiaaGreatDoor
