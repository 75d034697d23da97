/- Part GPrg of the proof of GensPins. -/
import Derived.Test.YtkhhpimjofkbiaaGreatDoorGPrims
import Derived.Test.YtkhhpimjofkbiaaGreatDoorAdmG
set_option linter.unusedVariables false
set_option linter.unusedSimpArgs false
set_option linter.unusedVariables false
namespace Go.Adm
open Go Go.RowKit Go.Proofs
noncomputable def keepA_ (f : FuncId) : Bool := Nat.beq f 109 || Nat.beq f 173 || Nat.beq f 174 || Nat.beq f 167 || Nat.beq f 55 || Nat.beq f 152 || Nat.beq f 172 || Nat.beq f 87 || Nat.beq f 205 || Nat.beq f 223
noncomputable def keepR_ (f : FuncId) : Bool := Nat.beq f 173 || Nat.beq f 174 || Nat.beq f 82 || Nat.beq f 167 || Nat.beq f 201 || Nat.beq f 202
noncomputable def GG : Prg := { ty := gty, fn := gfn, keepArg := keepA_, keepRet := keepR_, ext := gext, gcOn := fun f => Nat.beq f 8 }
theorem GG_ok : PrgOK GG Tryz.prog := prgOK GG rfl rfl gext_ok
noncomputable def cF := callFF GG prF 100000 40
def isS {α : Type} : Option α → Bool | some _ => true | _ => false
def isT (o : Option FActed) : Bool := match o with | some (.b true, _, _) => true | _ => false
end Go.Adm
