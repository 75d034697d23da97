/-
  DERIVED. GIVEN WITH THE SEED: THE CARDS: each row of YtkhhpimjofkbiaaGreatDoorRows.lean that lists a variable, with what it lists TIED to the program's text (the seventh form; the later family's looks); each row that meets fmt, with fmt's text TOLD by the authors' own Lean function (tested against real Go, not proved from fmt's source: count such statements apart). THE CARD IS WHAT COUNTS. Prove the row's statement (the work); the ties are given (YtkhhpimjofkbiaaGreatDoorTie.lean); close each card by the builder's one call (the guide's Derived/Test/ToyasCard.lean, 'card_holds'). Laid BY PROGRAM, IN A SANDBOX (cutbox-door.mjs). By AI agents, Wed Nov 11 2026. No macro, syntax, notation, axiom, sorry.
-/
import Derived.Test.YtkhhpimjofkbiaaGreatDoorRows
import GoSem.ClaimSeven
namespace Go.Proofs.YtkhhpimjofkbiaaGreatDoor
namespace Rows

/-- THE TIED CARD OF 'pantrylaw19.GensReads'. -/
def gensReadsCard : Claim7 := { stood := { row := gensReadsRow, standIns := [], harness := (true, "8bfd8e508f40b7aa726cf00fd2b29e44962b20d033fb62b7a615d426632f110b"), looks := true }, kinds := [], alts := [], laidByText := true, laidKinds := [.data, .data, .data, .data, .sentinel, .sentinel, .pinned], laidTests := true, laidLooks := .later }
def GensReadsCardSaid : Prop := Claim7.holds Tryz.pinned (.plain (OpenSpec.ofChange gensReadsSpec)) gensReadsCard

/-- THE TIED CARD OF 'pantrylaw19.GensPins'. -/
def gensPinsCard : Claim7 := { stood := { row := gensPinsRow, standIns := [], harness := (true, "8bfd8e508f40b7aa726cf00fd2b29e44962b20d033fb62b7a615d426632f110b"), looks := true }, kinds := [], alts := [], laidByText := true, laidKinds := [.data, .data, .data, .data, .sentinel, .sentinel, .pinned], laidTests := true, laidLooks := .later }
def GensPinsCardSaid : Prop := Claim7.holds Tryz.pinned (.plain (OpenSpec.ofChange gensPinsSpec)) gensPinsCard

/-- THE TIED CARD OF 'pantrylaw19.GensBack'. -/
def gensBackCard : Claim7 := { stood := { row := gensBackRow, standIns := [], harness := (true, "8bfd8e508f40b7aa726cf00fd2b29e44962b20d033fb62b7a615d426632f110b"), looks := true }, kinds := [], alts := [], laidByText := true, laidKinds := [.data, .data, .data, .data, .sentinel, .sentinel, .pinned], laidTests := true, laidLooks := .later }
def GensBackCardSaid : Prop := Claim7.holds Tryz.pinned (.plain (OpenSpec.ofChange gensBackSpec)) gensBackCard

/-- THE TIED CARD OF 'pantrylaw19.GensKeeps'. -/
def gensKeepsCard : Claim7 := { stood := { row := gensKeepsRow, standIns := [], harness := (true, "8bfd8e508f40b7aa726cf00fd2b29e44962b20d033fb62b7a615d426632f110b"), looks := true }, kinds := [], alts := [], laidByText := true, laidKinds := [.data, .data, .data, .data, .sentinel, .sentinel, .pinned], laidTests := true, laidLooks := .later }
def GensKeepsCardSaid : Prop := Claim7.holds Tryz.pinned (.plain (OpenSpec.ofChange gensKeepsSpec)) gensKeepsCard

/-- THE TIED CARD OF 'pantrylaw19.GensPlays'. -/
def gensPlaysCard : Claim7 := { stood := { row := gensPlaysRow, standIns := [], harness := (true, "8bfd8e508f40b7aa726cf00fd2b29e44962b20d033fb62b7a615d426632f110b"), looks := true }, kinds := [], alts := [], laidByText := true, laidKinds := [.data, .data, .data, .data, .sentinel, .sentinel, .pinned], laidTests := true, laidLooks := .later }
def GensPlaysCardSaid : Prop := Claim7.holds Tryz.pinned (.plain (OpenSpec.ofChange gensPlaysSpec)) gensPlaysCard

/-- THE SECOND FORM's CARD OF 'pantrylaw19.GensReads'. -/
def gensReadsUptoCard : Claim7 := { stood := { row := gensReadsUptoRow, standIns := [], harness := (true, "8bfd8e508f40b7aa726cf00fd2b29e44962b20d033fb62b7a615d426632f110b"), looks := true }, kinds := [], alts := [], laidByText := true, laidKinds := [.data, .data, .data, .data, .sentinel, .sentinel, .pinned], laidTests := true, laidLooks := .later }
def GensReadsUptoCardSaid : Prop := Claim7.holds Tryz.pinned (.plain (OpenSpec.upto gensReadsSpec)) gensReadsUptoCard

/-- THE SECOND FORM's CARD OF 'pantrylaw19.GensPins'. -/
def gensPinsUptoCard : Claim7 := { stood := { row := gensPinsUptoRow, standIns := [], harness := (true, "8bfd8e508f40b7aa726cf00fd2b29e44962b20d033fb62b7a615d426632f110b"), looks := true }, kinds := [], alts := [], laidByText := true, laidKinds := [.data, .data, .data, .data, .sentinel, .sentinel, .pinned], laidTests := true, laidLooks := .later }
def GensPinsUptoCardSaid : Prop := Claim7.holds Tryz.pinned (.plain (OpenSpec.upto gensPinsSpec)) gensPinsUptoCard

/-- THE SECOND FORM's CARD OF 'pantrylaw19.GensBack'. -/
def gensBackUptoCard : Claim7 := { stood := { row := gensBackUptoRow, standIns := [], harness := (true, "8bfd8e508f40b7aa726cf00fd2b29e44962b20d033fb62b7a615d426632f110b"), looks := true }, kinds := [], alts := [], laidByText := true, laidKinds := [.data, .data, .data, .data, .sentinel, .sentinel, .pinned], laidTests := true, laidLooks := .later }
def GensBackUptoCardSaid : Prop := Claim7.holds Tryz.pinned (.plain (OpenSpec.upto gensBackSpec)) gensBackUptoCard

/-- THE SECOND FORM's CARD OF 'pantrylaw19.GensKeeps'. -/
def gensKeepsUptoCard : Claim7 := { stood := { row := gensKeepsUptoRow, standIns := [], harness := (true, "8bfd8e508f40b7aa726cf00fd2b29e44962b20d033fb62b7a615d426632f110b"), looks := true }, kinds := [], alts := [], laidByText := true, laidKinds := [.data, .data, .data, .data, .sentinel, .sentinel, .pinned], laidTests := true, laidLooks := .later }
def GensKeepsUptoCardSaid : Prop := Claim7.holds Tryz.pinned (.plain (OpenSpec.upto gensKeepsSpec)) gensKeepsUptoCard

/-- THE SECOND FORM's CARD OF 'pantrylaw19.GensPlays'. -/
def gensPlaysUptoCard : Claim7 := { stood := { row := gensPlaysUptoRow, standIns := [], harness := (true, "8bfd8e508f40b7aa726cf00fd2b29e44962b20d033fb62b7a615d426632f110b"), looks := true }, kinds := [], alts := [], laidByText := true, laidKinds := [.data, .data, .data, .data, .sentinel, .sentinel, .pinned], laidTests := true, laidLooks := .later }
def GensPlaysUptoCardSaid : Prop := Claim7.holds Tryz.pinned (.plain (OpenSpec.upto gensPlaysSpec)) gensPlaysUptoCard
end Rows
end Go.Proofs.YtkhhpimjofkbiaaGreatDoor
