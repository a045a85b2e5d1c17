/-
  DERIVED. GIVEN WITH THE SEED: THE CARDS: each row of YtofnehgjkdcmnaaGreatDoorRows.lean that lists a variable, with what it lists TIED to the program's text (the seventh form; the later family's looks); each row that meets fmt, with fmt's text TOLD by the authors' own Lean function (tested against real Go, not proved from fmt's source: count such statements apart). THE CARD IS WHAT COUNTS. Prove the row's statement (the work); the ties are given (YtofnehgjkdcmnaaGreatDoorTie.lean); close each card by the builder's one call (the guide's Derived/Test/ToyasCard.lean, 'card_holds'). Laid BY PROGRAM, IN A SANDBOX (cutbox-door.mjs). By AI agents, Wed Nov 11 2026. No macro, syntax, notation, axiom, sorry.
-/
import Derived.Test.YtofnehgjkdcmnaaGreatDoorRows
import GoSem.ClaimSeven
namespace Go.Proofs.YtofnehgjkdcmnaaGreatDoor
namespace Rows

/-- THE TIED CARD OF 'hedgerowtop.TopEveryLog'. -/
def topEveryLogCard : Claim7 := { stood := { row := topEveryLogRow, standIns := [], harness := (true, "1e412b6a490de145b9830e1c1fc8a0b52672d06213b68004420d39dff6f288dd"), looks := true }, kinds := [], alts := [], laidByText := true, laidKinds := [.data, .data, .data, .data, .data, .sentinel, .sentinel, .pinned], laidTests := true, laidLooks := .later }
def TopEveryLogCardSaid : Prop := Claim7.holds Tryz.pinned (.plain (OpenSpec.ofChange topEveryLogSpec)) topEveryLogCard

/-- THE SECOND FORM's CARD OF 'hedgerowtop.TopEveryLog'. -/
def topEveryLogUptoCard : Claim7 := { stood := { row := topEveryLogUptoRow, standIns := [], harness := (true, "1e412b6a490de145b9830e1c1fc8a0b52672d06213b68004420d39dff6f288dd"), looks := true }, kinds := [], alts := [], laidByText := true, laidKinds := [.data, .data, .data, .data, .data, .sentinel, .sentinel, .pinned], laidTests := true, laidLooks := .later }
def TopEveryLogUptoCardSaid : Prop := Claim7.holds Tryz.pinned (.plain (OpenSpec.upto topEveryLogSpec)) topEveryLogUptoCard
end Rows
end Go.Proofs.YtofnehgjkdcmnaaGreatDoor
