/-
  DERIVED. GIVEN WITH THE SEED: THE CARDS: each row of YtpiicncihccheaaGreatDoorRows.lean that lists a variable, with what it lists TIED to the program's text (the seventh form; the later family's looks); each row that meets fmt, with fmt's text TOLD by the authors' own Lean function (tested against real Go, not proved from fmt's source: count such statements apart). THE CARD IS WHAT COUNTS. Prove the row's statement (the work); the ties are given (YtpiicncihccheaaGreatDoorTie.lean); close each card by the builder's one call (the guide's Derived/Test/ToyasCard.lean, 'card_holds'). Laid BY PROGRAM, IN A SANDBOX (cutbox-door.mjs). By AI agents, Wed Nov 11 2026. No macro, syntax, notation, axiom, sorry.
-/
import Derived.Test.YtpiicncihccheaaGreatDoorRows
import GoSem.ClaimSeven
namespace Go.Proofs.YtpiicncihccheaaGreatDoor
namespace Rows

/-- THE TIED CARD OF 'hallmarklaw06.WriterKeeps'. -/
def writerKeepsCard : Claim7 := { stood := { row := writerKeepsRow, standIns := [], harness := (true, "064a61cf1b8e3026bcf86fa753500a6220bb926ce1b7e4a372b4f5585530f5eb"), looks := true }, kinds := [], alts := [], laidByText := true, laidKinds := [.data, .pinned], laidTests := true, laidLooks := .later }
def WriterKeepsCardSaid : Prop := Claim7.holds Tryz.pinned (.plain (OpenSpec.ofChange writerKeepsSpec)) writerKeepsCard

/-- THE TIED CARD OF 'hallmarklaw06.WriterRead'. -/
def writerReadCard : Claim7 := { stood := { row := writerReadRow, standIns := [], harness := (true, "064a61cf1b8e3026bcf86fa753500a6220bb926ce1b7e4a372b4f5585530f5eb"), looks := true }, kinds := [], alts := [], laidByText := true, laidKinds := [.data, .pinned], laidTests := true, laidLooks := .later }
def WriterReadCardSaid : Prop := Claim7.holds Tryz.pinned (.plain (OpenSpec.ofChange writerReadSpec)) writerReadCard

/-- THE SECOND FORM's CARD OF 'hallmarklaw06.WriterKeeps'. -/
def writerKeepsUptoCard : Claim7 := { stood := { row := writerKeepsUptoRow, standIns := [], harness := (true, "064a61cf1b8e3026bcf86fa753500a6220bb926ce1b7e4a372b4f5585530f5eb"), looks := true }, kinds := [], alts := [], laidByText := true, laidKinds := [.data, .pinned], laidTests := true, laidLooks := .later }
def WriterKeepsUptoCardSaid : Prop := Claim7.holds Tryz.pinned (.plain (OpenSpec.upto writerKeepsSpec)) writerKeepsUptoCard

/-- THE SECOND FORM's CARD OF 'hallmarklaw06.WriterRead'. -/
def writerReadUptoCard : Claim7 := { stood := { row := writerReadUptoRow, standIns := [], harness := (true, "064a61cf1b8e3026bcf86fa753500a6220bb926ce1b7e4a372b4f5585530f5eb"), looks := true }, kinds := [], alts := [], laidByText := true, laidKinds := [.data, .pinned], laidTests := true, laidLooks := .later }
def WriterReadUptoCardSaid : Prop := Claim7.holds Tryz.pinned (.plain (OpenSpec.upto writerReadSpec)) writerReadUptoCard
end Rows
end Go.Proofs.YtpiicncihccheaaGreatDoor
