/-
  DERIVED. GIVEN WITH THE SEED: THE CARDS: each row of YtpiicncihccheaaDoorRows.lean that lists a variable, with what it lists TIED to the program's text (the seventh form; the later family's looks); each row that meets fmt, with fmt's text TOLD by the authors' own Lean function (tested against real Go, not proved from fmt's source: count such statements apart). THE CARD IS WHAT COUNTS. Prove the row's statement (the work); the ties are given (YtpiicncihccheaaDoorTie.lean); close each card by the builder's one call (the guide's Derived/Test/ToyasCard.lean, 'card_holds'). Laid BY PROGRAM, IN A SANDBOX (cutbox-door.mjs). By AI agents, Wed Nov 11 2026. No macro, syntax, notation, axiom, sorry.
-/
import Derived.Test.YtpiicncihccheaaDoorRows
import GoSem.ClaimSeven
namespace Go.Proofs.YtpiicncihccheaaDoor
namespace Rows

/-- THE TIED CARD OF 'hallmarklaw06.WriterLaid'. -/
def writerLaidCard : Claim7 := { stood := { row := writerLaidRow, standIns := [], harness := (true, "6ab69f5a27b8a6ca4f5b08a114e4a7ecf90789fec546a93fe14163e94553038b"), looks := true }, kinds := [], alts := [], laidByText := true, laidKinds := [.data, .pinned], laidTests := true, laidLooks := .later }
def WriterLaidCardSaid : Prop := Claim7.holds Tryd.pinned (.plain (OpenSpec.ofChange writerLaidSpec)) writerLaidCard

/-- THE TIED CARD OF 'hallmarklaw06.WriterPlain'. -/
def writerPlainCard : Claim7 := { stood := { row := writerPlainRow, standIns := [], harness := (true, "6ab69f5a27b8a6ca4f5b08a114e4a7ecf90789fec546a93fe14163e94553038b"), looks := true }, kinds := [], alts := [], laidByText := true, laidKinds := [.data, .pinned], laidTests := true, laidLooks := .later }
def WriterPlainCardSaid : Prop := Claim7.holds Tryd.pinned (.plain (OpenSpec.ofChange writerPlainSpec)) writerPlainCard

/-- THE TIED CARD OF 'hallmarklaw06.WriterOne'. -/
def writerOneCard : Claim7 := { stood := { row := writerOneRow, standIns := [], harness := (true, "6ab69f5a27b8a6ca4f5b08a114e4a7ecf90789fec546a93fe14163e94553038b"), looks := true }, kinds := [], alts := [], laidByText := true, laidKinds := [.data, .pinned], laidTests := true, laidLooks := .later }
def WriterOneCardSaid : Prop := Claim7.holds Tryd.pinned (.plain (OpenSpec.ofChange writerOneSpec)) writerOneCard

/-- THE TIED CARD OF 'hallmarklaw06.WriterBare'. -/
def writerBareCard : Claim7 := { stood := { row := writerBareRow, standIns := [], harness := (true, "6ab69f5a27b8a6ca4f5b08a114e4a7ecf90789fec546a93fe14163e94553038b"), looks := true }, kinds := [], alts := [], laidByText := true, laidKinds := [.data, .pinned], laidTests := true, laidLooks := .later }
def WriterBareCardSaid : Prop := Claim7.holds Tryd.pinned (.plain (OpenSpec.ofChange writerBareSpec)) writerBareCard

/-- THE TIED CARD OF 'hallmarklaw06.WriterLines'. -/
def writerLinesCard : Claim7 := { stood := { row := writerLinesRow, standIns := [], harness := (true, "6ab69f5a27b8a6ca4f5b08a114e4a7ecf90789fec546a93fe14163e94553038b"), looks := true }, kinds := [], alts := [], laidByText := true, laidKinds := [.data, .pinned], laidTests := true, laidLooks := .later }
def WriterLinesCardSaid : Prop := Claim7.holds Tryd.pinned (.plain (OpenSpec.ofChange writerLinesSpec)) writerLinesCard

/-- THE TIED CARD OF 'hallmarklaw01.TensOf'. -/
def tensOfCard : Claim7 := { stood := { row := tensOfRow, standIns := [], harness := (true, "6ab69f5a27b8a6ca4f5b08a114e4a7ecf90789fec546a93fe14163e94553038b"), looks := true }, kinds := [], alts := [], laidByText := true, laidKinds := [.data, .data, .data, .sentinel, .sentinel], laidTests := true, laidLooks := .later }
def TensOfCardSaid : Prop := Claim7.holds Tryd.pinned (.plain (OpenSpec.ofChange tensOfSpec)) tensOfCard

/-- THE TIED CARD OF 'hallmarklaw01.TensFormed'. -/
def tensFormedCard : Claim7 := { stood := { row := tensFormedRow, standIns := [], harness := (true, "6ab69f5a27b8a6ca4f5b08a114e4a7ecf90789fec546a93fe14163e94553038b"), looks := true }, kinds := [], alts := [], laidByText := true, laidKinds := [.data, .data, .data, .sentinel, .sentinel], laidTests := true, laidLooks := .later }
def TensFormedCardSaid : Prop := Claim7.holds Tryd.pinned (.plain (OpenSpec.ofChange tensFormedSpec)) tensFormedCard

/-- THE SECOND FORM's CARD OF 'hallmarklaw06.WriterLaid'. -/
def writerLaidUptoCard : Claim7 := { stood := { row := writerLaidUptoRow, standIns := [], harness := (true, "6ab69f5a27b8a6ca4f5b08a114e4a7ecf90789fec546a93fe14163e94553038b"), looks := true }, kinds := [], alts := [], laidByText := true, laidKinds := [.data, .pinned], laidTests := true, laidLooks := .later }
def WriterLaidUptoCardSaid : Prop := Claim7.holds Tryd.pinned (.plain (OpenSpec.upto writerLaidSpec)) writerLaidUptoCard

/-- THE SECOND FORM's CARD OF 'hallmarklaw06.WriterPlain'. -/
def writerPlainUptoCard : Claim7 := { stood := { row := writerPlainUptoRow, standIns := [], harness := (true, "6ab69f5a27b8a6ca4f5b08a114e4a7ecf90789fec546a93fe14163e94553038b"), looks := true }, kinds := [], alts := [], laidByText := true, laidKinds := [.data, .pinned], laidTests := true, laidLooks := .later }
def WriterPlainUptoCardSaid : Prop := Claim7.holds Tryd.pinned (.plain (OpenSpec.upto writerPlainSpec)) writerPlainUptoCard

/-- THE SECOND FORM's CARD OF 'hallmarklaw06.WriterOne'. -/
def writerOneUptoCard : Claim7 := { stood := { row := writerOneUptoRow, standIns := [], harness := (true, "6ab69f5a27b8a6ca4f5b08a114e4a7ecf90789fec546a93fe14163e94553038b"), looks := true }, kinds := [], alts := [], laidByText := true, laidKinds := [.data, .pinned], laidTests := true, laidLooks := .later }
def WriterOneUptoCardSaid : Prop := Claim7.holds Tryd.pinned (.plain (OpenSpec.upto writerOneSpec)) writerOneUptoCard

/-- THE SECOND FORM's CARD OF 'hallmarklaw06.WriterBare'. -/
def writerBareUptoCard : Claim7 := { stood := { row := writerBareUptoRow, standIns := [], harness := (true, "6ab69f5a27b8a6ca4f5b08a114e4a7ecf90789fec546a93fe14163e94553038b"), looks := true }, kinds := [], alts := [], laidByText := true, laidKinds := [.data, .pinned], laidTests := true, laidLooks := .later }
def WriterBareUptoCardSaid : Prop := Claim7.holds Tryd.pinned (.plain (OpenSpec.upto writerBareSpec)) writerBareUptoCard

/-- THE SECOND FORM's CARD OF 'hallmarklaw06.WriterLines'. -/
def writerLinesUptoCard : Claim7 := { stood := { row := writerLinesUptoRow, standIns := [], harness := (true, "6ab69f5a27b8a6ca4f5b08a114e4a7ecf90789fec546a93fe14163e94553038b"), looks := true }, kinds := [], alts := [], laidByText := true, laidKinds := [.data, .pinned], laidTests := true, laidLooks := .later }
def WriterLinesUptoCardSaid : Prop := Claim7.holds Tryd.pinned (.plain (OpenSpec.upto writerLinesSpec)) writerLinesUptoCard

/-- THE SECOND FORM's CARD OF 'hallmarklaw01.TensOf'. -/
def tensOfUptoCard : Claim7 := { stood := { row := tensOfUptoRow, standIns := [], harness := (true, "6ab69f5a27b8a6ca4f5b08a114e4a7ecf90789fec546a93fe14163e94553038b"), looks := true }, kinds := [], alts := [], laidByText := true, laidKinds := [.data, .data, .data, .sentinel, .sentinel], laidTests := true, laidLooks := .later }
def TensOfUptoCardSaid : Prop := Claim7.holds Tryd.pinned (.plain (OpenSpec.upto tensOfSpec)) tensOfUptoCard

/-- THE SECOND FORM's CARD OF 'hallmarklaw01.TensFormed'. -/
def tensFormedUptoCard : Claim7 := { stood := { row := tensFormedUptoRow, standIns := [], harness := (true, "6ab69f5a27b8a6ca4f5b08a114e4a7ecf90789fec546a93fe14163e94553038b"), looks := true }, kinds := [], alts := [], laidByText := true, laidKinds := [.data, .data, .data, .sentinel, .sentinel], laidTests := true, laidLooks := .later }
def TensFormedUptoCardSaid : Prop := Claim7.holds Tryd.pinned (.plain (OpenSpec.upto tensFormedSpec)) tensFormedUptoCard
end Rows
end Go.Proofs.YtpiicncihccheaaDoor
