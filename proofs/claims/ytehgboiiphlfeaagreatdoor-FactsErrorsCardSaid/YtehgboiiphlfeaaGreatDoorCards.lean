/-
  DERIVED. GIVEN WITH THE SEED: THE CARDS: each row of YtehgboiiphlfeaaGreatDoorRows.lean that lists a variable, with what it lists TIED to the program's text (the seventh form; the later family's looks); each row that meets fmt, with fmt's text TOLD by the authors' own Lean function (tested against real Go, not proved from fmt's source: count such statements apart). THE CARD IS WHAT COUNTS. Prove the row's statement (the work); the ties are given (YtehgboiiphlfeaaGreatDoorTie.lean); close each card by the builder's one call (the guide's Derived/Test/ToyasCard.lean, 'card_holds'). Laid BY PROGRAM, IN A SANDBOX (cutbox-door.mjs). By AI agents, Wed Nov 11 2026. No macro, syntax, notation, axiom, sorry.
-/
import Derived.Test.YtehgboiiphlfeaaGreatDoorRows
import GoSem.ClaimSeven
namespace Go.Proofs.YtehgboiiphlfeaaGreatDoor
namespace Rows

/-- THE TIED CARD OF 'florilegiumlaw12.TreeShows'. -/
def treeShowsCard : Claim7 := { stood := { row := treeShowsRow, standIns := [], harness := (true, "2959c233b068c235d32f028bd16bd307a1b402c18dcdffcd6390cca5dcd9af1d"), looks := false }, kinds := [], alts := [], laidByText := true, laidKinds := [.data, .data, .data], laidTests := true, laidLooks := .later }
def TreeShowsCardSaid : Prop := Claim7.holds Tryz.pinned (.plain (OpenSpec.ofChange treeShowsSpec)) treeShowsCard

/-- THE TIED CARD OF 'florilegiumlaw12.TreeConflicts'. -/
def treeConflictsCard : Claim7 := { stood := { row := treeConflictsRow, standIns := [], harness := (true, "2959c233b068c235d32f028bd16bd307a1b402c18dcdffcd6390cca5dcd9af1d"), looks := false }, kinds := [], alts := [], laidByText := true, laidKinds := [.data, .data, .data], laidTests := true, laidLooks := .later }
def TreeConflictsCardSaid : Prop := Claim7.holds Tryz.pinned (.plain (OpenSpec.ofChange treeConflictsSpec)) treeConflictsCard

/-- THE TIED CARD OF 'florilegiumlaw11.FactsForms'. -/
def factsFormsCard : Claim7 := { stood := { row := factsFormsRow, standIns := [], harness := (true, "2959c233b068c235d32f028bd16bd307a1b402c18dcdffcd6390cca5dcd9af1d"), looks := false }, kinds := [], alts := [], laidByText := true, laidKinds := [.data, .pinned], laidTests := true, laidLooks := .later }
def FactsFormsCardSaid : Prop := Claim7.holds Tryz.pinned (.plain (OpenSpec.ofChange factsFormsSpec)) factsFormsCard

/-- THE TIED CARD OF 'florilegiumlaw11.FactsErrors'. -/
def factsErrorsCard : Claim7 := { stood := { row := factsErrorsRow, standIns := [], harness := (true, "2959c233b068c235d32f028bd16bd307a1b402c18dcdffcd6390cca5dcd9af1d"), looks := false }, kinds := [], alts := [], laidByText := true, laidKinds := [.data, .pinned], laidTests := true, laidLooks := .later }
def FactsErrorsCardSaid : Prop := Claim7.holds Tryz.pinned (.plain (OpenSpec.ofChange factsErrorsSpec)) factsErrorsCard

/-- THE TIED CARD OF 'florilegiumlaw11.FactsMost'. -/
def factsMostCard : Claim7 := { stood := { row := factsMostRow, standIns := [], harness := (true, "2959c233b068c235d32f028bd16bd307a1b402c18dcdffcd6390cca5dcd9af1d"), looks := false }, kinds := [], alts := [], laidByText := true, laidKinds := [.data, .pinned], laidTests := true, laidLooks := .later }
def FactsMostCardSaid : Prop := Claim7.holds Tryz.pinned (.plain (OpenSpec.ofChange factsMostSpec)) factsMostCard

/-- THE TIED CARD OF 'florilegiumlaw14.RecordForms'. -/
def recordFormsCard : Claim7 := { stood := { row := recordFormsRow, standIns := [], harness := (true, "2959c233b068c235d32f028bd16bd307a1b402c18dcdffcd6390cca5dcd9af1d"), looks := false }, kinds := [], alts := [], laidByText := true, laidKinds := [.data, .data, .data, .data, .pinned], laidTests := true, laidLooks := .later }
def RecordFormsCardSaid : Prop := Claim7.holds Tryz.pinned (.plain (OpenSpec.ofChange recordFormsSpec)) recordFormsCard

/-- THE SECOND FORM's CARD OF 'florilegiumlaw12.TreeShows'. -/
def treeShowsUptoCard : Claim7 := { stood := { row := treeShowsUptoRow, standIns := [], harness := (true, "2959c233b068c235d32f028bd16bd307a1b402c18dcdffcd6390cca5dcd9af1d"), looks := false }, kinds := [], alts := [], laidByText := true, laidKinds := [.data, .data, .data], laidTests := true, laidLooks := .later }
def TreeShowsUptoCardSaid : Prop := Claim7.holds Tryz.pinned (.plain (OpenSpec.upto treeShowsSpec)) treeShowsUptoCard

/-- THE SECOND FORM's CARD OF 'florilegiumlaw12.TreeConflicts'. -/
def treeConflictsUptoCard : Claim7 := { stood := { row := treeConflictsUptoRow, standIns := [], harness := (true, "2959c233b068c235d32f028bd16bd307a1b402c18dcdffcd6390cca5dcd9af1d"), looks := false }, kinds := [], alts := [], laidByText := true, laidKinds := [.data, .data, .data], laidTests := true, laidLooks := .later }
def TreeConflictsUptoCardSaid : Prop := Claim7.holds Tryz.pinned (.plain (OpenSpec.upto treeConflictsSpec)) treeConflictsUptoCard

/-- THE SECOND FORM's CARD OF 'florilegiumlaw11.FactsForms'. -/
def factsFormsUptoCard : Claim7 := { stood := { row := factsFormsUptoRow, standIns := [], harness := (true, "2959c233b068c235d32f028bd16bd307a1b402c18dcdffcd6390cca5dcd9af1d"), looks := false }, kinds := [], alts := [], laidByText := true, laidKinds := [.data, .pinned], laidTests := true, laidLooks := .later }
def FactsFormsUptoCardSaid : Prop := Claim7.holds Tryz.pinned (.plain (OpenSpec.upto factsFormsSpec)) factsFormsUptoCard

/-- THE SECOND FORM's CARD OF 'florilegiumlaw11.FactsErrors'. -/
def factsErrorsUptoCard : Claim7 := { stood := { row := factsErrorsUptoRow, standIns := [], harness := (true, "2959c233b068c235d32f028bd16bd307a1b402c18dcdffcd6390cca5dcd9af1d"), looks := false }, kinds := [], alts := [], laidByText := true, laidKinds := [.data, .pinned], laidTests := true, laidLooks := .later }
def FactsErrorsUptoCardSaid : Prop := Claim7.holds Tryz.pinned (.plain (OpenSpec.upto factsErrorsSpec)) factsErrorsUptoCard

/-- THE SECOND FORM's CARD OF 'florilegiumlaw11.FactsMost'. -/
def factsMostUptoCard : Claim7 := { stood := { row := factsMostUptoRow, standIns := [], harness := (true, "2959c233b068c235d32f028bd16bd307a1b402c18dcdffcd6390cca5dcd9af1d"), looks := false }, kinds := [], alts := [], laidByText := true, laidKinds := [.data, .pinned], laidTests := true, laidLooks := .later }
def FactsMostUptoCardSaid : Prop := Claim7.holds Tryz.pinned (.plain (OpenSpec.upto factsMostSpec)) factsMostUptoCard

/-- THE SECOND FORM's CARD OF 'florilegiumlaw14.RecordForms'. -/
def recordFormsUptoCard : Claim7 := { stood := { row := recordFormsUptoRow, standIns := [], harness := (true, "2959c233b068c235d32f028bd16bd307a1b402c18dcdffcd6390cca5dcd9af1d"), looks := false }, kinds := [], alts := [], laidByText := true, laidKinds := [.data, .data, .data, .data, .pinned], laidTests := true, laidLooks := .later }
def RecordFormsUptoCardSaid : Prop := Claim7.holds Tryz.pinned (.plain (OpenSpec.upto recordFormsSpec)) recordFormsUptoCard
end Rows
end Go.Proofs.YtehgboiiphlfeaaGreatDoor
