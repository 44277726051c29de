/-
  DERIVED. GIVEN WITH THE SEED: THE CARDS: each row of YtiefcnghjcafbaaDoorRows.lean that lists a variable, with what it lists TIED to the program's text (the seventh form; the later family's looks); each row that meets fmt, with fmt's text TOLD by the authors' own Lean function (tested against real Go, not proved from fmt's source: count such statements apart). THE CARD IS WHAT COUNTS. Prove the row's statement (the work); the ties are given (YtiefcnghjcafbaaDoorTie.lean); close each card by the builder's one call (the guide's Derived/Test/ToyasCard.lean, 'card_holds'). Laid BY PROGRAM, IN A SANDBOX (cutbox-door.mjs). By AI agents, Wed Nov 11 2026. No macro, syntax, notation, axiom, sorry.
-/
import Derived.Test.YtiefcnghjcafbaaDoorRows
import GoSem.ClaimSeven
namespace Go.Proofs.YtiefcnghjcafbaaDoor
namespace Rows

/-- THE TIED CARD OF 'jobshelllaw19.FilesValid'. -/
def filesValidCard : Claim7 := { stood := { row := filesValidRow, standIns := [], harness := (true, "aca7594db9ff0d93d77f1e814c5b7da2aff19731a7df622b2ac5446e91a458f9"), looks := false }, kinds := [], alts := [], laidByText := true, laidKinds := [.data, .pinned], laidTests := true, laidLooks := .later }
def FilesValidCardSaid : Prop := Claim7.holds Tryd.pinned (.plain (OpenSpec.ofChange filesValidSpec)) filesValidCard

/-- THE TIED CARD OF 'jobshelllaw19.FilesCleans'. -/
def filesCleansCard : Claim7 := { stood := { row := filesCleansRow, standIns := [], harness := (true, "aca7594db9ff0d93d77f1e814c5b7da2aff19731a7df622b2ac5446e91a458f9"), looks := false }, kinds := [], alts := [], laidByText := true, laidKinds := [.data, .pinned], laidTests := true, laidLooks := .later }
def FilesCleansCardSaid : Prop := Claim7.holds Tryd.pinned (.plain (OpenSpec.ofChange filesCleansSpec)) filesCleansCard

/-- THE TIED CARD OF 'jobshelllaw19.FilesClosed'. -/
def filesClosedCard : Claim7 := { stood := { row := filesClosedRow, standIns := [], harness := (true, "aca7594db9ff0d93d77f1e814c5b7da2aff19731a7df622b2ac5446e91a458f9"), looks := false }, kinds := [], alts := [], laidByText := true, laidKinds := [.data, .pinned], laidTests := true, laidLooks := .later }
def FilesClosedCardSaid : Prop := Claim7.holds Tryd.pinned (.plain (OpenSpec.ofChange filesClosedSpec)) filesClosedCard

/-- THE TIED CARD OF 'jobshelllaw19.FilesChanges'. -/
def filesChangesCard : Claim7 := { stood := { row := filesChangesRow, standIns := [], harness := (true, "aca7594db9ff0d93d77f1e814c5b7da2aff19731a7df622b2ac5446e91a458f9"), looks := false }, kinds := [], alts := [], laidByText := true, laidKinds := [.data, .pinned], laidTests := true, laidLooks := .later }
def FilesChangesCardSaid : Prop := Claim7.holds Tryd.pinned (.plain (OpenSpec.ofChange filesChangesSpec)) filesChangesCard

/-- THE TIED CARD OF 'jobshelllaw19.FilesLooks'. -/
def filesLooksCard : Claim7 := { stood := { row := filesLooksRow, standIns := [], harness := (true, "aca7594db9ff0d93d77f1e814c5b7da2aff19731a7df622b2ac5446e91a458f9"), looks := false }, kinds := [], alts := [], laidByText := true, laidKinds := [.data, .pinned], laidTests := true, laidLooks := .later }
def FilesLooksCardSaid : Prop := Claim7.holds Tryd.pinned (.plain (OpenSpec.ofChange filesLooksSpec)) filesLooksCard

/-- THE SECOND FORM's CARD OF 'jobshelllaw19.FilesValid'. -/
def filesValidUptoCard : Claim7 := { stood := { row := filesValidUptoRow, standIns := [], harness := (true, "aca7594db9ff0d93d77f1e814c5b7da2aff19731a7df622b2ac5446e91a458f9"), looks := false }, kinds := [], alts := [], laidByText := true, laidKinds := [.data, .pinned], laidTests := true, laidLooks := .later }
def FilesValidUptoCardSaid : Prop := Claim7.holds Tryd.pinned (.plain (OpenSpec.upto filesValidSpec)) filesValidUptoCard

/-- THE SECOND FORM's CARD OF 'jobshelllaw19.FilesCleans'. -/
def filesCleansUptoCard : Claim7 := { stood := { row := filesCleansUptoRow, standIns := [], harness := (true, "aca7594db9ff0d93d77f1e814c5b7da2aff19731a7df622b2ac5446e91a458f9"), looks := false }, kinds := [], alts := [], laidByText := true, laidKinds := [.data, .pinned], laidTests := true, laidLooks := .later }
def FilesCleansUptoCardSaid : Prop := Claim7.holds Tryd.pinned (.plain (OpenSpec.upto filesCleansSpec)) filesCleansUptoCard

/-- THE SECOND FORM's CARD OF 'jobshelllaw19.FilesClosed'. -/
def filesClosedUptoCard : Claim7 := { stood := { row := filesClosedUptoRow, standIns := [], harness := (true, "aca7594db9ff0d93d77f1e814c5b7da2aff19731a7df622b2ac5446e91a458f9"), looks := false }, kinds := [], alts := [], laidByText := true, laidKinds := [.data, .pinned], laidTests := true, laidLooks := .later }
def FilesClosedUptoCardSaid : Prop := Claim7.holds Tryd.pinned (.plain (OpenSpec.upto filesClosedSpec)) filesClosedUptoCard

/-- THE SECOND FORM's CARD OF 'jobshelllaw19.FilesChanges'. -/
def filesChangesUptoCard : Claim7 := { stood := { row := filesChangesUptoRow, standIns := [], harness := (true, "aca7594db9ff0d93d77f1e814c5b7da2aff19731a7df622b2ac5446e91a458f9"), looks := false }, kinds := [], alts := [], laidByText := true, laidKinds := [.data, .pinned], laidTests := true, laidLooks := .later }
def FilesChangesUptoCardSaid : Prop := Claim7.holds Tryd.pinned (.plain (OpenSpec.upto filesChangesSpec)) filesChangesUptoCard

/-- THE SECOND FORM's CARD OF 'jobshelllaw19.FilesLooks'. -/
def filesLooksUptoCard : Claim7 := { stood := { row := filesLooksUptoRow, standIns := [], harness := (true, "aca7594db9ff0d93d77f1e814c5b7da2aff19731a7df622b2ac5446e91a458f9"), looks := false }, kinds := [], alts := [], laidByText := true, laidKinds := [.data, .pinned], laidTests := true, laidLooks := .later }
def FilesLooksUptoCardSaid : Prop := Claim7.holds Tryd.pinned (.plain (OpenSpec.upto filesLooksSpec)) filesLooksUptoCard
end Rows
end Go.Proofs.YtiefcnghjcafbaaDoor
