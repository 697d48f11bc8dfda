/-
  DERIVED. GIVEN WITH THE SEED: THE CARDS: each row of YtlaahjcdbdipdaaGreatDoorRows.lean that lists a variable, with what it lists TIED to the program's text (the seventh form; the later family's looks); each row that meets fmt, with fmt's text TOLD by the authors' own Lean function (tested against real Go, not proved from fmt's source: count such statements apart). THE CARD IS WHAT COUNTS. Prove the row's statement (the work); the ties are given (YtlaahjcdbdipdaaGreatDoorTie.lean); close each card by the builder's one call (the guide's Derived/Test/ToyasCard.lean, 'card_holds'). Laid BY PROGRAM, IN A SANDBOX (cutbox-door.mjs). By AI agents, Wed Nov 11 2026. No macro, syntax, notation, axiom, sorry.
-/
import Derived.Test.YtlaahjcdbdipdaaGreatDoorRows
import GoSem.ClaimSeven
namespace Go.Proofs.YtlaahjcdbdipdaaGreatDoor
namespace Rows

/-- THE TIED CARD OF 'nunciolaw21.AppNew'. -/
def appNewCard : Claim7 := { stood := { row := appNewRow, standIns := [], harness := (true, "ae87aa43bd22bfb60bcf32b4b9a0d6d0ace431eafdd55444d6a15b64221f17bb"), looks := true }, kinds := [], alts := [], laidByText := true, laidKinds := [.data, .data, .data, .data, .data, .sentinel, .pinned], laidTests := true, laidLooks := .later }
def AppNewCardSaid : Prop := Claim7.holds Tryz.pinned (.plain (OpenSpec.ofChange appNewSpec)) appNewCard

/-- THE TIED CARD OF 'nunciolaw21.AppSums'. -/
def appSumsCard : Claim7 := { stood := { row := appSumsRow, standIns := [], harness := (true, "ae87aa43bd22bfb60bcf32b4b9a0d6d0ace431eafdd55444d6a15b64221f17bb"), looks := true }, kinds := [], alts := [], laidByText := true, laidKinds := [.data, .data, .data, .data, .data, .sentinel, .pinned], laidTests := true, laidLooks := .later }
def AppSumsCardSaid : Prop := Claim7.holds Tryz.pinned (.plain (OpenSpec.ofChange appSumsSpec)) appSumsCard

/-- THE TIED CARD OF 'nunciolaw21.AppPays'. -/
def appPaysCard : Claim7 := { stood := { row := appPaysRow, standIns := [], harness := (true, "ae87aa43bd22bfb60bcf32b4b9a0d6d0ace431eafdd55444d6a15b64221f17bb"), looks := true }, kinds := [], alts := [], laidByText := true, laidKinds := [.data, .data, .data, .data, .data, .sentinel, .pinned], laidTests := true, laidLooks := .later }
def AppPaysCardSaid : Prop := Claim7.holds Tryz.pinned (.plain (OpenSpec.ofChange appPaysSpec)) appPaysCard

/-- THE TIED CARD OF 'nunciolaw21.AppPlays'. -/
def appPlaysCard : Claim7 := { stood := { row := appPlaysRow, standIns := [], harness := (true, "ae87aa43bd22bfb60bcf32b4b9a0d6d0ace431eafdd55444d6a15b64221f17bb"), looks := true }, kinds := [], alts := [], laidByText := true, laidKinds := [.data, .data, .data, .data, .data, .sentinel, .pinned], laidTests := true, laidLooks := .later }
def AppPlaysCardSaid : Prop := Claim7.holds Tryz.pinned (.plain (OpenSpec.ofChange appPlaysSpec)) appPlaysCard

/-- THE TIED CARD OF 'nunciolaw21.AppWhole'. -/
def appWholeCard : Claim7 := { stood := { row := appWholeRow, standIns := [], harness := (true, "ae87aa43bd22bfb60bcf32b4b9a0d6d0ace431eafdd55444d6a15b64221f17bb"), looks := true }, kinds := [], alts := [], laidByText := true, laidKinds := [.data, .data, .data, .data, .data, .sentinel, .pinned], laidTests := true, laidLooks := .later }
def AppWholeCardSaid : Prop := Claim7.holds Tryz.pinned (.plain (OpenSpec.ofChange appWholeSpec)) appWholeCard

/-- THE TIED CARD OF 'nunciolaw21.AppNil'. -/
def appNilCard : Claim7 := { stood := { row := appNilRow, standIns := [], harness := (true, "ae87aa43bd22bfb60bcf32b4b9a0d6d0ace431eafdd55444d6a15b64221f17bb"), looks := true }, kinds := [], alts := [], laidByText := true, laidKinds := [.data, .data, .data, .data, .data, .sentinel, .pinned], laidTests := true, laidLooks := .later }
def AppNilCardSaid : Prop := Claim7.holds Tryz.pinned (.plain (OpenSpec.ofChange appNilSpec)) appNilCard

/-- THE SECOND FORM's CARD OF 'nunciolaw21.AppNew'. -/
def appNewUptoCard : Claim7 := { stood := { row := appNewUptoRow, standIns := [], harness := (true, "ae87aa43bd22bfb60bcf32b4b9a0d6d0ace431eafdd55444d6a15b64221f17bb"), looks := true }, kinds := [], alts := [], laidByText := true, laidKinds := [.data, .data, .data, .data, .data, .sentinel, .pinned], laidTests := true, laidLooks := .later }
def AppNewUptoCardSaid : Prop := Claim7.holds Tryz.pinned (.plain (OpenSpec.upto appNewSpec)) appNewUptoCard

/-- THE SECOND FORM's CARD OF 'nunciolaw21.AppSums'. -/
def appSumsUptoCard : Claim7 := { stood := { row := appSumsUptoRow, standIns := [], harness := (true, "ae87aa43bd22bfb60bcf32b4b9a0d6d0ace431eafdd55444d6a15b64221f17bb"), looks := true }, kinds := [], alts := [], laidByText := true, laidKinds := [.data, .data, .data, .data, .data, .sentinel, .pinned], laidTests := true, laidLooks := .later }
def AppSumsUptoCardSaid : Prop := Claim7.holds Tryz.pinned (.plain (OpenSpec.upto appSumsSpec)) appSumsUptoCard

/-- THE SECOND FORM's CARD OF 'nunciolaw21.AppPays'. -/
def appPaysUptoCard : Claim7 := { stood := { row := appPaysUptoRow, standIns := [], harness := (true, "ae87aa43bd22bfb60bcf32b4b9a0d6d0ace431eafdd55444d6a15b64221f17bb"), looks := true }, kinds := [], alts := [], laidByText := true, laidKinds := [.data, .data, .data, .data, .data, .sentinel, .pinned], laidTests := true, laidLooks := .later }
def AppPaysUptoCardSaid : Prop := Claim7.holds Tryz.pinned (.plain (OpenSpec.upto appPaysSpec)) appPaysUptoCard

/-- THE SECOND FORM's CARD OF 'nunciolaw21.AppPlays'. -/
def appPlaysUptoCard : Claim7 := { stood := { row := appPlaysUptoRow, standIns := [], harness := (true, "ae87aa43bd22bfb60bcf32b4b9a0d6d0ace431eafdd55444d6a15b64221f17bb"), looks := true }, kinds := [], alts := [], laidByText := true, laidKinds := [.data, .data, .data, .data, .data, .sentinel, .pinned], laidTests := true, laidLooks := .later }
def AppPlaysUptoCardSaid : Prop := Claim7.holds Tryz.pinned (.plain (OpenSpec.upto appPlaysSpec)) appPlaysUptoCard

/-- THE SECOND FORM's CARD OF 'nunciolaw21.AppWhole'. -/
def appWholeUptoCard : Claim7 := { stood := { row := appWholeUptoRow, standIns := [], harness := (true, "ae87aa43bd22bfb60bcf32b4b9a0d6d0ace431eafdd55444d6a15b64221f17bb"), looks := true }, kinds := [], alts := [], laidByText := true, laidKinds := [.data, .data, .data, .data, .data, .sentinel, .pinned], laidTests := true, laidLooks := .later }
def AppWholeUptoCardSaid : Prop := Claim7.holds Tryz.pinned (.plain (OpenSpec.upto appWholeSpec)) appWholeUptoCard

/-- THE SECOND FORM's CARD OF 'nunciolaw21.AppNil'. -/
def appNilUptoCard : Claim7 := { stood := { row := appNilUptoRow, standIns := [], harness := (true, "ae87aa43bd22bfb60bcf32b4b9a0d6d0ace431eafdd55444d6a15b64221f17bb"), looks := true }, kinds := [], alts := [], laidByText := true, laidKinds := [.data, .data, .data, .data, .data, .sentinel, .pinned], laidTests := true, laidLooks := .later }
def AppNilUptoCardSaid : Prop := Claim7.holds Tryz.pinned (.plain (OpenSpec.upto appNilSpec)) appNilUptoCard
end Rows
end Go.Proofs.YtlaahjcdbdipdaaGreatDoor
