/-
  DERIVED. GIVEN WITH THE SEED: THE CARDS: each row of YtjghnfnlhmhmkaaDoorRows.lean that lists a variable, with what it lists TIED to the program's text (the seventh form; the later family's looks); each row that meets fmt, with fmt's text TOLD by the authors' own Lean function (tested against real Go, not proved from fmt's source: count such statements apart). THE CARD IS WHAT COUNTS. Prove the row's statement (the work); the ties are given (YtjghnfnlhmhmkaaDoorTie.lean); close each card by the builder's one call (the guide's Derived/Test/ToyasCard.lean, 'card_holds'). Laid BY PROGRAM, IN A SANDBOX (cutbox-door.mjs). By AI agents, Wed Nov 11 2026. No macro, syntax, notation, axiom, sorry.
-/
import Derived.Test.YtjghnfnlhmhmkaaDoorRows
import GoSem.ClaimSeven
namespace Go.Proofs.YtjghnfnlhmhmkaaDoor
namespace Rows

/-- THE TIED CARD OF 'nunciolaw18.BankSums'. -/
def bankSumsCard : Claim7 := { stood := { row := bankSumsRow, standIns := [], harness := (true, "96ff2c5e96fe86c58cc7cd78ca7b5be49c946e9d3c2951366f337dacefbb7044"), looks := true }, kinds := [], alts := [], laidByText := true, laidKinds := [.data, .data, .data, .data, .pinned], laidTests := true, laidLooks := .later }
def BankSumsCardSaid : Prop := Claim7.holds Tryd.pinned (.plain (OpenSpec.ofChange bankSumsSpec)) bankSumsCard

/-- THE TIED CARD OF 'nunciolaw18.BankBack'. -/
def bankBackCard : Claim7 := { stood := { row := bankBackRow, standIns := [], harness := (true, "96ff2c5e96fe86c58cc7cd78ca7b5be49c946e9d3c2951366f337dacefbb7044"), looks := true }, kinds := [], alts := [], laidByText := true, laidKinds := [.data, .data, .data, .data, .pinned], laidTests := true, laidLooks := .later }
def BankBackCardSaid : Prop := Claim7.holds Tryd.pinned (.plain (OpenSpec.ofChange bankBackSpec)) bankBackCard

/-- THE TIED CARD OF 'nunciolaw18.BankParts'. -/
def bankPartsCard : Claim7 := { stood := { row := bankPartsRow, standIns := [], harness := (true, "96ff2c5e96fe86c58cc7cd78ca7b5be49c946e9d3c2951366f337dacefbb7044"), looks := true }, kinds := [], alts := [], laidByText := true, laidKinds := [.data, .data, .data, .data, .pinned], laidTests := true, laidLooks := .later }
def BankPartsCardSaid : Prop := Claim7.holds Tryd.pinned (.plain (OpenSpec.ofChange bankPartsSpec)) bankPartsCard

/-- THE TIED CARD OF 'nunciolaw18.BankPlays'. -/
def bankPlaysCard : Claim7 := { stood := { row := bankPlaysRow, standIns := [], harness := (true, "96ff2c5e96fe86c58cc7cd78ca7b5be49c946e9d3c2951366f337dacefbb7044"), looks := true }, kinds := [], alts := [], laidByText := true, laidKinds := [.data, .data, .data, .data, .pinned], laidTests := true, laidLooks := .later }
def BankPlaysCardSaid : Prop := Claim7.holds Tryd.pinned (.plain (OpenSpec.ofChange bankPlaysSpec)) bankPlaysCard

/-- THE TIED CARD OF 'nunciolaw18.BankNil'. -/
def bankNilCard : Claim7 := { stood := { row := bankNilRow, standIns := [], harness := (true, "96ff2c5e96fe86c58cc7cd78ca7b5be49c946e9d3c2951366f337dacefbb7044"), looks := true }, kinds := [], alts := [], laidByText := true, laidKinds := [.data, .data, .data, .data, .pinned], laidTests := true, laidLooks := .later }
def BankNilCardSaid : Prop := Claim7.holds Tryd.pinned (.plain (OpenSpec.ofChange bankNilSpec)) bankNilCard

/-- THE SECOND FORM's CARD OF 'nunciolaw18.BankSums'. -/
def bankSumsUptoCard : Claim7 := { stood := { row := bankSumsUptoRow, standIns := [], harness := (true, "96ff2c5e96fe86c58cc7cd78ca7b5be49c946e9d3c2951366f337dacefbb7044"), looks := true }, kinds := [], alts := [], laidByText := true, laidKinds := [.data, .data, .data, .data, .pinned], laidTests := true, laidLooks := .later }
def BankSumsUptoCardSaid : Prop := Claim7.holds Tryd.pinned (.plain (OpenSpec.upto bankSumsSpec)) bankSumsUptoCard

/-- THE SECOND FORM's CARD OF 'nunciolaw18.BankBack'. -/
def bankBackUptoCard : Claim7 := { stood := { row := bankBackUptoRow, standIns := [], harness := (true, "96ff2c5e96fe86c58cc7cd78ca7b5be49c946e9d3c2951366f337dacefbb7044"), looks := true }, kinds := [], alts := [], laidByText := true, laidKinds := [.data, .data, .data, .data, .pinned], laidTests := true, laidLooks := .later }
def BankBackUptoCardSaid : Prop := Claim7.holds Tryd.pinned (.plain (OpenSpec.upto bankBackSpec)) bankBackUptoCard

/-- THE SECOND FORM's CARD OF 'nunciolaw18.BankParts'. -/
def bankPartsUptoCard : Claim7 := { stood := { row := bankPartsUptoRow, standIns := [], harness := (true, "96ff2c5e96fe86c58cc7cd78ca7b5be49c946e9d3c2951366f337dacefbb7044"), looks := true }, kinds := [], alts := [], laidByText := true, laidKinds := [.data, .data, .data, .data, .pinned], laidTests := true, laidLooks := .later }
def BankPartsUptoCardSaid : Prop := Claim7.holds Tryd.pinned (.plain (OpenSpec.upto bankPartsSpec)) bankPartsUptoCard

/-- THE SECOND FORM's CARD OF 'nunciolaw18.BankPlays'. -/
def bankPlaysUptoCard : Claim7 := { stood := { row := bankPlaysUptoRow, standIns := [], harness := (true, "96ff2c5e96fe86c58cc7cd78ca7b5be49c946e9d3c2951366f337dacefbb7044"), looks := true }, kinds := [], alts := [], laidByText := true, laidKinds := [.data, .data, .data, .data, .pinned], laidTests := true, laidLooks := .later }
def BankPlaysUptoCardSaid : Prop := Claim7.holds Tryd.pinned (.plain (OpenSpec.upto bankPlaysSpec)) bankPlaysUptoCard

/-- THE SECOND FORM's CARD OF 'nunciolaw18.BankNil'. -/
def bankNilUptoCard : Claim7 := { stood := { row := bankNilUptoRow, standIns := [], harness := (true, "96ff2c5e96fe86c58cc7cd78ca7b5be49c946e9d3c2951366f337dacefbb7044"), looks := true }, kinds := [], alts := [], laidByText := true, laidKinds := [.data, .data, .data, .data, .pinned], laidTests := true, laidLooks := .later }
def BankNilUptoCardSaid : Prop := Claim7.holds Tryd.pinned (.plain (OpenSpec.upto bankNilSpec)) bankNilUptoCard
end Rows
end Go.Proofs.YtjghnfnlhmhmkaaDoor
