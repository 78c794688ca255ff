/-
  DERIVED. GIVEN WITH THE SEED: THE CARDS: each row of YtfafmpiajlgojaaDoorRows.lean that lists a variable, with what it lists TIED to the program's text (the seventh form; the later family's looks); each row that meets fmt, with fmt's text TOLD by the authors' own Lean function (tested against real Go, not proved from fmt's source: count such statements apart). THE CARD IS WHAT COUNTS. Prove the row's statement (the work); the ties are given (YtfafmpiajlgojaaDoorTie.lean); close each card by the builder's one call (the guide's Derived/Test/ToyasCard.lean, 'card_holds'). Laid BY PROGRAM, IN A SANDBOX (cutbox-door.mjs). By AI agents, Wed Nov 11 2026. No macro, syntax, notation, axiom, sorry.
-/
import Derived.Test.YtfafmpiajlgojaaDoorRows
import GoSem.ClaimSeven
namespace Go.Proofs.YtfafmpiajlgojaaDoor
namespace Rows

/-- THE TIED CARD OF 'legationlaw02.NumberReads'. -/
def numberReadsCard : Claim7 := { stood := { row := numberReadsRow, standIns := [], harness := (true, "055e1eb55de29ad4523da430ef2418a122760fa27945439910cd0c3c51d8e551"), looks := false }, kinds := [], alts := [], laidByText := true, laidKinds := [.data, .data, .data], laidTests := true, laidLooks := .later }
def NumberReadsCardSaid : Prop := Claim7.holds Tryd.pinned (.plain (OpenSpec.ofChange numberReadsSpec)) numberReadsCard

/-- THE TIED CARD OF 'legationlaw02.NumberBack'. -/
def numberBackCard : Claim7 := { stood := { row := numberBackRow, standIns := [], harness := (true, "055e1eb55de29ad4523da430ef2418a122760fa27945439910cd0c3c51d8e551"), looks := false }, kinds := [], alts := [], laidByText := true, laidKinds := [.data, .data, .data], laidTests := true, laidLooks := .later }
def NumberBackCardSaid : Prop := Claim7.holds Tryd.pinned (.plain (OpenSpec.ofChange numberBackSpec)) numberBackCard

/-- THE TIED CARD OF 'legationlaw02.NumberOrders'. -/
def numberOrdersCard : Claim7 := { stood := { row := numberOrdersRow, standIns := [], harness := (true, "055e1eb55de29ad4523da430ef2418a122760fa27945439910cd0c3c51d8e551"), looks := false }, kinds := [], alts := [], laidByText := true, laidKinds := [.data, .data, .data], laidTests := true, laidLooks := .later }
def NumberOrdersCardSaid : Prop := Claim7.holds Tryd.pinned (.plain (OpenSpec.ofChange numberOrdersSpec)) numberOrdersCard

/-- THE TIED CARD OF 'legationlaw02.NumberLaws'. -/
def numberLawsCard : Claim7 := { stood := { row := numberLawsRow, standIns := [], harness := (true, "055e1eb55de29ad4523da430ef2418a122760fa27945439910cd0c3c51d8e551"), looks := false }, kinds := [], alts := [], laidByText := true, laidKinds := [.data, .data, .data], laidTests := true, laidLooks := .later }
def NumberLawsCardSaid : Prop := Claim7.holds Tryd.pinned (.plain (OpenSpec.ofChange numberLawsSpec)) numberLawsCard

/-- THE TIED CARD OF 'legationlaw02.NumberReckons'. -/
def numberReckonsCard : Claim7 := { stood := { row := numberReckonsRow, standIns := [], harness := (true, "055e1eb55de29ad4523da430ef2418a122760fa27945439910cd0c3c51d8e551"), looks := false }, kinds := [], alts := [], laidByText := true, laidKinds := [.data, .data, .data], laidTests := true, laidLooks := .later }
def NumberReckonsCardSaid : Prop := Claim7.holds Tryd.pinned (.plain (OpenSpec.ofChange numberReckonsSpec)) numberReckonsCard

/-- THE TIED CARD OF 'legationlaw02.NumberTexts'. -/
def numberTextsCard : Claim7 := { stood := { row := numberTextsRow, standIns := [], harness := (true, "055e1eb55de29ad4523da430ef2418a122760fa27945439910cd0c3c51d8e551"), looks := false }, kinds := [], alts := [], laidByText := true, laidKinds := [.data, .data, .data], laidTests := true, laidLooks := .later }
def NumberTextsCardSaid : Prop := Claim7.holds Tryd.pinned (.plain (OpenSpec.ofChange numberTextsSpec)) numberTextsCard

/-- THE SECOND FORM's CARD OF 'legationlaw02.NumberReads'. -/
def numberReadsUptoCard : Claim7 := { stood := { row := numberReadsUptoRow, standIns := [], harness := (true, "055e1eb55de29ad4523da430ef2418a122760fa27945439910cd0c3c51d8e551"), looks := false }, kinds := [], alts := [], laidByText := true, laidKinds := [.data, .data, .data], laidTests := true, laidLooks := .later }
def NumberReadsUptoCardSaid : Prop := Claim7.holds Tryd.pinned (.plain (OpenSpec.upto numberReadsSpec)) numberReadsUptoCard

/-- THE SECOND FORM's CARD OF 'legationlaw02.NumberBack'. -/
def numberBackUptoCard : Claim7 := { stood := { row := numberBackUptoRow, standIns := [], harness := (true, "055e1eb55de29ad4523da430ef2418a122760fa27945439910cd0c3c51d8e551"), looks := false }, kinds := [], alts := [], laidByText := true, laidKinds := [.data, .data, .data], laidTests := true, laidLooks := .later }
def NumberBackUptoCardSaid : Prop := Claim7.holds Tryd.pinned (.plain (OpenSpec.upto numberBackSpec)) numberBackUptoCard

/-- THE SECOND FORM's CARD OF 'legationlaw02.NumberOrders'. -/
def numberOrdersUptoCard : Claim7 := { stood := { row := numberOrdersUptoRow, standIns := [], harness := (true, "055e1eb55de29ad4523da430ef2418a122760fa27945439910cd0c3c51d8e551"), looks := false }, kinds := [], alts := [], laidByText := true, laidKinds := [.data, .data, .data], laidTests := true, laidLooks := .later }
def NumberOrdersUptoCardSaid : Prop := Claim7.holds Tryd.pinned (.plain (OpenSpec.upto numberOrdersSpec)) numberOrdersUptoCard

/-- THE SECOND FORM's CARD OF 'legationlaw02.NumberLaws'. -/
def numberLawsUptoCard : Claim7 := { stood := { row := numberLawsUptoRow, standIns := [], harness := (true, "055e1eb55de29ad4523da430ef2418a122760fa27945439910cd0c3c51d8e551"), looks := false }, kinds := [], alts := [], laidByText := true, laidKinds := [.data, .data, .data], laidTests := true, laidLooks := .later }
def NumberLawsUptoCardSaid : Prop := Claim7.holds Tryd.pinned (.plain (OpenSpec.upto numberLawsSpec)) numberLawsUptoCard

/-- THE SECOND FORM's CARD OF 'legationlaw02.NumberReckons'. -/
def numberReckonsUptoCard : Claim7 := { stood := { row := numberReckonsUptoRow, standIns := [], harness := (true, "055e1eb55de29ad4523da430ef2418a122760fa27945439910cd0c3c51d8e551"), looks := false }, kinds := [], alts := [], laidByText := true, laidKinds := [.data, .data, .data], laidTests := true, laidLooks := .later }
def NumberReckonsUptoCardSaid : Prop := Claim7.holds Tryd.pinned (.plain (OpenSpec.upto numberReckonsSpec)) numberReckonsUptoCard

/-- THE SECOND FORM's CARD OF 'legationlaw02.NumberTexts'. -/
def numberTextsUptoCard : Claim7 := { stood := { row := numberTextsUptoRow, standIns := [], harness := (true, "055e1eb55de29ad4523da430ef2418a122760fa27945439910cd0c3c51d8e551"), looks := false }, kinds := [], alts := [], laidByText := true, laidKinds := [.data, .data, .data], laidTests := true, laidLooks := .later }
def NumberTextsUptoCardSaid : Prop := Claim7.holds Tryd.pinned (.plain (OpenSpec.upto numberTextsSpec)) numberTextsUptoCard
end Rows
end Go.Proofs.YtfafmpiajlgojaaDoor
