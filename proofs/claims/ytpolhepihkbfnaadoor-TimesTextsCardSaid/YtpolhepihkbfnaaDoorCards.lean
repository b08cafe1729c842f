/-
  DERIVED. GIVEN WITH THE SEED: THE CARDS: each row of YtpolhepihkbfnaaDoorRows.lean that lists a variable, with what it lists TIED to the program's text (the seventh form; the later family's looks); each row that meets fmt, with fmt's text TOLD by the authors' own Lean function (tested against real Go, not proved from fmt's source: count such statements apart). THE CARD IS WHAT COUNTS. Prove the row's statement (the work); the ties are given (YtpolhepihkbfnaaDoorTie.lean); close each card by the builder's one call (the guide's Derived/Test/ToyasCard.lean, 'card_holds'). Laid BY PROGRAM, IN A SANDBOX (cutbox-door.mjs). By AI agents, Wed Nov 11 2026. No macro, syntax, notation, axiom, sorry.
-/
import Derived.Test.YtpolhepihkbfnaaDoorRows
import GoSem.ClaimSeven
namespace Go.Proofs.YtpolhepihkbfnaaDoor
namespace Rows

/-- THE TIED CARD OF 'curfewlaw05.TimesTexts'. -/
def timesTextsCard : Claim7 := { stood := { row := timesTextsRow, standIns := [], harness := (true, "38898b37efb0f5731d3e9de5768cbe8b1c03b2ee9d8db4a867df609a619fd29a"), looks := false }, kinds := [], alts := [], laidByText := true, laidKinds := [.data], laidTests := true, laidLooks := .later }
def TimesTextsCardSaid : Prop := Claim7.holds Tryd.pinned (.plain (OpenSpec.ofChange timesTextsSpec)) timesTextsCard

/-- THE TIED CARD OF 'curfewlaw13.DueRises'. -/
def dueRisesCard : Claim7 := { stood := { row := dueRisesRow, standIns := [], harness := (true, "38898b37efb0f5731d3e9de5768cbe8b1c03b2ee9d8db4a867df609a619fd29a"), looks := false }, kinds := [], alts := [], laidByText := true, laidKinds := [.data, .data, .data], laidTests := true, laidLooks := .later }
def DueRisesCardSaid : Prop := Claim7.holds Tryd.pinned (.plain (OpenSpec.ofChange dueRisesSpec)) dueRisesCard

/-- THE SECOND FORM's CARD OF 'curfewlaw05.TimesTexts'. -/
def timesTextsUptoCard : Claim7 := { stood := { row := timesTextsUptoRow, standIns := [], harness := (true, "38898b37efb0f5731d3e9de5768cbe8b1c03b2ee9d8db4a867df609a619fd29a"), looks := false }, kinds := [], alts := [], laidByText := true, laidKinds := [.data], laidTests := true, laidLooks := .later }
def TimesTextsUptoCardSaid : Prop := Claim7.holds Tryd.pinned (.plain (OpenSpec.upto timesTextsSpec)) timesTextsUptoCard

/-- THE SECOND FORM's CARD OF 'curfewlaw13.DueRises'. -/
def dueRisesUptoCard : Claim7 := { stood := { row := dueRisesUptoRow, standIns := [], harness := (true, "38898b37efb0f5731d3e9de5768cbe8b1c03b2ee9d8db4a867df609a619fd29a"), looks := false }, kinds := [], alts := [], laidByText := true, laidKinds := [.data, .data, .data], laidTests := true, laidLooks := .later }
def DueRisesUptoCardSaid : Prop := Claim7.holds Tryd.pinned (.plain (OpenSpec.upto dueRisesSpec)) dueRisesUptoCard
end Rows
end Go.Proofs.YtpolhepihkbfnaaDoor
