/-
  DERIVED. GIVEN WITH THE SEED: THE CARDS: each row of YtjkpfnmkhjlllaaGreatDoorRows.lean that lists a variable, with what it lists TIED to the program's text (the seventh form; the later family's looks); each row that meets fmt, with fmt's text TOLD by the authors' own Lean function (tested against real Go, not proved from fmt's source: count such statements apart). THE CARD IS WHAT COUNTS. Prove the row's statement (the work); the ties are given (YtjkpfnmkhjlllaaGreatDoorTie.lean); close each card by the builder's one call (the guide's Derived/Test/ToyasCard.lean, 'card_holds'). Laid BY PROGRAM, IN A SANDBOX (cutbox-door.mjs). By AI agents, Wed Nov 11 2026. No macro, syntax, notation, axiom, sorry.
-/
import Derived.Test.YtjkpfnmkhjlllaaGreatDoorRows
import GoSem.ClaimSeven
namespace Go.Proofs.YtjkpfnmkhjlllaaGreatDoor
namespace Rows

/-- THE TIED CARD OF 'rosarylaw15.GiveOnce'. -/
def giveOnceCard : Claim7 := { stood := { row := giveOnceRow, standIns := [], harness := (true, "1055b9d002cb9d9bc56ecc2854e2abc2145894f1731fa546009b8ab54a7ff1f5"), looks := false }, kinds := [], alts := [], laidByText := true, laidKinds := [.data, .pinned], laidTests := true, laidLooks := .later }
def GiveOnceCardSaid : Prop := Claim7.holds Tryz.pinned (.plain (OpenSpec.ofChange giveOnceSpec)) giveOnceCard

/-- THE TIED CARD OF 'rosarylaw16.TakeRefuses'. -/
def takeRefusesCard : Claim7 := { stood := { row := takeRefusesRow, standIns := [], harness := (true, "1055b9d002cb9d9bc56ecc2854e2abc2145894f1731fa546009b8ab54a7ff1f5"), looks := false }, kinds := [], alts := [], laidByText := true, laidKinds := [.data, .pinned], laidTests := true, laidLooks := .later }
def TakeRefusesCardSaid : Prop := Claim7.holds Tryz.pinned (.plain (OpenSpec.ofChange takeRefusesSpec)) takeRefusesCard

/-- THE TIED CARD OF 'rosarylaw16.TakeUnseen'. -/
def takeUnseenCard : Claim7 := { stood := { row := takeUnseenRow, standIns := [], harness := (true, "1055b9d002cb9d9bc56ecc2854e2abc2145894f1731fa546009b8ab54a7ff1f5"), looks := false }, kinds := [], alts := [], laidByText := true, laidKinds := [.data, .pinned], laidTests := true, laidLooks := .later }
def TakeUnseenCardSaid : Prop := Claim7.holds Tryz.pinned (.plain (OpenSpec.ofChange takeUnseenSpec)) takeUnseenCard

/-- THE TIED CARD OF 'rosarylaw16.TakeWrong'. -/
def takeWrongCard : Claim7 := { stood := { row := takeWrongRow, standIns := [], harness := (true, "1055b9d002cb9d9bc56ecc2854e2abc2145894f1731fa546009b8ab54a7ff1f5"), looks := false }, kinds := [], alts := [], laidByText := true, laidKinds := [.data, .pinned], laidTests := true, laidLooks := .later }
def TakeWrongCardSaid : Prop := Claim7.holds Tryz.pinned (.plain (OpenSpec.ofChange takeWrongSpec)) takeWrongCard

/-- THE TIED CARD OF 'rosarylaw14.HoldArcs'. -/
def holdArcsCard : Claim7 := { stood := { row := holdArcsRow, standIns := [], harness := (true, "1055b9d002cb9d9bc56ecc2854e2abc2145894f1731fa546009b8ab54a7ff1f5"), looks := false }, kinds := [], alts := [], laidByText := true, laidKinds := [.data, .pinned], laidTests := true, laidLooks := .later }
def HoldArcsCardSaid : Prop := Claim7.holds Tryz.pinned (.plain (OpenSpec.ofChange holdArcsSpec)) holdArcsCard

/-- THE TIED CARD OF 'rosarylaw14.HoldPoints'. -/
def holdPointsCard : Claim7 := { stood := { row := holdPointsRow, standIns := [], harness := (true, "1055b9d002cb9d9bc56ecc2854e2abc2145894f1731fa546009b8ab54a7ff1f5"), looks := false }, kinds := [], alts := [], laidByText := true, laidKinds := [.data, .pinned], laidTests := true, laidLooks := .later }
def HoldPointsCardSaid : Prop := Claim7.holds Tryz.pinned (.plain (OpenSpec.ofChange holdPointsSpec)) holdPointsCard

/-- THE TIED CARD OF 'rosarylaw15.GiveStops'. -/
def giveStopsCard : Claim7 := { stood := { row := giveStopsRow, standIns := [], harness := (true, "1055b9d002cb9d9bc56ecc2854e2abc2145894f1731fa546009b8ab54a7ff1f5"), looks := false }, kinds := [], alts := [], laidByText := true, laidKinds := [.data, .pinned], laidTests := true, laidLooks := .later }
def GiveStopsCardSaid : Prop := Claim7.holds Tryz.pinned (.plain (OpenSpec.ofChange giveStopsSpec)) giveStopsCard

/-- THE TIED CARD OF 'rosarylaw15.GivePlays'. -/
def givePlaysCard : Claim7 := { stood := { row := givePlaysRow, standIns := [], harness := (true, "1055b9d002cb9d9bc56ecc2854e2abc2145894f1731fa546009b8ab54a7ff1f5"), looks := false }, kinds := [], alts := [], laidByText := true, laidKinds := [.data, .pinned], laidTests := true, laidLooks := .later }
def GivePlaysCardSaid : Prop := Claim7.holds Tryz.pinned (.plain (OpenSpec.ofChange givePlaysSpec)) givePlaysCard

/-- THE TIED CARD OF 'rosarylaw16.TakeGives'. -/
def takeGivesCard : Claim7 := { stood := { row := takeGivesRow, standIns := [], harness := (true, "1055b9d002cb9d9bc56ecc2854e2abc2145894f1731fa546009b8ab54a7ff1f5"), looks := false }, kinds := [], alts := [], laidByText := true, laidKinds := [.data, .pinned], laidTests := true, laidLooks := .later }
def TakeGivesCardSaid : Prop := Claim7.holds Tryz.pinned (.plain (OpenSpec.ofChange takeGivesSpec)) takeGivesCard

/-- THE SECOND FORM's CARD OF 'rosarylaw15.GiveOnce'. -/
def giveOnceUptoCard : Claim7 := { stood := { row := giveOnceUptoRow, standIns := [], harness := (true, "1055b9d002cb9d9bc56ecc2854e2abc2145894f1731fa546009b8ab54a7ff1f5"), looks := false }, kinds := [], alts := [], laidByText := true, laidKinds := [.data, .pinned], laidTests := true, laidLooks := .later }
def GiveOnceUptoCardSaid : Prop := Claim7.holds Tryz.pinned (.plain (OpenSpec.upto giveOnceSpec)) giveOnceUptoCard

/-- THE SECOND FORM's CARD OF 'rosarylaw16.TakeRefuses'. -/
def takeRefusesUptoCard : Claim7 := { stood := { row := takeRefusesUptoRow, standIns := [], harness := (true, "1055b9d002cb9d9bc56ecc2854e2abc2145894f1731fa546009b8ab54a7ff1f5"), looks := false }, kinds := [], alts := [], laidByText := true, laidKinds := [.data, .pinned], laidTests := true, laidLooks := .later }
def TakeRefusesUptoCardSaid : Prop := Claim7.holds Tryz.pinned (.plain (OpenSpec.upto takeRefusesSpec)) takeRefusesUptoCard

/-- THE SECOND FORM's CARD OF 'rosarylaw16.TakeUnseen'. -/
def takeUnseenUptoCard : Claim7 := { stood := { row := takeUnseenUptoRow, standIns := [], harness := (true, "1055b9d002cb9d9bc56ecc2854e2abc2145894f1731fa546009b8ab54a7ff1f5"), looks := false }, kinds := [], alts := [], laidByText := true, laidKinds := [.data, .pinned], laidTests := true, laidLooks := .later }
def TakeUnseenUptoCardSaid : Prop := Claim7.holds Tryz.pinned (.plain (OpenSpec.upto takeUnseenSpec)) takeUnseenUptoCard

/-- THE SECOND FORM's CARD OF 'rosarylaw16.TakeWrong'. -/
def takeWrongUptoCard : Claim7 := { stood := { row := takeWrongUptoRow, standIns := [], harness := (true, "1055b9d002cb9d9bc56ecc2854e2abc2145894f1731fa546009b8ab54a7ff1f5"), looks := false }, kinds := [], alts := [], laidByText := true, laidKinds := [.data, .pinned], laidTests := true, laidLooks := .later }
def TakeWrongUptoCardSaid : Prop := Claim7.holds Tryz.pinned (.plain (OpenSpec.upto takeWrongSpec)) takeWrongUptoCard

/-- THE SECOND FORM's CARD OF 'rosarylaw14.HoldArcs'. -/
def holdArcsUptoCard : Claim7 := { stood := { row := holdArcsUptoRow, standIns := [], harness := (true, "1055b9d002cb9d9bc56ecc2854e2abc2145894f1731fa546009b8ab54a7ff1f5"), looks := false }, kinds := [], alts := [], laidByText := true, laidKinds := [.data, .pinned], laidTests := true, laidLooks := .later }
def HoldArcsUptoCardSaid : Prop := Claim7.holds Tryz.pinned (.plain (OpenSpec.upto holdArcsSpec)) holdArcsUptoCard

/-- THE SECOND FORM's CARD OF 'rosarylaw14.HoldPoints'. -/
def holdPointsUptoCard : Claim7 := { stood := { row := holdPointsUptoRow, standIns := [], harness := (true, "1055b9d002cb9d9bc56ecc2854e2abc2145894f1731fa546009b8ab54a7ff1f5"), looks := false }, kinds := [], alts := [], laidByText := true, laidKinds := [.data, .pinned], laidTests := true, laidLooks := .later }
def HoldPointsUptoCardSaid : Prop := Claim7.holds Tryz.pinned (.plain (OpenSpec.upto holdPointsSpec)) holdPointsUptoCard

/-- THE SECOND FORM's CARD OF 'rosarylaw15.GiveStops'. -/
def giveStopsUptoCard : Claim7 := { stood := { row := giveStopsUptoRow, standIns := [], harness := (true, "1055b9d002cb9d9bc56ecc2854e2abc2145894f1731fa546009b8ab54a7ff1f5"), looks := false }, kinds := [], alts := [], laidByText := true, laidKinds := [.data, .pinned], laidTests := true, laidLooks := .later }
def GiveStopsUptoCardSaid : Prop := Claim7.holds Tryz.pinned (.plain (OpenSpec.upto giveStopsSpec)) giveStopsUptoCard

/-- THE SECOND FORM's CARD OF 'rosarylaw15.GivePlays'. -/
def givePlaysUptoCard : Claim7 := { stood := { row := givePlaysUptoRow, standIns := [], harness := (true, "1055b9d002cb9d9bc56ecc2854e2abc2145894f1731fa546009b8ab54a7ff1f5"), looks := false }, kinds := [], alts := [], laidByText := true, laidKinds := [.data, .pinned], laidTests := true, laidLooks := .later }
def GivePlaysUptoCardSaid : Prop := Claim7.holds Tryz.pinned (.plain (OpenSpec.upto givePlaysSpec)) givePlaysUptoCard

/-- THE SECOND FORM's CARD OF 'rosarylaw16.TakeGives'. -/
def takeGivesUptoCard : Claim7 := { stood := { row := takeGivesUptoRow, standIns := [], harness := (true, "1055b9d002cb9d9bc56ecc2854e2abc2145894f1731fa546009b8ab54a7ff1f5"), looks := false }, kinds := [], alts := [], laidByText := true, laidKinds := [.data, .pinned], laidTests := true, laidLooks := .later }
def TakeGivesUptoCardSaid : Prop := Claim7.holds Tryz.pinned (.plain (OpenSpec.upto takeGivesSpec)) takeGivesUptoCard
end Rows
end Go.Proofs.YtjkpfnmkhjlllaaGreatDoor
