/-
  DERIVED. GIVEN WITH THE SEED: THE CARDS: each row of YtnjkbffmmgckeaaGreatDoorRows.lean that lists a variable, with what it lists TIED to the program's text (the seventh form; the later family's looks); each row that meets fmt, with fmt's text TOLD by the authors' own Lean function (tested against real Go, not proved from fmt's source: count such statements apart). THE CARD IS WHAT COUNTS. Prove the row's statement (the work); the ties are given (YtnjkbffmmgckeaaGreatDoorTie.lean); close each card by the builder's one call (the guide's Derived/Test/ToyasCard.lean, 'card_holds'). Laid BY PROGRAM, IN A SANDBOX (cutbox-door.mjs). By AI agents, Wed Nov 11 2026. No macro, syntax, notation, axiom, sorry.
-/
import Derived.Test.YtnjkbffmmgckeaaGreatDoorRows
import GoSem.ClaimSeven
namespace Go.Proofs.YtnjkbffmmgckeaaGreatDoor
namespace Rows

/-- THE TIED CARD OF 'laws.FnExactFreeNow'. -/
def fnExactFreeNowCard : Claim7 := { stood := { row := fnExactFreeNowRow, standIns := [], harness := (true, "64f4c2480bf5e71810b9be8d3cb71ba3536b57de6522ff8e8ff7cfad7a9a386b"), looks := false }, kinds := [], alts := [], goes := true, laidByText := true, laidKinds := [.data, .data, .data], laidTests := true, laidLooks := .later }
def FnExactFreeNowCardSaid : Prop := Claim7.holds Tryz.pinned (.plain (OpenSpec.ofChange fnExactFreeNowSpec)) fnExactFreeNowCard

/-- THE TIED CARD OF 'laws.FnExactWaitingCalls'. -/
def fnExactWaitingCallsCard : Claim7 := { stood := { row := fnExactWaitingCallsRow, standIns := [], harness := (true, "64f4c2480bf5e71810b9be8d3cb71ba3536b57de6522ff8e8ff7cfad7a9a386b"), looks := false }, kinds := [], alts := [], goes := true, laidByText := true, laidKinds := [.data, .data, .data], laidTests := true, laidLooks := .later }
def FnExactWaitingCallsCardSaid : Prop := Claim7.holds Tryz.pinned (.plain (OpenSpec.ofChange fnExactWaitingCallsSpec)) fnExactWaitingCallsCard

/-- THE TIED CARD OF 'laws.FnExactRecordsOf'. -/
def fnExactRecordsOfCard : Claim7 := { stood := { row := fnExactRecordsOfRow, standIns := [], harness := (true, "64f4c2480bf5e71810b9be8d3cb71ba3536b57de6522ff8e8ff7cfad7a9a386b"), looks := false }, kinds := [], alts := [], goes := true, laidByText := true, laidKinds := [.data, .data, .data], laidTests := true, laidLooks := .later }
def FnExactRecordsOfCardSaid : Prop := Claim7.holds Tryz.pinned (.plain (OpenSpec.ofChange fnExactRecordsOfSpec)) fnExactRecordsOfCard

/-- THE TIED CARD OF 'laws.FnRecordValid'. -/
def fnRecordValidCard : Claim7 := { stood := { row := fnRecordValidRow, standIns := [], harness := (true, "64f4c2480bf5e71810b9be8d3cb71ba3536b57de6522ff8e8ff7cfad7a9a386b"), looks := false }, kinds := [], alts := [], goes := true, laidByText := true, laidKinds := [.data, .data, .data], laidTests := true, laidLooks := .later }
def FnRecordValidCardSaid : Prop := Claim7.holds Tryz.pinned (.plain (OpenSpec.ofChange fnRecordValidSpec)) fnRecordValidCard

/-- THE TIED CARD OF 'laws.FnWaiting'. -/
def fnWaitingCard : Claim7 := { stood := { row := fnWaitingRow, standIns := [], harness := (true, "64f4c2480bf5e71810b9be8d3cb71ba3536b57de6522ff8e8ff7cfad7a9a386b"), looks := false }, kinds := [], alts := [], goes := true, laidByText := true, laidKinds := [.data, .data, .data], laidTests := true, laidLooks := .later }
def FnWaitingCardSaid : Prop := Claim7.holds Tryz.pinned (.plain (OpenSpec.ofChange fnWaitingSpec)) fnWaitingCard

/-- THE TIED CARD OF 'laws.FnBusy'. -/
def fnBusyCard : Claim7 := { stood := { row := fnBusyRow, standIns := [], harness := (true, "64f4c2480bf5e71810b9be8d3cb71ba3536b57de6522ff8e8ff7cfad7a9a386b"), looks := false }, kinds := [], alts := [], goes := true, laidByText := true, laidKinds := [.data, .data, .data], laidTests := true, laidLooks := .later }
def FnBusyCardSaid : Prop := Claim7.holds Tryz.pinned (.plain (OpenSpec.ofChange fnBusySpec)) fnBusyCard

/-- THE SECOND FORM's CARD OF 'laws.FnExactFreeNow'. -/
def fnExactFreeNowUptoCard : Claim7 := { stood := { row := fnExactFreeNowUptoRow, standIns := [], harness := (true, "64f4c2480bf5e71810b9be8d3cb71ba3536b57de6522ff8e8ff7cfad7a9a386b"), looks := false }, kinds := [], alts := [], goes := true, laidByText := true, laidKinds := [.data, .data, .data], laidTests := true, laidLooks := .later }
def FnExactFreeNowUptoCardSaid : Prop := Claim7.holds Tryz.pinned (.plain (OpenSpec.upto fnExactFreeNowSpec)) fnExactFreeNowUptoCard

/-- THE SECOND FORM's CARD OF 'laws.FnExactWaitingCalls'. -/
def fnExactWaitingCallsUptoCard : Claim7 := { stood := { row := fnExactWaitingCallsUptoRow, standIns := [], harness := (true, "64f4c2480bf5e71810b9be8d3cb71ba3536b57de6522ff8e8ff7cfad7a9a386b"), looks := false }, kinds := [], alts := [], goes := true, laidByText := true, laidKinds := [.data, .data, .data], laidTests := true, laidLooks := .later }
def FnExactWaitingCallsUptoCardSaid : Prop := Claim7.holds Tryz.pinned (.plain (OpenSpec.upto fnExactWaitingCallsSpec)) fnExactWaitingCallsUptoCard

/-- THE SECOND FORM's CARD OF 'laws.FnExactRecordsOf'. -/
def fnExactRecordsOfUptoCard : Claim7 := { stood := { row := fnExactRecordsOfUptoRow, standIns := [], harness := (true, "64f4c2480bf5e71810b9be8d3cb71ba3536b57de6522ff8e8ff7cfad7a9a386b"), looks := false }, kinds := [], alts := [], goes := true, laidByText := true, laidKinds := [.data, .data, .data], laidTests := true, laidLooks := .later }
def FnExactRecordsOfUptoCardSaid : Prop := Claim7.holds Tryz.pinned (.plain (OpenSpec.upto fnExactRecordsOfSpec)) fnExactRecordsOfUptoCard

/-- THE SECOND FORM's CARD OF 'laws.FnRecordValid'. -/
def fnRecordValidUptoCard : Claim7 := { stood := { row := fnRecordValidUptoRow, standIns := [], harness := (true, "64f4c2480bf5e71810b9be8d3cb71ba3536b57de6522ff8e8ff7cfad7a9a386b"), looks := false }, kinds := [], alts := [], goes := true, laidByText := true, laidKinds := [.data, .data, .data], laidTests := true, laidLooks := .later }
def FnRecordValidUptoCardSaid : Prop := Claim7.holds Tryz.pinned (.plain (OpenSpec.upto fnRecordValidSpec)) fnRecordValidUptoCard

/-- THE SECOND FORM's CARD OF 'laws.FnWaiting'. -/
def fnWaitingUptoCard : Claim7 := { stood := { row := fnWaitingUptoRow, standIns := [], harness := (true, "64f4c2480bf5e71810b9be8d3cb71ba3536b57de6522ff8e8ff7cfad7a9a386b"), looks := false }, kinds := [], alts := [], goes := true, laidByText := true, laidKinds := [.data, .data, .data], laidTests := true, laidLooks := .later }
def FnWaitingUptoCardSaid : Prop := Claim7.holds Tryz.pinned (.plain (OpenSpec.upto fnWaitingSpec)) fnWaitingUptoCard

/-- THE SECOND FORM's CARD OF 'laws.FnBusy'. -/
def fnBusyUptoCard : Claim7 := { stood := { row := fnBusyUptoRow, standIns := [], harness := (true, "64f4c2480bf5e71810b9be8d3cb71ba3536b57de6522ff8e8ff7cfad7a9a386b"), looks := false }, kinds := [], alts := [], goes := true, laidByText := true, laidKinds := [.data, .data, .data], laidTests := true, laidLooks := .later }
def FnBusyUptoCardSaid : Prop := Claim7.holds Tryz.pinned (.plain (OpenSpec.upto fnBusySpec)) fnBusyUptoCard
end Rows
end Go.Proofs.YtnjkbffmmgckeaaGreatDoor
