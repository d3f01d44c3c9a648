/-
  DERIVED. GIVEN WITH THE SEED: THE CARDS: each row of YtnahenbiipdlkaaGreatDoorRows.lean that lists a variable, with what it lists TIED to the program's text (the seventh form; the later family's looks); each row that meets fmt, with fmt's text TOLD by the authors' own Lean function (tested against real Go, not proved from fmt's source: count such statements apart). THE CARD IS WHAT COUNTS. Prove the row's statement (the work); the ties are given (YtnahenbiipdlkaaGreatDoorTie.lean); close each card by the builder's one call (the guide's Derived/Test/ToyasCard.lean, 'card_holds'). Laid BY PROGRAM, IN A SANDBOX (cutbox-door.mjs). By AI agents, Wed Nov 11 2026. No macro, syntax, notation, axiom, sorry.
-/
import Derived.Test.YtnahenbiipdlkaaGreatDoorRows
import GoSem.ClaimSeven
namespace Go.Proofs.YtnahenbiipdlkaaGreatDoor
namespace Rows

/-- THE TIED CARD OF 'wavewrightlaw.ExprSays'. -/
def exprSaysCard : Claim7 := { stood := { row := exprSaysRow, standIns := [], harness := (true, "0cec49f792d65e41d0d30b057de2ea67b2a602c41c063b909d173a23661a34e9"), looks := true }, kinds := [], alts := [], laidByText := true, laidKinds := [.data, .data, .data, .sentinel, .sentinel], laidTests := true, laidLooks := .later }
def ExprSaysCardSaid : Prop := Claim7.holds Tryz.pinned (.plain (OpenSpec.ofChange exprSaysSpec)) exprSaysCard

/-- THE TIED CARD OF 'wavewrightlaw.CheckSays'. -/
def checkSaysCard : Claim7 := { stood := { row := checkSaysRow, standIns := [], harness := (true, "0cec49f792d65e41d0d30b057de2ea67b2a602c41c063b909d173a23661a34e9"), looks := true }, kinds := [], alts := [], laidByText := true, laidKinds := [.data, .data, .data, .sentinel, .sentinel], laidTests := true, laidLooks := .later }
def CheckSaysCardSaid : Prop := Claim7.holds Tryz.pinned (.plain (OpenSpec.ofChange checkSaysSpec)) checkSaysCard

/-- THE TIED CARD OF 'wavewrightlaw.StackSays'. -/
def stackSaysCard : Claim7 := { stood := { row := stackSaysRow, standIns := [], harness := (true, "0cec49f792d65e41d0d30b057de2ea67b2a602c41c063b909d173a23661a34e9"), looks := true }, kinds := [], alts := [], laidByText := true, laidKinds := [.data, .data, .data, .sentinel, .sentinel], laidTests := true, laidLooks := .later }
def StackSaysCardSaid : Prop := Claim7.holds Tryz.pinned (.plain (OpenSpec.ofChange stackSaysSpec)) stackSaysCard

/-- THE TIED CARD OF 'wavewrightlaw.StateSays'. -/
def stateSaysCard : Claim7 := { stood := { row := stateSaysRow, standIns := [], harness := (true, "0cec49f792d65e41d0d30b057de2ea67b2a602c41c063b909d173a23661a34e9"), looks := true }, kinds := [], alts := [], laidByText := true, laidKinds := [.data, .data, .data, .data, .sentinel, .sentinel, .pinned], laidTests := true, laidLooks := .later }
def StateSaysCardSaid : Prop := Claim7.holds Tryz.pinned (.plain (OpenSpec.ofChange stateSaysSpec)) stateSaysCard

/-- THE TIED CARD OF 'wavewrightlaw.StateReads'. -/
def stateReadsCard : Claim7 := { stood := { row := stateReadsRow, standIns := [], harness := (true, "0cec49f792d65e41d0d30b057de2ea67b2a602c41c063b909d173a23661a34e9"), looks := true }, kinds := [], alts := [], laidByText := true, laidKinds := [.data, .data, .data, .data, .sentinel, .sentinel, .pinned], laidTests := true, laidLooks := .later }
def StateReadsCardSaid : Prop := Claim7.holds Tryz.pinned (.plain (OpenSpec.ofChange stateReadsSpec)) stateReadsCard

/-- THE TIED CARD OF 'wavewrighttop.TopState'. -/
def topStateCard : Claim7 := { stood := { row := topStateRow, standIns := [], harness := (true, "0cec49f792d65e41d0d30b057de2ea67b2a602c41c063b909d173a23661a34e9"), looks := true }, kinds := [], alts := [], laidByText := true, laidKinds := [.data, .data, .data, .data, .sentinel, .sentinel, .pinned], laidTests := true, laidLooks := .later }
def TopStateCardSaid : Prop := Claim7.holds Tryz.pinned (.plain (OpenSpec.ofChange topStateSpec)) topStateCard

/-- THE SECOND FORM's CARD OF 'wavewrightlaw.ExprSays'. -/
def exprSaysUptoCard : Claim7 := { stood := { row := exprSaysUptoRow, standIns := [], harness := (true, "0cec49f792d65e41d0d30b057de2ea67b2a602c41c063b909d173a23661a34e9"), looks := true }, kinds := [], alts := [], laidByText := true, laidKinds := [.data, .data, .data, .sentinel, .sentinel], laidTests := true, laidLooks := .later }
def ExprSaysUptoCardSaid : Prop := Claim7.holds Tryz.pinned (.plain (OpenSpec.upto exprSaysSpec)) exprSaysUptoCard

/-- THE SECOND FORM's CARD OF 'wavewrightlaw.CheckSays'. -/
def checkSaysUptoCard : Claim7 := { stood := { row := checkSaysUptoRow, standIns := [], harness := (true, "0cec49f792d65e41d0d30b057de2ea67b2a602c41c063b909d173a23661a34e9"), looks := true }, kinds := [], alts := [], laidByText := true, laidKinds := [.data, .data, .data, .sentinel, .sentinel], laidTests := true, laidLooks := .later }
def CheckSaysUptoCardSaid : Prop := Claim7.holds Tryz.pinned (.plain (OpenSpec.upto checkSaysSpec)) checkSaysUptoCard

/-- THE SECOND FORM's CARD OF 'wavewrightlaw.StackSays'. -/
def stackSaysUptoCard : Claim7 := { stood := { row := stackSaysUptoRow, standIns := [], harness := (true, "0cec49f792d65e41d0d30b057de2ea67b2a602c41c063b909d173a23661a34e9"), looks := true }, kinds := [], alts := [], laidByText := true, laidKinds := [.data, .data, .data, .sentinel, .sentinel], laidTests := true, laidLooks := .later }
def StackSaysUptoCardSaid : Prop := Claim7.holds Tryz.pinned (.plain (OpenSpec.upto stackSaysSpec)) stackSaysUptoCard

/-- THE SECOND FORM's CARD OF 'wavewrightlaw.StateSays'. -/
def stateSaysUptoCard : Claim7 := { stood := { row := stateSaysUptoRow, standIns := [], harness := (true, "0cec49f792d65e41d0d30b057de2ea67b2a602c41c063b909d173a23661a34e9"), looks := true }, kinds := [], alts := [], laidByText := true, laidKinds := [.data, .data, .data, .data, .sentinel, .sentinel, .pinned], laidTests := true, laidLooks := .later }
def StateSaysUptoCardSaid : Prop := Claim7.holds Tryz.pinned (.plain (OpenSpec.upto stateSaysSpec)) stateSaysUptoCard

/-- THE SECOND FORM's CARD OF 'wavewrightlaw.StateReads'. -/
def stateReadsUptoCard : Claim7 := { stood := { row := stateReadsUptoRow, standIns := [], harness := (true, "0cec49f792d65e41d0d30b057de2ea67b2a602c41c063b909d173a23661a34e9"), looks := true }, kinds := [], alts := [], laidByText := true, laidKinds := [.data, .data, .data, .data, .sentinel, .sentinel, .pinned], laidTests := true, laidLooks := .later }
def StateReadsUptoCardSaid : Prop := Claim7.holds Tryz.pinned (.plain (OpenSpec.upto stateReadsSpec)) stateReadsUptoCard

/-- THE SECOND FORM's CARD OF 'wavewrighttop.TopState'. -/
def topStateUptoCard : Claim7 := { stood := { row := topStateUptoRow, standIns := [], harness := (true, "0cec49f792d65e41d0d30b057de2ea67b2a602c41c063b909d173a23661a34e9"), looks := true }, kinds := [], alts := [], laidByText := true, laidKinds := [.data, .data, .data, .data, .sentinel, .sentinel, .pinned], laidTests := true, laidLooks := .later }
def TopStateUptoCardSaid : Prop := Claim7.holds Tryz.pinned (.plain (OpenSpec.upto topStateSpec)) topStateUptoCard
end Rows
end Go.Proofs.YtnahenbiipdlkaaGreatDoor
