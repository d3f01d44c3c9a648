/-
  DERIVED. GIVEN WITH THE SEED: THE CARDS: each row of YtnahenbiipdlkaaDoorRows.lean that lists a variable, with what it lists TIED to the program's text (the seventh form; the later family's looks); each row that meets fmt, with fmt's text TOLD by the authors' own Lean function (tested against real Go, not proved from fmt's source: count such statements apart). THE CARD IS WHAT COUNTS. Prove the row's statement (the work); the ties are given (YtnahenbiipdlkaaDoorTie.lean); close each card by the builder's one call (the guide's Derived/Test/ToyasCard.lean, 'card_holds'). Laid BY PROGRAM, IN A SANDBOX (cutbox-door.mjs). By AI agents, Wed Nov 11 2026. No macro, syntax, notation, axiom, sorry.
-/
import Derived.Test.YtnahenbiipdlkaaDoorRows
import GoSem.ClaimSeven
namespace Go.Proofs.YtnahenbiipdlkaaDoor
namespace Rows

/-- THE TIED CARD OF 'wavewrightlaw.EvalSays'. -/
def evalSaysCard : Claim7 := { stood := { row := evalSaysRow, standIns := [], harness := (true, "7ba94c23e8890c80d10ae4bcf6e727e5b4256fa397804831a7c8b3b213f064a1"), looks := true }, kinds := [], alts := [], laidByText := true, laidKinds := [.data, .data, .data, .sentinel, .sentinel], laidTests := true, laidLooks := .later }
def EvalSaysCardSaid : Prop := Claim7.holds Tryd.pinned (.plain (OpenSpec.ofChange evalSaysSpec)) evalSaysCard

/-- THE TIED CARD OF 'wavewrighttop.TopValue'. -/
def topValueCard : Claim7 := { stood := { row := topValueRow, standIns := [], harness := (true, "7ba94c23e8890c80d10ae4bcf6e727e5b4256fa397804831a7c8b3b213f064a1"), looks := true }, kinds := [], alts := [], laidByText := true, laidKinds := [.data, .data, .data, .sentinel, .sentinel], laidTests := true, laidLooks := .later }
def TopValueCardSaid : Prop := Claim7.holds Tryd.pinned (.plain (OpenSpec.ofChange topValueSpec)) topValueCard

/-- THE TIED CARD OF 'wavewrighttop.TopExpr'. -/
def topExprCard : Claim7 := { stood := { row := topExprRow, standIns := [], harness := (true, "7ba94c23e8890c80d10ae4bcf6e727e5b4256fa397804831a7c8b3b213f064a1"), looks := true }, kinds := [], alts := [], laidByText := true, laidKinds := [.data, .data, .data, .sentinel, .sentinel], laidTests := true, laidLooks := .later }
def TopExprCardSaid : Prop := Claim7.holds Tryd.pinned (.plain (OpenSpec.ofChange topExprSpec)) topExprCard

/-- THE TIED CARD OF 'wavewrighttop.TopPrint'. -/
def topPrintCard : Claim7 := { stood := { row := topPrintRow, standIns := [], harness := (true, "7ba94c23e8890c80d10ae4bcf6e727e5b4256fa397804831a7c8b3b213f064a1"), looks := true }, kinds := [], alts := [], laidByText := true, laidKinds := [.data, .data, .data, .sentinel, .sentinel], laidTests := true, laidLooks := .later }
def TopPrintCardSaid : Prop := Claim7.holds Tryd.pinned (.plain (OpenSpec.ofChange topPrintSpec)) topPrintCard

/-- THE SECOND FORM's CARD OF 'wavewrightlaw.EvalSays'. -/
def evalSaysUptoCard : Claim7 := { stood := { row := evalSaysUptoRow, standIns := [], harness := (true, "7ba94c23e8890c80d10ae4bcf6e727e5b4256fa397804831a7c8b3b213f064a1"), looks := true }, kinds := [], alts := [], laidByText := true, laidKinds := [.data, .data, .data, .sentinel, .sentinel], laidTests := true, laidLooks := .later }
def EvalSaysUptoCardSaid : Prop := Claim7.holds Tryd.pinned (.plain (OpenSpec.upto evalSaysSpec)) evalSaysUptoCard

/-- THE SECOND FORM's CARD OF 'wavewrighttop.TopValue'. -/
def topValueUptoCard : Claim7 := { stood := { row := topValueUptoRow, standIns := [], harness := (true, "7ba94c23e8890c80d10ae4bcf6e727e5b4256fa397804831a7c8b3b213f064a1"), looks := true }, kinds := [], alts := [], laidByText := true, laidKinds := [.data, .data, .data, .sentinel, .sentinel], laidTests := true, laidLooks := .later }
def TopValueUptoCardSaid : Prop := Claim7.holds Tryd.pinned (.plain (OpenSpec.upto topValueSpec)) topValueUptoCard

/-- THE SECOND FORM's CARD OF 'wavewrighttop.TopExpr'. -/
def topExprUptoCard : Claim7 := { stood := { row := topExprUptoRow, standIns := [], harness := (true, "7ba94c23e8890c80d10ae4bcf6e727e5b4256fa397804831a7c8b3b213f064a1"), looks := true }, kinds := [], alts := [], laidByText := true, laidKinds := [.data, .data, .data, .sentinel, .sentinel], laidTests := true, laidLooks := .later }
def TopExprUptoCardSaid : Prop := Claim7.holds Tryd.pinned (.plain (OpenSpec.upto topExprSpec)) topExprUptoCard

/-- THE SECOND FORM's CARD OF 'wavewrighttop.TopPrint'. -/
def topPrintUptoCard : Claim7 := { stood := { row := topPrintUptoRow, standIns := [], harness := (true, "7ba94c23e8890c80d10ae4bcf6e727e5b4256fa397804831a7c8b3b213f064a1"), looks := true }, kinds := [], alts := [], laidByText := true, laidKinds := [.data, .data, .data, .sentinel, .sentinel], laidTests := true, laidLooks := .later }
def TopPrintUptoCardSaid : Prop := Claim7.holds Tryd.pinned (.plain (OpenSpec.upto topPrintSpec)) topPrintUptoCard
end Rows
end Go.Proofs.YtnahenbiipdlkaaDoor
