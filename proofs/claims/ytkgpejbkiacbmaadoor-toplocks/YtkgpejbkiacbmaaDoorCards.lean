/-
  DERIVED. GIVEN WITH THE SEED: THE CARDS: each row of YtkgpejbkiacbmaaDoorRows.lean that lists a variable, with what it lists TIED to the program's text (the seventh form; the later family's looks); each row that meets fmt, with fmt's text TOLD by the authors' own Lean function (tested against real Go, not proved from fmt's source: count such statements apart). THE CARD IS WHAT COUNTS. Prove the row's statement (the work); the ties are given (YtkgpejbkiacbmaaDoorTie.lean); close each card by the builder's one call (the guide's Derived/Test/ToyasCard.lean, 'card_holds'). Laid BY PROGRAM, IN A SANDBOX (cutbox-door.mjs). By AI agents, Wed Nov 11 2026. No macro, syntax, notation, axiom, sorry.
-/
import Derived.Test.YtkgpejbkiacbmaaDoorRows
import GoSem.ClaimSeven
namespace Go.Proofs.YtkgpejbkiacbmaaDoor
namespace Rows

/-- THE TIED CARD OF 'wavewrightlaw.LocksSays'. -/
def locksSaysCard : Claim7 := { stood := { row := locksSaysRow, standIns := [], harness := (true, "6e7ed4a96d2cdcde977f82b52cc938e1eaf5db015798fdaf1972e7e7ec14e052"), looks := true }, kinds := [], alts := [], laidByText := true, laidKinds := [.data, .data, .data, .sentinel, .sentinel], laidTests := true, laidLooks := .later }
def LocksSaysCardSaid : Prop := Claim7.holds Tryd.pinned (.plain (OpenSpec.ofChange locksSaysSpec)) locksSaysCard

/-- THE TIED CARD OF 'wavewrighttop.TopLocks'. -/
def topLocksCard : Claim7 := { stood := { row := topLocksRow, standIns := [], harness := (true, "6e7ed4a96d2cdcde977f82b52cc938e1eaf5db015798fdaf1972e7e7ec14e052"), looks := true }, kinds := [], alts := [], laidByText := true, laidKinds := [.data, .data, .data, .sentinel, .sentinel], laidTests := true, laidLooks := .later }
def TopLocksCardSaid : Prop := Claim7.holds Tryd.pinned (.plain (OpenSpec.ofChange topLocksSpec)) topLocksCard

/-- THE SECOND FORM's CARD OF 'wavewrightlaw.LocksSays'. -/
def locksSaysUptoCard : Claim7 := { stood := { row := locksSaysUptoRow, standIns := [], harness := (true, "6e7ed4a96d2cdcde977f82b52cc938e1eaf5db015798fdaf1972e7e7ec14e052"), looks := true }, kinds := [], alts := [], laidByText := true, laidKinds := [.data, .data, .data, .sentinel, .sentinel], laidTests := true, laidLooks := .later }
def LocksSaysUptoCardSaid : Prop := Claim7.holds Tryd.pinned (.plain (OpenSpec.upto locksSaysSpec)) locksSaysUptoCard

/-- THE SECOND FORM's CARD OF 'wavewrighttop.TopLocks'. -/
def topLocksUptoCard : Claim7 := { stood := { row := topLocksUptoRow, standIns := [], harness := (true, "6e7ed4a96d2cdcde977f82b52cc938e1eaf5db015798fdaf1972e7e7ec14e052"), looks := true }, kinds := [], alts := [], laidByText := true, laidKinds := [.data, .data, .data, .sentinel, .sentinel], laidTests := true, laidLooks := .later }
def TopLocksUptoCardSaid : Prop := Claim7.holds Tryd.pinned (.plain (OpenSpec.upto topLocksSpec)) topLocksUptoCard
end Rows
end Go.Proofs.YtkgpejbkiacbmaaDoor
