/-
  DERIVED. GIVEN WITH THE SEED: THE CARDS: each row of YtoeghipbkmaccaaDoorRows.lean that lists a variable, with what it lists TIED to the program's text (the seventh form; the later family's looks); each row that meets fmt, with fmt's text TOLD by the authors' own Lean function (tested against real Go, not proved from fmt's source: count such statements apart). THE CARD IS WHAT COUNTS. Prove the row's statement (the work); the ties are given (YtoeghipbkmaccaaDoorTie.lean); close each card by the builder's one call (the guide's Derived/Test/ToyasCard.lean, 'card_holds'). Laid BY PROGRAM, IN A SANDBOX (cutbox-door.mjs). By AI agents, Wed Nov 11 2026. No macro, syntax, notation, axiom, sorry.
-/
import Derived.Test.YtoeghipbkmaccaaDoorRows
import GoSem.ClaimSeven
namespace Go.Proofs.YtoeghipbkmaccaaDoor
namespace Rows

/-- THE TIED CARD OF 'wavewrightlaw.Names'. -/
def namesCard : Claim7 := { stood := { row := namesRow, standIns := [], harness := (true, "3f13b78746c6cf27368319f2942fcf3b682d20fcf68ebfed2d0408c2e3824c45"), looks := true }, kinds := [], alts := [], laidByText := true, laidKinds := [.data, .data, .data], laidTests := true, laidLooks := .later }
def NamesCardSaid : Prop := Claim7.holds Tryd.pinned (.plain (OpenSpec.ofChange namesSpec)) namesCard

/-- THE TIED CARD OF 'wavewrightlaw.ValueSays'. -/
def valueSaysCard : Claim7 := { stood := { row := valueSaysRow, standIns := [], harness := (true, "3f13b78746c6cf27368319f2942fcf3b682d20fcf68ebfed2d0408c2e3824c45"), looks := true }, kinds := [], alts := [], laidByText := true, laidKinds := [.data, .data, .data], laidTests := true, laidLooks := .later }
def ValueSaysCardSaid : Prop := Claim7.holds Tryd.pinned (.plain (OpenSpec.ofChange valueSaysSpec)) valueSaysCard

/-- THE TIED CARD OF 'wavewrightlaw.LocksSays'. -/
def locksSaysCard : Claim7 := { stood := { row := locksSaysRow, standIns := [], harness := (true, "3f13b78746c6cf27368319f2942fcf3b682d20fcf68ebfed2d0408c2e3824c45"), looks := true }, kinds := [], alts := [], laidByText := true, laidKinds := [.data, .data, .data, .sentinel, .sentinel], laidTests := true, laidLooks := .later }
def LocksSaysCardSaid : Prop := Claim7.holds Tryd.pinned (.plain (OpenSpec.ofChange locksSaysSpec)) locksSaysCard

/-- THE TIED CARD OF 'wavewrighttop.TopLocks'. -/
def topLocksCard : Claim7 := { stood := { row := topLocksRow, standIns := [], harness := (true, "3f13b78746c6cf27368319f2942fcf3b682d20fcf68ebfed2d0408c2e3824c45"), looks := true }, kinds := [], alts := [], laidByText := true, laidKinds := [.data, .data, .data, .sentinel, .sentinel], laidTests := true, laidLooks := .later }
def TopLocksCardSaid : Prop := Claim7.holds Tryd.pinned (.plain (OpenSpec.ofChange topLocksSpec)) topLocksCard

/-- THE SECOND FORM's CARD OF 'wavewrightlaw.Names'. -/
def namesUptoCard : Claim7 := { stood := { row := namesUptoRow, standIns := [], harness := (true, "3f13b78746c6cf27368319f2942fcf3b682d20fcf68ebfed2d0408c2e3824c45"), looks := true }, kinds := [], alts := [], laidByText := true, laidKinds := [.data, .data, .data], laidTests := true, laidLooks := .later }
def NamesUptoCardSaid : Prop := Claim7.holds Tryd.pinned (.plain (OpenSpec.upto namesSpec)) namesUptoCard

/-- THE SECOND FORM's CARD OF 'wavewrightlaw.ValueSays'. -/
def valueSaysUptoCard : Claim7 := { stood := { row := valueSaysUptoRow, standIns := [], harness := (true, "3f13b78746c6cf27368319f2942fcf3b682d20fcf68ebfed2d0408c2e3824c45"), looks := true }, kinds := [], alts := [], laidByText := true, laidKinds := [.data, .data, .data], laidTests := true, laidLooks := .later }
def ValueSaysUptoCardSaid : Prop := Claim7.holds Tryd.pinned (.plain (OpenSpec.upto valueSaysSpec)) valueSaysUptoCard

/-- THE SECOND FORM's CARD OF 'wavewrightlaw.LocksSays'. -/
def locksSaysUptoCard : Claim7 := { stood := { row := locksSaysUptoRow, standIns := [], harness := (true, "3f13b78746c6cf27368319f2942fcf3b682d20fcf68ebfed2d0408c2e3824c45"), looks := true }, kinds := [], alts := [], laidByText := true, laidKinds := [.data, .data, .data, .sentinel, .sentinel], laidTests := true, laidLooks := .later }
def LocksSaysUptoCardSaid : Prop := Claim7.holds Tryd.pinned (.plain (OpenSpec.upto locksSaysSpec)) locksSaysUptoCard

/-- THE SECOND FORM's CARD OF 'wavewrighttop.TopLocks'. -/
def topLocksUptoCard : Claim7 := { stood := { row := topLocksUptoRow, standIns := [], harness := (true, "3f13b78746c6cf27368319f2942fcf3b682d20fcf68ebfed2d0408c2e3824c45"), looks := true }, kinds := [], alts := [], laidByText := true, laidKinds := [.data, .data, .data, .sentinel, .sentinel], laidTests := true, laidLooks := .later }
def TopLocksUptoCardSaid : Prop := Claim7.holds Tryd.pinned (.plain (OpenSpec.upto topLocksSpec)) topLocksUptoCard
end Rows
end Go.Proofs.YtoeghipbkmaccaaDoor
