/-
  NARROWER THAN 'FOR EVERY INPUT', by the rows' own cells (each row's printed sentence says how): WalogSays: loops · DiskSays: loops · CloudSays: loops · TopDisk: loops · TopToken: loops.
  DERIVED. THE GIVEN ROWS OF THIS SEAT. 6 by the template 'for every input the law returns true; each argument reads behind the call as it read before'; 0 by the template 'total and deterministic' (their statements: YtoeghipbkmaccaaTotals.lean).
  GIVEN WITH THE SEED: the statements are not yours to turn. If you find one false, say at which input.
  Laid BY PROGRAM, IN A SANDBOX (cutbox-rows.mjs): the forced cells as the released guide's own fill.sh prints them over the translation 5dcfd4e52342d5be… (all of the seat's roots in one cut). By AI agents, Wed Nov 11 2026. No macro, syntax, notation, axiom, sorry.
-/
import Derived.Test.YtoeghipbkmaccaaChecked
import GoSem.Claim
import GoSem.ClaimJoined
import GoSem.ClaimMapViews
import Derived.JoinedTies
import Derived.KernelRfl
namespace Go.Proofs.Ytoeghipbkmaccaa
/- THE CELL 'sum', in the pinned program and in every row, IS THE sha256 OF THE DUMP (.gsa) THAT YtoeghipbkmaccaaProg.lean LOADS. Nothing in Lean hashes anything: it is a label: what it is worth is what the hold of that sum in a sandbox is worth. -/
noncomputable def Try.pinned : Pinned := { name := "ytoeghipbkmaccaa", sum := "5dcfd4e52342d5be5c0502b4720d4b41a3b413e0e78e5963aa490f0c31292e86", checked := Try.checked }
namespace Rows
def none {H : Type} : Left H := { results := [], args := [] }

/-- 'wavewrightlaw.WalogSays': WHATEVER THE INPUT: true; the input reads as it did. -/
def walogSaysSpec : ChangeSpec := { name := "walogSays", fn := fun _ => fun
  | [d1, d2] => { results := [.lit (.bool true)], args := [d1, d2] }
  | _ => none }
def walogSaysRow : OpenClaim := { program := "ytoeghipbkmaccaa", sum := "5dcfd4e52342d5be5c0502b4720d4b41a3b413e0e78e5963aa490f0c31292e86", func := "wavewright/wavewrightlaw.WalogSays", spec := "walogSays", recurses := true, loops := true, apart := false }
def WalogSaysSaid : Prop := walogSaysRow.holds Try.pinned (OpenSpec.ofChange walogSaysSpec)

/-- ITS FALSE NEIGHBOUR: 'it returns false'. Refute it at one input. -/
def walogSaysWrong : ChangeSpec := { name := "walogSays", fn := fun _ => fun
  | [d1, d2] => { results := [.lit (.bool false)], args := [d1, d2] }
  | _ => none }
def WalogSaysWrongFalsely : Prop := walogSaysRow.holds Try.pinned (OpenSpec.ofChange walogSaysWrong)

/-- 'wavewrightlaw.DiskSays': WHATEVER THE INPUT: true; the input reads as it did. -/
def diskSaysSpec : ChangeSpec := { name := "diskSays", fn := fun _ => fun
  | [d] => { results := [.lit (.bool true)], args := [d] }
  | _ => none }
def diskSaysRow : OpenClaim := { program := "ytoeghipbkmaccaa", sum := "5dcfd4e52342d5be5c0502b4720d4b41a3b413e0e78e5963aa490f0c31292e86", func := "wavewright/wavewrightlaw.DiskSays", spec := "diskSays", recurses := true, loops := true, apart := false }
def DiskSaysSaid : Prop := diskSaysRow.holds Try.pinned (OpenSpec.ofChange diskSaysSpec)

/-- ITS FALSE NEIGHBOUR: 'it returns false'. Refute it at one input. -/
def diskSaysWrong : ChangeSpec := { name := "diskSays", fn := fun _ => fun
  | [d] => { results := [.lit (.bool false)], args := [d] }
  | _ => none }
def DiskSaysWrongFalsely : Prop := diskSaysRow.holds Try.pinned (OpenSpec.ofChange diskSaysWrong)

/-- 'wavewrightlaw.CloudSays': WHATEVER THE INPUT: true; the input reads as it did. -/
def cloudSaysSpec : ChangeSpec := { name := "cloudSays", fn := fun _ => fun
  | [d1, d2] => { results := [.lit (.bool true)], args := [d1, d2] }
  | _ => none }
def cloudSaysRow : OpenClaim := { program := "ytoeghipbkmaccaa", sum := "5dcfd4e52342d5be5c0502b4720d4b41a3b413e0e78e5963aa490f0c31292e86", func := "wavewright/wavewrightlaw.CloudSays", spec := "cloudSays", unfollowed := true, recurses := true, loops := true, apart := false }
def CloudSaysSaid : Prop := cloudSaysRow.holds Try.pinned (OpenSpec.ofChange cloudSaysSpec)

/-- ITS FALSE NEIGHBOUR: 'it returns false'. Refute it at one input. -/
def cloudSaysWrong : ChangeSpec := { name := "cloudSays", fn := fun _ => fun
  | [d1, d2] => { results := [.lit (.bool false)], args := [d1, d2] }
  | _ => none }
def CloudSaysWrongFalsely : Prop := cloudSaysRow.holds Try.pinned (OpenSpec.ofChange cloudSaysWrong)

/-- 'wavewrighttop.TopLog': WHATEVER THE INPUT: true; the input reads as it did. -/
def topLogSpec : ChangeSpec := { name := "topLog", fn := fun _ => fun
  | [d1, d2, d3, d4] => { results := [.lit (.bool true)], args := [d1, d2, d3, d4] }
  | _ => none }
def topLogRow : OpenClaim := { program := "ytoeghipbkmaccaa", sum := "5dcfd4e52342d5be5c0502b4720d4b41a3b413e0e78e5963aa490f0c31292e86", func := "wavewright/wavewrighttop.TopLog", spec := "topLog", apart := false }
def TopLogSaid : Prop := topLogRow.holds Try.pinned (OpenSpec.ofChange topLogSpec)

/-- ITS FALSE NEIGHBOUR: 'it returns false'. Refute it at one input. -/
def topLogWrong : ChangeSpec := { name := "topLog", fn := fun _ => fun
  | [d1, d2, d3, d4] => { results := [.lit (.bool false)], args := [d1, d2, d3, d4] }
  | _ => none }
def TopLogWrongFalsely : Prop := topLogRow.holds Try.pinned (OpenSpec.ofChange topLogWrong)

/-- 'wavewrighttop.TopDisk': WHATEVER THE INPUT: true; the input reads as it did. -/
def topDiskSpec : ChangeSpec := { name := "topDisk", fn := fun _ => fun
  | [d1, d2, d3] => { results := [.lit (.bool true)], args := [d1, d2, d3] }
  | _ => none }
def topDiskRow : OpenClaim := { program := "ytoeghipbkmaccaa", sum := "5dcfd4e52342d5be5c0502b4720d4b41a3b413e0e78e5963aa490f0c31292e86", func := "wavewright/wavewrighttop.TopDisk", spec := "topDisk", recurses := true, loops := true, apart := false }
def TopDiskSaid : Prop := topDiskRow.holds Try.pinned (OpenSpec.ofChange topDiskSpec)

/-- ITS FALSE NEIGHBOUR: 'it returns false'. Refute it at one input. -/
def topDiskWrong : ChangeSpec := { name := "topDisk", fn := fun _ => fun
  | [d1, d2, d3] => { results := [.lit (.bool false)], args := [d1, d2, d3] }
  | _ => none }
def TopDiskWrongFalsely : Prop := topDiskRow.holds Try.pinned (OpenSpec.ofChange topDiskWrong)

/-- 'wavewrighttop.TopToken': WHATEVER THE INPUT: true; the input reads as it did. -/
def topTokenSpec : ChangeSpec := { name := "topToken", fn := fun _ => fun
  | [d] => { results := [.lit (.bool true)], args := [d] }
  | _ => none }
def topTokenRow : OpenClaim := { program := "ytoeghipbkmaccaa", sum := "5dcfd4e52342d5be5c0502b4720d4b41a3b413e0e78e5963aa490f0c31292e86", func := "wavewright/wavewrighttop.TopToken", spec := "topToken", unfollowed := true, recurses := true, loops := true, apart := false }
def TopTokenSaid : Prop := topTokenRow.holds Try.pinned (OpenSpec.ofChange topTokenSpec)

/-- ITS FALSE NEIGHBOUR: 'it returns false'. Refute it at one input. -/
def topTokenWrong : ChangeSpec := { name := "topToken", fn := fun _ => fun
  | [d] => { results := [.lit (.bool false)], args := [d] }
  | _ => none }
def TopTokenWrongFalsely : Prop := topTokenRow.holds Try.pinned (OpenSpec.ofChange topTokenWrong)

/- THE SECOND FORM. 'bulk': how many values and letters a reading holds, each counted each time it is reached (what is shared counts as often as it is met; a slice's spare places count too). A statement '..UptoSaid' is the law's where the arguments, and the package variables that the reading takes, are together of bulk at most 1048576: NARROWER than '..Said'. Prove '..Said' where nothing that the law and all that it calls make is longer than what came in: it says more and counts as full. Else prove '..UptoSaid'. A law counts once. -/
mutual
def uptoBulk {H : Type} : DataW H → Nat
  | .lit (.string bytes) => bytes.length + 1
  | .lit _ => 1
  | .nil => 1
  | .ptr d => uptoBulk d + 1
  | .slice elems spare => uptoBulkAll elems + uptoBulkAll spare + 1
  | .agg parts => uptoBulkAll parts + 1
  | .iface _ d => uptoBulk d + 1
  | .map entries => uptoBulkEntries entries + 1
  | .held _ => 1
def uptoBulkAll {H : Type} : List (DataW H) → Nat
  | [] => 0
  | d :: r => uptoBulk d + uptoBulkAll r
def uptoBulkEntries {H : Type} : List (Lit × DataW H) → Nat
  | [] => 0
  | x :: r => uptoBulkEntry x + uptoBulkEntries r
def uptoBulkEntry {H : Type} : Lit × DataW H → Nat
  | (.string bytes, d) => bytes.length + uptoBulk d + 1
  | (_, d) => uptoBulk d + 1
 end
def uptoSmall : (H : Type) → List (DataW H) → Bool := fun _ ds => decide (uptoBulkAll ds ≤ 1048576)
def OpenSpec.upto (s : _root_.Go.ChangeSpec) : _root_.Go.OpenSpec := { _root_.Go.OpenSpec.ofChange s with cond := some uptoSmall }

/-- 'wavewrightlaw.WalogSays', WHERE WHAT IT READS IS OF BULK AT MOST 1048576: true; the input reads as it did. -/
def walogSaysUptoRow : OpenClaim := { program := "ytoeghipbkmaccaa", sum := "5dcfd4e52342d5be5c0502b4720d4b41a3b413e0e78e5963aa490f0c31292e86", func := "wavewright/wavewrightlaw.WalogSays", spec := "walogSays", recurses := true, loops := true, apart := false, narrowed := true }
def WalogSaysUptoSaid : Prop := walogSaysUptoRow.holds Try.pinned (OpenSpec.upto walogSaysSpec)

/-- 'wavewrightlaw.DiskSays', WHERE WHAT IT READS IS OF BULK AT MOST 1048576: true; the input reads as it did. -/
def diskSaysUptoRow : OpenClaim := { program := "ytoeghipbkmaccaa", sum := "5dcfd4e52342d5be5c0502b4720d4b41a3b413e0e78e5963aa490f0c31292e86", func := "wavewright/wavewrightlaw.DiskSays", spec := "diskSays", recurses := true, loops := true, apart := false, narrowed := true }
def DiskSaysUptoSaid : Prop := diskSaysUptoRow.holds Try.pinned (OpenSpec.upto diskSaysSpec)

/-- 'wavewrightlaw.CloudSays', WHERE WHAT IT READS IS OF BULK AT MOST 1048576: true; the input reads as it did. -/
def cloudSaysUptoRow : OpenClaim := { program := "ytoeghipbkmaccaa", sum := "5dcfd4e52342d5be5c0502b4720d4b41a3b413e0e78e5963aa490f0c31292e86", func := "wavewright/wavewrightlaw.CloudSays", spec := "cloudSays", unfollowed := true, recurses := true, loops := true, apart := false, narrowed := true }
def CloudSaysUptoSaid : Prop := cloudSaysUptoRow.holds Try.pinned (OpenSpec.upto cloudSaysSpec)

/-- 'wavewrighttop.TopLog', WHERE WHAT IT READS IS OF BULK AT MOST 1048576: true; the input reads as it did. -/
def topLogUptoRow : OpenClaim := { program := "ytoeghipbkmaccaa", sum := "5dcfd4e52342d5be5c0502b4720d4b41a3b413e0e78e5963aa490f0c31292e86", func := "wavewright/wavewrighttop.TopLog", spec := "topLog", apart := false, narrowed := true }
def TopLogUptoSaid : Prop := topLogUptoRow.holds Try.pinned (OpenSpec.upto topLogSpec)

/-- 'wavewrighttop.TopDisk', WHERE WHAT IT READS IS OF BULK AT MOST 1048576: true; the input reads as it did. -/
def topDiskUptoRow : OpenClaim := { program := "ytoeghipbkmaccaa", sum := "5dcfd4e52342d5be5c0502b4720d4b41a3b413e0e78e5963aa490f0c31292e86", func := "wavewright/wavewrighttop.TopDisk", spec := "topDisk", recurses := true, loops := true, apart := false, narrowed := true }
def TopDiskUptoSaid : Prop := topDiskUptoRow.holds Try.pinned (OpenSpec.upto topDiskSpec)

/-- 'wavewrighttop.TopToken', WHERE WHAT IT READS IS OF BULK AT MOST 1048576: true; the input reads as it did. -/
def topTokenUptoRow : OpenClaim := { program := "ytoeghipbkmaccaa", sum := "5dcfd4e52342d5be5c0502b4720d4b41a3b413e0e78e5963aa490f0c31292e86", func := "wavewright/wavewrighttop.TopToken", spec := "topToken", unfollowed := true, recurses := true, loops := true, apart := false, narrowed := true }
def TopTokenUptoSaid : Prop := topTokenUptoRow.holds Try.pinned (OpenSpec.upto topTokenSpec)

end Rows
end Go.Proofs.Ytoeghipbkmaccaa
