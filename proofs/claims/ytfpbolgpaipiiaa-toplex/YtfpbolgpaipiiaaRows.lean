/-
  No cell of these rows narrows 'for every input' (looked for: loops, veiled, ifaces, maps, wideKeys, modest, calm, conditions, laid).
  DERIVED. THE GIVEN ROWS OF THIS SEAT. 4 by the template 'for every input the law returns true; each argument reads behind the call as it read before'; 0 by the template 'total and deterministic' (their statements: YtfpbolgpaipiiaaTotals.lean).
  GIVEN WITH THE SEED: the statements are not yours to turn. If you find one false, say at which input.
  Laid BY PROGRAM, IN A SANDBOX (cutbox-rows.mjs): the forced cells as the released guide's own fill.sh prints them over the translation a8a0746081b232e0… (all of the seat's roots in one cut). By AI agents, Wed Nov 11 2026. No macro, syntax, notation, axiom, sorry.
-/
import Derived.Test.YtfpbolgpaipiiaaChecked
import GoSem.Claim
import GoSem.ClaimJoined
import GoSem.ClaimMapViews
import Derived.JoinedTies
import Derived.KernelRfl
namespace Go.Proofs.Ytfpbolgpaipiiaa
/- THE CELL 'sum', in the pinned program and in every row, IS THE sha256 OF THE DUMP (.gsa) THAT YtfpbolgpaipiiaaProg.lean LOADS. Nothing in Lean hashes anything: it is a label: what it is worth is what the hold of that sum in a sandbox is worth. -/
noncomputable def Try.pinned : Pinned := { name := "ytfpbolgpaipiiaa", sum := "a8a0746081b232e0115c05e1429b206f9afac8013264636bf3edf93077ac8309", checked := Try.checked }
namespace Rows
def none {H : Type} : Left H := { results := [], args := [] }

/-- 'wavewrightlaw.GraphSays': WHATEVER THE INPUT: true; the input reads as it did. -/
def graphSaysSpec : ChangeSpec := { name := "graphSays", fn := fun _ => fun
  | [d1, d2] => { results := [.lit (.bool true)], args := [d1, d2] }
  | _ => none }
def graphSaysRow : OpenClaim := { program := "ytfpbolgpaipiiaa", sum := "a8a0746081b232e0115c05e1429b206f9afac8013264636bf3edf93077ac8309", func := "wavewright/wavewrightlaw.GraphSays", spec := "graphSays", unfollowed := true, recurses := true, apart := false }
def GraphSaysSaid : Prop := graphSaysRow.holds Try.pinned (OpenSpec.ofChange graphSaysSpec)

/-- ITS FALSE NEIGHBOUR: 'it returns false'. Refute it at one input. -/
def graphSaysWrong : ChangeSpec := { name := "graphSays", fn := fun _ => fun
  | [d1, d2] => { results := [.lit (.bool false)], args := [d1, d2] }
  | _ => none }
def GraphSaysWrongFalsely : Prop := graphSaysRow.holds Try.pinned (OpenSpec.ofChange graphSaysWrong)

/-- 'wavewrightlaw.LexSays': WHATEVER THE INPUT: true; the input reads as it did. -/
def lexSaysSpec : ChangeSpec := { name := "lexSays", fn := fun _ => fun
  | [d] => { results := [.lit (.bool true)], args := [d] }
  | _ => none }
def lexSaysRow : OpenClaim := { program := "ytfpbolgpaipiiaa", sum := "a8a0746081b232e0115c05e1429b206f9afac8013264636bf3edf93077ac8309", func := "wavewright/wavewrightlaw.LexSays", spec := "lexSays", inPlace := ["internal/bytealg.IndexByteString"], unfollowed := true, recurses := true, apart := false }
def LexSaysSaid : Prop := lexSaysRow.holds Try.pinned (OpenSpec.ofChange lexSaysSpec)

/-- ITS FALSE NEIGHBOUR: 'it returns false'. Refute it at one input. -/
def lexSaysWrong : ChangeSpec := { name := "lexSays", fn := fun _ => fun
  | [d] => { results := [.lit (.bool false)], args := [d] }
  | _ => none }
def LexSaysWrongFalsely : Prop := lexSaysRow.holds Try.pinned (OpenSpec.ofChange lexSaysWrong)

/-- 'wavewrighttop.TopGraph': WHATEVER THE INPUT: true; the input reads as it did. -/
def topGraphSpec : ChangeSpec := { name := "topGraph", fn := fun _ => fun
  | [d] => { results := [.lit (.bool true)], args := [d] }
  | _ => none }
def topGraphRow : OpenClaim := { program := "ytfpbolgpaipiiaa", sum := "a8a0746081b232e0115c05e1429b206f9afac8013264636bf3edf93077ac8309", func := "wavewright/wavewrighttop.TopGraph", spec := "topGraph", unfollowed := true, recurses := true, apart := false }
def TopGraphSaid : Prop := topGraphRow.holds Try.pinned (OpenSpec.ofChange topGraphSpec)

/-- ITS FALSE NEIGHBOUR: 'it returns false'. Refute it at one input. -/
def topGraphWrong : ChangeSpec := { name := "topGraph", fn := fun _ => fun
  | [d] => { results := [.lit (.bool false)], args := [d] }
  | _ => none }
def TopGraphWrongFalsely : Prop := topGraphRow.holds Try.pinned (OpenSpec.ofChange topGraphWrong)

/-- 'wavewrighttop.TopLex': WHATEVER THE INPUT: true; the input reads as it did. -/
def topLexSpec : ChangeSpec := { name := "topLex", fn := fun _ => fun
  | [d] => { results := [.lit (.bool true)], args := [d] }
  | _ => none }
def topLexRow : OpenClaim := { program := "ytfpbolgpaipiiaa", sum := "a8a0746081b232e0115c05e1429b206f9afac8013264636bf3edf93077ac8309", func := "wavewright/wavewrighttop.TopLex", spec := "topLex", inPlace := ["internal/bytealg.IndexByteString"], unfollowed := true, recurses := true, apart := false }
def TopLexSaid : Prop := topLexRow.holds Try.pinned (OpenSpec.ofChange topLexSpec)

/-- ITS FALSE NEIGHBOUR: 'it returns false'. Refute it at one input. -/
def topLexWrong : ChangeSpec := { name := "topLex", fn := fun _ => fun
  | [d] => { results := [.lit (.bool false)], args := [d] }
  | _ => none }
def TopLexWrongFalsely : Prop := topLexRow.holds Try.pinned (OpenSpec.ofChange topLexWrong)

/- THE SECOND FORM. 'bulk': how many values and letters a reading holds, each counted each time it is reached (what is shared counts as often as it is met; a slice's spare places count too). A statement '..UptoSaid' is the law's where the arguments, and the package variables that the reading takes, are together of bulk at most 1048576: NARROWER than '..Said'. Prove '..Said' where nothing that the law and all that it calls make is longer than what came in: it says more and counts as full. Else prove '..UptoSaid'. A law counts once. -/
mutual
def uptoBulk {H : Type} : DataW H → Nat
  | .lit (.string bytes) => bytes.length + 1
  | .lit _ => 1
  | .nil => 1
  | .ptr d => uptoBulk d + 1
  | .slice elems spare => uptoBulkAll elems + uptoBulkAll spare + 1
  | .agg parts => uptoBulkAll parts + 1
  | .iface _ d => uptoBulk d + 1
  | .map entries => uptoBulkEntries entries + 1
  | .held _ => 1
def uptoBulkAll {H : Type} : List (DataW H) → Nat
  | [] => 0
  | d :: r => uptoBulk d + uptoBulkAll r
def uptoBulkEntries {H : Type} : List (Lit × DataW H) → Nat
  | [] => 0
  | x :: r => uptoBulkEntry x + uptoBulkEntries r
def uptoBulkEntry {H : Type} : Lit × DataW H → Nat
  | (.string bytes, d) => bytes.length + uptoBulk d + 1
  | (_, d) => uptoBulk d + 1
 end
def uptoSmall : (H : Type) → List (DataW H) → Bool := fun _ ds => decide (uptoBulkAll ds ≤ 1048576)
def OpenSpec.upto (s : _root_.Go.ChangeSpec) : _root_.Go.OpenSpec := { _root_.Go.OpenSpec.ofChange s with cond := some uptoSmall }

/-- 'wavewrightlaw.GraphSays', WHERE WHAT IT READS IS OF BULK AT MOST 1048576: true; the input reads as it did. -/
def graphSaysUptoRow : OpenClaim := { program := "ytfpbolgpaipiiaa", sum := "a8a0746081b232e0115c05e1429b206f9afac8013264636bf3edf93077ac8309", func := "wavewright/wavewrightlaw.GraphSays", spec := "graphSays", unfollowed := true, recurses := true, apart := false, narrowed := true }
def GraphSaysUptoSaid : Prop := graphSaysUptoRow.holds Try.pinned (OpenSpec.upto graphSaysSpec)

/-- 'wavewrightlaw.LexSays', WHERE WHAT IT READS IS OF BULK AT MOST 1048576: true; the input reads as it did. -/
def lexSaysUptoRow : OpenClaim := { program := "ytfpbolgpaipiiaa", sum := "a8a0746081b232e0115c05e1429b206f9afac8013264636bf3edf93077ac8309", func := "wavewright/wavewrightlaw.LexSays", spec := "lexSays", inPlace := ["internal/bytealg.IndexByteString"], unfollowed := true, recurses := true, apart := false, narrowed := true }
def LexSaysUptoSaid : Prop := lexSaysUptoRow.holds Try.pinned (OpenSpec.upto lexSaysSpec)

/-- 'wavewrighttop.TopGraph', WHERE WHAT IT READS IS OF BULK AT MOST 1048576: true; the input reads as it did. -/
def topGraphUptoRow : OpenClaim := { program := "ytfpbolgpaipiiaa", sum := "a8a0746081b232e0115c05e1429b206f9afac8013264636bf3edf93077ac8309", func := "wavewright/wavewrighttop.TopGraph", spec := "topGraph", unfollowed := true, recurses := true, apart := false, narrowed := true }
def TopGraphUptoSaid : Prop := topGraphUptoRow.holds Try.pinned (OpenSpec.upto topGraphSpec)

/-- 'wavewrighttop.TopLex', WHERE WHAT IT READS IS OF BULK AT MOST 1048576: true; the input reads as it did. -/
def topLexUptoRow : OpenClaim := { program := "ytfpbolgpaipiiaa", sum := "a8a0746081b232e0115c05e1429b206f9afac8013264636bf3edf93077ac8309", func := "wavewright/wavewrighttop.TopLex", spec := "topLex", inPlace := ["internal/bytealg.IndexByteString"], unfollowed := true, recurses := true, apart := false, narrowed := true }
def TopLexUptoSaid : Prop := topLexUptoRow.holds Try.pinned (OpenSpec.upto topLexSpec)

end Rows
end Go.Proofs.Ytfpbolgpaipiiaa
