/-
  No cell of these rows narrows 'for every input' (looked for: loops, veiled, ifaces, maps, wideKeys, modest, calm, conditions, laid).
  DERIVED. THE GIVEN ROWS OF THIS SEAT. 10 by the template 'for every input the law returns true; each argument reads behind the call as it read before'; 0 by the template 'total and deterministic' (their statements: YtnnbdjfeagcbdaaTotals.lean).
  GIVEN WITH THE SEED: the statements are not yours to turn. If you find one false, say at which input.
  Laid BY PROGRAM, IN A SANDBOX (cutbox-rows.mjs): the forced cells as the released guide's own fill.sh prints them over the translation 5b3db3a87b1bc5bb… (all of the seat's roots in one cut). By AI agents, Wed Nov 11 2026. No macro, syntax, notation, axiom, sorry.
-/
import Derived.Test.YtnnbdjfeagcbdaaChecked
import GoSem.Claim
import GoSem.ClaimJoined
import GoSem.ClaimMapViews
import Derived.JoinedTies
import Derived.KernelRfl
namespace Go.Proofs.Ytnnbdjfeagcbdaa
/- THE CELL 'sum', in the pinned program and in every row, IS THE sha256 OF THE DUMP (.gsa) THAT YtnnbdjfeagcbdaaProg.lean LOADS. Nothing in Lean hashes anything: it is a label: what it is worth is what the hold of that sum in a sandbox is worth. -/
noncomputable def Try.pinned : Pinned := { name := "ytnnbdjfeagcbdaa", sum := "5b3db3a87b1bc5bb339550b2b40399ec6f3e5b76d0d1afbb91c5a9bb90fd0281", checked := Try.checked }
namespace Rows
def none {H : Type} : Left H := { results := [], args := [] }

/-- 'oastlaw01.StockSamples': WHATEVER THE INPUT: true; the input reads as it did. -/
def stockSamplesSpec : ChangeSpec := { name := "stockSamples", fn := fun _ => fun
  | [d1, d2, d3] => { results := [.lit (.bool true)], args := [d1, d2, d3] }
  | _ => none }
def stockSamplesRow : OpenClaim := { program := "ytnnbdjfeagcbdaa", sum := "5b3db3a87b1bc5bb339550b2b40399ec6f3e5b76d0d1afbb91c5a9bb90fd0281", func := "oast/oastlaw01.StockSamples", spec := "stockSamples", unfollowed := true, recurses := true, apart := false }
def StockSamplesSaid : Prop := stockSamplesRow.holds Try.pinned (OpenSpec.ofChange stockSamplesSpec)

/-- ITS FALSE NEIGHBOUR: 'it returns false'. Refute it at one input. -/
def stockSamplesWrong : ChangeSpec := { name := "stockSamples", fn := fun _ => fun
  | [d1, d2, d3] => { results := [.lit (.bool false)], args := [d1, d2, d3] }
  | _ => none }
def StockSamplesWrongFalsely : Prop := stockSamplesRow.holds Try.pinned (OpenSpec.ofChange stockSamplesWrong)

/-- 'oastlaw01.StockKeeps': WHATEVER THE INPUT: true; the input reads as it did. -/
def stockKeepsSpec : ChangeSpec := { name := "stockKeeps", fn := fun _ => fun
  | [d] => { results := [.lit (.bool true)], args := [d] }
  | _ => none }
def stockKeepsRow : OpenClaim := { program := "ytnnbdjfeagcbdaa", sum := "5b3db3a87b1bc5bb339550b2b40399ec6f3e5b76d0d1afbb91c5a9bb90fd0281", func := "oast/oastlaw01.StockKeeps", spec := "stockKeeps", unfollowed := true, recurses := true, apart := false }
def StockKeepsSaid : Prop := stockKeepsRow.holds Try.pinned (OpenSpec.ofChange stockKeepsSpec)

/-- ITS FALSE NEIGHBOUR: 'it returns false'. Refute it at one input. -/
def stockKeepsWrong : ChangeSpec := { name := "stockKeeps", fn := fun _ => fun
  | [d] => { results := [.lit (.bool false)], args := [d] }
  | _ => none }
def StockKeepsWrongFalsely : Prop := stockKeepsRow.holds Try.pinned (OpenSpec.ofChange stockKeepsWrong)

/-- 'oastlaw01.StockRuns': WHATEVER THE INPUT: true; the input reads as it did. -/
def stockRunsSpec : ChangeSpec := { name := "stockRuns", fn := fun _ => fun
  | [d] => { results := [.lit (.bool true)], args := [d] }
  | _ => none }
def stockRunsRow : OpenClaim := { program := "ytnnbdjfeagcbdaa", sum := "5b3db3a87b1bc5bb339550b2b40399ec6f3e5b76d0d1afbb91c5a9bb90fd0281", func := "oast/oastlaw01.StockRuns", spec := "stockRuns", unfollowed := true, recurses := true, apart := false }
def StockRunsSaid : Prop := stockRunsRow.holds Try.pinned (OpenSpec.ofChange stockRunsSpec)

/-- ITS FALSE NEIGHBOUR: 'it returns false'. Refute it at one input. -/
def stockRunsWrong : ChangeSpec := { name := "stockRuns", fn := fun _ => fun
  | [d] => { results := [.lit (.bool false)], args := [d] }
  | _ => none }
def StockRunsWrongFalsely : Prop := stockRunsRow.holds Try.pinned (OpenSpec.ofChange stockRunsWrong)

/-- 'oastlaw01.StockPast': WHATEVER THE INPUT: true; the input reads as it did. -/
def stockPastSpec : ChangeSpec := { name := "stockPast", fn := fun _ => fun
  | [d1, d2] => { results := [.lit (.bool true)], args := [d1, d2] }
  | _ => none }
def stockPastRow : OpenClaim := { program := "ytnnbdjfeagcbdaa", sum := "5b3db3a87b1bc5bb339550b2b40399ec6f3e5b76d0d1afbb91c5a9bb90fd0281", func := "oast/oastlaw01.StockPast", spec := "stockPast", unfollowed := true, recurses := true, apart := false }
def StockPastSaid : Prop := stockPastRow.holds Try.pinned (OpenSpec.ofChange stockPastSpec)

/-- ITS FALSE NEIGHBOUR: 'it returns false'. Refute it at one input. -/
def stockPastWrong : ChangeSpec := { name := "stockPast", fn := fun _ => fun
  | [d1, d2] => { results := [.lit (.bool false)], args := [d1, d2] }
  | _ => none }
def StockPastWrongFalsely : Prop := stockPastRow.holds Try.pinned (OpenSpec.ofChange stockPastWrong)

/-- 'oastlaw01.StockAlphas': WHATEVER THE INPUT: true; the input reads as it did. -/
def stockAlphasSpec : ChangeSpec := { name := "stockAlphas", fn := fun _ => fun
  | [d1, d2] => { results := [.lit (.bool true)], args := [d1, d2] }
  | _ => none }
def stockAlphasRow : OpenClaim := { program := "ytnnbdjfeagcbdaa", sum := "5b3db3a87b1bc5bb339550b2b40399ec6f3e5b76d0d1afbb91c5a9bb90fd0281", func := "oast/oastlaw01.StockAlphas", spec := "stockAlphas", unfollowed := true, recurses := true, named := ["math/bits.divideError", "math/bits.overflowError"], apart := false }
def StockAlphasSaid : Prop := stockAlphasRow.holds Try.pinned (OpenSpec.ofChange stockAlphasSpec)

/-- ITS FALSE NEIGHBOUR: 'it returns false'. Refute it at one input. -/
def stockAlphasWrong : ChangeSpec := { name := "stockAlphas", fn := fun _ => fun
  | [d1, d2] => { results := [.lit (.bool false)], args := [d1, d2] }
  | _ => none }
def StockAlphasWrongFalsely : Prop := stockAlphasRow.holds Try.pinned (OpenSpec.ofChange stockAlphasWrong)

/-- 'oastlaw01.StockFinds': WHATEVER THE INPUT: true; the input reads as it did. -/
def stockFindsSpec : ChangeSpec := { name := "stockFinds", fn := fun _ => fun
  | [d1, d2] => { results := [.lit (.bool true)], args := [d1, d2] }
  | _ => none }
def stockFindsRow : OpenClaim := { program := "ytnnbdjfeagcbdaa", sum := "5b3db3a87b1bc5bb339550b2b40399ec6f3e5b76d0d1afbb91c5a9bb90fd0281", func := "oast/oastlaw01.StockFinds", spec := "stockFinds", unfollowed := true, recurses := true, apart := false }
def StockFindsSaid : Prop := stockFindsRow.holds Try.pinned (OpenSpec.ofChange stockFindsSpec)

/-- ITS FALSE NEIGHBOUR: 'it returns false'. Refute it at one input. -/
def stockFindsWrong : ChangeSpec := { name := "stockFinds", fn := fun _ => fun
  | [d1, d2] => { results := [.lit (.bool false)], args := [d1, d2] }
  | _ => none }
def StockFindsWrongFalsely : Prop := stockFindsRow.holds Try.pinned (OpenSpec.ofChange stockFindsWrong)

/-- 'oastlaw01.StockChanges': WHATEVER THE INPUT: true; the input reads as it did. -/
def stockChangesSpec : ChangeSpec := { name := "stockChanges", fn := fun _ => fun
  | [d1, d2] => { results := [.lit (.bool true)], args := [d1, d2] }
  | _ => none }
def stockChangesRow : OpenClaim := { program := "ytnnbdjfeagcbdaa", sum := "5b3db3a87b1bc5bb339550b2b40399ec6f3e5b76d0d1afbb91c5a9bb90fd0281", func := "oast/oastlaw01.StockChanges", spec := "stockChanges", unfollowed := true, recurses := true, apart := false }
def StockChangesSaid : Prop := stockChangesRow.holds Try.pinned (OpenSpec.ofChange stockChangesSpec)

/-- ITS FALSE NEIGHBOUR: 'it returns false'. Refute it at one input. -/
def stockChangesWrong : ChangeSpec := { name := "stockChanges", fn := fun _ => fun
  | [d1, d2] => { results := [.lit (.bool false)], args := [d1, d2] }
  | _ => none }
def StockChangesWrongFalsely : Prop := stockChangesRow.holds Try.pinned (OpenSpec.ofChange stockChangesWrong)

/-- 'oastlaw01.StockForks': WHATEVER THE INPUT: true; the input reads as it did. -/
def stockForksSpec : ChangeSpec := { name := "stockForks", fn := fun _ => fun
  | [d1, d2] => { results := [.lit (.bool true)], args := [d1, d2] }
  | _ => none }
def stockForksRow : OpenClaim := { program := "ytnnbdjfeagcbdaa", sum := "5b3db3a87b1bc5bb339550b2b40399ec6f3e5b76d0d1afbb91c5a9bb90fd0281", func := "oast/oastlaw01.StockForks", spec := "stockForks", unfollowed := true, recurses := true, apart := false }
def StockForksSaid : Prop := stockForksRow.holds Try.pinned (OpenSpec.ofChange stockForksSpec)

/-- ITS FALSE NEIGHBOUR: 'it returns false'. Refute it at one input. -/
def stockForksWrong : ChangeSpec := { name := "stockForks", fn := fun _ => fun
  | [d1, d2] => { results := [.lit (.bool false)], args := [d1, d2] }
  | _ => none }
def StockForksWrongFalsely : Prop := stockForksRow.holds Try.pinned (OpenSpec.ofChange stockForksWrong)

/-- 'oastlaw01.StockReturns': WHATEVER THE INPUT: true; the input reads as it did. -/
def stockReturnsSpec : ChangeSpec := { name := "stockReturns", fn := fun _ => fun
  | [d1, d2] => { results := [.lit (.bool true)], args := [d1, d2] }
  | _ => none }
def stockReturnsRow : OpenClaim := { program := "ytnnbdjfeagcbdaa", sum := "5b3db3a87b1bc5bb339550b2b40399ec6f3e5b76d0d1afbb91c5a9bb90fd0281", func := "oast/oastlaw01.StockReturns", spec := "stockReturns", unfollowed := true, recurses := true, apart := false }
def StockReturnsSaid : Prop := stockReturnsRow.holds Try.pinned (OpenSpec.ofChange stockReturnsSpec)

/-- ITS FALSE NEIGHBOUR: 'it returns false'. Refute it at one input. -/
def stockReturnsWrong : ChangeSpec := { name := "stockReturns", fn := fun _ => fun
  | [d1, d2] => { results := [.lit (.bool false)], args := [d1, d2] }
  | _ => none }
def StockReturnsWrongFalsely : Prop := stockReturnsRow.holds Try.pinned (OpenSpec.ofChange stockReturnsWrong)

/-- 'oastlaw01.StockVoid': WHATEVER THE INPUT: true; the input reads as it did. -/
def stockVoidSpec : ChangeSpec := { name := "stockVoid", fn := fun _ => fun
  | [d1, d2] => { results := [.lit (.bool true)], args := [d1, d2] }
  | _ => none }
def stockVoidRow : OpenClaim := { program := "ytnnbdjfeagcbdaa", sum := "5b3db3a87b1bc5bb339550b2b40399ec6f3e5b76d0d1afbb91c5a9bb90fd0281", func := "oast/oastlaw01.StockVoid", spec := "stockVoid", unfollowed := true, recurses := true, apart := false }
def StockVoidSaid : Prop := stockVoidRow.holds Try.pinned (OpenSpec.ofChange stockVoidSpec)

/-- ITS FALSE NEIGHBOUR: 'it returns false'. Refute it at one input. -/
def stockVoidWrong : ChangeSpec := { name := "stockVoid", fn := fun _ => fun
  | [d1, d2] => { results := [.lit (.bool false)], args := [d1, d2] }
  | _ => none }
def StockVoidWrongFalsely : Prop := stockVoidRow.holds Try.pinned (OpenSpec.ofChange stockVoidWrong)

/- THE SECOND FORM. 'bulk': how many values and letters a reading holds, each counted each time it is reached (what is shared counts as often as it is met; a slice's spare places count too). A statement '..UptoSaid' is the law's where the arguments, and the package variables that the reading takes, are together of bulk at most 1048576: NARROWER than '..Said'. Prove '..Said' where nothing that the law and all that it calls make is longer than what came in: it says more and counts as full. Else prove '..UptoSaid'. A law counts once. -/
mutual
def uptoBulk {H : Type} : DataW H → Nat
  | .lit (.string bytes) => bytes.length + 1
  | .lit _ => 1
  | .nil => 1
  | .ptr d => uptoBulk d + 1
  | .slice elems spare => uptoBulkAll elems + uptoBulkAll spare + 1
  | .agg parts => uptoBulkAll parts + 1
  | .iface _ d => uptoBulk d + 1
  | .map entries => uptoBulkEntries entries + 1
  | .held _ => 1
def uptoBulkAll {H : Type} : List (DataW H) → Nat
  | [] => 0
  | d :: r => uptoBulk d + uptoBulkAll r
def uptoBulkEntries {H : Type} : List (Lit × DataW H) → Nat
  | [] => 0
  | x :: r => uptoBulkEntry x + uptoBulkEntries r
def uptoBulkEntry {H : Type} : Lit × DataW H → Nat
  | (.string bytes, d) => bytes.length + uptoBulk d + 1
  | (_, d) => uptoBulk d + 1
 end
def uptoSmall : (H : Type) → List (DataW H) → Bool := fun _ ds => decide (uptoBulkAll ds ≤ 1048576)
def OpenSpec.upto (s : _root_.Go.ChangeSpec) : _root_.Go.OpenSpec := { _root_.Go.OpenSpec.ofChange s with cond := some uptoSmall }

/-- 'oastlaw01.StockSamples', WHERE WHAT IT READS IS OF BULK AT MOST 1048576: true; the input reads as it did. -/
def stockSamplesUptoRow : OpenClaim := { program := "ytnnbdjfeagcbdaa", sum := "5b3db3a87b1bc5bb339550b2b40399ec6f3e5b76d0d1afbb91c5a9bb90fd0281", func := "oast/oastlaw01.StockSamples", spec := "stockSamples", unfollowed := true, recurses := true, apart := false, narrowed := true }
def StockSamplesUptoSaid : Prop := stockSamplesUptoRow.holds Try.pinned (OpenSpec.upto stockSamplesSpec)

/-- 'oastlaw01.StockKeeps', WHERE WHAT IT READS IS OF BULK AT MOST 1048576: true; the input reads as it did. -/
def stockKeepsUptoRow : OpenClaim := { program := "ytnnbdjfeagcbdaa", sum := "5b3db3a87b1bc5bb339550b2b40399ec6f3e5b76d0d1afbb91c5a9bb90fd0281", func := "oast/oastlaw01.StockKeeps", spec := "stockKeeps", unfollowed := true, recurses := true, apart := false, narrowed := true }
def StockKeepsUptoSaid : Prop := stockKeepsUptoRow.holds Try.pinned (OpenSpec.upto stockKeepsSpec)

/-- 'oastlaw01.StockRuns', WHERE WHAT IT READS IS OF BULK AT MOST 1048576: true; the input reads as it did. -/
def stockRunsUptoRow : OpenClaim := { program := "ytnnbdjfeagcbdaa", sum := "5b3db3a87b1bc5bb339550b2b40399ec6f3e5b76d0d1afbb91c5a9bb90fd0281", func := "oast/oastlaw01.StockRuns", spec := "stockRuns", unfollowed := true, recurses := true, apart := false, narrowed := true }
def StockRunsUptoSaid : Prop := stockRunsUptoRow.holds Try.pinned (OpenSpec.upto stockRunsSpec)

/-- 'oastlaw01.StockPast', WHERE WHAT IT READS IS OF BULK AT MOST 1048576: true; the input reads as it did. -/
def stockPastUptoRow : OpenClaim := { program := "ytnnbdjfeagcbdaa", sum := "5b3db3a87b1bc5bb339550b2b40399ec6f3e5b76d0d1afbb91c5a9bb90fd0281", func := "oast/oastlaw01.StockPast", spec := "stockPast", unfollowed := true, recurses := true, apart := false, narrowed := true }
def StockPastUptoSaid : Prop := stockPastUptoRow.holds Try.pinned (OpenSpec.upto stockPastSpec)

/-- 'oastlaw01.StockAlphas', WHERE WHAT IT READS IS OF BULK AT MOST 1048576: true; the input reads as it did. -/
def stockAlphasUptoRow : OpenClaim := { program := "ytnnbdjfeagcbdaa", sum := "5b3db3a87b1bc5bb339550b2b40399ec6f3e5b76d0d1afbb91c5a9bb90fd0281", func := "oast/oastlaw01.StockAlphas", spec := "stockAlphas", unfollowed := true, recurses := true, named := ["math/bits.divideError", "math/bits.overflowError"], apart := false, narrowed := true }
def StockAlphasUptoSaid : Prop := stockAlphasUptoRow.holds Try.pinned (OpenSpec.upto stockAlphasSpec)

/-- 'oastlaw01.StockFinds', WHERE WHAT IT READS IS OF BULK AT MOST 1048576: true; the input reads as it did. -/
def stockFindsUptoRow : OpenClaim := { program := "ytnnbdjfeagcbdaa", sum := "5b3db3a87b1bc5bb339550b2b40399ec6f3e5b76d0d1afbb91c5a9bb90fd0281", func := "oast/oastlaw01.StockFinds", spec := "stockFinds", unfollowed := true, recurses := true, apart := false, narrowed := true }
def StockFindsUptoSaid : Prop := stockFindsUptoRow.holds Try.pinned (OpenSpec.upto stockFindsSpec)

/-- 'oastlaw01.StockChanges', WHERE WHAT IT READS IS OF BULK AT MOST 1048576: true; the input reads as it did. -/
def stockChangesUptoRow : OpenClaim := { program := "ytnnbdjfeagcbdaa", sum := "5b3db3a87b1bc5bb339550b2b40399ec6f3e5b76d0d1afbb91c5a9bb90fd0281", func := "oast/oastlaw01.StockChanges", spec := "stockChanges", unfollowed := true, recurses := true, apart := false, narrowed := true }
def StockChangesUptoSaid : Prop := stockChangesUptoRow.holds Try.pinned (OpenSpec.upto stockChangesSpec)

/-- 'oastlaw01.StockForks', WHERE WHAT IT READS IS OF BULK AT MOST 1048576: true; the input reads as it did. -/
def stockForksUptoRow : OpenClaim := { program := "ytnnbdjfeagcbdaa", sum := "5b3db3a87b1bc5bb339550b2b40399ec6f3e5b76d0d1afbb91c5a9bb90fd0281", func := "oast/oastlaw01.StockForks", spec := "stockForks", unfollowed := true, recurses := true, apart := false, narrowed := true }
def StockForksUptoSaid : Prop := stockForksUptoRow.holds Try.pinned (OpenSpec.upto stockForksSpec)

/-- 'oastlaw01.StockReturns', WHERE WHAT IT READS IS OF BULK AT MOST 1048576: true; the input reads as it did. -/
def stockReturnsUptoRow : OpenClaim := { program := "ytnnbdjfeagcbdaa", sum := "5b3db3a87b1bc5bb339550b2b40399ec6f3e5b76d0d1afbb91c5a9bb90fd0281", func := "oast/oastlaw01.StockReturns", spec := "stockReturns", unfollowed := true, recurses := true, apart := false, narrowed := true }
def StockReturnsUptoSaid : Prop := stockReturnsUptoRow.holds Try.pinned (OpenSpec.upto stockReturnsSpec)

/-- 'oastlaw01.StockVoid', WHERE WHAT IT READS IS OF BULK AT MOST 1048576: true; the input reads as it did. -/
def stockVoidUptoRow : OpenClaim := { program := "ytnnbdjfeagcbdaa", sum := "5b3db3a87b1bc5bb339550b2b40399ec6f3e5b76d0d1afbb91c5a9bb90fd0281", func := "oast/oastlaw01.StockVoid", spec := "stockVoid", unfollowed := true, recurses := true, apart := false, narrowed := true }
def StockVoidUptoSaid : Prop := stockVoidUptoRow.holds Try.pinned (OpenSpec.upto stockVoidSpec)

end Rows
end Go.Proofs.Ytnnbdjfeagcbdaa
