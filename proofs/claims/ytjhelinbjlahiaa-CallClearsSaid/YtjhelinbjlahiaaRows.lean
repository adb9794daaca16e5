/-
  No cell of these rows narrows 'for every input' (looked for: loops, veiled, ifaces, maps, wideKeys, modest, calm, conditions, laid).
  DERIVED. THE GIVEN ROWS OF THIS SEAT. 11 by the template 'for every input the law returns true; each argument reads behind the call as it read before'; 0 by the template 'total and deterministic' (their statements: YtjhelinbjlahiaaTotals.lean).
  GIVEN WITH THE SEED: the statements are not yours to turn. If you find one false, say at which input.
  Laid BY PROGRAM, IN A SANDBOX (cutbox-rows.mjs): the forced cells as the released guide's own fill.sh prints them over the translation 23d6571a3b3576b7… (all of the seat's roots in one cut). By AI agents, Wed Nov 11 2026. No macro, syntax, notation, axiom, sorry.
-/
import Derived.Test.YtjhelinbjlahiaaChecked
import GoSem.Claim
import GoSem.ClaimJoined
import GoSem.ClaimMapViews
import Derived.JoinedTies
import Derived.KernelRfl
namespace Go.Proofs.Ytjhelinbjlahiaa
/- THE CELL 'sum', in the pinned program and in every row, IS THE sha256 OF THE DUMP (.gsa) THAT YtjhelinbjlahiaaProg.lean LOADS. Nothing in Lean hashes anything: it is a label: what it is worth is what the hold of that sum in a sandbox is worth. -/
noncomputable def Try.pinned : Pinned := { name := "ytjhelinbjlahiaa", sum := "23d6571a3b3576b7609b96d99e0f1c7d67d768dc1aa7b5d65335db9dbd48c742", checked := Try.checked }
namespace Rows
def none {H : Type} : Left H := { results := [], args := [] }

/-- 'oastlaw03.CallBalances': WHATEVER THE INPUT: true; the input reads as it did. -/
def callBalancesSpec : ChangeSpec := { name := "callBalances", fn := fun _ => fun
  | [d1, d2, d3] => { results := [.lit (.bool true)], args := [d1, d2, d3] }
  | _ => none }
def callBalancesRow : OpenClaim := { program := "ytjhelinbjlahiaa", sum := "23d6571a3b3576b7609b96d99e0f1c7d67d768dc1aa7b5d65335db9dbd48c742", func := "oast/oastlaw03.CallBalances", spec := "callBalances", unfollowed := true, recurses := true, named := ["math/bits.divideError", "math/bits.overflowError"], apart := false }
def CallBalancesSaid : Prop := callBalancesRow.holds Try.pinned (OpenSpec.ofChange callBalancesSpec)

/-- ITS FALSE NEIGHBOUR: 'it returns false'. Refute it at one input. -/
def callBalancesWrong : ChangeSpec := { name := "callBalances", fn := fun _ => fun
  | [d1, d2, d3] => { results := [.lit (.bool false)], args := [d1, d2, d3] }
  | _ => none }
def CallBalancesWrongFalsely : Prop := callBalancesRow.holds Try.pinned (OpenSpec.ofChange callBalancesWrong)

/-- 'oastlaw03.CallOrders': WHATEVER THE INPUT: true; the input reads as it did. -/
def callOrdersSpec : ChangeSpec := { name := "callOrders", fn := fun _ => fun
  | [d1, d2] => { results := [.lit (.bool true)], args := [d1, d2] }
  | _ => none }
def callOrdersRow : OpenClaim := { program := "ytjhelinbjlahiaa", sum := "23d6571a3b3576b7609b96d99e0f1c7d67d768dc1aa7b5d65335db9dbd48c742", func := "oast/oastlaw03.CallOrders", spec := "callOrders", unfollowed := true, recurses := true, named := ["math/bits.divideError", "math/bits.overflowError"], apart := false }
def CallOrdersSaid : Prop := callOrdersRow.holds Try.pinned (OpenSpec.ofChange callOrdersSpec)

/-- ITS FALSE NEIGHBOUR: 'it returns false'. Refute it at one input. -/
def callOrdersWrong : ChangeSpec := { name := "callOrders", fn := fun _ => fun
  | [d1, d2] => { results := [.lit (.bool false)], args := [d1, d2] }
  | _ => none }
def CallOrdersWrongFalsely : Prop := callOrdersRow.holds Try.pinned (OpenSpec.ofChange callOrdersWrong)

/-- 'oastlaw03.CallClears': WHATEVER THE INPUT: true; the input reads as it did. -/
def callClearsSpec : ChangeSpec := { name := "callClears", fn := fun _ => fun
  | [d1, d2, d3] => { results := [.lit (.bool true)], args := [d1, d2, d3] }
  | _ => none }
def callClearsRow : OpenClaim := { program := "ytjhelinbjlahiaa", sum := "23d6571a3b3576b7609b96d99e0f1c7d67d768dc1aa7b5d65335db9dbd48c742", func := "oast/oastlaw03.CallClears", spec := "callClears", unfollowed := true, recurses := true, named := ["math/bits.divideError", "math/bits.overflowError"], apart := false }
def CallClearsSaid : Prop := callClearsRow.holds Try.pinned (OpenSpec.ofChange callClearsSpec)

/-- ITS FALSE NEIGHBOUR: 'it returns false'. Refute it at one input. -/
def callClearsWrong : ChangeSpec := { name := "callClears", fn := fun _ => fun
  | [d1, d2, d3] => { results := [.lit (.bool false)], args := [d1, d2, d3] }
  | _ => none }
def CallClearsWrongFalsely : Prop := callClearsRow.holds Try.pinned (OpenSpec.ofChange callClearsWrong)

/-- 'oastlaw03.CallPrices': WHATEVER THE INPUT: true; the input reads as it did. -/
def callPricesSpec : ChangeSpec := { name := "callPrices", fn := fun _ => fun
  | [d1, d2] => { results := [.lit (.bool true)], args := [d1, d2] }
  | _ => none }
def callPricesRow : OpenClaim := { program := "ytjhelinbjlahiaa", sum := "23d6571a3b3576b7609b96d99e0f1c7d67d768dc1aa7b5d65335db9dbd48c742", func := "oast/oastlaw03.CallPrices", spec := "callPrices", unfollowed := true, recurses := true, named := ["math/bits.divideError", "math/bits.overflowError"], apart := false }
def CallPricesSaid : Prop := callPricesRow.holds Try.pinned (OpenSpec.ofChange callPricesSpec)

/-- ITS FALSE NEIGHBOUR: 'it returns false'. Refute it at one input. -/
def callPricesWrong : ChangeSpec := { name := "callPrices", fn := fun _ => fun
  | [d1, d2] => { results := [.lit (.bool false)], args := [d1, d2] }
  | _ => none }
def CallPricesWrongFalsely : Prop := callPricesRow.holds Try.pinned (OpenSpec.ofChange callPricesWrong)

/-- 'oastlaw03.CallSplits': WHATEVER THE INPUT: true; the input reads as it did. -/
def callSplitsSpec : ChangeSpec := { name := "callSplits", fn := fun _ => fun
  | [d1, d2] => { results := [.lit (.bool true)], args := [d1, d2] }
  | _ => none }
def callSplitsRow : OpenClaim := { program := "ytjhelinbjlahiaa", sum := "23d6571a3b3576b7609b96d99e0f1c7d67d768dc1aa7b5d65335db9dbd48c742", func := "oast/oastlaw03.CallSplits", spec := "callSplits", unfollowed := true, recurses := true, named := ["math/bits.divideError", "math/bits.overflowError"], apart := false }
def CallSplitsSaid : Prop := callSplitsRow.holds Try.pinned (OpenSpec.ofChange callSplitsSpec)

/-- ITS FALSE NEIGHBOUR: 'it returns false'. Refute it at one input. -/
def callSplitsWrong : ChangeSpec := { name := "callSplits", fn := fun _ => fun
  | [d1, d2] => { results := [.lit (.bool false)], args := [d1, d2] }
  | _ => none }
def CallSplitsWrongFalsely : Prop := callSplitsRow.holds Try.pinned (OpenSpec.ofChange callSplitsWrong)

/-- 'oastlaw03.CallCurves': WHATEVER THE INPUT: true; the input reads as it did. -/
def callCurvesSpec : ChangeSpec := { name := "callCurves", fn := fun _ => fun
  | [d1, d2] => { results := [.lit (.bool true)], args := [d1, d2] }
  | _ => none }
def callCurvesRow : OpenClaim := { program := "ytjhelinbjlahiaa", sum := "23d6571a3b3576b7609b96d99e0f1c7d67d768dc1aa7b5d65335db9dbd48c742", func := "oast/oastlaw03.CallCurves", spec := "callCurves", unfollowed := true, recurses := true, named := ["math/bits.divideError", "math/bits.overflowError"], apart := false }
def CallCurvesSaid : Prop := callCurvesRow.holds Try.pinned (OpenSpec.ofChange callCurvesSpec)

/-- ITS FALSE NEIGHBOUR: 'it returns false'. Refute it at one input. -/
def callCurvesWrong : ChangeSpec := { name := "callCurves", fn := fun _ => fun
  | [d1, d2] => { results := [.lit (.bool false)], args := [d1, d2] }
  | _ => none }
def CallCurvesWrongFalsely : Prop := callCurvesRow.holds Try.pinned (OpenSpec.ofChange callCurvesWrong)

/-- 'oastlaw03.CallGains': WHATEVER THE INPUT: true; the input reads as it did. -/
def callGainsSpec : ChangeSpec := { name := "callGains", fn := fun _ => fun
  | [d1, d2] => { results := [.lit (.bool true)], args := [d1, d2] }
  | _ => none }
def callGainsRow : OpenClaim := { program := "ytjhelinbjlahiaa", sum := "23d6571a3b3576b7609b96d99e0f1c7d67d768dc1aa7b5d65335db9dbd48c742", func := "oast/oastlaw03.CallGains", spec := "callGains", unfollowed := true, recurses := true, named := ["math/bits.divideError", "math/bits.overflowError"], apart := false }
def CallGainsSaid : Prop := callGainsRow.holds Try.pinned (OpenSpec.ofChange callGainsSpec)

/-- ITS FALSE NEIGHBOUR: 'it returns false'. Refute it at one input. -/
def callGainsWrong : ChangeSpec := { name := "callGains", fn := fun _ => fun
  | [d1, d2] => { results := [.lit (.bool false)], args := [d1, d2] }
  | _ => none }
def CallGainsWrongFalsely : Prop := callGainsRow.holds Try.pinned (OpenSpec.ofChange callGainsWrong)

/-- 'oastlaw03.CallGreatest': WHATEVER THE INPUT: true; the input reads as it did. -/
def callGreatestSpec : ChangeSpec := { name := "callGreatest", fn := fun _ => fun
  | [d1, d2, d3] => { results := [.lit (.bool true)], args := [d1, d2, d3] }
  | _ => none }
def callGreatestRow : OpenClaim := { program := "ytjhelinbjlahiaa", sum := "23d6571a3b3576b7609b96d99e0f1c7d67d768dc1aa7b5d65335db9dbd48c742", func := "oast/oastlaw03.CallGreatest", spec := "callGreatest", unfollowed := true, recurses := true, named := ["math/bits.divideError", "math/bits.overflowError"], apart := false }
def CallGreatestSaid : Prop := callGreatestRow.holds Try.pinned (OpenSpec.ofChange callGreatestSpec)

/-- ITS FALSE NEIGHBOUR: 'it returns false'. Refute it at one input. -/
def callGreatestWrong : ChangeSpec := { name := "callGreatest", fn := fun _ => fun
  | [d1, d2, d3] => { results := [.lit (.bool false)], args := [d1, d2, d3] }
  | _ => none }
def CallGreatestWrongFalsely : Prop := callGreatestRow.holds Try.pinned (OpenSpec.ofChange callGreatestWrong)

/-- 'oastlaw03.CallMore': WHATEVER THE INPUT: true; the input reads as it did. -/
def callMoreSpec : ChangeSpec := { name := "callMore", fn := fun _ => fun
  | [d1, d2, d3] => { results := [.lit (.bool true)], args := [d1, d2, d3] }
  | _ => none }
def callMoreRow : OpenClaim := { program := "ytjhelinbjlahiaa", sum := "23d6571a3b3576b7609b96d99e0f1c7d67d768dc1aa7b5d65335db9dbd48c742", func := "oast/oastlaw03.CallMore", spec := "callMore", unfollowed := true, recurses := true, named := ["math/bits.divideError", "math/bits.overflowError"], apart := false }
def CallMoreSaid : Prop := callMoreRow.holds Try.pinned (OpenSpec.ofChange callMoreSpec)

/-- ITS FALSE NEIGHBOUR: 'it returns false'. Refute it at one input. -/
def callMoreWrong : ChangeSpec := { name := "callMore", fn := fun _ => fun
  | [d1, d2, d3] => { results := [.lit (.bool false)], args := [d1, d2, d3] }
  | _ => none }
def CallMoreWrongFalsely : Prop := callMoreRow.holds Try.pinned (OpenSpec.ofChange callMoreWrong)

/-- 'oastlaw03.CallMirrors': WHATEVER THE INPUT: true; the input reads as it did. -/
def callMirrorsSpec : ChangeSpec := { name := "callMirrors", fn := fun _ => fun
  | [d1, d2] => { results := [.lit (.bool true)], args := [d1, d2] }
  | _ => none }
def callMirrorsRow : OpenClaim := { program := "ytjhelinbjlahiaa", sum := "23d6571a3b3576b7609b96d99e0f1c7d67d768dc1aa7b5d65335db9dbd48c742", func := "oast/oastlaw03.CallMirrors", spec := "callMirrors", unfollowed := true, recurses := true, named := ["math/bits.divideError", "math/bits.overflowError"], apart := false }
def CallMirrorsSaid : Prop := callMirrorsRow.holds Try.pinned (OpenSpec.ofChange callMirrorsSpec)

/-- ITS FALSE NEIGHBOUR: 'it returns false'. Refute it at one input. -/
def callMirrorsWrong : ChangeSpec := { name := "callMirrors", fn := fun _ => fun
  | [d1, d2] => { results := [.lit (.bool false)], args := [d1, d2] }
  | _ => none }
def CallMirrorsWrongFalsely : Prop := callMirrorsRow.holds Try.pinned (OpenSpec.ofChange callMirrorsWrong)

/-- 'oastlaw03.CallChecks': WHATEVER THE INPUT: true; the input reads as it did. -/
def callChecksSpec : ChangeSpec := { name := "callChecks", fn := fun _ => fun
  | [d1, d2] => { results := [.lit (.bool true)], args := [d1, d2] }
  | _ => none }
def callChecksRow : OpenClaim := { program := "ytjhelinbjlahiaa", sum := "23d6571a3b3576b7609b96d99e0f1c7d67d768dc1aa7b5d65335db9dbd48c742", func := "oast/oastlaw03.CallChecks", spec := "callChecks", unfollowed := true, recurses := true, named := ["math/bits.divideError", "math/bits.overflowError"], apart := false }
def CallChecksSaid : Prop := callChecksRow.holds Try.pinned (OpenSpec.ofChange callChecksSpec)

/-- ITS FALSE NEIGHBOUR: 'it returns false'. Refute it at one input. -/
def callChecksWrong : ChangeSpec := { name := "callChecks", fn := fun _ => fun
  | [d1, d2] => { results := [.lit (.bool false)], args := [d1, d2] }
  | _ => none }
def CallChecksWrongFalsely : Prop := callChecksRow.holds Try.pinned (OpenSpec.ofChange callChecksWrong)

/- THE SECOND FORM. 'bulk': how many values and letters a reading holds, each counted each time it is reached (what is shared counts as often as it is met; a slice's spare places count too). A statement '..UptoSaid' is the law's where the arguments, and the package variables that the reading takes, are together of bulk at most 1048576: NARROWER than '..Said'. Prove '..Said' where nothing that the law and all that it calls make is longer than what came in: it says more and counts as full. Else prove '..UptoSaid'. A law counts once. -/
mutual
def uptoBulk {H : Type} : DataW H → Nat
  | .lit (.string bytes) => bytes.length + 1
  | .lit _ => 1
  | .nil => 1
  | .ptr d => uptoBulk d + 1
  | .slice elems spare => uptoBulkAll elems + uptoBulkAll spare + 1
  | .agg parts => uptoBulkAll parts + 1
  | .iface _ d => uptoBulk d + 1
  | .map entries => uptoBulkEntries entries + 1
  | .held _ => 1
def uptoBulkAll {H : Type} : List (DataW H) → Nat
  | [] => 0
  | d :: r => uptoBulk d + uptoBulkAll r
def uptoBulkEntries {H : Type} : List (Lit × DataW H) → Nat
  | [] => 0
  | x :: r => uptoBulkEntry x + uptoBulkEntries r
def uptoBulkEntry {H : Type} : Lit × DataW H → Nat
  | (.string bytes, d) => bytes.length + uptoBulk d + 1
  | (_, d) => uptoBulk d + 1
 end
def uptoSmall : (H : Type) → List (DataW H) → Bool := fun _ ds => decide (uptoBulkAll ds ≤ 1048576)
def OpenSpec.upto (s : _root_.Go.ChangeSpec) : _root_.Go.OpenSpec := { _root_.Go.OpenSpec.ofChange s with cond := some uptoSmall }

/-- 'oastlaw03.CallBalances', WHERE WHAT IT READS IS OF BULK AT MOST 1048576: true; the input reads as it did. -/
def callBalancesUptoRow : OpenClaim := { program := "ytjhelinbjlahiaa", sum := "23d6571a3b3576b7609b96d99e0f1c7d67d768dc1aa7b5d65335db9dbd48c742", func := "oast/oastlaw03.CallBalances", spec := "callBalances", unfollowed := true, recurses := true, named := ["math/bits.divideError", "math/bits.overflowError"], apart := false, narrowed := true }
def CallBalancesUptoSaid : Prop := callBalancesUptoRow.holds Try.pinned (OpenSpec.upto callBalancesSpec)

/-- 'oastlaw03.CallOrders', WHERE WHAT IT READS IS OF BULK AT MOST 1048576: true; the input reads as it did. -/
def callOrdersUptoRow : OpenClaim := { program := "ytjhelinbjlahiaa", sum := "23d6571a3b3576b7609b96d99e0f1c7d67d768dc1aa7b5d65335db9dbd48c742", func := "oast/oastlaw03.CallOrders", spec := "callOrders", unfollowed := true, recurses := true, named := ["math/bits.divideError", "math/bits.overflowError"], apart := false, narrowed := true }
def CallOrdersUptoSaid : Prop := callOrdersUptoRow.holds Try.pinned (OpenSpec.upto callOrdersSpec)

/-- 'oastlaw03.CallClears', WHERE WHAT IT READS IS OF BULK AT MOST 1048576: true; the input reads as it did. -/
def callClearsUptoRow : OpenClaim := { program := "ytjhelinbjlahiaa", sum := "23d6571a3b3576b7609b96d99e0f1c7d67d768dc1aa7b5d65335db9dbd48c742", func := "oast/oastlaw03.CallClears", spec := "callClears", unfollowed := true, recurses := true, named := ["math/bits.divideError", "math/bits.overflowError"], apart := false, narrowed := true }
def CallClearsUptoSaid : Prop := callClearsUptoRow.holds Try.pinned (OpenSpec.upto callClearsSpec)

/-- 'oastlaw03.CallPrices', WHERE WHAT IT READS IS OF BULK AT MOST 1048576: true; the input reads as it did. -/
def callPricesUptoRow : OpenClaim := { program := "ytjhelinbjlahiaa", sum := "23d6571a3b3576b7609b96d99e0f1c7d67d768dc1aa7b5d65335db9dbd48c742", func := "oast/oastlaw03.CallPrices", spec := "callPrices", unfollowed := true, recurses := true, named := ["math/bits.divideError", "math/bits.overflowError"], apart := false, narrowed := true }
def CallPricesUptoSaid : Prop := callPricesUptoRow.holds Try.pinned (OpenSpec.upto callPricesSpec)

/-- 'oastlaw03.CallSplits', WHERE WHAT IT READS IS OF BULK AT MOST 1048576: true; the input reads as it did. -/
def callSplitsUptoRow : OpenClaim := { program := "ytjhelinbjlahiaa", sum := "23d6571a3b3576b7609b96d99e0f1c7d67d768dc1aa7b5d65335db9dbd48c742", func := "oast/oastlaw03.CallSplits", spec := "callSplits", unfollowed := true, recurses := true, named := ["math/bits.divideError", "math/bits.overflowError"], apart := false, narrowed := true }
def CallSplitsUptoSaid : Prop := callSplitsUptoRow.holds Try.pinned (OpenSpec.upto callSplitsSpec)

/-- 'oastlaw03.CallCurves', WHERE WHAT IT READS IS OF BULK AT MOST 1048576: true; the input reads as it did. -/
def callCurvesUptoRow : OpenClaim := { program := "ytjhelinbjlahiaa", sum := "23d6571a3b3576b7609b96d99e0f1c7d67d768dc1aa7b5d65335db9dbd48c742", func := "oast/oastlaw03.CallCurves", spec := "callCurves", unfollowed := true, recurses := true, named := ["math/bits.divideError", "math/bits.overflowError"], apart := false, narrowed := true }
def CallCurvesUptoSaid : Prop := callCurvesUptoRow.holds Try.pinned (OpenSpec.upto callCurvesSpec)

/-- 'oastlaw03.CallGains', WHERE WHAT IT READS IS OF BULK AT MOST 1048576: true; the input reads as it did. -/
def callGainsUptoRow : OpenClaim := { program := "ytjhelinbjlahiaa", sum := "23d6571a3b3576b7609b96d99e0f1c7d67d768dc1aa7b5d65335db9dbd48c742", func := "oast/oastlaw03.CallGains", spec := "callGains", unfollowed := true, recurses := true, named := ["math/bits.divideError", "math/bits.overflowError"], apart := false, narrowed := true }
def CallGainsUptoSaid : Prop := callGainsUptoRow.holds Try.pinned (OpenSpec.upto callGainsSpec)

/-- 'oastlaw03.CallGreatest', WHERE WHAT IT READS IS OF BULK AT MOST 1048576: true; the input reads as it did. -/
def callGreatestUptoRow : OpenClaim := { program := "ytjhelinbjlahiaa", sum := "23d6571a3b3576b7609b96d99e0f1c7d67d768dc1aa7b5d65335db9dbd48c742", func := "oast/oastlaw03.CallGreatest", spec := "callGreatest", unfollowed := true, recurses := true, named := ["math/bits.divideError", "math/bits.overflowError"], apart := false, narrowed := true }
def CallGreatestUptoSaid : Prop := callGreatestUptoRow.holds Try.pinned (OpenSpec.upto callGreatestSpec)

/-- 'oastlaw03.CallMore', WHERE WHAT IT READS IS OF BULK AT MOST 1048576: true; the input reads as it did. -/
def callMoreUptoRow : OpenClaim := { program := "ytjhelinbjlahiaa", sum := "23d6571a3b3576b7609b96d99e0f1c7d67d768dc1aa7b5d65335db9dbd48c742", func := "oast/oastlaw03.CallMore", spec := "callMore", unfollowed := true, recurses := true, named := ["math/bits.divideError", "math/bits.overflowError"], apart := false, narrowed := true }
def CallMoreUptoSaid : Prop := callMoreUptoRow.holds Try.pinned (OpenSpec.upto callMoreSpec)

/-- 'oastlaw03.CallMirrors', WHERE WHAT IT READS IS OF BULK AT MOST 1048576: true; the input reads as it did. -/
def callMirrorsUptoRow : OpenClaim := { program := "ytjhelinbjlahiaa", sum := "23d6571a3b3576b7609b96d99e0f1c7d67d768dc1aa7b5d65335db9dbd48c742", func := "oast/oastlaw03.CallMirrors", spec := "callMirrors", unfollowed := true, recurses := true, named := ["math/bits.divideError", "math/bits.overflowError"], apart := false, narrowed := true }
def CallMirrorsUptoSaid : Prop := callMirrorsUptoRow.holds Try.pinned (OpenSpec.upto callMirrorsSpec)

/-- 'oastlaw03.CallChecks', WHERE WHAT IT READS IS OF BULK AT MOST 1048576: true; the input reads as it did. -/
def callChecksUptoRow : OpenClaim := { program := "ytjhelinbjlahiaa", sum := "23d6571a3b3576b7609b96d99e0f1c7d67d768dc1aa7b5d65335db9dbd48c742", func := "oast/oastlaw03.CallChecks", spec := "callChecks", unfollowed := true, recurses := true, named := ["math/bits.divideError", "math/bits.overflowError"], apart := false, narrowed := true }
def CallChecksUptoSaid : Prop := callChecksUptoRow.holds Try.pinned (OpenSpec.upto callChecksSpec)

end Rows
end Go.Proofs.Ytjhelinbjlahiaa
