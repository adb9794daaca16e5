/-
  NARROWER THAN 'FOR EVERY INPUT', by the rows' own cells (each row's printed sentence says how): BidTried: laid · BidLeast: laid · BidBoth: laid · BidCrowds: laid · BidSolves: laid · BidGains: laid · BidTruth: laid · BidTotals: laid · BidMore: laid · BidBalances: laid · BidContent: laid · BidBlocks: laid · BidHalls: laid · BidChecks: laid · BidSingles: laid.
  DERIVED. THE GIVEN ROWS OF THIS SEAT. 15 by the template 'for every input the law returns true; each argument reads behind the call as it read before'; 0 by the template 'total and deterministic' (their statements: YtojednnciknhpaaDoorTotals.lean).
  GIVEN WITH THE SEED: the statements are not yours to turn. If you find one false, say at which input.
  Laid BY PROGRAM, IN A SANDBOX (cutbox-rows.mjs): the forced cells as the released guide's own fill.sh prints them over the translation 9e1289900cdc0447… (all of the seat's roots in one cut). By AI agents, Wed Nov 11 2026. No macro, syntax, notation, axiom, sorry.
-/
import Derived.Test.YtojednnciknhpaaDoorChecked
import GoSem.Claim
import GoSem.ClaimJoined
import GoSem.ClaimMapViews
import Derived.JoinedTies
import Derived.KernelRfl
namespace Go.Proofs.YtojednnciknhpaaDoor
/- THE CELL 'sum', in the pinned program and in every row, IS THE sha256 OF THE DUMP (.gsa) THAT YtojednnciknhpaaDoorProg.lean LOADS. Nothing in Lean hashes anything: it is a label: what it is worth is what the hold of that sum in a sandbox is worth. -/
noncomputable def Tryd.pinned : Pinned := { name := "ytojednnciknhpaadoor", sum := "9e1289900cdc0447bb71403ffdcd9cb197ac7541105604922398b228e5f58a53", checked := Tryd.checked }
namespace Rows
def none {H : Type} : Left H := { results := [], args := [] }

/- WHAT THE LISTED PACKAGE-LEVEL VARIABLES READ AS WHEN THE CALL BEGINS. Each datum BY PROGRAM (the guide's laid-datum.mjs) off the statement by which the dump's own 'gosem.cut.vars' lays the variable. In a bare row this is a premise. The card (YtojednnciknhpaaDoorCards.lean) ties it to the program's text. -/
def laid_math_bits_deBruijn32tab {H : Type} : DataW H := .agg [.lit (.int .u8 0), .lit (.int .u8 1), .lit (.int .u8 28), .lit (.int .u8 2), .lit (.int .u8 29), .lit (.int .u8 14), .lit (.int .u8 24), .lit (.int .u8 3), .lit (.int .u8 30), .lit (.int .u8 22), .lit (.int .u8 20), .lit (.int .u8 15), .lit (.int .u8 25), .lit (.int .u8 17), .lit (.int .u8 4), .lit (.int .u8 8), .lit (.int .u8 31), .lit (.int .u8 27), .lit (.int .u8 13), .lit (.int .u8 23), .lit (.int .u8 21), .lit (.int .u8 19), .lit (.int .u8 16), .lit (.int .u8 7), .lit (.int .u8 26), .lit (.int .u8 12), .lit (.int .u8 18), .lit (.int .u8 6), .lit (.int .u8 11), .lit (.int .u8 5), .lit (.int .u8 10), .lit (.int .u8 9)]

/-- 'oastlaw04.BidTried': WHATEVER THE INPUT: true; the input reads as it did. -/
def bidTriedSpec : ChangeSpec := { name := "bidTried", fn := fun _ => fun
  | [d] => { results := [.lit (.bool true)], args := [d] }
  | _ => none }
def bidTriedRow : OpenClaim := { program := "ytojednnciknhpaadoor", sum := "9e1289900cdc0447bb71403ffdcd9cb197ac7541105604922398b228e5f58a53", func := "oast/oastlaw04.BidTried", spec := "bidTried", unfollowed := true, recurses := true, named := ["math/bits.deBruijn32tab"], apart := false, laid := [("math/bits.deBruijn32tab", laid_math_bits_deBruijn32tab)] }
def BidTriedSaid : Prop := bidTriedRow.holds Tryd.pinned (OpenSpec.ofChange bidTriedSpec)

/-- ITS FALSE NEIGHBOUR: 'it returns false'. Refute it at one input. -/
def bidTriedWrong : ChangeSpec := { name := "bidTried", fn := fun _ => fun
  | [d] => { results := [.lit (.bool false)], args := [d] }
  | _ => none }
def BidTriedWrongFalsely : Prop := bidTriedRow.holds Tryd.pinned (OpenSpec.ofChange bidTriedWrong)

/-- 'oastlaw04.BidLeast': WHATEVER THE INPUT: true; the input reads as it did. -/
def bidLeastSpec : ChangeSpec := { name := "bidLeast", fn := fun _ => fun
  | [d] => { results := [.lit (.bool true)], args := [d] }
  | _ => none }
def bidLeastRow : OpenClaim := { program := "ytojednnciknhpaadoor", sum := "9e1289900cdc0447bb71403ffdcd9cb197ac7541105604922398b228e5f58a53", func := "oast/oastlaw04.BidLeast", spec := "bidLeast", unfollowed := true, recurses := true, named := ["math/bits.deBruijn32tab"], apart := false, laid := [("math/bits.deBruijn32tab", laid_math_bits_deBruijn32tab)] }
def BidLeastSaid : Prop := bidLeastRow.holds Tryd.pinned (OpenSpec.ofChange bidLeastSpec)

/-- ITS FALSE NEIGHBOUR: 'it returns false'. Refute it at one input. -/
def bidLeastWrong : ChangeSpec := { name := "bidLeast", fn := fun _ => fun
  | [d] => { results := [.lit (.bool false)], args := [d] }
  | _ => none }
def BidLeastWrongFalsely : Prop := bidLeastRow.holds Tryd.pinned (OpenSpec.ofChange bidLeastWrong)

/-- 'oastlaw04.BidBoth': WHATEVER THE INPUT: true; the input reads as it did. -/
def bidBothSpec : ChangeSpec := { name := "bidBoth", fn := fun _ => fun
  | [d] => { results := [.lit (.bool true)], args := [d] }
  | _ => none }
def bidBothRow : OpenClaim := { program := "ytojednnciknhpaadoor", sum := "9e1289900cdc0447bb71403ffdcd9cb197ac7541105604922398b228e5f58a53", func := "oast/oastlaw04.BidBoth", spec := "bidBoth", unfollowed := true, recurses := true, named := ["math/bits.deBruijn32tab"], apart := false, laid := [("math/bits.deBruijn32tab", laid_math_bits_deBruijn32tab)] }
def BidBothSaid : Prop := bidBothRow.holds Tryd.pinned (OpenSpec.ofChange bidBothSpec)

/-- ITS FALSE NEIGHBOUR: 'it returns false'. Refute it at one input. -/
def bidBothWrong : ChangeSpec := { name := "bidBoth", fn := fun _ => fun
  | [d] => { results := [.lit (.bool false)], args := [d] }
  | _ => none }
def BidBothWrongFalsely : Prop := bidBothRow.holds Tryd.pinned (OpenSpec.ofChange bidBothWrong)

/-- 'oastlaw04.BidCrowds': WHATEVER THE INPUT: true; the input reads as it did. -/
def bidCrowdsSpec : ChangeSpec := { name := "bidCrowds", fn := fun _ => fun
  | [d1, d2] => { results := [.lit (.bool true)], args := [d1, d2] }
  | _ => none }
def bidCrowdsRow : OpenClaim := { program := "ytojednnciknhpaadoor", sum := "9e1289900cdc0447bb71403ffdcd9cb197ac7541105604922398b228e5f58a53", func := "oast/oastlaw04.BidCrowds", spec := "bidCrowds", unfollowed := true, recurses := true, named := ["math/bits.deBruijn32tab"], apart := false, laid := [("math/bits.deBruijn32tab", laid_math_bits_deBruijn32tab)] }
def BidCrowdsSaid : Prop := bidCrowdsRow.holds Tryd.pinned (OpenSpec.ofChange bidCrowdsSpec)

/-- ITS FALSE NEIGHBOUR: 'it returns false'. Refute it at one input. -/
def bidCrowdsWrong : ChangeSpec := { name := "bidCrowds", fn := fun _ => fun
  | [d1, d2] => { results := [.lit (.bool false)], args := [d1, d2] }
  | _ => none }
def BidCrowdsWrongFalsely : Prop := bidCrowdsRow.holds Tryd.pinned (OpenSpec.ofChange bidCrowdsWrong)

/-- 'oastlaw04.BidSolves': WHATEVER THE INPUT: true; the input reads as it did. -/
def bidSolvesSpec : ChangeSpec := { name := "bidSolves", fn := fun _ => fun
  | [d1, d2] => { results := [.lit (.bool true)], args := [d1, d2] }
  | _ => none }
def bidSolvesRow : OpenClaim := { program := "ytojednnciknhpaadoor", sum := "9e1289900cdc0447bb71403ffdcd9cb197ac7541105604922398b228e5f58a53", func := "oast/oastlaw04.BidSolves", spec := "bidSolves", unfollowed := true, recurses := true, named := ["math/bits.deBruijn32tab"], apart := false, laid := [("math/bits.deBruijn32tab", laid_math_bits_deBruijn32tab)] }
def BidSolvesSaid : Prop := bidSolvesRow.holds Tryd.pinned (OpenSpec.ofChange bidSolvesSpec)

/-- ITS FALSE NEIGHBOUR: 'it returns false'. Refute it at one input. -/
def bidSolvesWrong : ChangeSpec := { name := "bidSolves", fn := fun _ => fun
  | [d1, d2] => { results := [.lit (.bool false)], args := [d1, d2] }
  | _ => none }
def BidSolvesWrongFalsely : Prop := bidSolvesRow.holds Tryd.pinned (OpenSpec.ofChange bidSolvesWrong)

/-- 'oastlaw04.BidGains': WHATEVER THE INPUT: true; the input reads as it did. -/
def bidGainsSpec : ChangeSpec := { name := "bidGains", fn := fun _ => fun
  | [d1, d2, d3] => { results := [.lit (.bool true)], args := [d1, d2, d3] }
  | _ => none }
def bidGainsRow : OpenClaim := { program := "ytojednnciknhpaadoor", sum := "9e1289900cdc0447bb71403ffdcd9cb197ac7541105604922398b228e5f58a53", func := "oast/oastlaw04.BidGains", spec := "bidGains", unfollowed := true, recurses := true, named := ["math/bits.deBruijn32tab"], apart := false, laid := [("math/bits.deBruijn32tab", laid_math_bits_deBruijn32tab)] }
def BidGainsSaid : Prop := bidGainsRow.holds Tryd.pinned (OpenSpec.ofChange bidGainsSpec)

/-- ITS FALSE NEIGHBOUR: 'it returns false'. Refute it at one input. -/
def bidGainsWrong : ChangeSpec := { name := "bidGains", fn := fun _ => fun
  | [d1, d2, d3] => { results := [.lit (.bool false)], args := [d1, d2, d3] }
  | _ => none }
def BidGainsWrongFalsely : Prop := bidGainsRow.holds Tryd.pinned (OpenSpec.ofChange bidGainsWrong)

/-- 'oastlaw04.BidTruth': WHATEVER THE INPUT: true; the input reads as it did. -/
def bidTruthSpec : ChangeSpec := { name := "bidTruth", fn := fun _ => fun
  | [d1, d2, d3] => { results := [.lit (.bool true)], args := [d1, d2, d3] }
  | _ => none }
def bidTruthRow : OpenClaim := { program := "ytojednnciknhpaadoor", sum := "9e1289900cdc0447bb71403ffdcd9cb197ac7541105604922398b228e5f58a53", func := "oast/oastlaw04.BidTruth", spec := "bidTruth", unfollowed := true, recurses := true, named := ["math/bits.deBruijn32tab"], apart := false, laid := [("math/bits.deBruijn32tab", laid_math_bits_deBruijn32tab)] }
def BidTruthSaid : Prop := bidTruthRow.holds Tryd.pinned (OpenSpec.ofChange bidTruthSpec)

/-- ITS FALSE NEIGHBOUR: 'it returns false'. Refute it at one input. -/
def bidTruthWrong : ChangeSpec := { name := "bidTruth", fn := fun _ => fun
  | [d1, d2, d3] => { results := [.lit (.bool false)], args := [d1, d2, d3] }
  | _ => none }
def BidTruthWrongFalsely : Prop := bidTruthRow.holds Tryd.pinned (OpenSpec.ofChange bidTruthWrong)

/-- 'oastlaw04.BidTotals': WHATEVER THE INPUT: true; the input reads as it did. -/
def bidTotalsSpec : ChangeSpec := { name := "bidTotals", fn := fun _ => fun
  | [d1, d2] => { results := [.lit (.bool true)], args := [d1, d2] }
  | _ => none }
def bidTotalsRow : OpenClaim := { program := "ytojednnciknhpaadoor", sum := "9e1289900cdc0447bb71403ffdcd9cb197ac7541105604922398b228e5f58a53", func := "oast/oastlaw04.BidTotals", spec := "bidTotals", unfollowed := true, recurses := true, named := ["math/bits.deBruijn32tab"], apart := false, laid := [("math/bits.deBruijn32tab", laid_math_bits_deBruijn32tab)] }
def BidTotalsSaid : Prop := bidTotalsRow.holds Tryd.pinned (OpenSpec.ofChange bidTotalsSpec)

/-- ITS FALSE NEIGHBOUR: 'it returns false'. Refute it at one input. -/
def bidTotalsWrong : ChangeSpec := { name := "bidTotals", fn := fun _ => fun
  | [d1, d2] => { results := [.lit (.bool false)], args := [d1, d2] }
  | _ => none }
def BidTotalsWrongFalsely : Prop := bidTotalsRow.holds Tryd.pinned (OpenSpec.ofChange bidTotalsWrong)

/-- 'oastlaw04.BidMore': WHATEVER THE INPUT: true; the input reads as it did. -/
def bidMoreSpec : ChangeSpec := { name := "bidMore", fn := fun _ => fun
  | [d1, d2, d3] => { results := [.lit (.bool true)], args := [d1, d2, d3] }
  | _ => none }
def bidMoreRow : OpenClaim := { program := "ytojednnciknhpaadoor", sum := "9e1289900cdc0447bb71403ffdcd9cb197ac7541105604922398b228e5f58a53", func := "oast/oastlaw04.BidMore", spec := "bidMore", unfollowed := true, recurses := true, named := ["math/bits.deBruijn32tab"], apart := false, laid := [("math/bits.deBruijn32tab", laid_math_bits_deBruijn32tab)] }
def BidMoreSaid : Prop := bidMoreRow.holds Tryd.pinned (OpenSpec.ofChange bidMoreSpec)

/-- ITS FALSE NEIGHBOUR: 'it returns false'. Refute it at one input. -/
def bidMoreWrong : ChangeSpec := { name := "bidMore", fn := fun _ => fun
  | [d1, d2, d3] => { results := [.lit (.bool false)], args := [d1, d2, d3] }
  | _ => none }
def BidMoreWrongFalsely : Prop := bidMoreRow.holds Tryd.pinned (OpenSpec.ofChange bidMoreWrong)

/-- 'oastlaw04.BidBalances': WHATEVER THE INPUT: true; the input reads as it did. -/
def bidBalancesSpec : ChangeSpec := { name := "bidBalances", fn := fun _ => fun
  | [d1, d2] => { results := [.lit (.bool true)], args := [d1, d2] }
  | _ => none }
def bidBalancesRow : OpenClaim := { program := "ytojednnciknhpaadoor", sum := "9e1289900cdc0447bb71403ffdcd9cb197ac7541105604922398b228e5f58a53", func := "oast/oastlaw04.BidBalances", spec := "bidBalances", unfollowed := true, recurses := true, named := ["math/bits.deBruijn32tab"], apart := false, laid := [("math/bits.deBruijn32tab", laid_math_bits_deBruijn32tab)] }
def BidBalancesSaid : Prop := bidBalancesRow.holds Tryd.pinned (OpenSpec.ofChange bidBalancesSpec)

/-- ITS FALSE NEIGHBOUR: 'it returns false'. Refute it at one input. -/
def bidBalancesWrong : ChangeSpec := { name := "bidBalances", fn := fun _ => fun
  | [d1, d2] => { results := [.lit (.bool false)], args := [d1, d2] }
  | _ => none }
def BidBalancesWrongFalsely : Prop := bidBalancesRow.holds Tryd.pinned (OpenSpec.ofChange bidBalancesWrong)

/-- 'oastlaw04.BidContent': WHATEVER THE INPUT: true; the input reads as it did. -/
def bidContentSpec : ChangeSpec := { name := "bidContent", fn := fun _ => fun
  | [d1, d2, d3] => { results := [.lit (.bool true)], args := [d1, d2, d3] }
  | _ => none }
def bidContentRow : OpenClaim := { program := "ytojednnciknhpaadoor", sum := "9e1289900cdc0447bb71403ffdcd9cb197ac7541105604922398b228e5f58a53", func := "oast/oastlaw04.BidContent", spec := "bidContent", unfollowed := true, recurses := true, named := ["math/bits.deBruijn32tab"], apart := false, laid := [("math/bits.deBruijn32tab", laid_math_bits_deBruijn32tab)] }
def BidContentSaid : Prop := bidContentRow.holds Tryd.pinned (OpenSpec.ofChange bidContentSpec)

/-- ITS FALSE NEIGHBOUR: 'it returns false'. Refute it at one input. -/
def bidContentWrong : ChangeSpec := { name := "bidContent", fn := fun _ => fun
  | [d1, d2, d3] => { results := [.lit (.bool false)], args := [d1, d2, d3] }
  | _ => none }
def BidContentWrongFalsely : Prop := bidContentRow.holds Tryd.pinned (OpenSpec.ofChange bidContentWrong)

/-- 'oastlaw04.BidBlocks': WHATEVER THE INPUT: true; the input reads as it did. -/
def bidBlocksSpec : ChangeSpec := { name := "bidBlocks", fn := fun _ => fun
  | [d1, d2, d3] => { results := [.lit (.bool true)], args := [d1, d2, d3] }
  | _ => none }
def bidBlocksRow : OpenClaim := { program := "ytojednnciknhpaadoor", sum := "9e1289900cdc0447bb71403ffdcd9cb197ac7541105604922398b228e5f58a53", func := "oast/oastlaw04.BidBlocks", spec := "bidBlocks", unfollowed := true, recurses := true, named := ["math/bits.deBruijn32tab"], apart := false, laid := [("math/bits.deBruijn32tab", laid_math_bits_deBruijn32tab)] }
def BidBlocksSaid : Prop := bidBlocksRow.holds Tryd.pinned (OpenSpec.ofChange bidBlocksSpec)

/-- ITS FALSE NEIGHBOUR: 'it returns false'. Refute it at one input. -/
def bidBlocksWrong : ChangeSpec := { name := "bidBlocks", fn := fun _ => fun
  | [d1, d2, d3] => { results := [.lit (.bool false)], args := [d1, d2, d3] }
  | _ => none }
def BidBlocksWrongFalsely : Prop := bidBlocksRow.holds Tryd.pinned (OpenSpec.ofChange bidBlocksWrong)

/-- 'oastlaw04.BidHalls': WHATEVER THE INPUT: true; the input reads as it did. -/
def bidHallsSpec : ChangeSpec := { name := "bidHalls", fn := fun _ => fun
  | [d] => { results := [.lit (.bool true)], args := [d] }
  | _ => none }
def bidHallsRow : OpenClaim := { program := "ytojednnciknhpaadoor", sum := "9e1289900cdc0447bb71403ffdcd9cb197ac7541105604922398b228e5f58a53", func := "oast/oastlaw04.BidHalls", spec := "bidHalls", unfollowed := true, recurses := true, named := ["math/bits.deBruijn32tab"], apart := false, laid := [("math/bits.deBruijn32tab", laid_math_bits_deBruijn32tab)] }
def BidHallsSaid : Prop := bidHallsRow.holds Tryd.pinned (OpenSpec.ofChange bidHallsSpec)

/-- ITS FALSE NEIGHBOUR: 'it returns false'. Refute it at one input. -/
def bidHallsWrong : ChangeSpec := { name := "bidHalls", fn := fun _ => fun
  | [d] => { results := [.lit (.bool false)], args := [d] }
  | _ => none }
def BidHallsWrongFalsely : Prop := bidHallsRow.holds Tryd.pinned (OpenSpec.ofChange bidHallsWrong)

/-- 'oastlaw04.BidChecks': WHATEVER THE INPUT: true; the input reads as it did. -/
def bidChecksSpec : ChangeSpec := { name := "bidChecks", fn := fun _ => fun
  | [d1, d2] => { results := [.lit (.bool true)], args := [d1, d2] }
  | _ => none }
def bidChecksRow : OpenClaim := { program := "ytojednnciknhpaadoor", sum := "9e1289900cdc0447bb71403ffdcd9cb197ac7541105604922398b228e5f58a53", func := "oast/oastlaw04.BidChecks", spec := "bidChecks", unfollowed := true, recurses := true, named := ["math/bits.deBruijn32tab"], apart := false, laid := [("math/bits.deBruijn32tab", laid_math_bits_deBruijn32tab)] }
def BidChecksSaid : Prop := bidChecksRow.holds Tryd.pinned (OpenSpec.ofChange bidChecksSpec)

/-- ITS FALSE NEIGHBOUR: 'it returns false'. Refute it at one input. -/
def bidChecksWrong : ChangeSpec := { name := "bidChecks", fn := fun _ => fun
  | [d1, d2] => { results := [.lit (.bool false)], args := [d1, d2] }
  | _ => none }
def BidChecksWrongFalsely : Prop := bidChecksRow.holds Tryd.pinned (OpenSpec.ofChange bidChecksWrong)

/-- 'oastlaw04.BidSingles': WHATEVER THE INPUT: true; the input reads as it did. -/
def bidSinglesSpec : ChangeSpec := { name := "bidSingles", fn := fun _ => fun
  | [d1, d2, d3] => { results := [.lit (.bool true)], args := [d1, d2, d3] }
  | _ => none }
def bidSinglesRow : OpenClaim := { program := "ytojednnciknhpaadoor", sum := "9e1289900cdc0447bb71403ffdcd9cb197ac7541105604922398b228e5f58a53", func := "oast/oastlaw04.BidSingles", spec := "bidSingles", unfollowed := true, recurses := true, named := ["math/bits.deBruijn32tab"], apart := false, laid := [("math/bits.deBruijn32tab", laid_math_bits_deBruijn32tab)] }
def BidSinglesSaid : Prop := bidSinglesRow.holds Tryd.pinned (OpenSpec.ofChange bidSinglesSpec)

/-- ITS FALSE NEIGHBOUR: 'it returns false'. Refute it at one input. -/
def bidSinglesWrong : ChangeSpec := { name := "bidSingles", fn := fun _ => fun
  | [d1, d2, d3] => { results := [.lit (.bool false)], args := [d1, d2, d3] }
  | _ => none }
def BidSinglesWrongFalsely : Prop := bidSinglesRow.holds Tryd.pinned (OpenSpec.ofChange bidSinglesWrong)

/- THE SECOND FORM. 'bulk': how many values and letters a reading holds, each counted each time it is reached (what is shared counts as often as it is met; a slice's spare places count too). A statement '..UptoSaid' is the law's where the arguments, and the package variables that the reading takes, are together of bulk at most 1048576: NARROWER than '..Said'. Prove '..Said' where nothing that the law and all that it calls make is longer than what came in: it says more and counts as full. Else prove '..UptoSaid'. A law counts once. -/
mutual
def uptoBulk {H : Type} : DataW H → Nat
  | .lit (.string bytes) => bytes.length + 1
  | .lit _ => 1
  | .nil => 1
  | .ptr d => uptoBulk d + 1
  | .slice elems spare => uptoBulkAll elems + uptoBulkAll spare + 1
  | .agg parts => uptoBulkAll parts + 1
  | .iface _ d => uptoBulk d + 1
  | .map entries => uptoBulkEntries entries + 1
  | .held _ => 1
def uptoBulkAll {H : Type} : List (DataW H) → Nat
  | [] => 0
  | d :: r => uptoBulk d + uptoBulkAll r
def uptoBulkEntries {H : Type} : List (Lit × DataW H) → Nat
  | [] => 0
  | x :: r => uptoBulkEntry x + uptoBulkEntries r
def uptoBulkEntry {H : Type} : Lit × DataW H → Nat
  | (.string bytes, d) => bytes.length + uptoBulk d + 1
  | (_, d) => uptoBulk d + 1
 end
def uptoSmall : (H : Type) → List (DataW H) → Bool := fun _ ds => decide (uptoBulkAll ds ≤ 1048576)
def OpenSpec.upto (s : _root_.Go.ChangeSpec) : _root_.Go.OpenSpec := { _root_.Go.OpenSpec.ofChange s with cond := some uptoSmall }

/-- 'oastlaw04.BidTried', WHERE WHAT IT READS IS OF BULK AT MOST 1048576: true; the input reads as it did. -/
def bidTriedUptoRow : OpenClaim := { program := "ytojednnciknhpaadoor", sum := "9e1289900cdc0447bb71403ffdcd9cb197ac7541105604922398b228e5f58a53", func := "oast/oastlaw04.BidTried", spec := "bidTried", unfollowed := true, recurses := true, named := ["math/bits.deBruijn32tab"], apart := false, laid := [("math/bits.deBruijn32tab", laid_math_bits_deBruijn32tab)], narrowed := true }
def BidTriedUptoSaid : Prop := bidTriedUptoRow.holds Tryd.pinned (OpenSpec.upto bidTriedSpec)

/-- 'oastlaw04.BidLeast', WHERE WHAT IT READS IS OF BULK AT MOST 1048576: true; the input reads as it did. -/
def bidLeastUptoRow : OpenClaim := { program := "ytojednnciknhpaadoor", sum := "9e1289900cdc0447bb71403ffdcd9cb197ac7541105604922398b228e5f58a53", func := "oast/oastlaw04.BidLeast", spec := "bidLeast", unfollowed := true, recurses := true, named := ["math/bits.deBruijn32tab"], apart := false, laid := [("math/bits.deBruijn32tab", laid_math_bits_deBruijn32tab)], narrowed := true }
def BidLeastUptoSaid : Prop := bidLeastUptoRow.holds Tryd.pinned (OpenSpec.upto bidLeastSpec)

/-- 'oastlaw04.BidBoth', WHERE WHAT IT READS IS OF BULK AT MOST 1048576: true; the input reads as it did. -/
def bidBothUptoRow : OpenClaim := { program := "ytojednnciknhpaadoor", sum := "9e1289900cdc0447bb71403ffdcd9cb197ac7541105604922398b228e5f58a53", func := "oast/oastlaw04.BidBoth", spec := "bidBoth", unfollowed := true, recurses := true, named := ["math/bits.deBruijn32tab"], apart := false, laid := [("math/bits.deBruijn32tab", laid_math_bits_deBruijn32tab)], narrowed := true }
def BidBothUptoSaid : Prop := bidBothUptoRow.holds Tryd.pinned (OpenSpec.upto bidBothSpec)

/-- 'oastlaw04.BidCrowds', WHERE WHAT IT READS IS OF BULK AT MOST 1048576: true; the input reads as it did. -/
def bidCrowdsUptoRow : OpenClaim := { program := "ytojednnciknhpaadoor", sum := "9e1289900cdc0447bb71403ffdcd9cb197ac7541105604922398b228e5f58a53", func := "oast/oastlaw04.BidCrowds", spec := "bidCrowds", unfollowed := true, recurses := true, named := ["math/bits.deBruijn32tab"], apart := false, laid := [("math/bits.deBruijn32tab", laid_math_bits_deBruijn32tab)], narrowed := true }
def BidCrowdsUptoSaid : Prop := bidCrowdsUptoRow.holds Tryd.pinned (OpenSpec.upto bidCrowdsSpec)

/-- 'oastlaw04.BidSolves', WHERE WHAT IT READS IS OF BULK AT MOST 1048576: true; the input reads as it did. -/
def bidSolvesUptoRow : OpenClaim := { program := "ytojednnciknhpaadoor", sum := "9e1289900cdc0447bb71403ffdcd9cb197ac7541105604922398b228e5f58a53", func := "oast/oastlaw04.BidSolves", spec := "bidSolves", unfollowed := true, recurses := true, named := ["math/bits.deBruijn32tab"], apart := false, laid := [("math/bits.deBruijn32tab", laid_math_bits_deBruijn32tab)], narrowed := true }
def BidSolvesUptoSaid : Prop := bidSolvesUptoRow.holds Tryd.pinned (OpenSpec.upto bidSolvesSpec)

/-- 'oastlaw04.BidGains', WHERE WHAT IT READS IS OF BULK AT MOST 1048576: true; the input reads as it did. -/
def bidGainsUptoRow : OpenClaim := { program := "ytojednnciknhpaadoor", sum := "9e1289900cdc0447bb71403ffdcd9cb197ac7541105604922398b228e5f58a53", func := "oast/oastlaw04.BidGains", spec := "bidGains", unfollowed := true, recurses := true, named := ["math/bits.deBruijn32tab"], apart := false, laid := [("math/bits.deBruijn32tab", laid_math_bits_deBruijn32tab)], narrowed := true }
def BidGainsUptoSaid : Prop := bidGainsUptoRow.holds Tryd.pinned (OpenSpec.upto bidGainsSpec)

/-- 'oastlaw04.BidTruth', WHERE WHAT IT READS IS OF BULK AT MOST 1048576: true; the input reads as it did. -/
def bidTruthUptoRow : OpenClaim := { program := "ytojednnciknhpaadoor", sum := "9e1289900cdc0447bb71403ffdcd9cb197ac7541105604922398b228e5f58a53", func := "oast/oastlaw04.BidTruth", spec := "bidTruth", unfollowed := true, recurses := true, named := ["math/bits.deBruijn32tab"], apart := false, laid := [("math/bits.deBruijn32tab", laid_math_bits_deBruijn32tab)], narrowed := true }
def BidTruthUptoSaid : Prop := bidTruthUptoRow.holds Tryd.pinned (OpenSpec.upto bidTruthSpec)

/-- 'oastlaw04.BidTotals', WHERE WHAT IT READS IS OF BULK AT MOST 1048576: true; the input reads as it did. -/
def bidTotalsUptoRow : OpenClaim := { program := "ytojednnciknhpaadoor", sum := "9e1289900cdc0447bb71403ffdcd9cb197ac7541105604922398b228e5f58a53", func := "oast/oastlaw04.BidTotals", spec := "bidTotals", unfollowed := true, recurses := true, named := ["math/bits.deBruijn32tab"], apart := false, laid := [("math/bits.deBruijn32tab", laid_math_bits_deBruijn32tab)], narrowed := true }
def BidTotalsUptoSaid : Prop := bidTotalsUptoRow.holds Tryd.pinned (OpenSpec.upto bidTotalsSpec)

/-- 'oastlaw04.BidMore', WHERE WHAT IT READS IS OF BULK AT MOST 1048576: true; the input reads as it did. -/
def bidMoreUptoRow : OpenClaim := { program := "ytojednnciknhpaadoor", sum := "9e1289900cdc0447bb71403ffdcd9cb197ac7541105604922398b228e5f58a53", func := "oast/oastlaw04.BidMore", spec := "bidMore", unfollowed := true, recurses := true, named := ["math/bits.deBruijn32tab"], apart := false, laid := [("math/bits.deBruijn32tab", laid_math_bits_deBruijn32tab)], narrowed := true }
def BidMoreUptoSaid : Prop := bidMoreUptoRow.holds Tryd.pinned (OpenSpec.upto bidMoreSpec)

/-- 'oastlaw04.BidBalances', WHERE WHAT IT READS IS OF BULK AT MOST 1048576: true; the input reads as it did. -/
def bidBalancesUptoRow : OpenClaim := { program := "ytojednnciknhpaadoor", sum := "9e1289900cdc0447bb71403ffdcd9cb197ac7541105604922398b228e5f58a53", func := "oast/oastlaw04.BidBalances", spec := "bidBalances", unfollowed := true, recurses := true, named := ["math/bits.deBruijn32tab"], apart := false, laid := [("math/bits.deBruijn32tab", laid_math_bits_deBruijn32tab)], narrowed := true }
def BidBalancesUptoSaid : Prop := bidBalancesUptoRow.holds Tryd.pinned (OpenSpec.upto bidBalancesSpec)

/-- 'oastlaw04.BidContent', WHERE WHAT IT READS IS OF BULK AT MOST 1048576: true; the input reads as it did. -/
def bidContentUptoRow : OpenClaim := { program := "ytojednnciknhpaadoor", sum := "9e1289900cdc0447bb71403ffdcd9cb197ac7541105604922398b228e5f58a53", func := "oast/oastlaw04.BidContent", spec := "bidContent", unfollowed := true, recurses := true, named := ["math/bits.deBruijn32tab"], apart := false, laid := [("math/bits.deBruijn32tab", laid_math_bits_deBruijn32tab)], narrowed := true }
def BidContentUptoSaid : Prop := bidContentUptoRow.holds Tryd.pinned (OpenSpec.upto bidContentSpec)

/-- 'oastlaw04.BidBlocks', WHERE WHAT IT READS IS OF BULK AT MOST 1048576: true; the input reads as it did. -/
def bidBlocksUptoRow : OpenClaim := { program := "ytojednnciknhpaadoor", sum := "9e1289900cdc0447bb71403ffdcd9cb197ac7541105604922398b228e5f58a53", func := "oast/oastlaw04.BidBlocks", spec := "bidBlocks", unfollowed := true, recurses := true, named := ["math/bits.deBruijn32tab"], apart := false, laid := [("math/bits.deBruijn32tab", laid_math_bits_deBruijn32tab)], narrowed := true }
def BidBlocksUptoSaid : Prop := bidBlocksUptoRow.holds Tryd.pinned (OpenSpec.upto bidBlocksSpec)

/-- 'oastlaw04.BidHalls', WHERE WHAT IT READS IS OF BULK AT MOST 1048576: true; the input reads as it did. -/
def bidHallsUptoRow : OpenClaim := { program := "ytojednnciknhpaadoor", sum := "9e1289900cdc0447bb71403ffdcd9cb197ac7541105604922398b228e5f58a53", func := "oast/oastlaw04.BidHalls", spec := "bidHalls", unfollowed := true, recurses := true, named := ["math/bits.deBruijn32tab"], apart := false, laid := [("math/bits.deBruijn32tab", laid_math_bits_deBruijn32tab)], narrowed := true }
def BidHallsUptoSaid : Prop := bidHallsUptoRow.holds Tryd.pinned (OpenSpec.upto bidHallsSpec)

/-- 'oastlaw04.BidChecks', WHERE WHAT IT READS IS OF BULK AT MOST 1048576: true; the input reads as it did. -/
def bidChecksUptoRow : OpenClaim := { program := "ytojednnciknhpaadoor", sum := "9e1289900cdc0447bb71403ffdcd9cb197ac7541105604922398b228e5f58a53", func := "oast/oastlaw04.BidChecks", spec := "bidChecks", unfollowed := true, recurses := true, named := ["math/bits.deBruijn32tab"], apart := false, laid := [("math/bits.deBruijn32tab", laid_math_bits_deBruijn32tab)], narrowed := true }
def BidChecksUptoSaid : Prop := bidChecksUptoRow.holds Tryd.pinned (OpenSpec.upto bidChecksSpec)

/-- 'oastlaw04.BidSingles', WHERE WHAT IT READS IS OF BULK AT MOST 1048576: true; the input reads as it did. -/
def bidSinglesUptoRow : OpenClaim := { program := "ytojednnciknhpaadoor", sum := "9e1289900cdc0447bb71403ffdcd9cb197ac7541105604922398b228e5f58a53", func := "oast/oastlaw04.BidSingles", spec := "bidSingles", unfollowed := true, recurses := true, named := ["math/bits.deBruijn32tab"], apart := false, laid := [("math/bits.deBruijn32tab", laid_math_bits_deBruijn32tab)], narrowed := true }
def BidSinglesUptoSaid : Prop := bidSinglesUptoRow.holds Tryd.pinned (OpenSpec.upto bidSinglesSpec)

end Rows
end Go.Proofs.YtojednnciknhpaaDoor
