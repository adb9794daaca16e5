/-
  No cell of these rows narrows 'for every input' (looked for: loops, veiled, ifaces, maps, wideKeys, modest, calm, conditions, laid).
  DERIVED. THE GIVEN ROWS OF THIS SEAT. 11 by the template 'for every input the law returns true; each argument reads behind the call as it read before'; 0 by the template 'total and deterministic' (their statements: YtdjhpldiifdifaaTotals.lean).
  GIVEN WITH THE SEED: the statements are not yours to turn. If you find one false, say at which input.
  Laid BY PROGRAM, IN A SANDBOX (cutbox-rows.mjs): the forced cells as the released guide's own fill.sh prints them over the translation 665377eb34fae0cd… (all of the seat's roots in one cut). By AI agents, Wed Nov 11 2026. No macro, syntax, notation, axiom, sorry.
-/
import Derived.Test.YtdjhpldiifdifaaChecked
import GoSem.Claim
import GoSem.ClaimJoined
import GoSem.ClaimMapViews
import Derived.JoinedTies
import Derived.KernelRfl
namespace Go.Proofs.Ytdjhpldiifdifaa
/- THE CELL 'sum', in the pinned program and in every row, IS THE sha256 OF THE DUMP (.gsa) THAT YtdjhpldiifdifaaProg.lean LOADS. Nothing in Lean hashes anything: it is a label: what it is worth is what the hold of that sum in a sandbox is worth. -/
noncomputable def Try.pinned : Pinned := { name := "ytdjhpldiifdifaa", sum := "665377eb34fae0cd0914819874a333ef7adb5c8861839679669ec52047bc9986", checked := Try.checked }
namespace Rows
def none {H : Type} : Left H := { results := [], args := [] }

/-- 'oastlaw02.BoardKeeps': WHATEVER THE INPUT: true; the input reads as it did. -/
def boardKeepsSpec : ChangeSpec := { name := "boardKeeps", fn := fun _ => fun
  | [d] => { results := [.lit (.bool true)], args := [d] }
  | _ => none }
def boardKeepsRow : OpenClaim := { program := "ytdjhpldiifdifaa", sum := "665377eb34fae0cd0914819874a333ef7adb5c8861839679669ec52047bc9986", func := "oast/oastlaw02.BoardKeeps", spec := "boardKeeps", unfollowed := true, recurses := true, apart := false }
def BoardKeepsSaid : Prop := boardKeepsRow.holds Try.pinned (OpenSpec.ofChange boardKeepsSpec)

/-- ITS FALSE NEIGHBOUR: 'it returns false'. Refute it at one input. -/
def boardKeepsWrong : ChangeSpec := { name := "boardKeeps", fn := fun _ => fun
  | [d] => { results := [.lit (.bool false)], args := [d] }
  | _ => none }
def BoardKeepsWrongFalsely : Prop := boardKeepsRow.holds Try.pinned (OpenSpec.ofChange boardKeepsWrong)

/-- 'oastlaw02.BoardCostTrades': WHATEVER THE INPUT: true; the input reads as it did. -/
def boardCostTradesSpec : ChangeSpec := { name := "boardCostTrades", fn := fun _ => fun
  | [d1, d2, d3] => { results := [.lit (.bool true)], args := [d1, d2, d3] }
  | _ => none }
def boardCostTradesRow : OpenClaim := { program := "ytdjhpldiifdifaa", sum := "665377eb34fae0cd0914819874a333ef7adb5c8861839679669ec52047bc9986", func := "oast/oastlaw02.BoardCostTrades", spec := "boardCostTrades", unfollowed := true, recurses := true, apart := false }
def BoardCostTradesSaid : Prop := boardCostTradesRow.holds Try.pinned (OpenSpec.ofChange boardCostTradesSpec)

/-- ITS FALSE NEIGHBOUR: 'it returns false'. Refute it at one input. -/
def boardCostTradesWrong : ChangeSpec := { name := "boardCostTrades", fn := fun _ => fun
  | [d1, d2, d3] => { results := [.lit (.bool false)], args := [d1, d2, d3] }
  | _ => none }
def BoardCostTradesWrongFalsely : Prop := boardCostTradesRow.holds Try.pinned (OpenSpec.ofChange boardCostTradesWrong)

/-- 'oastlaw02.BoardFronts': WHATEVER THE INPUT: true; the input reads as it did. -/
def boardFrontsSpec : ChangeSpec := { name := "boardFronts", fn := fun _ => fun
  | [d1, d2] => { results := [.lit (.bool true)], args := [d1, d2] }
  | _ => none }
def boardFrontsRow : OpenClaim := { program := "ytdjhpldiifdifaa", sum := "665377eb34fae0cd0914819874a333ef7adb5c8861839679669ec52047bc9986", func := "oast/oastlaw02.BoardFronts", spec := "boardFronts", unfollowed := true, recurses := true, apart := false }
def BoardFrontsSaid : Prop := boardFrontsRow.holds Try.pinned (OpenSpec.ofChange boardFrontsSpec)

/-- ITS FALSE NEIGHBOUR: 'it returns false'. Refute it at one input. -/
def boardFrontsWrong : ChangeSpec := { name := "boardFronts", fn := fun _ => fun
  | [d1, d2] => { results := [.lit (.bool false)], args := [d1, d2] }
  | _ => none }
def BoardFrontsWrongFalsely : Prop := boardFrontsRow.holds Try.pinned (OpenSpec.ofChange boardFrontsWrong)

/-- 'oastlaw02.BoardQuestions': WHATEVER THE INPUT: true; the input reads as it did. -/
def boardQuestionsSpec : ChangeSpec := { name := "boardQuestions", fn := fun _ => fun
  | [d1, d2, d3] => { results := [.lit (.bool true)], args := [d1, d2, d3] }
  | _ => none }
def boardQuestionsRow : OpenClaim := { program := "ytdjhpldiifdifaa", sum := "665377eb34fae0cd0914819874a333ef7adb5c8861839679669ec52047bc9986", func := "oast/oastlaw02.BoardQuestions", spec := "boardQuestions", unfollowed := true, recurses := true, apart := false }
def BoardQuestionsSaid : Prop := boardQuestionsRow.holds Try.pinned (OpenSpec.ofChange boardQuestionsSpec)

/-- ITS FALSE NEIGHBOUR: 'it returns false'. Refute it at one input. -/
def boardQuestionsWrong : ChangeSpec := { name := "boardQuestions", fn := fun _ => fun
  | [d1, d2, d3] => { results := [.lit (.bool false)], args := [d1, d2, d3] }
  | _ => none }
def BoardQuestionsWrongFalsely : Prop := boardQuestionsRow.holds Try.pinned (OpenSpec.ofChange boardQuestionsWrong)

/-- 'oastlaw02.BoardCrossed': WHATEVER THE INPUT: true; the input reads as it did. -/
def boardCrossedSpec : ChangeSpec := { name := "boardCrossed", fn := fun _ => fun
  | [d] => { results := [.lit (.bool true)], args := [d] }
  | _ => none }
def boardCrossedRow : OpenClaim := { program := "ytdjhpldiifdifaa", sum := "665377eb34fae0cd0914819874a333ef7adb5c8861839679669ec52047bc9986", func := "oast/oastlaw02.BoardCrossed", spec := "boardCrossed", unfollowed := true, recurses := true, apart := false }
def BoardCrossedSaid : Prop := boardCrossedRow.holds Try.pinned (OpenSpec.ofChange boardCrossedSpec)

/-- ITS FALSE NEIGHBOUR: 'it returns false'. Refute it at one input. -/
def boardCrossedWrong : ChangeSpec := { name := "boardCrossed", fn := fun _ => fun
  | [d] => { results := [.lit (.bool false)], args := [d] }
  | _ => none }
def BoardCrossedWrongFalsely : Prop := boardCrossedRow.holds Try.pinned (OpenSpec.ofChange boardCrossedWrong)

/-- 'oastlaw02.BoardRuns': WHATEVER THE INPUT: true; the input reads as it did. -/
def boardRunsSpec : ChangeSpec := { name := "boardRuns", fn := fun _ => fun
  | [d] => { results := [.lit (.bool true)], args := [d] }
  | _ => none }
def boardRunsRow : OpenClaim := { program := "ytdjhpldiifdifaa", sum := "665377eb34fae0cd0914819874a333ef7adb5c8861839679669ec52047bc9986", func := "oast/oastlaw02.BoardRuns", spec := "boardRuns", unfollowed := true, recurses := true, apart := false }
def BoardRunsSaid : Prop := boardRunsRow.holds Try.pinned (OpenSpec.ofChange boardRunsSpec)

/-- ITS FALSE NEIGHBOUR: 'it returns false'. Refute it at one input. -/
def boardRunsWrong : ChangeSpec := { name := "boardRuns", fn := fun _ => fun
  | [d] => { results := [.lit (.bool false)], args := [d] }
  | _ => none }
def BoardRunsWrongFalsely : Prop := boardRunsRow.holds Try.pinned (OpenSpec.ofChange boardRunsWrong)

/-- 'oastlaw02.BoardOrders': WHATEVER THE INPUT: true; the input reads as it did. -/
def boardOrdersSpec : ChangeSpec := { name := "boardOrders", fn := fun _ => fun
  | [d1, d2] => { results := [.lit (.bool true)], args := [d1, d2] }
  | _ => none }
def boardOrdersRow : OpenClaim := { program := "ytdjhpldiifdifaa", sum := "665377eb34fae0cd0914819874a333ef7adb5c8861839679669ec52047bc9986", func := "oast/oastlaw02.BoardOrders", spec := "boardOrders", unfollowed := true, recurses := true, apart := false }
def BoardOrdersSaid : Prop := boardOrdersRow.holds Try.pinned (OpenSpec.ofChange boardOrdersSpec)

/-- ITS FALSE NEIGHBOUR: 'it returns false'. Refute it at one input. -/
def boardOrdersWrong : ChangeSpec := { name := "boardOrders", fn := fun _ => fun
  | [d1, d2] => { results := [.lit (.bool false)], args := [d1, d2] }
  | _ => none }
def BoardOrdersWrongFalsely : Prop := boardOrdersRow.holds Try.pinned (OpenSpec.ofChange boardOrdersWrong)

/-- 'oastlaw02.BoardOwn': WHATEVER THE INPUT: true; the input reads as it did. -/
def boardOwnSpec : ChangeSpec := { name := "boardOwn", fn := fun _ => fun
  | [d] => { results := [.lit (.bool true)], args := [d] }
  | _ => none }
def boardOwnRow : OpenClaim := { program := "ytdjhpldiifdifaa", sum := "665377eb34fae0cd0914819874a333ef7adb5c8861839679669ec52047bc9986", func := "oast/oastlaw02.BoardOwn", spec := "boardOwn", unfollowed := true, recurses := true, apart := false }
def BoardOwnSaid : Prop := boardOwnRow.holds Try.pinned (OpenSpec.ofChange boardOwnSpec)

/-- ITS FALSE NEIGHBOUR: 'it returns false'. Refute it at one input. -/
def boardOwnWrong : ChangeSpec := { name := "boardOwn", fn := fun _ => fun
  | [d] => { results := [.lit (.bool false)], args := [d] }
  | _ => none }
def BoardOwnWrongFalsely : Prop := boardOwnRow.holds Try.pinned (OpenSpec.ofChange boardOwnWrong)

/-- 'oastlaw02.BoardCosts': WHATEVER THE INPUT: true; the input reads as it did. -/
def boardCostsSpec : ChangeSpec := { name := "boardCosts", fn := fun _ => fun
  | [d1, d2, d3] => { results := [.lit (.bool true)], args := [d1, d2, d3] }
  | _ => none }
def boardCostsRow : OpenClaim := { program := "ytdjhpldiifdifaa", sum := "665377eb34fae0cd0914819874a333ef7adb5c8861839679669ec52047bc9986", func := "oast/oastlaw02.BoardCosts", spec := "boardCosts", unfollowed := true, recurses := true, apart := false }
def BoardCostsSaid : Prop := boardCostsRow.holds Try.pinned (OpenSpec.ofChange boardCostsSpec)

/-- ITS FALSE NEIGHBOUR: 'it returns false'. Refute it at one input. -/
def boardCostsWrong : ChangeSpec := { name := "boardCosts", fn := fun _ => fun
  | [d1, d2, d3] => { results := [.lit (.bool false)], args := [d1, d2, d3] }
  | _ => none }
def BoardCostsWrongFalsely : Prop := boardCostsRow.holds Try.pinned (OpenSpec.ofChange boardCostsWrong)

/-- 'oastlaw02.BoardForks': WHATEVER THE INPUT: true; the input reads as it did. -/
def boardForksSpec : ChangeSpec := { name := "boardForks", fn := fun _ => fun
  | [d1, d2] => { results := [.lit (.bool true)], args := [d1, d2] }
  | _ => none }
def boardForksRow : OpenClaim := { program := "ytdjhpldiifdifaa", sum := "665377eb34fae0cd0914819874a333ef7adb5c8861839679669ec52047bc9986", func := "oast/oastlaw02.BoardForks", spec := "boardForks", unfollowed := true, recurses := true, apart := false }
def BoardForksSaid : Prop := boardForksRow.holds Try.pinned (OpenSpec.ofChange boardForksSpec)

/-- ITS FALSE NEIGHBOUR: 'it returns false'. Refute it at one input. -/
def boardForksWrong : ChangeSpec := { name := "boardForks", fn := fun _ => fun
  | [d1, d2] => { results := [.lit (.bool false)], args := [d1, d2] }
  | _ => none }
def BoardForksWrongFalsely : Prop := boardForksRow.holds Try.pinned (OpenSpec.ofChange boardForksWrong)

/-- 'oastlaw02.BoardVoid': WHATEVER THE INPUT: true; the input reads as it did. -/
def boardVoidSpec : ChangeSpec := { name := "boardVoid", fn := fun _ => fun
  | [d1, d2] => { results := [.lit (.bool true)], args := [d1, d2] }
  | _ => none }
def boardVoidRow : OpenClaim := { program := "ytdjhpldiifdifaa", sum := "665377eb34fae0cd0914819874a333ef7adb5c8861839679669ec52047bc9986", func := "oast/oastlaw02.BoardVoid", spec := "boardVoid", unfollowed := true, recurses := true, apart := false }
def BoardVoidSaid : Prop := boardVoidRow.holds Try.pinned (OpenSpec.ofChange boardVoidSpec)

/-- ITS FALSE NEIGHBOUR: 'it returns false'. Refute it at one input. -/
def boardVoidWrong : ChangeSpec := { name := "boardVoid", fn := fun _ => fun
  | [d1, d2] => { results := [.lit (.bool false)], args := [d1, d2] }
  | _ => none }
def BoardVoidWrongFalsely : Prop := boardVoidRow.holds Try.pinned (OpenSpec.ofChange boardVoidWrong)

/- THE SECOND FORM. 'bulk': how many values and letters a reading holds, each counted each time it is reached (what is shared counts as often as it is met; a slice's spare places count too). A statement '..UptoSaid' is the law's where the arguments, and the package variables that the reading takes, are together of bulk at most 1048576: NARROWER than '..Said'. Prove '..Said' where nothing that the law and all that it calls make is longer than what came in: it says more and counts as full. Else prove '..UptoSaid'. A law counts once. -/
mutual
def uptoBulk {H : Type} : DataW H → Nat
  | .lit (.string bytes) => bytes.length + 1
  | .lit _ => 1
  | .nil => 1
  | .ptr d => uptoBulk d + 1
  | .slice elems spare => uptoBulkAll elems + uptoBulkAll spare + 1
  | .agg parts => uptoBulkAll parts + 1
  | .iface _ d => uptoBulk d + 1
  | .map entries => uptoBulkEntries entries + 1
  | .held _ => 1
def uptoBulkAll {H : Type} : List (DataW H) → Nat
  | [] => 0
  | d :: r => uptoBulk d + uptoBulkAll r
def uptoBulkEntries {H : Type} : List (Lit × DataW H) → Nat
  | [] => 0
  | x :: r => uptoBulkEntry x + uptoBulkEntries r
def uptoBulkEntry {H : Type} : Lit × DataW H → Nat
  | (.string bytes, d) => bytes.length + uptoBulk d + 1
  | (_, d) => uptoBulk d + 1
 end
def uptoSmall : (H : Type) → List (DataW H) → Bool := fun _ ds => decide (uptoBulkAll ds ≤ 1048576)
def OpenSpec.upto (s : _root_.Go.ChangeSpec) : _root_.Go.OpenSpec := { _root_.Go.OpenSpec.ofChange s with cond := some uptoSmall }

/-- 'oastlaw02.BoardKeeps', WHERE WHAT IT READS IS OF BULK AT MOST 1048576: true; the input reads as it did. -/
def boardKeepsUptoRow : OpenClaim := { program := "ytdjhpldiifdifaa", sum := "665377eb34fae0cd0914819874a333ef7adb5c8861839679669ec52047bc9986", func := "oast/oastlaw02.BoardKeeps", spec := "boardKeeps", unfollowed := true, recurses := true, apart := false, narrowed := true }
def BoardKeepsUptoSaid : Prop := boardKeepsUptoRow.holds Try.pinned (OpenSpec.upto boardKeepsSpec)

/-- 'oastlaw02.BoardCostTrades', WHERE WHAT IT READS IS OF BULK AT MOST 1048576: true; the input reads as it did. -/
def boardCostTradesUptoRow : OpenClaim := { program := "ytdjhpldiifdifaa", sum := "665377eb34fae0cd0914819874a333ef7adb5c8861839679669ec52047bc9986", func := "oast/oastlaw02.BoardCostTrades", spec := "boardCostTrades", unfollowed := true, recurses := true, apart := false, narrowed := true }
def BoardCostTradesUptoSaid : Prop := boardCostTradesUptoRow.holds Try.pinned (OpenSpec.upto boardCostTradesSpec)

/-- 'oastlaw02.BoardFronts', WHERE WHAT IT READS IS OF BULK AT MOST 1048576: true; the input reads as it did. -/
def boardFrontsUptoRow : OpenClaim := { program := "ytdjhpldiifdifaa", sum := "665377eb34fae0cd0914819874a333ef7adb5c8861839679669ec52047bc9986", func := "oast/oastlaw02.BoardFronts", spec := "boardFronts", unfollowed := true, recurses := true, apart := false, narrowed := true }
def BoardFrontsUptoSaid : Prop := boardFrontsUptoRow.holds Try.pinned (OpenSpec.upto boardFrontsSpec)

/-- 'oastlaw02.BoardQuestions', WHERE WHAT IT READS IS OF BULK AT MOST 1048576: true; the input reads as it did. -/
def boardQuestionsUptoRow : OpenClaim := { program := "ytdjhpldiifdifaa", sum := "665377eb34fae0cd0914819874a333ef7adb5c8861839679669ec52047bc9986", func := "oast/oastlaw02.BoardQuestions", spec := "boardQuestions", unfollowed := true, recurses := true, apart := false, narrowed := true }
def BoardQuestionsUptoSaid : Prop := boardQuestionsUptoRow.holds Try.pinned (OpenSpec.upto boardQuestionsSpec)

/-- 'oastlaw02.BoardCrossed', WHERE WHAT IT READS IS OF BULK AT MOST 1048576: true; the input reads as it did. -/
def boardCrossedUptoRow : OpenClaim := { program := "ytdjhpldiifdifaa", sum := "665377eb34fae0cd0914819874a333ef7adb5c8861839679669ec52047bc9986", func := "oast/oastlaw02.BoardCrossed", spec := "boardCrossed", unfollowed := true, recurses := true, apart := false, narrowed := true }
def BoardCrossedUptoSaid : Prop := boardCrossedUptoRow.holds Try.pinned (OpenSpec.upto boardCrossedSpec)

/-- 'oastlaw02.BoardRuns', WHERE WHAT IT READS IS OF BULK AT MOST 1048576: true; the input reads as it did. -/
def boardRunsUptoRow : OpenClaim := { program := "ytdjhpldiifdifaa", sum := "665377eb34fae0cd0914819874a333ef7adb5c8861839679669ec52047bc9986", func := "oast/oastlaw02.BoardRuns", spec := "boardRuns", unfollowed := true, recurses := true, apart := false, narrowed := true }
def BoardRunsUptoSaid : Prop := boardRunsUptoRow.holds Try.pinned (OpenSpec.upto boardRunsSpec)

/-- 'oastlaw02.BoardOrders', WHERE WHAT IT READS IS OF BULK AT MOST 1048576: true; the input reads as it did. -/
def boardOrdersUptoRow : OpenClaim := { program := "ytdjhpldiifdifaa", sum := "665377eb34fae0cd0914819874a333ef7adb5c8861839679669ec52047bc9986", func := "oast/oastlaw02.BoardOrders", spec := "boardOrders", unfollowed := true, recurses := true, apart := false, narrowed := true }
def BoardOrdersUptoSaid : Prop := boardOrdersUptoRow.holds Try.pinned (OpenSpec.upto boardOrdersSpec)

/-- 'oastlaw02.BoardOwn', WHERE WHAT IT READS IS OF BULK AT MOST 1048576: true; the input reads as it did. -/
def boardOwnUptoRow : OpenClaim := { program := "ytdjhpldiifdifaa", sum := "665377eb34fae0cd0914819874a333ef7adb5c8861839679669ec52047bc9986", func := "oast/oastlaw02.BoardOwn", spec := "boardOwn", unfollowed := true, recurses := true, apart := false, narrowed := true }
def BoardOwnUptoSaid : Prop := boardOwnUptoRow.holds Try.pinned (OpenSpec.upto boardOwnSpec)

/-- 'oastlaw02.BoardCosts', WHERE WHAT IT READS IS OF BULK AT MOST 1048576: true; the input reads as it did. -/
def boardCostsUptoRow : OpenClaim := { program := "ytdjhpldiifdifaa", sum := "665377eb34fae0cd0914819874a333ef7adb5c8861839679669ec52047bc9986", func := "oast/oastlaw02.BoardCosts", spec := "boardCosts", unfollowed := true, recurses := true, apart := false, narrowed := true }
def BoardCostsUptoSaid : Prop := boardCostsUptoRow.holds Try.pinned (OpenSpec.upto boardCostsSpec)

/-- 'oastlaw02.BoardForks', WHERE WHAT IT READS IS OF BULK AT MOST 1048576: true; the input reads as it did. -/
def boardForksUptoRow : OpenClaim := { program := "ytdjhpldiifdifaa", sum := "665377eb34fae0cd0914819874a333ef7adb5c8861839679669ec52047bc9986", func := "oast/oastlaw02.BoardForks", spec := "boardForks", unfollowed := true, recurses := true, apart := false, narrowed := true }
def BoardForksUptoSaid : Prop := boardForksUptoRow.holds Try.pinned (OpenSpec.upto boardForksSpec)

/-- 'oastlaw02.BoardVoid', WHERE WHAT IT READS IS OF BULK AT MOST 1048576: true; the input reads as it did. -/
def boardVoidUptoRow : OpenClaim := { program := "ytdjhpldiifdifaa", sum := "665377eb34fae0cd0914819874a333ef7adb5c8861839679669ec52047bc9986", func := "oast/oastlaw02.BoardVoid", spec := "boardVoid", unfollowed := true, recurses := true, apart := false, narrowed := true }
def BoardVoidUptoSaid : Prop := boardVoidUptoRow.holds Try.pinned (OpenSpec.upto boardVoidSpec)

end Rows
end Go.Proofs.Ytdjhpldiifdifaa
