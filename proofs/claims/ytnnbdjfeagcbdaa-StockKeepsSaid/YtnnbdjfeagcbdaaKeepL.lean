/- The one great test of StockKeeps: its operations may be walked in the text's order (a closed fact, in a text of its own for its weight). -/
import Derived.Test.YtnnbdjfeagcbdaaProg
import Derived.BigQuiet
namespace Go.Proofs.Ytnnbdjfeagcbdaa
set_option linter.unusedSimpArgs false
set_option linter.unusedVariables false
open Go

/-- The operations of a region, by its number. -/
def opsOf (n : Nat) : Code → Option (Array Oper)
  | .region m ops _ => if m = n then some ops else none
  | .seq a b => (opsOf n a).or (opsOf n b)
  | .cond _ a b => (opsOf n a).or (opsOf n b)
  | .block _ c => opsOf n c
  | .loop c => opsOf n c
  | .rangeFunc _ _ a b => (opsOf n a).or (opsOf n b)
  | .scope c => opsOf n c
  | _ => none
theorem lexOf {f : Func} {n : Nat} {ops : Array Oper} (h : f.body.bind (opsOf n) = some ops) (hl : (f.body.bind (opsOf n)).map (Region.lexB .any) = some true) : Region.lexB .any ops = true := by
  rw [h] at hl
  simpa using hl
theorem keeps_lex : (Try.f4.body.bind (opsOf 46)).map (Region.lexB .any) = some true := by kernel_rfl
end Go.Proofs.Ytnnbdjfeagcbdaa
