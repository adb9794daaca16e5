/- Rows of integers. -/
import Derived.Test.YtdjhpldiifdifaaJKee1
namespace Go.Proofs.Ytdjhpldiifdifaa
set_option linter.unusedSimpArgs false
set_option linter.unusedVariables false
open Go.RowKit Go.Shelf
theorem infoInt : (Try.prog.info? 3).map (fun i => (i.zero, i.size, i.bytes)) = some (some (.int .i64 0), 1, 8) := by kernel_rfl
theorem undInt : Try.prog.underlying 60 = some (.slice 3) := by kernel_rfl
abbrev RowI (B : Nat) (w : World) (v : Value) (l : List Int) : Prop := OwnE encI 1 3 B w v l
end Go.Proofs.Ytdjhpldiifdifaa
