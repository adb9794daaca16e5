/- BoardRuns: the arguments opened. -/
import Derived.Test.YtdjhpldiifdifaaJRun1
import Derived.Test.YtdjhpldiifdifaaJOpen
namespace Go.Proofs.Ytdjhpldiifdifaa.boardRuns
set_option linter.unusedSimpArgs false
set_option linter.unusedVariables false
open Go.RowKit Go.ChangeShapes Go.WideShapes

set_option maxRecDepth 100000 in
theorem boardRuns_walk {H : Type} {enc : TypeId × Value → H} (W : World) (args : Array Value) (ds : List (DataW H)) (p : List MemPlace) {base : Nat}
    (hval : ∀ (j : Nat) t v, (#[22] : Array TypeId)[j]? = some t → args[j]? = some v → Value.okWide Try.prog W .any base t v)
    (hA : DataW.TrodAll enc Try.prog W 0 (fun _ => true) true [22] args.toList ds p) : Calls Try.prog 8 args W fun e w' => e = .returned (.bool true) ∧ Below W.heap.size W w' := by
  obtain ⟨v0, vs0, d0, ds0, p0, q0, hargs, rfl, rfl, h0, r0⟩ := trodAll_cons hA
  obtain ⟨rfl, rfl, rfl⟩ := trodAll_nil r0
  obtain rfl : args = #[v0] := by cases args; simp_all
  obtain ⟨l0, hl0, hok0⟩ := acts_open (hval 0 _ v0 rfl rfl) h0
  exact runs_calls W v0 l0 hl0 hok0
end Go.Proofs.Ytdjhpldiifdifaa.boardRuns
