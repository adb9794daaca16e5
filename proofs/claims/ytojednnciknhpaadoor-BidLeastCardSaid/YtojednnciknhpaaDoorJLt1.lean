/- BidLeast: the arguments opened. -/
import Derived.Test.YtojednnciknhpaaDoorJLt0
import Derived.Test.YtojednnciknhpaaDoorJLop
namespace Go.Proofs.YtojednnciknhpaaDoor.bidLeast
set_option linter.unusedSimpArgs false
set_option linter.unusedVariables false
open Go.RowKit Go.ChangeShapes Go.WideShapes

set_option maxRecDepth 100000 in
theorem bidLeast_walk {H : Type} {enc : TypeId × Value → H} (W : World) (hT : TabOk W) (args : Array Value) (ds : List (DataW H)) (p : List MemPlace) {base : Nat}
    (hval : ∀ (j : Nat) t v, (#[42] : Array TypeId)[j]? = some t → args[j]? = some v → Value.okWide Tryd.prog W .any base t v)
    (hA : DataW.TrodAll enc Tryd.prog W 0 (fun _ => true) true [42] args.toList ds p) : Calls Tryd.prog 4 args W fun e w' => e = .returned (.bool true) ∧ Below W.heap.size W w' := by
  obtain ⟨v0, vs0, d0, ds0, p0, q0, hargs, rfl, rfl, h0, r0⟩ := trodAll_cons hA
  obtain ⟨rfl, rfl, rfl⟩ := trodAll_nil r0
  obtain rfl : args = #[v0] := by cases args; simp_all
  obtain ⟨l0, hl0, hq0⟩ := tables_open (hval 0 _ v0 rfl rfl) h0
  exact least_law W hT v0 l0 hl0 hq0
end Go.Proofs.YtojednnciknhpaaDoor.bidLeast
