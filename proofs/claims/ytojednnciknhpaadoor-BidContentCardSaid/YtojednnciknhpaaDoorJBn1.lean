/- BidContent: the arguments opened. -/
import Derived.Test.YtojednnciknhpaaDoorJBn0
import Derived.Test.YtojednnciknhpaaDoorJLop
namespace Go.Proofs.YtojednnciknhpaaDoor.bidContent
set_option linter.unusedSimpArgs false
set_option linter.unusedVariables false
open Go.RowKit Go.ChangeShapes Go.WideShapes

set_option maxRecDepth 100000 in
theorem bidContent_walk {H : Type} {enc : TypeId × Value → H} (W : World) (hT : TabOk W) (args : Array Value) (ds : List (DataW H)) (p : List MemPlace) {base : Nat}
    (hval : ∀ (j : Nat) t v, (#[42, 27, 22] : Array TypeId)[j]? = some t → args[j]? = some v → Value.okWide Tryd.prog W .any base t v)
    (hA : DataW.TrodAll enc Tryd.prog W 0 (fun _ => true) true [42, 27, 22] args.toList ds p) : Calls Tryd.prog 13 args W fun e w' => e = .returned (.bool true) ∧ Below W.heap.size W w' := by
  obtain ⟨v0, vs0, d0, ds0, p0, q0, hargs, rfl, rfl, h0, r0⟩ := trodAll_cons hA
  obtain ⟨v1, vs1, d1, ds1, p1, q1, rfl, rfl, rfl, h1, r1⟩ := trodAll_cons r0
  obtain ⟨v2, vs2, d2, ds2, p2, q2, rfl, rfl, rfl, h2, r2⟩ := trodAll_cons r1
  obtain ⟨rfl, rfl, rfl⟩ := trodAll_nil r2
  obtain rfl : args = #[v0, v1, v2] := by cases args; simp_all
  obtain ⟨l0, hl0, hq0⟩ := tables_open (hval 0 _ v0 rfl rfl) h0
  obtain ⟨l1, hl1, hq1⟩ := ints_open (hval 1 _ v1 rfl rfl) h1
  obtain ⟨l2, hl2, hq2⟩ := longs_open (hval 2 _ v2 rfl rfl) h2
  exact content_law W hT v0 l0 hl0 hq0 v1 l1 hl1 hq1 v2 l2 hl2 hq2
end Go.Proofs.YtojednnciknhpaaDoor.bidContent
