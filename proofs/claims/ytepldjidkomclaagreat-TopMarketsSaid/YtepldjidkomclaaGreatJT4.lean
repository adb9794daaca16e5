/- TopMarkets: the argument opened. -/
import Derived.Test.YtepldjidkomclaaGreatJT3
import Derived.Test.YtepldjidkomclaaGreatJCOpen
namespace Go.Proofs.YtepldjidkomclaaGreat.topMarkets
set_option linter.unusedSimpArgs false
set_option linter.unusedVariables false
open Go.RowKit Go.ChangeShapes Go.WideShapes Go.Deep Go.Proofs.YtepldjidkomclaaGreat.Ca
theorem bid_leaves : leaves Tryz.prog 3 32 = some [.i64, .i64, .i64] := by kernel_rfl
theorem bid_cells : Tryz.prog.cellsOf 32 = 3 := by kernel_rfl
theorem three_bid {vs : List Value} (h : IntsK [.i64, .i64, .i64] vs) : ∃ b : Ca.Bd, True ∧ vs = Ca.encBd b := by
  obtain ⟨a, _, rfl, _, _, h⟩ := h.cons
  obtain ⟨b, _, rfl, _, _, h⟩ := h.cons
  obtain ⟨c, _, rfl, _, _, h⟩ := h.cons
  obtain rfl := h.nil
  exact ⟨⟨a, b, c⟩, trivial, rfl⟩
set_option maxRecDepth 100000 in
theorem bids_open {H : Type} {enc : TypeId × Value → H} {w : World} {base : Nat} {spare : Nat → Bool} {held : Bool} {r : Reach} {b0 : Nat} {v : Value} {d : DataW H} {p : List MemPlace}
    (hv : Value.okWide Tryz.prog w r b0 22 v) (h : DataW.Trod enc Tryz.prog w base spare held 22 v d p) : ∃ l : List Ca.Bd, ReadsE Ca.encBd 3 w v l := by
  obtain ⟨rows, hk, hr, hf⟩ := open_rows Tryz.underlying22 bid_leaves bid_cells (by decide) hv h
  obtain ⟨xs, rfl, _⟩ := map_of_rows rows (fun r hr => three_bid (hk r hr))
  exact ⟨xs, reads_map xs hr⟩
set_option maxRecDepth 100000 in
theorem topMarkets_walk {H : Type} {enc : TypeId × Value → H} (W : World) (args : Array Value) (ds : List (DataW H)) (p : List MemPlace) {base : Nat}
    (hval : ∀ (j : Nat) t v, (#[22] : Array TypeId)[j]? = some t → args[j]? = some v → Value.okWide Tryz.prog W .any base t v)
    (hA : DataW.TrodAll enc Tryz.prog W 0 (fun _ => true) true [22] args.toList ds p) : Calls Tryz.prog 3 args W fun e w' => e = .returned (.bool true) ∧ Below W.heap.size W w' := by
  obtain ⟨v0, vs0, d0, ds0, p0, q0, hargs, rfl, rfl, h0, r0⟩ := trodAll_cons hA
  obtain ⟨rfl, rfl, rfl⟩ := trodAll_nil r0
  obtain rfl : args = #[v0] := by cases args; simp_all
  obtain ⟨l0, hl0⟩ := bids_open (hval 0 _ v0 rfl rfl) h0
  exact markets_law W v0 l0 hl0
end Go.Proofs.YtepldjidkomclaaGreat.topMarkets
