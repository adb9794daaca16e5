/- TopShares: the arguments opened. -/
import Derived.Test.YtepldjidkomclaaGreatJT7
import Derived.Test.YtepldjidkomclaaGreatJCOpen
namespace Go.Proofs.YtepldjidkomclaaGreat.topShares
set_option linter.unusedSimpArgs false
set_option linter.unusedVariables false
open Go.RowKit Go.ChangeShapes Go.WideShapes Go.Deep Go.Proofs.YtepldjidkomclaaGreat.Ca
theorem l64_leaves : leaves Tryz.prog 3 2 = some [.i64] := by kernel_rfl
theorem l64_cells : Tryz.prog.cellsOf 2 = 1 := by kernel_rfl
theorem int_leaves : leaves Tryz.prog 3 3 = some [.i64] := by kernel_rfl
theorem int_cells : Tryz.prog.cellsOf 3 = 1 := by kernel_rfl
theorem one_int {vs : List Value} (h : IntsK [.i64] vs) : ∃ x : Int, True ∧ vs = Ca.encI x := by
  obtain ⟨a, _, rfl, _, _, h⟩ := h.cons
  obtain rfl := h.nil
  exact ⟨a, trivial, rfl⟩
section
variable {H : Type} {enc : TypeId × Value → H} {w : World} {base : Nat} {spare : Nat → Bool} {held : Bool} {r : Reach} {b0 : Nat} {v : Value} {d : DataW H} {p : List MemPlace}
set_option maxRecDepth 100000 in
theorem longs_open (hv : Value.okWide Tryz.prog w r b0 26 v) (h : DataW.Trod enc Tryz.prog w base spare held 26 v d p) : ∃ l : List Int, ReadsE Ca.encI 1 w v l := by
  obtain ⟨rows, hk, hr, hf⟩ := open_rows Tryz.underlying26 l64_leaves l64_cells (by decide) hv h
  obtain ⟨xs, rfl, _⟩ := map_of_rows rows (fun r hr => one_int (hk r hr))
  exact ⟨xs, reads_map xs hr⟩
set_option maxRecDepth 100000 in
theorem ints_open (hv : Value.okWide Tryz.prog w r b0 47 v) (h : DataW.Trod enc Tryz.prog w base spare held 47 v d p) : ∃ l : List Int, ReadsE Ca.encI 1 w v l := by
  obtain ⟨rows, hk, hr, hf⟩ := open_rows Tryz.underlying47 int_leaves int_cells (by decide) hv h
  obtain ⟨xs, rfl, _⟩ := map_of_rows rows (fun r hr => one_int (hk r hr))
  exact ⟨xs, reads_map xs hr⟩
end
set_option maxRecDepth 100000 in
theorem topShares_walk {H : Type} {enc : TypeId × Value → H} (W : World) (args : Array Value) (ds : List (DataW H)) (p : List MemPlace) {base : Nat}
    (hval : ∀ (j : Nat) t v, (#[26, 2, 47] : Array TypeId)[j]? = some t → args[j]? = some v → Value.okWide Tryz.prog W .any base t v)
    (hA : DataW.TrodAll enc Tryz.prog W 0 (fun _ => true) true [26, 2, 47] args.toList ds p) : Calls Tryz.prog 4 args W fun e w' => e = .returned (.bool true) ∧ Below W.heap.size W w' := by
  obtain ⟨v0, vs0, d0, ds0, p0, q0, hargs, rfl, rfl, h0, r0⟩ := trodAll_cons hA
  obtain ⟨v1, vs1, d1, ds1, p1, q1, rfl, rfl, rfl, h1, r1⟩ := trodAll_cons r0
  obtain ⟨v2, vs2, d2, ds2, p2, q2, rfl, rfl, rfl, h2, r2⟩ := trodAll_cons r1
  obtain ⟨rfl, rfl, rfl⟩ := trodAll_nil r2
  obtain rfl : args = #[v0, v1, v2] := by cases args; simp_all
  obtain ⟨l0, hl0⟩ := longs_open (hval 0 _ v0 rfl rfl) h0
  obtain ⟨x1, rfl, hx1⟩ := open_int Tryz.underlying2 (hval 1 _ v1 rfl rfl) h1
  obtain ⟨l2, hl2⟩ := ints_open (hval 2 _ v2 rfl rfl) h2
  exact shares_law W v0 l0 hl0 x1 v2 l2 hl2
end Go.Proofs.YtepldjidkomclaaGreat.topShares
