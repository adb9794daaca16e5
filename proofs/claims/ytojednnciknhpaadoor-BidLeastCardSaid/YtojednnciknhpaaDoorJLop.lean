/- The laws' arguments opened; the library's table out of what the row lists. -/
import Derived.OpenShut
import Derived.LaidMore
import Derived.Lay
import Derived.Test.YtojednnciknhpaaDoorJRowx
import Derived.Test.YtojednnciknhpaaDoorJRp
namespace Go.Proofs.YtojednnciknhpaaDoor
set_option linter.unusedSimpArgs false
set_option linter.unusedVariables false
open Go.RowKit Go.ChangeShapes Go.WideShapes Go.Deep Go.ChangeAt
theorem i64_leaves : leaves Tryd.prog 3 2 = some [.i64] := by kernel_rfl
theorem i64_cells : Tryd.prog.cellsOf 2 = 1 := by kernel_rfl
theorem int_leaves : leaves Tryd.prog 3 3 = some [.i64] := by kernel_rfl
theorem int_cells : Tryd.prog.cellsOf 3 = 1 := by kernel_rfl
theorem row_cells : Tryd.prog.cellsOf 22 = 1 := by kernel_rfl
theorem one_int {vs : List Value} (h : IntsK [.i64] vs) : ∃ x : Int, (-9223372036854775808 ≤ x ∧ x ≤ 9223372036854775807) ∧ vs = encI x := by
  obtain ⟨a, _, rfl, h1, h2, h⟩ := h.cons
  obtain rfl := h.nil
  exact ⟨a, ⟨h1, h2⟩, rfl⟩
/-- The library's table lies as the row lists it. -/
theorem tab_of_laid {W : World} (h : laidMetH Tryd.prog [("math/bits.deBruijn32tab", Rows.laid_math_bits_deBruijn32tab)] W) : TabOk W := by
  rw [MakeChecks.laidMetH_plain _ _ _ (by kernel_rfl)] at h
  obtain ⟨ps, ⟨g, t, cs, fuel, p, q, hg, ht, hv, hd, _, _⟩, _, _⟩ := h
  obtain rfl := Option.some.inj ((show Tryd.prog.globalNamed "math/bits.deBruijn32tab" = some 0 by kernel_rfl).symm.trans hg)
  obtain rfl := Option.some.inj ((show (Tryd.prog.globals[0]?).map (·.type) = some 163 by kernel_rfl).symm.trans ht)
  obtain ⟨xs, m, _, ex, _, hl, hel⟩ := DataW.trod_array Tryd.underlying163 hd
  intro r hr
  have c5 : Tryd.prog.cellsOf 5 = 1 := by kernel_rfl
  have hlen : Lib.deBruijn32tab.length = 32 := by kernel_rfl
  have hr32 : r < 32 := by rw [← hlen]; exact hr
  have hE := hel r hr32
  rw [c5, Nat.mul_one, List.getElem?_eq_getElem (by omega)] at hE
  obtain ⟨z, e1, e2, _⟩ := DataW.trod_int Tryd.underlying5 hE
  have e3 : (xs.map (·.1)) = Lib.deBruijn32tab.map fun n : Nat => (DataW.lit (.int .u8 (n : Int)) : DataW Unit) := (DataW.agg.inj (Prod.mk.inj ex).1).symm
  have e4 : (xs.map (·.1))[r]? = (Lib.deBruijn32tab.map fun n : Nat => (DataW.lit (.int .u8 (n : Int)) : DataW Unit))[r]? := by rw [e3]
  rw [List.getElem?_map, List.getElem?_map, List.getElem?_eq_getElem (by omega : r < xs.length), List.getElem?_eq_getElem hr, e2] at e4
  have hz : z = ((Lib.deBruijn32tab[r] : Nat) : Int) := by
    simp only [Option.map_some, Option.some.injEq, DataW.lit.injEq, Lit.int.injEq, true_and] at e4
    exact e4
  have h0 : cs.toList[r]? = some (.int .u8 z) := by
    have h0 : ((cs.toList.drop r).take 1)[0]? = some (.int .u8 z) := by rw [e1]; rfl
    simpa using h0
  have h1 := World.var?_cell hg hv r
  have e5 : Lib.deBruijn32tab.getD r 0 = Lib.deBruijn32tab[r] := by rw [List.getD_eq_getElem?_getD, List.getElem?_eq_getElem hr]; rfl
  rw [e5, ← hz]
  refine Eq.trans h1 ?_
  simpa using h0
section
variable {H : Type} {enc : TypeId × Value → H} {w : World} {base : Nat} {spare : Nat → Bool} {held : Bool} {r : Reach} {b0 : Nat} {v : Value} {d : DataW H} {p : List MemPlace}
set_option maxRecDepth 100000 in
theorem longs_open (hv : Value.okWide Tryd.prog w r b0 22 v) (h : DataW.Trod enc Tryd.prog w base spare held 22 v d p) : ∃ l : List Int, ArgE encI 1 w v l ∧ ∀ x ∈ l, -9223372036854775808 ≤ x ∧ x ≤ 9223372036854775807 := by
  obtain ⟨rows, hk, hr, hf⟩ := open_rows Tryd.underlying22 i64_leaves i64_cells (by decide) hv h
  obtain ⟨xs, rfl, hq⟩ := map_of_rows rows (fun r hr => one_int (hk r hr))
  exact ⟨xs, ⟨reads_map xs hr, hf⟩, hq⟩
set_option maxRecDepth 100000 in
theorem ints_open (hv : Value.okWide Tryd.prog w r b0 27 v) (h : DataW.Trod enc Tryd.prog w base spare held 27 v d p) : ∃ l : List Int, ArgE encI 1 w v l ∧ ∀ x ∈ l, -9223372036854775808 ≤ x ∧ x ≤ 9223372036854775807 := by
  obtain ⟨rows, hk, hr, hf⟩ := open_rows Tryd.underlying27 int_leaves int_cells (by decide) hv h
  obtain ⟨xs, rfl, hq⟩ := map_of_rows rows (fun r hr => one_int (hk r hr))
  exact ⟨xs, ⟨reads_map xs hr, hf⟩, hq⟩
set_option maxRecDepth 100000 in
theorem tables_open (hv : Value.okWide Tryd.prog w r b0 42 v) (h : DataW.Trod enc Tryd.prog w base spare held 42 v d p) : ∃ L : List (List Int), NestA encI 1 w v L ∧ ∀ l ∈ L, ∀ x ∈ l, -9223372036854775808 ≤ x ∧ x ≤ 9223372036854775807 := by
  obtain ⟨a0, len, cap, rfl⟩ := okWide_slice Tryd.underlying42 hv
  obtain ⟨fuel, hf⟩ := h
  have e : (Value.slice a0 len cap).cells.toList = [Value.slice a0 len cap] := rfl
  rw [e] at hf
  obtain ⟨L, h1, h2⟩ := nestA_trod Tryd.underlying42 Tryd.underlying22 row_cells i64_leaves i64_cells (by decide) hf
  exact nest_map (fun rows hr r hr' => one_int (h1 rows hr r hr')) h2
end
end Go.Proofs.YtojednnciknhpaaDoor
