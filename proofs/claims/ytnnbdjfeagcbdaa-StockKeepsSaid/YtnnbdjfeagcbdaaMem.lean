/- Blocks known whole; a piece stored into its box. -/
import Derived.Test.YtnnbdjfeagcbdaaTree3
namespace Go.Proofs.Ytnnbdjfeagcbdaa
set_option linter.unusedSimpArgs false
set_option linter.unusedVariables false
open Go.RowKit
def Cells (w : World) (B : Nat) (cs : Array Value) (ty : TypeId) : Prop := w.heap[B]? = some (.cells cs ty)
theorem Cells.lt {w : World} {B : Nat} {cs : Array Value} {ty : TypeId} (h : Cells w B cs ty) : B < w.heap.size := (Array.getElem?_eq_some_iff.1 h).1
theorem Cells.cell {w : World} {B : Nat} {cs : Array Value} {ty : TypeId} (h : Cells w B cs ty) (j : Nat) : w.cell? ⟨B, j, none⟩ = cs[j]? := cells_of_block h j
theorem pc_facts {w : World} {B : Nat} {p : Pc} {ty : TypeId} (h : Cells w B p.vals ty) : w.cell? ⟨B, 0, none⟩ = some (Value.int .i64 p.from_) ∧ w.cell? ⟨B, 1, none⟩ = some (Value.int .i64 p.to) ∧ w.cell? ⟨B, 2, none⟩ = some (Value.int .i64 p.cell.state) ∧ w.cell? ⟨B, 3, none⟩ = some (Value.int .i64 p.cell.lot) ∧ w.cell? ⟨B, 4, none⟩ = some (Value.int .i64 p.cell.owner) ∧ w.cell? ⟨B, 5, none⟩ = some (Value.int .i64 p.cell.holder) := by
  have := h.cell
  simp [this]
theorem Cells.frozen {w : World} {B : Nat} {cs : Array Value} {ty : TypeId} (h : Cells w B cs ty) (j : Nat) : w.frozen? ⟨B, j, none⟩ = false := by
  simp [World.frozen?, show w.heap[B]? = _ from h]
theorem Cells.below {w w' : World} {B C : Nat} {cs : Array Value} {ty : TypeId} (h : Cells w B cs ty) (hb : Below C w w') (hC : B < C) : Cells w' B cs ty := (hb.block B hC).trans h
theorem Cells.new (w : World) (cs : Array Value) (ty : TypeId) : Cells (w.alloc (.cells cs ty)) w.heap.size cs ty := heap_alloc_new w _
theorem Cells.drew {w : World} {B : Nat} {cs : Array Value} {ty : TypeId} (h : Cells w B cs ty) : Cells w.drew B cs ty := h
theorem Cells.alloc {w : World} {B : Nat} {cs : Array Value} {ty : TypeId} (h : Cells w B cs ty) (o : Obj) : Cells (w.alloc o) B cs ty := (Below.heap_alloc w o B h.lt).trans h
theorem Cells.set {w : World} {B : Nat} {cs : Array Value} {ty : TypeId} (h : Cells w B cs ty) (j : Nat) (v : Value) : Cells (w.setCell ⟨B, j, none⟩ v) B (cs.setIfInBounds j v) ty := by
  obtain ⟨hlt, hk⟩ := Array.getElem?_eq_some_iff.1 h
  show (w.heap.modify B _)[B]? = _
  rw [Array.getElem?_eq_getElem (by rw [Array.size_modify]; exact hlt), Array.getElem_modify_self, hk]
  rfl
theorem Cells.set_far {w : World} {B C : Nat} {cs : Array Value} {ty : TypeId} (h : Cells w B cs ty) (j : Nat) (v : Value) (hne : B ≠ C) : Cells (w.setCell ⟨C, j, none⟩ v) B cs ty :=
  (Below.heap_setCell w ⟨C, j, none⟩ v B hne).trans h
theorem TreeAt.keepT {w w' : World} (hk : ∀ (b : Nat) (cs : Array Value), w.heap[b]? = some (Obj.cells cs 158) → w'.heap[b]? = w.heap[b]?) : ∀ {t : T} {p : Option Addr}, TreeAt w p t → TreeAt w' p t
  | .nil, _, h => h
  | .node l r pc h, _, ⟨b, pl, pr, hp, hb, hl, hr⟩ => ⟨b, pl, pr, hp, (hk b _ hb).trans hb, TreeAt.keepT hk hl, TreeAt.keepT hk hr⟩
theorem TreeAt.set {w : World} {t : T} {p : Option Addr} (h : TreeAt w p t) {B : Nat} {cs : Array Value} {ty : TypeId} (hc : Cells w B cs ty) (hty : ty ≠ 158) (j : Nat) (v : Value) : TreeAt (w.setCell ⟨B, j, none⟩ v) p t :=
  h.keepT fun b cs' hb => Below.heap_setCell w ⟨B, j, none⟩ v b (fun e => by
    have e' : b = B := e
    subst e'
    have := (show w.heap[b]? = _ from hc).symm.trans hb
    simp at this
    exact hty this.2)
theorem undrew {B : Nat} {w w' : World} (h : Below B w.drew w') : Below B w w' := ⟨h.os, h.tape, h.output, h.size, h.block⟩
/-- A piece stored into its box. -/
@[reducible] def put6 (w : World) (B : Nat) (p : Pc) : World :=
  ((((((w.setCell ⟨B, 0, none⟩ (.int .i64 p.from_)).setCell ⟨B, 1, none⟩ (.int .i64 p.to)).setCell ⟨B, 2, none⟩ (.int .i64 p.cell.state)).setCell ⟨B, 3, none⟩ (.int .i64 p.cell.lot)).setCell ⟨B, 4, none⟩ (.int .i64 p.cell.owner)).setCell ⟨B, 5, none⟩ (.int .i64 p.cell.holder))
theorem put6_cells {w : World} {B : Nat} {a b c d e f : Value} (h : Cells w B #[a, b, c, d, e, f] 118) (p : Pc) : Cells (put6 w B p) B p.vals 118 :=
  (((((h.set 0 _).set 1 _).set 2 _).set 3 _).set 4 _).set 5 _
theorem put6_tree {w : World} {B : Nat} {cs : Array Value} (h : Cells w B cs 118) (p : Pc) {t : T} {q : Option Addr} (ht : TreeAt w q t) : TreeAt (put6 w B p) q t := by
  have n : (118 : TypeId) ≠ 158 := by decide
  exact (((((ht.set h n 0 _).set (h.set 0 _) n 1 _).set ((h.set 0 _).set 1 _) n 2 _).set (((h.set 0 _).set 1 _).set 2 _) n 3 _).set ((((h.set 0 _).set 1 _).set 2 _).set 3 _) n 4 _).set (((((h.set 0 _).set 1 _).set 2 _).set 3 _).set 4 _) n 5 _
theorem put6_below {w w0 : World} {B C : Nat} (p : Pc) (h : Below C w0 w) (hB : C ≤ B) : Below C w0 (put6 w B p) :=
  (((((h.setCell (p := ⟨B, 0, none⟩) hB _).setCell (p := ⟨B, 1, none⟩) hB _).setCell (p := ⟨B, 2, none⟩) hB _).setCell (p := ⟨B, 3, none⟩) hB _).setCell (p := ⟨B, 4, none⟩) hB _).setCell (p := ⟨B, 5, none⟩) hB _
end Go.Proofs.Ytnnbdjfeagcbdaa
