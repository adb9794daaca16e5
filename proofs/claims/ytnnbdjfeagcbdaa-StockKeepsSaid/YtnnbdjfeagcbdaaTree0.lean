/- Trees of pieces in memory: what it means that a tree lies at a pointer. -/
import Derived.Test.YtnnbdjfeagcbdaaRows
import Derived.WalkKit
import Derived.WalkSpells
import Derived.WalkLawsBesides
import Derived.Deep.RegionHeld3
import Derived.Deep.DrawnRows
import Derived.Deep.QuietTactic
import Derived.BigQuiet
import Derived.Lib.Hide
namespace Go.Proofs.Ytnnbdjfeagcbdaa
set_option linter.unusedSimpArgs false
set_option linter.unusedVariables false
open Go.RowKit

structure Cl where
  state : Int
  lot : Int
  owner : Int
  holder : Int
deriving DecidableEq
structure Pc where
  from_ : Int
  to : Int
  cell : Cl
deriving DecidableEq
inductive T where
  | nil
  | node (l r : T) (p : Pc) (h : Int)

@[reducible] def Cl.vals (c : Cl) : Array Value := #[.int .i64 c.state, .int .i64 c.lot, .int .i64 c.owner, .int .i64 c.holder]
@[reducible] def Cl.val (c : Cl) : Value := .agg c.vals
@[reducible] def Pc.vals (p : Pc) : Array Value := #[.int .i64 p.from_, .int .i64 p.to, .int .i64 p.cell.state, .int .i64 p.cell.lot, .int .i64 p.cell.owner, .int .i64 p.cell.holder]
@[reducible] def Pc.val (p : Pc) : Value := .agg p.vals

def T.tall : T → Int
  | .nil => 0
  | .node _ _ _ h => h
def T.toList : T → List Pc
  | .nil => []
  | .node l r p _ => l.toList ++ p :: r.toList
/-- Heights are as they are made. -/
def T.Ok : T → Prop
  | .nil => True
  | .node l r _ h => l.Ok ∧ r.Ok ∧ h = max l.tall r.tall + 1

theorem T.Ok.tall_ge : ∀ {t : T}, t.Ok → 0 ≤ t.tall
  | .nil, _ => Int.le_refl _
  | .node l r _ h, ⟨hl, hr, e⟩ => by have := hl.tall_ge; have := hr.tall_ge; simp only [T.tall]; omega
theorem T.Ok.tall_le : ∀ {t : T}, t.Ok → t.tall ≤ t.toList.length
  | .nil, _ => Int.le_refl _
  | .node l r _ h, ⟨hl, hr, e⟩ => by have := hl.tall_le; have := hr.tall_le; have := hl.tall_ge; have := hr.tall_ge; simp only [T.tall, T.toList, List.length_append, List.length_cons]; omega

/-- The node's block. -/
@[reducible] def nodeObj (l r : Option Addr) (p : Pc) (h : Int) : Obj :=
  .cells #[.pointer l, .pointer r, .int .i64 p.from_, .int .i64 p.to, .int .i64 p.cell.state, .int .i64 p.cell.lot, .int .i64 p.cell.owner, .int .i64 p.cell.holder, .int .i64 h] 158

def TreeAt (w : World) : Option Addr → T → Prop
  | p, .nil => p = none
  | p, .node l r pc h => ∃ b pl pr, p = some ⟨b, 0, none⟩ ∧ w.heap[b]? = some (nodeObj pl pr pc h) ∧ TreeAt w pl l ∧ TreeAt w pr r

theorem TreeAt.keep {w w' : World} (hk : ∀ b, b < w.heap.size → w'.heap[b]? = w.heap[b]?) : ∀ {t : T} {p : Option Addr}, TreeAt w p t → TreeAt w' p t
  | .nil, _, h => h
  | .node l r pc h, _, ⟨b, pl, pr, hp, hb, hl, hr⟩ => by
    refine ⟨b, pl, pr, hp, ?_, TreeAt.keep hk hl, TreeAt.keep hk hr⟩
    have : b < w.heap.size := (Array.getElem?_eq_some_iff.1 hb).1
    rw [hk b this]; exact hb
theorem TreeAt.alloc {w : World} {t : T} {p : Option Addr} (h : TreeAt w p t) (o : Obj) : TreeAt (w.alloc o) p t := h.keep fun b hb => Below.heap_alloc w o b hb
theorem TreeAt.drew {w : World} {t : T} {p : Option Addr} (h : TreeAt w p t) : TreeAt w.drew p t := TreeAt.keep (w := w) (w' := w.drew) (fun _ _ => rfl) h
theorem TreeAt.below {w w' : World} {t : T} {p : Option Addr} (h : TreeAt w p t) (hb : Below w.heap.size w w') : TreeAt w' p t := h.keep hb.block
theorem TreeAt.nil_iff {w : World} {t : T} {p : Option Addr} (h : TreeAt w p t) : p = none ↔ t = .nil := by
  cases t with
  | nil => exact ⟨fun _ => rfl, fun _ => h⟩
  | node l r pc h' => obtain ⟨b, pl, pr, rfl, _⟩ := h; simp

theorem cells_of_block {w : World} {b : Nat} {cs : Array Value} {t : TypeId} (hb : w.heap[b]? = some (.cells cs t)) (i : Nat) :
    w.cell? ⟨b, i, none⟩ = cs[i]? := by
  simp [World.cell?, hb]
theorem node_cells {w : World} {b : Nat} {pl pr : Option Addr} {pc : Pc} {h : Int} (hb : w.heap[b]? = some (nodeObj pl pr pc h)) :
    b < w.heap.size ∧ w.cell? ⟨b, 0, none⟩ = some (Value.pointer pl) ∧ w.cell? ⟨b, 1, none⟩ = some (Value.pointer pr) ∧ w.cell? ⟨b, 2, none⟩ = some (Value.int .i64 pc.from_) ∧ w.cell? ⟨b, 3, none⟩ = some (Value.int .i64 pc.to) ∧ w.cell? ⟨b, 4, none⟩ = some (Value.int .i64 pc.cell.state) ∧ w.cell? ⟨b, 5, none⟩ = some (Value.int .i64 pc.cell.lot) ∧ w.cell? ⟨b, 6, none⟩ = some (Value.int .i64 pc.cell.owner) ∧ w.cell? ⟨b, 7, none⟩ = some (Value.int .i64 pc.cell.holder) ∧ w.cell? ⟨b, 8, none⟩ = some (Value.int .i64 h) := by
  have lt := (Array.getElem?_eq_some_iff.1 hb).1
  refine ⟨lt, ?_⟩
  simp [cells_of_block hb]
theorem bcell {W w1 : World} {B : Nat} (hb : Below B W w1) : (∀ b o, b < B → w1.cell? ⟨b, o, none⟩ = W.cell? ⟨b, o, none⟩) ∧ (∀ b o, b < B → w1.frozen? ⟨b, o, none⟩ = W.frozen? ⟨b, o, none⟩) :=
  ⟨fun b o h => hb.cell (p := ⟨b, o, none⟩) h, fun b o h => hb.frozen (p := ⟨b, o, none⟩) h⟩
theorem setCell_far (w : World) (B b o j : Nat) (v : Value) (h : b ≠ B) : (w.setCell ⟨B, j, none⟩ v).cell? ⟨b, o, none⟩ = w.cell? ⟨b, o, none⟩ :=
  World.cell?_of_block (a := ⟨b, o, none⟩) (Below.heap_setCell w ⟨B, j, none⟩ v b h)
/-- A fact that the walk shall not see. -/
theorem hid {p : Prop} (h : p) : Hid p := h
end Go.Proofs.Ytnnbdjfeagcbdaa
