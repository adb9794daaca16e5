/- What visiting a tree yields. -/
import Derived.Test.YtnnbdjfeagcbdaaTree6
import Derived.RangeFuncNested
import Derived.RangeFuncBound
import Derived.RangeFuncCalls
import Derived.RangeFuncLeaves
import Derived.Shelf.Abstract
import Derived.Shelf.RegionOpen
import Derived.OwnWalkIn
import Derived.TacticsInMore
import Derived.LoopNIn
import Derived.LoopIn
namespace Go.Proofs.Ytnnbdjfeagcbdaa
set_option linter.unusedSimpArgs false
set_option linter.unusedVariables false
open Go.RowKit Go.Shelf

def Pc.Good (p : Pc) : Prop := 1 ≤ p.from_ ∧ p.from_ ≤ p.to ∧ p.to ≤ 1000000
/-- A piece cut at the ends of a span. -/
def Pc.cut (p : Pc) (a b : Int) : Pc := ⟨max a p.from_, min b p.to, p.cell⟩
def visL : T → Int → Int → List Pc
  | .nil, _, _ => []
  | .node l r p _, a, b => (if a < p.from_ then visL l a b else []) ++ (if a ≤ p.to ∧ p.from_ ≤ b then [p.cut a b] else []) ++ (if b ≤ p.to then [] else visL r a b)
/-- The tree lies in blocks below n₀. -/
def Tn (n₀ : Nat) (w : World) : Option Addr → T → Prop
  | p, .nil => p = none
  | p, .node l r pc h => ∃ b pl pr, p = some ⟨b, 0, none⟩ ∧ b < n₀ ∧ w.heap[b]? = some (nodeObj pl pr pc h) ∧ Tn n₀ w pl l ∧ Tn n₀ w pr r
theorem Tn.of_tree {w W : World} {n₀ : Nat} (hn : w.heap.size ≤ n₀) (hb : Below n₀ w W) : ∀ {t : T} {p : Option Addr}, TreeAt w p t → Tn n₀ W p t
  | .nil, _, h => h
  | .node l r pc h, _, ⟨b, pl, pr, hp, hk, hl, hr⟩ => by
    have lt : b < w.heap.size := (Array.getElem?_eq_some_iff.1 hk).1
    exact ⟨b, pl, pr, hp, by omega, (hb.block b (by omega)).trans hk, Tn.of_tree hn hb hl, Tn.of_tree hn hb hr⟩
theorem Tn.below {n₀ : Nat} {A B : World} (h : Below n₀ A B) : ∀ {p : Option Addr} {t : T}, Tn n₀ A p t → Tn n₀ B p t
  | _, .nil, ht => ht
  | _, .node _ _ _ _, ⟨b, pl, pr, hp, hb, hk, hl, hr⟩ => ⟨b, pl, pr, hp, hb, (h.block b hb).trans hk, Tn.below h hl, Tn.below h hr⟩
def T.Good : T → Prop
  | .nil => True
  | .node l r p _ => l.Good ∧ r.Good ∧ p.Good

theorem room_of_none {F : Fence} (hd : F.depth = none) (k : Nat) : F.room k := fun d h => by rw [hd] at h; cases h
theorem roundIn_anyDepth {F : Fence} (hd : F.depth = none) {m m' : Nat} {P : Program} {l : Nat} {f : FuncId} {tmps : Array Value} {assign body : Code} {w : World} {R : Ending → World → Prop}
    (h : RoundIn F m P l f tmps assign body w R) : RoundIn F m' P l f tmps assign body w R := ⟨h.1, fun c cs _ => h.2 c cs (room_of_none hd _)⟩
theorem yieldAt_anyDepth {F : Fence} (hd : F.depth = none) {m : Nat} (m' : Nat) {P : Program} {l : Nat} {args : Array Value} {W : World} {R : Ending → World → Prop} (h : YieldAt F m P l args W R) : YieldAt F m' P l args W R := by
  obtain ⟨fn, tmps, assign, body, hy, hR⟩ := h
  exact ⟨fn, tmps, assign, body, hy, roundIn_anyDepth hd hR⟩
end Go.Proofs.Ytnnbdjfeagcbdaa
