/- A register with all its versions; make. -/
import Derived.Test.YtnnbdjfeagcbdaaFn2
namespace Go.Proofs.Ytnnbdjfeagcbdaa
set_option linter.unusedSimpArgs false
set_option linter.unusedVariables false
open Go.RowKit Go.Shelf
attribute [local go_sem] Oper.semAt_some
attribute [local go_sem ↓] Go.wp_at_zero Go.wp_at_succ

/-- What a change of a register leaves: all blocks but its own two. -/
structure Turned (sB vB : Nat) (w w' : World) : Prop where
  os : w'.os = w.os
  tape : w'.tape = w.tape
  output : w'.output = w.output
  size : w.heap.size ≤ w'.heap.size
  block : ∀ k, k < w.heap.size → k ≠ sB → k ≠ vB → w'.heap[k]? = w.heap[k]?
theorem Turned.of_below {sB vB : Nat} {w w' : World} (h : Below w.heap.size w w') : Turned sB vB w w' := ⟨h.os, h.tape, h.output, h.size, fun k hk _ _ => h.block k hk⟩

/-- The register at block sB with its versions in block vB. -/
structure StAt (w : World) (sB vB : Nat) (vs : List T) : Prop where
  full : vs ≠ []
  at_ : ∃ (cap : Nat) (ps : List (Option Addr)), Cells w sB #[.slice (some ⟨vB, 0, none⟩) vs.length cap] 121 ∧
    w.ownsRow 0 111 1 (.slice (some ⟨vB, 0, none⟩) vs.length cap) vs.length (ps.map Value.pointer) ∧ (∀ k, k < vs.length → TreeAt w (ps[k]?.getD none) (vs[k]?.getD .nil))
theorem ownsRow_block {w : World} {e : TypeId} {vB n cap : Nat} {xs : List Value} (h : w.ownsRow 0 e 1 (.slice (some ⟨vB, 0, none⟩) n cap) n xs) : ∃ cur, Cells w vB cur e := by
  rcases h.2 with ⟨h, _⟩ | ⟨g, c, cur, h, _, hc, _⟩
  · cases h
  · injection h with h1 h2 h3
    injection h1 with h1
    injection h1 with h1 h4
    subst h1
    exact ⟨cur, hc⟩
theorem ownsRow_keep {w w' : World} {e : TypeId} {vB n cap : Nat} {xs : List Value} (h : w.ownsRow 0 e 1 (.slice (some ⟨vB, 0, none⟩) n cap) n xs) (hb : w'.heap[vB]? = w.heap[vB]?) : w'.ownsRow 0 e 1 (.slice (some ⟨vB, 0, none⟩) n cap) n xs := by
  refine ⟨h.1, h.2.imp id ?_⟩
  rintro ⟨g, c, cur, h1, h2, h3, h4⟩
  refine ⟨g, c, cur, h1, h2, ?_, h4⟩
  have : g = vB := by injection h1 with h1; injection h1 with h1; injection h1 with h1; exact h1.symm
  subst this
  exact hb.trans h3
theorem StAt.lt {w : World} {sB vB : Nat} {vs : List T} (h : StAt w sB vB vs) : sB < w.heap.size ∧ vB < w.heap.size := by
  obtain ⟨cap, ps, hc, ho, _⟩ := h.at_
  obtain ⟨cur, hv⟩ := ownsRow_block ho
  exact ⟨hc.lt, hv.lt⟩
/-- A register abides what leaves its own blocks and the trees. -/
theorem StAt.keep {w w' : World} {sB vB : Nat} {vs : List T} (h : StAt w sB vB vs) (hs : w'.heap[sB]? = w.heap[sB]?) (hv : w'.heap[vB]? = w.heap[vB]?)
    (hk : ∀ (b : Nat) (cs : Array Value), w.heap[b]? = some (Obj.cells cs 158) → w'.heap[b]? = w.heap[b]?) : StAt w' sB vB vs := by
  obtain ⟨cap, ps, hc, ho, ht⟩ := h.at_
  exact ⟨h.full, cap, ps, hs.trans hc, ownsRow_keep ho hv, fun k hk' => (ht k hk').keepT hk⟩
theorem StAt.below {w w' : World} {sB vB : Nat} {vs : List T} (h : StAt w sB vB vs) (hb : Below w.heap.size w w') : StAt w' sB vB vs :=
  h.keep (hb.block _ h.lt.1) (hb.block _ h.lt.2) fun b cs hh => hb.block b (Array.getElem?_eq_some_iff.1 hh).1
theorem cells_type {w : World} {b : Nat} {cs cs' : Array Value} {t t' : TypeId} (h : Cells w b cs t) (h' : w.heap[b]? = some (Obj.cells cs' t')) : t = t' := by
  have := (show w.heap[b]? = _ from h).symm.trans h'
  simp at this
  exact this.2
/-- Another register abides the change of one. -/
theorem StAt.turned {w w' : World} {sB vB rB uB : Nat} {vs us : List T} (h : StAt w sB vB vs) (o : StAt w rB uB us) (ht : Turned rB uB w w') (h1 : sB ≠ rB) (h2 : vB ≠ uB) : StAt w' sB vB vs := by
  obtain ⟨cap, ps, hc, ho, _⟩ := h.at_
  obtain ⟨cap', ps', hc', ho', _⟩ := o.at_
  obtain ⟨cur, hv⟩ := ownsRow_block ho
  obtain ⟨cur', hv'⟩ := ownsRow_block ho'
  refine h.keep (ht.block _ hc.lt h1 ?_) (ht.block _ hv.lt ?_ h2) fun b cs hh => ht.block b (Array.getElem?_eq_some_iff.1 hh).1 ?_ ?_
  · rintro rfl; exact absurd (cells_type hc hv') (by decide)
  · rintro rfl; exact absurd (cells_type hv hc') (by decide)
  · rintro rfl; exact absurd (cells_type hc' hh) (by decide)
  · rintro rfl; exact absurd (cells_type hv' hh) (by decide)
theorem StAt.now {w : World} {sB vB : Nat} {vs : List T} (h : StAt w sB vB vs) (hn : vs.length ≤ 1000000) : NowAt w sB (vs.getLast h.full) := by
  obtain ⟨cap, ps, hc, ho, ht⟩ := h.at_
  have hpos : 0 < vs.length := List.length_pos_iff.2 h.full
  have hl : ps.length = vs.length := by have := ho.1; simpa using this
  refine ⟨vB, vs.length - 1, cap, ps[vs.length - 1]?.getD none, ?_, by omega, ?_, ?_⟩
  · rw [show vs.length - 1 + 1 = vs.length by omega]; exact hc
  · have hx := ho.cells (g := vB) rfl (vs.length - 1) (.pointer (ps[vs.length - 1]?.getD none)) (by
      rw [List.getElem?_map, List.getElem?_eq_getElem (by omega)]; rfl)
    have ha : (⟨vB, 0, none⟩ : Addr).add (vs.length - 1) = ⟨vB, vs.length - 1, none⟩ := by unfold Addr.add; split <;> simp_all
    rw [ha] at hx
    exact hx
  · have := ht (vs.length - 1) (by omega)
    rw [List.getElem?_eq_getElem (l := vs) (by omega)] at this
    rw [List.getLast_eq_getElem]
    exact this
end Go.Proofs.Ytnnbdjfeagcbdaa
