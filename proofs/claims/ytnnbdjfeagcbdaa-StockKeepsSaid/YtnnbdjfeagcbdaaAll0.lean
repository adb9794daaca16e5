/- Pieces in an own row of memory: flattened; a store into it. No program in sight. -/
import Derived.Test.YtnnbdjfeagcbdaaNew
namespace Go.Proofs.Ytnnbdjfeagcbdaa
set_option linter.unusedSimpArgs false
set_option linter.unusedVariables false
open Go.RowKit Go.Shelf

theorem ownsRow_put {w : World} {base : Nat} {e : TypeId} {size g n cap : Nat} {xs : List Value} (h : w.ownsRow base e size (.slice (some ⟨g, 0, none⟩) n cap) n xs) (i : Nat) (hi : i < n * size) (u : Value) :
    (w.setCell ⟨g, i, none⟩ u).ownsRow base e size (.slice (some ⟨g, 0, none⟩) n cap) n (xs.set i u) := by
  refine ⟨by rw [List.length_set]; exact h.1, ?_⟩
  rcases h.2 with ⟨h1, _⟩ | ⟨g', c, cur, h1, h2, h3, h4, h5, h6, h7⟩
  · cases h1
  · have hg : g' = g := by injection h1 with a _ _; injection a with a; injection a with a _; exact a.symm
    have hcap : c = cap := by injection h1 with _ _ a; exact a.symm
    subst hg
    subst hcap
    refine .inr ⟨g', c, cur.setIfInBounds i u, rfl, h2, Cells.set (show Cells w g' cur e from h3) i u, h4, h5, by simpa using h6, ?_⟩
    rw [Array.toList_setIfInBounds, List.take_set, h7]
def flatP (l : List Pc) : List Value := l.flatMap fun p => p.vals.toList
theorem flatP_length (l : List Pc) : (flatP l).length = l.length * 6 := by
  induction l with
  | nil => rfl
  | cons p l ih => simp only [flatP, List.flatMap_cons, List.length_append, List.length_cons] at ih ⊢; rw [ih]; simp; omega
theorem flatP_append (l m : List Pc) : flatP (l ++ m) = flatP l ++ flatP m := by simp [flatP]
def allP (is : Cl → Bool) (l : List Pc) : List Pc := l.foldl (fun acc p => if is p.cell then appP acc p else acc) []
theorem allP_snoc (is : Cl → Bool) (l : List Pc) (p : Pc) : allP is (l ++ [p]) = if is p.cell then appP (allP is l) p else allP is l := by simp [allP]
theorem appP_last (l : List Pc) (q p : Pc) : appP (l ++ [q]) p = if q.cell = p.cell ∧ q.to + 1 = p.from_ then l ++ [⟨q.from_, p.to, q.cell⟩] else l ++ [q, p] := by
  induction l with
  | nil => simp only [List.nil_append]; rw [appP_one]
  | cons a l ih => rw [List.cons_append, appP_cons _ _ _ (by simp), ih]; split <;> simp
end Go.Proofs.Ytnnbdjfeagcbdaa
