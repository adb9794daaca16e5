/- Pieces as lists; equality of cells, run. -/
import Derived.Test.YtnnbdjfeagcbdaaTree4
namespace Go.Proofs.Ytnnbdjfeagcbdaa
set_option linter.unusedSimpArgs false
set_option linter.unusedVariables false
open Go.RowKit

/-- A piece behind all others; pieces that meet in the same state become one. -/
def appP : List Pc → Pc → List Pc
  | [], p => [p]
  | q :: qs, p => match qs with
    | [] => if q.cell = p.cell ∧ q.to + 1 = p.from_ then [⟨q.from_, p.to, q.cell⟩] else [q, p]
    | q' :: qs' => q :: appP (q' :: qs') p
theorem appP_one (q p : Pc) : appP [q] p = if q.cell = p.cell ∧ q.to + 1 = p.from_ then [⟨q.from_, p.to, q.cell⟩] else [q, p] := by simp [appP]
theorem appP_cons (q : Pc) (qs : List Pc) (p : Pc) (h : qs ≠ []) : appP (q :: qs) p = q :: appP qs p := by
  cases qs with
  | nil => exact absurd rfl h
  | cons a b => simp [appP]
theorem appP_append (xs ys : List Pc) (p : Pc) (h : ys ≠ []) : appP (xs ++ ys) p = xs ++ appP ys p := by
  induction xs with
  | nil => rfl
  | cons a xs ih => rw [List.cons_append, appP_cons _ _ _ (by simp [h]), ih]; rfl
theorem appP_length (xs : List Pc) (p : Pc) : (appP xs p).length ≤ xs.length + 1 := by
  induction xs with
  | nil => simp [appP]
  | cons a xs ih =>
    cases xs with
    | nil => rw [appP_one]; split <;> simp
    | cons b c => rw [appP_cons _ _ _ (by simp)]; simp at ih ⊢; exact ih
theorem appP_ne (xs : List Pc) (p : Pc) : appP xs p ≠ [] := by
  cases xs with
  | nil => simp [appP]
  | cons a xs =>
    cases xs with
    | nil => rw [appP_one]; split <;> simp
    | cons b c => rw [appP_cons _ _ _ (by simp)]; simp

theorem T.toList_ne {t : T} (h : t ≠ .nil) : t.toList ≠ [] := by
  cases t with
  | nil => exact absurd rfl h
  | node l r p h => simp [T.toList]

theorem run_eqCell (x y : Cl) (w : World) : (Op.equalIn 10000 116 x.val y.val).run Try.prog w = .ok (decide (x = y)) w := by
  obtain ⟨a, b, c, d⟩ := x
  obtain ⟨a', b', c', d'⟩ := y
  by_cases h1 : a = a' <;> by_cases h2 : b = b' <;> by_cases h3 : c = c' <;> by_cases h4 : d = d' <;> simp [go_sem, h1, h2, h3, h4]
end Go.Proofs.Ytnnbdjfeagcbdaa
