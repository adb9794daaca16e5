/- Drawing a sample: what is drawn; the closure at. -/
import Derived.Maps.Own
import Derived.Maps.OwnOps
import Derived.Maps.OwnSet
import Derived.StillTailTactics
import Derived.Test.YtepldjidkomclaaGreatJARow
import Derived.Test.YtepldjidkomclaaGreatJAOpen
namespace Go.Proofs.YtepldjidkomclaaGreat.St
set_option linter.unusedSimpArgs false
set_option linter.unusedVariables false
open Go.RowKit
attribute [local go_sem] Oper.semAt_some
def upd (f : Nat → Nat) (k v : Nat) : Nat → Nat := fun i => if i = k then v else f i
inductive SmpR (seed n : Nat) : Nat → Nat → (Nat → Nat) → List Nat → Prop
  | zero : SmpR seed n 0 seed id []
  | step (i x : Nat) (f : Nat → Nat) (out : List Nat) (y j : Nat) (h : SmpR seed n i x f out) (hb : BelR (n - i) x y j) : SmpR seed n (i + 1) y (upd f (i + j) (f i)) (out ++ [f (i + j)])
theorem SmpR.same {seed n i x : Nat} {f : Nat → Nat} {out : List Nat} (h : SmpR seed n i x f out) : ∀ {x' : Nat} {f' : Nat → Nat} {out' : List Nat}, SmpR seed n i x' f' out' → x = x' ∧ f = f' ∧ out = out' := by
  induction h with
  | zero => intro x' f' out' h'; cases h'; exact ⟨rfl, rfl, rfl⟩
  | step i x f out y j h hb ih =>
    intro x' f' out' h'
    cases h' with
    | step _ x2 f2 out2 y2 j2 h2 hb2 =>
      obtain ⟨rfl, rfl, rfl⟩ := ih h2
      obtain ⟨rfl, rfl⟩ := hb.same hb2
      exact ⟨rfl, rfl, rfl⟩
theorem SmpR.length {seed n i x : Nat} {f : Nat → Nat} {out : List Nat} (h : SmpR seed n i x f out) : out.length = i := by
  induction h with
  | zero => rfl
  | step i x f out y j h hb ih => simp [ih]
theorem SmpR.lt {seed n i x : Nat} {f : Nat → Nat} {out : List Nat} (h : SmpR seed n i x f out) (hs : seed < 18446744073709551616) (hi : i ≤ n) : x < 18446744073709551616 := by
  cases h with
  | zero => exact hs
  | step i x f out y j h hb => exact (hb.lt (by omega)).1
theorem SmpR.first {seed n i x : Nat} {f : Nat → Nat} {out : List Nat} (h : SmpR seed n i x f out) : ∀ k, k ≤ i → ∃ x' f', SmpR seed n k x' f' (out.take k) := by
  induction h with
  | zero => intro k hk; have : k = 0 := by omega
            subst this; exact ⟨_, _, .zero⟩
  | step i x f out y j h hb ih =>
    intro k hk
    have hl := h.length
    by_cases hki : k ≤ i
    · rw [List.take_append_of_le_length (by omega)]
      exact ih k hki
    · have : k = i + 1 := by omega
      subst this
      rw [List.take_of_length_le (by simp [hl])]
      exact ⟨_, _, .step i x f out y j h hb⟩
def MapF (D : DataW Unit) (f : Nat → Nat) : Prop := Maps.IsMap D ∧ ∀ i : Nat, i ≤ 4000000 → f i ≤ 4000000 ∧
  (Maps.has D (.int .i64 (i : Int)) = true → D.atKey (.int .i64 (i : Int)) (.lit (.int .i64 0)) = .lit (.int .i64 (f i : Int))) ∧ (Maps.has D (.int .i64 (i : Int)) = false → f i = i)
theorem MapF.nil : MapF (.map []) id := ⟨Maps.isMap_empty, fun i hi => ⟨hi, fun h => by simp [Maps.has] at h, fun _ => rfl⟩⟩
theorem MapF.put {D : DataW Unit} {f : Nat → Nat} (h : MapF D f) (k v : Nat) (hk : k ≤ 4000000) (hv : v ≤ 4000000) : MapF (D.put (.int .i64 (k : Int)) (.lit (.int .i64 (v : Int)))) (upd f k v) := by
  refine ⟨h.1.put _ _, fun i hi => ?_⟩
  obtain ⟨h1, h2, h3⟩ := h.2 i hi
  by_cases e : i = k
  · subst e
    simp only [upd, if_pos]
    have hk : WideAt.IsKeyLit (.int .i64 (i : Int)) := trivial
    exact ⟨hv, fun _ => Maps.atKey_put_same h.1 hk _ _, fun hh => by rw [Maps.has_put_same h.1 hk] at hh; cases hh⟩
  · have ne : (Lit.int .i64 (i : Int)) ≠ .int .i64 (k : Int) := fun hh => e (by injection hh with _ hh; omega)
    simp only [upd, if_neg e]
    rw [Maps.has_put_other ne, Maps.atKey_put_other ne]
    exact ⟨h1, h2, h3⟩
end Go.Proofs.YtepldjidkomclaaGreat.St
