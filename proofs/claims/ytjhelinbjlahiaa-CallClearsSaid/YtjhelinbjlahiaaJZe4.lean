/- The best price that is not served: the loop's state, plain. -/
import Derived.Test.YtjhelinbjlahiaaJZe2
namespace Go.Proofs.Ytjhelinbjlahiaa
set_option linter.unusedSimpArgs false
set_option linter.unusedVariables false
open Go.RowKit
/-- A bid is a candidate. -/
def candB (l : List Bd) (sd x : Int) (T : Option Int) (k : Nat) : Bool := part sd x (bAt l k) && !srv sd T (pI l k)
def BstQ (l : List Bd) (sd x : Int) (T : Option Int) (b : Int) (i : Nat) : Prop := (b = 0 ∧ ∀ k : Nat, k < i → candB l sd x T k = false) ∨ ∃ kb : Nat, kb < i ∧ b = pI l kb ∧ candB l sd x T kb = true ∧ ∀ k : Nat, k < i → candB l sd x T k = true → ¬ bet sd (pI l k) b
theorem BstQ.skip {l : List Bd} {sd x : Int} {T : Option Int} {b : Int} {i : Nat} (h : BstQ l sd x T b i) (hi : candB l sd x T i = false) : BstQ l sd x T b (i + 1) := by
  rcases h with ⟨h1, h2⟩ | ⟨kb, h1, h2, h3, h4⟩
  · refine .inl ⟨h1, fun k hk => ?_⟩
    by_cases e : k = i
    · subst e; exact hi
    · exact h2 k (by omega)
  · refine .inr ⟨kb, by omega, h2, h3, fun k hk hc => ?_⟩
    by_cases e : k = i
    · subst e; rw [hi] at hc; cases hc
    · exact h4 k (by omega) hc
theorem BstQ.next {l : List Bd} (hok : ∀ b ∈ l, b.ok) {sd x : Int} {T : Option Int} {b : Int} {i : Nat} (hil : i < l.length) (h : BstQ l sd x T b i) (hi : candB l sd x T i = true) : BstQ l sd x T (if b = 0 ∨ bet sd (pI l i) b then pI l i else b) (i + 1) := by
  have hp : 1 ≤ pI l i := by unfold pI; rw [bAt_get hil]; exact (hok _ (List.getElem_mem hil)).2.1
  rcases h with ⟨h1, h2⟩ | ⟨kb, h1, h2, h3, h4⟩
  · rw [if_pos (.inl h1)]
    refine .inr ⟨i, by omega, rfl, hi, fun k hk hc => ?_⟩
    by_cases e : k = i
    · subst e; exact bet.irr
    · rw [h2 k (by omega)] at hc; cases hc
  · by_cases c : b = 0 ∨ bet sd (pI l i) b
    · rw [if_pos c]
      refine .inr ⟨i, by omega, rfl, hi, fun k hk hc => ?_⟩
      by_cases e : k = i
      · subst e; exact bet.irr
      · have q := h4 k (by omega) hc
        have hb : 1 ≤ b := by
          have hkl : kb < l.length := by omega
          rw [h2]; unfold pI; rw [bAt_get hkl]; exact (hok _ (List.getElem_mem hkl)).2.1
        rcases c with c | c
        · omega
        · intro g
          apply q
          by_cases s1 : sd = 1
          · simp only [bet, if_pos s1] at c g ⊢; omega
          · simp only [bet, if_neg s1] at c g ⊢; omega
    · rw [if_neg c]
      refine .inr ⟨kb, by omega, h2, h3, fun k hk hc => ?_⟩
      by_cases e : k = i
      · subst e; exact fun g => c (.inr g)
      · exact h4 k (by omega) hc
theorem BstQ.last {l : List Bd} {sd x : Int} {T : Option Int} {b : Int} (h : BstQ l sd x T b l.length) (hex : ∃ P, NextP l sd x T P) : NextP l sd x T b := by
  have cand : ∀ i ∈ ids l sd x, srv sd T (pI l i) = false → ∃ k : Nat, k < l.length ∧ i = (k : Int) ∧ candB l sd x T k = true := fun i hi hs => by
    have hi' := hi
    unfold ids at hi'
    rw [mem_idsTo] at hi'
    obtain ⟨a1, a2, a3⟩ := hi'
    obtain ⟨k, rfl⟩ : ∃ k : Nat, i = (k : Int) := ⟨i.toNat, by omega⟩
    exact ⟨k, by omega, rfl, by unfold candB; rw [a3, hs]; rfl⟩
  rcases h with ⟨h1, h2⟩ | ⟨kb, h1, h2, h3, h4⟩
  · obtain ⟨P, hN⟩ := hex
    obtain ⟨i, hi, e⟩ := hN.ex
    obtain ⟨k, hk, _, hc⟩ := cand i hi (by rw [e]; exact hN.uns)
    rw [h2 k hk] at hc; cases hc
  · unfold candB at h3
    rw [Bool.and_eq_true] at h3
    refine ⟨⟨kb, ids_mem h1 h3.1, h2.symm⟩, by rw [h2]; simpa using h3.2, fun i hi hs => ?_⟩
    obtain ⟨k, hk, rfl, hc⟩ := cand i hi hs
    exact h4 k hk hc
end Go.Proofs.Ytjhelinbjlahiaa
