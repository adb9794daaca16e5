/- The state of the reference's ClearAt within a side, plain. -/
import Derived.Test.YtjhelinbjlahiaaJZe1
import Derived.Test.YtjhelinbjlahiaaJDu0
namespace Go.Proofs.Ytjhelinbjlahiaa
set_option linter.unusedSimpArgs false
set_option linter.unusedVariables false
open Go.RowKit
theorem sum_filt_le {g : Int → Int} {p r : Int → Bool} : ∀ (m : List Int), (∀ i ∈ m, 0 ≤ g i) → (∀ i ∈ m, p i = true → r i = true) → sumI ((m.filter p).map g) ≤ sumI ((m.filter r).map g)
  | [], _, _ => Int.le_refl _
  | i :: m, h1, h2 => by
    have ih := sum_filt_le m (fun j hj => h1 j (List.mem_cons_of_mem _ hj)) (fun j hj => h2 j (List.mem_cons_of_mem _ hj))
    have a := h1 i List.mem_cons_self
    have b := h2 i List.mem_cons_self
    rw [List.filter_cons, List.filter_cons]
    cases hp : p i <;> cases hr : r i
    · simpa using ih
    · simp [sumI]; omega
    · rw [b hp] at hr; cases hr
    · simp [sumI]; omega
def stF (l : List Bd) (x v rule sd : Int) (T : Option Int) (h0 : Nat → Int) (k : Nat) : Int := if (part sd x (bAt l k) && srv sd T (pI l k)) = true then fillF l sd x v rule k else h0 k
def lftF (l : List Bd) (x v sd : Int) (T : Option Int) : Int := max 0 (v - sumI (qs l (lev l sd x T)))
theorem stF_none (l : List Bd) (x v rule sd : Int) (h0 : Nat → Int) (k : Nat) : stF l x v rule sd none h0 k = h0 k := by unfold stF srv; simp
theorem lftF_none (l : List Bd) {x v sd : Int} (hv : 0 ≤ v) : lftF l x v sd none = v := by
  have : lev l sd x none = [] := List.filter_eq_nil_iff.2 fun i _ => by simp [srv]
  unfold lftF
  rw [this]; simp [qs, sumI]; omega
theorem ids_mem {l : List Bd} {sd x : Int} {k : Nat} (hk : k < l.length) (h : part sd x (bAt l k) = true) : (k : Int) ∈ ids l sd x := by
  unfold ids
  rw [mem_idsTo]
  exact ⟨by omega, by omega, h⟩
section
variable {l : List Bd} (hok : ∀ b ∈ l, b.ok) {sd x v rule : Int} {T : Option Int}
include hok
theorem qI_nonneg : ∀ i ∈ ids l sd x, 0 ≤ qI l i := fun i hi => (qs_nonneg hok [i] (qI l i) (by simp [qs])).1
/-- Whoever is served, while something is left, is served in full. -/
theorem srv_full {k : Nat} (hk : k < l.length) (hp : part sd x (bAt l k) = true) (hs : srv sd T (pI l k) = true) (hl : 0 < lftF l x v sd T) : fillF l sd x v rule k = (bAt l k).q := by
  have e : fillF l sd x v rule k = qI l k := by
    refine fill_whole hok (ids_mem hk hp) ?_
    have h1 := filt_split (qI l) (r := fun i => decide (bet sd (pI l i) (pI l k)) || decide (pI l i = pI l k)) (p := fun i => decide (bet sd (pI l i) (pI l k))) (q := fun i => decide (pI l i = pI l k)) (ids l sd x) (fun i _ => rfl) (fun i _ q => by
      have q1 : bet sd (pI l i) (pI l k) := by simpa using q.1
      have q2 : pI l i = pI l k := by simpa using q.2
      rw [q2] at q1
      unfold bet at q1; split at q1 <;> omega)
    have h2 := sum_filt_le (g := qI l) (p := fun i => decide (bet sd (pI l i) (pI l k)) || decide (pI l i = pI l k)) (r := fun i => srv sd T (pI l i)) (ids l sd x) (qI_nonneg hok) (fun i _ q => by
      cases T with
      | none => simp [srv] at hs
      | some t =>
        have s1 : ¬ bet sd t (pI l k) := by simpa [srv] using hs
        have q' : bet sd (pI l i) (pI l k) ∨ pI l i = pI l k := by simpa using q
        have : ¬ bet sd t (pI l i) := fun b => s1 (by
          rcases q' with q' | q'
          · unfold bet at *; split at * <;> simp_all <;> omega
          · rw [← q']; exact b)
        simp [srv, this])
    unfold lftF at hl
    unfold qs lev at hl
    unfold qs fore grp
    omega
  exact e
omit hok in
theorem next_of (hv : v ≤ sumI (qs l (ids l sd x))) (hl : 0 < lftF l x v sd T) : ∃ P, NextP l sd x T P := by
  by_cases hex : ∃ i ∈ ids l sd x, srv sd T (pI l i) = false
  · obtain ⟨P, p1, p2, p3⟩ := next_ex (ids l sd x) (fun i hi => hi) hex
    exact ⟨P, p1, p2, p3⟩
  · exfalso
    have : lev l sd x T = ids l sd x := List.filter_eq_self.2 fun i hi => by
      cases h : srv sd T (pI l i) with
      | true => rfl
      | false => exact absurd ⟨i, hi, h⟩ hex
    unfold lftF at hl
    rw [this] at hl
    omega
theorem left_step {P : Int} (h : NextP l sd x T P) (hl : 0 < lftF l x v sd T) : gotG l sd x v P = min (lftF l x v sd T) (sumI (qs l (grp l sd x P))) ∧ lftF l x v sd (some P) = lftF l x v sd T - min (lftF l x v sd T) (sumI (qs l (grp l sd x P))) ∧ 0 < sumI (qs l (grp l sd x P)) := by
  have h2 : sumI (qs l (lev l sd x (some P))) = sumI (qs l (lev l sd x T)) + sumI (qs l (grp l sd x P)) := h.sum (qI l)
  have h4 : 0 < sumI (qs l (grp l sd x P)) := by
    obtain ⟨i, hi, e⟩ := h.ex
    have hm : i ∈ grp l sd x P := List.mem_filter.2 ⟨hi, by simp [e]⟩
    have hz : ∀ m : List Int, sumI (m.map fun _ => (0 : Int)) = 0 := fun m => by
      induction m with
      | nil => rfl
      | cons a m ih => simp only [List.map_cons, sumI, ih]; omega
    have hn := sumI_nonneg (l := qs l (grp l sd x P)) fun y hy => (qs_nonneg hok _ y hy).1
    by_cases c : sumI (qs l (grp l sd x P)) = 0
    · have z := sum_eq_all (f := fun _ => 0) (g := qI l) (grp l sd x P) (fun j hj => qI_nonneg hok j (List.mem_filter.1 hj).1) (by rw [hz]; exact c.symm) i hm
      have hi' := hi
      unfold ids at hi'
      rw [mem_idsTo] at hi'
      obtain ⟨a1, a2, _⟩ := hi'
      obtain ⟨k, rfl⟩ : ∃ k : Nat, i = (k : Int) := ⟨i.toNat, by omega⟩
      have hk : k < l.length := by omega
      have q := (hok _ (List.getElem_mem hk)).2.2.2.1
      unfold qI at z
      rw [bAt_get hk] at z
      omega
    · omega
  refine ⟨?_, ?_, h4⟩
  · unfold gotG lftF at *
    rw [h.fore]
    omega
  · unfold lftF at *
    rw [h2]
    omega
/-- The candidates are the unserved ones. -/
theorem stF_pos {h0 : Nat → Int} {k : Nat} (hk : k < l.length) (hp : part sd x (bAt l k) = true) (hz : h0 k = 0) (hl : 0 < lftF l x v sd T) : 0 < stF l x v rule sd T h0 k ↔ srv sd T (pI l k) = true := by
  unfold stF
  cases hs : srv sd T (pI l k) with
  | true =>
    rw [if_pos (by simp [hp]), srv_full hok hk hp hs hl, bAt_get hk]
    have := (hok _ (List.getElem_mem hk)).2.2.2.1
    simp; omega
  | false => simp [hz]
/-- One price is served. -/
theorem stF_step {P : Int} (h : NextP l sd x T P) (hl : 0 < lftF l x v sd T) {h0 : Nat → Int} {k : Nat} (hk : k < l.length) (hz : part sd x (bAt l k) = true → h0 k = 0) :
    stF l x v rule sd (some P) h0 k = stF l x v rule sd T h0 k + (dealt rule (gotG l sd x v P) (wP l sd x P)).getD k 0 := by
  rw [fill_zero hok hk (left_step hok h hl).2.2]
  unfold stF
  by_cases hp : part sd x (bAt l k) = true
  · obtain ⟨s1, s2⟩ := h.split (ids_mem hk hp)
    have e : atP l sd x P k = decide (pI l k = P) := by unfold atP; rw [hp]; rfl
    rw [s1, e, hp, hz hp]
    by_cases a : srv sd T (pI l k) = true
    · have b : ¬ pI l k = P := fun b => s2 ⟨a, b⟩
      simp [a, b]
    · by_cases b : pI l k = P
      · simp [a, b]
        have a' : srv sd T P = false := by rw [← b]; simpa using a
        simp [a']
      · simp [a, b]
  · have e : atP l sd x P k = false := by unfold atP; simp [hp]
    simp [hp, e]
/-- All is dealt out. -/
theorem stF_end (hl : lftF l x v sd T ≤ 0) {h0 : Nat → Int} {k : Nat} (hk : k < l.length) (hz : part sd x (bAt l k) = true → h0 k = 0) : stF l x v rule sd T h0 k = servedF l sd x v rule h0 k := by
  unfold stF servedF
  by_cases hp : part sd x (bAt l k) = true
  · cases hs : srv sd T (pI l k) with
    | true => simp [hp]
    | false =>
      simp [hp, hz hp]
      symm
      refine fill_naught hok (ids_mem hk hp) ?_
      have h2 := sum_filt_le (g := qI l) (p := fun i => srv sd T (pI l i)) (r := fun i => decide (bet sd (pI l i) (pI l k))) (ids l sd x) (qI_nonneg hok) (fun i _ q => by
        cases T with
        | none => simp [srv] at q
        | some t =>
          have q1 : ¬ bet sd t (pI l i) := by simpa [srv] using q
          have q2 : bet sd t (pI l k) := by simpa [srv] using hs
          have : bet sd (pI l i) (pI l k) := bet.soon q1 q2
          simpa using this)
      unfold lftF qs lev at hl
      unfold qs fore
      omega
  · simp [hp]
end
end Go.Proofs.Ytjhelinbjlahiaa
