/- CallSplits: rows of numbers with room; what the shares are. -/
import Derived.Test.YtjhelinbjlahiaaJSh0
import Derived.Test.YtjhelinbjlahiaaJLg0
namespace Go.Proofs.Ytjhelinbjlahiaa
set_option linter.unusedSimpArgs false
set_option linter.unusedVariables false
open Go.RowKit
/-- A block whose first n cells are the numbers of a function. -/
def RowK (w : World) (g cap n : Nat) (f : Nat → Int) : Prop := ∃ cs, Cells w g cs 2 ∧ cs.size = cap ∧ n ≤ cap ∧ cap ≤ maxLen ∧ ∀ i, i < n → cs[i]? = some (Value.int .i64 (f i))
theorem RowK.cell {w : World} {g cap n : Nat} {f : Nat → Int} (h : RowK w g cap n f) {i : Nat} (hi : i < n) : w.cell? ⟨g, i, none⟩ = some (.int .i64 (f i)) := by
  obtain ⟨cs, hc, _, _, _, hz⟩ := h
  rw [hc.cell]; exact hz i hi
theorem RowK.froz {w : World} {g cap n : Nat} {f : Nat → Int} (h : RowK w g cap n f) (i : Nat) : w.frozen? ⟨g, i, none⟩ = false := by
  obtain ⟨cs, hc, _⟩ := h
  exact hc.frozen i
theorem RowK.lt {w : World} {g cap n : Nat} {f : Nat → Int} (h : RowK w g cap n f) : g < w.heap.size := by
  obtain ⟨cs, hc, _⟩ := h
  exact hc.lt
theorem RowK.kept {X : Nat → Prop} {w w' : World} {g cap n : Nat} {f : Nat → Int} (h : RowK w g cap n f) (hk : Kept X w w') (hx : ¬ X g) : RowK w' g cap n f := by
  obtain ⟨cs, hc, hz⟩ := h
  exact ⟨cs, hc.kept hk hx, hz⟩
theorem RowK.set {w : World} {g cap n : Nat} {f : Nat → Int} (h : RowK w g cap n f) (i : Nat) (v : Int) : RowK (w.setCell ⟨g, i, none⟩ (.int .i64 v)) g cap n (fun k => if k = i then v else f k) := by
  obtain ⟨cs, hc, hs, h2, h3, hz⟩ := h
  refine ⟨_, hc.set i _, by simp [hs], h2, h3, fun k hk => ?_⟩
  have hlt := (Array.getElem?_eq_some_iff.1 (hz k hk)).1
  by_cases e : k = i
  · subst e
    simp only [if_true]
    rw [Array.getElem?_setIfInBounds_self_of_lt hlt]
  · simp only [if_neg e]
    rw [Array.getElem?_setIfInBounds_ne (fun h => e h.symm)]
    exact hz k hk
theorem RowK.less {w : World} {g cap n m : Nat} {f : Nat → Int} (h : RowK w g cap n f) (hm : m ≤ n) : RowK w g cap m f := by
  obtain ⟨cs, hc, hs, h2, h3, hz⟩ := h
  exact ⟨cs, hc, hs, Nat.le_trans hm h2, h3, fun i hi => hz i (by omega)⟩
theorem RowK.own {w : World} {g cap n : Nat} {f : Nat → Int} (h : RowK w g cap n f) {l : List Int} (hl : l.length = n) (he : ∀ (k : Nat) (hk : k < l.length), f k = l[k]) {B : Nat} (hB : B ≤ g) : RowI B w (.slice (some ⟨g, 0, none⟩) n cap) l := by
  obtain ⟨cs, hc, hs, h2, h3, hz⟩ := h
  subst hl
  refine ⟨by rw [flatI]; simp, .inr ⟨g, cap, cs, rfl, hB, hc, h2, h3, by omega, ?_⟩⟩
  rw [flatI, Nat.mul_one]
  apply List.ext_getElem?
  intro j
  rw [List.getElem?_take, Array.getElem?_toList]
  by_cases hj : j < l.length
  · rw [if_pos hj, hz j hj, he j hj]; simp [hj]
  · rw [if_neg hj]; simp [show l.length ≤ j by omega]
theorem RowK.of {B : Nat} {w : World} {g n cap : Nat} {l : List Int} (h : RowI B w (.slice (some ⟨g, 0, none⟩) n cap) l) : RowK w g cap l.length (fun k => l.getD k 0) ∧ B ≤ g := by
  obtain ⟨hn, hg, hB, hcell⟩ := OwnE.cellsAt encI_len h
  rcases h.2 with ⟨h1, h2⟩ | ⟨g', cap', cur, hv, hb, hgc, h3, h4, h5, h6⟩
  · cases h1
  · cases hv
    refine ⟨⟨cur, hgc, by omega, by omega, h4, fun k hk => ?_⟩, hB⟩
    have := hcell k hk 0 (by omega)
    rw [(show Cells w g cur 2 from hgc).cell] at this
    rw [show k = k * 1 + 0 by omega, this]
    simp [encI, hk]
theorem own_cap {B : Nat} {w : World} {p : Option Addr} {n cap : Nat} {l : List Int} (h : RowI B w (.slice p n cap) l) : n ≤ cap ∧ n = l.length ∧ ((p = none ∧ n = 0 ∧ cap = 0) ∨ ∃ g, p = some ⟨g, 0, none⟩ ∧ B ≤ g ∧ RowK w g cap n (fun k => l.getD k 0)) := by
  rcases h.2 with ⟨h1, h2⟩ | ⟨g, cap', cur, hv, hb, _⟩
  · injection h1 with e1 e2 e3
    exact ⟨by omega, by omega, .inl ⟨e1, e2, e3⟩⟩
  · injection hv with e1 e2 e3
    subst e1
    have hr := RowK.of h
    obtain ⟨cs, _, _, h4, _⟩ := hr.1
    rw [e2]
    exact ⟨h4, rfl, .inr ⟨g, rfl, hb, hr.1⟩⟩
/-- What Split's shares are. -/
theorem splF_facts (t : Int) (l : List Int) : ((splF t l).2 = 0 → sumI (splF t l).1 = t ∧ t ≤ 5000000000000 ∧ 0 ≤ t) ∧ ((splF t l).1.length ≤ l.length) ∧ (∀ (k : Nat) (h1 : k < (splF t l).1.length) (h2 : k < l.length), 0 ≤ (splF t l).1[k] ∧ (splF t l).1[k] ≤ l[k] ∧ l[k] ≤ 1000000000) ∧ ((splF t l).2 = 0 ∨ (splF t l).1 = []) := by
  by_cases hb : 4096 < l.length
  · have e : splF t l = ([], 2) := by unfold splF; rw [if_pos hb]
    rw [e]; simp
  · by_cases hok : wOk l
    · by_cases ht : 0 ≤ t ∧ t ≤ sumI l
      · have e : splF t l = (splitL t l, 0) := by unfold splF; rw [if_neg hb, if_pos hok, if_pos ht]
        have hsb := sumI_bound (l := l) hok
        rw [e]
        refine ⟨fun _ => ⟨?_, by omega, ht.1⟩, Nat.le_of_eq (splitL_len _ _), fun k h1 h2 => ?_, .inl rfl⟩
        · by_cases hS : sumI l = 0
          · simp only [splitL_zero hS]
            have : ∀ n, sumI (List.replicate n (0 : Int)) = 0 := fun n => by
              induction n with
              | zero => rfl
              | succ n ih => rw [List.replicate_succ]; simp only [sumI, ih]; omega
            rw [this]; omega
          · exact splitL_sum (by omega)
        · have hx := hok _ (List.getElem_mem h2)
          show 0 ≤ (splitL t l)[k] ∧ (splitL t l)[k] ≤ l[k] ∧ _
          rw [splitL_get]
          by_cases hS : sumI l = 0
          · unfold shareF; rw [if_pos hS]; omega
          · have := share_le ht (fun x hx => (hok x hx).1) (by omega) h2
            have e2 : l.getD k 0 = l[k] := by simp [h2]
            rw [e2] at this
            omega
      · have e : splF t l = ([], 1) := by unfold splF; rw [if_neg hb, if_pos hok, if_neg ht]
        rw [e]; simp
    · have e : splF t l = ([], 1) := by unfold splF; rw [if_neg hb, if_neg hok]
      rw [e]; simp
end Go.Proofs.Ytjhelinbjlahiaa
