/- The fills of one price, dealt out over all bids. -/
import Derived.Test.YtjhelinbjlahiaaJZe0
namespace Go.Proofs.Ytjhelinbjlahiaa
set_option linter.unusedSimpArgs false
set_option linter.unusedVariables false
open Go.RowKit
theorem dealt_zero (p : Nat → Bool) (q : Nat → Int) (hq : ∀ k, 0 ≤ q k) (rule : Int) {t : Int} (ht : 0 ≤ t) (n : Nat) (hS : 0 < sumI (qN p q n)) {k : Nat} (hk : k < n) : (dealt rule t (wN p q n)).getD k 0 = if p k then (dealt rule t (qN p q n)).getD (posN p k) 0 else 0 := by
  unfold dealt
  by_cases h : rule = 2
  · rw [if_pos h, if_pos h]; exact share_zero p q n hS hk
  · rw [if_neg h, if_neg h]; exact (time_zero p q hq ht n).2 k hk
/-- The bids of one side and price that take part. -/
def atP (l : List Bd) (sd x P : Int) (k : Nat) : Bool := part sd x (bAt l k) && decide ((bAt l k).p = P)
def qK (l : List Bd) (k : Nat) : Int := (bAt l k).q
/-- The reference's weights at a price. -/
def wP (l : List Bd) (sd x P : Int) : List Int := wN (atP l sd x P) (qK l) l.length
theorem grp_gN (l : List Bd) (sd x P : Int) : grp l sd x P = (gN (atP l sd x P) l.length).map fun (k : Nat) => (k : Int) := by
  unfold grp ids idsTo gN
  rw [List.filter_filter, List.filter_map]
  congr 1
  refine List.filter_congr fun k _ => ?_
  simp only [Function.comp, atP, pI]
  rw [Bool.and_comm]
  first | rfl | simp
theorem qs_gN (l : List Bd) (sd x P : Int) : qs l (grp l sd x P) = qN (atP l sd x P) (qK l) l.length := by
  unfold qs qN
  rw [grp_gN, List.map_map]; rfl
theorem idx_gN (l : List Bd) (sd x P : Int) {k : Nat} (hk : k < l.length) (hp : atP l sd x P k = true) : (grp l sd x P).idxOf (k : Int) = posN (atP l sd x P) k := by
  have h := gN_get (atP l sd x P) hp l.length hk
  have h2 : (grp l sd x P)[posN (atP l sd x P) k]? = some (k : Int) := by rw [grp_gN, List.getElem?_map, h]; rfl
  obtain ⟨hj, e⟩ := List.getElem?_eq_some_iff.1 h2
  have := List.Nodup.idxOf_getElem (grp_nodup l sd x P) _ hj
  rw [e] at this; exact this
section
variable {l : List Bd} (hok : ∀ b ∈ l, b.ok) {sd x v rule P : Int}
include hok
theorem qK_nonneg (k : Nat) : 0 ≤ qK l k := by
  unfold qK
  by_cases h : k < l.length
  · rw [bAt_get h]; have := hok _ (List.getElem_mem h); obtain ⟨_, _, _, q, _⟩ := this; omega
  · have : bAt l (k : Nat) = bdZ := by unfold bAt; simp [Nat.le_of_not_lt h]
    rw [this]; exact Int.le_refl _
/-- What a bid of the price gets is its part of the weights' deal; the others get nothing of it. -/
theorem fill_zero {k : Nat} (hk : k < l.length) (hS : 0 < sumI (qs l (grp l sd x P))) : (dealt rule (gotG l sd x v P) (wP l sd x P)).getD k 0 = if atP l sd x P k then fillF l sd x v rule k else 0 := by
  have hg := got_bound hok (sd := sd) (x := x) (v := v) P
  have := dealt_zero (atP l sd x P) (qK l) (qK_nonneg hok) rule hg.1 l.length (by rw [← qs_gN]; exact hS) hk
  unfold wP
  rw [this]
  by_cases h : atP l sd x P k = true
  · rw [if_pos h, if_pos h]
    have hp : pI l k = P := by
      unfold atP at h
      simp at h
      exact h.2
    unfold fillF
    rw [hp, idx_gN l sd x P hk h, ← qs_gN]
  · rw [if_neg h, if_neg h]
/-- Where there is enough for all of the price, everybody of it is served in full. -/
theorem dealt_full {k : Nat} (hk : k < l.length) (h : sumI (qs l (grp l sd x P)) ≤ v - sumI (qs l (fore l sd x P))) (ha : atP l sd x P k = true) : fillF l sd x v rule k = qK l k := by
  have hm : (k : Int) ∈ grp l sd x P := by
    rw [grp_gN]
    exact List.mem_map.2 ⟨k, List.mem_filter.2 ⟨List.mem_range.2 hk, ha⟩, rfl⟩
  have e := grp_sum hok (sd := sd) (x := x) (v := v) (rule := rule) P
  have hg := got_bound hok (sd := sd) (x := x) (v := v) P
  have : gotG l sd x v P = sumI (qs l (grp l sd x P)) := by unfold gotG at hg ⊢; omega
  rw [this] at e
  exact sum_eq_all (grp l sd x P) (fun j hj => (fill_bound hok (List.mem_filter.1 hj).1).2) e k hm
end
end Go.Proofs.Ytjhelinbjlahiaa
