/- CallOrders, plain: bids in another order; equal bids. -/
import Derived.Test.YtjhelinbjlahiaaJFl0
namespace Go.Proofs.Ytjhelinbjlahiaa
set_option linter.unusedSimpArgs false
set_option linter.unusedVariables false
open Go.RowKit
theorem demsup_bound' {l : List Bd} (hl : l.length ≤ 4096) (hok : ∀ b ∈ l, b.ok) (x : Int) : (0 ≤ dem l x ∧ dem l x ≤ 5000000000000) ∧ 0 ≤ sup l x ∧ sup l x ≤ 5000000000000 := by
  have h1 := sumQ_bound (buyT x) hok
  have h2 := sumQ_bound (selT x) hok
  unfold dem sup; omega
theorem sumQ_reverse (f : Bd → Bool) (l : List Bd) : sumQ f l.reverse = sumQ f l := by
  induction l with
  | nil => rfl
  | cons b l ih => rw [List.reverse_cons, sumQ_snoc, ih]; simp only [sumQ]; omega
theorem dem_reverse (l : List Bd) (x : Int) : dem l.reverse x = dem l x := sumQ_reverse _ l
theorem sup_reverse (l : List Bd) (x : Int) : sup l.reverse x = sup l x := sumQ_reverse _ l
theorem starts_reverse (l : List Bd) : starts l.reverse = starts l := by
  obtain ⟨a1, a2⟩ := starts_spec l.reverse
  obtain ⟨b1, b2⟩ := starts_spec l
  refine inc_unique a1 b1 fun x => ?_
  rw [a2, b2]
  simp
theorem zones_reverse (l : List Bd) : zonesL l.reverse = zonesL l := by
  unfold zonesL
  rw [starts_reverse]
  unfold zTo
  congr 1
  funext i
  unfold zAt
  rw [dem_reverse, sup_reverse]
/-- What Clear answers to valid bids. -/
theorem clearF_eq {l : List Bd} (h1 : l.length ≤ 4096) (h2 : ∀ b ∈ l, b.ok) {x rule : Int} (hx : 1 ≤ x ∧ x ≤ 1000000) (hr : rule = 1 ∨ rule = 2) :
    clearF l x rule = if priceZ (zonesL l) x = 0 ∨ min (dem l (priceZ (zonesL l) x)) (sup l (priceZ (zonesL l) x)) = 0 then ⟨0, 0, 0, [], 30⟩ else ⟨priceZ (zonesL l) x, min (dem l (priceZ (zonesL l) x)) (sup l (priceZ (zonesL l) x)), dem l (priceZ (zonesL l) x) - sup l (priceZ (zonesL l) x), fillsL l (priceZ (zonesL l) x) (min (dem l (priceZ (zonesL l) x)) (sup l (priceZ (zonesL l) x))) rule, 0⟩ := by
  have e : clearF l x rule = if priceZ (zonesL l) x = 0 then ⟨0, 0, 0, [], 30⟩ else clrF l (priceZ (zonesL l) x) rule := by
    unfold clearF
    rw [if_neg (by rw [chk_ok h1 h2]; decide), if_pos ⟨by rw [inC_of]; simpa using hx, hr⟩]
  rw [e]
  by_cases hp : priceZ (zonesL l) x = 0
  · rw [if_pos hp, if_pos (.inl hp)]
  · rw [if_neg hp]
    unfold clrF
    by_cases hv : min (dem l (priceZ (zonesL l) x)) (sup l (priceZ (zonesL l) x)) = 0
    · rw [if_pos hv, if_pos (.inr hv)]
    · rw [if_neg hv, if_neg (fun q => by rcases q with q | q; exact hp q; exact hv q)]
theorem idxOf_mono {m : List Int} (h : m.Pairwise (· < ·)) {i j : Int} (hi : i ∈ m) (hj : j ∈ m) (hij : i < j) : m.idxOf i < m.idxOf j := by
  have h1 := List.idxOf_lt_length_iff.2 hi
  have h2 := List.idxOf_lt_length_iff.2 hj
  rcases Nat.lt_trichotomy (m.idxOf i) (m.idxOf j) with q | q | q
  · exact q
  · exfalso
    have e1 : m[m.idxOf i] = i := List.getElem_idxOf h1
    have e2 : m[m.idxOf j] = j := List.getElem_idxOf h2
    have e3 : m[m.idxOf i] = m[m.idxOf j] := by congr 1
    omega
  · exfalso
    have := List.pairwise_iff_getElem.1 h _ _ h2 h1 q
    have e1 : m[m.idxOf i] = i := List.getElem_idxOf h1
    have e2 : m[m.idxOf j] = j := List.getElem_idxOf h2
    omega
theorem share_step {t : Int} {W : List Int} {i k : Nat} (hki : k < i) (hi : i < W.length) (hw : W.getD i 0 = W.getD k 0) : shareF t W i = shareF t W k ∨ shareF t W i = shareF t W k - 1 := by
  unfold shareF
  by_cases hS : sumI W = 0
  · rw [if_pos hS, if_pos hS]; exact .inl rfl
  · rw [if_neg hS, if_neg hS, hw]
    have hb : rankR (fun j => t * W.getD j 0 % sumI W) W.length k < rankR (fun j => t * W.getD j 0 % sumI W) W.length i := bef_lt (by omega) (.inr ⟨by simp only [hw], hki⟩)
    by_cases q : (rankR (fun j => t * W.getD j 0 % sumI W) W.length i : Int) < t - sumI (W.map fun x => t * x / sumI W)
    · rw [if_pos q, if_pos (by omega)]; exact .inl rfl
    · rw [if_neg q]
      split
      · exact .inr (by omega)
      · exact .inl rfl
theorem fillF_step {l : List Bd} {sd x v : Int} {i k : Int} (hk : k ∈ ids l sd x) (hi : i ∈ ids l sd x) (hki : k < i) (he : bAt l i = bAt l k) : fillF l sd x v 2 i = fillF l sd x v 2 k ∨ fillF l sd x v 2 i = fillF l sd x v 2 k - 1 := by
  have hp : pI l i = pI l k := by unfold pI; rw [he]
  have hq : qI l i = qI l k := by unfold qI; rw [he]
  unfold fillF
  rw [hp]
  have mk : k ∈ grp l sd x (pI l k) := List.mem_filter.2 ⟨hk, by simp⟩
  have mi : i ∈ grp l sd x (pI l k) := List.mem_filter.2 ⟨hi, by simp [hp]⟩
  have h1 := List.idxOf_lt_length_iff.2 mk
  have h2 := List.idxOf_lt_length_iff.2 mi
  have hm := idxOf_mono ((ids_inc l sd x _).sublist List.filter_sublist) mk mi hki
  have gs : ∀ j, j < (grp l sd x (pI l k)).length → (dealt 2 (gotG l sd x v (pI l k)) (qs l (grp l sd x (pI l k)))).getD j 0 = shareF (gotG l sd x v (pI l k)) (qs l (grp l sd x (pI l k))) j := fun j hj => by
    have : dealt 2 (gotG l sd x v (pI l k)) (qs l (grp l sd x (pI l k))) = splitL (gotG l sd x v (pI l k)) (qs l (grp l sd x (pI l k))) := by unfold dealt; rw [if_pos rfl]
    rw [this]
    have hj2 : j < (splitL (gotG l sd x v (pI l k)) (qs l (grp l sd x (pI l k)))).length := by rw [splitL_len, qs_len]; exact hj
    have e : (splitL (gotG l sd x v (pI l k)) (qs l (grp l sd x (pI l k)))).getD j 0 = (splitL (gotG l sd x v (pI l k)) (qs l (grp l sd x (pI l k))))[j] := by simp [hj2]
    rw [e, splitL_get]
  rw [gs _ h1, gs _ h2]
  refine share_step hm (by rw [qs_len]; exact h2) ?_
  have w : ∀ j (hj : j < (grp l sd x (pI l k)).length), (qs l (grp l sd x (pI l k))).getD j 0 = qI l (grp l sd x (pI l k))[j] := fun j hj => by simp [qs, hj]
  rw [w _ h1, w _ h2, List.getElem_idxOf h1, List.getElem_idxOf h2, hq]
/-- Of two equal bids the later one gets as much, or 1 less. -/
theorem fillOf_step {l : List Bd} (hok : ∀ b ∈ l, b.ok) {x v : Int} {i k : Nat} (hi : i < l.length) (hki : k < i) (he : l[i] = l[k]) : fillOf l x v 2 i = fillOf l x v 2 k ∨ fillOf l x v 2 i = fillOf l x v 2 k - 1 := by
  have hk : k < l.length := by omega
  obtain ⟨i1, i2⟩ := fillOf_cases (x := x) (v := v) (rule := 2) hi
  obtain ⟨k1, k2⟩ := fillOf_cases (x := x) (v := v) (rule := 2) hk
  have hb : bAt l (i : Int) = bAt l (k : Int) := by rw [bAt_get hi, bAt_get hk, he]
  rw [he] at i1 i2
  rcases (hok _ (List.getElem_mem hk)).1 with hs | hs
  · by_cases q : x ≤ l[k].p
    · obtain ⟨e1, m1⟩ := (i1 hs).1 q
      obtain ⟨e2, m2⟩ := (k1 hs).1 q
      rw [e1, e2]
      exact fillF_step m2 m1 (by omega) hb
    · rw [(i1 hs).2 q, (k1 hs).2 q]; exact .inl rfl
  · by_cases q : l[k].p ≤ x
    · obtain ⟨e1, m1⟩ := (i2 hs).1 q
      obtain ⟨e2, m2⟩ := (k2 hs).1 q
      rw [e1, e2]
      exact fillF_step m2 m1 (by omega) hb
    · rw [(i2 hs).2 q, (k2 hs).2 q]; exact .inl rfl
end Go.Proofs.Ytjhelinbjlahiaa
