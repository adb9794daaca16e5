/- The greatest volume, plain: over all prices. -/
import Derived.Test.YtjhelinbjlahiaaJOr0
namespace Go.Proofs.Ytjhelinbjlahiaa
set_option linter.unusedSimpArgs false
set_option linter.unusedVariables false
open Go.RowKit
/-- What is traded at a price. -/
def volX (l : List Bd) (x : Int) : Int := min (dem l x) (sup l x)
/-- Within a zone neither the demand nor the supply changes. -/
theorem zone_const {l : List Bd} {i : Nat} {x : Int} (h1 : loF l i ≤ x) (h2 : x ≤ hiF (loF l i) l 1000000) : dem l x = dem l (loF l i) ∧ sup l x = sup l (loF l i) := by
  have hn := (hiF_spec (loF l i) l 1000000).2.2
  constructor
  · unfold dem
    refine sumQ_congr fun b hb => ?_
    unfold buyT
    rw [decide_eq_decide]
    by_cases hs : b.s = 1
    · have hc : cut b = b.p + 1 := by unfold cut; rw [if_pos hs]
      have := hn b hb
      rw [hc] at this
      refine ⟨fun ⟨_, q⟩ => ⟨hs, by omega⟩, fun ⟨_, q⟩ => ⟨hs, ?_⟩⟩
      have := this (by omega)
      omega
    · simp [hs]
  · unfold sup
    refine sumQ_congr fun b hb => ?_
    unfold selT
    rw [decide_eq_decide]
    by_cases hs : b.s = 1
    · simp [hs]
    · have hc : cut b = b.p := by unfold cut; rw [if_neg hs]
      have := hn b hb
      rw [hc] at this
      refine ⟨fun ⟨_, q⟩ => ⟨hs, ?_⟩, fun ⟨_, q⟩ => ⟨hs, by omega⟩⟩
      refine Classical.byContradiction fun h => ?_
      have := this (by omega)
      omega
section
variable {l : List Bd} (hok : ∀ b ∈ l, b.ok)
include hok
theorem zTo_mem : ∀ n, n ≤ (starts l).length → ∀ z ∈ zTo l (starts l) n, ∃ i, i < n ∧ loF l i ≤ 1000000 ∧ z = ⟨loF l i, hiF (loF l i) l 1000000, dem l (loF l i), sup l (loF l i)⟩
  | 0, _, z, hz => by simp [zTo] at hz
  | n + 1, h, z, hz => by
    rw [zTo_succ] at hz
    rcases List.mem_append.1 hz with q | q
    · obtain ⟨i, h1, h2, h3⟩ := zTo_mem n (by omega) z q
      exact ⟨i, by omega, h2, h3⟩
    · by_cases h6 : loF l n ≤ 1000000
      · rw [(lo_next hok (show n < (starts l).length by omega) h6).2] at q
        exact ⟨n, by omega, h6, List.mem_singleton.1 q⟩
      · have : zAt l (starts l) n = [] := by
          unfold zAt
          rw [if_neg]
          unfold loF at h6
          rw [if_pos (by omega)] at h6
          exact h6
        rw [this] at q; simp at q
theorem zone_vol {z : Zn} (hz : z ∈ zonesL l) {x : Int} (h1 : z.f ≤ x) (h2 : x ≤ z.t) : dem l x = z.d ∧ sup l x = z.s ∧ volX l x = z.vol := by
  obtain ⟨i, hi, h6, rfl⟩ := zTo_mem hok _ (Nat.le_refl _) z hz
  obtain ⟨a, b⟩ := zone_const h1 h2
  refine ⟨a, b, ?_⟩
  unfold volX Zn.vol
  rw [a, b]
theorem zTo_cover : ∀ n, n ≤ (starts l).length → ∀ x, 1 ≤ x → x < loF l n → x ≤ 1000000 → ∃ z ∈ zTo l (starts l) n, z.f ≤ x ∧ x ≤ z.t
  | 0, _, x, h1, h2, _ => by rw [lo_zero hok] at h2; omega
  | n + 1, h, x, h1, h2, h3 => by
    rw [zTo_succ]
    by_cases q : x < loF l n
    · obtain ⟨z, hz, e⟩ := zTo_cover n (by omega) x h1 q h3
      exact ⟨z, List.mem_append_left _ hz, e⟩
    · have h6 : loF l n ≤ 1000000 := by omega
      obtain ⟨e1, e2⟩ := lo_next hok (show n < (starts l).length by omega) h6
      refine ⟨_, List.mem_append_right _ (by rw [e2]; exact List.mem_singleton.2 rfl), ?_, ?_⟩
      · show loF l n ≤ x
        omega
      show x ≤ hiF (loF l n) l 1000000
      omega
theorem zone_cover {x : Int} (h1 : 1 ≤ x) (h2 : x ≤ 1000000) : ∃ z ∈ zonesL l, z.f ≤ x ∧ x ≤ z.t := by
  refine zTo_cover hok _ (Nat.le_refl _) x h1 ?_ h2
  unfold loF
  rw [if_neg (by omega)]; omega
theorem vol_le_most {x : Int} (h1 : 1 ≤ x) (h2 : x ≤ 1000000) : volX l x ≤ most l := by
  obtain ⟨z, hz, e1, e2⟩ := zone_cover hok h1 h2
  rw [(zone_vol hok hz e1 e2).2.2]
  exact (mostV_spec (zonesL l) 0).2.1 z hz
theorem most_at (hl : l.length ≤ 4096) : ∃ x, 1 ≤ x ∧ x ≤ 1000000 ∧ volX l x = most l := by
  obtain ⟨b1, b2, b3⟩ := bestZ_vol hl hok
  have h0 : 0 < (bestZ l).length := List.length_pos_iff.2 b1
  have hm : (bestZ l)[0] ∈ bestZ l := List.getElem_mem h0
  generalize (bestZ l)[0] = z at hm
  have hz : z ∈ zonesL l := keptF_sub _ hm
  have hv : z.vol = most l := by
    rw [b3] at hm
    simpa using (List.mem_filter.1 hm).2
  obtain ⟨o1, o2, o3, _⟩ := (zonesL_ok hl hok).1 z hz
  exact ⟨z.f, o1, by omega, by rw [(zone_vol hok hz (Int.le_refl _) o2).2.2, hv]⟩
/-- The price is one with the greatest volume, and lies in a zone of the best. -/
theorem price_best (hl : l.length ≤ 4096) (ref : Int) (h : most l ≠ 0) : ∃ z ∈ fewL l, priceZ (zonesL l) ref = z.pk (leanF (fewL l)) ref ∧ z.f ≤ priceZ (zonesL l) ref ∧ priceZ (zonesL l) ref ≤ z.t ∧ volX l (priceZ (zonesL l) ref) = most l := by
  have h3 := Zi_ok hl hok ref 3
  obtain ⟨k1, _, k2⟩ := h3
  have h0 : 0 < (Zi ref (zonesL l) 3).length := List.length_pos_iff.2 k2
  have e : priceZ (zonesL l) ref = if ((Zi ref (zonesL l) 3).getD 0 zn0).vol = 0 then 0 else ((Zi ref (zonesL l) 3).getD 0 zn0).pk (leanF (fewL l)) ref := rfl
  have eg : (Zi ref (zonesL l) 3).getD 0 zn0 = (Zi ref (zonesL l) 3)[0] := by simp [h0]
  rw [eg] at e
  have hm : (Zi ref (zonesL l) 3)[0] ∈ Zi ref (zonesL l) 3 := List.getElem_mem h0
  have hzk := k1 _ hm
  generalize (Zi ref (zonesL l) 3)[0] = z at e hm hzk
  have hf : z ∈ fewL l := keptF_sub _ hm
  have hb : z ∈ bestZ l := keptF_sub _ hf
  have hz : z ∈ zonesL l := keptF_sub _ hb
  have hv : z.vol = most l := by
    have := hb
    rw [(bestZ_vol hl hok).2.2] at this
    simpa using (List.mem_filter.1 this).2
  rw [hv, if_neg h] at e
  obtain ⟨o1, o2, o3, _⟩ := hzk
  have hr : z.f ≤ z.pk (leanF (fewL l)) ref ∧ z.pk (leanF (fewL l)) ref ≤ z.t := by
    unfold Zn.pk
    split
    · omega
    · split <;> omega
  refine ⟨z, hf, e, by rw [e]; exact hr.1, by rw [e]; exact hr.2, ?_⟩
  rw [e, (zone_vol hok hz hr.1 hr.2).2.2, hv]
theorem price_zero (hl : l.length ≤ 4096) (ref : Int) (h : most l = 0) : priceZ (zonesL l) ref = 0 := by
  rw [← rprice_eq hl hok ref]
  unfold rpriceF
  rw [if_pos h]
end
theorem volX_more (l : List Bd) (b : Bd) (hq : 0 ≤ b.q) (x : Int) : volX l x ≤ volX (l ++ [b]) x := by
  unfold volX dem sup
  rw [sumQ_snoc, sumQ_snoc]
  split <;> split <;> omega
theorem most_more {l : List Bd} (hl : l.length ≤ 4095) (hok : ∀ b ∈ l, b.ok) {b : Bd} (hb : b.ok) : most l ≤ most (l ++ [b]) := by
  obtain ⟨x, h1, h2, h3⟩ := most_at hok (by omega)
  have hok2 : ∀ c ∈ l ++ [b], c.ok := fun c hc => by
    rcases List.mem_append.1 hc with q | q
    · exact hok c q
    · rw [List.mem_singleton.1 q]; exact hb
  have h4 := vol_le_most hok2 h1 h2
  have h5 := volX_more l b (by have := hb.2.2.2.1; omega) x
  omega
/-- A greater reference price never makes the nearest price less. -/
theorem near_mono {Z : List Zn} (hok : ∀ z ∈ Z, z.ok) (hr : Rising Z) (hne : 0 < Z.length) {a b : Int} (hab : a ≤ b) : nearP a Z 0 ≤ nearP b Z 0 := by
  obtain ⟨i, hi, _, e1, m1, f1⟩ := nearP_at (ref := a) hok Z.length hne (Nat.le_refl _)
  obtain ⟨j, hj, _, e2, m2, f2⟩ := nearP_at (ref := b) hok Z.length hne (Nat.le_refl _)
  rw [List.take_length] at e1 e2
  rw [e1, e2]
  have pk : ∀ (z : Zn) r, z.pk 0 r = min (max r z.f) z.t := fun z r => by unfold Zn.pk; rw [if_neg (by decide), if_neg (by decide)]
  have oi := hok _ (List.getElem_mem hi)
  have oj := hok _ (List.getElem_mem hj)
  obtain ⟨i1, i2, i3, _⟩ := oi
  obtain ⟨j1, j2, j3, _⟩ := oj
  have mj := m1 j hj hj
  have mi := m2 i hi hi
  unfold siz at mj mi
  rw [pk, pk] at mj mi
  rw [pk, pk]
  rcases Nat.lt_trichotomy i j with q | q | q
  · have := hr.lt q hj; omega
  · subst q; omega
  · have h1 := hr.lt q hi
    have h2 := f1 j hj q
    unfold siz at h2
    rw [pk, pk] at h2
    omega
theorem price_mono {l : List Bd} (hl : l.length ≤ 4096) (hok : ∀ b ∈ l, b.ok) {a b : Int} (hab : a ≤ b) : priceZ (zonesL l) a ≤ priceZ (zonesL l) b := by
  rw [← rprice_eq hl hok a, ← rprice_eq hl hok b]
  obtain ⟨b1, _, _⟩ := bestZ_vol hl hok
  have fne : fewL l ≠ [] := keptF_ne F2 b1
  have fok : ∀ z ∈ fewL l, z.ok := fun z hz => (zonesL_ok hl hok).1 z (keptF_sub _ (keptF_sub _ hz))
  have frise : Rising (fewL l) := ((zones_rising hok).filter _).filter _
  have := near_mono fok frise (List.length_pos_iff.2 fne) hab
  unfold rpriceF
  split
  · exact Int.le_refl _
  · split
    · exact Int.le_refl _
    · split
      · exact Int.le_refl _
      · exact this
theorem best_range {l : List Bd} (hl : l.length ≤ 4096) (hok : ∀ b ∈ l, b.ok) (ref : Int) (h : most l ≠ 0) : ((bestZ l).getD 0 zn0).f ≤ priceZ (zonesL l) ref ∧ priceZ (zonesL l) ref ≤ ((bestZ l).getD ((bestZ l).length - 1) zn0).t := by
  obtain ⟨z, hz, _, h1, h2, _⟩ := price_best hok hl ref h
  have hb : z ∈ bestZ l := keptF_sub _ hz
  have hr : Rising (bestZ l) := (zones_rising hok).filter _
  obtain ⟨i, hi, rfl⟩ := List.getElem_of_mem hb
  have h0 : 0 < (bestZ l).length := by omega
  have hl1 : (bestZ l).length - 1 < (bestZ l).length := by omega
  have e0 : (bestZ l).getD 0 zn0 = (bestZ l)[0] := by simp [h0]
  have e1 : (bestZ l).getD ((bestZ l).length - 1) zn0 = (bestZ l)[(bestZ l).length - 1] := by simp [hl1]
  rw [e0, e1]
  constructor
  · rcases Nat.eq_zero_or_pos i with q | q
    · subst q; exact h1
    · have := hr.lt q hi
      have := hr.2 _ (List.getElem_mem h0)
      omega
  · rcases Nat.lt_or_ge i ((bestZ l).length - 1) with q | q
    · have := (hr.lt q hl1).2; omega
    · have : i = (bestZ l).length - 1 := by omega
      subst this; exact h2
end Go.Proofs.Ytjhelinbjlahiaa
