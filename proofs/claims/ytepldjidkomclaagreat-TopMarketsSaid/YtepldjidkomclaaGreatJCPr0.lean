/- The price, plain: the reference's and the program's. The reference's Price: the walk. The reference's Fit and Gain. CallGains: the walk. CallCurves: the walk. CallPrices: the walk. Fills by places, plain. CallOrders, plain: bids in another order; equal bids. The greatest volume, plain: over all prices. The dual of the gain, plain: no balanced fills gain more than the dual at any price; those at the price of the auction gain as much as it at some price. -/
import Derived.Test.YtepldjidkomclaaGreatJCLh0
import Derived.Test.YtepldjidkomclaaGreatJCCc1
namespace Go.Proofs.YtepldjidkomclaaGreat.Ca
set_option linter.unusedSimpArgs false
set_option linter.unusedVariables false
open Go.RowKit
/-- The zones rise. -/
def Rising (Z : List Zn) : Prop := Z.Pairwise (fun a b => a.t < b.f) ∧ ∀ z ∈ Z, z.f ≤ z.t
theorem Rising.filter {Z : List Zn} (h : Rising Z) (p : Zn → Bool) : Rising (Z.filter p) := ⟨h.1.sublist List.filter_sublist, fun z hz => h.2 z (List.mem_filter.1 hz).1⟩
theorem Rising.lt {Z : List Zn} (h : Rising Z) {i j : Nat} (hij : i < j) (hj : j < Z.length) : Z[i].t < Z[j].f ∧ Z[i].t < Z[j].t := by
  have h1 := List.pairwise_iff_getElem.1 h.1 i j (by omega) hj hij
  have h2 := h.2 _ (List.getElem_mem hj)
  omega
theorem zTo_rising {l : List Bd} (hok : ∀ b ∈ l, b.ok) : ∀ i, i ≤ (starts l).length → Rising (zTo l (starts l) i) ∧ ∀ z ∈ zTo l (starts l) i, z.t + 1 ≤ loF l i
  | 0, _ => by simp [zTo, Rising]
  | i + 1, hi => by
    obtain ⟨⟨h1, h2⟩, h3⟩ := zTo_rising hok i (by omega)
    rw [zTo_succ]
    by_cases h6 : loF l i ≤ 1000000
    · obtain ⟨n1, n2⟩ := lo_next hok (show i < (starts l).length by omega) h6
      have hge : loF l i ≤ hiF (loF l i) l 1000000 := by
        rcases (hiF_spec (loF l i) l 1000000).1 with e | ⟨b, _, e1, e2⟩ <;> omega
      rw [n2]
      refine ⟨⟨List.pairwise_append.2 ⟨h1, List.pairwise_singleton _ _, fun a ha b hb => ?_⟩, fun z hz => ?_⟩, fun z hz => ?_⟩
      · rw [List.mem_singleton.1 hb]
        have := h3 a ha
        show a.t < loF l i
        omega
      · rcases List.mem_append.1 hz with q | q
        · exact h2 z q
        · rw [List.mem_singleton.1 q]; exact hge
      · rcases List.mem_append.1 hz with q | q
        · have := h3 z q; omega
        · rw [List.mem_singleton.1 q]
          show hiF (loF l i) l 1000000 + 1 ≤ _
          omega
    · have hz : zAt l (starts l) i = [] := by
        unfold zAt
        rw [if_neg]
        unfold loF at h6
        rw [if_pos (by omega)] at h6
        exact h6
      rw [hz, List.append_nil]
      refine ⟨⟨h1, h2⟩, fun z hz => ?_⟩
      have h7 := h3 z hz
      have h8 : loF l i ≤ loF l (i + 1) := by
        have hr := lo_range hok (i := i + 1)
        have hil : i < (starts l).length := by omega
        unfold loF
        rw [if_pos hil]
        have e : (starts l).getD i 0 = (starts l)[i] := by simp [hil]
        split
        · rename_i hn
          have e2 : (starts l).getD (i + 1) 0 = (starts l)[i + 1] := by simp [hn]
          rw [e, e2]
          exact Int.le_of_lt (List.pairwise_iff_getElem.1 (starts_spec l).1 i (i + 1) hil hn (by omega))
        · rw [e]
          exact (starts_range hok _ (List.getElem_mem hil)).2
      omega
theorem zones_rising {l : List Bd} (hok : ∀ b ∈ l, b.ok) : Rising (zonesL l) := (zTo_rising hok _ (Nat.le_refl _)).1
/-- The first of those for which a number is least. -/
theorem first_kept {F : Zn → Int} {Z : List Zn} {i : Nat} (hi : i < Z.length) (h1 : ∀ (j : Nat) (hj : j < Z.length), F Z[i] ≤ F Z[j]) (h2 : ∀ (j : Nat) (hj : j < i), F Z[i] < F (Z[j]'(by omega))) : (keptF F Z).getD 0 zn0 = Z[i] := by
  have hl : leastF F Z = F Z[i] := by
    obtain ⟨z, hz, e⟩ := leastF_mem F (Z := Z) (fun h => by rw [h] at hi; simp at hi)
    have g1 := leastF_le F (List.getElem_mem hi)
    obtain ⟨j, hj, rfl⟩ := List.getElem_of_mem hz
    have := h1 j hj
    omega
  unfold keptF
  rw [hl]
  have hs : Z = Z.take i ++ (Z[i] :: Z.drop (i + 1)) := by
    rw [List.getElem_cons_drop, List.take_append_drop]
  have hf : (Z.filter fun z => decide (F z = F Z[i])) = (Z.take i).filter (fun z => decide (F z = F Z[i])) ++ (Z[i] :: Z.drop (i + 1)).filter (fun z => decide (F z = F Z[i])) := by
    rw [← List.filter_append, ← hs]
  have h0 : (Z.take i).filter (fun z => decide (F z = F Z[i])) = [] := List.filter_eq_nil_iff.2 fun z hz => by
    obtain ⟨j, hj, rfl⟩ := List.getElem_of_mem hz
    rw [List.length_take] at hj
    rw [List.getElem_take]
    have := h2 j (by omega)
    simp; omega
  rw [hf, h0, List.nil_append, List.filter_cons]
  simp
/-- The nearest price, the first of them. -/
def nearP (ref : Int) : List Zn → Int → Int
  | [], p => p
  | z :: l, p => nearP ref l (if p = 0 ∨ siz (z.pk 0 ref - ref) < siz (p - ref) then z.pk 0 ref else p)
theorem nearP_snoc (ref : Int) (l : List Zn) (z : Zn) : ∀ p, nearP ref (l ++ [z]) p = if nearP ref l p = 0 ∨ siz (z.pk 0 ref - ref) < siz (nearP ref l p - ref) then z.pk 0 ref else nearP ref l p := by
  induction l with
  | nil => intro p; rfl
  | cons y l ih => intro p; exact ih _
theorem pk_pos {z : Zn} (hz : z.ok) (ref : Int) : 1 ≤ z.pk 0 ref ∧ z.pk 0 ref ≤ 1000000 := by
  obtain ⟨h1, h2, h3, _⟩ := hz
  have e : z.pk 0 ref = min (max ref z.f) z.t := by unfold Zn.pk; rw [if_neg (by decide), if_neg (by decide)]
  rw [e]; omega
theorem nearP_at {ref : Int} {Z : List Zn} (hok : ∀ z ∈ Z, z.ok) : ∀ n, 0 < n → n ≤ Z.length → ∃ (i : Nat) (hi : i < Z.length), i < n ∧ nearP ref (Z.take n) 0 = (Z[i]).pk 0 ref ∧ (∀ (j : Nat) (hj : j < Z.length), j < n → siz ((Z[i]).pk 0 ref - ref) ≤ siz ((Z[j]).pk 0 ref - ref)) ∧ ∀ (j : Nat) (hj : j < Z.length), j < i → siz ((Z[i]).pk 0 ref - ref) < siz ((Z[j]).pk 0 ref - ref)
  | 0, h, _ => absurd h (Nat.lt_irrefl 0)
  | 1, _, hn => by
    refine ⟨0, hn, Nat.one_pos, ?_, fun j hj h => ?_, fun j hj h => absurd h (Nat.not_lt_zero j)⟩
    · rw [take_snoc hn, nearP_snoc]
      simp [nearP]
    · have : j = 0 := by omega
      subst this; exact Int.le_refl _
  | n + 2, _, hn => by
    obtain ⟨i, hi, h1, h2, h3, h4⟩ := nearP_at (ref := ref) hok (n + 1) (by omega) (by omega)
    have hnl : n + 1 < Z.length := by omega
    rw [take_snoc hnl, nearP_snoc, h2]
    have hp := pk_pos (hok _ (List.getElem_mem hi)) ref
    by_cases q : siz ((Z[n + 1]).pk 0 ref - ref) < siz ((Z[i]).pk 0 ref - ref)
    · rw [if_pos (.inr q)]
      refine ⟨n + 1, hnl, by omega, rfl, fun j hj h => ?_, fun j hj h => ?_⟩
      · by_cases e : j = n + 1
        · subst e; exact Int.le_refl _
        · have := h3 j hj (by omega); omega
      · have := h3 j hj h; omega
    · rw [if_neg (fun h => by rcases h with h | h <;> omega)]
      refine ⟨i, hi, by omega, rfl, fun j hj h => ?_, h4⟩
      by_cases e : j = n + 1
      · subst e; omega
      · exact h3 j hj (by omega)
/-- What the reference's Price gives, out of the intervals of the greatest volume. -/
def fewL (l : List Bd) : List Zn := keptF F2 (bestZ l)
def rpriceF (l : List Bd) (ref : Int) : Int :=
  if most l = 0 then 0 else if allOver (fewL l) then ((fewL l).getD ((fewL l).length - 1) zn0).t else if allUnder (fewL l) then ((fewL l).getD 0 zn0).f else nearP ref (fewL l) 0
theorem rprice_eq {l : List Bd} (hl : l.length ≤ 4096) (hok : ∀ b ∈ l, b.ok) (ref : Int) : rpriceF l ref = priceZ (zonesL l) ref := by
  obtain ⟨b1, b2, b3⟩ := bestZ_vol hl hok
  have hzo := (zonesL_ok hl hok).1
  have fne : fewL l ≠ [] := keptF_ne F2 b1
  have fok : ∀ z ∈ fewL l, z.ok := fun z hz => hzo z (keptF_sub _ (keptF_sub _ hz))
  have fvol : ∀ z ∈ fewL l, z.vol = most l := fun z hz => by
    have := keptF_sub _ hz
    rw [b3] at this
    simpa using (List.mem_filter.1 this).2
  have frise : Rising (fewL l) := ((zones_rising hok).filter _).filter _
  have h0 : 0 < (fewL l).length := List.length_pos_iff.2 fne
  -- whatever is kept last
  have key : ∀ (F : Zn → Int) (i : Nat) (hi : i < (fewL l).length), (∀ (j : Nat) (hj : j < (fewL l).length), F (fewL l)[i] ≤ F (fewL l)[j]) → (∀ (j : Nat) (hj : j < i), F (fewL l)[i] < F ((fewL l)[j]'(by omega))) → (keptF F (fewL l)).getD 0 zn0 = (fewL l)[i] := fun F i hi h1 h2 => first_kept hi h1 h2
  have pz : ∀ i (hi : i < (fewL l).length), (keptF (F3 (leanF (fewL l)) ref) (fewL l)).getD 0 zn0 = (fewL l)[i] → priceZ (zonesL l) ref = if most l = 0 then 0 else ((fewL l)[i]).pk (leanF (fewL l)) ref := fun i hi e => by
    have hv := fvol _ (List.getElem_mem hi)
    show (if ((keptF (F3 (leanF (fewL l)) ref) (fewL l)).getD 0 zn0).vol = 0 then 0 else ((keptF (F3 (leanF (fewL l)) ref) (fewL l)).getD 0 zn0).pk (leanF (fewL l)) ref) = _
    rw [e, hv]
  unfold rpriceF
  by_cases ho : allOver (fewL l) = true
  · have hw : leanF (fewL l) = 1 := by unfold leanF; rw [if_pos ho]
    have hi : (fewL l).length - 1 < (fewL l).length := by omega
    have hk := key (F3 (leanF (fewL l)) ref) _ hi (fun j hj => by
      rw [hw]
      have e : ∀ z : Zn, F3 1 ref z = -z.t := fun z => by unfold F3; rw [if_neg (by decide)]; omega
      rw [e, e]
      by_cases q : j = (fewL l).length - 1
      · subst q; exact Int.le_refl _
      · have := (frise.lt (show j < (fewL l).length - 1 by omega) hi).2; omega) (fun j hj => by
      rw [hw]
      have e : ∀ z : Zn, F3 1 ref z = -z.t := fun z => by unfold F3; rw [if_neg (by decide)]; omega
      rw [e, e]
      have := (frise.lt hj hi).2; omega)
    rw [pz _ hi hk, if_pos ho, hw]
    congr 1
    have : (fewL l).getD ((fewL l).length - 1) zn0 = (fewL l)[(fewL l).length - 1] := by simp [hi]
    rw [this]; unfold Zn.pk; rw [if_pos rfl]
  · by_cases hu : allUnder (fewL l) = true
    · have hw : leanF (fewL l) = -1 := by unfold leanF; rw [if_neg ho, if_pos hu]
      have e : ∀ z : Zn, F3 (-1) ref z = z.t := fun z => by unfold F3; rw [if_neg (by decide)]; omega
      have hk := key (F3 (leanF (fewL l)) ref) 0 h0 (fun j hj => by
        rw [hw, e, e]
        by_cases q : j = 0
        · subst q; exact Int.le_refl _
        · have := (frise.lt (show 0 < j by omega) hj).2; omega) (fun j hj => absurd hj (Nat.not_lt_zero j))
      rw [pz _ h0 hk, if_neg ho, if_pos hu, hw]
      congr 1
      have : (fewL l).getD 0 zn0 = (fewL l)[0] := by simp [h0]
      rw [this]; unfold Zn.pk; rw [if_neg (by decide), if_pos rfl]
    · have hw : leanF (fewL l) = 0 := by unfold leanF; rw [if_neg ho, if_neg hu]
      have e : ∀ z : Zn, F3 0 ref z = siz (z.pk 0 ref - ref) := fun z => by unfold F3; rw [if_pos rfl]
      obtain ⟨i, hi, h1, h2, h3, h4⟩ := nearP_at (ref := ref) fok (fewL l).length h0 (Nat.le_refl _)
      rw [List.take_length] at h2
      have hk := key (F3 (leanF (fewL l)) ref) i hi (fun j hj => by rw [hw, e, e]; exact h3 j hj hj) (fun j hj => by rw [hw, e, e]; exact h4 j (by omega) hj)
      rw [pz _ hi hk, if_neg ho, if_neg hu, hw, h2]
end Go.Proofs.YtepldjidkomclaaGreat.Ca
namespace Go.Proofs.YtepldjidkomclaaGreat.Ca
set_option linter.unusedSimpArgs false
set_option linter.unusedVariables false
open Go.RowKit
attribute [local go_sem] Oper.semAt_some
attribute [local go_sem ↓] Go.wp_at_zero Go.wp_at_succ
theorem all_snoc (p : Zn → Bool) (l : List Zn) (z : Zn) : (l ++ [z]).all p = (l.all p && p z) := by simp
theorem F2_bound {z : Zn} (hz : z.ok) : 0 ≤ F2 z ∧ F2 z ≤ 5000000000000 := by
  have := hz.sur
  unfold F2 siz; omega
theorem minTo_take (F : Zn → Int) {Z : List Zn} {j : Nat} (hj : j < Z.length) (a : Int) : minTo F (Z.take (j + 1)) a = min (minTo F (Z.take j) a) (F Z[j]) := by rw [take_snoc hj, minTo_snoc]

end Go.Proofs.YtepldjidkomclaaGreat.Ca
namespace Go.Proofs.YtepldjidkomclaaGreat.Ca
set_option linter.unusedSimpArgs false
set_option linter.unusedVariables false
open Go.RowKit
attribute [local go_sem] Oper.semAt_some
attribute [local go_sem ↓] Go.wp_at_zero Go.wp_at_succ
/-- A fill for each bid, from 0 to its quantity. -/
def fits (l : List Bd) (f : List Int) : Prop := f.length = l.length ∧ fitF l f
instance (l : List Bd) (f : List Int) : Decidable (fits l f) := by unfold fits; infer_instance

end Go.Proofs.YtepldjidkomclaaGreat.Ca
namespace Go.Proofs.YtepldjidkomclaaGreat.Ca
set_option linter.unusedSimpArgs false
set_option linter.unusedVariables false
open Go.RowKit
attribute [local go_sem] Oper.semAt_some
attribute [local go_sem ↓] Go.wp_at_zero Go.wp_at_succ
theorem chk_ok {l : List Bd} (h1 : l.length ≤ 4096) (h2 : ∀ b ∈ l, b.ok) : chk l = 0 := by unfold chk; rw [if_neg (by omega), if_pos h2]
theorem gnF_ok {l : List Bd} (h1 : l.length ≤ 4096) (h2 : ∀ b ∈ l, b.ok) (f : List Int) : gnF l f = if fits l f then (gsum l f, 0) else (0, 1) := by
  unfold gnF fits; rw [if_neg (by rw [chk_ok h1 h2]; decide)]
theorem SrcX.below {α : Type} {enc : α → List Value} {sz : Nat} {w w' : World} {v : Value} {l : List α} (h : SrcX enc sz w v l) (hb : Below w.heap.size w w') : SrcX enc sz w' v l := by
  rcases h with q | ⟨a, c, q1, q2, q3⟩
  · exact .inl q
  · refine .inr ⟨a, c, q1, q2, fun j y hj => ?_⟩
    have := q3 j y hj
    have hlt := World.block_lt_of_cell? _ _ this
    rw [← this]
    exact hb.cell hlt
/-- append(nil, an argument's first elements). -/
theorem ints_take {w : World} {v : Value} {l : List Int} (hv : SrcX encI 1 w v l) {a : Addr} {n c : Nat} (e : v = .slice (some a) n c) {k : Nat} (hk : k ≤ n) (hk2 : k ≤ 5000) (B : Nat) (hB : B ≤ w.heap.size) :
    ∃ v' w', (Builtin.append_ #[26, 26] 26 #[.slice none 0 0, .slice (some a) k c]).run Tryz.prog w = .ok v' w' ∧ RowI B w' v' (l.take k) ∧ Below B w w' := by
  subst e
  have hu := hv.take encI_len hk
  have hl : (l.take k).length ≤ 5000 := by rw [List.length_take]; omega
  obtain ⟨v', w', r1, r2, r3⟩ := own_app (ty := 26) undI64 infoI64 rfl (by omega) encI_len encI_one (OwnE.nil B w) hB hu (by unfold maxLen; simp; omega) (by simp; omega)
  exact ⟨v', w', r1, by simpa using r2, r3.below hB (fun k hk => by cases hk)⟩

end Go.Proofs.YtepldjidkomclaaGreat.Ca
namespace Go.Proofs.YtepldjidkomclaaGreat.Ca
set_option linter.unusedSimpArgs false
set_option linter.unusedVariables false
open Go.RowKit
attribute [local go_sem] Oper.semAt_some
attribute [local go_sem ↓] Go.wp_at_zero Go.wp_at_succ
theorem own_empty {α : Type} {enc : α → List Value} {sz : Nat} {e : TypeId} {B : Nat} {w : World} {v : Value} (h : OwnE enc sz e B w v ([] : List α)) : ∃ p c, v = .slice p 0 c := by
  obtain ⟨p, c, h1, _⟩ := h.form
  exact ⟨p, c, h1⟩
theorem atF_ok {l : List Bd} (h1 : l.length ≤ 4096) (h2 : ∀ b ∈ l, b.ok) (x : Int) : atF l x = if 1 ≤ x ∧ x ≤ 1000000 then (dem l x, sup l x, 0) else (0, 0, 1) := by
  unfold atF
  rw [if_neg (by rw [chk_ok h1 h2]; decide), inC_of]
  by_cases h : 1 ≤ x ∧ x ≤ 1000000
  · rw [if_pos h, if_pos (by simpa using h)]
  · rw [if_neg h, if_neg (by simpa using h)]
theorem bsF_ok {l : List Bd} (h1 : l.length ≤ 4096) (h2 : ∀ b ∈ l, b.ok) : bsF l = if most l = 0 then (0, 0, 0, 30) else (((bestZ l).getD 0 zn0).f, ((bestZ l).getD ((bestZ l).length - 1) zn0).t, most l, 0) := by
  unfold bsF
  rw [if_neg (by rw [chk_ok h1 h2]; decide), (bestZ_vol h1 h2).2.1]

end Go.Proofs.YtepldjidkomclaaGreat.Ca
namespace Go.Proofs.YtepldjidkomclaaGreat.Ca
set_option linter.unusedSimpArgs false
set_option linter.unusedVariables false
open Go.RowKit
attribute [local go_sem] Oper.semAt_some
attribute [local go_sem ↓] Go.wp_at_zero Go.wp_at_succ
theorem price_range {l : List Bd} (hl : l.length ≤ 4096) (hok : ∀ b ∈ l, b.ok) (ref : Int) : priceZ (zonesL l) ref = 0 ∨ (1 ≤ priceZ (zonesL l) ref ∧ priceZ (zonesL l) ref ≤ 1000000) := by
  have h3 := (Zi_ok hl hok ref 3)
  obtain ⟨h1, _, h2⟩ := h3
  have e : priceZ (zonesL l) ref = if ((Zi ref (zonesL l) 3).getD 0 zn0).vol = 0 then 0 else ((Zi ref (zonesL l) 3).getD 0 zn0).pk (leanF (Zi ref (zonesL l) 2)) ref := rfl
  rw [e]
  have h0 : 0 < (Zi ref (zonesL l) 3).length := List.length_pos_iff.2 h2
  have eg : (Zi ref (zonesL l) 3).getD 0 zn0 = (Zi ref (zonesL l) 3)[0] := by simp [h0]
  rw [eg]
  have hz := h1 _ (List.getElem_mem h0)
  generalize (Zi ref (zonesL l) 3)[0] = z at hz
  split
  · exact .inl rfl
  · refine .inr ?_
    obtain ⟨a, b, c, _⟩ := hz
    unfold Zn.pk
    split
    · omega
    · split <;> omega
theorem prF_ok {l : List Bd} (h1 : l.length ≤ 4096) (h2 : ∀ b ∈ l, b.ok) (x : Int) : prF l x = if 1 ≤ x ∧ x ≤ 1000000 then (if priceZ (zonesL l) x = 0 then (0, 30) else (priceZ (zonesL l) x, 0)) else (0, 1) := by
  unfold prF
  rw [if_neg (by rw [chk_ok h1 h2]; decide), inC_of]
  by_cases h : 1 ≤ x ∧ x ≤ 1000000
  · rw [if_pos h, if_pos (by simpa using h)]
  · rw [if_neg h, if_neg (by simpa using h)]

end Go.Proofs.YtepldjidkomclaaGreat.Ca
namespace Go.Proofs.YtepldjidkomclaaGreat.Ca
set_option linter.unusedSimpArgs false
set_option linter.unusedVariables false
open Go.RowKit
theorem clearF_cases {l : List Bd} (h1 : l.length ≤ 4096) (h2 : ∀ b ∈ l, b.ok) {x rule : Int} (hx : 1 ≤ x ∧ x ≤ 1000000) (hr : rule = 1 ∨ rule = 2) :
    clearF l x rule = ⟨0, 0, 0, [], 30⟩ ∨ (priceZ (zonesL l) x ≠ 0 ∧ min (dem l (priceZ (zonesL l) x)) (sup l (priceZ (zonesL l) x)) ≠ 0 ∧ clearF l x rule = ⟨priceZ (zonesL l) x, min (dem l (priceZ (zonesL l) x)) (sup l (priceZ (zonesL l) x)), dem l (priceZ (zonesL l) x) - sup l (priceZ (zonesL l) x), fillsL l (priceZ (zonesL l) x) (min (dem l (priceZ (zonesL l) x)) (sup l (priceZ (zonesL l) x))) rule, 0⟩) := by
  have e : clearF l x rule = if priceZ (zonesL l) x = 0 then ⟨0, 0, 0, [], 30⟩ else clrF l (priceZ (zonesL l) x) rule := by
    unfold clearF
    rw [if_neg (by rw [chk_ok h1 h2]; decide), if_pos ⟨by rw [inC_of]; simpa using hx, hr⟩]
  rw [e]
  by_cases hp : priceZ (zonesL l) x = 0
  · rw [if_pos hp]; exact .inl rfl
  · rw [if_neg hp]
    unfold clrF
    by_cases hv : min (dem l (priceZ (zonesL l) x)) (sup l (priceZ (zonesL l) x)) = 0
    · rw [if_pos hv]; exact .inl rfl
    · rw [if_neg hv]; exact .inr ⟨hp, hv, rfl⟩
theorem fillOf_cases {l : List Bd} {x v rule : Int} {i : Nat} (hi : i < l.length) :
    (l[i].s = 1 → (x ≤ l[i].p → fillOf l x v rule i = fillF l 1 x v rule i ∧ (i : Int) ∈ ids l 1 x) ∧ (¬ x ≤ l[i].p → fillOf l x v rule i = 0)) ∧
    (l[i].s = 2 → (l[i].p ≤ x → fillOf l x v rule i = fillF l 2 x v rule i ∧ (i : Int) ∈ ids l 2 x) ∧ (¬ l[i].p ≤ x → fillOf l x v rule i = 0)) := by
  have hb := bAt_get hi
  have hm : ∀ sd, (i : Int) ∈ ids l sd x ↔ part sd x l[i] = true := fun sd => by
    unfold ids
    rw [mem_idsTo, hb]
    exact ⟨fun h => h.2.2, fun h => ⟨by omega, by omega, h⟩⟩
  unfold fillOf
  rw [hb, hm, hm]
  constructor
  · intro hs
    have e2 : part 2 x l[i] = false := by unfold part; simp [hs]
    have e1 : part 1 x l[i] = decide (x ≤ l[i].p) := by unfold part Bd.takes; simp [hs]
    rw [e2, e1]
    exact ⟨fun h => by simp [h], fun h => by simp [h]⟩
  · intro hs
    have e2 : part 2 x l[i] = decide (l[i].p ≤ x) := by unfold part Bd.takes; simp [hs]
    have e1 : part 1 x l[i] = false := by unfold part; simp [hs]
    rw [e2, e1]
    exact ⟨fun h => by simp [h], fun h => by simp [h]⟩
section
variable {l : List Bd} (hok : ∀ b ∈ l, b.ok) {x v rule : Int}
include hok
theorem fillOf_bound {i : Nat} (hi : i < l.length) : 0 ≤ fillOf l x v rule i ∧ fillOf l x v rule i ≤ l[i].q := by
  have hb := bAt_get hi
  have hq : qI l i = l[i].q := by unfold qI; rw [hb]
  obtain ⟨h1, h2⟩ := fillOf_cases (l := l) (x := x) (v := v) (rule := rule) hi
  have hbk := hok _ (List.getElem_mem hi)
  obtain ⟨hs, _, _, h4, _⟩ := hbk
  rcases hs with hs | hs
  · by_cases q : x ≤ l[i].p
    · obtain ⟨e, m⟩ := (h1 hs).1 q
      rw [e, ← hq]; exact fill_bound hok m
    · rw [(h1 hs).2 q]; omega
  · by_cases q : l[i].p ≤ x
    · obtain ⟨e, m⟩ := (h2 hs).1 q
      rw [e, ← hq]; exact fill_bound hok m
    · rw [(h2 hs).2 q]; omega
theorem fills_fit : fits l (fillsL l x v rule) := by
  refine ⟨fillsL_len _ _ _ _, (fitF_iff (fillsL_len _ _ _ _).symm).2 fun i h1 h2 => ?_⟩
  rw [fillsL_get]
  exact fillOf_bound hok h1
theorem fills_side : ∀ n, n ≤ l.length → sumB (l.take n) ((fillsL l x v rule).take n) = sumI ((idsTo l 1 x n).map (fillF l 1 x v rule)) ∧ sumS (l.take n) ((fillsL l x v rule).take n) = sumI ((idsTo l 2 x n).map (fillF l 2 x v rule))
  | 0, _ => by simp [sumB, sumS, idsTo, sumI]
  | n + 1, h => by
    have hn : n < l.length := by omega
    have hn2 : n < (fillsL l x v rule).length := by rw [fillsL_len]; exact hn
    obtain ⟨i1, i2⟩ := fills_side n (by omega)
    have hlen : (l.take n).length = ((fillsL l x v rule).take n).length := by rw [List.length_take, List.length_take, fillsL_len]
    rw [take_snoc hn, take_snoc hn2, sumB_snoc _ _ hlen, sumS_snoc _ _ hlen, i1, i2, idsTo_succ, idsTo_succ, fillsL_get, bAt_get hn, List.map_append, List.map_append, sumI_app, sumI_app]
    obtain ⟨h1, h2⟩ := fillOf_cases (l := l) (x := x) (v := v) (rule := rule) hn
    obtain ⟨hs, _⟩ := hok _ (List.getElem_mem hn)
    rcases hs with hs | hs
    · have p2 : part 2 x l[n] = false := by unfold part; simp [hs]
      have p1 : part 1 x l[n] = decide (x ≤ l[n].p) := by unfold part Bd.takes; simp [hs]
      rw [p1, p2, if_pos hs, if_pos hs]
      by_cases q : x ≤ l[n].p
      · rw [((h1 hs).1 q).1]; simp [q, sumI]
      · rw [(h1 hs).2 q]; simp [q, sumI]
    · have p2 : part 2 x l[n] = decide (l[n].p ≤ x) := by unfold part Bd.takes; simp [hs]
      have p1 : part 1 x l[n] = false := by unfold part; simp [hs]
      have n1 : ¬ l[n].s = 1 := by omega
      rw [p1, p2, if_neg n1, if_neg n1]
      by_cases q : l[n].p ≤ x
      · rw [((h2 hs).1 q).1]; simp [q, sumI]
      · rw [(h2 hs).2 q]; simp [q, sumI]
theorem fills_sums (hv : 0 ≤ v) : sumB l (fillsL l x v rule) = min v (dem l x) ∧ sumS l (fillsL l x v rule) = min v (sup l x) := by
  obtain ⟨h1, h2⟩ := fills_side hok (x := x) (v := v) (rule := rule) l.length (Nat.le_refl _)
  rw [List.take_length, show (fillsL l x v rule).take l.length = fillsL l x v rule by rw [← fillsL_len l x v rule, List.take_length]] at h1 h2
  have e1 := fills_sum hok (sd := 1) (x := x) (rule := rule) hv
  have e2 := fills_sum hok (sd := 2) (x := x) (rule := rule) hv
  rw [ids_buy] at e1
  rw [ids_sell hok] at e2
  exact ⟨h1.trans e1, h2.trans e2⟩
/-- Who is served in full, and who gets nothing. -/
theorem fillOf_full (hv : 0 ≤ v) {i : Nat} (hi : i < l.length) :
    (l[i].s = 1 → (l[i].p < x → fillOf l x v rule i = 0) ∧ (dem l x ≤ v → x ≤ l[i].p → fillOf l x v rule i = l[i].q)) ∧
    (l[i].s = 2 → (x < l[i].p → fillOf l x v rule i = 0) ∧ (sup l x ≤ v → l[i].p ≤ x → fillOf l x v rule i = l[i].q)) := by
  have hb := bAt_get hi
  have hq : qI l i = l[i].q := by unfold qI; rw [hb]
  obtain ⟨h1, h2⟩ := fillOf_cases (l := l) (x := x) (v := v) (rule := rule) hi
  refine ⟨fun hs => ⟨fun hp => (h1 hs).2 (by omega), fun hd hp => ?_⟩, fun hs => ⟨fun hp => (h2 hs).2 (by omega), fun hd hp => ?_⟩⟩
  · obtain ⟨e, m⟩ := (h1 hs).1 hp
    rw [e, ← hq]
    exact fills_full hok hv (by rw [ids_buy]; exact hd) m
  · obtain ⟨e, m⟩ := (h2 hs).1 hp
    rw [e, ← hq]
    exact fills_full hok hv (by rw [ids_sell hok]; exact hd) m
end
end Go.Proofs.YtepldjidkomclaaGreat.Ca
namespace Go.Proofs.YtepldjidkomclaaGreat.Ca
set_option linter.unusedSimpArgs false
set_option linter.unusedVariables false
open Go.RowKit
theorem demsup_bound' {l : List Bd} (hl : l.length ≤ 4096) (hok : ∀ b ∈ l, b.ok) (x : Int) : (0 ≤ dem l x ∧ dem l x ≤ 5000000000000) ∧ 0 ≤ sup l x ∧ sup l x ≤ 5000000000000 := by
  have h1 := sumQ_bound (buyT x) hok
  have h2 := sumQ_bound (selT x) hok
  unfold dem sup; omega
theorem sumQ_reverse (f : Bd → Bool) (l : List Bd) : sumQ f l.reverse = sumQ f l := by
  induction l with
  | nil => rfl
  | cons b l ih => rw [List.reverse_cons, sumQ_snoc, ih]; simp only [sumQ]; omega
theorem dem_reverse (l : List Bd) (x : Int) : dem l.reverse x = dem l x := sumQ_reverse _ l
theorem sup_reverse (l : List Bd) (x : Int) : sup l.reverse x = sup l x := sumQ_reverse _ l
theorem starts_reverse (l : List Bd) : starts l.reverse = starts l := by
  obtain ⟨a1, a2⟩ := starts_spec l.reverse
  obtain ⟨b1, b2⟩ := starts_spec l
  refine inc_unique a1 b1 fun x => ?_
  rw [a2, b2]
  simp
theorem zones_reverse (l : List Bd) : zonesL l.reverse = zonesL l := by
  unfold zonesL
  rw [starts_reverse]
  unfold zTo
  congr 1
  funext i
  unfold zAt
  rw [dem_reverse, sup_reverse]
/-- What Clear answers to valid bids. -/
theorem clearF_eq {l : List Bd} (h1 : l.length ≤ 4096) (h2 : ∀ b ∈ l, b.ok) {x rule : Int} (hx : 1 ≤ x ∧ x ≤ 1000000) (hr : rule = 1 ∨ rule = 2) :
    clearF l x rule = if priceZ (zonesL l) x = 0 ∨ min (dem l (priceZ (zonesL l) x)) (sup l (priceZ (zonesL l) x)) = 0 then ⟨0, 0, 0, [], 30⟩ else ⟨priceZ (zonesL l) x, min (dem l (priceZ (zonesL l) x)) (sup l (priceZ (zonesL l) x)), dem l (priceZ (zonesL l) x) - sup l (priceZ (zonesL l) x), fillsL l (priceZ (zonesL l) x) (min (dem l (priceZ (zonesL l) x)) (sup l (priceZ (zonesL l) x))) rule, 0⟩ := by
  have e : clearF l x rule = if priceZ (zonesL l) x = 0 then ⟨0, 0, 0, [], 30⟩ else clrF l (priceZ (zonesL l) x) rule := by
    unfold clearF
    rw [if_neg (by rw [chk_ok h1 h2]; decide), if_pos ⟨by rw [inC_of]; simpa using hx, hr⟩]
  rw [e]
  by_cases hp : priceZ (zonesL l) x = 0
  · rw [if_pos hp, if_pos (.inl hp)]
  · rw [if_neg hp]
    unfold clrF
    by_cases hv : min (dem l (priceZ (zonesL l) x)) (sup l (priceZ (zonesL l) x)) = 0
    · rw [if_pos hv, if_pos (.inr hv)]
    · rw [if_neg hv, if_neg (fun q => by rcases q with q | q; exact hp q; exact hv q)]
theorem idxOf_mono {m : List Int} (h : m.Pairwise (· < ·)) {i j : Int} (hi : i ∈ m) (hj : j ∈ m) (hij : i < j) : m.idxOf i < m.idxOf j := by
  have h1 := List.idxOf_lt_length_iff.2 hi
  have h2 := List.idxOf_lt_length_iff.2 hj
  rcases Nat.lt_trichotomy (m.idxOf i) (m.idxOf j) with q | q | q
  · exact q
  · exfalso
    have e1 : m[m.idxOf i] = i := List.getElem_idxOf h1
    have e2 : m[m.idxOf j] = j := List.getElem_idxOf h2
    have e3 : m[m.idxOf i] = m[m.idxOf j] := by congr 1
    omega
  · exfalso
    have := List.pairwise_iff_getElem.1 h _ _ h2 h1 q
    have e1 : m[m.idxOf i] = i := List.getElem_idxOf h1
    have e2 : m[m.idxOf j] = j := List.getElem_idxOf h2
    omega
theorem share_step {t : Int} {W : List Int} {i k : Nat} (hki : k < i) (hi : i < W.length) (hw : W.getD i 0 = W.getD k 0) : shareF t W i = shareF t W k ∨ shareF t W i = shareF t W k - 1 := by
  unfold shareF
  by_cases hS : sumI W = 0
  · rw [if_pos hS, if_pos hS]; exact .inl rfl
  · rw [if_neg hS, if_neg hS, hw]
    have hb : rankR (fun j => t * W.getD j 0 % sumI W) W.length k < rankR (fun j => t * W.getD j 0 % sumI W) W.length i := bef_lt (by omega) (.inr ⟨by simp only [hw], hki⟩)
    by_cases q : (rankR (fun j => t * W.getD j 0 % sumI W) W.length i : Int) < t - sumI (W.map fun x => t * x / sumI W)
    · rw [if_pos q, if_pos (by omega)]; exact .inl rfl
    · rw [if_neg q]
      split
      · exact .inr (by omega)
      · exact .inl rfl
theorem fillF_step {l : List Bd} {sd x v : Int} {i k : Int} (hk : k ∈ ids l sd x) (hi : i ∈ ids l sd x) (hki : k < i) (he : bAt l i = bAt l k) : fillF l sd x v 2 i = fillF l sd x v 2 k ∨ fillF l sd x v 2 i = fillF l sd x v 2 k - 1 := by
  have hp : pI l i = pI l k := by unfold pI; rw [he]
  have hq : qI l i = qI l k := by unfold qI; rw [he]
  unfold fillF
  rw [hp]
  have mk : k ∈ grp l sd x (pI l k) := List.mem_filter.2 ⟨hk, by simp⟩
  have mi : i ∈ grp l sd x (pI l k) := List.mem_filter.2 ⟨hi, by simp [hp]⟩
  have h1 := List.idxOf_lt_length_iff.2 mk
  have h2 := List.idxOf_lt_length_iff.2 mi
  have hm := idxOf_mono ((ids_inc l sd x _).sublist List.filter_sublist) mk mi hki
  have gs : ∀ j, j < (grp l sd x (pI l k)).length → (dealt 2 (gotG l sd x v (pI l k)) (qs l (grp l sd x (pI l k)))).getD j 0 = shareF (gotG l sd x v (pI l k)) (qs l (grp l sd x (pI l k))) j := fun j hj => by
    have : dealt 2 (gotG l sd x v (pI l k)) (qs l (grp l sd x (pI l k))) = splitL (gotG l sd x v (pI l k)) (qs l (grp l sd x (pI l k))) := by unfold dealt; rw [if_pos rfl]
    rw [this]
    have hj2 : j < (splitL (gotG l sd x v (pI l k)) (qs l (grp l sd x (pI l k)))).length := by rw [splitL_len, qs_len]; exact hj
    have e : (splitL (gotG l sd x v (pI l k)) (qs l (grp l sd x (pI l k)))).getD j 0 = (splitL (gotG l sd x v (pI l k)) (qs l (grp l sd x (pI l k))))[j] := by simp [hj2]
    rw [e, splitL_get]
  rw [gs _ h1, gs _ h2]
  refine share_step hm (by rw [qs_len]; exact h2) ?_
  have w : ∀ j (hj : j < (grp l sd x (pI l k)).length), (qs l (grp l sd x (pI l k))).getD j 0 = qI l (grp l sd x (pI l k))[j] := fun j hj => by simp [qs, hj]
  rw [w _ h1, w _ h2, List.getElem_idxOf h1, List.getElem_idxOf h2, hq]
/-- Of two equal bids the later one gets as much, or 1 less. -/
theorem fillOf_step {l : List Bd} (hok : ∀ b ∈ l, b.ok) {x v : Int} {i k : Nat} (hi : i < l.length) (hki : k < i) (he : l[i] = l[k]) : fillOf l x v 2 i = fillOf l x v 2 k ∨ fillOf l x v 2 i = fillOf l x v 2 k - 1 := by
  have hk : k < l.length := by omega
  obtain ⟨i1, i2⟩ := fillOf_cases (x := x) (v := v) (rule := 2) hi
  obtain ⟨k1, k2⟩ := fillOf_cases (x := x) (v := v) (rule := 2) hk
  have hb : bAt l (i : Int) = bAt l (k : Int) := by rw [bAt_get hi, bAt_get hk, he]
  rw [he] at i1 i2
  rcases (hok _ (List.getElem_mem hk)).1 with hs | hs
  · by_cases q : x ≤ l[k].p
    · obtain ⟨e1, m1⟩ := (i1 hs).1 q
      obtain ⟨e2, m2⟩ := (k1 hs).1 q
      rw [e1, e2]
      exact fillF_step m2 m1 (by omega) hb
    · rw [(i1 hs).2 q, (k1 hs).2 q]; exact .inl rfl
  · by_cases q : l[k].p ≤ x
    · obtain ⟨e1, m1⟩ := (i2 hs).1 q
      obtain ⟨e2, m2⟩ := (k2 hs).1 q
      rw [e1, e2]
      exact fillF_step m2 m1 (by omega) hb
    · rw [(i2 hs).2 q, (k2 hs).2 q]; exact .inl rfl
end Go.Proofs.YtepldjidkomclaaGreat.Ca
namespace Go.Proofs.YtepldjidkomclaaGreat.Ca
set_option linter.unusedSimpArgs false
set_option linter.unusedVariables false
open Go.RowKit
/-- What is traded at a price. -/
def volX (l : List Bd) (x : Int) : Int := min (dem l x) (sup l x)
/-- Within a zone neither the demand nor the supply changes. -/
theorem zone_const {l : List Bd} {i : Nat} {x : Int} (h1 : loF l i ≤ x) (h2 : x ≤ hiF (loF l i) l 1000000) : dem l x = dem l (loF l i) ∧ sup l x = sup l (loF l i) := by
  have hn := (hiF_spec (loF l i) l 1000000).2.2
  constructor
  · unfold dem
    refine sumQ_congr fun b hb => ?_
    unfold buyT
    rw [decide_eq_decide]
    by_cases hs : b.s = 1
    · have hc : cut b = b.p + 1 := by unfold cut; rw [if_pos hs]
      have := hn b hb
      rw [hc] at this
      refine ⟨fun ⟨_, q⟩ => ⟨hs, by omega⟩, fun ⟨_, q⟩ => ⟨hs, ?_⟩⟩
      have := this (by omega)
      omega
    · simp [hs]
  · unfold sup
    refine sumQ_congr fun b hb => ?_
    unfold selT
    rw [decide_eq_decide]
    by_cases hs : b.s = 1
    · simp [hs]
    · have hc : cut b = b.p := by unfold cut; rw [if_neg hs]
      have := hn b hb
      rw [hc] at this
      refine ⟨fun ⟨_, q⟩ => ⟨hs, ?_⟩, fun ⟨_, q⟩ => ⟨hs, by omega⟩⟩
      refine Classical.byContradiction fun h => ?_
      have := this (by omega)
      omega
section
variable {l : List Bd} (hok : ∀ b ∈ l, b.ok)
include hok
theorem zTo_mem : ∀ n, n ≤ (starts l).length → ∀ z ∈ zTo l (starts l) n, ∃ i, i < n ∧ loF l i ≤ 1000000 ∧ z = ⟨loF l i, hiF (loF l i) l 1000000, dem l (loF l i), sup l (loF l i)⟩
  | 0, _, z, hz => by simp [zTo] at hz
  | n + 1, h, z, hz => by
    rw [zTo_succ] at hz
    rcases List.mem_append.1 hz with q | q
    · obtain ⟨i, h1, h2, h3⟩ := zTo_mem n (by omega) z q
      exact ⟨i, by omega, h2, h3⟩
    · by_cases h6 : loF l n ≤ 1000000
      · rw [(lo_next hok (show n < (starts l).length by omega) h6).2] at q
        exact ⟨n, by omega, h6, List.mem_singleton.1 q⟩
      · have : zAt l (starts l) n = [] := by
          unfold zAt
          rw [if_neg]
          unfold loF at h6
          rw [if_pos (by omega)] at h6
          exact h6
        rw [this] at q; simp at q
theorem zone_vol {z : Zn} (hz : z ∈ zonesL l) {x : Int} (h1 : z.f ≤ x) (h2 : x ≤ z.t) : dem l x = z.d ∧ sup l x = z.s ∧ volX l x = z.vol := by
  obtain ⟨i, hi, h6, rfl⟩ := zTo_mem hok _ (Nat.le_refl _) z hz
  obtain ⟨a, b⟩ := zone_const h1 h2
  refine ⟨a, b, ?_⟩
  unfold volX Zn.vol
  rw [a, b]
theorem zTo_cover : ∀ n, n ≤ (starts l).length → ∀ x, 1 ≤ x → x < loF l n → x ≤ 1000000 → ∃ z ∈ zTo l (starts l) n, z.f ≤ x ∧ x ≤ z.t
  | 0, _, x, h1, h2, _ => by rw [lo_zero hok] at h2; omega
  | n + 1, h, x, h1, h2, h3 => by
    rw [zTo_succ]
    by_cases q : x < loF l n
    · obtain ⟨z, hz, e⟩ := zTo_cover n (by omega) x h1 q h3
      exact ⟨z, List.mem_append_left _ hz, e⟩
    · have h6 : loF l n ≤ 1000000 := by omega
      obtain ⟨e1, e2⟩ := lo_next hok (show n < (starts l).length by omega) h6
      refine ⟨_, List.mem_append_right _ (by rw [e2]; exact List.mem_singleton.2 rfl), ?_, ?_⟩
      · show loF l n ≤ x
        omega
      show x ≤ hiF (loF l n) l 1000000
      omega
theorem zone_cover {x : Int} (h1 : 1 ≤ x) (h2 : x ≤ 1000000) : ∃ z ∈ zonesL l, z.f ≤ x ∧ x ≤ z.t := by
  refine zTo_cover hok _ (Nat.le_refl _) x h1 ?_ h2
  unfold loF
  rw [if_neg (by omega)]; omega
theorem vol_le_most {x : Int} (h1 : 1 ≤ x) (h2 : x ≤ 1000000) : volX l x ≤ most l := by
  obtain ⟨z, hz, e1, e2⟩ := zone_cover hok h1 h2
  rw [(zone_vol hok hz e1 e2).2.2]
  exact (mostV_spec (zonesL l) 0).2.1 z hz
theorem most_at (hl : l.length ≤ 4096) : ∃ x, 1 ≤ x ∧ x ≤ 1000000 ∧ volX l x = most l := by
  obtain ⟨b1, b2, b3⟩ := bestZ_vol hl hok
  have h0 : 0 < (bestZ l).length := List.length_pos_iff.2 b1
  have hm : (bestZ l)[0] ∈ bestZ l := List.getElem_mem h0
  generalize (bestZ l)[0] = z at hm
  have hz : z ∈ zonesL l := keptF_sub _ hm
  have hv : z.vol = most l := by
    rw [b3] at hm
    simpa using (List.mem_filter.1 hm).2
  obtain ⟨o1, o2, o3, _⟩ := (zonesL_ok hl hok).1 z hz
  exact ⟨z.f, o1, by omega, by rw [(zone_vol hok hz (Int.le_refl _) o2).2.2, hv]⟩
/-- The price is one with the greatest volume, and lies in a zone of the best. -/
theorem price_best (hl : l.length ≤ 4096) (ref : Int) (h : most l ≠ 0) : ∃ z ∈ fewL l, priceZ (zonesL l) ref = z.pk (leanF (fewL l)) ref ∧ z.f ≤ priceZ (zonesL l) ref ∧ priceZ (zonesL l) ref ≤ z.t ∧ volX l (priceZ (zonesL l) ref) = most l := by
  have h3 := Zi_ok hl hok ref 3
  obtain ⟨k1, _, k2⟩ := h3
  have h0 : 0 < (Zi ref (zonesL l) 3).length := List.length_pos_iff.2 k2
  have e : priceZ (zonesL l) ref = if ((Zi ref (zonesL l) 3).getD 0 zn0).vol = 0 then 0 else ((Zi ref (zonesL l) 3).getD 0 zn0).pk (leanF (fewL l)) ref := rfl
  have eg : (Zi ref (zonesL l) 3).getD 0 zn0 = (Zi ref (zonesL l) 3)[0] := by simp [h0]
  rw [eg] at e
  have hm : (Zi ref (zonesL l) 3)[0] ∈ Zi ref (zonesL l) 3 := List.getElem_mem h0
  have hzk := k1 _ hm
  generalize (Zi ref (zonesL l) 3)[0] = z at e hm hzk
  have hf : z ∈ fewL l := keptF_sub _ hm
  have hb : z ∈ bestZ l := keptF_sub _ hf
  have hz : z ∈ zonesL l := keptF_sub _ hb
  have hv : z.vol = most l := by
    have := hb
    rw [(bestZ_vol hl hok).2.2] at this
    simpa using (List.mem_filter.1 this).2
  rw [hv, if_neg h] at e
  obtain ⟨o1, o2, o3, _⟩ := hzk
  have hr : z.f ≤ z.pk (leanF (fewL l)) ref ∧ z.pk (leanF (fewL l)) ref ≤ z.t := by
    unfold Zn.pk
    split
    · omega
    · split <;> omega
  refine ⟨z, hf, e, by rw [e]; exact hr.1, by rw [e]; exact hr.2, ?_⟩
  rw [e, (zone_vol hok hz hr.1 hr.2).2.2, hv]
theorem price_zero (hl : l.length ≤ 4096) (ref : Int) (h : most l = 0) : priceZ (zonesL l) ref = 0 := by
  rw [← rprice_eq hl hok ref]
  unfold rpriceF
  rw [if_pos h]
end
theorem volX_more (l : List Bd) (b : Bd) (hq : 0 ≤ b.q) (x : Int) : volX l x ≤ volX (l ++ [b]) x := by
  unfold volX dem sup
  rw [sumQ_snoc, sumQ_snoc]
  split <;> split <;> omega
theorem most_more {l : List Bd} (hl : l.length ≤ 4095) (hok : ∀ b ∈ l, b.ok) {b : Bd} (hb : b.ok) : most l ≤ most (l ++ [b]) := by
  obtain ⟨x, h1, h2, h3⟩ := most_at hok (by omega)
  have hok2 : ∀ c ∈ l ++ [b], c.ok := fun c hc => by
    rcases List.mem_append.1 hc with q | q
    · exact hok c q
    · rw [List.mem_singleton.1 q]; exact hb
  have h4 := vol_le_most hok2 h1 h2
  have h5 := volX_more l b (by have := hb.2.2.2.1; omega) x
  omega
/-- A greater reference price never makes the nearest price less. -/
theorem near_mono {Z : List Zn} (hok : ∀ z ∈ Z, z.ok) (hr : Rising Z) (hne : 0 < Z.length) {a b : Int} (hab : a ≤ b) : nearP a Z 0 ≤ nearP b Z 0 := by
  obtain ⟨i, hi, _, e1, m1, f1⟩ := nearP_at (ref := a) hok Z.length hne (Nat.le_refl _)
  obtain ⟨j, hj, _, e2, m2, f2⟩ := nearP_at (ref := b) hok Z.length hne (Nat.le_refl _)
  rw [List.take_length] at e1 e2
  rw [e1, e2]
  have pk : ∀ (z : Zn) r, z.pk 0 r = min (max r z.f) z.t := fun z r => by unfold Zn.pk; rw [if_neg (by decide), if_neg (by decide)]
  have oi := hok _ (List.getElem_mem hi)
  have oj := hok _ (List.getElem_mem hj)
  obtain ⟨i1, i2, i3, _⟩ := oi
  obtain ⟨j1, j2, j3, _⟩ := oj
  have mj := m1 j hj hj
  have mi := m2 i hi hi
  unfold siz at mj mi
  rw [pk, pk] at mj mi
  rw [pk, pk]
  rcases Nat.lt_trichotomy i j with q | q | q
  · have := hr.lt q hj; omega
  · subst q; omega
  · have h1 := hr.lt q hi
    have h2 := f1 j hj q
    unfold siz at h2
    rw [pk, pk] at h2
    omega
theorem price_mono {l : List Bd} (hl : l.length ≤ 4096) (hok : ∀ b ∈ l, b.ok) {a b : Int} (hab : a ≤ b) : priceZ (zonesL l) a ≤ priceZ (zonesL l) b := by
  rw [← rprice_eq hl hok a, ← rprice_eq hl hok b]
  obtain ⟨b1, _, _⟩ := bestZ_vol hl hok
  have fne : fewL l ≠ [] := keptF_ne F2 b1
  have fok : ∀ z ∈ fewL l, z.ok := fun z hz => (zonesL_ok hl hok).1 z (keptF_sub _ (keptF_sub _ hz))
  have frise : Rising (fewL l) := ((zones_rising hok).filter _).filter _
  have := near_mono fok frise (List.length_pos_iff.2 fne) hab
  unfold rpriceF
  split
  · exact Int.le_refl _
  · split
    · exact Int.le_refl _
    · split
      · exact Int.le_refl _
      · exact this
theorem best_range {l : List Bd} (hl : l.length ≤ 4096) (hok : ∀ b ∈ l, b.ok) (ref : Int) (h : most l ≠ 0) : ((bestZ l).getD 0 zn0).f ≤ priceZ (zonesL l) ref ∧ priceZ (zonesL l) ref ≤ ((bestZ l).getD ((bestZ l).length - 1) zn0).t := by
  obtain ⟨z, hz, _, h1, h2, _⟩ := price_best hok hl ref h
  have hb : z ∈ bestZ l := keptF_sub _ hz
  have hr : Rising (bestZ l) := (zones_rising hok).filter _
  obtain ⟨i, hi, rfl⟩ := List.getElem_of_mem hb
  have h0 : 0 < (bestZ l).length := by omega
  have hl1 : (bestZ l).length - 1 < (bestZ l).length := by omega
  have e0 : (bestZ l).getD 0 zn0 = (bestZ l)[0] := by simp [h0]
  have e1 : (bestZ l).getD ((bestZ l).length - 1) zn0 = (bestZ l)[(bestZ l).length - 1] := by simp [hl1]
  rw [e0, e1]
  constructor
  · rcases Nat.eq_zero_or_pos i with q | q
    · subst q; exact h1
    · have := hr.lt q hi
      have := hr.2 _ (List.getElem_mem h0)
      omega
  · rcases Nat.lt_or_ge i ((bestZ l).length - 1) with q | q
    · have := (hr.lt q hl1).2; omega
    · have : i = (bestZ l).length - 1 := by omega
      subst this; exact h2
end Go.Proofs.YtepldjidkomclaaGreat.Ca
namespace Go.Proofs.YtepldjidkomclaaGreat.Ca
set_option linter.unusedSimpArgs false
set_option linter.unusedVariables false
open Go.RowKit
def dT (P : Int) (b : Bd) : Int := if b.s = 1 then max 0 (b.p - P) * b.q else max 0 (P - b.p) * b.q
def dual (P : Int) : List Bd → Int
  | [] => 0
  | b :: l => dT P b + dual P l
/-- Complementary slackness. -/
def csF (P : Int) : List Bd → List Int → Prop
  | b :: l, x :: f => (b.s = 1 → (P < b.p → x = b.q) ∧ (b.p < P → x = 0)) ∧ (b.s ≠ 1 → (b.p < P → x = b.q) ∧ (P < b.p → x = 0)) ∧ csF P l f
  | _, _ => True
theorem csF_of {P : Int} : ∀ {l : List Bd} {f : List Int}, l.length = f.length → (∀ (i : Nat) (h1 : i < l.length) (h2 : i < f.length), (l[i].s = 1 → (P < l[i].p → f[i] = l[i].q) ∧ (l[i].p < P → f[i] = 0)) ∧ (l[i].s ≠ 1 → (l[i].p < P → f[i] = l[i].q) ∧ (P < l[i].p → f[i] = 0))) → csF P l f
  | [], [], _, _ => trivial
  | b :: l, x :: f, h, q => by
    refine ⟨(q 0 (by simp) (by simp)).1, (q 0 (by simp) (by simp)).2, csF_of (by simpa using h) fun i h1 h2 => ?_⟩
    exact q (i + 1) (by simpa using h1) (by simpa using h2)
theorem part_le {d x q : Int} (h : 0 ≤ x ∧ x ≤ q) : d * x ≤ max 0 d * q := by
  have h1 : d * x ≤ max 0 d * x := Int.mul_le_mul_of_nonneg_right (by omega) h.1
  have h2 : max 0 d * x ≤ max 0 d * q := Int.mul_le_mul_of_nonneg_left h.2 (by omega)
  omega
theorem part_eq {d x q : Int} (h : 0 < d → x = q) (h' : d < 0 → x = 0) : d * x = max 0 d * q := by
  rcases Int.lt_trichotomy d 0 with k | k | k
  · rw [h' k, show max 0 d = 0 by omega]; simp
  · subst k; simp
  · rw [h k, show max 0 d = d by omega]
theorem gT_part (P : Int) (b : Bd) (x : Int) : gT b x = P * (if b.s = 1 then x else -x) + (if b.s = 1 then b.p - P else P - b.p) * x := by
  unfold gT
  split
  · rw [Int.sub_mul]; omega
  · rw [Int.sub_mul, Int.mul_neg]; omega
theorem dT_part (P : Int) (b : Bd) : dT P b = max 0 (if b.s = 1 then b.p - P else P - b.p) * b.q := by unfold dT; split <;> rfl
theorem bal_cons (P : Int) (b : Bd) (x A B : Int) : P * (((if b.s = 1 then x else 0) + A) - ((if b.s = 1 then 0 else x) + B)) = P * (if b.s = 1 then x else -x) + P * (A - B) := by
  rw [← Int.mul_add]
  congr 1
  split <;> omega
theorem weak (P : Int) : ∀ {l : List Bd} {f : List Int}, l.length = f.length → fitF l f → gsum l f ≤ P * (sumB l f - sumS l f) + dual P l
  | [], [], _, _ => by simp [gsum, sumB, sumS, dual]
  | b :: l, x :: f, h, g => by
    have ih := weak P (l := l) (f := f) (by simpa using h) g.2
    simp only [gsum, sumB, sumS, dual]
    rw [bal_cons, gT_part P, dT_part]
    have := part_le (d := if b.s = 1 then b.p - P else P - b.p) g.1
    omega
theorem strong (P : Int) : ∀ {l : List Bd} {f : List Int}, l.length = f.length → csF P l f → gsum l f = P * (sumB l f - sumS l f) + dual P l
  | [], [], _, _ => by simp [gsum, sumB, sumS, dual]
  | b :: l, x :: f, h, g => by
    have ih := strong P (l := l) (f := f) (by simpa using h) g.2.2
    simp only [gsum, sumB, sumS, dual]
    rw [bal_cons, gT_part P, dT_part]
    have : (if b.s = 1 then b.p - P else P - b.p) * x = max 0 (if b.s = 1 then b.p - P else P - b.p) * b.q := by
      apply part_eq
      · intro k
        by_cases hs : b.s = 1
        · rw [if_pos hs] at k; exact (g.1 hs).1 (by omega)
        · rw [if_neg hs] at k; exact (g.2.1 hs).1 (by omega)
      · intro k
        by_cases hs : b.s = 1
        · rw [if_pos hs] at k; exact (g.1 hs).2 (by omega)
        · rw [if_neg hs] at k; exact (g.2.1 hs).2 (by omega)
    omega
theorem dual_nonneg (P : Int) : ∀ {l : List Bd}, (∀ b ∈ l, b.ok) → 0 ≤ dual P l
  | [], _ => by simp [dual]
  | b :: l, h => by
    have ih := dual_nonneg P (l := l) fun c hc => h c (List.mem_cons_of_mem _ hc)
    obtain ⟨_, _, _, h1, _⟩ := h b List.mem_cons_self
    have : 0 ≤ dT P b := by
      rw [dT_part]
      exact Int.mul_nonneg (by omega) (by omega)
    simp only [dual]; omega
/-- Sums of quantities. -/
theorem sumQ_le {f g : Bd → Bool} : ∀ {l : List Bd}, (∀ b ∈ l, b.ok) → (∀ b, f b = true → g b = true) → sumQ f l ≤ sumQ g l
  | [], _, _ => Int.le_refl _
  | b :: l, h, hfg => by
    have ih := sumQ_le (f := f) (g := g) (l := l) (fun c hc => h c (List.mem_cons_of_mem _ hc)) hfg
    obtain ⟨_, _, _, h1, _⟩ := h b List.mem_cons_self
    simp only [sumQ]
    by_cases hf : f b = true
    · rw [if_pos hf, if_pos (hfg b hf)]; omega
    · rw [if_neg hf]; split <;> omega
theorem sumQ_more {f g : Bd → Bool} : ∀ {l : List Bd}, (∀ b ∈ l, b.ok) → (∀ b, f b = true → g b = true) → ∀ {c}, c ∈ l → g c = true → f c = false → sumQ f l + c.q ≤ sumQ g l
  | [], _, _, c, hc, _, _ => absurd hc (by simp)
  | b :: l, h, hfg, c, hc, h1, h2 => by
    have hl : ∀ b ∈ l, b.ok := fun c hc => h c (List.mem_cons_of_mem _ hc)
    obtain ⟨_, _, _, hq, _⟩ := h b List.mem_cons_self
    simp only [sumQ]
    rcases List.mem_cons.1 hc with rfl | hc
    · have := sumQ_le hl hfg
      rw [h1, h2]; simp; omega
    · have := sumQ_more hl hfg hc h1 h2
      by_cases hf : f b = true
      · rw [if_pos hf, if_pos (hfg b hf)]; omega
      · rw [if_neg hf]; split <;> omega
section
variable {l : List Bd} (hok : ∀ b ∈ l, b.ok)
include hok
theorem dem_anti {x y : Int} (h : x ≤ y) : dem l y ≤ dem l x := sumQ_le hok fun b hb => by unfold buyT at *; simp at *; omega
theorem sup_mono {x y : Int} (h : x ≤ y) : sup l x ≤ sup l y := sumQ_le hok fun b hb => by unfold selT at *; simp at *; omega
theorem dem_more {x y : Int} (h : x ≤ y) {b : Bd} (hb : b ∈ l) (hs : b.s = 1) (h1 : x ≤ b.p) (h2 : b.p < y) : dem l y + b.q ≤ dem l x :=
  sumQ_more hok (fun b hb => by unfold buyT at *; simp at *; omega) hb (by unfold buyT; simp; omega) (by unfold buyT; simp; omega)
theorem sup_more {x y : Int} (h : x ≤ y) {b : Bd} (hb : b ∈ l) (hs : b.s ≠ 1) (h1 : x < b.p) (h2 : b.p ≤ y) : sup l x + b.q ≤ sup l y :=
  sumQ_more hok (fun b hb => by unfold selT at *; simp at *; omega) hb (by unfold selT; simp; omega) (by unfold selT; simp; omega)
theorem dem_high {x : Int} (h : 1000000 < x) : dem l x = 0 := by
  have h0 : sumQ (fun _ => false) l = 0 := by
    clear hok
    induction l with
    | nil => rfl
    | cons b l ih => simp only [sumQ, ih]; simp
  have : dem l x = sumQ (fun _ => false) l := sumQ_congr fun b hb => by
    obtain ⟨_, h1, h2, _⟩ := hok b hb
    unfold buyT; simp; omega
  omega
theorem sup_low {x : Int} (h : x < 1) : sup l x = 0 := by
  have h0 : sumQ (fun _ => false) l = 0 := by
    clear hok
    induction l with
    | nil => rfl
    | cons b l ih => simp only [sumQ, ih]; simp
  have : sup l x = sumQ (fun _ => false) l := sumQ_congr fun b hb => by
    obtain ⟨_, h1, h2, _⟩ := hok b hb
    unfold selT; simp; omega
  omega
end
theorem climb (f : Int → Int) (v : Int) : ∀ (n : Nat) (a : Int), v < f a → f (a + n) ≤ v → ∃ y, a ≤ y ∧ v < f y ∧ f (y + 1) ≤ v
  | 0, a, h1, h2 => by simp at h2; omega
  | n + 1, a, h1, h2 => by
    by_cases h : f (a + 1) ≤ v
    · exact ⟨a, Int.le_refl _, h1, h⟩
    · obtain ⟨y, e1, e2, e3⟩ := climb f v n (a + 1) (by omega) (by rw [show a + 1 + (n : Int) = a + ((n + 1 : Nat) : Int) by omega]; exact h2)
      exact ⟨y, by omega, e2, e3⟩
/-- The bids of a better price, and those of one price. -/
theorem ids_filter (l : List Bd) (sd x y : Int) (f : Int → Bool) (h : ∀ b : Bd, ∀ k, bAt l k = b → (f k && part sd x b) = part sd y b) : (ids l sd x).filter f = ids l sd y := by
  unfold ids idsTo
  rw [List.filter_filter]
  exact List.filter_congr fun k _ => h _ k rfl
theorem fore_buy {l : List Bd} {x P : Int} (h : x ≤ P) : fore l 1 x P = ids l 1 (P + 1) := ids_filter l 1 x (P + 1) _ fun b k hb => by
  unfold bet pI part Bd.takes
  rw [hb]
  by_cases hs : b.s = 1
  · simp [hs]; rw [Bool.eq_iff_iff]; simp; omega
  · simp [hs]
theorem fore_sell {l : List Bd} {x P : Int} (h : P ≤ x) : fore l 2 x P = ids l 2 (P - 1) := ids_filter l 2 x (P - 1) _ fun b k hb => by
  unfold bet pI part Bd.takes
  rw [hb]
  by_cases hs : b.s = 2
  · simp [hs]; rw [Bool.eq_iff_iff]; simp; omega
  · simp [hs]
theorem grp_sum_buy {l : List Bd} {x P : Int} (h : x ≤ P) : sumI (qs l (fore l 1 x P)) + sumI (qs l (grp l 1 x P)) = dem l P := by
  have e : (ids l 1 x).filter (fun i => decide (P ≤ pI l i)) = ids l 1 P := ids_filter l 1 x P _ fun b k hb => by
    unfold pI part Bd.takes
    rw [hb]
    by_cases hs : b.s = 1
    · simp [hs]; omega
    · simp [hs]
  rw [← ids_buy, ← e]
  exact (filt_split (qI l) (ids l 1 x) (fun i _ => by rw [Bool.eq_iff_iff]; unfold bet; simp; omega) (fun i _ q => by unfold bet at q; simp at q; omega)).symm
theorem grp_sum_sell {l : List Bd} (hok : ∀ b ∈ l, b.ok) {x P : Int} (h : P ≤ x) : sumI (qs l (fore l 2 x P)) + sumI (qs l (grp l 2 x P)) = sup l P := by
  have e : (ids l 2 x).filter (fun i => decide (pI l i ≤ P)) = ids l 2 P := ids_filter l 2 x P _ fun b k hb => by
    unfold pI part Bd.takes
    rw [hb]
    by_cases hs : b.s = 2
    · simp [hs]; omega
    · simp [hs]
  rw [← ids_sell hok, ← e]
  exact (filt_split (qI l) (ids l 2 x) (fun i _ => by rw [Bool.eq_iff_iff]; unfold bet; simp; omega) (fun i _ q => by unfold bet at q; simp at q; omega)).symm
section
variable {l : List Bd} (hok : ∀ b ∈ l, b.ok) {sd x v rule : Int}
include hok
theorem fill_whole {i : Int} (hi : i ∈ ids l sd x) (h : sumI (qs l (fore l sd x (pI l i))) + sumI (qs l (grp l sd x (pI l i))) ≤ v) : fillF l sd x v rule i = qI l i := by
  have e := grp_sum hok (sd := sd) (x := x) (v := v) (rule := rule) (pI l i)
  have hg := got_bound hok (sd := sd) (x := x) (v := v) (pI l i)
  have : gotG l sd x v (pI l i) = sumI (qs l (grp l sd x (pI l i))) := by unfold gotG; omega
  rw [this] at e
  exact sum_eq_all _ (fun j hj => (fill_bound hok (List.mem_filter.1 hj).1).2) e i (List.mem_filter.2 ⟨hi, by simp⟩)
theorem fill_naught {i : Int} (hi : i ∈ ids l sd x) (h : v ≤ sumI (qs l (fore l sd x (pI l i)))) : fillF l sd x v rule i = 0 := by
  have e := grp_sum hok (sd := sd) (x := x) (v := v) (rule := rule) (pI l i)
  have hg := got_bound hok (sd := sd) (x := x) (v := v) (pI l i)
  have : gotG l sd x v (pI l i) = 0 := by unfold gotG at hg ⊢; omega
  rw [this] at e
  have hz : ∀ m : List Int, sumI (m.map fun _ => (0 : Int)) = 0 := fun m => by
    induction m with
    | nil => rfl
    | cons a m ih => simp only [List.map_cons, sumI, ih]; omega
  exact (sum_eq_all (f := fun _ => 0) (g := fillF l sd x v rule) (grp l sd x (pI l i)) (fun j hj => (fill_bound hok (List.mem_filter.1 hj).1).1) (by rw [hz, e]) i (List.mem_filter.2 ⟨hi, by simp⟩)).symm
theorem fills_cs (hx : 1 ≤ x ∧ x ≤ 1000000) (hv : v = volX l x) (hm : ∀ y, 1 ≤ y → y ≤ 1000000 → volX l y ≤ v) : ∃ P, csF P l (fillsL l x v rule) := by
  have hv0 : 0 ≤ v := by
    have h1 := dem_anti hok (x := x) (y := 1000001) (by omega)
    rw [dem_high hok (by omega)] at h1
    have h2 := sup_mono hok (x := 0) (y := x) (by omega)
    rw [sup_low hok (by omega)] at h2
    rw [hv]; unfold volX; omega
  have key : ∀ P, (∀ (i : Nat) (h1 : i < l.length), (l[i].s = 1 → (P < l[i].p → fillOf l x v rule i = l[i].q) ∧ (l[i].p < P → fillOf l x v rule i = 0)) ∧ (l[i].s = 2 → (l[i].p < P → fillOf l x v rule i = l[i].q) ∧ (P < l[i].p → fillOf l x v rule i = 0))) → csF P l (fillsL l x v rule) := fun P h => by
    refine csF_of (fillsL_len _ _ _ _).symm fun i h1 h2 => ?_
    rw [fillsL_get]
    refine ⟨(h i h1).1, fun hs => (h i h1).2 ?_⟩
    have := (hok _ (List.getElem_mem h1)).1
    omega
  by_cases hd : v < dem l x
  · have hs : sup l x = v := by rw [hv] at hd ⊢; unfold volX at hd ⊢; omega
    obtain ⟨P, p1, p2, p3⟩ := climb (dem l) v (1000001 - x).toNat x hd (by
      rw [show x + ((1000001 - x).toNat : Int) = 1000001 by omega, dem_high hok (by omega)]; exact hv0)
    refine ⟨P, key P fun i hi => ?_⟩
    have hb := bAt_get hi
    have hq : qI l i = l[i].q := by unfold qI; rw [hb]
    have hp : pI l i = l[i].p := by unfold pI; rw [hb]
    obtain ⟨c1, c2⟩ := fillOf_cases (l := l) (x := x) (v := v) (rule := rule) hi
    obtain ⟨f1, f2⟩ := fillOf_full hok (x := x) (v := v) (rule := rule) hv0 hi
    obtain ⟨_, r1, r2, r3, _⟩ := hok _ (List.getElem_mem hi)
    refine ⟨fun e => ⟨fun h => ?_, fun h => ?_⟩, fun e => ⟨fun h => ?_, fun h => ?_⟩⟩
    · obtain ⟨e1, m⟩ := (c1 e).1 (by omega)
      rw [e1, ← hq]
      refine fill_whole hok m ?_
      rw [hp, grp_sum_buy (by omega)]
      have := dem_anti hok (x := P + 1) (y := l[i].p) (by omega)
      omega
    · by_cases hx2 : x ≤ l[i].p
      · obtain ⟨e1, m⟩ := (c1 e).1 hx2
        rw [e1]
        refine fill_naught hok m ?_
        rw [hp, fore_buy hx2, ids_buy]
        have := dem_anti hok (x := l[i].p + 1) (y := P) (by omega)
        omega
      · exact (c1 e).2 hx2
    · by_cases hx2 : l[i].p ≤ x
      · exact (f2 e).2 (by omega) hx2
      · have h1 := sup_more hok (x := x) (y := l[i].p) (by omega) (List.getElem_mem hi) (by omega) (by omega) (by omega)
        have h2 := dem_anti hok (x := l[i].p) (y := P) (by omega)
        have h3 := hm l[i].p r1 r2
        unfold volX at h3; omega
    · exact (c2 e).2 (by omega)
  · by_cases hs : v < sup l x
    · have hd2 : dem l x = v := by rw [hv] at hd hs ⊢; unfold volX at hd hs ⊢; omega
      obtain ⟨y, p1, p2, p3⟩ := climb (fun y => sup l (-y)) v x.toNat (-x) (by simpa using hs) (by
        rw [show -x + (x.toNat : Int) = 0 by omega]
        show sup l (-0) ≤ v
        rw [sup_low hok (by omega)]; exact hv0)
      obtain ⟨P, hP⟩ : ∃ P, P = -y := ⟨_, rfl⟩
      have p2' : v < sup l P := by rw [hP]; exact p2
      have p3' : sup l (P - 1) ≤ v := by rw [hP, show -y - 1 = -(y + 1) by omega]; exact p3
      have p1' : P ≤ x := by omega
      clear p1 p2 p3 hP
      refine ⟨P, key P fun i hi => ?_⟩
      have hb := bAt_get hi
      have hq : qI l i = l[i].q := by unfold qI; rw [hb]
      have hp : pI l i = l[i].p := by unfold pI; rw [hb]
      obtain ⟨c1, c2⟩ := fillOf_cases (l := l) (x := x) (v := v) (rule := rule) hi
      obtain ⟨f1, f2⟩ := fillOf_full hok (x := x) (v := v) (rule := rule) hv0 hi
      obtain ⟨_, r1, r2, r3, _⟩ := hok _ (List.getElem_mem hi)
      refine ⟨fun e => ⟨fun h => ?_, fun h => ?_⟩, fun e => ⟨fun h => ?_, fun h => ?_⟩⟩
      · by_cases hx2 : x ≤ l[i].p
        · exact (f1 e).2 (by omega) hx2
        · have h1 := dem_more hok (x := l[i].p) (y := x) (by omega) (List.getElem_mem hi) e (by omega) (by omega)
          have h2 := sup_mono hok (x := P) (y := l[i].p) (by omega)
          have h3 := hm l[i].p r1 r2
          unfold volX at h3; omega
      · exact (c1 e).2 (by omega)
      · obtain ⟨e1, m⟩ := (c2 e).1 (by omega)
        rw [e1, ← hq]
        refine fill_whole hok m ?_
        rw [hp, grp_sum_sell hok (by omega)]
        have := sup_mono hok (x := l[i].p) (y := P - 1) (by omega)
        omega
      · by_cases hx2 : l[i].p ≤ x
        · obtain ⟨e1, m⟩ := (c2 e).1 hx2
          rw [e1]
          refine fill_naught hok m ?_
          rw [hp, fore_sell hx2, ids_sell hok]
          have := sup_mono hok (x := P) (y := l[i].p - 1) (by omega)
          omega
        · exact (c2 e).2 hx2
    · refine ⟨x, key x fun i hi => ?_⟩
      obtain ⟨f1, f2⟩ := fillOf_full hok (x := x) (v := v) (rule := rule) hv0 hi
      exact ⟨fun e => ⟨fun h => (f1 e).2 (by omega) (by omega), fun h => (f1 e).1 h⟩, fun e => ⟨fun h => (f2 e).2 (by omega) (by omega), fun h => (f2 e).1 h⟩⟩
/-- The gain at a price of the greatest volume is the dual at some price. -/
theorem gain_dual (hx : 1 ≤ x ∧ x ≤ 1000000) (hv : v = volX l x) (hm : ∀ y, 1 ≤ y → y ≤ 1000000 → volX l y ≤ v) : ∃ P, gsum l (fillsL l x v rule) = dual P l := by
  obtain ⟨P, h⟩ := fills_cs hok (rule := rule) hx hv hm
  refine ⟨P, ?_⟩
  have hv0 : 0 ≤ v := by
    have h1 := dem_anti hok (x := x) (y := 1000001) (by omega)
    rw [dem_high hok (by omega)] at h1
    have h2 := sup_mono hok (x := 0) (y := x) (by omega)
    rw [sup_low hok (by omega)] at h2
    rw [hv]; unfold volX; omega
  rw [strong P (fillsL_len _ _ _ _).symm h]
  obtain ⟨s1, s2⟩ := fills_sums hok (x := x) (v := v) (rule := rule) hv0
  rw [s1, s2]
  have : min v (dem l x) - min v (sup l x) = 0 := by rw [hv]; unfold volX; omega
  rw [this]; simp
theorem gain_weak (P : Int) (hv : v = volX l x) : gsum l (fillsL l x v rule) ≤ dual P l := by
  obtain ⟨s1, s2⟩ := fills_sums hok (x := x) (v := v) (rule := rule) (by
    have h1 := dem_anti hok (x := x) (y := max x 1000001) (by omega)
    rw [dem_high hok (by omega)] at h1
    have h2 := sup_mono hok (x := min 0 x) (y := x) (by omega)
    rw [sup_low hok (by omega)] at h2
    rw [hv]; unfold volX; omega)
  have h := weak P (fillsL_len l x v rule).symm (fills_fit hok).2
  rw [s1, s2] at h
  have : min v (dem l x) - min v (sup l x) = 0 := by rw [hv]; unfold volX; omega
  rw [this] at h; simpa using h
end
end Go.Proofs.YtepldjidkomclaaGreat.Ca
