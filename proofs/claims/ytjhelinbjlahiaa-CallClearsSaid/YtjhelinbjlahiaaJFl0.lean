/- Fills, plain: what they are together. No program in sight. Fills by places, plain. -/
import Derived.Test.YtjhelinbjlahiaaJCc0
import Derived.Test.YtjhelinbjlahiaaJSh0
import Derived.Test.YtjhelinbjlahiaaJLp0
import Derived.Test.YtjhelinbjlahiaaJCd
namespace Go.Proofs.Ytjhelinbjlahiaa
set_option linter.unusedSimpArgs false
set_option linter.unusedVariables false
open Go.RowKit
theorem byTimeF_facts : ∀ (W : List Int) (t : Int), (∀ x ∈ W, 0 ≤ x) → 0 ≤ t → t ≤ sumI W → sumI (byTimeF t W) = t ∧ ∀ k, 0 ≤ (byTimeF t W).getD k 0 ∧ (k < W.length → (byTimeF t W).getD k 0 ≤ W.getD k 0)
  | [], t, _, h0, h1 => by
    simp only [sumI] at h1
    simp [byTimeF, sumI]; omega
  | x :: W, t, h, h0, h1 => by
    have hx := h x List.mem_cons_self
    simp only [sumI] at h1
    have hnn := sumI_nonneg (l := W) fun y hy => h y (List.mem_cons_of_mem _ hy)
    obtain ⟨i1, i2⟩ := byTimeF_facts W (t - min x t) (fun y hy => h y (List.mem_cons_of_mem _ hy)) (by omega) (by omega)
    simp only [byTimeF, sumI]
    refine ⟨by omega, fun k => ?_⟩
    cases k with
    | zero => simp; omega
    | succ k =>
      have := i2 k
      simpa using this
theorem dealt_facts {rule t : Int} {W : List Int} (h : ∀ x ∈ W, 0 ≤ x) (h0 : 0 ≤ t) (h1 : t ≤ sumI W) : sumI (dealt rule t W) = t ∧ ∀ k, 0 ≤ (dealt rule t W).getD k 0 ∧ (k < W.length → (dealt rule t W).getD k 0 ≤ W.getD k 0) := by
  unfold dealt
  split
  · by_cases hS : sumI W = 0
    · have ht : t = 0 := by omega
      subst ht
      have hz : ∀ n, sumI (List.replicate n (0 : Int)) = 0 := fun n => by
        induction n with
        | zero => rfl
        | succ n ih => rw [List.replicate_succ]; simp only [sumI, ih]; omega
      rw [splitL_zero hS]
      refine ⟨hz _, fun k => ?_⟩
      have e : (List.replicate W.length (0 : Int)).getD k 0 = 0 := by
        by_cases q : k < W.length
        · simp [q]
        · simp [Nat.le_of_not_lt q]
      rw [e]
      refine ⟨Int.le_refl _, fun hk => ?_⟩
      have : W.getD k 0 = W[k] := by simp [hk]
      rw [this]; exact h _ (List.getElem_mem hk)
    · have hp : 0 < sumI W := by have := sumI_nonneg h; omega
      refine ⟨splitL_sum hp, fun k => ?_⟩
      by_cases hk : k < W.length
      · have e : (splitL t W).getD k 0 = shareF t W k := by
          have hk2 : k < (splitL t W).length := by rw [splitL_len]; exact hk
          have : (splitL t W).getD k 0 = (splitL t W)[k] := by simp [hk2]
          rw [this, splitL_get]
        rw [e]
        have := share_le ⟨h0, h1⟩ h hp hk
        exact ⟨this.1, fun _ => this.2⟩
      · have e : (splitL t W).getD k 0 = 0 := by
          have : ¬ k < (splitL t W).length := by rw [splitL_len]; exact hk
          simp [Nat.le_of_not_lt this]
        rw [e]
        exact ⟨Int.le_refl _, fun q => absurd q hk⟩
  · exact byTimeF_facts W t h h0 h1
section
variable {l : List Bd} (hok : ∀ b ∈ l, b.ok) {sd x v rule : Int}
theorem grp_nodup (l : List Bd) (sd x P : Int) : (grp l sd x P).Nodup := ((ids_inc l sd x _).sublist List.filter_sublist).imp (fun h e => by omega)
/-- The fills of one price, in order. -/
theorem grp_fill (P : Int) : (grp l sd x P).map (fillF l sd x v rule) = dealt rule (gotG l sd x v P) (qs l (grp l sd x P)) := by
  apply List.ext_getElem
  · rw [List.length_map, dealt_len, qs_len]
  · intro k h1 h2
    rw [List.getElem_map]
    have hk : k < (grp l sd x P).length := by simpa using h1
    have hp : pI l (grp l sd x P)[k] = P := by simpa using (List.mem_filter.1 (List.getElem_mem hk)).2
    unfold fillF
    rw [hp, List.Nodup.idxOf_getElem (grp_nodup l sd x P) k hk]
    simp [h2]
include hok
theorem got_bound (P : Int) : 0 ≤ gotG l sd x v P ∧ gotG l sd x v P ≤ sumI (qs l (grp l sd x P)) := by
  have := sumI_nonneg (l := qs l (grp l sd x P)) fun y hy => (qs_nonneg hok _ y hy).1
  unfold gotG; omega
theorem grp_sum (P : Int) : sumI ((grp l sd x P).map (fillF l sd x v rule)) = gotG l sd x v P := by
  obtain ⟨h1, h2⟩ := got_bound hok (sd := sd) (x := x) (v := v) P
  rw [grp_fill]
  exact (dealt_facts (fun y hy => (qs_nonneg hok _ y hy).1) h1 h2).1
/-- A fill is from 0 to the quantity. -/
theorem fill_bound {i : Int} (hi : i ∈ ids l sd x) : 0 ≤ fillF l sd x v rule i ∧ fillF l sd x v rule i ≤ qI l i := by
  obtain ⟨h1, h2⟩ := got_bound hok (sd := sd) (x := x) (v := v) (pI l i)
  have hm : i ∈ grp l sd x (pI l i) := List.mem_filter.2 ⟨hi, by simp⟩
  have hk : (grp l sd x (pI l i)).idxOf i < (grp l sd x (pI l i)).length := List.idxOf_lt_length_iff.2 hm
  have := (dealt_facts (rule := rule) (fun y hy => (qs_nonneg hok _ y hy).1) h1 h2).2 ((grp l sd x (pI l i)).idxOf i)
  unfold fillF
  refine ⟨this.1, ?_⟩
  have h3 := this.2 (by rw [qs_len]; exact hk)
  have e : (qs l (grp l sd x (pI l i))).getD ((grp l sd x (pI l i)).idxOf i) 0 = qI l i := by
    simp [qs, hk]
  rw [e] at h3
  exact h3
end
/-- The prices that are served: from the best to a threshold. -/
def srv (sd : Int) (T : Option Int) (P : Int) : Bool := match T with
  | none => false
  | some t => !decide (bet sd t P)
def lev (l : List Bd) (sd x : Int) (T : Option Int) : List Int := (ids l sd x).filter fun i => srv sd T (pI l i)
/-- The best price that is not served. -/
structure NextP (l : List Bd) (sd x : Int) (T : Option Int) (P : Int) : Prop where
  ex : ∃ i ∈ ids l sd x, pI l i = P
  uns : srv sd T P = false
  best : ∀ i ∈ ids l sd x, srv sd T (pI l i) = false → ¬ bet sd (pI l i) P
theorem next_ex {l : List Bd} {sd x : Int} {T : Option Int} : ∀ (m : List Int), (∀ i ∈ m, i ∈ ids l sd x) → (∃ i ∈ m, srv sd T (pI l i) = false) → ∃ P, (∃ i ∈ m, pI l i = P) ∧ srv sd T P = false ∧ ∀ i ∈ m, srv sd T (pI l i) = false → ¬ bet sd (pI l i) P
  | [], _, ⟨i, hi, _⟩ => absurd hi (by simp)
  | j :: m, hm, hex => by
    by_cases hr : ∃ i ∈ m, srv sd T (pI l i) = false
    · obtain ⟨P, ⟨i, hi, e⟩, h2, h3⟩ := next_ex m (fun i hi => hm i (List.mem_cons_of_mem _ hi)) hr
      by_cases hj : srv sd T (pI l j) = false ∧ bet sd (pI l j) P
      · refine ⟨pI l j, ⟨j, List.mem_cons_self, rfl⟩, hj.1, fun k hk hs => ?_⟩
        rcases List.mem_cons.1 hk with rfl | hk
        · exact bet.irr
        · exact fun hb => h3 k hk hs (hb.trans hj.2)
      · refine ⟨P, ⟨i, List.mem_cons_of_mem _ hi, e⟩, h2, fun k hk hs => ?_⟩
        rcases List.mem_cons.1 hk with rfl | hk
        · exact fun hb => hj ⟨hs, hb⟩
        · exact h3 k hk hs
    · obtain ⟨i, hi, hs⟩ := hex
      rcases List.mem_cons.1 hi with rfl | hi
      · refine ⟨pI l i, ⟨i, List.mem_cons_self, rfl⟩, hs, fun k hk hs => ?_⟩
        rcases List.mem_cons.1 hk with rfl | hk
        · exact bet.irr
        · exact absurd ⟨k, hk, hs⟩ hr
      · exact absurd ⟨i, hi, hs⟩ hr
section
variable {l : List Bd} {sd x : Int} {T : Option Int} {P : Int}
theorem NextP.fore (h : NextP l sd x T P) : fore l sd x P = lev l sd x T := by
  unfold Go.Proofs.Ytjhelinbjlahiaa.fore lev
  refine List.filter_congr fun i hi => ?_
  cases hs : srv sd T (pI l i) with
  | true =>
    have : bet sd (pI l i) P := by
      cases T with
      | none => simp [srv] at hs
      | some t =>
        have h1 : ¬ bet sd t (pI l i) := by simpa [srv] using hs
        have h2 : bet sd t P := by simpa [srv] using h.uns
        exact bet.soon h1 h2
    simpa using this
  | false =>
    have := h.best i hi hs
    simpa using this
theorem NextP.split (h : NextP l sd x T P) {i : Int} (hi : i ∈ ids l sd x) : srv sd (some P) (pI l i) = (srv sd T (pI l i) || decide (pI l i = P)) ∧ ¬ (srv sd T (pI l i) = true ∧ pI l i = P) := by
  have hf : decide (bet sd (pI l i) P) = srv sd T (pI l i) := by
    have := h.fore
    cases hs : srv sd T (pI l i) with
    | true =>
      have hm : i ∈ Go.Proofs.Ytjhelinbjlahiaa.fore l sd x P := by rw [this]; exact List.mem_filter.2 ⟨hi, hs⟩
      simpa using (List.mem_filter.1 hm).2
    | false => simpa using h.best i hi hs
  refine ⟨?_, fun ⟨h1, h2⟩ => by rw [h2, h.uns] at h1; cases h1⟩
  rw [← hf]
  have : srv sd (some P) (pI l i) = !decide (bet sd P (pI l i)) := rfl
  rw [this]
  by_cases e : pI l i = P
  · rw [e]; simp [bet.irr]
  · by_cases b : bet sd (pI l i) P
    · simp [b, b.asym]
    · have := bet.tri b e
      simp [b, this, e]
theorem filt_split {α : Type} (g : α → Int) {p q r : α → Bool} : ∀ (m : List α), (∀ i ∈ m, r i = (p i || q i)) → (∀ i ∈ m, ¬ (p i = true ∧ q i = true)) → sumI ((m.filter r).map g) = sumI ((m.filter p).map g) + sumI ((m.filter q).map g)
  | [], _, _ => by simp [sumI]
  | i :: m, h1, h2 => by
    have ih := filt_split g m (fun j hj => h1 j (List.mem_cons_of_mem _ hj)) (fun j hj => h2 j (List.mem_cons_of_mem _ hj))
    have e1 := h1 i List.mem_cons_self
    have e2 := h2 i List.mem_cons_self
    rw [List.filter_cons, List.filter_cons, List.filter_cons, e1]
    cases hp : p i <;> cases hq : q i
    · simpa using ih
    · simp [sumI]; omega
    · simp [sumI]; omega
    · exact absurd ⟨hp, hq⟩ e2
theorem NextP.sum (h : NextP l sd x T P) (g : Int → Int) : sumI ((lev l sd x (some P)).map g) = sumI ((lev l sd x T).map g) + sumI ((grp l sd x P).map g) := by
  unfold lev grp
  exact filt_split g _ (fun i hi => (h.split hi).1) (fun i hi q => (h.split hi).2 ⟨q.1, by simpa using q.2⟩)
end
/-- What is dealt out down to a price. -/
theorem lev_sum {l : List Bd} (hok : ∀ b ∈ l, b.ok) {sd x v rule : Int} (hv : 0 ≤ v) {T : Option Int} {P : Int} (h : NextP l sd x T P) (hT : sumI ((lev l sd x T).map (fillF l sd x v rule)) = min v (sumI (qs l (lev l sd x T)))) : sumI ((lev l sd x (some P)).map (fillF l sd x v rule)) = min v (sumI (qs l (lev l sd x (some P)))) := by
  have h1 := h.sum (fillF l sd x v rule)
  have h2 := h.sum (qI l)
  have h3 := grp_sum hok (sd := sd) (x := x) (v := v) (rule := rule) P
  have h4 := sumI_nonneg (l := qs l (grp l sd x P)) fun y hy => (qs_nonneg hok _ y hy).1
  have h5 := sumI_nonneg (l := qs l (lev l sd x T)) fun y hy => (qs_nonneg hok _ y hy).1
  rw [h1, h3, hT]
  unfold gotG
  rw [h.fore]
  unfold qs at *
  rw [h2]
  omega
theorem all_sum {l : List Bd} (hok : ∀ b ∈ l, b.ok) {sd x v rule : Int} (hv : 0 ≤ v) : ∀ (n : Nat) (T : Option Int), ((ids l sd x).filter fun i => !srv sd T (pI l i)).length ≤ n → sumI ((lev l sd x T).map (fillF l sd x v rule)) = min v (sumI (qs l (lev l sd x T))) → sumI ((ids l sd x).map (fillF l sd x v rule)) = min v (sumI (qs l (ids l sd x)))
  | n, T, hn, hT => by
    by_cases hex : ∃ i ∈ ids l sd x, srv sd T (pI l i) = false
    · obtain ⟨P, p1, p2, p3⟩ := next_ex (ids l sd x) (fun i hi => hi) hex
      have hN : NextP l sd x T P := ⟨p1, p2, p3⟩
      have hlt : ((ids l sd x).filter fun i => !srv sd (some P) (pI l i)).length < ((ids l sd x).filter fun i => !srv sd T (pI l i)).length := by
        obtain ⟨i, hi, e⟩ := p1
        refine filt_lt (a := i) ?_ ?_ _ hi fun j hj hp => ?_
        · rw [(hN.split hi).1, e]; simp
        · rw [e, p2]; rfl
        · rw [(hN.split hj).1] at hp
          simp at hp ⊢
          exact hp.1
      cases n with
      | zero => omega
      | succ n => exact all_sum hok hv n (some P) (by omega) (lev_sum hok hv hN hT)
    · have e : lev l sd x T = ids l sd x := List.filter_eq_self.2 fun i hi => by
        cases hs : srv sd T (pI l i) with
        | true => rfl
        | false => exact absurd ⟨i, hi, hs⟩ hex
      rw [← e]; exact hT
/-- All the fills of a side. -/
theorem fills_sum {l : List Bd} (hok : ∀ b ∈ l, b.ok) {sd x v rule : Int} (hv : 0 ≤ v) : sumI ((ids l sd x).map (fillF l sd x v rule)) = min v (sumI (qs l (ids l sd x))) := by
  refine all_sum hok hv _ none (Nat.le_refl _) ?_
  have : lev l sd x none = [] := List.filter_eq_nil_iff.2 fun i _ => by simp [srv]
  rw [this]; simp [qs, sumI]; omega
theorem sum_eq_all {f g : Int → Int} : ∀ (m : List Int), (∀ i ∈ m, f i ≤ g i) → sumI (m.map f) = sumI (m.map g) → ∀ i ∈ m, f i = g i
  | [], _, _ => by simp
  | j :: m, h, e => by
    simp only [List.map_cons, sumI] at e
    have hle : ∀ (m : List Int), (∀ i ∈ m, f i ≤ g i) → sumI (m.map f) ≤ sumI (m.map g) := fun m hm => by
      induction m with
      | nil => exact Int.le_refl _
      | cons k m ih =>
        have := hm k List.mem_cons_self
        have := ih fun i hi => hm i (List.mem_cons_of_mem _ hi)
        simp only [List.map_cons, sumI]; omega
    have h1 := h j List.mem_cons_self
    have h2 := hle m fun i hi => h i (List.mem_cons_of_mem _ hi)
    intro i hi
    rcases List.mem_cons.1 hi with rfl | hi
    · omega
    · exact sum_eq_all m (fun i hi => h i (List.mem_cons_of_mem _ hi)) (by omega) i hi
/-- Where the volume is all there is, everybody is served in full. -/
theorem fills_full {l : List Bd} (hok : ∀ b ∈ l, b.ok) {sd x v rule : Int} (hv : 0 ≤ v) (h : sumI (qs l (ids l sd x)) ≤ v) {i : Int} (hi : i ∈ ids l sd x) : fillF l sd x v rule i = qI l i := by
  have := fills_sum hok (sd := sd) (x := x) (rule := rule) hv
  exact sum_eq_all (ids l sd x) (fun j hj => (fill_bound hok hj).2) (by rw [this]; unfold qs at h ⊢; omega) i hi
end Go.Proofs.Ytjhelinbjlahiaa
namespace Go.Proofs.Ytjhelinbjlahiaa
set_option linter.unusedSimpArgs false
set_option linter.unusedVariables false
open Go.RowKit
theorem clearF_cases {l : List Bd} (h1 : l.length ≤ 4096) (h2 : ∀ b ∈ l, b.ok) {x rule : Int} (hx : 1 ≤ x ∧ x ≤ 1000000) (hr : rule = 1 ∨ rule = 2) :
    clearF l x rule = ⟨0, 0, 0, [], 30⟩ ∨ (priceZ (zonesL l) x ≠ 0 ∧ min (dem l (priceZ (zonesL l) x)) (sup l (priceZ (zonesL l) x)) ≠ 0 ∧ clearF l x rule = ⟨priceZ (zonesL l) x, min (dem l (priceZ (zonesL l) x)) (sup l (priceZ (zonesL l) x)), dem l (priceZ (zonesL l) x) - sup l (priceZ (zonesL l) x), fillsL l (priceZ (zonesL l) x) (min (dem l (priceZ (zonesL l) x)) (sup l (priceZ (zonesL l) x))) rule, 0⟩) := by
  have e : clearF l x rule = if priceZ (zonesL l) x = 0 then ⟨0, 0, 0, [], 30⟩ else clrF l (priceZ (zonesL l) x) rule := by
    unfold clearF
    rw [if_neg (by rw [chk_ok h1 h2]; decide), if_pos ⟨by rw [inC_of]; simpa using hx, hr⟩]
  rw [e]
  by_cases hp : priceZ (zonesL l) x = 0
  · rw [if_pos hp]; exact .inl rfl
  · rw [if_neg hp]
    unfold clrF
    by_cases hv : min (dem l (priceZ (zonesL l) x)) (sup l (priceZ (zonesL l) x)) = 0
    · rw [if_pos hv]; exact .inl rfl
    · rw [if_neg hv]; exact .inr ⟨hp, hv, rfl⟩
theorem fillOf_cases {l : List Bd} {x v rule : Int} {i : Nat} (hi : i < l.length) :
    (l[i].s = 1 → (x ≤ l[i].p → fillOf l x v rule i = fillF l 1 x v rule i ∧ (i : Int) ∈ ids l 1 x) ∧ (¬ x ≤ l[i].p → fillOf l x v rule i = 0)) ∧
    (l[i].s = 2 → (l[i].p ≤ x → fillOf l x v rule i = fillF l 2 x v rule i ∧ (i : Int) ∈ ids l 2 x) ∧ (¬ l[i].p ≤ x → fillOf l x v rule i = 0)) := by
  have hb := bAt_get hi
  have hm : ∀ sd, (i : Int) ∈ ids l sd x ↔ part sd x l[i] = true := fun sd => by
    unfold ids
    rw [mem_idsTo, hb]
    exact ⟨fun h => h.2.2, fun h => ⟨by omega, by omega, h⟩⟩
  unfold fillOf
  rw [hb, hm, hm]
  constructor
  · intro hs
    have e2 : part 2 x l[i] = false := by unfold part; simp [hs]
    have e1 : part 1 x l[i] = decide (x ≤ l[i].p) := by unfold part Bd.takes; simp [hs]
    rw [e2, e1]
    exact ⟨fun h => by simp [h], fun h => by simp [h]⟩
  · intro hs
    have e2 : part 2 x l[i] = decide (l[i].p ≤ x) := by unfold part Bd.takes; simp [hs]
    have e1 : part 1 x l[i] = false := by unfold part; simp [hs]
    rw [e2, e1]
    exact ⟨fun h => by simp [h], fun h => by simp [h]⟩
section
variable {l : List Bd} (hok : ∀ b ∈ l, b.ok) {x v rule : Int}
include hok
theorem fillOf_bound {i : Nat} (hi : i < l.length) : 0 ≤ fillOf l x v rule i ∧ fillOf l x v rule i ≤ l[i].q := by
  have hb := bAt_get hi
  have hq : qI l i = l[i].q := by unfold qI; rw [hb]
  obtain ⟨h1, h2⟩ := fillOf_cases (l := l) (x := x) (v := v) (rule := rule) hi
  have hbk := hok _ (List.getElem_mem hi)
  obtain ⟨hs, _, _, h4, _⟩ := hbk
  rcases hs with hs | hs
  · by_cases q : x ≤ l[i].p
    · obtain ⟨e, m⟩ := (h1 hs).1 q
      rw [e, ← hq]; exact fill_bound hok m
    · rw [(h1 hs).2 q]; omega
  · by_cases q : l[i].p ≤ x
    · obtain ⟨e, m⟩ := (h2 hs).1 q
      rw [e, ← hq]; exact fill_bound hok m
    · rw [(h2 hs).2 q]; omega
theorem fills_fit : fits l (fillsL l x v rule) := by
  refine ⟨fillsL_len _ _ _ _, (fitF_iff (fillsL_len _ _ _ _).symm).2 fun i h1 h2 => ?_⟩
  rw [fillsL_get]
  exact fillOf_bound hok h1
theorem fills_side : ∀ n, n ≤ l.length → sumB (l.take n) ((fillsL l x v rule).take n) = sumI ((idsTo l 1 x n).map (fillF l 1 x v rule)) ∧ sumS (l.take n) ((fillsL l x v rule).take n) = sumI ((idsTo l 2 x n).map (fillF l 2 x v rule))
  | 0, _ => by simp [sumB, sumS, idsTo, sumI]
  | n + 1, h => by
    have hn : n < l.length := by omega
    have hn2 : n < (fillsL l x v rule).length := by rw [fillsL_len]; exact hn
    obtain ⟨i1, i2⟩ := fills_side n (by omega)
    have hlen : (l.take n).length = ((fillsL l x v rule).take n).length := by rw [List.length_take, List.length_take, fillsL_len]
    rw [take_snoc hn, take_snoc hn2, sumB_snoc _ _ hlen, sumS_snoc _ _ hlen, i1, i2, idsTo_succ, idsTo_succ, fillsL_get, bAt_get hn, List.map_append, List.map_append, sumI_app, sumI_app]
    obtain ⟨h1, h2⟩ := fillOf_cases (l := l) (x := x) (v := v) (rule := rule) hn
    obtain ⟨hs, _⟩ := hok _ (List.getElem_mem hn)
    rcases hs with hs | hs
    · have p2 : part 2 x l[n] = false := by unfold part; simp [hs]
      have p1 : part 1 x l[n] = decide (x ≤ l[n].p) := by unfold part Bd.takes; simp [hs]
      rw [p1, p2, if_pos hs, if_pos hs]
      by_cases q : x ≤ l[n].p
      · rw [((h1 hs).1 q).1]; simp [q, sumI]
      · rw [(h1 hs).2 q]; simp [q, sumI]
    · have p2 : part 2 x l[n] = decide (l[n].p ≤ x) := by unfold part Bd.takes; simp [hs]
      have p1 : part 1 x l[n] = false := by unfold part; simp [hs]
      have n1 : ¬ l[n].s = 1 := by omega
      rw [p1, p2, if_neg n1, if_neg n1]
      by_cases q : l[n].p ≤ x
      · rw [((h2 hs).1 q).1]; simp [q, sumI]
      · rw [(h2 hs).2 q]; simp [q, sumI]
theorem fills_sums (hv : 0 ≤ v) : sumB l (fillsL l x v rule) = min v (dem l x) ∧ sumS l (fillsL l x v rule) = min v (sup l x) := by
  obtain ⟨h1, h2⟩ := fills_side hok (x := x) (v := v) (rule := rule) l.length (Nat.le_refl _)
  rw [List.take_length, show (fillsL l x v rule).take l.length = fillsL l x v rule by rw [← fillsL_len l x v rule, List.take_length]] at h1 h2
  have e1 := fills_sum hok (sd := 1) (x := x) (rule := rule) hv
  have e2 := fills_sum hok (sd := 2) (x := x) (rule := rule) hv
  rw [ids_buy] at e1
  rw [ids_sell hok] at e2
  exact ⟨h1.trans e1, h2.trans e2⟩
/-- Who is served in full, and who gets nothing. -/
theorem fillOf_full (hv : 0 ≤ v) {i : Nat} (hi : i < l.length) :
    (l[i].s = 1 → (l[i].p < x → fillOf l x v rule i = 0) ∧ (dem l x ≤ v → x ≤ l[i].p → fillOf l x v rule i = l[i].q)) ∧
    (l[i].s = 2 → (x < l[i].p → fillOf l x v rule i = 0) ∧ (sup l x ≤ v → l[i].p ≤ x → fillOf l x v rule i = l[i].q)) := by
  have hb := bAt_get hi
  have hq : qI l i = l[i].q := by unfold qI; rw [hb]
  obtain ⟨h1, h2⟩ := fillOf_cases (l := l) (x := x) (v := v) (rule := rule) hi
  refine ⟨fun hs => ⟨fun hp => (h1 hs).2 (by omega), fun hd hp => ?_⟩, fun hs => ⟨fun hp => (h2 hs).2 (by omega), fun hd hp => ?_⟩⟩
  · obtain ⟨e, m⟩ := (h1 hs).1 hp
    rw [e, ← hq]
    exact fills_full hok hv (by rw [ids_buy]; exact hd) m
  · obtain ⟨e, m⟩ := (h2 hs).1 hp
    rw [e, ← hq]
    exact fills_full hok hv (by rw [ids_sell hok]; exact hd) m
end
end Go.Proofs.Ytjhelinbjlahiaa
