/- The dual of the gain, plain: no balanced fills gain more than the dual at any price; those at the price of the auction gain as much as it at some price. -/
import Derived.Test.YtjhelinbjlahiaaJMo0
namespace Go.Proofs.Ytjhelinbjlahiaa
set_option linter.unusedSimpArgs false
set_option linter.unusedVariables false
open Go.RowKit
def dT (P : Int) (b : Bd) : Int := if b.s = 1 then max 0 (b.p - P) * b.q else max 0 (P - b.p) * b.q
def dual (P : Int) : List Bd → Int
  | [] => 0
  | b :: l => dT P b + dual P l
/-- Complementary slackness. -/
def csF (P : Int) : List Bd → List Int → Prop
  | b :: l, x :: f => (b.s = 1 → (P < b.p → x = b.q) ∧ (b.p < P → x = 0)) ∧ (b.s ≠ 1 → (b.p < P → x = b.q) ∧ (P < b.p → x = 0)) ∧ csF P l f
  | _, _ => True
theorem csF_of {P : Int} : ∀ {l : List Bd} {f : List Int}, l.length = f.length → (∀ (i : Nat) (h1 : i < l.length) (h2 : i < f.length), (l[i].s = 1 → (P < l[i].p → f[i] = l[i].q) ∧ (l[i].p < P → f[i] = 0)) ∧ (l[i].s ≠ 1 → (l[i].p < P → f[i] = l[i].q) ∧ (P < l[i].p → f[i] = 0))) → csF P l f
  | [], [], _, _ => trivial
  | b :: l, x :: f, h, q => by
    refine ⟨(q 0 (by simp) (by simp)).1, (q 0 (by simp) (by simp)).2, csF_of (by simpa using h) fun i h1 h2 => ?_⟩
    exact q (i + 1) (by simpa using h1) (by simpa using h2)
theorem part_le {d x q : Int} (h : 0 ≤ x ∧ x ≤ q) : d * x ≤ max 0 d * q := by
  have h1 : d * x ≤ max 0 d * x := Int.mul_le_mul_of_nonneg_right (by omega) h.1
  have h2 : max 0 d * x ≤ max 0 d * q := Int.mul_le_mul_of_nonneg_left h.2 (by omega)
  omega
theorem part_eq {d x q : Int} (h : 0 < d → x = q) (h' : d < 0 → x = 0) : d * x = max 0 d * q := by
  rcases Int.lt_trichotomy d 0 with k | k | k
  · rw [h' k, show max 0 d = 0 by omega]; simp
  · subst k; simp
  · rw [h k, show max 0 d = d by omega]
theorem gT_part (P : Int) (b : Bd) (x : Int) : gT b x = P * (if b.s = 1 then x else -x) + (if b.s = 1 then b.p - P else P - b.p) * x := by
  unfold gT
  split
  · rw [Int.sub_mul]; omega
  · rw [Int.sub_mul, Int.mul_neg]; omega
theorem dT_part (P : Int) (b : Bd) : dT P b = max 0 (if b.s = 1 then b.p - P else P - b.p) * b.q := by unfold dT; split <;> rfl
theorem bal_cons (P : Int) (b : Bd) (x A B : Int) : P * (((if b.s = 1 then x else 0) + A) - ((if b.s = 1 then 0 else x) + B)) = P * (if b.s = 1 then x else -x) + P * (A - B) := by
  rw [← Int.mul_add]
  congr 1
  split <;> omega
theorem weak (P : Int) : ∀ {l : List Bd} {f : List Int}, l.length = f.length → fitF l f → gsum l f ≤ P * (sumB l f - sumS l f) + dual P l
  | [], [], _, _ => by simp [gsum, sumB, sumS, dual]
  | b :: l, x :: f, h, g => by
    have ih := weak P (l := l) (f := f) (by simpa using h) g.2
    simp only [gsum, sumB, sumS, dual]
    rw [bal_cons, gT_part P, dT_part]
    have := part_le (d := if b.s = 1 then b.p - P else P - b.p) g.1
    omega
theorem strong (P : Int) : ∀ {l : List Bd} {f : List Int}, l.length = f.length → csF P l f → gsum l f = P * (sumB l f - sumS l f) + dual P l
  | [], [], _, _ => by simp [gsum, sumB, sumS, dual]
  | b :: l, x :: f, h, g => by
    have ih := strong P (l := l) (f := f) (by simpa using h) g.2.2
    simp only [gsum, sumB, sumS, dual]
    rw [bal_cons, gT_part P, dT_part]
    have : (if b.s = 1 then b.p - P else P - b.p) * x = max 0 (if b.s = 1 then b.p - P else P - b.p) * b.q := by
      apply part_eq
      · intro k
        by_cases hs : b.s = 1
        · rw [if_pos hs] at k; exact (g.1 hs).1 (by omega)
        · rw [if_neg hs] at k; exact (g.2.1 hs).1 (by omega)
      · intro k
        by_cases hs : b.s = 1
        · rw [if_pos hs] at k; exact (g.1 hs).2 (by omega)
        · rw [if_neg hs] at k; exact (g.2.1 hs).2 (by omega)
    omega
theorem dual_nonneg (P : Int) : ∀ {l : List Bd}, (∀ b ∈ l, b.ok) → 0 ≤ dual P l
  | [], _ => by simp [dual]
  | b :: l, h => by
    have ih := dual_nonneg P (l := l) fun c hc => h c (List.mem_cons_of_mem _ hc)
    obtain ⟨_, _, _, h1, _⟩ := h b List.mem_cons_self
    have : 0 ≤ dT P b := by
      rw [dT_part]
      exact Int.mul_nonneg (by omega) (by omega)
    simp only [dual]; omega
/-- Sums of quantities. -/
theorem sumQ_le {f g : Bd → Bool} : ∀ {l : List Bd}, (∀ b ∈ l, b.ok) → (∀ b, f b = true → g b = true) → sumQ f l ≤ sumQ g l
  | [], _, _ => Int.le_refl _
  | b :: l, h, hfg => by
    have ih := sumQ_le (f := f) (g := g) (l := l) (fun c hc => h c (List.mem_cons_of_mem _ hc)) hfg
    obtain ⟨_, _, _, h1, _⟩ := h b List.mem_cons_self
    simp only [sumQ]
    by_cases hf : f b = true
    · rw [if_pos hf, if_pos (hfg b hf)]; omega
    · rw [if_neg hf]; split <;> omega
theorem sumQ_more {f g : Bd → Bool} : ∀ {l : List Bd}, (∀ b ∈ l, b.ok) → (∀ b, f b = true → g b = true) → ∀ {c}, c ∈ l → g c = true → f c = false → sumQ f l + c.q ≤ sumQ g l
  | [], _, _, c, hc, _, _ => absurd hc (by simp)
  | b :: l, h, hfg, c, hc, h1, h2 => by
    have hl : ∀ b ∈ l, b.ok := fun c hc => h c (List.mem_cons_of_mem _ hc)
    obtain ⟨_, _, _, hq, _⟩ := h b List.mem_cons_self
    simp only [sumQ]
    rcases List.mem_cons.1 hc with rfl | hc
    · have := sumQ_le hl hfg
      rw [h1, h2]; simp; omega
    · have := sumQ_more hl hfg hc h1 h2
      by_cases hf : f b = true
      · rw [if_pos hf, if_pos (hfg b hf)]; omega
      · rw [if_neg hf]; split <;> omega
section
variable {l : List Bd} (hok : ∀ b ∈ l, b.ok)
include hok
theorem dem_anti {x y : Int} (h : x ≤ y) : dem l y ≤ dem l x := sumQ_le hok fun b hb => by unfold buyT at *; simp at *; omega
theorem sup_mono {x y : Int} (h : x ≤ y) : sup l x ≤ sup l y := sumQ_le hok fun b hb => by unfold selT at *; simp at *; omega
theorem dem_more {x y : Int} (h : x ≤ y) {b : Bd} (hb : b ∈ l) (hs : b.s = 1) (h1 : x ≤ b.p) (h2 : b.p < y) : dem l y + b.q ≤ dem l x :=
  sumQ_more hok (fun b hb => by unfold buyT at *; simp at *; omega) hb (by unfold buyT; simp; omega) (by unfold buyT; simp; omega)
theorem sup_more {x y : Int} (h : x ≤ y) {b : Bd} (hb : b ∈ l) (hs : b.s ≠ 1) (h1 : x < b.p) (h2 : b.p ≤ y) : sup l x + b.q ≤ sup l y :=
  sumQ_more hok (fun b hb => by unfold selT at *; simp at *; omega) hb (by unfold selT; simp; omega) (by unfold selT; simp; omega)
theorem dem_high {x : Int} (h : 1000000 < x) : dem l x = 0 := by
  have h0 : sumQ (fun _ => false) l = 0 := by
    clear hok
    induction l with
    | nil => rfl
    | cons b l ih => simp only [sumQ, ih]; simp
  have : dem l x = sumQ (fun _ => false) l := sumQ_congr fun b hb => by
    obtain ⟨_, h1, h2, _⟩ := hok b hb
    unfold buyT; simp; omega
  omega
theorem sup_low {x : Int} (h : x < 1) : sup l x = 0 := by
  have h0 : sumQ (fun _ => false) l = 0 := by
    clear hok
    induction l with
    | nil => rfl
    | cons b l ih => simp only [sumQ, ih]; simp
  have : sup l x = sumQ (fun _ => false) l := sumQ_congr fun b hb => by
    obtain ⟨_, h1, h2, _⟩ := hok b hb
    unfold selT; simp; omega
  omega
end
theorem climb (f : Int → Int) (v : Int) : ∀ (n : Nat) (a : Int), v < f a → f (a + n) ≤ v → ∃ y, a ≤ y ∧ v < f y ∧ f (y + 1) ≤ v
  | 0, a, h1, h2 => by simp at h2; omega
  | n + 1, a, h1, h2 => by
    by_cases h : f (a + 1) ≤ v
    · exact ⟨a, Int.le_refl _, h1, h⟩
    · obtain ⟨y, e1, e2, e3⟩ := climb f v n (a + 1) (by omega) (by rw [show a + 1 + (n : Int) = a + ((n + 1 : Nat) : Int) by omega]; exact h2)
      exact ⟨y, by omega, e2, e3⟩
/-- The bids of a better price, and those of one price. -/
theorem ids_filter (l : List Bd) (sd x y : Int) (f : Int → Bool) (h : ∀ b : Bd, ∀ k, bAt l k = b → (f k && part sd x b) = part sd y b) : (ids l sd x).filter f = ids l sd y := by
  unfold ids idsTo
  rw [List.filter_filter]
  exact List.filter_congr fun k _ => h _ k rfl
theorem fore_buy {l : List Bd} {x P : Int} (h : x ≤ P) : fore l 1 x P = ids l 1 (P + 1) := ids_filter l 1 x (P + 1) _ fun b k hb => by
  unfold bet pI part Bd.takes
  rw [hb]
  by_cases hs : b.s = 1
  · simp [hs]; rw [Bool.eq_iff_iff]; simp; omega
  · simp [hs]
theorem fore_sell {l : List Bd} {x P : Int} (h : P ≤ x) : fore l 2 x P = ids l 2 (P - 1) := ids_filter l 2 x (P - 1) _ fun b k hb => by
  unfold bet pI part Bd.takes
  rw [hb]
  by_cases hs : b.s = 2
  · simp [hs]; rw [Bool.eq_iff_iff]; simp; omega
  · simp [hs]
theorem grp_sum_buy {l : List Bd} {x P : Int} (h : x ≤ P) : sumI (qs l (fore l 1 x P)) + sumI (qs l (grp l 1 x P)) = dem l P := by
  have e : (ids l 1 x).filter (fun i => decide (P ≤ pI l i)) = ids l 1 P := ids_filter l 1 x P _ fun b k hb => by
    unfold pI part Bd.takes
    rw [hb]
    by_cases hs : b.s = 1
    · simp [hs]; omega
    · simp [hs]
  rw [← ids_buy, ← e]
  exact (filt_split (qI l) (ids l 1 x) (fun i _ => by rw [Bool.eq_iff_iff]; unfold bet; simp; omega) (fun i _ q => by unfold bet at q; simp at q; omega)).symm
theorem grp_sum_sell {l : List Bd} (hok : ∀ b ∈ l, b.ok) {x P : Int} (h : P ≤ x) : sumI (qs l (fore l 2 x P)) + sumI (qs l (grp l 2 x P)) = sup l P := by
  have e : (ids l 2 x).filter (fun i => decide (pI l i ≤ P)) = ids l 2 P := ids_filter l 2 x P _ fun b k hb => by
    unfold pI part Bd.takes
    rw [hb]
    by_cases hs : b.s = 2
    · simp [hs]; omega
    · simp [hs]
  rw [← ids_sell hok, ← e]
  exact (filt_split (qI l) (ids l 2 x) (fun i _ => by rw [Bool.eq_iff_iff]; unfold bet; simp; omega) (fun i _ q => by unfold bet at q; simp at q; omega)).symm
section
variable {l : List Bd} (hok : ∀ b ∈ l, b.ok) {sd x v rule : Int}
include hok
theorem fill_whole {i : Int} (hi : i ∈ ids l sd x) (h : sumI (qs l (fore l sd x (pI l i))) + sumI (qs l (grp l sd x (pI l i))) ≤ v) : fillF l sd x v rule i = qI l i := by
  have e := grp_sum hok (sd := sd) (x := x) (v := v) (rule := rule) (pI l i)
  have hg := got_bound hok (sd := sd) (x := x) (v := v) (pI l i)
  have : gotG l sd x v (pI l i) = sumI (qs l (grp l sd x (pI l i))) := by unfold gotG; omega
  rw [this] at e
  exact sum_eq_all _ (fun j hj => (fill_bound hok (List.mem_filter.1 hj).1).2) e i (List.mem_filter.2 ⟨hi, by simp⟩)
theorem fill_naught {i : Int} (hi : i ∈ ids l sd x) (h : v ≤ sumI (qs l (fore l sd x (pI l i)))) : fillF l sd x v rule i = 0 := by
  have e := grp_sum hok (sd := sd) (x := x) (v := v) (rule := rule) (pI l i)
  have hg := got_bound hok (sd := sd) (x := x) (v := v) (pI l i)
  have : gotG l sd x v (pI l i) = 0 := by unfold gotG at hg ⊢; omega
  rw [this] at e
  have hz : ∀ m : List Int, sumI (m.map fun _ => (0 : Int)) = 0 := fun m => by
    induction m with
    | nil => rfl
    | cons a m ih => simp only [List.map_cons, sumI, ih]; omega
  exact (sum_eq_all (f := fun _ => 0) (g := fillF l sd x v rule) (grp l sd x (pI l i)) (fun j hj => (fill_bound hok (List.mem_filter.1 hj).1).1) (by rw [hz, e]) i (List.mem_filter.2 ⟨hi, by simp⟩)).symm
theorem fills_cs (hx : 1 ≤ x ∧ x ≤ 1000000) (hv : v = volX l x) (hm : ∀ y, 1 ≤ y → y ≤ 1000000 → volX l y ≤ v) : ∃ P, csF P l (fillsL l x v rule) := by
  have hv0 : 0 ≤ v := by
    have h1 := dem_anti hok (x := x) (y := 1000001) (by omega)
    rw [dem_high hok (by omega)] at h1
    have h2 := sup_mono hok (x := 0) (y := x) (by omega)
    rw [sup_low hok (by omega)] at h2
    rw [hv]; unfold volX; omega
  have key : ∀ P, (∀ (i : Nat) (h1 : i < l.length), (l[i].s = 1 → (P < l[i].p → fillOf l x v rule i = l[i].q) ∧ (l[i].p < P → fillOf l x v rule i = 0)) ∧ (l[i].s = 2 → (l[i].p < P → fillOf l x v rule i = l[i].q) ∧ (P < l[i].p → fillOf l x v rule i = 0))) → csF P l (fillsL l x v rule) := fun P h => by
    refine csF_of (fillsL_len _ _ _ _).symm fun i h1 h2 => ?_
    rw [fillsL_get]
    refine ⟨(h i h1).1, fun hs => (h i h1).2 ?_⟩
    have := (hok _ (List.getElem_mem h1)).1
    omega
  by_cases hd : v < dem l x
  · have hs : sup l x = v := by rw [hv] at hd ⊢; unfold volX at hd ⊢; omega
    obtain ⟨P, p1, p2, p3⟩ := climb (dem l) v (1000001 - x).toNat x hd (by
      rw [show x + ((1000001 - x).toNat : Int) = 1000001 by omega, dem_high hok (by omega)]; exact hv0)
    refine ⟨P, key P fun i hi => ?_⟩
    have hb := bAt_get hi
    have hq : qI l i = l[i].q := by unfold qI; rw [hb]
    have hp : pI l i = l[i].p := by unfold pI; rw [hb]
    obtain ⟨c1, c2⟩ := fillOf_cases (l := l) (x := x) (v := v) (rule := rule) hi
    obtain ⟨f1, f2⟩ := fillOf_full hok (x := x) (v := v) (rule := rule) hv0 hi
    obtain ⟨_, r1, r2, r3, _⟩ := hok _ (List.getElem_mem hi)
    refine ⟨fun e => ⟨fun h => ?_, fun h => ?_⟩, fun e => ⟨fun h => ?_, fun h => ?_⟩⟩
    · obtain ⟨e1, m⟩ := (c1 e).1 (by omega)
      rw [e1, ← hq]
      refine fill_whole hok m ?_
      rw [hp, grp_sum_buy (by omega)]
      have := dem_anti hok (x := P + 1) (y := l[i].p) (by omega)
      omega
    · by_cases hx2 : x ≤ l[i].p
      · obtain ⟨e1, m⟩ := (c1 e).1 hx2
        rw [e1]
        refine fill_naught hok m ?_
        rw [hp, fore_buy hx2, ids_buy]
        have := dem_anti hok (x := l[i].p + 1) (y := P) (by omega)
        omega
      · exact (c1 e).2 hx2
    · by_cases hx2 : l[i].p ≤ x
      · exact (f2 e).2 (by omega) hx2
      · have h1 := sup_more hok (x := x) (y := l[i].p) (by omega) (List.getElem_mem hi) (by omega) (by omega) (by omega)
        have h2 := dem_anti hok (x := l[i].p) (y := P) (by omega)
        have h3 := hm l[i].p r1 r2
        unfold volX at h3; omega
    · exact (c2 e).2 (by omega)
  · by_cases hs : v < sup l x
    · have hd2 : dem l x = v := by rw [hv] at hd hs ⊢; unfold volX at hd hs ⊢; omega
      obtain ⟨y, p1, p2, p3⟩ := climb (fun y => sup l (-y)) v x.toNat (-x) (by simpa using hs) (by
        rw [show -x + (x.toNat : Int) = 0 by omega]
        show sup l (-0) ≤ v
        rw [sup_low hok (by omega)]; exact hv0)
      obtain ⟨P, hP⟩ : ∃ P, P = -y := ⟨_, rfl⟩
      have p2' : v < sup l P := by rw [hP]; exact p2
      have p3' : sup l (P - 1) ≤ v := by rw [hP, show -y - 1 = -(y + 1) by omega]; exact p3
      have p1' : P ≤ x := by omega
      clear p1 p2 p3 hP
      refine ⟨P, key P fun i hi => ?_⟩
      have hb := bAt_get hi
      have hq : qI l i = l[i].q := by unfold qI; rw [hb]
      have hp : pI l i = l[i].p := by unfold pI; rw [hb]
      obtain ⟨c1, c2⟩ := fillOf_cases (l := l) (x := x) (v := v) (rule := rule) hi
      obtain ⟨f1, f2⟩ := fillOf_full hok (x := x) (v := v) (rule := rule) hv0 hi
      obtain ⟨_, r1, r2, r3, _⟩ := hok _ (List.getElem_mem hi)
      refine ⟨fun e => ⟨fun h => ?_, fun h => ?_⟩, fun e => ⟨fun h => ?_, fun h => ?_⟩⟩
      · by_cases hx2 : x ≤ l[i].p
        · exact (f1 e).2 (by omega) hx2
        · have h1 := dem_more hok (x := l[i].p) (y := x) (by omega) (List.getElem_mem hi) e (by omega) (by omega)
          have h2 := sup_mono hok (x := P) (y := l[i].p) (by omega)
          have h3 := hm l[i].p r1 r2
          unfold volX at h3; omega
      · exact (c1 e).2 (by omega)
      · obtain ⟨e1, m⟩ := (c2 e).1 (by omega)
        rw [e1, ← hq]
        refine fill_whole hok m ?_
        rw [hp, grp_sum_sell hok (by omega)]
        have := sup_mono hok (x := l[i].p) (y := P - 1) (by omega)
        omega
      · by_cases hx2 : l[i].p ≤ x
        · obtain ⟨e1, m⟩ := (c2 e).1 hx2
          rw [e1]
          refine fill_naught hok m ?_
          rw [hp, fore_sell hx2, ids_sell hok]
          have := sup_mono hok (x := P) (y := l[i].p - 1) (by omega)
          omega
        · exact (c2 e).2 hx2
    · refine ⟨x, key x fun i hi => ?_⟩
      obtain ⟨f1, f2⟩ := fillOf_full hok (x := x) (v := v) (rule := rule) hv0 hi
      exact ⟨fun e => ⟨fun h => (f1 e).2 (by omega) (by omega), fun h => (f1 e).1 h⟩, fun e => ⟨fun h => (f2 e).2 (by omega) (by omega), fun h => (f2 e).1 h⟩⟩
/-- The gain at a price of the greatest volume is the dual at some price. -/
theorem gain_dual (hx : 1 ≤ x ∧ x ≤ 1000000) (hv : v = volX l x) (hm : ∀ y, 1 ≤ y → y ≤ 1000000 → volX l y ≤ v) : ∃ P, gsum l (fillsL l x v rule) = dual P l := by
  obtain ⟨P, h⟩ := fills_cs hok (rule := rule) hx hv hm
  refine ⟨P, ?_⟩
  have hv0 : 0 ≤ v := by
    have h1 := dem_anti hok (x := x) (y := 1000001) (by omega)
    rw [dem_high hok (by omega)] at h1
    have h2 := sup_mono hok (x := 0) (y := x) (by omega)
    rw [sup_low hok (by omega)] at h2
    rw [hv]; unfold volX; omega
  rw [strong P (fillsL_len _ _ _ _).symm h]
  obtain ⟨s1, s2⟩ := fills_sums hok (x := x) (v := v) (rule := rule) hv0
  rw [s1, s2]
  have : min v (dem l x) - min v (sup l x) = 0 := by rw [hv]; unfold volX; omega
  rw [this]; simp
theorem gain_weak (P : Int) (hv : v = volX l x) : gsum l (fillsL l x v rule) ≤ dual P l := by
  obtain ⟨s1, s2⟩ := fills_sums hok (x := x) (v := v) (rule := rule) (by
    have h1 := dem_anti hok (x := x) (y := max x 1000001) (by omega)
    rw [dem_high hok (by omega)] at h1
    have h2 := sup_mono hok (x := min 0 x) (y := x) (by omega)
    rw [sup_low hok (by omega)] at h2
    rw [hv]; unfold volX; omega)
  have h := weak P (fillsL_len l x v rule).symm (fills_fit hok).2
  rw [s1, s2] at h
  have : min v (dem l x) - min v (sup l x) = 0 := by rw [hv]; unfold volX; omega
  rw [this] at h; simpa using h
end
end Go.Proofs.Ytjhelinbjlahiaa
