/- The hall in plain Lean: what the least prices say of the greatest sums of worths. No program in sight. -/
import Derived.Test.YtojednnciknhpaaDoorJPm2
namespace Go.Proofs.YtojednnciknhpaaDoor
set_option linter.unusedSimpArgs false
set_option linter.unusedVariables false
open Go.RowKit
/-! ### sums and counts -/
def sumS : Nat → (Nat → Int) → Int
  | 0, _ => 0
  | n + 1, f => f 0 + sumS n fun i => f (i + 1)
theorem sumS_congr : ∀ (n : Nat) {f g : Nat → Int}, (∀ i, i < n → f i = g i) → sumS n f = sumS n g
  | 0, _, _, _ => rfl
  | n + 1, f, g, h => by
    rw [sumS, sumS, h 0 (by omega), sumS_congr n fun i hi => h (i + 1) (by omega)]
theorem sumS_add : ∀ (n : Nat) (f g : Nat → Int), sumS n (fun i => f i + g i) = sumS n f + sumS n g
  | 0, _, _ => rfl
  | n + 1, f, g => by
    rw [sumS, sumS, sumS, sumS_add n (fun i => f (i + 1)) fun i => g (i + 1)]
    omega
theorem sumS_le : ∀ (n : Nat) {f g : Nat → Int}, (∀ i, i < n → f i ≤ g i) → sumS n f ≤ sumS n g
  | 0, _, _, _ => Int.le_refl _
  | n + 1, f, g, h => by
    rw [sumS, sumS]
    have := h 0 (by omega)
    have := sumS_le n fun i hi => h (i + 1) (by omega)
    omega
theorem sumS_zero : ∀ n : Nat, sumS n (fun _ => 0) = 0
  | 0 => rfl
  | n + 1 => by rw [sumS, sumS_zero n]; rfl
theorem sumS_at : ∀ (n x : Nat) (y : Int), sumS n (fun k => if k = x then y else 0) = if x < n then y else 0
  | 0, x, y => by rw [if_neg (by omega)]; rfl
  | n + 1, 0, y => by
    rw [sumS, if_pos rfl, if_pos (by omega)]
    have : sumS n (fun i => if i + 1 = 0 then y else 0) = sumS n fun _ => 0 := sumS_congr n fun i _ => if_neg (by omega)
    rw [this, sumS_zero]
    omega
  | n + 1, x + 1, y => by
    rw [sumS, if_neg (by omega)]
    have : sumS n (fun i => if i + 1 = x + 1 then y else 0) = sumS n fun i => if i = x then y else 0 := sumS_congr n fun i _ => by
      by_cases h : i = x
      · rw [if_pos h, if_pos (by omega)]
      · rw [if_neg h, if_neg (by omega)]
    rw [this, sumS_at n x y]
    by_cases h : x < n
    · rw [if_pos h, if_pos (by omega)]; omega
    · rw [if_neg h, if_neg (by omega)]; rfl
def cntS : Nat → (Nat → Bool) → Nat
  | 0, _ => 0
  | n + 1, P => (if P 0 = true then 1 else 0) + cntS n fun i => P (i + 1)
theorem cntS_none : ∀ (n : Nat) {P : Nat → Bool}, (∀ i, i < n → P i = false) → cntS n P = 0
  | 0, _, _ => rfl
  | n + 1, P, h => by
    rw [cntS, h 0 (by omega), cntS_none n fun i hi => h (i + 1) (by omega)]
    rfl
theorem cntS_le_one : ∀ (n : Nat) {P : Nat → Bool}, (∀ i k, i < n → k < n → P i = true → P k = true → i = k) → cntS n P ≤ 1
  | 0, _, _ => by simp [cntS]
  | n + 1, P, h => by
    rw [cntS]
    by_cases h0 : P 0 = true
    · rw [cntS_none n fun i hi => ?_]
      · split <;> omega
      · cases e : P (i + 1) with
        | false => rfl
        | true => exact absurd (h 0 (i + 1) (by omega) (by omega) h0 e) (by omega)
    · rw [if_neg h0]
      have := cntS_le_one n (P := fun i => P (i + 1)) fun i k hi hk h1 h2 => by
        have := h (i + 1) (k + 1) (by omega) (by omega) h1 h2
        omega
      omega
theorem cntS_pos : ∀ (n : Nat) {P : Nat → Bool} {i : Nat}, i < n → P i = true → 1 ≤ cntS n P
  | 0, _, _, h, _ => absurd h (by omega)
  | n + 1, P, 0, _, h => by rw [cntS, if_pos h]; omega
  | n + 1, P, i + 1, hi, h => by
    rw [cntS]
    have := cntS_pos n (P := fun i => P (i + 1)) (i := i) (by omega) h
    omega
theorem cntS_or : ∀ (n : Nat) {P A B : Nat → Bool}, (∀ i, i < n → P i = (A i || B i)) → (∀ i, i < n → ¬ (A i = true ∧ B i = true)) → cntS n P = cntS n A + cntS n B
  | 0, _, _, _, _, _ => rfl
  | n + 1, P, A, B, h, hd => by
    rw [cntS, cntS, cntS, cntS_or n (fun i hi => h (i + 1) (by omega)) fun i hi => hd (i + 1) (by omega), h 0 (by omega)]
    have := hd 0 (by omega)
    cases ea : A 0 <;> cases eb : B 0 <;> rw [ea, eb] at this <;> simp at this ⊢ <;> omega
theorem cntS_congr (n : Nat) {P Q : Nat → Bool} (h : ∀ i, i < n → P i = Q i) : cntS n P = cntS n Q := by
  have := cntS_or n (P := P) (A := Q) (B := fun _ => false) (fun i hi => by rw [h i hi]; simp) fun i _ => by simp
  rw [this, cntS_none n (P := fun _ => false) fun _ _ => rfl]
  rfl
/-- The sum over buyers is the sum over lots, each as often as it is given. -/
theorem sum_lots (n : Nat) (P : Nat → Int) : ∀ (N : Nat) (s : Nat → Int), (∀ i, i < N → s i < (n : Int)) → sumS N (fun i => if s i < 0 then 0 else P (s i).toNat) = sumS n fun k => (cntS N (fun i => decide (s i = (k : Int))) : Int) * P k
  | 0, s, _ => by
    rw [sumS]
    have : sumS n (fun k => ((cntS 0 (fun i => decide (s i = (k : Int))) : Nat) : Int) * P k) = sumS n fun _ => 0 := sumS_congr n fun k _ => by simp [cntS]
    rw [this, sumS_zero]
  | N + 1, s, h => by
    rw [sumS, sum_lots n P N (fun i => s (i + 1)) fun i hi => h (i + 1) (by omega)]
    have h0 := h 0 (by omega)
    have e : sumS n (fun k => ((cntS (N + 1) (fun i => decide (s i = (k : Int))) : Nat) : Int) * P k) = sumS n fun k => (if k = (s 0).toNat then (if s 0 < 0 then 0 else P k) else 0) + ((cntS N (fun i => decide (s (i + 1) = (k : Int))) : Nat) : Int) * P k := sumS_congr n fun k hk => by
      rw [cntS]
      by_cases q : s 0 = (k : Int)
      · rw [if_pos (by simpa using q), if_pos (by omega), if_neg (by omega)]
        rw [Int.natCast_add, Int.add_mul]
        simp
      · rw [if_neg (by simpa using q)]
        by_cases q2 : k = (s 0).toNat
        · rw [if_pos q2, if_pos (by omega)]
          simp
        · rw [if_neg q2]
          simp
    rw [e, sumS_add]
    congr 1
    by_cases q : s 0 < 0
    · rw [if_pos q]
      rw [show (fun k => if k = (s 0).toNat then (if s 0 < 0 then 0 else P k) else 0) = fun _ => (0 : Int) from funext fun k => by rw [if_pos q]; split <;> rfl, sumS_zero]
    · rw [if_neg q]
      rw [show (fun k => if k = (s 0).toNat then (if s 0 < 0 then 0 else P k) else 0) = fun k => if k = (s 0).toNat then P (s 0).toNat else 0 from funext fun k => by rw [if_neg q]; split <;> simp_all, sumS_at, if_pos (by omega)]
/-! ### the greatest sums -/
def pickC (row : List Int) (V : List Nat → Int) (c : List Nat) : List Nat → Int → Int
  | [], m => m
  | k :: ks, m => pickC row V c ks (if c.getD k 0 = 0 then m else max m (row.getD k 0 + V (c.set k (c.getD k 0 - 1))))
/-- The greatest sum of worths with so many copies of each lot. -/
def valC : List (List Int) → List Nat → Int
  | [], _ => 0
  | row :: r, c => pickC row (valC r) c (List.range c.length) (valC r c)
theorem pickC_ge (row : List Int) (V : List Nat → Int) (c : List Nat) : ∀ (ks : List Nat) (m : Int), m ≤ pickC row V c ks m ∧ ∀ k ∈ ks, c.getD k 0 ≠ 0 → row.getD k 0 + V (c.set k (c.getD k 0 - 1)) ≤ pickC row V c ks m
  | [], m => ⟨Int.le_refl _, fun _ h => by cases h⟩
  | a :: ks, m => by
    obtain ⟨i1, i2⟩ := pickC_ge row V c ks (if c.getD a 0 = 0 then m else max m (row.getD a 0 + V (c.set a (c.getD a 0 - 1))))
    rw [pickC]
    refine ⟨?_, fun k hk h => ?_⟩
    · split at i1 <;> rename_i q
      · rw [if_pos q]; exact i1
      · rw [if_neg q]; omega
    · rcases List.mem_cons.1 hk with rfl | hk
      · rw [if_neg h] at i1 ⊢
        omega
      · exact i2 k hk h
theorem pickC_le (row : List Int) (V : List Nat → Int) (c : List Nat) (M : Int) : ∀ (ks : List Nat) (m : Int), m ≤ M → (∀ k ∈ ks, c.getD k 0 ≠ 0 → row.getD k 0 + V (c.set k (c.getD k 0 - 1)) ≤ M) → pickC row V c ks m ≤ M
  | [], m, h, _ => h
  | a :: ks, m, h, hk => by
    rw [pickC]
    refine pickC_le row V c M ks _ ?_ fun k hk' => hk k (List.mem_cons_of_mem _ hk')
    split
    · exact h
    · rename_i q
      have := hk a List.mem_cons_self q
      omega
def cpS (n : Nat) (c : List Nat) (p : List Int) : Int := sumS n fun k => (c.getD k 0 : Int) * p.getD k 0
theorem cpS_nonneg (n : Nat) (c : List Nat) {p : List Int} (hp : nonNeg p) : 0 ≤ cpS n c p := by
  have := sumS_le n (f := fun _ => 0) (g := fun k => (c.getD k 0 : Int) * p.getD k 0) fun k _ => Int.mul_nonneg (by omega) (hp.getD k)
  rw [sumS_zero] at this
  exact this
theorem cpS_set {n : Nat} {c : List Nat} {p : List Int} {k : Nat} (hk : k < n) (hc : k < c.length) (h : c.getD k 0 ≠ 0) : cpS n (c.set k (c.getD k 0 - 1)) p = cpS n c p - p.getD k 0 := by
  unfold cpS
  have e : sumS n (fun i => (c.getD i 0 : Int) * p.getD i 0) = sumS n fun i => ((c.set k (c.getD k 0 - 1)).getD i 0 : Int) * p.getD i 0 + if i = k then p.getD k 0 else 0 := sumS_congr n fun i _ => by
    by_cases q : i = k
    · subst q
      rw [if_pos rfl, getD_set_eq hc, show ((c.getD i 0 - 1 : Nat) : Int) = (c.getD i 0 : Int) - 1 by omega, Int.sub_mul]
      omega
    · rw [if_neg q, getD_set_other q]
      omega
  rw [e, sumS_add, sumS_at, if_pos hk]
  omega
/-- No sum is greater than what buyers gain and lots cost. -/
theorem valC_le {p : List Int} (hp : nonNeg p) : ∀ (r : List (List Int)) (c : List Nat), c.length = p.length → (∀ x ∈ r, x.length = p.length) → valC r c ≤ sumS r.length (fun i => gainF (r.getD i []) p) + cpS p.length c p
  | [], c, _, _ => by
    have := cpS_nonneg p.length c hp
    simp only [valC, List.length_nil, sumS]
    omega
  | row :: r, c, hc, hr => by
    have hrow := hr row List.mem_cons_self
    have ih := fun c hc => valC_le hp r c hc fun x hx => hr x (List.mem_cons_of_mem _ hx)
    have g0 := gainF_nonneg row p
    have e : sumS (row :: r).length (fun i => gainF ((row :: r).getD i []) p) = gainF row p + sumS r.length fun i => gainF (r.getD i []) p := by
      rw [List.length_cons, sumS]
      rfl
    rw [e, valC]
    refine pickC_le _ _ _ _ _ _ (by have := ih c hc; omega) fun k hk h => ?_
    have hk' : k < c.length := by simpa using hk
    have h1 := ih (c.set k (c.getD k 0 - 1)) (by simpa using hc)
    rw [cpS_set (by omega) hk' h] at h1
    have h2 := gainF_ub (row := row) (prices := p) (j := k) (by omega) (by omega)
    omega
/-- A sum that can be had. -/
theorem valC_ge : ∀ (r : List (List Int)) (c : List Nat) (s : Nat → Int), (∀ i, i < r.length → s i < (c.length : Int)) → (∀ k, k < c.length → cntS r.length (fun i => decide (s i = (k : Int))) ≤ c.getD k 0) → sumS r.length (fun i => if s i < 0 then 0 else (r.getD i []).getD (s i).toNat 0) ≤ valC r c
  | [], _, _, _, _ => Int.le_refl _
  | row :: r, c, s, hr, hc => by
    rw [List.length_cons, sumS, valC]
    have h0 := hr 0 (by simp)
    have cn : ∀ k, k < c.length → (if s 0 = (k : Int) then 1 else 0) + cntS r.length (fun i => decide (s (i + 1) = (k : Int))) ≤ c.getD k 0 := fun k hk => by
      have := hc k hk
      rw [List.length_cons, cntS] at this
      simpa using this
    have e : sumS r.length (fun i => if s (i + 1) < 0 then 0 else ((row :: r).getD (i + 1) []).getD (s (i + 1)).toNat 0) = sumS r.length fun i => if s (i + 1) < 0 then 0 else (r.getD i []).getD (s (i + 1)).toNat 0 := sumS_congr _ fun i _ => by simp
    rw [e]
    obtain ⟨p1, p2⟩ := pickC_ge row (valC r) c (List.range c.length) (valC r c)
    by_cases q : s 0 < 0
    · rw [if_pos q]
      have := valC_ge r c (fun i => s (i + 1)) (fun i hi => hr (i + 1) (by simpa using hi)) fun k hk => by
        have := cn k hk
        rw [if_neg (by omega)] at this
        omega
      omega
    · rw [if_neg q]
      obtain ⟨j, hj⟩ : ∃ j : Nat, s 0 = (j : Int) := ⟨(s 0).toNat, by omega⟩
      have hjc : j < c.length := by omega
      have cj := cn j hjc
      rw [if_pos hj] at cj
      have hne : c.getD j 0 ≠ 0 := by omega
      have h1 := valC_ge r (c.set j (c.getD j 0 - 1)) (fun i => s (i + 1)) (fun i hi => by rw [List.length_set]; exact hr (i + 1) (by simpa using hi)) fun k hk => by
        rw [List.length_set] at hk
        have := cn k hk
        by_cases qk : k = j
        · subst qk
          rw [getD_set_eq hjc]
          omega
        · rw [getD_set_other qk]
          rw [if_neg (by omega)] at this
          omega
      have h2 := p2 j (List.mem_range.2 hjc) hne
      rw [hj]
      simp only [List.getD_cons_zero, Int.toNat_natCast]
      omega
/-! ### what contented buyers get -/
/-- The sum of worths if each of some buyers is content, or left out with nothing. -/
theorem sum_cont {L : List (List Int)} {p : List Int} {s : Nat → Int} {W : Nat → Bool} (h : ∀ i, i < L.length → W i = true ∧ Cont L p i (s i) ∨ W i = false ∧ s i = -1) : sumS L.length (fun i => if s i < 0 then 0 else (L.getD i []).getD (s i).toNat 0) = sumS L.length (fun i => if W i = true then gainF (L.getD i []) p else 0) + sumS L.length (fun i => if s i < 0 then 0 else p.getD (s i).toNat 0) := by
  rw [← sumS_add]
  refine sumS_congr _ fun i hi => ?_
  rcases h i hi with ⟨hw, h1⟩ | ⟨hw, h1⟩
  · rw [if_pos hw]
    rcases h1 with ⟨h1, h2⟩ | ⟨j, h1, h2⟩
    · have hneg : s i < 0 := by omega
      rw [if_pos hneg, if_pos hneg, h2]
      rfl
    · have hneg : ¬ s i < 0 := by omega
      rw [if_neg hneg, if_neg hneg, show (s i).toNat = j by omega]
      have := (mem_wants.1 h2).2.2
      omega
  · have hneg : s i < 0 := by omega
    rw [if_pos hneg, if_pos hneg, if_neg (by rw [hw]; simp)]
    rfl
/-- The lots of contented buyers, all sold that have a price. -/
theorem sum_sold {N : Nat} {p : List Int} {c : List Nat} {s : Nat → Int} (hs : ∀ i, i < N → s i < (p.length : Int)) (hc : ∀ k, k < p.length → p.getD k 0 = 0 ∨ cntS N (fun i => decide (s i = (k : Int))) = c.getD k 0) : sumS N (fun i => if s i < 0 then 0 else p.getD (s i).toNat 0) = cpS p.length c p := by
  rw [sum_lots p.length (fun k => p.getD k 0) N s hs]
  unfold cpS
  refine sumS_congr _ fun k hk => ?_
  rcases hc k hk with h | h
  · rw [h]; simp
  · rw [h]
theorem sum_all (L : List (List Int)) (p : List Int) : sumS L.length (fun i => if (fun _ : Nat => true) i = true then gainF (L.getD i []) p else 0) = sumS L.length fun i => gainF (L.getD i []) p := sumS_congr _ fun i _ => by simp
theorem cont_lt {L : List (List Int)} {p : List Int} {i : Nat} {x : Int} (h : Cont L p i x) : x < (p.length : Int) := by
  rcases h with ⟨h, _⟩ | ⟨j, h, h2⟩
  · omega
  · have := dem_lt h2; omega
/-- The greatest sum of worths, where contented buyers take all lots that have a price. -/
theorem valC_eq {L : List (List Int)} {p : List Int} {c : List Nat} {s : Nat → Int} (ok : OkH L p.length) (hp : nonNeg p) (hl : c.length = p.length) (h : ∀ i, i < L.length → Cont L p i (s i)) (hle : ∀ k, k < p.length → cntS L.length (fun i => decide (s i = (k : Int))) ≤ c.getD k 0) (hc : ∀ k, k < p.length → p.getD k 0 = 0 ∨ cntS L.length (fun i => decide (s i = (k : Int))) = c.getD k 0) : valC L c = sumS L.length (fun i => gainF (L.getD i []) p) + cpS p.length c p := by
  have h1 := valC_le hp L c hl fun x hx => ok.len x hx
  have h2 := valC_ge L c s (fun i hi => by rw [hl]; exact cont_lt (h i hi)) fun k hk => hle k (by omega)
  rw [sum_cont (W := fun _ => true) fun i hi => .inl ⟨rfl, h i hi⟩, sum_sold (fun i hi => cont_lt (h i hi)) hc, sum_all] at h2
  omega
/-- A balance is a greatest sum. -/
theorem BalL.val {L : List (List Int)} {p s : List Int} (ok : OkH L p.length) (hp : nonNeg p) (h : BalL L p s) : valC L (List.replicate p.length 1) = sumS L.length (fun i => gainF (L.getD i []) p) + cpS p.length (List.replicate p.length 1) p := by
  have c1 : ∀ k, k < p.length → (List.replicate p.length 1).getD k 0 = 1 := fun k hk => by simp [hk]
  have le1 : ∀ k, k < p.length → cntS L.length (fun i => decide (s.getD i (-1) = (k : Int))) ≤ 1 := fun k _ => cntS_le_one _ fun i m hi hm h1 h2 => by
    have h1 := of_decide_eq_true h1
    have h2 := of_decide_eq_true h2
    exact h.inj i m hi hm (by rw [h1, h2]) (by omega)
  refine valC_eq (s := fun i => s.getD i (-1)) ok hp (by simp) h.cont (fun k hk => by rw [c1 k hk]; exact le1 k hk) fun k hk => ?_
  by_cases q : p.getD k 0 = 0
  · exact .inl q
  · right
    rw [c1 k hk]
    have := hp.getD k
    obtain ⟨i, i1, i2⟩ := mem_getD (h.sold k hk (by omega))
    have := cntS_pos L.length (P := fun i => decide (s.getD i (-1) = (k : Int))) (i := i) (by have := h.len; omega) (by simpa using i2)
    have := le1 k hk
    omega
/-- A second copy of a lot adds its price. -/
theorem LeastP.second {L : List (List Int)} {n : Nat} {p : List Int} (ok : OkH L n) (h : LeastP L n p) {j : Nat} (hj : j < n) : valC L ((List.replicate n 1).set j 2) = sumS L.length (fun i => gainF (L.getD i []) p) + cpS n (List.replicate n 1) p + p.getD j 0 := by
  have hl := h.len
  subst hl
  have hp := h.ok.nn
  have g2 : ∀ k, k < p.length → ((List.replicate p.length 1).set j 2).getD k 0 = if k = j then 2 else 1 := fun k hk => by
    by_cases q : k = j
    · subst q; rw [getD_set_eq (by simpa using hk), if_pos rfl]
    · rw [getD_set_other q, if_neg q]; simp [hk]
  have ecp : cpS p.length ((List.replicate p.length 1).set j 2) p = cpS p.length (List.replicate p.length 1) p + p.getD j 0 := by
    unfold cpS
    have : sumS p.length (fun k => ((((List.replicate p.length 1 : List Nat).set j 2).getD k 0 : Nat) : Int) * p.getD k 0) = sumS p.length fun k => (((List.replicate p.length 1).getD k 0 : Nat) : Int) * p.getD k 0 + if k = j then p.getD j 0 else 0 := sumS_congr _ fun k hk => by
      rw [g2 k hk]
      have e1 : (List.replicate p.length 1).getD k 0 = 1 := by simp [hk]
      rw [e1]
      by_cases q : k = j
      · subst q; simp; omega
      · simp [q]
    rw [this, sumS_add, sumS_at, if_pos hj]
  -- a lot more, like j
  obtain ⟨rl, hrl⟩ : ∃ rl : Nat → Nat, rl = fun t => if t = p.length then j else t := ⟨_, rfl⟩
  have r0 : rl p.length = j := by rw [hrl]; simp
  have r1 : ∀ t, t < p.length → rl t = t := fun t ht => by rw [hrl]; simp; omega
  have rlt : ∀ t, t ≤ p.length → rl t < p.length := fun t ht => by
    rcases Nat.lt_or_ge t p.length with q | q
    · rw [r1 t q]; exact q
    · rw [show t = p.length by omega, r0]; exact hj
  have m1 : Sat (fun i t => t ≤ p.length ∧ Dem L p i (rl t)) (Eager L p) := by
    obtain ⟨f, f1, f2⟩ := h.free
    exact ⟨f, fun x hx => ⟨Nat.le_of_lt (dem_lt (f1 x hx)), by rw [r1 _ (dem_lt (f1 x hx))]; exact f1 x hx⟩, f2⟩
  have m2 : Sat (fun t i => t ≤ p.length ∧ Dem L p i (rl t)) (fun t => t ≤ p.length ∧ 0 < p.getD (rl t) 0) := by
    rcases hall_or (R := fun t i => t ≤ p.length ∧ Dem L p i (rl t)) (P := fun t => t ≤ p.length ∧ 0 < p.getD (rl t) 0) (p.length + 1) L.length (fun x hx => by have := hx.1; omega) (fun x i hx => dem_row hx.2) with hs | ⟨x0, T, g, p0, nd, hT, hg, hinj, c0, cT⟩
    · exact hs
    · exfalso
      have ndX : (x0 :: T.map g).Nodup := List.nodup_cons.2 ⟨fun q => by
        obtain ⟨t, ht, e⟩ := List.mem_map.1 q
        exact (hg t ht).2.1 e, nodup_map nd hinj⟩
      have pX : ∀ x ∈ x0 :: T.map g, x ≤ p.length ∧ 0 < p.getD (rl x) 0 := fun x hx => by
        rcases List.mem_cons.1 hx with rfl | hx
        · exact p0
        · obtain ⟨t, ht, rfl⟩ := List.mem_map.1 hx
          exact (hg t ht).1
      have cX : ∀ x ∈ x0 :: T.map g, ∀ i, Dem L p i (rl x) → i ∈ T := fun x hx i hd => by
        have hxl := (pX x hx).1
        rcases List.mem_cons.1 hx with rfl | hx
        · exact c0 i ⟨hxl, hd⟩
        · obtain ⟨t, ht, rfl⟩ := List.mem_map.1 hx
          exact cT t ht i ⟨hxl, hd⟩
      obtain ⟨J, hJ⟩ : ∃ J : List Nat, J = (List.range p.length).filter fun t => decide (∃ x ∈ x0 :: T.map g, rl x = t) := ⟨_, by classical exact rfl⟩
      have mJ : ∀ t, t ∈ J ↔ ∃ x ∈ x0 :: T.map g, rl x = t := fun t => by
        rw [hJ, List.mem_filter, List.mem_range, decide_eq_true_iff]
        constructor
        · rintro ⟨_, h⟩; exact h
        · rintro ⟨x, hx, rfl⟩; exact ⟨rlt x (pX x hx).1, x, hx, rfl⟩
      have ndJ : J.Nodup := by rw [hJ]; exact List.Pairwise.sublist List.filter_sublist List.nodup_range
      have sur := h.surplus ok (J := J) (N := T) (j0 := rl x0) ((mJ _).2 ⟨x0, List.mem_cons_self, rfl⟩) ndJ (fun t ht => by
        obtain ⟨x, hx, rfl⟩ := (mJ t).1 ht
        exact ⟨rlt x (pX x hx).1, (pX x hx).2⟩) fun i t ht hd => by
        obtain ⟨x, hx, rfl⟩ := (mJ t).1 ht
        exact cX x hx i hd
      -- but for the copy all of them are different lots
      have lenX : (x0 :: T.map g).length ≤ J.length + 1 := by
        have := nodup_len (ndX.erase p.length) (B := J) fun x hx => by
          have h1 := List.mem_of_mem_erase hx
          have h2 : x ≠ p.length := fun q => by subst q; exact List.Nodup.not_mem_erase ndX hx
          refine (mJ x).2 ⟨x, h1, r1 x (by have := (pX x h1).1; omega)⟩
        have h3 : (x0 :: T.map g).length ≤ ((x0 :: T.map g).erase p.length).length + 1 := by
          by_cases q : p.length ∈ x0 :: T.map g
          · rw [List.length_erase_of_mem q]; omega
          · rw [List.erase_of_not_mem q]; omega
        omega
      simp only [List.length_cons, List.length_map] at lenX
      omega
  obtain ⟨s, hs, hsold⟩ := joined L.length (fun i t ht => dem_row ht.2) m1 m2
  have hcont : ∀ i, i < L.length → Cont L p i (optN ((s i).map rl)) := fun i hi => by
    cases e : s i with
    | none =>
      left
      refine ⟨rfl, ?_⟩
      have := gainF_nonneg (L.getD i []) p
      refine Decidable.byContradiction fun c => ?_
      obtain ⟨t, ht⟩ := hs.cov i ⟨hi, by omega⟩
      rw [e] at ht; cases ht
    | some t => exact .inr ⟨rl t, rfl, (hs.edge i t e).2⟩
  have one : ∀ t, cntS L.length (fun i => decide (s i = some t)) ≤ 1 := fun t => cntS_le_one _ fun i k _ _ h1 h2 => hs.inj i k t (of_decide_eq_true h1) (of_decide_eq_true h2)
  have eqk : ∀ i k, k < p.length → (optN ((s i).map rl) = (k : Int) ↔ s i = some k ∨ k = j ∧ s i = some p.length) := fun i k hk => by
    cases e : s i with
    | none => simp [optN] <;> omega
    | some t =>
      have ht := (hs.edge i t e).1
      simp only [Option.map_some, optN, Option.some.injEq]
      rcases Nat.lt_or_ge t p.length with q | q
      · rw [r1 t q]
        constructor
        · intro h; left; omega
        · rintro (h | ⟨_, h⟩) <;> omega
      · have : t = p.length := by omega
        subst this
        rw [r0]
        constructor
        · intro h; right; exact ⟨by omega, rfl⟩
        · rintro (h | ⟨h, _⟩) <;> omega
  have cnt : ∀ k, k < p.length → cntS L.length (fun i => decide (optN ((s i).map rl) = (k : Int))) = cntS L.length (fun i => decide (s i = some k)) + if k = j then cntS L.length (fun i => decide (s i = some p.length)) else 0 := fun k hk => by
    by_cases q : k = j
    · rw [if_pos q]
      refine cntS_or _ (fun i _ => ?_) fun i _ ⟨h1, h2⟩ => ?_
      · rw [Bool.eq_iff_iff, decide_eq_true_iff, Bool.or_eq_true, decide_eq_true_iff, decide_eq_true_iff, eqk i k hk]
        simp [q]
      · have h1 := of_decide_eq_true h1
        have h2 := of_decide_eq_true h2
        rw [h1] at h2
        injection h2 with h2
        omega
    · rw [if_neg q, Nat.add_zero]
      refine cntS_congr _ fun i _ => ?_
      rw [Bool.eq_iff_iff, decide_eq_true_iff, decide_eq_true_iff, eqk i k hk]
      simp [q]
  have sold : ∀ t, t ≤ p.length → 0 < p.getD (rl t) 0 → cntS L.length (fun i => decide (s i = some t)) = 1 := fun t ht h0 => by
    obtain ⟨i, hi⟩ := hsold t ⟨ht, h0⟩
    have := cntS_pos L.length (P := fun i => decide (s i = some t)) (i := i) (dem_row (hs.edge i t hi).2) (by simpa using hi)
    have := one t
    omega
  rw [valC_eq (s := fun i => optN ((s i).map rl)) ok hp (by simp) hcont (fun k hk => ?_) fun k hk => ?_, ecp]
  · omega
  · rw [cnt k hk, g2 k hk]
    have := one k
    have := one p.length
    split <;> omega
  · rw [cnt k hk, g2 k hk]
    by_cases q : p.getD k 0 = 0
    · exact .inl q
    · right
      have := hp.getD k
      have h1 := sold k (by omega) (by rw [r1 k hk]; omega)
      split
      · rename_i e
        have h2 := sold p.length (Nat.le_refl _) (by rw [r0, ← e]; omega)
        omega
      · omega
/-- Without one buyer all lots with prices can still be sold to contented buyers. -/
theorem LeastP.without {L : List (List Int)} {n : Nat} {p : List Int} (ok : OkH L n) (h : LeastP L n p) (b : Nat) : ∃ s : Nat → Option Nat, s b = none ∧ (∀ i j, s i = some j → Dem L p i j) ∧ (∀ i k j, s i = some j → s k = some j → i = k) ∧ (∀ i, i < L.length → i ≠ b → Cont L p i (optN (s i))) ∧ ∀ j, j < n → 0 < p.getD j 0 → ∃ i, i < L.length ∧ s i = some j := by
  have m1 : Sat (fun i j => i ≠ b ∧ Dem L p i j) (fun i => i ≠ b ∧ Eager L p i) := by
    obtain ⟨f, f1, f2⟩ := h.free
    exact ⟨f, fun x hx => ⟨hx.1, f1 x hx.2⟩, fun x y hx hy => f2 x y hx.2 hy.2⟩
  have m2 : Sat (fun j i => i ≠ b ∧ Dem L p i j) (fun j => j < n ∧ 0 < p.getD j 0) := by
    rcases hall_or (R := fun j i => i ≠ b ∧ Dem L p i j) (P := fun j => j < n ∧ 0 < p.getD j 0) n L.length (fun x hx => hx.1) (fun x i hx => dem_row hx.2) with hs | ⟨x0, T, g, p0, nd, hT, hg, hinj, c0, cT⟩
    · exact hs
    · exfalso
      have sur := h.surplus ok (J := x0 :: T.map g) (N := b :: T) (j0 := x0) List.mem_cons_self (List.nodup_cons.2 ⟨fun q => by
        obtain ⟨t, ht, e⟩ := List.mem_map.1 q
        exact (hg t ht).2.1 e, nodup_map nd hinj⟩) (fun t ht => by
        rcases List.mem_cons.1 ht with rfl | ht
        · exact p0
        · obtain ⟨u, hu, rfl⟩ := List.mem_map.1 ht
          exact (hg u hu).1) fun i t ht hd => by
        by_cases q : i = b
        · exact q ▸ List.mem_cons_self
        · refine List.mem_cons_of_mem _ ?_
          rcases List.mem_cons.1 ht with rfl | ht
          · exact c0 i ⟨q, hd⟩
          · obtain ⟨u, hu, rfl⟩ := List.mem_map.1 ht
            exact cT u hu i ⟨q, hd⟩
      simp only [List.length_cons, List.length_map] at sur
      omega
  obtain ⟨s, hs, hsold⟩ := joined L.length (fun i t ht => dem_row ht.2) m1 m2
  refine ⟨s, ?_, fun i j e => (hs.edge i j e).2, hs.inj, fun i hi hb => ?_, fun j hj h0 => ?_⟩
  · cases e : s b with
    | none => rfl
    | some j => exact absurd rfl (hs.edge b j e).1
  · cases e : s i with
    | none =>
      left
      refine ⟨rfl, ?_⟩
      have := gainF_nonneg (L.getD i []) p
      refine Decidable.byContradiction fun c => ?_
      obtain ⟨t, ht⟩ := hs.cov i ⟨hb, hi, by omega⟩
      rw [e] at ht; cases ht
    | some t => exact .inr ⟨t, rfl, (hs.edge i t e).2⟩
  · obtain ⟨i, hi⟩ := hsold j ⟨hj, h0⟩
    exact ⟨i, dem_row (hs.edge i j hi).2, hi⟩
end Go.Proofs.YtojednnciknhpaaDoor
