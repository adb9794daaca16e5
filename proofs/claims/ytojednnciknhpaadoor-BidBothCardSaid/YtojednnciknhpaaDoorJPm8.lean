/- A hall as a package auction of single lots: the best award is the first balance, and everybody pays the least price. No program in sight. An auction of the law's own that is built bidder by bidder. -/
import Derived.Test.YtojednnciknhpaaDoorJPm5
import Derived.Test.YtojednnciknhpaaDoorJAu4
import Derived.Test.YtojednnciknhpaaDoorJTb
import Derived.Test.YtojednnciknhpaaDoorJRowx
namespace Go.Proofs.YtojednnciknhpaaDoor
set_option linter.unusedSimpArgs false
set_option linter.unusedVariables false
open Go.RowKit
/-- Offers for single lots. -/
def rowO (n : Nat) (row : List Int) : List Of := (List.range n).map fun k => ⟨2 ^ k, row.getD k 0⟩
def bidsS (L : List (List Int)) (n : Nat) : List (List Of) := L.map (rowO n)
theorem rowO_get {n k : Nat} (row : List Int) (h : k < n) : (rowO n row)[k]? = some ⟨2 ^ k, row.getD k 0⟩ := by simp [rowO, h]
theorem rowO_none {n k : Nat} (row : List Int) (h : n ≤ k) : (rowO n row)[k]? = none := by simp [rowO]; omega
theorem rsv_zeros : ∀ (n s : Nat), rsvF (List.replicate n 0) s = 0
  | 0, _ => rfl
  | n + 1, s => by
    rw [List.replicate_succ, rsvF, rsv_zeros n]
    split <;> rfl
theorem pow_bit (k i : Nat) : (2 ^ k).testBit i = decide (k = i) := by
  rw [Nat.testBit_two_pow]
theorem pow_small {k : Nat} (h : k < 32) : 2 ^ k < 4294967296 := by
  have : 2 ^ k ≤ 2 ^ 31 := Nat.pow_le_pow_right (by omega) (by omega)
  omega
theorem one_fits {k s : Nat} (hk : k < 32) (hs : s < 4294967296) : diffN (2 ^ k) s = 0 ↔ s.testBit k = true := by
  rw [diffN_zero (pow_small hk) hs]
  constructor
  · intro h; exact h k (by rw [pow_bit]; simp)
  · intro h i hi
    rw [pow_bit] at hi
    have : k = i := of_decide_eq_true hi
    exact this ▸ h
theorem one_left {k s i : Nat} (hk : k < 32) (hs : s < 4294967296) : (diffN s (2 ^ k)).testBit i = (s.testBit i && !decide (k = i)) := by
  rw [diffN_bit hs (pow_small hk), pow_bit]
/-- Choices that fit into what is free. -/
def FitS (n : Nat) : Nat → List Int → Prop
  | _, [] => True
  | s, x :: c => if x < 0 then FitS n s c else x.toNat < n ∧ s.testBit x.toNat = true ∧ FitS n (diffN s (2 ^ x.toNat)) c
/-- The sum of worths of choices. -/
def asgL : List (List Int) → List Int → Int
  | row :: r, x :: c => (if x < 0 then 0 else row.getD x.toNat 0) + asgL r c
  | _, _ => 0
theorem asg_sum : ∀ (L : List (List Int)) (c : List Int), c.length = L.length → asgL L c = sumS L.length fun i => if c.getD i (-1) < 0 then 0 else (L.getD i []).getD (c.getD i (-1)).toNat 0
  | [], [], _ => rfl
  | [], _ :: _, h => by simp at h
  | _ :: _, [], h => by simp at h
  | row :: r, x :: c, h => by
    rw [asgL, asg_sum r c (by simpa using h), List.length_cons, sumS]
    simp
theorem tot_single {n : Nat} (hn : n < 32) : ∀ (L : List (List Int)) (c : List Int) (s : Nat) (v : Int), s < 4294967296 → c.length = L.length → (totF (List.replicate n 0) (bidsS L n) c s = some v ↔ FitS n s c ∧ v = asgL L c)
  | [], [], s, v, _, _ => by
    simp only [bidsS, List.map_nil, totF, rsv_zeros, FitS, asgL, true_and, Option.some.injEq]
    exact ⟨fun h => h.symm, fun h => h.symm⟩
  | [], _ :: _, _, _, _, h => by simp at h
  | _ :: _, [], _, _, _, h => by simp at h
  | row :: r, x :: c, s, v, hs, h => by
    have ih := fun s v hs => tot_single hn r c s v hs (by simpa using h)
    have e : bidsS (row :: r) n = rowO n row :: bidsS r n := rfl
    rw [e, totF, FitS, asgL]
    by_cases hx : x < 0
    · rw [if_pos hx, if_pos hx, if_pos hx, ih s v hs]
      simp
    · rw [if_neg hx, if_neg hx, if_neg hx]
      by_cases hxn : x.toNat < n
      · rw [rowO_get row hxn]
        simp only
        by_cases hb : s.testBit x.toNat = true
        · rw [if_pos ((one_fits (by omega) hs).2 hb)]
          constructor
          · intro hv
            cases ht : totF (List.replicate n 0) (bidsS r n) c (diffN s (2 ^ x.toNat)) with
            | none => rw [ht] at hv; cases hv
            | some u =>
              rw [ht] at hv
              simp only [Option.map_some, Option.some.injEq] at hv
              obtain ⟨h1, h2⟩ := (ih _ u (diffN_lt _ _)).1 ht
              exact ⟨⟨hxn, hb, h1⟩, by rw [← hv, h2]⟩
          · rintro ⟨⟨_, _, h1⟩, h2⟩
            rw [(ih _ (asgL r c) (diffN_lt _ _)).2 ⟨h1, rfl⟩, h2]
            rfl
        · rw [if_neg (fun q => hb ((one_fits (by omega) hs).1 q))]
          exact ⟨fun h => (by cases h), fun h => absurd h.1.2.1 hb⟩
      · rw [rowO_none row (by omega)]
        exact ⟨fun h => (by cases h), fun h => absurd h.1.1 hxn⟩
theorem fit_iff {n : Nat} (hn : n < 32) : ∀ (c : List Int) (s : Nat), s < 4294967296 → (FitS n s c ↔ (∀ x ∈ c, 0 ≤ x → x < (n : Int) ∧ s.testBit x.toNat = true) ∧ ∀ i k, i < c.length → k < c.length → c.getD i (-1) = c.getD k (-1) → 0 ≤ c.getD i (-1) → i = k)
  | [], _, _ => by simp [FitS]
  | x :: c, s, hs => by
    have ih := fun s hs => fit_iff hn c s hs
    rw [FitS]
    by_cases hx : x < 0
    · rw [if_pos hx, ih s hs]
      constructor
      · rintro ⟨h1, h2⟩
        refine ⟨fun y hy h0 => ?_, fun i k hi hk he h0 => ?_⟩
        · rcases List.mem_cons.1 hy with rfl | hy
          · omega
          · exact h1 y hy h0
        · cases i with
          | zero => rw [List.getD_cons_zero] at h0; omega
          | succ i =>
            cases k with
            | zero => rw [List.getD_cons_zero] at he; rw [he] at h0; omega
            | succ k =>
              have := h2 i k (by simpa using hi) (by simpa using hk) (by simpa using he) (by simpa using h0)
              omega
      · rintro ⟨h1, h2⟩
        refine ⟨fun y hy => h1 y (List.mem_cons_of_mem _ hy), fun i k hi hk he h0 => ?_⟩
        have := h2 (i + 1) (k + 1) (by simpa using hi) (by simpa using hk) (by simpa using he) (by simpa using h0)
        omega
    · rw [if_neg hx, ih _ (diffN_lt _ _)]
      have bit : ∀ j, x.toNat < n → (diffN s (2 ^ x.toNat)).testBit j = (s.testBit j && !decide (x.toNat = j)) := fun j hxn => one_left (by omega) hs
      constructor
      · rintro ⟨hxn, hb, h1, h2⟩
        have h1' : ∀ y ∈ c, 0 ≤ y → y < (n : Int) ∧ s.testBit y.toNat = true ∧ y ≠ x := fun y hy h0 => by
          obtain ⟨a, b⟩ := h1 y hy h0
          rw [bit _ hxn, Bool.and_eq_true, Bool.not_eq_true', decide_eq_false_iff_not] at b
          exact ⟨a, b.1, fun e => b.2 (by rw [e])⟩
        refine ⟨fun y hy h0 => ?_, fun i k hi hk he h0 => ?_⟩
        · rcases List.mem_cons.1 hy with rfl | hy
          · exact ⟨by omega, hb⟩
          · exact ⟨(h1' y hy h0).1, (h1' y hy h0).2.1⟩
        · cases i with
          | zero =>
            cases k with
            | zero => rfl
            | succ k =>
              rw [List.getD_cons_zero, List.getD_cons_succ] at he
              rw [List.getD_cons_zero] at h0
              exact absurd he.symm (h1' _ (getD_mem (by simpa using hk)) (by rw [← he]; exact h0)).2.2
          | succ i =>
            cases k with
            | zero =>
              rw [List.getD_cons_zero, List.getD_cons_succ] at he
              rw [List.getD_cons_succ] at h0
              exact absurd he (h1' _ (getD_mem (by simpa using hi)) h0).2.2
            | succ k =>
              have := h2 i k (by simpa using hi) (by simpa using hk) (by simpa using he) (by simpa using h0)
              omega
      · rintro ⟨h1, h2⟩
        obtain ⟨a, b⟩ := h1 x List.mem_cons_self (by omega)
        have hxn : x.toNat < n := by omega
        refine ⟨hxn, b, fun y hy h0 => ?_, fun i k hi hk he h0 => ?_⟩
        · obtain ⟨a2, b2⟩ := h1 y (List.mem_cons_of_mem _ hy) h0
          refine ⟨a2, ?_⟩
          rw [bit _ hxn, b2, Bool.true_and, Bool.not_eq_true', decide_eq_false_iff_not]
          intro e
          obtain ⟨k, k1, k2⟩ := mem_getD hy
          have := h2 0 (k + 1) (by simp) (by simpa using k1) (by rw [List.getD_cons_zero, List.getD_cons_succ, k2]; omega) (by rw [List.getD_cons_zero]; omega)
          omega
        · have := h2 (i + 1) (k + 1) (by simpa using hi) (by simpa using hk) (by simpa using he) (by simpa using h0)
          omega
/-- Choices without a lot given twice, all lots there are. -/
def FitA (n : Nat) (c : List Int) : Prop := (∀ x ∈ c, x < (n : Int)) ∧ ∀ i k, i < c.length → k < c.length → c.getD i (-1) = c.getD k (-1) → 0 ≤ c.getD i (-1) → i = k
theorem fit_all {n : Nat} (hn : n < 32) (c : List Int) : FitS n (2 ^ n - 1) c ↔ FitA n c := by
  rw [fit_iff hn c _ (by have := pow_small hn; omega)]
  unfold FitA
  refine and_congr ⟨fun h x hx => ?_, fun h x hx h0 => ⟨h x hx, ?_⟩⟩ Iff.rfl
  · by_cases h0 : 0 ≤ x
    · exact (h x hx h0).1
    · omega
  · rw [Nat.testBit_two_pow_sub_one]
    have := h x hx
    simp
    omega
theorem sumS_eq : ∀ (n : Nat) {f g : Nat → Int}, (∀ i, i < n → f i ≤ g i) → sumS n g ≤ sumS n f → ∀ i, i < n → f i = g i
  | 0, _, _, _, _, i, hi => absurd hi (by omega)
  | n + 1, f, g, h, he, i, hi => by
    rw [sumS, sumS] at he
    have h0 := h 0 (by omega)
    have h1 := sumS_le n (f := fun i => f (i + 1)) (g := fun i => g (i + 1)) fun i hi => h (i + 1) (by omega)
    cases i with
    | zero => omega
    | succ i => exact sumS_eq n (f := fun i => f (i + 1)) (g := fun i => g (i + 1)) (fun i hi => h (i + 1) (by omega)) (by omega) i (by omega)
section
variable {L : List (List Int)} {n : Nat} {q : List Int}
theorem fit_cnt {c : List Int} (h : FitA n c) (hl : c.length = L.length) (k : Nat) : cntS L.length (fun i => decide (c.getD i (-1) = (k : Int))) ≤ 1 := cntS_le_one _ fun i m hi hm h1 h2 => by
  have h1 := of_decide_eq_true h1
  have h2 := of_decide_eq_true h2
  exact h.2 i m (by omega) (by omega) (by rw [h1, h2]) (by omega)
/-- What choices give: what buyers gain by them, and the prices of what is sold. -/
theorem asg_parts (hq : q.length = n) {c : List Int} (h : FitA n c) (hl : c.length = L.length) : asgL L c = sumS L.length (fun i => if c.getD i (-1) < 0 then 0 else (L.getD i []).getD (c.getD i (-1)).toNat 0 - q.getD (c.getD i (-1)).toNat 0) + sumS n fun k => (cntS L.length (fun i => decide (c.getD i (-1) = (k : Int))) : Int) * q.getD k 0 := by
  rw [asg_sum L c hl, ← sum_lots n (fun k => q.getD k 0) L.length (fun i => c.getD i (-1)) (fun i hi => h.1 _ (getD_mem (by omega))), ← sumS_add]
  refine sumS_congr _ fun i _ => ?_
  split <;> omega
/-- Choices of which some get nothing are worth at most what the others gain, and all prices. -/
theorem asg_le (ok : OkH L n) (hq : q.length = n) (hn : nonNeg q) {c : List Int} (h : FitA n c) (hl : c.length = L.length) (W : Nat → Bool) (hW : ∀ i, i < L.length → W i = false → c.getD i (-1) < 0) : asgL L c ≤ sumS L.length (fun i => if W i = true then gainF (L.getD i []) q else 0) + sumS n fun k => q.getD k 0 := by
  rw [asg_parts hq h hl]
  have h1 := sumS_le L.length (f := fun i => if c.getD i (-1) < 0 then 0 else (L.getD i []).getD (c.getD i (-1)).toNat 0 - q.getD (c.getD i (-1)).toNat 0) (g := fun i => if W i = true then gainF (L.getD i []) q else 0) fun i hi => by
    have hc := h.1 _ (getD_mem (s := c) (i := i) (by omega))
    have g0 := gainF_nonneg (L.getD i []) q
    by_cases hx : c.getD i (-1) < 0
    · simp only [hx, if_true]
      split <;> omega
    · have hw : W i = true := by
        cases e : W i with
        | true => rfl
        | false => exact absurd (hW i hi e) hx
      simp only [hx, if_false, hw, if_true]
      have := row_len ok hi
      exact gainF_ub (by omega) (by omega)
  have h2 := sumS_le n (f := fun k => (cntS L.length (fun i => decide (c.getD i (-1) = (k : Int))) : Int) * q.getD k 0) (g := fun k => q.getD k 0) fun k _ => by
    have h3 := fit_cnt (n := n) h hl k
    have h4 := hn.getD k
    rcases (by omega : cntS L.length (fun i => decide (c.getD i (-1) = (k : Int))) = 0 ∨ cntS L.length (fun i => decide (c.getD i (-1) = (k : Int))) = 1) with e | e
    · rw [e, show ((0 : Nat) : Int) = 0 from rfl, Int.zero_mul]; exact h4
    · rw [e, show ((1 : Nat) : Int) = 1 from rfl, Int.one_mul]; exact Int.le_refl _
  omega
theorem BalL.fit (hq : q.length = n) {s : List Int} (h : BalL L q s) : FitA n s := by
  refine ⟨fun x hx => ?_, fun i k hi hk => h.inj i k (by rw [← h.len]; exact hi) (by rw [← h.len]; exact hk)⟩
  obtain ⟨i, hi, rfl⟩ := mem_getD hx
  have := cont_lt (h.cont i (by rw [← h.len]; exact hi))
  omega
/-- What a balance gives. -/
theorem BalL.asg (hq : q.length = n) (hn : nonNeg q) {s : List Int} (h : BalL L q s) : asgL L s = sumS L.length (fun i => gainF (L.getD i []) q) + sumS n fun k => q.getD k 0 := by
  have hf := h.fit hq
  rw [asg_parts hq hf h.len]
  have e1 : sumS L.length (fun i => if s.getD i (-1) < 0 then 0 else (L.getD i []).getD (s.getD i (-1)).toNat 0 - q.getD (s.getD i (-1)).toNat 0) = sumS L.length fun i => gainF (L.getD i []) q := sumS_congr _ fun i hi => by
    rcases h.cont i hi with ⟨h1, h2⟩ | ⟨j, h1, h2⟩
    · rw [if_pos (by omega), h2]
    · rw [if_neg (by omega), h1, show ((j : Int)).toNat = j by simp]
      exact (mem_wants.1 h2).2.2
  have e2 : sumS n (fun k => (cntS L.length (fun i => decide (s.getD i (-1) = (k : Int))) : Int) * q.getD k 0) = sumS n fun k => q.getD k 0 := sumS_congr _ fun k hk => by
    by_cases h0 : q.getD k 0 = 0
    · rw [h0]; simp
    · have h1 := hn.getD k
      obtain ⟨i, i1, i2⟩ := mem_getD (h.sold k (by omega) (by omega))
      have h2 := cntS_pos L.length (P := fun i => decide (s.getD i (-1) = (k : Int))) (i := i) (by rw [← h.len]; exact i1) (by simpa using i2)
      have h3 := fit_cnt (L := L) hf h.len k
      have : cntS L.length (fun i => decide (s.getD i (-1) = (k : Int))) = 1 := by omega
      rw [this]; simp
  rw [e1, e2]
/-- Choices that give as much as a balance are one. -/
theorem bal_of_asg (ok : OkH L n) (hq : q.length = n) (hn : nonNeg q) {c : List Int} (h : FitA n c) (hl : c.length = L.length) (hc : ∀ x ∈ c, -1 ≤ x) (he : asgL L c = sumS L.length (fun i => gainF (L.getD i []) q) + sumS n fun k => q.getD k 0) : BalL L q c := by
  rw [asg_parts hq h hl] at he
  have le1 : ∀ i, i < L.length → (if c.getD i (-1) < 0 then 0 else (L.getD i []).getD (c.getD i (-1)).toNat 0 - q.getD (c.getD i (-1)).toNat 0) ≤ gainF (L.getD i []) q := fun i hi => by
    have hc' := h.1 _ (getD_mem (s := c) (i := i) (by omega))
    split
    · exact gainF_nonneg _ _
    · have := row_len ok hi
      exact gainF_ub (by omega) (by omega)
  have le2 : ∀ k, k < n → (cntS L.length (fun i => decide (c.getD i (-1) = (k : Int))) : Int) * q.getD k 0 ≤ q.getD k 0 := fun k _ => by
    have h3 := fit_cnt (L := L) h hl k
    have h4 := hn.getD k
    rcases (by omega : cntS L.length (fun i => decide (c.getD i (-1) = (k : Int))) = 0 ∨ cntS L.length (fun i => decide (c.getD i (-1) = (k : Int))) = 1) with e | e
    · rw [e, show ((0 : Nat) : Int) = 0 from rfl, Int.zero_mul]; exact h4
    · rw [e, show ((1 : Nat) : Int) = 1 from rfl, Int.one_mul]; exact Int.le_refl _
  have s1 := sumS_le _ le1
  have s2 := sumS_le _ le2
  have t1 := sumS_eq _ le1 (by omega)
  have t2 := sumS_eq _ le2 (by omega)
  refine ⟨hl, fun i hi => ?_, fun i k hi hk => h.2 i k (by omega) (by omega), fun k hk h0 => ?_⟩
  · have e := t1 i hi
    have hlo := hc _ (getD_mem (s := c) (i := i) (by omega))
    have hup := h.1 _ (getD_mem (s := c) (i := i) (by omega))
    by_cases hx : c.getD i (-1) < 0
    · simp only [hx, if_true] at e
      exact .inl ⟨by omega, e.symm⟩
    · simp only [hx, if_false] at e
      have := row_len ok hi
      exact .inr ⟨(c.getD i (-1)).toNat, by omega, mem_wants.2 ⟨by omega, by omega, e⟩⟩
  · have e := t2 k (by omega)
    refine Decidable.byContradiction fun hno => ?_
    have : cntS L.length (fun i => decide (c.getD i (-1) = (k : Int))) = 0 := cntS_none _ fun i hi => by
      rw [decide_eq_false_iff_not]
      intro e
      exact hno (by rw [← e]; exact getD_mem (by omega))
    rw [this, show ((0 : Nat) : Int) = 0 from rfl, Int.zero_mul] at e
    omega
end
theorem lexLe_iff : ∀ {a b : List Int}, a.length = b.length → lexLe a b → LexLe a b
  | [], [], _, _ => .inl rfl
  | [], _ :: _, h, _ => by simp at h
  | _ :: _, [], h, _ => by simp at h
  | x :: a, y :: b, h, hl => by
    rcases hl with hl | ⟨rfl, hl⟩
    · exact .inr ⟨0, by simp, by simp, by simp, by simpa using hl⟩
    · rcases lexLe_iff (by simpa using h) hl with e | ⟨k, k1, k2, k3, k4⟩
      · exact .inl (by rw [e])
      · exact .inr ⟨k + 1, by simpa using k1, by simpa using k2, by simpa using k3, by simpa using k4⟩
/-- The auction of a hall's lots. -/
def hallA (L : List (List Int)) (n : Nat) : Au := ⟨n, List.replicate n 0, bidsS L n⟩
theorem bidsS_len (L : List (List Int)) (n : Nat) : (bidsS L n).length = L.length := by simp [bidsS]
theorem bidsS_get {L : List (List Int)} {n i : Nat} (h : i < L.length) : (bidsS L n)[i]'(by rw [bidsS_len]; exact h) = rowO n (L.getD i []) := by simp [bidsS, h]
section
variable {L : List (List Int)} {n : Nat} {q : List Int}
/-- The greatest total. -/
theorem hallA_val (hn : n < 32) (ok : OkH L n) (h : LeastP L n q) : tabF (List.replicate n 0) ((bidsS L n).map some) (2 ^ n - 1) = sumS L.length (fun i => gainF (L.getD i []) q) + sumS n fun k => q.getD k 0 := by
  have hs : 2 ^ n - 1 < 4294967296 := by have := pow_small hn; omega
  have fl := h.hall ok
  have up := tab_max (List.replicate n 0) (bidsS L n) (hallF L q L []) (2 ^ n - 1) _ ((tot_single hn L _ _ _ hs fl.mem.len).2 ⟨(fit_all hn _).2 (fl.mem.fit h.len), rfl⟩)
  rw [fl.mem.asg h.len h.ok.nn] at up
  have bt := best_tot (List.replicate n 0) (bidsS L n) (2 ^ n - 1)
  have bl : (bestF (List.replicate n 0) (bidsS L n) (2 ^ n - 1)).length = L.length := by rw [bestF_len, bidsS_len]
  obtain ⟨f1, f2⟩ := (tot_single hn L _ _ _ hs bl).1 bt
  have le := asg_le ok h.len h.ok.nn ((fit_all hn _).1 f1) bl (fun _ => true) fun _ _ h => by cases h
  rw [sum_all L q] at le
  omega
/-- The best award is the first balance. -/
theorem hallA_best (hn : n < 32) (ok : OkH L n) (h : LeastP L n q) : bestF (List.replicate n 0) (bidsS L n) (2 ^ n - 1) = hallF L q L [] := by
  have hs : 2 ^ n - 1 < 4294967296 := by have := pow_small hn; omega
  have fl := h.hall ok
  refine FirstL.unique ⟨?_, fun t ht => ?_⟩ fl
  · have bt := best_tot (List.replicate n 0) (bidsS L n) (2 ^ n - 1)
    have bl : (bestF (List.replicate n 0) (bidsS L n) (2 ^ n - 1)).length = L.length := by rw [bestF_len, bidsS_len]
    obtain ⟨f1, f2⟩ := (tot_single hn L _ _ _ hs bl).1 bt
    refine bal_of_asg ok h.len h.ok.nn ((fit_all hn _).1 f1) bl (fun x hx => ?_) (by rw [← f2, hallA_val hn ok h])
    obtain ⟨i, hi, rfl⟩ := List.getElem_of_mem hx
    have hib : i < (bidsS L n).length := by rw [bidsS_len]; omega
    exact (bestF_lt (List.replicate n 0) (bidsS L n) (2 ^ n - 1) i _ _ (List.getElem?_eq_getElem hi) (List.getElem?_eq_getElem hib)).1
  · refine lexLe_iff (by rw [bestF_len, bidsS_len, ht.len]) (best_first _ _ t _ (fun x hx => ?_) ?_)
    · obtain ⟨i, hi, rfl⟩ := mem_getD hx
      rcases ht.cont i (by rw [← ht.len]; exact hi) with ⟨e, _⟩ | ⟨j, e, _⟩ <;> omega
    · rw [hallA_val hn ok h]
      exact (tot_single hn L _ _ _ hs ht.len).2 ⟨(fit_all hn _).2 (ht.fit h.len), (ht.asg h.len h.ok.nn).symm⟩
/-- The greatest total without a buyer. -/
theorem hallA_out (hn : n < 32) (ok : OkH L n) (h : LeastP L n q) {b : Nat} (hb : b < L.length) : tabF (List.replicate n 0) (outB [(b : Int)] 0 (bidsS L n)) (2 ^ n - 1) = sumS L.length (fun i => gainF (L.getD i []) q) + sumS n (fun k => q.getD k 0) - gainF (L.getD b []) q := by
  have hs : 2 ^ n - 1 < 4294967296 := by have := pow_small hn; omega
  have hbl : b < (bidsS L n).length := by rw [bidsS_len]; exact hb
  obtain ⟨P, hP⟩ : ∃ P, P = (bidsS L n).take b := ⟨_, rfl⟩
  obtain ⟨R, hR⟩ : ∃ R, R = (bidsS L n).drop (b + 1) := ⟨_, rfl⟩
  obtain ⟨os, hos⟩ : ∃ os, os = (bidsS L n)[b] := ⟨_, rfl⟩
  have hsplit : bidsS L n = P ++ os :: R := by rw [hP, hR, hos, ← List.drop_eq_getElem_cons hbl, List.take_append_drop]
  have hPl : P.length = b := by rw [hP, List.length_take]; omega
  have hRl : R.length = L.length - (b + 1) := by rw [hR, List.length_drop, bidsS_len]
  have out := out_one (List.replicate n 0) R os P 0 (2 ^ n - 1)
  rw [Nat.zero_add, hPl, ← hsplit] at out
  rw [out]
  -- the buyers without b
  have sumW : sumS L.length (fun i => if (fun i => decide (i ≠ b)) i = true then gainF (L.getD i []) q else 0) = sumS L.length (fun i => gainF (L.getD i []) q) - gainF (L.getD b []) q := by
    have e : sumS L.length (fun i => gainF (L.getD i []) q) = sumS L.length fun i => (if (fun i => decide (i ≠ b)) i = true then gainF (L.getD i []) q else 0) + if i = b then gainF (L.getD b []) q else 0 := sumS_congr _ fun i _ => by
      by_cases e : i = b
      · subst e; simp
      · simp [e]
    rw [e, sumS_add, sumS_at, if_pos hb]
    omega
  refine Int.le_antisymm ?_ ?_
  · have bt := best_tot (List.replicate n 0) (P ++ [] :: R) (2 ^ n - 1)
    have bt2 := tot_none (os := os) P _ bt
    rw [← hsplit] at bt2
    obtain ⟨c, hc⟩ : ∃ c, c = bestF (List.replicate n 0) (P ++ [] :: R) (2 ^ n - 1) := ⟨_, rfl⟩
    rw [← hc] at bt2
    have cl : c.length = L.length := by rw [hc, bestF_len]; simp [hPl, hRl]; omega
    obtain ⟨f1, f2⟩ := (tot_single hn L _ _ _ hs cl).1 bt2
    have cb : c.getD b (-1) < 0 := by
      have hbc : b < c.length := by omega
      have hbp : b < (P ++ [] :: R).length := by simp [hPl, hRl]
      have e1 : (P ++ [] :: R)[b]? = some [] := by rw [List.getElem?_append_right (by omega), hPl]; simp
      have := bestF_lt (List.replicate n 0) (P ++ [] :: R) (2 ^ n - 1) b c[b] [] (by rw [← hc]; exact List.getElem?_eq_getElem hbc) e1
      have e2 : c.getD b (-1) = c[b] := by simp [hbc]
      rw [e2]
      have := this.2
      simpa using this
    have le := asg_le ok h.len h.ok.nn ((fit_all hn _).1 f1) cl (fun i => decide (i ≠ b)) fun i _ hi => by
      have : i = b := by simpa using hi
      rw [this]; exact cb
    rw [sumW] at le
    unfold valF
    omega
  · obtain ⟨s, s0, s1, s2, s3, s4⟩ := h.without ok b
    obtain ⟨c, hc⟩ : ∃ c, c = (List.range L.length).map fun i => optN (s i) := ⟨_, rfl⟩
    have cl : c.length = L.length := by rw [hc]; simp
    have cg : ∀ i, i < L.length → c.getD i (-1) = optN (s i) := fun i hi => by rw [hc]; simp [hi]
    have cb : c.getD b (-1) = -1 := by rw [cg b hb, s0]; rfl
    have fit : FitA n c := by
      refine ⟨fun x hx => ?_, fun i k hi hk he h0 => ?_⟩
      · obtain ⟨i, hi, rfl⟩ := mem_getD hx
        rw [cg i (by omega)]
        cases e : s i with
        | none => rw [optN_none]; omega
        | some j =>
          have := dem_lt (s1 i j e)
          rw [optN_some]
          have := h.len
          omega
      · rw [cg i (by omega)] at he h0
        rw [cg k (by omega)] at he
        cases e1 : s i with
        | none => rw [e1, optN_none] at h0; omega
        | some j =>
          cases e2 : s k with
          | none => rw [e1, e2, optN_none, optN_some] at he; omega
          | some j2 =>
            rw [e1, e2, optN_some, optN_some] at he
            have : j = j2 := by omega
            subst this
            exact s2 i k j e1 e2
    have tot := (tot_single hn L c _ _ hs cl).2 ⟨(fit_all hn _).2 fit, rfl⟩
    have csplit : c = c.take b ++ c.getD b (-1) :: c.drop (b + 1) := by
      have hbc : b < c.length := by omega
      have e2 : c.getD b (-1) = c[b] := by simp [hbc]
      rw [e2, ← List.drop_eq_getElem_cons hbc, List.take_append_drop]
    rw [hsplit, csplit] at tot
    have tot2 := tot_out (os' := []) (by rw [cb]; omega) P (c.take b) (by rw [List.length_take, hPl]; omega) tot
    have mx := tab_max _ _ _ _ _ tot2
    rw [← csplit] at mx
    -- what it gives
    have sc := sum_cont (L := L) (p := q) (s := fun i => c.getD i (-1)) (W := fun i => decide (i ≠ b)) fun i hi => by
      by_cases e : i = b
      · subst e
        exact .inr ⟨by simp, cb⟩
      · refine .inl ⟨by simpa using e, ?_⟩
        rw [cg i hi]
        exact s3 i hi e
    rw [← asg_sum L c cl] at sc
    have ss := sum_lots n (fun k => q.getD k 0) L.length (fun i => c.getD i (-1)) fun i hi => fit.1 _ (getD_mem (by omega))
    have e2 : sumS n (fun k => (cntS L.length (fun i => decide (c.getD i (-1) = (k : Int))) : Int) * q.getD k 0) = sumS n fun k => q.getD k 0 := sumS_congr _ fun k hk => by
      by_cases h0 : q.getD k 0 = 0
      · rw [h0]; simp
      · have h1 := h.ok.nn.getD k
        obtain ⟨i, i1, i2⟩ := s4 k hk (by omega)
        have h2 := cntS_pos L.length (P := fun i => decide (c.getD i (-1) = (k : Int))) (i := i) i1 (by rw [cg i i1, i2, optN_some]; simp)
        have h3 := fit_cnt (L := L) fit cl k
        have : cntS L.length (fun i => decide (c.getD i (-1) = (k : Int))) = 1 := by omega
        rw [this]; simp
    rw [e2] at ss
    rw [ss, sumW] at sc
    unfold valF
    omega
/-- Everybody pays the price of its lot. -/
theorem hallA_pay (hn : n < 32) (ok : OkH L n) (h : LeastP L n q) {b : Nat} (hb : b < L.length) : payAt (hallA L n) (2 ^ n - 1) b = if (hallF L q L []).getD b (-1) < 0 then 0 else q.getD ((hallF L q L []).getD b (-1)).toNat 0 := by
  have fl := h.hall ok
  have hbl : b < (hallF L q L []).length := by rw [fl.mem.len]; exact hb
  have e0 : (hallF L q L []).getD b 0 = (hallF L q L []).getD b (-1) := by simp [hbl]
  have e1 : bestF (hallA L n).res (hallA L n).bid (2 ^ n - 1) = hallF L q L [] := hallA_best hn ok h
  unfold payAt
  rw [e1, e0]
  rcases fl.mem.cont b hb with ⟨c1, c2⟩ | ⟨j, c1, c2⟩
  · rw [if_pos (by omega), if_pos (by omega)]
  · rw [if_neg (by omega), if_neg (by omega), c1, show ((j : Int)).toNat = j by simp]
    have hjn : j < n := by have := dem_lt c2; have := h.len; omega
    have v1 : valT (hallA L n) [(b : Int)] 0 (2 ^ n - 1) = sumS L.length (fun i => gainF (L.getD i []) q) + sumS n (fun k => q.getD k 0) - gainF (L.getD b []) q := hallA_out hn ok h hb
    have v2 : valT (hallA L n) [] 0 (2 ^ n - 1) = sumS L.length (fun i => gainF (L.getD i []) q) + sumS n (fun k => q.getD k 0) := by
      rw [valT_nil]
      exact hallA_val hn ok h
    have o1 : (((hallA L n).bid.getD b []).getD j ⟨0, 0⟩).w = (L.getD b []).getD j 0 := by
      have e3 : (hallA L n).bid.getD b [] = rowO n (L.getD b []) := by
        have hbb : b < (bidsS L n).length := by rw [bidsS_len]; exact hb
        show (bidsS L n).getD b [] = _
        rw [← bidsS_get hb]
        simp [hbb]
      rw [e3, List.getD_eq_getElem?_getD, rowO_get _ hjn]
      rfl
    rw [v1, v2, o1]
    have := (mem_wants.1 c2).2.2
    omega
end
end Go.Proofs.YtojednnciknhpaaDoor
namespace Go.Proofs.YtojednnciknhpaaDoor
set_option linter.unusedSimpArgs false
set_option linter.unusedVariables false
open Go.RowKit
theorem undO : Tryd.prog.underlying 50 = some (.slice 54) := by kernel_rfl
theorem infoO : (Tryd.prog.info? 54).map (fun i => (i.zero, i.size, i.bytes)) = some (some (.agg #[.int .u32 0, .int .i64 0]), 2, 16) := by kernel_rfl
theorem undOO : Tryd.prog.underlying 33 = some (.slice 50) := by kernel_rfl
theorem infoOO : (Tryd.prog.info? 50).map (fun i => (i.zero, i.size, i.bytes)) = some (some (.slice none 0 0), 1, 24) := by kernel_rfl
abbrev RowO (B : Nat) (w : World) (v : Value) (l : List Of) : Prop := OwnE encOf 2 54 B w v l
abbrev TabO (B : Nat) (w : World) (v : Value) (L : List (List Of)) : Prop := OwnT encOf 2 50 54 B w v L
theorem encOf_one (o : Of) : ∀ u ∈ encOf o, u.oneCell' = true := fun u hu => by
  simp [encOf] at hu
  rcases hu with rfl | rfl <;> rfl
/-- An offer comes behind a row. -/
theorem off_app {B : Nat} {w : World} {v : Value} {l : List Of} (h : RowO B w v l) (hB : B ≤ w.heap.size) (o : Of) (hl : l.length ≤ 100000) :
    ∃ v' w', (Builtin.append_ #[50, 50] 50 #[v, .slice (some ⟨w.heap.size, 0, none⟩) 1 1]).run Tryd.prog (w.alloc (.cells #[.int .u32 o.lots, .int .i64 o.w] 54)) = .ok v' w' ∧ RowO B w' v' (l ++ [o]) ∧ Below B w w' := by
  have ha := (Below.refl w.heap.size w).alloc (Nat.le_refl _) (.cells #[.int .u32 o.lots, .int .i64 o.w] 54)
  obtain ⟨v', w', r1, r2, r3, _⟩ := own_append (ty := 50) undO infoO rfl (by omega) encOf_len encOf_one (h.below ha) (by simp; omega) (SrcE.one (a := o) (Cells.new w #[.int .u32 o.lots, .int .i64 o.w] 54)) (by unfold maxLen; simp; omega) (by simp; omega)
  refine ⟨v', w', r1, r2, (ha.mono hB).trans (r3.below (by simp; omega) fun k hk => ?_)⟩
  obtain ⟨p, c, rfl, hh⟩ := h.form
  rcases hh with ⟨rfl, _⟩ | ⟨g, rfl, hg, _⟩
  · cases hk
  · injection hk with hk
    have : k = g := hk
    omega
theorem OwnT.set {α : Type} {enc : α → List Value} {sz : Nat} {eo ei : TypeId} {B : Nat} {w : World} {v : Value} {L : List (List α)} (h : OwnT enc sz eo ei B w v L) {c : Nat} {cs : Array Value} {ty : TypeId} (hc : Cells w c cs ty) (h1 : ty ≠ eo) (h2 : ty ≠ ei) (j : Nat) (u : Value) : OwnT enc sz eo ei B (w.setCell ⟨c, j, none⟩ u) v L := by
  obtain ⟨vs, a1, a2, a3⟩ := h
  exact ⟨vs, a1.set hc h1 j u, a2, fun k k1 k2 => (a3 k k1 k2).set hc h2 j u⟩
/-- A boxed auction of the law's own, with some bidders. -/
structure ApS (B : Nat) (w : World) (ga : Nat) (g : Int) (vr vb : Value) (res : List Int) (gr : Nat) (bids : List (List Of)) : Prop where
  ca : Cells w ga #[.int .i64 g, vr, vb] 35
  ga0 : B ≤ ga
  rr : RI w gr res
  gr0 : B ≤ gr
  tb : TabO B w vb bids
theorem ApS.below {B : Nat} {w w' : World} {ga : Nat} {g : Int} {vr vb : Value} {res : List Int} {gr : Nat} {bids : List (List Of)} (h : ApS B w ga g vr vb res gr bids) (hb : Below w.heap.size w w') : ApS B w' ga g vr vb res gr bids :=
  ⟨h.ca.below hb h.ca.lt, h.ga0, h.rr.below' hb, h.gr0, h.tb.below hb⟩
/-- A bidder comes behind the others. -/
theorem ApS.app {B : Nat} {w : World} {ga : Nat} {g : Int} {vr vb u : Value} {res : List Int} {gr : Nat} {bids : List (List Of)} {l : List Of} (h : ApS B w ga g vr vb res gr bids) (hB : B ≤ w.heap.size) (hu : RowO B w u l) (hl : bids.length ≤ 1000) :
    ∃ v' w', (Builtin.append_ #[33, 33] 33 #[vb, .slice (some ⟨w.heap.size, 0, none⟩) 1 1]).run Tryd.prog (w.alloc (.cells #[u] 50)) = .ok v' w' ∧ Below B w w' ∧ Cells w' ga #[.int .i64 g, vr, vb] 35 ∧ ApS B (w'.setCell ⟨ga, 2, none⟩ v') ga g vr v' res gr (bids ++ [l]) ∧ Below B w (w'.setCell ⟨ga, 2, none⟩ v') := by
  obtain ⟨v', w', r1, r2, r3, r4⟩ := OwnT.app' (t := 33) (ty := 33) (by decide) undOO infoOO (by omega) h.tb hB hu (by omega)
  have c1 := r4 _ _ _ h.ca (by decide)
  have c2 : RI w' gr res := r4 _ _ _ h.rr (by decide)
  refine ⟨v', w', r1, r3, c1, ⟨?_, h.ga0, c2.set_far _ _ (Cells.ne c2 c1 (by decide)), h.gr0, r2.set c1 (by decide) (by decide) _ _⟩, r3.trans ?_⟩
  · have := c1.set 2 v'
    simpa using this
  · exact Kept.below ((Kept.refl (fun k => k = ga) w').set (C := ga) rfl _ _) (Nat.le_trans hB r3.size) (fun k hk => by rw [hk]; exact h.ga0)
theorem ApS.auv {B : Nat} {w : World} {ga : Nat} {g : Int} {res : List Int} {gr : Nat} {vb : Value} {bids : List (List Of)} {c : Nat} (h : ApS B w ga g (.slice (some ⟨gr, 0, none⟩) res.length c) vb res gr bids) (h1 : res.length ≤ 5000) (h2 : bids.length ≤ 5000) (h3 : ∀ l ∈ bids, l.length ≤ 5000) (h4 : ∀ l ∈ bids, ∀ o ∈ l, o.lots < 4294967296) : AuV w (.slice (some ⟨gr, 0, none⟩) res.length c) vb ⟨g, res, bids⟩ :=
  ⟨h.rr.reads (by omega) c, h.tb.nest encOf_len (by omega) (fun l hl => by have := h3 l hl; omega), h4⟩
end Go.Proofs.YtojednnciknhpaaDoor
