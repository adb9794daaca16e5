/- serve in plain Lean: who gets how much. No program in sight. The closure of serve. split: one weight's quota; the state of its loop. split: the walk. serve: its state. -/
import Derived.Test.YtepldjidkomclaaGreatJCZmap
import Derived.Test.YtepldjidkomclaaGreatJCSo5
import Derived.Test.YtepldjidkomclaaGreatJCDiv
namespace Go.Proofs.YtepldjidkomclaaGreat.Ca
set_option linter.unusedSimpArgs false
set_option linter.unusedVariables false
open Go.RowKit
def bdZ : Bd := ⟨0, 0, 0⟩
def bAt (l : List Bd) (i : Int) : Bd := l.getD i.toNat bdZ
def pI (l : List Bd) (i : Int) : Int := (bAt l i).p
def qI (l : List Bd) (i : Int) : Int := (bAt l i).q
/-- A bid of a side takes part at a price. -/
def part (sd x : Int) (b : Bd) : Bool := decide (b.s = sd) && b.takes x
def idsTo (l : List Bd) (sd x : Int) (n : Nat) : List Int := ((List.range n).map fun (k : Nat) => (k : Int)).filter fun k => part sd x (bAt l k)
/-- The bids of a side that take part. -/
def ids (l : List Bd) (sd x : Int) : List Int := idsTo l sd x l.length
theorem idsTo_succ (l : List Bd) (sd x : Int) (n : Nat) : idsTo l sd x (n + 1) = idsTo l sd x n ++ if part sd x (bAt l n) then [(n : Int)] else [] := by
  unfold idsTo
  rw [List.range_succ, List.map_append, List.filter_append]
  congr 1
  by_cases h : part sd x (bAt l n) = true
  · rw [if_pos h]; simp [h]
  · rw [if_neg h]; simp [h]
theorem mem_idsTo {l : List Bd} {sd x : Int} {n : Nat} {i : Int} : i ∈ idsTo l sd x n ↔ 0 ≤ i ∧ i < n ∧ part sd x (bAt l i) = true := by
  unfold idsTo
  rw [List.mem_filter]
  constructor
  · rintro ⟨h, h2⟩
    obtain ⟨k, hk, rfl⟩ := List.mem_map.1 h
    have := List.mem_range.1 hk
    exact ⟨by omega, by omega, h2⟩
  · rintro ⟨h1, h2, h3⟩
    exact ⟨List.mem_map.2 ⟨i.toNat, List.mem_range.2 (by omega), by omega⟩, h3⟩
theorem idsTo_len (l : List Bd) (sd x : Int) (n : Nat) : (idsTo l sd x n).length ≤ n := by
  unfold idsTo
  refine Nat.le_trans (List.length_filter_le _ _) (by simp)
theorem range_inc (n : Nat) : ((List.range n).map fun (k : Nat) => (k : Int)).Pairwise (· < ·) := by
  rw [List.pairwise_map]
  exact List.pairwise_lt_range.imp (by omega)
theorem ids_inc (l : List Bd) (sd x : Int) (n : Nat) : (idsTo l sd x n).Pairwise (· < ·) := (range_inc n).sublist List.filter_sublist
/-- Two rising lists with the same elements are the same. -/
theorem inc_unique : ∀ {l m : List Int}, l.Pairwise (· < ·) → m.Pairwise (· < ·) → (∀ x, x ∈ l ↔ x ∈ m) → l = m
  | [], [], _, _, _ => rfl
  | [], y :: m, _, _, h => absurd ((h y).2 List.mem_cons_self) (by simp)
  | x :: l, [], _, _, h => absurd ((h x).1 List.mem_cons_self) (by simp)
  | x :: l, y :: m, hl, hm, h => by
    obtain ⟨l1, l2⟩ := List.pairwise_cons.1 hl
    obtain ⟨m1, m2⟩ := List.pairwise_cons.1 hm
    have e : x = y := by
      rcases List.mem_cons.1 ((h x).1 List.mem_cons_self) with q | q
      · exact q
      · rcases List.mem_cons.1 ((h y).2 List.mem_cons_self) with r | r
        · exact r.symm
        · have := m1 x q
          have := l1 y r
          omega
    subst e
    rw [inc_unique l2 m2 fun z => ⟨fun hz => by
      rcases List.mem_cons.1 ((h z).1 (List.mem_cons_of_mem _ hz)) with q | q
      · have := l1 z hz; omega
      · exact q, fun hz => by
      rcases List.mem_cons.1 ((h z).2 (List.mem_cons_of_mem _ hz)) with q | q
      · have := m1 z hz; omega
      · exact q⟩]
theorem sumI_app (l m : List Int) : sumI (l ++ m) = sumI l + sumI m := by
  induction l with
  | nil => simp [sumI]
  | cons y l ih => simp only [List.cons_append, sumI, ih]; omega
theorem sumI_perm {l m : List Int} (h : l.Perm m) : sumI l = sumI m := by
  induction h with
  | nil => rfl
  | cons x _ ih => simp only [sumI, ih]
  | swap x y l => simp only [sumI]; omega
  | trans _ _ i1 i2 => rw [i1, i2]
theorem sumI_nonneg {l : List Int} (h : ∀ x ∈ l, 0 ≤ x) : 0 ≤ sumI l := by
  induction l with
  | nil => simp [sumI]
  | cons x l ih =>
    have := ih fun y hy => h y (List.mem_cons_of_mem _ hy)
    have := h x List.mem_cons_self
    simp only [sumI]; omega
/-- By price, the best first. -/
def cfS (l : List Bd) (sd : Int) (i j : Int) : Int := if sd = 1 then pI l j - pI l i else pI l i - pI l j
/-- A price is better than another. -/
def bet (sd p p' : Int) : Prop := if sd = 1 then p' < p else p < p'
instance (sd p p' : Int) : Decidable (bet sd p p') := by unfold bet; infer_instance
theorem ltS (l : List Bd) (sd i j : Int) : ltC (cfS l sd) i j = decide (bet sd (pI l i) (pI l j)) := by
  unfold ltC
  rw [decide_eq_decide]
  unfold cfS bet
  split <;> omega
theorem bet.irr {sd p : Int} : ¬ bet sd p p := by unfold bet; split <;> omega
theorem bet.trans {sd a b c : Int} (h : bet sd a b) (g : bet sd b c) : bet sd a c := by unfold bet at *; by_cases hs : sd = 1 <;> simp only [if_pos, if_neg, hs, not_false_eq_true] at * <;> omega
theorem bet.asym {sd a b : Int} (h : bet sd a b) : ¬ bet sd b a := fun g => bet.irr (h.trans g)
theorem bet.tri {sd a b : Int} (h : ¬ bet sd a b) (hn : a ≠ b) : bet sd b a := by unfold bet at *; by_cases hs : sd = 1 <;> simp only [if_pos, if_neg, hs, not_false_eq_true] at * <;> omega
theorem bet.late {sd a b c : Int} (h : bet sd a b) (g : ¬ bet sd c b) : bet sd a c := by unfold bet at *; by_cases hs : sd = 1 <;> simp only [if_pos, if_neg, hs, not_false_eq_true] at * <;> omega
theorem bet.soon {sd a b c : Int} (g : ¬ bet sd b a) (h : bet sd b c) : bet sd a c := by unfold bet at *; by_cases hs : sd = 1 <;> simp only [if_pos, if_neg, hs, not_false_eq_true] at * <;> omega
theorem swoS (l : List Bd) (sd : Int) : Swo (ltC (cfS l sd)) := by
  refine ⟨fun a b h => ?_, fun a b c h => ?_⟩
  · rw [ltS] at h ⊢
    simpa using (of_decide_eq_true h).asym
  · rw [ltS] at h
    rw [ltS, ltS]
    have h := of_decide_eq_true h
    by_cases g : bet sd (pI l a) (pI l c)
    · exact .inl (by simpa using g)
    · refine .inr ?_
      simp only [decide_eq_true_eq]
      unfold bet at *
      by_cases hs : sd = 1 <;> simp only [if_pos, if_neg, hs, not_false_eq_true] at * <;> omega
def grp (l : List Bd) (sd x P : Int) : List Int := (ids l sd x).filter fun i => decide (pI l i = P)
def fore (l : List Bd) (sd x P : Int) : List Int := (ids l sd x).filter fun i => decide (bet sd (pI l i) P)
def qs (l : List Bd) (m : List Int) : List Int := m.map (qI l)
/-- What the bids of one price get together. -/
def gotG (l : List Bd) (sd x v P : Int) : Int := min (sumI (qs l (grp l sd x P))) (max 0 (v - sumI (qs l (fore l sd x P))))
def dealt (rule t : Int) (W : List Int) : List Int := if rule = 2 then splitL t W else byTimeF t W
theorem dealt_len (rule t : Int) (W : List Int) : (dealt rule t W).length = W.length := by
  unfold dealt; split
  · exact splitL_len _ _
  · exact byTimeF_len _ _
/-- What a bid that takes part gets. -/
def fillF (l : List Bd) (sd x v rule i : Int) : Int := (dealt rule (gotG l sd x v (pI l i)) (qs l (grp l sd x (pI l i)))).getD ((grp l sd x (pI l i)).idxOf i) 0

/-- The bids in the order in which they are served. -/
structure Ord (l : List Bd) (sd x : Int) (f : Nat → Int) (L : Nat) : Prop where
  len : L = (ids l sd x).length
  good : Good (ltC (cfS l sd)) (fun k => (ids l sd x).getD k 0) f 0 L
namespace Ord
variable {l : List Bd} {sd x : Int} {f : Nat → Int} {L : Nat}
theorem perm (h : Ord l sd x f L) : (seg f 0 L).Perm (ids l sd x) := by
  refine h.good.perm.trans (List.Perm.of_eq ?_)
  apply List.ext_getElem
  · rw [seg_len, Nat.sub_zero, h.len]
  · intro i h1 h2
    rw [seg_get]; simp [h2]
theorem mem (h : Ord l sd x f L) {i : Int} : i ∈ ids l sd x ↔ ∃ k, k < L ∧ f k = i := by
  rw [← h.perm.mem_iff, mem_seg]
  exact ⟨fun ⟨k, _, k2, e⟩ => ⟨k, k2, e.symm⟩, fun ⟨k, k2, e⟩ => ⟨k, Nat.zero_le _, k2, e.symm⟩⟩
theorem at_ (h : Ord l sd x f L) {k : Nat} (hk : k < L) : 0 ≤ f k ∧ f k < l.length ∧ part sd x (bAt l (f k)) = true := mem_idsTo.1 (h.mem.2 ⟨k, hk, rfl⟩)
theorem le (h : Ord l sd x f L) {i j : Nat} (hij : i < j) (hj : j < L) : ¬ bet sd (pI l (f j)) (pI l (f i)) := by
  rcases h.good.srt i j (Nat.zero_le _) hij hj with q | ⟨q, _⟩
  · rw [ltS] at q
    exact (of_decide_eq_true q).asym
  · rw [ltS] at q
    exact of_decide_eq_false q
theorem early (h : Ord l sd x f L) {i j : Nat} (hij : i < j) (hj : j < L) (e : pI l (f i) = pI l (f j)) : f i < f j := by
  rcases h.good.srt i j (Nat.zero_le _) hij hj with q | ⟨_, q⟩
  · rw [ltS, e] at q
    exact absurd (of_decide_eq_true q) bet.irr
  · exact q
theorem inj (h : Ord l sd x f L) {i j : Nat} (hi : i < L) (hj : j < L) (e : f i = f j) : i = j := by
  rcases Nat.lt_trichotomy i j with q | q | q
  · have := h.early q hj (by rw [e]); omega
  · exact q
  · have := h.early q hi (by rw [e]); omega
/-- A price begins at a place. -/
def Edge (l : List Bd) (f : Nat → Int) (L a : Nat) : Prop := a = 0 ∨ a = L ∨ pI l (f (a - 1)) ≠ pI l (f a)
theorem ahead (h : Ord l sd x f L) {a k j : Nat} (ha : Edge l f L a) (hk : k < a) (hj : a ≤ j) (hjL : j < L) : bet sd (pI l (f k)) (pI l (f j)) := by
  rcases ha with q | q | q
  · omega
  · omega
  · have h1 : bet sd (pI l (f (a - 1))) (pI l (f a)) := bet.tri (h.le (by omega) (by omega)) (fun e => q e.symm)
    have h2 : bet sd (pI l (f (a - 1))) (pI l (f j)) := by
      rcases Nat.lt_or_ge a j with r | r
      · exact h1.late (h.le r hjL)
      · rw [show j = a by omega]; exact h1
    rcases Nat.lt_or_ge k (a - 1) with r | r
    · exact bet.soon (h.le r (by omega)) h2
    · rw [show k = a - 1 by omega]; exact h2
theorem parts (h : Ord l sd x f L) {a n : Nat} (hn : 0 < n) (hL : a + n ≤ L) (ha : Edge l f L a) (hb : Edge l f L (a + n)) (hsame : ∀ k, k < n → pI l (f (a + k)) = pI l (f a)) :
    seg f a (a + n) = grp l sd x (pI l (f a)) ∧ (fore l sd x (pI l (f a))).Perm (seg f 0 a) := by
  have hs : ∀ {k}, a ≤ k → k < a + n → pI l (f k) = pI l (f a) := fun {k} h1 h2 => by
    have := hsame (k - a) (by omega)
    rwa [show a + (k - a) = k by omega] at this
  have e0 : seg f 0 L = seg f 0 a ++ (seg f a (a + n) ++ seg f (a + n) L) := by
    rw [← seg_split f (show a ≤ a + n by omega) hL, ← seg_split f (Nat.zero_le a) (by omega)]
  constructor
  · refine inc_unique ?_ ((ids_inc l sd x _).sublist List.filter_sublist) fun i => ?_
    · unfold seg
      rw [List.pairwise_map]
      refine List.pairwise_iff_getElem.2 fun i j hi hj hij => ?_
      simp only [List.getElem_range]
      simp only [List.length_range] at hi hj
      exact h.early (by omega) (by omega) (by rw [hsame i (by omega), hsame j (by omega)])
    · unfold grp
      rw [mem_seg, List.mem_filter, h.mem]
      simp only [decide_eq_true_eq]
      constructor
      · rintro ⟨k, k1, k2, rfl⟩
        exact ⟨⟨k, by omega, rfl⟩, hs k1 k2⟩
      · rintro ⟨⟨k, k1, rfl⟩, e⟩
        refine ⟨k, ?_, ?_, rfl⟩
        · rcases Nat.lt_or_ge k a with q | q
          · have := h.ahead ha q (Nat.le_refl a) (by omega)
            rw [e] at this
            exact absurd this bet.irr
          · exact q
        · rcases Nat.lt_or_ge k (a + n) with q | q
          · exact q
          · have := h.ahead hb (k := a) (j := k) (by omega) q k1
            rw [e] at this
            exact absurd this bet.irr
  · unfold fore
    refine (h.perm.filter _).symm.trans (List.Perm.of_eq ?_)
    rw [e0, List.filter_append]
    have f1 : (seg f 0 a).filter (fun i => decide (bet sd (pI l i) (pI l (f a)))) = seg f 0 a := List.filter_eq_self.2 fun i hi => by
      obtain ⟨k, _, k2, rfl⟩ := mem_seg.1 hi
      simpa using h.ahead ha k2 (Nat.le_refl a) (by omega)
    have f2 : (seg f a (a + n) ++ seg f (a + n) L).filter (fun i => decide (bet sd (pI l i) (pI l (f a)))) = [] := List.filter_eq_nil_iff.2 fun i hi => by
      have : ∃ k, a ≤ k ∧ k < L ∧ i = f k := by
        rcases List.mem_append.1 hi with q | q
        · obtain ⟨k, k1, k2, e⟩ := mem_seg.1 q; exact ⟨k, k1, by omega, e⟩
        · obtain ⟨k, k1, k2, e⟩ := mem_seg.1 q; exact ⟨k, by omega, k2, e⟩
      obtain ⟨k, k1, k2, rfl⟩ := this
      simp only [decide_eq_true_eq]
      rcases Nat.lt_or_ge a k with q | q
      · exact h.le q k2
      · rw [show k = a by omega]; exact bet.irr
    rw [f1, f2, List.append_nil]
end Ord
theorem qs_len (l : List Bd) (m : List Int) : (qs l m).length = m.length := by simp [qs]
theorem qs_app (l : List Bd) (m m' : List Int) : qs l (m ++ m') = qs l m ++ qs l m' := by simp [qs]
/-- What is still to be dealt out where the first a are served. -/
def volF (l : List Bd) (f : Nat → Int) (v : Int) (a : Nat) : Int := max 0 (v - sumI (qs l (seg f 0 a)))
/-- The fills where the first c are served. -/
structure Served (l : List Bd) (sd x v rule : Int) (f : Nat → Int) (c : Nat) (h0 h : Nat → Int) : Prop where
  on : ∀ k, k < c → h (f k).toNat = fillF l sd x v rule (f k)
  off : ∀ i : Nat, (∀ k, k < c → f k ≠ (i : Int)) → h i = h0 i
theorem Served.start {l : List Bd} {sd x v rule : Int} {f : Nat → Int} (h0 : Nat → Int) : Served l sd x v rule f 0 h0 h0 := ⟨fun k hk => absurd hk (Nat.not_lt_zero k), fun _ _ => rfl⟩
theorem Served.next {l : List Bd} {sd x v rule : Int} {f : Nat → Int} {c L : Nat} {h0 h : Nat → Int} (o : Ord l sd x f L) (s : Served l sd x v rule f c h0 h) (hc : c < L) {m : Nat} (hm : f c = (m : Int)) {u : Int} (hu : u = fillF l sd x v rule (f c)) : Served l sd x v rule f (c + 1) h0 (fun k => if k = m then u else h k) := by
  refine ⟨fun k hk => ?_, fun i hi => ?_⟩
  · by_cases e : k = c
    · subst e
      rw [hm, Int.toNat_natCast, if_pos rfl, hu, hm]
    · have hne : (f k).toNat ≠ m := fun q => by
        have h1 := o.at_ (show k < L by omega)
        exact e (o.inj (by omega) hc (by omega))
      rw [if_neg hne]
      exact s.on k (by omega)
  · have : i ≠ m := fun e => hi c (Nat.lt_succ_self c) (by rw [hm, e])
    rw [if_neg this]
    exact s.off i fun k hk => hi k (by omega)
/-- The k-th of a price. -/
theorem fill_at {l : List Bd} {sd x v rule : Int} {f : Nat → Int} {L a n : Nat} (o : Ord l sd x f L) (hn : 0 < n) (hL : a + n ≤ L) (hs : seg f a (a + n) = grp l sd x (pI l (f a))) (hsame : ∀ k, k < n → pI l (f (a + k)) = pI l (f a)) {k : Nat} (hk : k < n) :
    fillF l sd x v rule (f (a + k)) = (dealt rule (gotG l sd x v (pI l (f a))) (qs l (seg f a (a + n)))).getD k 0 := by
  unfold fillF
  rw [hsame k hk, ← hs]
  congr 1
  have hlen : k < (seg f a (a + n)).length := by rw [seg_len]; omega
  have : f (a + k) = (seg f a (a + n))[k] := by rw [seg_get]
  rw [this]
  refine List.Nodup.idxOf_getElem ?_ k hlen
  rw [hs]
  exact (((ids_inc l sd x _).sublist List.filter_sublist).imp (fun h e => by omega))
theorem byTimeF_zero {W : List Int} (h : ∀ x ∈ W, 0 ≤ x) (k : Nat) : (byTimeF 0 W).getD k 0 = 0 := by
  induction W generalizing k with
  | nil => simp [byTimeF]
  | cons x W ih =>
    have hx := h x List.mem_cons_self
    have e : min x 0 = 0 := by omega
    simp only [byTimeF, e, Int.sub_zero]
    cases k with
    | zero => simp
    | succ k => simpa using ih (fun y hy => h y (List.mem_cons_of_mem _ hy)) k
theorem sumI_zeros {α : Type} (l : List α) : sumI (l.map fun _ => (0 : Int)) = 0 := by
  induction l with
  | nil => rfl
  | cons x l ih => simp only [List.map_cons, sumI, ih]; omega
theorem splitL_none (W : List Int) (k : Nat) : (splitL 0 W).getD k 0 = 0 := by
  by_cases hk : k < (splitL 0 W).length
  · have : (splitL 0 W).getD k 0 = (splitL 0 W)[k] := by simp [hk]
    rw [this, splitL_get]
    unfold shareF
    have e : (W.map fun x => 0 * x / sumI W) = W.map fun _ => (0 : Int) := by simp
    rw [e, sumI_zeros]
    split
    · rfl
    · simp
  · simp [Nat.le_of_not_lt hk]
theorem dealt_none {rule : Int} {W : List Int} (h : ∀ x ∈ W, 0 ≤ x) (k : Nat) : (dealt rule 0 W).getD k 0 = 0 := by
  unfold dealt; split
  · exact splitL_none W k
  · exact byTimeF_zero h k
theorem q_nonneg {l : List Bd} (hok : ∀ b ∈ l, b.ok) (i : Int) : 0 ≤ qI l i ∧ qI l i ≤ 1000000000 := by
  unfold qI bAt
  by_cases h : i.toNat < l.length
  · have := hok _ (List.getElem_mem h)
    have e : l.getD i.toNat bdZ = l[i.toNat] := by simp [h]
    rw [e]
    obtain ⟨_, _, _, h1, h2⟩ := this
    omega
  · have e : l.getD i.toNat bdZ = bdZ := by simp [Nat.le_of_not_lt h]
    rw [e]; simp [bdZ]
theorem qs_nonneg {l : List Bd} (hok : ∀ b ∈ l, b.ok) (m : List Int) : ∀ y ∈ qs l m, 0 ≤ y ∧ y ≤ 1000000000 := fun y hy => by
  obtain ⟨i, _, rfl⟩ := List.mem_map.1 hy
  exact q_nonneg hok i
theorem sum_sublist {l : List Bd} (hok : ∀ b ∈ l, b.ok) {m m' : List Int} (h : m.Sublist m') : sumI (qs l m) ≤ sumI (qs l m') := by
  induction h with
  | slnil => exact Int.le_refl _
  | cons a _ ih =>
    have := (q_nonneg hok a).1
    simp only [qs, List.map_cons, sumI] at ih ⊢; omega
  | cons_cons a _ ih => simp only [qs, List.map_cons, sumI] at ih ⊢; omega
/-- Behind the volume's end nobody gets anything. -/
theorem fill_none {l : List Bd} (hok : ∀ b ∈ l, b.ok) {sd x v rule : Int} {f : Nat → Int} {L a k : Nat} (o : Ord l sd x f L) (ha : Ord.Edge l f L a) (hv : v ≤ sumI (qs l (seg f 0 a))) (hk : a ≤ k) (hkL : k < L) : fillF l sd x v rule (f k) = 0 := by
  unfold fillF
  have hle : sumI (qs l (seg f 0 a)) ≤ sumI (qs l (fore l sd x (pI l (f k)))) := by
    have hp : (fore l sd x (pI l (f k))).Perm ((seg f 0 L).filter fun i => decide (bet sd (pI l i) (pI l (f k)))) := (o.perm.filter _).symm
    have hq : sumI (qs l (fore l sd x (pI l (f k)))) = sumI (qs l ((seg f 0 L).filter fun i => decide (bet sd (pI l i) (pI l (f k))))) := sumI_perm (hp.map _)
    rw [hq]
    refine sum_sublist hok ?_
    rw [seg_split f (Nat.zero_le a) (show a ≤ L by omega), List.filter_append]
    have f1 : (seg f 0 a).filter (fun i => decide (bet sd (pI l i) (pI l (f k)))) = seg f 0 a := List.filter_eq_self.2 fun i hi => by
      obtain ⟨j, _, j2, rfl⟩ := mem_seg.1 hi
      simpa using o.ahead ha j2 hk hkL
    rw [f1]
    exact List.sublist_append_left _ _
  have hS : 0 ≤ sumI (qs l (grp l sd x (pI l (f k)))) := sumI_nonneg fun y hy => (qs_nonneg hok _ y hy).1
  have hg : gotG l sd x v (pI l (f k)) = 0 := by unfold gotG; omega
  rw [hg]
  exact dealt_none (fun y hy => (qs_nonneg hok _ y hy).1) _
/-- The fills behind serve. -/
def servedF (l : List Bd) (sd x v rule : Int) (h0 : Nat → Int) : Nat → Int := fun i => if part sd x (bAt l i) = true then fillF l sd x v rule i else h0 i
theorem served_end {l : List Bd} (hok : ∀ b ∈ l, b.ok) {sd x v rule : Int} {f : Nat → Int} {L a : Nat} {h0 h : Nat → Int} (o : Ord l sd x f L) (ha : Ord.Edge l f L a) (haL : a ≤ L) (s : Served l sd x v rule f a h0 h) (hz : ∀ i : Nat, i < l.length → part sd x (bAt l i) = true → h0 i = 0) (hend : a = L ∨ v ≤ sumI (qs l (seg f 0 a))) (i : Nat) (hi : i < l.length) : h i = servedF l sd x v rule h0 i := by
  unfold servedF
  by_cases hp : part sd x (bAt l i) = true
  · rw [if_pos hp]
    obtain ⟨k, hk, e⟩ := o.mem.1 (mem_idsTo.2 ⟨by omega, by omega, hp⟩ : (i : Int) ∈ ids l sd x)
    rcases Nat.lt_or_ge k a with q | q
    · have := s.on k q
      rw [e] at this
      simpa using this
    · rw [s.off i fun j hj e2 => by have := o.inj (show j < L by omega) hk (by rw [e2, e]); omega, hz i hi hp]
      rcases hend with r | r
      · omega
      · rw [← e]
        exact (fill_none hok o ha r q hk).symm
  · rw [if_neg hp]
    exact s.off i fun k hk e => hp (by have := (o.at_ (show k < L by omega)).2.2; rwa [e] at this)
end Go.Proofs.YtepldjidkomclaaGreat.Ca
namespace Go.Proofs.YtepldjidkomclaaGreat.Ca
set_option linter.unusedSimpArgs false
set_option linter.unusedVariables false
open Go.RowKit
attribute [local go_sem] Oper.semAt_some
attribute [local go_sem ↓] Go.wp_at_zero Go.wp_at_succ
theorem bAt_get {l : List Bd} {i : Nat} (hi : i < l.length) : bAt l (i : Int) = l[i] := by unfold bAt; simp [hi]

set_option maxRecDepth 100000 in
set_option maxHeartbeats 4000000 in
theorem servec_calls {w : World} {v : Value} {l : List Bd} (hv : ReadsE encBd 3 w v l) (hok : ∀ b ∈ l, b.ok) {lb sb : Nat} {sd : Int} (hb : Cells w lb #[v] 22) (hs : Cells w sb #[.int .i64 sd] 3) {i j : Nat} (hi : i < l.length) (hj : j < l.length) :
    Calls Tryz.prog 100 #[.int .i64 i, .int .i64 j, .pointer (some ⟨sb, 0, none⟩), .pointer (some ⟨lb, 0, none⟩)] w fun e w' => e = .returned (.int .i64 (cfS l sd i j)) ∧ Below w.heap.size w w' := by
  obtain ⟨hm, p, cap, bb, off, rfl, hp, hc⟩ := hv
  obtain ⟨n, hn⟩ : ∃ n, n = l.length := ⟨_, rfl⟩
  obtain ⟨rfl, hbb⟩ := hp (by omega)
  have c0 : w.cell? ⟨lb, 0, none⟩ = some (.slice (some ⟨bb, off, none⟩) n cap) := by rw [hb.cell, hn]; rfl
  have c1 : w.cell? ⟨sb, 0, none⟩ = some (.int .i64 sd) := by rw [hs.cell]; rfl
  have m1 := hc i hi 1 (by omega)
  have m2 := hc j hj 1 (by omega)
  have o1 := hok _ (List.getElem_mem hi)
  have o2 := hok _ (List.getElem_mem hj)
  simp [encBd] at m1 m2
  have q1 := bAt_get hi
  have q2 := bAt_get hj
  unfold cfS pI
  rw [q1, q2]
  obtain ⟨x, hx⟩ : ∃ x, x = l[i].p := ⟨_, rfl⟩
  obtain ⟨y, hy⟩ : ∃ y, y = l[j].p := ⟨_, rfl⟩
  have ox : 1 ≤ x ∧ x ≤ 1000000 := by rw [hx]; exact ⟨o1.2.1, o1.2.2.1⟩
  have oy : 1 ≤ y ∧ y ≤ 1000000 := by rw [hy]; exact ⟨o2.2.1, o2.2.2.1⟩
  rw [← hx] at m1 ⊢
  rw [← hy] at m2 ⊢
  rw [← hn] at hi hj
  have l0 := hb.lt
  have l1 := hs.lt
  have p1 : (i : Int) < (n : Int) := by omega
  have p2 : (j : Int) < (n : Int) := by omega
  have p3 : (0 : Int) ≤ (i : Int) := by omega
  have p4 : (0 : Int) ≤ (j : Int) := by omega
  have e1 : IntKind.i64.wrap (x - y) = x - y := IntWalk.i64_in _ (by omega)
  have e2 : IntKind.i64.wrap (y - x) = y - x := IntWalk.i64_in _ (by omega)
  clear hx hy hb hs hc hp hok q1 q2 o1 o2 hn hm
  by_cases h1 : sd = 1
  · have g1 : (sd == 1) = true := by simpa using h1
    rw [if_pos h1]
    obtain ⟨R, hR⟩ : ∃ R : Ending → World → Prop, R = fun e w' => e = .returned (.int .i64 (y - x)) ∧ Below w.heap.size w w' := ⟨_, rfl⟩
    rw [← hR]
    have FN := hid (show ∀ k, R (.returned (.int .i64 (y - x))) (w.drewN k) from fun k => by rw [hR]; exact ⟨rfl, Below.of_drewN w k⟩)
    clear hR h1
    go_enter Tryz.func100, Tryz.ntmps100
    go_upto_region 3 with fail
    go_region
    all_goals go_wp2
    all_goals first | exact FN.out 1 | (go_ret; exact FN.out 1)
  · have g1 : (sd == 1) = false := by simpa using h1
    rw [if_neg h1]
    obtain ⟨R, hR⟩ : ∃ R : Ending → World → Prop, R = fun e w' => e = .returned (.int .i64 (x - y)) ∧ Below w.heap.size w w' := ⟨_, rfl⟩
    rw [← hR]
    have FN := hid (show ∀ k, R (.returned (.int .i64 (x - y))) (w.drewN k) from fun k => by rw [hR]; exact ⟨rfl, Below.of_drewN w k⟩)
    clear hR h1
    go_enter Tryz.func100, Tryz.ntmps100
    go_upto_region 3 with fail
    go_region
    all_goals go_wp2
    all_goals first | exact FN.out 1 | (go_ret; exact FN.out 1)

/-- What a comparison of serve reads. -/
theorem cmp_serve {w : World} {v : Value} {l : List Bd} (hv : ReadsE encBd 3 w v l) (hok : ∀ b ∈ l, b.ok) {lb sb g : Nat} {sd : Int} (hb : Cells w lb #[v] 22) (hs : Cells w sb #[.int .i64 sd] 3) {B : Nat} (hB : B ≤ w.heap.size) (hvB : ∀ w', Below B w w' → ReadsE encBd 3 w' v l) (hg : B ≤ g) (h1 : lb ≠ g) (h2 : sb ≠ g) :
    CmpF 100 #[.pointer (some ⟨sb, 0, none⟩), .pointer (some ⟨lb, 0, none⟩)] (cfS l sd) (fun x => 0 ≤ x ∧ x < (l.length : Int)) g w := by
  refine ⟨enters_of Tryz.func100 (by kernel_rfl) rfl, fun w' hk x y hx hy => ?_⟩
  obtain ⟨i, rfl⟩ : ∃ i : Nat, x = i := ⟨x.toNat, by omega⟩
  obtain ⟨j, rfl⟩ : ∃ j : Nat, y = j := ⟨y.toNat, by omega⟩
  exact servec_calls (hvB w' (hk.below hB (fun k hk => by omega))) hok (hb.kept hk h1) (hs.kept hk h2) (by omega) (by omega)
end Go.Proofs.YtepldjidkomclaaGreat.Ca
namespace Go.Proofs.YtepldjidkomclaaGreat.Ca
set_option linter.unusedSimpArgs false
set_option linter.unusedVariables false
open Go.RowKit
/-- Mul64 then Div64. -/
theorem quota_nat {t x S : Nat} (hx : x ≤ 1000000000) (ht : t ≤ S) (hS : 0 < S) : t * x / 18446744073709551616 < S ∧ (t * x / 18446744073709551616) * 18446744073709551616 + t * x % 18446744073709551616 = t * x := by
  refine ⟨?_, by omega⟩
  have h1 : t * x ≤ S * 1000000000 := Nat.mul_le_mul ht hx
  rw [Nat.div_lt_iff_lt_mul (by omega)]
  omega
/-- The rows of split. -/
structure SpR (w0 : World) (n : Nat) (q r o : Nat → Int) (w : World) : Prop where
  out : RowL w w0.heap.size n q
  rst : RowU w (w0.heap.size + 1) n r
  ord : Row w (w0.heap.size + 3) n o
  box : Cells w (w0.heap.size + 2) #[.slice (some ⟨w0.heap.size + 1, 0, none⟩) n n] 149
  below : Below w0.heap.size w0 w
theorem SpR.drew {w0 : World} {n : Nat} {q r o : Nat → Int} {w : World} (h : SpR w0 n q r o w) : SpR w0 n q r o w.drew := ⟨h.out, h.rst, h.ord, h.box, h.below.drew⟩
def upd (f : Nat → Int) (i : Nat) (v : Int) : Nat → Int := fun k => if k = i then v else f k
theorem set_kept (w : World) (b i : Nat) (v : Value) : Kept (fun k => k = b) w (w.setCell ⟨b, i, none⟩ v) := (Kept.refl (fun k => k = b) w).set (C := b) rfl _ _
theorem SpR.setQ {w0 : World} {n : Nat} {q r o : Nat → Int} {w : World} (h : SpR w0 n q r o w) (i : Nat) (v : Int) : SpR w0 n (upd q i v) r o (w.setCell ⟨w0.heap.size, i, none⟩ (.int .i64 v)) :=
  ⟨h.out.set i v, h.rst.kept (set_kept _ _ _ _) (by omega), h.ord.kept (set_kept _ _ _ _) (by omega), h.box.kept (set_kept _ _ _ _) (by omega), h.below.trans ((set_kept _ _ _ _).below h.below.size (fun k hk => by omega))⟩
theorem SpR.setR {w0 : World} {n : Nat} {q r o : Nat → Int} {w : World} (h : SpR w0 n q r o w) (i : Nat) (v : Int) : SpR w0 n q (upd r i v) o (w.setCell ⟨w0.heap.size + 1, i, none⟩ (.int .u64 v)) :=
  ⟨h.out.kept (set_kept _ _ _ _) (by omega), h.rst.set i v, h.ord.kept (set_kept _ _ _ _) (by omega), h.box.kept (set_kept _ _ _ _) (by omega), h.below.trans ((set_kept _ _ _ _).below h.below.size (fun k hk => by omega))⟩
theorem SpR.setO {w0 : World} {n : Nat} {q r o : Nat → Int} {w : World} (h : SpR w0 n q r o w) (i : Nat) (v : Int) : SpR w0 n q r (upd o i v) (w.setCell ⟨w0.heap.size + 3, i, none⟩ (.int .i64 v)) :=
  ⟨h.out.kept (set_kept _ _ _ _) (by omega), h.rst.kept (set_kept _ _ _ _) (by omega), h.ord.set i v, h.box.kept (set_kept _ _ _ _) (by omega), h.below.trans ((set_kept _ _ _ _).below h.below.size (fun k hk => by omega))⟩
/-- The state of the loop that deals the quotas out. -/
def SpS (w0 : World) (n : Nat) (l : List Int) (t S : Int) (i : Nat) (w : World) : Prop :=
  ∃ q r o, SpR w0 n q r o w ∧ ∀ (k : Nat) (hk : k < l.length), k < i → q k = t * l[k] / S ∧ r k = t * l[k] % S ∧ o k = (k : Int)
theorem SpS.next {w0 : World} {n : Nat} {l : List Int} {t S : Int} {i : Nat} {q r o : Nat → Int} {w' : World} {x : Int} (hl : ∀ (k : Nat) (hk : k < l.length), k < i → q k = t * l[k] / S ∧ r k = t * l[k] % S ∧ o k = (k : Int)) (hi : i < l.length) (hx : x = l[i]) (h : SpR w0 n (upd q i (t * x / S)) (upd r i (t * x % S)) (upd o i (i : Int)) w') : SpS w0 n l t S (i + 1) w' := by
  refine ⟨_, _, _, h, fun k hk hki => ?_⟩
  unfold upd
  by_cases e : k = i
  · subst e
    rw [if_pos rfl, if_pos rfl, if_pos rfl, hx]
    exact ⟨rfl, rfl, rfl⟩
  · rw [if_neg e, if_neg e, if_neg e]
    exact hl k hk (by omega)
end Go.Proofs.YtepldjidkomclaaGreat.Ca
namespace Go.Proofs.YtepldjidkomclaaGreat.Ca
set_option linter.unusedSimpArgs false
set_option linter.unusedVariables false
open Go.RowKit
attribute [local go_sem] Oper.semAt_some
attribute [local go_sem ↓] Go.wp_at_zero Go.wp_at_succ
theorem infoU64 : (Tryz.prog.info? 88).map (fun i => (i.zero, i.size, i.bytes)) = some (some (.int .u64 0), 1, 8) := by kernel_rfl
theorem undU64 : Tryz.prog.underlying 149 = some (.slice 88) := by kernel_rfl
theorem infoIn : (Tryz.prog.info? 3).map (fun i => (i.zero, i.size, i.bytes)) = some (some (.int .i64 0), 1, 8) := by kernel_rfl
theorem undIn : Tryz.prog.underlying 47 = some (.slice 3) := by kernel_rfl
theorem mk_u64 (w : World) (n : Nat) (hn : n ≤ 5000) : (Instr.makeSlice 149 (.int .i64 n) (.int .i64 n)).run Tryz.prog w = .ok (.slice (some ⟨w.heap.size, 0, none⟩) n n) (w.alloc (.cells (madeCells #[.int .u64 0] n) 88)) := by
  obtain ⟨i, h1, h2, h3, h4⟩ := info_of infoU64
  have := run_makeSlice (w := w) 149 88 i _ undU64 h1 h2 .i64 .i64 (n : Int) (n : Int) (by omega) (Int.le_refl _) (by rw [h3]; simp; omega) (by rw [h4]; omega) (by omega)
  rw [h3] at this
  simpa [Value.cells] using this
theorem mk_int (w : World) (n : Nat) (hn : n ≤ 5000) : (Instr.makeSlice 47 (.int .i64 n) (.int .i64 n)).run Tryz.prog w = .ok (.slice (some ⟨w.heap.size, 0, none⟩) n n) (w.alloc (.cells (madeCells #[.int .i64 0] n) 3)) := by
  obtain ⟨i, h1, h2, h3, h4⟩ := info_of infoIn
  have := run_makeSlice (w := w) 47 3 i _ undIn h1 h2 .i64 .i64 (n : Int) (n : Int) (by omega) (Int.le_refl _) (by rw [h3]; simp; omega) (by rw [h4]; omega) (by omega)
  rw [h3] at this
  simpa [Value.cells] using this

theorem sumI_bound {l : List Int} (h : ∀ x ∈ l, 0 ≤ x ∧ x ≤ 1000000000) : 0 ≤ sumI l ∧ sumI l ≤ 1000000000 * (l.length : Int) := by
  induction l with
  | nil => simp [sumI]
  | cons y l ih =>
    obtain ⟨h1, h2⟩ := ih fun x hx => h x (List.mem_cons_of_mem _ hx)
    have := h y List.mem_cons_self
    simp only [sumI, List.length_cons]
    omega
theorem RowL.made (w : World) (n : Nat) : RowL (w.alloc (.cells (madeCells #[.int .i64 0] n) 2)) w.heap.size n (fun _ => 0) :=
  RowL.new w n _ (size_madeCells _ _) (fun i hi => by rw [← Array.getElem?_toList, toList_madeCells_one]; simp [hi])
theorem RowU.made (w : World) (n : Nat) : RowU (w.alloc (.cells (madeCells #[.int .u64 0] n) 88)) w.heap.size n (fun _ => 0) :=
  ⟨_, Cells.new w _ _, size_madeCells _ _, fun i hi => by rw [← Array.getElem?_toList, toList_madeCells_one]; simp [hi]⟩
theorem Row.made (w : World) (n : Nat) : Row (w.alloc (.cells (madeCells #[.int .i64 0] n) 3)) w.heap.size n (fun _ => 0) :=
  ⟨_, Cells.new w _ _, fun i hi => by rw [← Array.getElem?_toList, toList_madeCells_one]; simp [hi]⟩

theorem plus_bound {f q : Nat → Int} {a m : Nat} (h : 0 ≤ q m ∧ q m ≤ 1000000000) : -1000 ≤ plusOne f q a m ∧ plusOne f q a m ≤ 9000000000000000 := by
  unfold plusOne; split <;> omega
theorem quota_b {t x S : Int} (ht : 0 ≤ t ∧ t ≤ S) (hx : 0 ≤ x ∧ x ≤ 1000000000) (hS : 0 < S) : 0 ≤ t * x / S ∧ t * x / S ≤ 1000000000 := by
  have g1 : 0 ≤ t * x / S := Int.ediv_nonneg (Int.mul_nonneg (by omega) (by omega)) (by omega)
  have g2 : t * x / S ≤ x := Int.ediv_le_of_le_mul (by omega) (by rw [Int.mul_comm x S]; exact Int.mul_le_mul_of_nonneg_right (by omega) (by omega))
  omega

set_option maxRecDepth 100000 in
set_option maxHeartbeats 8000000 in
theorem split_calls {w : World} {v : Value} {l : List Int} (hv : ReadsE encI 1 w v l) (hl : l.length ≤ 4096) (hok : ∀ x ∈ l, 0 ≤ x ∧ x ≤ 1000000000) {t : Int} (ht : 0 ≤ t ∧ t ≤ sumI l) :
    Calls Tryz.prog 33 #[.int .i64 t, v] w fun e w' => ∃ v', e = .returned v' ∧ RowI w.heap.size w' v' (splitL t l) ∧ Below w.heap.size w w' := by
  obtain ⟨hm, p, cap, bb, off, rfl, hp, hc⟩ := hv
  obtain ⟨n, hn⟩ : ∃ n, n = l.length := ⟨_, rfl⟩
  rw [← hn] at hp hm hl ⊢
  have HN := hid hn
  have HP := hid hp
  have HC := hid hc
  have HOK := hid hok
  have HT := hid ht
  obtain ⟨R, hR⟩ : ∃ R : Ending → World → Prop, R = fun e w' => ∃ v', e = .returned v' ∧ RowI w.heap.size w' v' (splitL t l) ∧ Below w.heap.size w w' := ⟨_, rfl⟩
  have HR := hid hR
  rw [← hR]
  have hn0 : (0 : Int) ≤ (n : Int) := by omega
  clear hR hn hp hc hok ht
  go_enter Tryz.func33, Tryz.ntmps33
  go_upto_region 3 with fail
  go_loopg [23, 5] n (fun k s23 s5 wr => ∃ i : Nat, i + k = n ∧ s23 = .int .i64 i ∧ s5 = .int .i64 (sumI (l.take i)) ∧ wr = w)
  case atStart => exact ⟨0, by omega, rfl, rfl, rfl⟩
  case round =>
    obtain ⟨i, hik, rfl, rfl, rfl⟩ := hrel
    have HIK := hid hik
    clear hik
    by_cases hin : i < n
    · have hil : i < l.length := by rw [← HN.out]; exact hin
      obtain ⟨rfl, hbb⟩ := HP.out (by omega)
      have c0 := HC.out i hil 0 (by omega)
      simp [encI] at c0
      obtain ⟨x, hx⟩ : ∃ x, x = l[i] := ⟨_, rfl⟩
      rw [← hx] at c0
      have gi : (i : Int) < (n : Int) := by omega
      have gi0 : (0 : Int) ≤ (i : Int) := by omega
      have hxb := HOK.out x (by rw [hx]; exact List.getElem_mem _)
      have hsb : 0 ≤ sumI (l.take i) ∧ sumI (l.take i) ≤ 5000000000000 := by
        have := sumI_bound (l := l.take i) (fun y hy => HOK.out y (List.mem_of_mem_take hy))
        rw [List.length_take] at this
        omega
      have SN := hid (show sumI (l.take (i + 1)) = sumI (l.take i) + x by rw [take_snoc hil, sumI_snoc, ← hx])
      obtain ⟨a, ha⟩ : ∃ a, a = sumI (l.take i) := ⟨_, rfl⟩
      rw [← ha] at hsb SN ⊢
      have ew : IntKind.i64.wrap (a + x) = a + x := IntWalk.i64_in _ (by omega)
      clear hx ha
      go_wp2
      go_roundg (n - (i + 1))
      · exact ⟨i + 1, by omega, by go_num, by rw [SN.out], rfl⟩
      · have := HIK.out; omega
    · have hin' : i = n := by have := HIK.out; omega
      subst hin'
      have g1 : decide ((i : Int) < (i : Int)) = false := by simp
      have hlt : l.take i = l := by rw [HN.out, List.take_length]
      rw [hlt]
      have hmk := mk_i64 wr i (by omega)
      have hsb := sumI_bound (l := l) HOK.out
      have HT2 := HT.out
      obtain ⟨S, hS⟩ : ∃ S, S = sumI l := ⟨_, rfl⟩
      rw [← hS] at hsb HT2 ⊢
      have HS := hid hS
      clear hS hlt
      by_cases hS0 : S = 0
      · have e1 : (S == 0) = true := by simpa using hS0
        have FIN := hid (show R (.returned (.slice (some ⟨wr.heap.size, 0, none⟩) i i)) (wr.alloc (.cells (madeCells #[.int .i64 0] i) 2)) by
          rw [HR.out]
          refine ⟨_, rfl, ?_, (Below.refl _ _).alloc (Nat.le_refl _) _⟩
          rw [splitL_zero (by rw [← HS.out]; exact hS0), ← HN.out]
          exact (RowL.made wr i).own (by simp) (fun k hk => by simp) (Nat.le_refl _) (by unfold maxLen; omega))
        go_wp2
        first | exact FIN.out | (go_ret; exact FIN.out)
      · have e1 : (S == 0) = false := by simpa using hS0
        have hmu := mk_u64 (wr.alloc (.cells (madeCells #[.int .i64 0] i) 2)) i (by omega)
        obtain ⟨w4, hw4⟩ : ∃ w4, w4 = ((((wr.alloc (.cells (madeCells #[.int .i64 0] i) 2)).alloc (.cells (madeCells #[.int .u64 0] i) 88)).alloc (.cells #[.slice (some ⟨wr.heap.size + 1, 0, none⟩) i i] 149)).alloc (.cells (madeCells #[.int .i64 0] i) 3)) := ⟨_, rfl⟩
        have hmi := mk_int (((wr.alloc (.cells (madeCells #[.int .i64 0] i) 2)).alloc (.cells (madeCells #[.int .u64 0] i) 88)).alloc (.cells #[.slice (some ⟨wr.heap.size + 1, 0, none⟩) i i] 149)) i (by omega)
        rw [← hw4] at hmi
        have S0 := hid (show SpS wr i l t S 0 w4 by
          have a1 := RowL.made wr i
          have a2 := RowU.made (wr.alloc (.cells (madeCells #[.int .i64 0] i) 2)) i
          have a3 := Cells.new ((wr.alloc (.cells (madeCells #[.int .i64 0] i) 2)).alloc (.cells (madeCells #[.int .u64 0] i) 88)) #[.slice (some ⟨wr.heap.size + 1, 0, none⟩) i i] 149
          have a4 := Row.made (((wr.alloc (.cells (madeCells #[.int .i64 0] i) 2)).alloc (.cells (madeCells #[.int .u64 0] i) 88)).alloc (.cells #[.slice (some ⟨wr.heap.size + 1, 0, none⟩) i i] 149)) i
          simp only [World.size_alloc] at a2 a3 a4
          have ka : ∀ (w : World) (o : Obj), Kept (fun _ => False) w (w.alloc o) := fun w o => (Kept.refl _ _).alloc _
          refine ⟨fun _ => 0, fun _ => 0, fun _ => 0, ⟨?_, ?_, ?_, ?_, ?_⟩, fun k hk h => absurd h (Nat.not_lt_zero k)⟩
          · rw [hw4]; exact ((a1.kept (ka _ _) id).kept (ka _ _) id).kept (ka _ _) id
          · rw [hw4]; exact (a2.kept (ka _ _) id).kept (ka _ _) id
          · rw [hw4]; exact a4
          · rw [hw4]; exact a3.alloc _
          · rw [hw4]; exact ((((Below.refl _ _).alloc (Nat.le_refl _) _).alloc (by simp) _).alloc (by simp; omega) _).alloc (by simp; omega) _)
        have HW4 := hid hw4
        clear hw4
        obtain ⟨w0, rfl⟩ : ∃ w0 : World, w0 = wr := ⟨_, rfl⟩
        go_upto_region 14 with fail
        go_loopg [46, 11] i (fun k s46 s11 wr => ∃ j : Nat, j + k = i ∧ s46 = .int .i64 j ∧ s11 = .int .i64 (t - sumI ((l.take j).map fun x => t * x / S)) ∧ SpS w0 i l t S j wr)
        case atStart => exact ⟨0, by omega, rfl, by simp [sumI], S0.out⟩
        case round =>
          obtain ⟨j, hjk, rfl, rfl, ss⟩ := hrel
          have HJK := hid hjk
          have SS := hid ss
          clear hjk ss S0 hmi hmu hmk
          by_cases hjn : j < i
          · have hjl : j < l.length := by rw [← HN.out]; exact hjn
            obtain ⟨q, r, o, sr, hlo⟩ := SS.out
            have SR := hid sr
            have HLO := hid hlo
            clear sr hlo
            obtain ⟨rfl, hbb⟩ := HP.out (by omega)
            have c0 := (SR.out.below.cell (p := ⟨bb, off + j * 1 + 0, none⟩) hbb).trans (HC.out j hjl 0 (by omega))
            simp [encI] at c0
            obtain ⟨x, hx⟩ : ∃ x, x = l[j] := ⟨_, rfl⟩
            rw [← hx] at c0
            have hxb := HOK.out x (by rw [hx]; exact List.getElem_mem _)
            have gj : (j : Int) < (i : Int) := by omega
            have gj0 : (0 : Int) ≤ (j : Int) := by omega
            have hS6 : S ≤ 5000000000000 := by have := HN.out; omega
            have SN := hid (show sumI ((l.take (j + 1)).map fun x => t * x / S) = sumI ((l.take j).map fun x => t * x / S) + t * x / S by rw [take_snoc hjl, List.map_append, List.map_singleton, sumI_snoc, ← hx])
            have HX := hid hx
            have qn := quota_nat (t := t.toNat) (x := x.toNat) (S := S.toNat) (by omega) (by omega) (by omega)
            have hLm := Nat.mod_lt (t.toNat * x.toNat) (show 18446744073709551616 > 0 by omega)
            have hmul := fun wx => Tryz.bits_Mul64 t.toNat x.toNat (by omega) (by omega) wx
            obtain ⟨H, hH⟩ : ∃ H, H = t.toNat * x.toNat / 18446744073709551616 := ⟨_, rfl⟩
            obtain ⟨L, hL⟩ : ∃ L, L = t.toNat * x.toNat % 18446744073709551616 := ⟨_, rfl⟩
            rw [← hH, ← hL] at qn
            rw [← hL] at hLm
            rw [← hH, ← hL, Int.toNat_of_nonneg (show 0 ≤ t by omega), Int.toNat_of_nonneg (show 0 ≤ x by omega)] at hmul
            have MU := hid hmul
            have DV := hid (show ∀ wx, Calls Tryz.prog 75 #[.int .u64 (H : Int), .int .u64 (L : Int), .int .u64 S] wx fun e w' => e = .returned (.tuple #[.int .u64 (t * x / S), .int .u64 (t * x % S)]) ∧ ∃ k, w' = wx.drewN k from fun wx => by
              have := div64_calls H L S.toNat qn.1 hLm (by omega) wx
              rw [qn.2, Int.natCast_ediv, Int.natCast_emod, Int.natCast_mul, Int.toNat_of_nonneg (show 0 ≤ t by omega), Int.toNat_of_nonneg (show 0 ≤ x by omega), Int.toNat_of_nonneg (show 0 ≤ S by omega)] at this
              exact this)
            obtain ⟨sm, hsm⟩ : ∃ sm, sm = sumI ((l.take j).map fun x => t * x / S) := ⟨_, rfl⟩
            rw [← hsm] at SN ⊢
            have hsmb : 0 ≤ sm ∧ sm ≤ 5000000000000 := by
              have := sumI_bound (l := (l.take j).map fun x => t * x / S) (fun y hy => by
                obtain ⟨x', hx', rfl⟩ := List.mem_map.1 hy
                have hxb' := HOK.out x' (List.mem_of_mem_take hx')
                have g1 : 0 ≤ t * x' / S := Int.ediv_nonneg (Int.mul_nonneg (by omega) (by omega)) (by omega)
                have g2 : t * x' / S ≤ x' := Int.ediv_le_of_le_mul (by omega) (by rw [Int.mul_comm x' S]; exact Int.mul_le_mul_of_nonneg_right (by omega) (by omega))
                omega)
              rw [List.length_map, List.length_take] at this
              omega
            have hQ0 : 0 ≤ t * x / S := Int.ediv_nonneg (Int.mul_nonneg (by omega) (by omega)) (by omega)
            have hQ1 : t * x / S ≤ x := Int.ediv_le_of_le_mul (by omega) (by rw [Int.mul_comm x S]; exact Int.mul_le_mul_of_nonneg_right (by omega) (by omega))
            have eu1 : IntKind.u64.wrap t = t := IntWalk.u64_in _ (by omega)
            have eu2 : IntKind.u64.wrap x = x := IntWalk.u64_in _ (by omega)
            have eu3 : IntKind.u64.wrap S = S := IntWalk.u64_in _ (by omega)
            obtain ⟨Q, hQe⟩ : ∃ Q, Q = t * x / S := ⟨_, rfl⟩
            obtain ⟨U, hUe⟩ : ∃ U, U = t * x % S := ⟨_, rfl⟩
            rw [← hQe] at hQ0 hQ1 SN
            rw [← hQe, ← hUe] at DV
            have ei : IntKind.i64.wrap Q = Q := IntWalk.i64_in _ (by omega)
            have HQ := hid hQe
            have HU := hid hUe
            clear hsm hx hQe hUe qn hLm hmul hH hL
            go_upto_region 16 with fail
            go_wp2_with fail
            refine (MU.out _).mono ?_
            rintro e w5 ⟨rfl, rfl⟩
            go_wp2_with fail
            refine (DV.out _).mono ?_
            rintro e w6 ⟨rfl, kk, rfl⟩
            go_upto_region 18 with fail
            have sr6 : SpR w0 i q r o (w5.drewN kk) := ⟨SR.out.out, SR.out.rst, SR.out.ord, SR.out.box, drewN_below SR.out.below kk⟩
            obtain ⟨w6, hw6⟩ : ∃ w6, w6 = w5.drewN kk := ⟨_, rfl⟩
            rw [← hw6] at sr6 ⊢
            have m1 := sr6.out.cell hjn
            have m2 := sr6.rst.cell hjn
            have m3 := sr6.ord.cell hjn
            have mb : w6.cell? ⟨w0.heap.size + 2, 0, none⟩ = some (.slice (some ⟨w0.heap.size + 1, 0, none⟩) i i) := by rw [sr6.box.cell]; rfl
            have f1 := sr6.out.froz j
            have f2 := sr6.rst.froz j
            have f3 := sr6.ord.froz j
            have l1 := sr6.out.lt
            have l2 := sr6.rst.lt
            have l3 := sr6.ord.lt
            have l4 := sr6.box.lt
            have SR6 := hid sr6
            clear sr6 hw6
            have ev : IntKind.i64.wrap (t - sm - Q) = t - sm - Q := IntWalk.i64_in _ (by omega)
            have LE := hid (show t - sumI ((l.take (j + 1)).map fun x => t * x / S) = t - sm - Q by have h1 := SN.out; have h2 := HQ.out; omega)
            go_region
            all_goals go_wp2
            all_goals (
              go_roundg (i - (j + 1))
              · refine ⟨j + 1, by omega, by go_num, by rw [LE.out], SpS.next HLO.out hjl HX.out ?_⟩
                rw [← HQ.out, ← HU.out]
                first
                  | exact (((SR6.out.setQ j Q).setR j U).setO j j)
                  | exact (((SR6.out.setQ j Q).setR j U).setO j j).drew
                  | exact (((SR6.out.setQ j Q).setO j j).setR j U)
                  | exact (((SR6.out.setQ j Q).setO j j).setR j U).drew
                  | exact (((SR6.out.setR j U).setQ j Q).setO j j)
                  | exact (((SR6.out.setR j U).setQ j Q).setO j j).drew
                  | exact (((SR6.out.setR j U).setO j j).setQ j Q)
                  | exact (((SR6.out.setR j U).setO j j).setQ j Q).drew
                  | exact (((SR6.out.setO j j).setQ j Q).setR j U)
                  | exact (((SR6.out.setO j j).setQ j Q).setR j U).drew
                  | exact (((SR6.out.setO j j).setR j U).setQ j Q)
                  | exact (((SR6.out.setO j j).setR j U).setQ j Q).drew
                  | exact (((SR6.out.drew.setQ j Q).setR j U).setO j j)
                  | exact (((SR6.out.drew.setQ j Q).setR j U).setO j j).drew
                  | exact (((SR6.out.drew.setQ j Q).setO j j).setR j U)
                  | exact (((SR6.out.drew.setQ j Q).setO j j).setR j U).drew
                  | exact (((SR6.out.drew.setR j U).setQ j Q).setO j j)
                  | exact (((SR6.out.drew.setR j U).setQ j Q).setO j j).drew
                  | exact (((SR6.out.drew.setR j U).setO j j).setQ j Q)
                  | exact (((SR6.out.drew.setR j U).setO j j).setQ j Q).drew
                  | exact (((SR6.out.drew.setO j j).setQ j Q).setR j U)
                  | exact (((SR6.out.drew.setO j j).setQ j Q).setR j U).drew
                  | exact (((SR6.out.drew.setO j j).setR j U).setQ j Q)
                  | exact (((SR6.out.drew.setO j j).setR j U).setQ j Q).drew
              · have := HJK.out; omega)
          · have hj' : j = i := by have := HJK.out; omega
            subst hj'
            obtain ⟨q, r, o, sr, hlo⟩ := SS.out
            have hnl := HN.out
            have ro : Row wr (w0.heap.size + 3) j (fun k => (k : Int)) := sr.ord.congr fun k hk => (hlo k (by omega) hk).2.2.symm
            have CM := cmp_split sr.rst sr.box (g := w0.heap.size + 3) (by omega) (by omega) (by omega)
            have ST := hid (sortStable_calls ro (by omega) j CM (swoR r) (fun k hk => ⟨by omega, by omega⟩) (fun a b h1 h2 => by omega))
            have SR := hid sr
            have HLO := hid hlo
            have g1 : decide ((j : Int) < (j : Int)) = false := by simp
            clear hnl ro CM sr hlo
            go_wp2_with fail
            refine ST.out.mono ?_
            rintro e w7 ⟨rfl, f7, hr7, hg7, hk7⟩
            have hlt : l.take j = l := by rw [HN.out, List.take_length]
            have OF := hid (order_facts hg7)
            have HG := hid hg7
            have QB := hid (show ∀ m, m < j → 0 ≤ q m ∧ q m ≤ 1000000000 from fun m hm => by
              have hml : m < l.length := by rw [← HN.out]; exact hm
              rw [(HLO.out m hml hm).1]
              exact quota_b (by omega) (HOK.out _ (List.getElem_mem hml)) (by omega))
            have LB := hid (left_bound (t := t) (l := l) (by rw [← HS.out]; omega))
            have rq := SR.out.out.kept hk7 (by omega)
            have B7 := hid (SR.out.below.trans (hk7.below SR.out.below.size (fun k hk => by omega)))
            have R7 := hid hr7
            have RQ := hid rq
            clear hr7 hg7 hk7 rq ST
            rw [hlt]
            obtain ⟨lf, hlf⟩ : ∃ lf : Nat, t - sumI (l.map fun x => t * x / S) = lf := ⟨(t - sumI (l.map fun x => t * x / S)).toNat, by have := LB.out.1; rw [← HS.out] at this; omega⟩
            rw [hlf]
            have hlj : lf ≤ j := by have := LB.out.2; rw [← HS.out, hlf] at this; have := HN.out; omega
            have HLF := hid hlf
            have hlj0 : (0 : Int) ≤ (lf : Int) := by omega
            have hlj1 : (lf : Int) ≤ (j : Int) := by omega
            clear hlf hlt
            go_upto_region 23 with fail
            go_loopg [92] lf (fun k s92 wx => ∃ a : Nat, a + k = lf ∧ s92 = .int .i64 a ∧ RowL wx w0.heap.size j (plusOne f7 q a) ∧ Row wx (w0.heap.size + 3) j f7 ∧ Below w0.heap.size w0 wx)
            case atStart => exact ⟨0, by omega, rfl, by
              have : plusOne f7 q 0 = q := funext fun m => by unfold plusOne; simp
              rw [this]; exact RQ.out, R7.out, B7.out⟩
            case round =>
              obtain ⟨a, hak, rfl, hra, hro, hba⟩ := hrel
              have HAK := hid hak
              have RA := hid hra
              have RO := hid hro
              have BA := hid hba
              clear hak hra hro hba
              by_cases hal : a < lf
              · have haj : a < j := by omega
                obtain ⟨m, hm⟩ : ∃ m : Nat, f7 a = m := ⟨(f7 a).toNat, by have := OF.out.1 a haj; omega⟩
                have hmj : m < j := by have := OF.out.1 a haj; omega
                have c1 := RO.out.cell haj
                rw [hm] at c1
                have c2 := RA.out.cell hmj
                have f2 := RA.out.froz m
                have l2 := RA.out.lt
                have l1 := RO.out.lt
                have hub : -1000 ≤ plusOne f7 q a m ∧ plusOne f7 q a m ≤ 9000000000000000 := plus_bound (QB.out m hmj)
                have HM := hid hm
                obtain ⟨u, hu⟩ : ∃ u, u = plusOne f7 q a m := ⟨_, rfl⟩
                rw [← hu] at c2 hub
                have HU := hid hu
                have eu : IntKind.i64.wrap (u + 1) = u + 1 := IntWalk.i64_in _ (by omega)
                have ga : (a : Int) < (lf : Int) := by omega
                have ga0 : (0 : Int) ≤ (a : Int) := by omega
                have gm : (m : Int) < (j : Int) := by omega
                have gm0 : (0 : Int) ≤ (m : Int) := by omega
                clear hu hm
                go_wp2
                go_roundg (lf - (a + 1))
                · refine ⟨a + 1, by omega, by go_num, ?_, RO.out.kept (set_kept _ _ _ _) (by omega), BA.out.trans ((set_kept _ _ _ _).below BA.out.size (fun k hk => by omega))⟩
                  have := RA.out.set m (u + 1)
                  have e : plusOne f7 q (a + 1) = fun k => if k = m then u + 1 else plusOne f7 q a k := funext fun k => by
                    rw [plus_step OF.out.2 haj k, HM.out]
                    by_cases e : k = m
                    · subst e; rw [if_pos rfl, if_pos rfl, HU.out]
                    · rw [if_neg (by omega), if_neg e]
                  rw [e]
                  exact this
                · have := HAK.out; omega
              · have hal' : a = lf := by have := HAK.out; omega
                subst hal'
                have g1 : decide ((a : Int) < (a : Int)) = false := by simp
                have FIN := hid (show R (.returned (.slice (some ⟨w0.heap.size, 0, none⟩) j j)) wr by
                  rw [HR.out]
                  refine ⟨_, rfl, ?_, BA.out⟩
                  refine RA.out.own (by rw [splitL_len]; exact HN.out.symm) (fun k hk => ?_) (Nat.le_refl _) (by unfold maxLen; omega)
                  have hlo := HLO.out
                  have hs := HS.out
                  subst hs
                  exact split_end HN.out hS0 (fun k hk hkj => ⟨(hlo k hk hkj).1, (hlo k hk hkj).2.1⟩) HG.out HLF.out hlj k hk)
                go_wp2
                first | exact FIN.out | (go_ret; exact FIN.out)
end Go.Proofs.YtepldjidkomclaaGreat.Ca
namespace Go.Proofs.YtepldjidkomclaaGreat.Ca
set_option linter.unusedSimpArgs false
set_option linter.unusedVariables false
open Go.RowKit
abbrev RowN (B : Nat) (w : World) (v : Value) (l : List Int) : Prop := OwnE encI 1 3 B w v l
theorem int_append {B : Nat} {w : World} {v : Value} {l : List Int} (h : RowN B w v l) (hB : B ≤ w.heap.size) {u : Value} {m : List Int} (hu : SrcE encI 1 w u m) (hn : l.length + m.length ≤ 1000000) (ty : TypeId) :
    ∃ v' w', (Builtin.append_ #[47, 47] ty #[v, u]).run Tryz.prog w = .ok v' w' ∧ RowN B w' v' (l ++ m) ∧ Kept (fun k => some k = v.ownBlock) w w' ∧ (v'.ownBlock = v.ownBlock ∨ v'.ownBlock = some w.heap.size) :=
  own_append undIn infoIn rfl (by decide) encI_len encI_one h hB hu (by unfold maxLen; omega) (by omega)
theorem Row.of {B : Nat} {w : World} {g n cap : Nat} {l : List Int} (h : RowN B w (.slice (some ⟨g, 0, none⟩) n cap) l) : Row w g l.length (fun k => l.getD k 0) ∧ n = l.length ∧ n ≤ cap ∧ B ≤ g := by
  obtain ⟨hn, hg, hB, hcell⟩ := OwnE.cellsAt encI_len h
  rcases h.2 with ⟨h1, h2⟩ | ⟨g', cap', cur, hv, hb, hgc, h3, h4, h5, h6⟩
  · cases h1
  · cases hv
    refine ⟨⟨cur, hgc, fun k hk => ?_⟩, hn, by omega, hB⟩
    have := hcell k hk 0 (by omega)
    rw [(show Cells w g cur 3 from hgc).cell] at this
    rw [show k = k * 1 + 0 by omega, this]
    simp [encI, hk]
/-- What stands while serve runs. -/
structure SvS (w : World) (v : Value) (sd : Int) (gf n : Nat) (h : Nat → Int) (wr : World) : Prop where
  lb : Cells wr w.heap.size #[v] 22
  sb : Cells wr (w.heap.size + 1) #[.int .i64 sd] 3
  fills : RowL wr gf n h
  kept : Kept (fun k => k = gf) w wr
  size : w.heap.size + 2 ≤ wr.heap.size
  low : gf < w.heap.size
namespace SvS
variable {w : World} {v : Value} {sd : Int} {gf n : Nat} {h : Nat → Int} {wr : World}
theorem far {X : Nat → Prop} (s : SvS w v sd gf n h wr) {w' : World} (hk : Kept X wr w') (hx : ∀ k, X k → w.heap.size + 2 ≤ k) : SvS w v sd gf n h w' :=
  ⟨s.lb.kept hk (fun q => by have := hx _ q; omega), s.sb.kept hk (fun q => by have := hx _ q; omega), s.fills.kept hk (fun q => by have := hx _ q; have := s.low; omega), s.kept.trans hk (fun k hk q => by have := hx _ q; omega), Nat.le_trans s.size hk.size, s.low⟩
theorem after (s : SvS w v sd gf n h wr) {w' : World} (hb : Below wr.heap.size wr w') : SvS w v sd gf n h w' := s.far (Kept.of_below (X := fun _ => False) hb) (fun _ q => q.elim)
theorem fill (s : SvS w v sd gf n h wr) (i : Nat) (u : Int) : SvS w v sd gf n (fun k => if k = i then u else h k) (wr.setCell ⟨gf, i, none⟩ (.int .i64 u)) := by
  have hl := s.low
  exact ⟨s.lb.kept (set_kept _ _ _ _) (by omega), s.sb.kept (set_kept _ _ _ _) (by omega), s.fills.set i u, s.kept.trans (set_kept _ _ _ _) (fun _ _ e => e), by rw [size_setCell]; exact s.size, hl⟩
/-- The bids stay readable. -/
theorem reads (s : SvS w v sd gf n h wr) {w0 : World} {l : List Bd} (hv : ReadsE encBd 3 w0 v l) (hb0 : Below w0.heap.size w0 w) (hgf : w0.heap.size ≤ gf) : ReadsE encBd 3 wr v l :=
  hv.below (hb0.trans (s.kept.below hb0.size (fun k hk => by omega)))
end SvS
/-- The weights of a price, some of them written. -/
theorem qs_seg_snoc (l : List Bd) (f : Nat → Int) {a b : Nat} (h : a ≤ b) : qs l (seg f a (b + 1)) = qs l (seg f a b) ++ [qI l (f b)] := by rw [seg_snoc f h, qs_app]; rfl
theorem sum_seg_bound {l : List Bd} (hok : ∀ b ∈ l, b.ok) (f : Nat → Int) (a b : Nat) : 0 ≤ sumI (qs l (seg f a b)) ∧ sumI (qs l (seg f a b)) ≤ 1000000000 * ((b - a : Nat) : Int) := by
  have := sumI_bound (qs_nonneg hok (seg f a b))
  rw [qs_len, seg_len] at this
  exact this
/-- The volume goes down by what a price gets. -/
theorem vol_step {l : List Bd} (hok : ∀ b ∈ l, b.ok) {sd x : Int} {f : Nat → Int} {a n : Nat} {v : Int} (p1 : seg f a (a + n) = grp l sd x (pI l (f a))) (p2 : (fore l sd x (pI l (f a))).Perm (seg f 0 a)) :
    gotG l sd x v (pI l (f a)) = min (sumI (qs l (seg f a (a + n)))) (volF l f v a) ∧ volF l f v (a + n) = volF l f v a - min (sumI (qs l (seg f a (a + n)))) (volF l f v a) := by
  have e2 : sumI (qs l (fore l sd x (pI l (f a)))) = sumI (qs l (seg f 0 a)) := sumI_perm (p2.map _)
  have e3 : sumI (qs l (seg f 0 (a + n))) = sumI (qs l (seg f 0 a)) + sumI (qs l (seg f a (a + n))) := by
    rw [seg_split f (Nat.zero_le a) (show a ≤ a + n by omega), qs_app, sumI_app]
  have h1 := (sum_seg_bound hok f a (a + n)).1
  unfold gotG volF
  rw [e2, e3, p1]
  rw [p1] at h1
  constructor
  · rfl
  · omega
theorem RowL.congr {w : World} {g n : Nat} {f f' : Nat → Int} (h : RowL w g n f) (e : ∀ i, i < n → f' i = f i) : RowL w g n f' := by
  obtain ⟨cs, hc, hs, hz⟩ := h
  exact ⟨cs, hc, hs, fun i hi => by rw [e i hi]; exact hz i hi⟩
theorem Ord.bid {l : List Bd} {sd x : Int} {f : Nat → Int} {L k : Nat} (o : Ord l sd x f L) (hk : k < L) : ∃ j : Nat, f k = (j : Int) ∧ j < l.length := by
  have h := o.at_ hk
  exact ⟨(f k).toNat, by omega, by omega⟩
theorem cell_kept {X : Nat → Prop} {w w' : World} (hk : Kept X w w') {b : Nat} (hb : b < w.heap.size) (hx : ¬ X b) (j : Nat) : w'.cell? ⟨b, j, none⟩ = w.cell? ⟨b, j, none⟩ := by
  simp [World.cell?, World.cells?, hk.block b hb hx]
theorem take_lt {α : Type} (l : List α) {n : Nat} (h : n ≤ l.length) : (l.take n).length = n := by rw [List.length_take]; omega
end Go.Proofs.YtepldjidkomclaaGreat.Ca
