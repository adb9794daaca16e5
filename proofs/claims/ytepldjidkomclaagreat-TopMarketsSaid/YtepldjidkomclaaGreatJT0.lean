/- TopMarkets in plain Lean: a call's bids as orders on a board, one after the other. No program in sight. -/
import Derived.Test.YtepldjidkomclaaGreatJBNew
import Derived.Test.YtepldjidkomclaaGreatJCPr0
namespace Go.Proofs.YtepldjidkomclaaGreat
set_option linter.unusedSimpArgs false
set_option linter.unusedVariables false
open Go.RowKit
/-- The order of a bid. -/
def ordT (O : List Ca.Bd) (k : Nat) : Bo.Od := ⟨(k : Int) + 1, (Ca.bAt O k).s, 1, 1, (Ca.bAt O k).p, 0, (Ca.bAt O k).q, 0⟩
theorem bOk {O : List Ca.Bd} (hok : ∀ b ∈ O, b.ok) {k : Nat} (hk : k < O.length) : (Ca.bAt O k).ok := by rw [Ca.bAt_get hk]; exact hok _ (List.getElem_mem hk)
theorem ordT_ok {O : List Ca.Bd} (hok : ∀ b ∈ O, b.ok) (hl : O.length ≤ 900) {k : Nat} (hk : k < O.length) : (ordT O k).ok = true := by
  obtain ⟨h1, h2, h3, h4, h5⟩ := bOk hok hk
  unfold Bo.Od.ok ordT
  simp [Bo.inB2, Bo.sideB]
  omega
/-- An entry that is the rest of a bid's order. -/
def EntT (O : List Ca.Bd) (i : Nat) (e : Bo.En) : Prop := ∃ k : Nat, k < i ∧ e.n = (k : Int) + 1 ∧ e.o = ordT O k ∧ e.h = e.l
/-- A trade of the order i with an earlier one of the other side. -/
def TrT (O : List Ca.Bd) (i : Nat) (e : Bo.Ev) : Prop := e.w = 1 ∧ e.o = (i : Int) + 1 ∧ 0 ≤ e.q ∧ ∃ k : Nat, k < i ∧ e.x = (k : Int) + 1 ∧ (Ca.bAt O k).s = 3 - (Ca.bAt O i).s ∧ (if (Ca.bAt O i).s = 1 then (Ca.bAt O k).p ≤ (Ca.bAt O i).p else (Ca.bAt O i).p ≤ (Ca.bAt O k).p)
/-- What holds while the order i meets the other side. -/
structure MeT (O : List Ca.Bd) (i : Nat) (nums : Int) (s : Bo.Mt) : Prop where
  ok : Bo.MtOk (3 - (Ca.bAt O i).s) nums ((i : Int) + 1) s
  ent : ∀ e ∈ s.h.all, EntT O i e
  evs : ∀ e ∈ s.evs, TrT O i e
theorem set_all (z y : Bo.En) (p : Int) (q : List Bo.En) (r : Bo.Half) : (Bo.setH z ((p, y :: q) :: r)).all = z :: (q ++ Bo.Half.all r) := by
  simp [Bo.setH, Bo.Half.all]
theorem pop_all (y : Bo.En) (p : Int) (q : List Bo.En) (r : Bo.Half) : (Bo.popH ((p, y :: q) :: r)).all = q ++ Bo.Half.all r := by
  unfold Bo.popH
  cases q with
  | nil => simp [Bo.Half.all]
  | cons z q => simp [Bo.Half.all]
section
variable {O : List Ca.Bd} {i : Nat} {nums : Int}
theorem meet1T (hi : (Ca.bAt O i).s = 1 ∨ (Ca.bAt O i).s = 2) (hn : (i : Int) + 1 ≤ nums) {s : Bo.Mt} (h : MeT O i nums s) (hl : 0 < s.left) {y : Bo.En} (hy : Bo.frontH s.h = some y) (hg : (ordT O i).good y.o.p = true) :
    MeT O i nums (Bo.meet1 (ordT O i) ((i : Int) + 1) (3 - (Ca.bAt O i).s) y s) := by
  refine ⟨(Bo.meet1_ok h.ok ⟨by omega, hn⟩ hl hy).1, ?_, ?_⟩
  all_goals (
    obtain ⟨left, hh, last, evs⟩ := s
    obtain ⟨ok, ent, evs0⟩ := h
    simp only at ent evs0 hl hy
    rcases ok.ok.cases with ⟨_, h2⟩ | ⟨p, y', q, r, h1, h2, hp, he⟩
    · simp only at h2; rw [h2] at hy; cases hy
    simp only at h1 h2
    subst h1
    rw [h2] at hy
    obtain rfl : y' = y := by simpa using hy
    have hall : Bo.Half.all ((p, y' :: q) :: r) = y' :: (q ++ Bo.Half.all r) := by simp [Bo.Half.all]
    rw [hall] at ent
    obtain ⟨k, k1, k2, k3, k4⟩ := ent y' (by simp)
    have hm : ¬ y'.o.m = (ordT O i).m := by rw [k3]; unfold ordT; simp; omega
    unfold Bo.meet1
    rw [if_neg hm]
    simp only)
  · intro e hem
    unfold Bo.tradeH at hem
    have hyl := he.l
    have hyh := he.h
    by_cases c1 : 0 < y'.h - min left y'.h
    · rw [if_pos c1, set_all] at hem
      rcases List.mem_cons.1 hem with rfl | hem
      · exact ⟨k, k1, k2, k3, by simp only; omega⟩
      · exact ent e (List.mem_cons_of_mem _ hem)
    · rw [if_neg c1, if_pos (by omega), pop_all] at hem
      exact ent e (List.mem_cons_of_mem _ hem)
  · intro e hem
    rcases List.mem_append.1 hem with hem | hem
    · exact evs0 e hem
    · rw [List.mem_singleton] at hem
      subst hem
      have hyh := he.h
      have hs : (Ca.bAt O k).s = 3 - (Ca.bAt O i).s := by have := he.s; rw [k3] at this; exact this
      refine ⟨rfl, rfl, by simp only; omega, k, k1, k2, hs, ?_⟩
      unfold Bo.Od.good at hg
      rw [if_neg (by simp [ordT]), k3] at hg
      unfold ordT at hg
      simp only at hg
      split at hg <;> rename_i c
      · rw [if_pos c]; simpa using hg
      · rw [if_neg c]; simpa using hg
theorem meetT (hi : (Ca.bAt O i).s = 1 ∨ (Ca.bAt O i).s = 2) (hn : (i : Int) + 1 ≤ nums) : ∀ (k : Nat) (s : Bo.Mt), MeT O i nums s → MeT O i nums (Bo.meetF (ordT O i) ((i : Int) + 1) (3 - (Ca.bAt O i).s) k s)
  | 0, s, h => h
  | k + 1, s, h => by
    unfold Bo.meetF
    split
    · rename_i hl
      split
      · exact h
      · rename_i y hy
        split
        · rename_i hg
          exact meetT hi hn k _ (meet1T hi hn h hl hy hg)
        · exact h
    · exact h
theorem EntT.mono {e : Bo.En} (h : EntT O i e) {j : Nat} (hj : i ≤ j) : EntT O j e := by
  obtain ⟨k, h1, h2⟩ := h
  exact ⟨k, by omega, h2⟩
theorem put_mem {S : Bo.Bd} {s : Int} {h : Bo.Half} {e : Bo.En} (hs : s = 1 ∨ s = 2) (he : e ∈ (S.put s h).live) : e ∈ h.all ∨ e ∈ S.live := by
  unfold Bo.Bd.live Bo.Bd.put at he
  unfold Bo.Bd.live
  rcases hs with rfl | rfl
  · simp at he ⊢
    rcases he with h | h | h <;> simp [h]
  · simp at he ⊢
    rcases he with h | h | h <;> simp [h]
theorem half_mem {S : Bo.Bd} {s : Int} {e : Bo.En} (he : e ∈ (S.half s).all) : e ∈ S.live := by
  unfold Bo.Bd.half at he
  unfold Bo.Bd.live
  split at he <;> simp [he]
/-- An order comes in. -/
theorem comeT (hok : ∀ b ∈ O, b.ok) (hl : O.length ≤ 900) (hi : i < O.length) {S : Bo.Bd} (hS : Bo.BdOk S) (hn : S.nums = (i : Int) + 1) (hw : S.wait = []) (he : ∀ e ∈ S.live, EntT O i e) :
    (Bo.comeF S ((i : Int) + 1) (ordT O i) (ordT O i).q []).1.wait = [] ∧ (∀ e ∈ (Bo.comeF S ((i : Int) + 1) (ordT O i) (ordT O i).q []).1.live, EntT O (i + 1) e) ∧ ∀ e ∈ (Bo.comeF S ((i : Int) + 1) (ordT O i) (ordT O i).q []).2, TrT O i e ∨ e.w = 2 := by
  have hb := bOk hok hi
  have hs12 := hb.1
  have hso : (3 - (ordT O i).s) = 1 ∨ (3 - (ordT O i).s) = 2 := by show 3 - (Ca.bAt O i).s = 1 ∨ 3 - (Ca.bAt O i).s = 2; omega
  have hss : (ordT O i).s = 1 ∨ (ordT O i).s = 2 := hs12
  have m0 : MeT O i S.nums ⟨(ordT O i).q, S.half (3 - (ordT O i).s), S.last, []⟩ := by
    refine ⟨⟨?_, hS.half hso, hS.last, by simp⟩, fun e h => he e (half_mem h), by simp⟩
    obtain ⟨_, _, _, q1, q2⟩ := hb
    show 0 ≤ (Ca.bAt O i).q ∧ (Ca.bAt O i).q ≤ 1000000000
    omega
  have m1 := meetT (nums := S.nums) hs12 (by omega) (Bo.sizeH (S.half (3 - (ordT O i).s))) _ m0
  obtain ⟨r, hr⟩ : ∃ r, r = Bo.meetF (ordT O i) ((i : Int) + 1) (3 - (Ca.bAt O i).s) (Bo.sizeH (S.half (3 - (ordT O i).s))) ⟨(ordT O i).q, S.half (3 - (ordT O i).s), S.last, []⟩ := ⟨_, rfl⟩
  rw [← hr] at m1
  unfold Bo.comeF
  rw [if_neg (fun h => absurd h.1 (by simp [ordT])), if_neg (fun h => absurd h.1 (by simp [ordT]))]
  have hr' : Bo.meetF (ordT O i) ((i : Int) + 1) (3 - (ordT O i).s) (Bo.sizeH (S.half (3 - (ordT O i).s))) ⟨(ordT O i).q, S.half (3 - (ordT O i).s), S.last, []⟩ = r := hr.symm
  simp only [hr']
  clear hr hr' m0
  have l1 : ∀ e ∈ ({ S.put (3 - (ordT O i).s) r.h with last := r.last } : Bo.Bd).live, EntT O i e := fun e hem => by
    rcases put_mem hso (show e ∈ (S.put (3 - (ordT O i).s) r.h).live from hem) with h | h
    · exact m1.ent e h
    · exact he e h
  have w1 : ({ S.put (3 - (ordT O i).s) r.h with last := r.last } : Bo.Bd).wait = [] := by
    show (S.put (3 - (ordT O i).s) r.h).wait = []
    unfold Bo.Bd.put; split <;> exact hw
  by_cases c : r.left = 0
  · rw [if_pos c]
    exact ⟨w1, fun e h => (l1 e h).mono (by omega), fun e h => .inl (m1.evs e h)⟩
  · rw [if_neg c, if_pos (.inl rfl)]
    refine ⟨?_, fun e hem => ?_, fun e hem => ?_⟩
    · simp only
      unfold Bo.Bd.put; split <;> exact w1
    · rcases put_mem hss hem with h | h
      · have hp := (Bo.addH_all (ordT O i).s _ _).mem_iff.1 h
        rcases List.mem_cons.1 hp with rfl | hp
        · exact ⟨i, by omega, rfl, rfl, by simp [ordT]⟩
        · exact (l1 e (half_mem hp)).mono (by omega)
      · exact (l1 e h).mono (by omega)
    · rcases List.mem_append.1 hem with h | h
      · exact .inl (m1.evs e h)
      · rw [List.mem_singleton] at h
        subst h
        exact .inr rfl
end
/-! ### the fills -/
def addAt (L : List Int) (k q : Int) : List Int := L.set k.toNat (L.getD k.toNat 0 + q)
theorem addAt_len (L : List Int) (k q : Int) : (addAt L k q).length = L.length := by simp [addAt]
theorem addAt_get {L : List Int} {k q : Int} (hk : 0 ≤ k) {j : Nat} (hj : j < L.length) : (addAt L k q).getD j 0 = L.getD j 0 + if k = (j : Int) then q else 0 := by
  unfold addAt
  by_cases h : k = (j : Int)
  · subst h
    simp [List.getD_eq_getElem?_getD, List.getElem?_set_self hj]
  · rw [if_neg h, List.getD_eq_getElem?_getD, List.getElem?_set_ne (by omega), ← List.getD_eq_getElem?_getD]
    omega
/-- An event is booked. -/
def updT (L : List Int) (e : Bo.Ev) : List Int := if e.w = 1 then addAt (addAt L (e.o - 1) e.q) (e.x - 1) e.q else L
theorem updT_len (L : List Int) (e : Bo.Ev) : (updT L e).length = L.length := by
  unfold updT; split
  · rw [addAt_len, addAt_len]
  · rfl
theorem gT_add (b : Ca.Bd) (x y : Int) : Ca.gT b (x + y) = Ca.gT b x + Ca.gT b y := by
  unfold Ca.gT
  split
  · rw [Int.mul_add]
  · rw [Int.mul_add]; omega
theorem sums_set : ∀ (O : List Ca.Bd) (L : List Int), O.length = L.length → ∀ (k : Nat) (hk : k < O.length) (q : Int),
    Ca.gsum O (L.set k (L.getD k 0 + q)) = Ca.gsum O L + Ca.gT O[k] q ∧ Ca.sumB O (L.set k (L.getD k 0 + q)) = Ca.sumB O L + (if O[k].s = 1 then q else 0) ∧ Ca.sumS O (L.set k (L.getD k 0 + q)) = Ca.sumS O L + (if O[k].s = 1 then 0 else q)
  | [], _, _, k, hk, _ => by simp at hk
  | b :: O, [], h, _, _, _ => by simp at h
  | b :: O, x :: L, h, 0, hk, q => by
    simp only [List.set_cons_zero, List.getD_cons_zero, Ca.gsum, Ca.sumB, Ca.sumS, List.getElem_cons_zero]
    rw [gT_add]
    refine ⟨by omega, ?_, ?_⟩ <;> split <;> omega
  | b :: O, x :: L, h, k + 1, hk, q => by
    obtain ⟨h1, h2, h3⟩ := sums_set O L (by simpa using h) k (by simpa using hk) q
    simp only [List.set_cons_succ, List.getD_cons_succ, Ca.gsum, Ca.sumB, Ca.sumS, List.getElem_cons_succ]
    rw [h1, h2, h3]
    refine ⟨by omega, by omega, by omega⟩
theorem addAt_sums {O : List Ca.Bd} {L : List Int} (h : O.length = L.length) {k : Nat} (hk : k < O.length) (q : Int) :
    Ca.gsum O (addAt L k q) = Ca.gsum O L + Ca.gT (Ca.bAt O k) q ∧ Ca.sumB O (addAt L k q) = Ca.sumB O L + (if (Ca.bAt O k).s = 1 then q else 0) ∧ Ca.sumS O (addAt L k q) = Ca.sumS O L + (if (Ca.bAt O k).s = 1 then 0 else q) := by
  have := sums_set O L h k hk q
  rw [← Ca.bAt_get hk] at this
  unfold addAt
  simpa using this
/-- A trade keeps both sides' sums equal and gains. -/
theorem trade_sums {O : List Ca.Bd} (hok : ∀ b ∈ O, b.ok) {L : List Int} (h : O.length = L.length) {i : Nat} (hi : i < O.length) {e : Bo.Ev} (he : TrT O i e) :
    Ca.sumB O (updT L e) - Ca.sumS O (updT L e) = Ca.sumB O L - Ca.sumS O L ∧ Ca.gsum O L ≤ Ca.gsum O (updT L e) := by
  obtain ⟨e1, e2, e3, k, k1, k2, k3, k4⟩ := he
  have hk : k < O.length := by omega
  have si := (bOk hok hi).1
  unfold updT
  rw [if_pos e1, e2, k2, show (i : Int) + 1 - 1 = (i : Int) by omega, show (k : Int) + 1 - 1 = (k : Int) by omega]
  obtain ⟨a1, a2, a3⟩ := addAt_sums h hi e.q
  obtain ⟨b1, b2, b3⟩ := addAt_sums (L := addAt L i e.q) (by rw [addAt_len]; exact h) hk e.q
  rw [b1, b2, b3, a1, a2, a3]
  rcases si with s1 | s2
  · have sk : (Ca.bAt O k).s = 2 := by omega
    rw [if_pos s1] at k4
    refine ⟨by rw [s1, sk]; simp; omega, ?_⟩
    unfold Ca.gT
    rw [if_pos s1, if_neg (by omega)]
    have := Int.mul_le_mul_of_nonneg_right k4 e3
    omega
  · have sk : (Ca.bAt O k).s = 1 := by omega
    rw [if_neg (by omega)] at k4
    refine ⟨by rw [s2, sk]; simp; omega, ?_⟩
    unfold Ca.gT
    rw [if_neg (by omega), if_pos sk]
    have := Int.mul_le_mul_of_nonneg_right k4 e3
    omega
/-- What an event takes is what it adds. -/
theorem upd_get {O : List Ca.Bd} {i : Nat} (hi : i < O.length) {L : List Int} (hL : O.length = L.length) {e : Bo.Ev} (he : TrT O i e ∨ e.w = 2) {j : Nat} (hj : j < O.length) : (updT L e).getD j 0 = L.getD j 0 + Bo.takesE ((j : Int) + 1) e := by
  rcases he with ⟨e1, e2, e3, k, k1, k2, _⟩ | e2
  · unfold updT Bo.takesE
    rw [if_pos e1, if_pos e1, addAt_get (by omega) (by rw [addAt_len]; omega), addAt_get (by omega) (by omega)]
    have c1 : (e.o - 1 = (j : Int)) ↔ (e.o = (j : Int) + 1) := by omega
    have c2 : (e.x - 1 = (j : Int)) ↔ (e.x = (j : Int) + 1) := by omega
    simp only [c1, c2]
    omega
  · unfold updT Bo.takesE
    rw [if_neg (by omega), if_neg (by omega), if_neg (by omega)]
    omega
theorem fold_len (evs : List Bo.Ev) : ∀ L : List Int, (evs.foldl updT L).length = L.length := by
  induction evs with
  | nil => intro L; rfl
  | cons e evs ih => intro L; rw [List.foldl_cons, ih, updT_len]
theorem fold_get {O : List Ca.Bd} {i : Nat} (hi : i < O.length) : ∀ (evs : List Bo.Ev) (L : List Int), O.length = L.length → (∀ e ∈ evs, TrT O i e ∨ e.w = 2) → ∀ j : Nat, j < O.length → (evs.foldl updT L).getD j 0 = L.getD j 0 + Bo.takes ((j : Int) + 1) evs
  | [], L, _, _, j, _ => by simp [Bo.takes]
  | e :: evs, L, hL, he, j, hj => by
    rw [List.foldl_cons, fold_get hi evs (updT L e) (by rw [updT_len]; exact hL) (fun x hx => he x (List.mem_cons_of_mem _ hx)) j hj, upd_get hi hL (he e List.mem_cons_self) hj]
    simp only [Bo.takes]; omega
theorem fold_sums {O : List Ca.Bd} (hok : ∀ b ∈ O, b.ok) {i : Nat} (hi : i < O.length) : ∀ (evs : List Bo.Ev) (L : List Int), O.length = L.length → (∀ e ∈ evs, TrT O i e ∨ e.w = 2) →
    Ca.sumB O (evs.foldl updT L) - Ca.sumS O (evs.foldl updT L) = Ca.sumB O L - Ca.sumS O L ∧ Ca.gsum O L ≤ Ca.gsum O (evs.foldl updT L)
  | [], L, _, _ => ⟨rfl, Int.le_refl _⟩
  | e :: evs, L, hL, he => by
    obtain ⟨h1, h2⟩ := fold_sums hok hi evs (updT L e) (by rw [updT_len]; exact hL) (fun x hx => he x (List.mem_cons_of_mem _ hx))
    rw [List.foldl_cons]
    rcases he e List.mem_cons_self with h | h
    · obtain ⟨g1, g2⟩ := trade_sums hok hL hi h
      exact ⟨by omega, by omega⟩
    · have e0 : updT L e = L := by unfold updT; rw [if_neg (by omega)]
      rw [e0] at h1 h2 ⊢
      exact ⟨h1, h2⟩
/-- Nobody's price is good for anybody. -/
def NoT (O : List Ca.Bd) : Prop := ∀ j k : Nat, j < O.length → k < O.length → (Ca.bAt O j).s = 1 → (Ca.bAt O k).s = 2 → (Ca.bAt O j).p < (Ca.bAt O k).p
theorem NoT.not {O : List Ca.Bd} (hok : ∀ b ∈ O, b.ok) (h : NoT O) {i : Nat} (hi : i < O.length) {e : Bo.Ev} (he : TrT O i e) : False := by
  obtain ⟨_, _, _, k, k1, k2, k3, k4⟩ := he
  have si := (bOk hok hi).1
  rcases si with s1 | s2
  · have := h i k hi (by omega) s1 (by omega)
    rw [if_pos s1] at k4; omega
  · have := h k i (by omega) hi (by omega) s2
    rw [if_neg (by omega)] at k4; omega
/-- The board and the fills behind i orders. -/
structure StT (O : List Ca.Bd) (i : Nat) (S : Bo.Bd) (L : List Int) : Prop where
  ok : Bo.BdOk S
  nums : S.nums = i
  wait : S.wait = []
  ent : ∀ e ∈ S.live, EntT O i e
  len : L.length = O.length
  rest : ∀ k : Nat, k < O.length → L.getD k 0 = if k < i then (Ca.bAt O k).q - Bo.sumL ((k : Int) + 1) S.live else 0
  even : Ca.sumB O L = Ca.sumS O L
  gain : 0 ≤ Ca.gsum O L
  none : NoT O → ∀ k : Nat, L.getD k 0 = 0
theorem sums_zero : ∀ (O : List Ca.Bd) (n : Nat), Ca.gsum O (List.replicate n 0) = 0 ∧ Ca.sumB O (List.replicate n 0) = 0 ∧ Ca.sumS O (List.replicate n 0) = 0
  | [], n => by simp [Ca.gsum, Ca.sumB, Ca.sumS]
  | b :: O, 0 => by simp [Ca.gsum, Ca.sumB, Ca.sumS]
  | b :: O, n + 1 => by
    obtain ⟨h1, h2, h3⟩ := sums_zero O n
    rw [List.replicate_succ]
    simp only [Ca.gsum, Ca.sumB, Ca.sumS]
    rw [h1, h2, h3]
    simp [Ca.gT]
theorem StT.start {O : List Ca.Bd} {S : Bo.Bd} (ok : Bo.BdOk S) (hn : S.nums = 0) (hl : S.live = []) : StT O 0 S (List.replicate O.length 0) := by
  obtain ⟨h1, h2, h3⟩ := sums_zero O O.length
  have hw : S.wait = [] := by unfold Bo.Bd.live at hl; simp at hl; exact hl.2.2
  have hz : ∀ k : Nat, (List.replicate O.length (0 : Int)).getD k 0 = 0 := fun k => by
    rw [List.getD_eq_getElem?_getD, List.getElem?_replicate]; split <;> rfl
  exact ⟨ok, hn, hw, fun e he => by rw [hl] at he; simp at he, by simp, fun k _ => by rw [if_neg (by omega)]; exact hz k, by rw [h2, h3], by rw [h1]; omega, fun _ k => hz k⟩
/-- One order is entered. -/
theorem StT.step {O : List Ca.Bd} (hok : ∀ b ∈ O, b.ok) (hl : O.length ≤ 900) {i : Nat} (hi : i < O.length) {S : Bo.Bd} {L : List Int} (s : StT O i S L) :
    Bo.enterE S (ordT O i) = 0 ∧ (∀ e ∈ (Bo.enterF S (ordT O i)).2, TrT O i e ∨ e.w = 2) ∧ StT O (i + 1) (Bo.enterF S (ordT O i)).1 ((Bo.enterF S (ordT O i)).2.foldl updT L) := by
  have oo := ordT_ok hok hl hi
  have few := Bo.live_few s.ok (N := i) (by rw [s.nums]; omega)
  have e0 : Bo.enterE S (ordT O i) = 0 := by
    unfold Bo.enterE
    rw [if_neg (by rw [oo]; decide), if_neg (by omega), if_neg (fun h => absurd h.1 (by simp [ordT]))]
  obtain ⟨f1, f2, f3, f4, _⟩ := Bo.enterF_ok s.ok (by rw [s.nums]; omega) oo
  have hok1 : Bo.BdOk { S with nums := S.nums + 1 } := by
    have q := s.ok
    have qn := q.nums
    have sn := s.nums
    refine ⟨⟨by simp only; omega, by simp only; omega⟩, q.last, q.buy.mono (by simp only; omega), q.sell.mono (by simp only; omega), fun e he => (q.wait e he).mono (by simp only; omega), q.rise, q.once⟩
  obtain ⟨c1, c2, c3⟩ := comeT hok hl hi (S := { S with nums := S.nums + 1 }) hok1 (by simp only; rw [s.nums]) s.wait s.ent
  have ee : Bo.enterF S (ordT O i) = Bo.comeF { S with nums := S.nums + 1 } ((i : Int) + 1) (ordT O i) (ordT O i).q [] := by
    unfold Bo.enterF
    rw [if_pos (show (ordT O i).t = 0 from rfl), s.nums]
    simp only
    rw [s.nums] at c1
    rw [c1]
    rfl
  rw [← ee] at c1 c2 c3
  have sn := s.nums
  refine ⟨e0, c3, f1, by rw [f2, s.nums]; push_cast; rfl, c1, c2, by rw [fold_len]; exact s.len, fun k hk => ?_, ?_, ?_, fun hno => ?_⟩
  · rw [fold_get hi _ _ s.len.symm c3 k hk, s.rest k hk]
    have h4 := f4 ((k : Int) + 1)
    rw [s.nums] at h4
    by_cases h1 : k < i
    · rw [if_pos h1, if_pos (by omega)]
      rw [if_neg (by omega)] at h4
      omega
    · rw [if_neg h1]
      have hz : Bo.sumL ((k : Int) + 1) S.live = 0 := by
        refine Bo.sumL_none fun hm => ?_
        obtain ⟨e, he, hen⟩ := List.mem_map.1 hm
        obtain ⟨k', h1', h2', _⟩ := s.ent e he
        omega
      by_cases h2 : k = i
      · subst h2
        rw [if_pos (by omega)]
        rw [if_pos rfl, hz] at h4
        have : (ordT O k).q = (Ca.bAt O k).q := rfl
        omega
      · rw [if_neg (by omega)]
        rw [if_neg (by omega), hz] at h4
        have t0 : 0 ≤ Bo.takes ((k : Int) + 1) (Bo.enterF S (ordT O i)).2 := Bo.takes_nonneg _ f3
        have t1 := (Bo.sumL_bd f1 ((k : Int) + 1)).1
        omega
  · have := (fold_sums hok hi _ L s.len.symm c3).1
    have := s.even
    omega
  · have := (fold_sums hok hi _ L s.len.symm c3).2
    have := s.gain
    omega
  · have : (Bo.enterF S (ordT O i)).2.foldl updT L = L := by
      have c3' : ∀ e ∈ (Bo.enterF S (ordT O i)).2, e.w = 2 := fun e he => (c3 e he).resolve_left fun h => hno.not hok hi h
      generalize (Bo.enterF S (ordT O i)).2 = evs at c3'
      induction evs with
      | nil => rfl
      | cons e evs ih =>
        rw [List.foldl_cons, show updT L e = L by unfold updT; rw [if_neg (by rw [c3' e List.mem_cons_self]; decide)]]
        exact ih fun x hx => c3' x (List.mem_cons_of_mem _ hx)
    rw [this]
    exact s.none hno
/-- The fills' bounds. -/
theorem StT.bound {O : List Ca.Bd} (hok : ∀ b ∈ O, b.ok) {i : Nat} {S : Bo.Bd} {L : List Int} (s : StT O i S L) {k : Nat} (h1 : k < O.length) : 0 ≤ L.getD k 0 ∧ L.getD k 0 ≤ O[k].q := by
  have h := s.rest k h1
  have hq := (hok _ (List.getElem_mem h1)).2.2.2.1
  by_cases hi : k < i
  · rw [if_pos hi, Ca.bAt_get h1] at h
    have hb := Bo.sumL_bd s.ok ((k : Int) + 1)
    refine ⟨?_, by omega⟩
    rw [h]
    by_cases hm : (k : Int) + 1 ∈ Bo.numsL S.live
    · obtain ⟨x, hx, hxn⟩ := List.mem_map.1 hm
      have := Bo.sumL_one s.ok.once hx
      rw [hxn] at this
      obtain ⟨k', _, k2, k3, _⟩ := s.ent x hx
      obtain rfl : k' = k := by omega
      have hxl : x.l ≤ x.o.q := by
        have hx' := hx
        unfold Bo.Bd.live at hx'
        rcases List.mem_append.1 hx' with q | q
        · exact (s.ok.buy.mem x q).l.2
        · rcases List.mem_append.1 q with q | q
          · exact (s.ok.sell.mem x q).l.2
          · rw [s.wait] at q; simp at q
      rw [k3] at hxl
      have : (ordT O k').q = O[k'].q := by unfold ordT; rw [Ca.bAt_get h1]
      omega
    · rw [Bo.sumL_none hm]
      omega
  · rw [if_neg hi] at h
    omega
/-- The fills fit. -/
theorem StT.fit {O : List Ca.Bd} (hok : ∀ b ∈ O, b.ok) {S : Bo.Bd} {L : List Int} (s : StT O O.length S L) : Ca.fits O L := by
  refine ⟨s.len, (Ca.fitF_iff s.len.symm).2 fun k h1 h2 => ?_⟩
  have e : L.getD k 0 = L[k] := by rw [List.getD_eq_getElem?_getD, List.getElem?_eq_getElem h2]; rfl
  rw [← e]
  exact s.bound hok h1
/-- The fills' bounds while events are booked. -/
theorem StT.part {O : List Ca.Bd} (hok : ∀ b ∈ O, b.ok) (hl : O.length ≤ 900) {i : Nat} (hi : i < O.length) {S : Bo.Bd} {L : List Int} (s : StT O i S L) (n : Nat) {k : Nat} (hk : k < O.length) :
    0 ≤ (((Bo.enterF S (ordT O i)).2.take n).foldl updT L).getD k 0 ∧ (((Bo.enterF S (ordT O i)).2.take n).foldl updT L).getD k 0 ≤ 1000000000 := by
  obtain ⟨_, c3, s'⟩ := s.step hok hl hi
  obtain ⟨_, _, f3, _, _⟩ := Bo.enterF_ok s.ok (by rw [s.nums]; omega) (ordT_ok hok hl hi)
  obtain ⟨evs, he⟩ : ∃ evs, evs = (Bo.enterF S (ordT O i)).2 := ⟨_, rfl⟩
  rw [← he] at c3 s' f3 ⊢
  have g1 := fold_get hi (evs.take n) L s.len.symm (fun e h => c3 e (List.mem_of_mem_take h)) k hk
  have g2 := fold_get hi evs L s.len.symm c3 k hk
  have b1 := s.bound hok hk
  have b2 := s'.bound hok hk
  have t1 := Bo.takes_nonneg ((k : Int) + 1) (l := evs.take n) (fun e h => f3 e (List.mem_of_mem_take h))
  have t2 := Bo.takes_nonneg ((k : Int) + 1) (l := evs.drop n) (fun e h => f3 e (List.mem_of_mem_drop h))
  have t3 := Bo.takes_split ((k : Int) + 1) evs n
  have hq := (hok _ (List.getElem_mem hk)).2.2.2.2
  omega
/-! ### the auction -/
theorem noT_of {O : List Ca.Bd} (hok : ∀ b ∈ O, b.ok) (h : Ca.most O = 0) : NoT O := fun j k hj hk sj sk => by
  by_cases c : (Ca.bAt O j).p < (Ca.bAt O k).p
  · exact c
  · exfalso
    have bj := bOk hok hj
    have bk := bOk hok hk
    have mj : Ca.bAt O j ∈ O := by rw [Ca.bAt_get hj]; exact List.getElem_mem hj
    have mk : Ca.bAt O k ∈ O := by rw [Ca.bAt_get hk]; exact List.getElem_mem hk
    obtain ⟨_, j1, j2, j3, _⟩ := bj
    obtain ⟨_, k1, k2, k3, _⟩ := bk
    have hv := Ca.vol_le_most hok k1 k2
    rw [h] at hv
    have d1 := Ca.dem_more hok (x := (Ca.bAt O k).p) (y := (Ca.bAt O j).p + 1) (by omega) mj sj (by omega) (by omega)
    have d2 := Ca.dem_anti hok (x := (Ca.bAt O j).p + 1) (y := max ((Ca.bAt O j).p + 1) 1000001) (by omega)
    rw [Ca.dem_high hok (by omega)] at d2
    have s1 := Ca.sup_more hok (x := (Ca.bAt O k).p - 1) (y := (Ca.bAt O k).p) (by omega) mk (by omega) (by omega) (by omega)
    have s2 := Ca.sup_mono hok (x := min 0 ((Ca.bAt O k).p - 1)) (y := (Ca.bAt O k).p - 1) (by omega)
    rw [Ca.sup_low hok (by omega)] at s2
    unfold Ca.volX at hv
    omega
theorem StT.zero {O : List Ca.Bd} {i : Nat} {S : Bo.Bd} {L : List Int} (s : StT O i S L) (h : NoT O) : Ca.gsum O L = 0 := by
  have e : L = List.replicate O.length 0 := by
    refine List.ext_getElem (by rw [s.len]; simp) fun k h1 h2 => ?_
    have := s.none h k
    rw [List.getD_eq_getElem?_getD, List.getElem?_eq_getElem h1] at this
    simpa using this
  rw [e]
  exact (sums_zero O O.length).1
theorem StT.live {O : List Ca.Bd} (hok : ∀ b ∈ O, b.ok) {S : Bo.Bd} {L : List Int} (s : StT O O.length S L) (h : NoT O) (h0 : 0 < O.length) : S.live ≠ [] := fun e => by
  have h1 := s.rest 0 h0
  rw [if_pos h0, s.none h 0, e, Ca.bAt_get h0] at h1
  have := (hok _ (List.getElem_mem h0)).2.2.2.1
  simp [Bo.sumL] at h1
  omega
theorem best_some {S : Bo.Bd} (hw : S.wait = []) (h : S.live ≠ []) : (Bo.bestF S.buy).2.2 = true ∨ (Bo.bestF S.sell).2.2 = true := by
  unfold Bo.Bd.live at h
  rw [hw] at h
  cases hb : S.buy with
  | cons x r => exact .inl rfl
  | nil =>
    cases hs : S.sell with
    | cons x r => exact .inr rfl
    | nil => rw [hb, hs] at h; exact absurd (by simp [Bo.Half.all]) h
/-- No fills of a board gain more than the auction's. -/
theorem StT.most {O : List Ca.Bd} (hok : ∀ b ∈ O, b.ok) (hl : O.length ≤ 900) {S : Bo.Bd} {L : List Int} (s : StT O O.length S L) (ref rule : Int) (h : Ca.most O ≠ 0) :
    Ca.gsum O L ≤ Ca.gsum O (Ca.fillsL O (Ca.priceZ (Ca.zonesL O) ref) (min (Ca.dem O (Ca.priceZ (Ca.zonesL O) ref)) (Ca.sup O (Ca.priceZ (Ca.zonesL O) ref))) rule) := by
  have hl' : O.length ≤ 4096 := by omega
  obtain ⟨z, hz, _, h1, h2, h3⟩ := Ca.price_best hok hl' ref h
  obtain ⟨z1, z2, z3, _⟩ := (Ca.zonesL_ok hl' hok).1 z (Ca.keptF_sub _ (Ca.keptF_sub _ hz))
  obtain ⟨P, hP⟩ := Ca.gain_dual hok (rule := rule) (x := Ca.priceZ (Ca.zonesL O) ref) (v := Ca.volX O (Ca.priceZ (Ca.zonesL O) ref)) (by omega) rfl (fun y y1 y2 => by rw [h3]; exact Ca.vol_le_most hok y1 y2)
  have e : min (Ca.dem O (Ca.priceZ (Ca.zonesL O) ref)) (Ca.sup O (Ca.priceZ (Ca.zonesL O) ref)) = Ca.volX O (Ca.priceZ (Ca.zonesL O) ref) := rfl
  rw [e, hP]
  have w := Ca.weak P s.len.symm (s.fit hok).2
  rw [s.even] at w
  simpa using w
end Go.Proofs.YtepldjidkomclaaGreat
