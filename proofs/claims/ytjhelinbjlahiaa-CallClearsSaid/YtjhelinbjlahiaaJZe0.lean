/- Weights with zeros in between are dealt out as without them. -/
import Derived.Test.YtjhelinbjlahiaaJFl0
import Derived.Test.YtjhelinbjlahiaaJSh0
namespace Go.Proofs.Ytjhelinbjlahiaa
set_option linter.unusedSimpArgs false
set_option linter.unusedVariables false
open Go.RowKit
section
variable (p : Nat → Bool) (q : Nat → Int)
def gN (n : Nat) : List Nat := (List.range n).filter p
def qN (n : Nat) : List Int := (gN p n).map q
def wN (n : Nat) : List Int := (List.range n).map fun k => if p k then q k else 0
def posN (k : Nat) : Nat := (gN p k).length
theorem gN_succ (n : Nat) : gN p (n + 1) = gN p n ++ if p n then [n] else [] := by
  unfold gN
  rw [List.range_succ, List.filter_append]
  congr 1
  by_cases h : p n = true
  · simp [h]
  · simp [h]
theorem qN_succ (n : Nat) : qN p q (n + 1) = qN p q n ++ if p n then [q n] else [] := by
  unfold qN
  rw [gN_succ, List.map_append]
  congr 1
  split <;> rfl
theorem wN_succ (n : Nat) : wN p q (n + 1) = wN p q n ++ [if p n then q n else 0] := by
  unfold wN
  rw [List.range_succ, List.map_append]; rfl
theorem wN_len (n : Nat) : (wN p q n).length = n := by simp [wN]
theorem qN_len (n : Nat) : (qN p q n).length = posN p n := by simp [qN, posN]
theorem posN_succ (n : Nat) : posN p (n + 1) = posN p n + if p n then 1 else 0 := by
  unfold posN
  rw [gN_succ, List.length_append]
  split <;> rfl
theorem posN_mono {a b : Nat} (h : a ≤ b) : posN p a ≤ posN p b := by
  induction b with
  | zero => have : a = 0 := by omega
            subst this; exact Nat.le_refl _
  | succ b ih =>
    by_cases e : a = b + 1
    · subst e; exact Nat.le_refl _
    · have := ih (by omega)
      rw [posN_succ]; omega
theorem posN_lt {k n : Nat} (hk : k < n) (hp : p k = true) : posN p k < posN p n := by
  have := posN_mono p (show k + 1 ≤ n from hk)
  rw [posN_succ, if_pos hp] at this; omega
theorem gN_get {k : Nat} (hp : p k = true) : ∀ n, k < n → (gN p n)[posN p k]? = some k
  | 0, h => absurd h (Nat.not_lt_zero k)
  | n + 1, h => by
    rw [gN_succ]
    by_cases e : k = n
    · subst e
      rw [List.getElem?_append_right (show (gN p k).length ≤ posN p k from Nat.le_refl _)]
      simp [posN, hp]
    · rw [List.getElem?_append_left (posN_lt p (show k < n by omega) hp)]
      exact gN_get hp n (by omega)
theorem qN_get {k n : Nat} (hk : k < n) (hp : p k = true) : (qN p q n).getD (posN p k) 0 = q k := by
  unfold qN
  rw [List.getD_eq_getElem?_getD, List.getElem?_map, gN_get p hp n hk]; rfl
theorem wN_get {k n : Nat} (hk : k < n) : (wN p q n).getD k 0 = if p k then q k else 0 := by
  unfold wN; simp [hk]
theorem gN_mem {i n k : Nat} (h : (gN p n)[i]? = some k) : k < n ∧ p k = true ∧ i = posN p k := by
  have hm := List.mem_of_getElem? h
  have hk := List.mem_filter.1 hm
  have hkn := List.mem_range.1 hk.1
  refine ⟨hkn, hk.2, ?_⟩
  have h2 := gN_get p hk.2 n hkn
  have hnd : (gN p n).Nodup := List.nodup_range.sublist List.filter_sublist
  obtain ⟨hi, e1⟩ := List.getElem?_eq_some_iff.1 h
  obtain ⟨hj, e2⟩ := List.getElem?_eq_some_iff.1 h2
  have a := List.Nodup.idxOf_getElem hnd i hi
  have b := List.Nodup.idxOf_getElem hnd _ hj
  rw [e1] at a
  rw [e2] at b
  exact a.symm.trans b
theorem sum_zero (f : Int → Int) (hf : f 0 = 0) : ∀ n, sumI ((wN p q n).map f) = sumI ((qN p q n).map f)
  | 0 => rfl
  | n + 1 => by
    rw [wN_succ, qN_succ, List.map_append, List.map_append, sumI_app, sumI_app, sum_zero f hf n]
    by_cases h : p n = true
    · rw [if_pos h, if_pos h]
    · rw [if_neg h, if_neg h]; simp [sumI, hf]
theorem sum_zero' (n : Nat) : sumI (wN p q n) = sumI (qN p q n) := by
  have := sum_zero p q (fun x => x) rfl n
  simpa using this
theorem time_zero (hq : ∀ k, 0 ≤ q k) {t : Int} (ht : 0 ≤ t) : ∀ n, afterT t (wN p q n) = afterT t (qN p q n) ∧ ∀ k, k < n → (byTimeF t (wN p q n)).getD k 0 = if p k then (byTimeF t (qN p q n)).getD (posN p k) 0 else 0
  | 0 => ⟨rfl, fun k h => absurd h (Nat.not_lt_zero k)⟩
  | n + 1 => by
    obtain ⟨i1, i2⟩ := time_zero hq ht n
    have hb := (afterT_bound (l := qN p q n) (fun x hx => by
      obtain ⟨k, _, rfl⟩ := List.mem_map.1 hx; exact hq k) t ht).1
    have lw : (byTimeF t (wN p q n)).length = n := by rw [byTimeF_len, wN_len]
    have lq : (byTimeF t (qN p q n)).length = posN p n := by rw [byTimeF_len, qN_len]
    rw [wN_succ, qN_succ, afterT_snoc, byTimeF_snoc, i1]
    by_cases h : p n = true
    · rw [if_pos h, if_pos h, afterT_snoc, byTimeF_snoc]
      refine ⟨rfl, fun k hk => ?_⟩
      by_cases e : k = n
      · subst e
        rw [if_pos h, List.getD_eq_getElem?_getD, List.getD_eq_getElem?_getD, List.getElem?_append_right (Nat.le_of_eq lw), List.getElem?_append_right (Nat.le_of_eq lq), lw, lq]
        simp
      · rw [List.getD_eq_getElem?_getD, List.getElem?_append_left (by rw [lw]; omega), ← List.getD_eq_getElem?_getD, i2 k (by omega)]
        by_cases hp : p k = true
        · rw [if_pos hp, if_pos hp, List.getD_eq_getElem?_getD, List.getD_eq_getElem?_getD, List.getElem?_append_left (by rw [lq]; exact posN_lt p (by omega) hp)]
        · rw [if_neg hp, if_neg hp]
    · rw [if_neg h, if_neg h, List.append_nil]
      refine ⟨by omega, fun k hk => ?_⟩
      by_cases e : k = n
      · subst e
        rw [if_neg h, List.getD_eq_getElem?_getD, List.getElem?_append_right (Nat.le_of_eq lw), lw]
        simp; omega
      · rw [List.getD_eq_getElem?_getD, List.getElem?_append_left (by rw [lw]; omega), ← List.getD_eq_getElem?_getD, i2 k (by omega)]
theorem gN_full (n i : Nat) (hi : i < posN p n) : ∃ k, (gN p n)[i]? = some k := by
  refine ⟨_, List.getElem?_eq_getElem (show i < (gN p n).length from hi)⟩
theorem rank_zero {rw rq : Nat → Int} {n k : Nat} (hk : k < n) (hp : p k = true) (hz : ∀ j, j < n → p j = false → rw j = 0) (he : ∀ j, j < n → p j = true → rw j = rq (posN p j)) (hpos : 0 < rw k) : rankR rw n k = rankR rq (posN p n) (posN p k) := by
  unfold rankR
  have e1 : (List.range n).filter (fun j => decide (rw k < rw j ∨ rw j = rw k ∧ j < k)) = (gN p n).filter (fun j => decide (rw k < rw j ∨ rw j = rw k ∧ j < k)) := by
    unfold gN
    rw [List.filter_filter]
    refine List.filter_congr fun j hj => ?_
    have hjn := List.mem_range.1 hj
    by_cases h : p j = true
    · simp [h]
    · have := hz j hjn (by simpa using h)
      rw [this]
      simp [h]; omega
  have e2 : gN p n = (List.range (posN p n)).map fun i => (gN p n).getD i 0 := by
    apply List.ext_getElem
    · simp [posN]
    · intro i h1 h2
      simp [h1]
  rw [e1, e2, List.filter_map, List.length_map]
  congr 1
  refine List.filter_congr fun i hi => ?_
  have hin := List.mem_range.1 hi
  obtain ⟨j, hj⟩ := gN_full p n i hin
  obtain ⟨hjn, hpj, hij⟩ := gN_mem p hj
  have ej : (gN p n).getD i 0 = j := by rw [List.getD_eq_getElem?_getD, hj]; rfl
  simp only [Function.comp, ej]
  rw [decide_eq_decide, he j hjn hpj, he k hk hp, ← hij]
  have hm : j < k ↔ i < posN p k := by
    rw [hij]
    constructor
    · intro h; exact posN_lt p h hpj
    · intro h
      by_cases c : j < k
      · exact c
      · have := posN_mono p (show k ≤ j by omega); omega
  rw [hm]
theorem share_at {t : Int} {l : List Int} {k : Nat} (hS : 0 < sumI l) (hk : k < l.length) : (splitL t l).getD k 0 = t * l.getD k 0 / sumI l + if (rankR (fun j => t * l.getD j 0 % sumI l) l.length k : Int) < t - sumI (l.map fun x => t * x / sumI l) then 1 else 0 := by
  have h2 : k < (splitL t l).length := by rw [splitL_len]; exact hk
  rw [List.getD_eq_getElem?_getD, List.getElem?_eq_getElem h2, splitL_get]
  show shareF t l k = _
  unfold shareF
  rw [if_neg (by omega)]
theorem share_zero {t : Int} (n : Nat) (hS : 0 < sumI (qN p q n)) {k : Nat} (hk : k < n) : (splitL t (wN p q n)).getD k 0 = if p k then (splitL t (qN p q n)).getD (posN p k) 0 else 0 := by
  have eS := sum_zero' p q n
  have eQ : sumI ((wN p q n).map fun x => t * x / sumI (qN p q n)) = sumI ((qN p q n).map fun x => t * x / sumI (qN p q n)) := sum_zero p q _ (by simp) n
  have rp := rank_pos (t := t) (l := wN p q n) (by rw [eS]; exact hS) (k := k) (by rw [wN_len]; exact hk)
  rw [share_at (by rw [eS]; exact hS) (by rw [wN_len]; exact hk)]
  rw [eS, eQ, wN_len, wN_get p q hk] at *
  by_cases hp : p k = true
  · have hkp := posN_lt p hk hp
    have rp2 := rank_pos (t := t) (l := qN p q n) hS (k := posN p k) (by rw [qN_len]; exact hkp)
    rw [if_pos hp] at rp ⊢
    rw [if_pos hp, share_at hS (by rw [qN_len]; exact hkp)]
    rw [qN_len, qN_get p q hk hp] at *
    by_cases hr : 0 < t * q k % sumI (qN p q n)
    · have e := rank_zero p (rw := fun j => t * (wN p q n).getD j 0 % sumI (qN p q n)) (rq := fun j => t * (qN p q n).getD j 0 % sumI (qN p q n)) hk hp
        (fun j hj h => by simp only [wN_get p q hj, h]; simp) (fun j hj h => by simp only [wN_get p q hj, qN_get p q hj h, if_pos h]) (by simp only [wN_get p q hk, if_pos hp]; exact hr)
      rw [e]
    · rw [if_neg (fun h => hr (rp h)), if_neg (fun h => hr (rp2 h))]
  · rw [if_neg hp] at rp ⊢
    rw [if_neg hp, if_neg (fun h => by have := rp h; simp at this)]
    simp
end
end Go.Proofs.Ytjhelinbjlahiaa
