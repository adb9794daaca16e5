/- The reference's ClearAt: the weights and the parts, plain. -/
import Derived.Test.YtjhelinbjlahiaaJZe4
import Derived.Test.YtjhelinbjlahiaaJSh0
namespace Go.Proofs.Ytjhelinbjlahiaa
set_option linter.unusedSimpArgs false
set_option linter.unusedVariables false
open Go.RowKit
theorem vol_ids {l : List Bd} (hok : ∀ b ∈ l, b.ok) (x : Int) {sd : Int} (hs : sd = 1 ∨ sd = 2) : min (dem l x) (sup l x) ≤ sumI (qs l (ids l sd x)) := by
  rcases hs with rfl | rfl
  · rw [ids_buy]; omega
  · rw [ids_sell hok]; omega
section
variable {l : List Bd} {sd x v : Int} {T : Option Int} {P : Int}
/-- At a price that comes next, side and price say who belongs to it. -/
theorem atP_next (h : NextP l sd x T P) (k : Nat) : atP l sd x P k = (decide ((bAt l k).s = sd) && decide ((bAt l k).p = P)) := by
  obtain ⟨i, hi, e⟩ := h.ex
  unfold ids at hi
  rw [mem_idsTo] at hi
  obtain ⟨_, _, hp⟩ := hi
  unfold part Bd.takes at hp
  rw [Bool.and_eq_true] at hp
  have h1 : (bAt l i).s = sd := by simpa using hp.1
  have h2 := hp.2
  unfold pI at e
  unfold atP part Bd.takes
  rw [h1, e] at h2
  by_cases a : (bAt l k).s = sd
  · by_cases b : (bAt l k).p = P
    · rw [a, b, h2]; simp
    · simp [b]
  · simp [a]
theorem wP_len (l : List Bd) (sd x P : Int) : (wP l sd x P).length = l.length := by unfold wP; rw [wN_len]
theorem wP_get {k : Nat} (hk : k < l.length) : (wP l sd x P).getD k 0 = if atP l sd x P k then qK l k else 0 := by unfold wP; exact wN_get _ _ hk
theorem wP_sum (l : List Bd) (sd x P : Int) : sumI (wP l sd x P) = sumI (qs l (grp l sd x P)) := by unfold wP; rw [qs_gN, sum_zero']
theorem wP_mem (hok : ∀ b ∈ l, b.ok) {y : Int} (hy : y ∈ wP l sd x P) : 0 ≤ y ∧ y ≤ 1000000000 := by
  unfold wP wN at hy
  obtain ⟨k, hk, rfl⟩ := List.mem_map.1 hy
  have hkl : k < l.length := List.mem_range.1 hk
  have := hok _ (List.getElem_mem hkl)
  unfold qK
  rw [bAt_get hkl]
  obtain ⟨_, _, _, q1, q2⟩ := this
  split <;> omega
/-- What is left is enough: everybody gets what it asked for. -/
theorem parts_full (hok : ∀ b ∈ l, b.ok) (h : NextP l sd x T P) (hl : 0 < lftF l x v sd T) (hs : sumI (qs l (grp l sd x P)) ≤ lftF l x v sd T) (rule : Int) {k : Nat} (hk : k < l.length) : (dealt rule (gotG l sd x v P) (wP l sd x P)).getD k 0 = (wP l sd x P).getD k 0 := by
  rw [fill_zero hok hk (left_step hok h hl).2.2, wP_get hk]
  cases ha : atP l sd x P k with
  | false => rfl
  | true =>
    simp only [if_true]
    refine dealt_full hok hk ?_ ha
    rw [h.fore]
    unfold lftF at hl hs
    omega
/-- What is left is not enough. -/
theorem got_short (hok : ∀ b ∈ l, b.ok) (h : NextP l sd x T P) (hl : 0 < lftF l x v sd T) (hs : lftF l x v sd T < sumI (qs l (grp l sd x P))) : gotG l sd x v P = lftF l x v sd T := by
  rw [(left_step hok h hl).1]; omega
theorem parts_share (hok : ∀ b ∈ l, b.ok) (h : NextP l sd x T P) (hl : 0 < lftF l x v sd T) (hs : lftF l x v sd T < sumI (qs l (grp l sd x P))) : dealt 2 (gotG l sd x v P) (wP l sd x P) = splitL (lftF l x v sd T) (wP l sd x P) := by
  rw [got_short hok h hl hs]; unfold dealt; rw [if_pos rfl]
theorem parts_turn (hok : ∀ b ∈ l, b.ok) (h : NextP l sd x T P) (hl : 0 < lftF l x v sd T) (hs : lftF l x v sd T < sumI (qs l (grp l sd x P))) : dealt 1 (gotG l sd x v P) (wP l sd x P) = byTimeF (lftF l x v sd T) (wP l sd x P) := by
  rw [got_short hok h hl hs]; unfold dealt; rw [if_neg (by omega)]
theorem fill_fit (hok : ∀ b ∈ l, b.ok) {rule : Int} {k : Nat} (hk : k < l.length) (hp : part sd x (bAt l k) = true) : 0 ≤ fillF l sd x v rule k ∧ fillF l sd x v rule k ≤ 1000000000 := by
  have h := fill_bound hok (v := v) (rule := rule) (ids_mem hk hp)
  have q := hok _ (List.getElem_mem hk)
  unfold qI at h
  rw [bAt_get hk] at h
  obtain ⟨_, _, _, q1, q2⟩ := q
  omega
theorem dealt_fit (hok : ∀ b ∈ l, b.ok) (h : NextP l sd x T P) (hl : 0 < lftF l x v sd T) (rule : Int) {k : Nat} (hk : k < l.length) : 0 ≤ (dealt rule (gotG l sd x v P) (wP l sd x P)).getD k 0 ∧ (dealt rule (gotG l sd x v P) (wP l sd x P)).getD k 0 ≤ 1000000000 := by
  rw [fill_zero hok hk (left_step hok h hl).2.2]
  cases ha : atP l sd x P k with
  | false => simp
  | true =>
    have hp : part sd x (bAt l k) = true := by
      unfold atP at ha; rw [Bool.and_eq_true] at ha; exact ha.1
    exact fill_fit hok hk hp
theorem stage_fit (hok : ∀ b ∈ l, b.ok) {rule : Int} {d k : Nat} (hd : d = 0 ∨ d = 1) (hk : k < l.length) : 0 ≤ stageF l x v rule d k ∧ stageF l x v rule d k ≤ 1000000000 := by
  rcases hd with rfl | rfl
  · show (0 : Int) ≤ 0 ∧ (0 : Int) ≤ 1000000000; omega
  · show 0 ≤ servedF l 1 x v rule (fun _ => 0) k ∧ servedF l 1 x v rule (fun _ => 0) k ≤ 1000000000
    unfold servedF
    split
    · rename_i hp; exact fill_fit hok hk hp
    · simp
theorem stF_fit (hok : ∀ b ∈ l, b.ok) {rule : Int} {d k : Nat} (hd : d = 0 ∨ d = 1) (hk : k < l.length) : 0 ≤ stF l x v rule sd T (stageF l x v rule d) k ∧ stF l x v rule sd T (stageF l x v rule d) k ≤ 1000000000 := by
  unfold stF
  split
  · rename_i hp
    rw [Bool.and_eq_true] at hp
    exact fill_fit hok hk hp.1
  · exact stage_fit hok hd hk
/-- Who is a candidate, as the code finds it. -/
theorem cand_cases (hok : ∀ b ∈ l, b.ok) {rule : Int} {h0 : Nat → Int} {k : Nat} (hk : k < l.length) (hl : 0 < lftF l x v sd T) (hz : part sd x (bAt l k) = true → h0 k = 0) {u : Int} (hu : u = stF l x v rule sd T h0 k) :
    ((bAt l k).s ≠ sd → candB l sd x T k = false) ∧ (0 < u → candB l sd x T k = false) ∧ ((bAt l k).s = sd → ¬ 0 < u → candB l sd x T k = (bAt l k).takes x) := by
  unfold candB
  cases hp : part sd x (bAt l k) with
  | false =>
    refine ⟨fun _ => rfl, fun _ => rfl, fun e _ => ?_⟩
    unfold part at hp
    rw [e] at hp
    simpa using hp.symm
  | true =>
    have q := stF_pos (rule := rule) hok hk hp (hz hp) hl
    rw [← hu] at q
    have hp' := hp
    unfold part at hp'
    rw [Bool.and_eq_true] at hp'
    refine ⟨fun e => absurd (by simpa using hp'.1) e, fun g => by rw [q.1 g]; rfl, fun _ g => ?_⟩
    have c : srv sd T (pI l k) = false := by
      cases c : srv sd T (pI l k) with
      | false => rfl
      | true => exact absurd (q.2 c) g
    rw [c, hp'.2]; rfl
theorem lftF_bound (hok : ∀ b ∈ l, b.ok) (hv : 0 ≤ v) (sd x : Int) (T : Option Int) : 0 ≤ lftF l x v sd T ∧ lftF l x v sd T ≤ v := by
  have h := sumI_nonneg (l := qs l (lev l sd x T)) fun y hy => (qs_nonneg hok _ y hy).1
  unfold lftF
  omega
/-- The weights' sum so far. -/
theorem wN_bound (hok : ∀ b ∈ l, b.ok) (p : Nat → Bool) : ∀ j : Nat, j ≤ l.length → 0 ≤ sumI (wN p (qK l) j) ∧ sumI (wN p (qK l) j) ≤ 1000000000 * j
  | 0, _ => by simp [wN, sumI]
  | j + 1, h => by
    have ih := wN_bound hok p j (by omega)
    rw [wN_succ, sumI_snoc]
    have hj : j < l.length := by omega
    have q := hok _ (List.getElem_mem hj)
    obtain ⟨_, _, _, q1, q2⟩ := q
    have e : qK l j = (l[j]).q := by unfold qK; rw [bAt_get hj]
    split <;> omega
theorem wN_next (p : Nat → Bool) (l : List Bd) (j : Nat) : sumI (wN p (qK l) (j + 1)) = sumI (wN p (qK l) j) + if p j then qK l j else 0 := by rw [wN_succ, sumI_snoc]
end
end Go.Proofs.Ytjhelinbjlahiaa
