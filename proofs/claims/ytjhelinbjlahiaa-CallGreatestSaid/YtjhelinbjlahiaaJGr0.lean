/- The reference's Greatest, plain: its state, and why it ends at the dual. -/
import Derived.Test.YtjhelinbjlahiaaJDu0
namespace Go.Proofs.Ytjhelinbjlahiaa
set_option linter.unusedSimpArgs false
set_option linter.unusedVariables false
open Go.RowKit
def sN (φ : Nat → Int) : Nat → Int
  | 0 => 0
  | m + 1 => sN φ m + φ m
theorem sN_congr {φ ψ : Nat → Int} : ∀ {m : Nat}, (∀ k, k < m → φ k = ψ k) → sN φ m = sN ψ m
  | 0, _ => rfl
  | m + 1, h => by simp only [sN]; rw [sN_congr (m := m) fun k hk => h k (by omega), h m (by omega)]
theorem sN_upd {φ ψ : Nat → Int} {i : Nat} : ∀ {m : Nat}, i < m → (∀ k, k < m → k ≠ i → ψ k = φ k) → sN ψ m = sN φ m + (ψ i - φ i)
  | 0, h, _ => absurd h (Nat.not_lt_zero i)
  | m + 1, h, he => by
    simp only [sN]
    by_cases e : i = m
    · subst e
      rw [sN_congr (φ := ψ) (ψ := φ) (m := i) fun k hk => he k (by omega) (by omega)]; omega
    · rw [sN_upd (m := m) (by omega) fun k hk hne => he k (by omega) hne, he m (by omega) (fun q => e q.symm)]; omega
theorem sN_nonneg {φ : Nat → Int} : ∀ {m : Nat}, (∀ k, k < m → 0 ≤ φ k) → 0 ≤ sN φ m
  | 0, _ => Int.le_refl _
  | m + 1, h => by
    have := sN_nonneg (m := m) fun k hk => h k (by omega)
    have := h m (by omega)
    simp only [sN]; omega
theorem list_sN (l : List Bd) (u : Nat → Int) : ∀ m, m ≤ l.length → gsum (l.take m) ((List.range m).map u) = sN (fun k => gT (bAt l k) (u k)) m ∧ sumB (l.take m) ((List.range m).map u) = sN (fun k => if (bAt l k).s = 1 then u k else 0) m ∧ sumS (l.take m) ((List.range m).map u) = sN (fun k => if (bAt l k).s = 1 then 0 else u k) m
  | 0, _ => by simp [gsum, sumB, sumS, sN]
  | m + 1, h => by
    obtain ⟨i1, i2, i3⟩ := list_sN l u m (by omega)
    have hm : m < l.length := by omega
    have hlen : (l.take m).length = ((List.range m).map u).length := by simp; omega
    rw [take_snoc hm, List.range_succ, List.map_append, List.map_singleton, gsum_snoc _ _ hlen, sumB_snoc _ _ hlen, sumS_snoc _ _ hlen, i1, i2, i3]
    simp only [sN]
    rw [bAt_get hm]
    exact ⟨rfl, rfl, rfl⟩
def usedL (l : List Bd) (lf : Nat → Int) : List Int := (List.range l.length).map fun (k : Nat) => (bAt l k).q - lf k
theorem usedL_len (l : List Bd) (lf : Nat → Int) : (usedL l lf).length = l.length := by simp [usedL]
/-- What is left of each bid, and the gain so far. -/
structure GrS (l : List Bd) (lf : Nat → Int) (g : Int) : Prop where
  bd : ∀ i, i < l.length → 0 ≤ lf i ∧ lf i ≤ (bAt l i).q
  gain : g = sN (fun k => gT (bAt l k) ((bAt l k).q - lf k)) l.length
  bal : sN (fun k => if (bAt l k).s = 1 then (bAt l k).q - lf k else 0) l.length = sN (fun k => if (bAt l k).s = 1 then 0 else (bAt l k).q - lf k) l.length
  ordB : ∀ i j, i < l.length → j < l.length → (bAt l i).s = 1 → (bAt l j).s = 1 → lf i < (bAt l i).q → (bAt l i).p < (bAt l j).p → lf j = 0
  ordS : ∀ i j, i < l.length → j < l.length → (bAt l i).s ≠ 1 → (bAt l j).s ≠ 1 → lf i < (bAt l i).q → (bAt l j).p < (bAt l i).p → lf j = 0
  apart : ∀ i j, i < l.length → j < l.length → (bAt l i).s = 1 → (bAt l j).s ≠ 1 → lf i < (bAt l i).q → lf j < (bAt l j).q → (bAt l j).p < (bAt l i).p
/-- The best buyer, and the best seller, of the first ones that is not served in full. -/
def BstB (l : List Bd) (lf : Nat → Int) (b : Int) (i : Nat) : Prop := (b = -1 ∧ ∀ k, k < i → (bAt l k).s = 1 → lf k = 0) ∨ ∃ kb : Nat, b = kb ∧ kb < i ∧ (bAt l kb).s = 1 ∧ lf kb ≠ 0 ∧ ∀ k, k < i → (bAt l k).s = 1 → lf k ≠ 0 → (bAt l k).p ≤ (bAt l kb).p
def BstS (l : List Bd) (lf : Nat → Int) (b : Int) (i : Nat) : Prop := (b = -1 ∧ ∀ k, k < i → (bAt l k).s ≠ 1 → lf k = 0) ∨ ∃ kb : Nat, b = kb ∧ kb < i ∧ (bAt l kb).s ≠ 1 ∧ lf kb ≠ 0 ∧ ∀ k, k < i → (bAt l k).s ≠ 1 → lf k ≠ 0 → (bAt l kb).p ≤ (bAt l k).p
theorem GrS.start {l : List Bd} (hok : ∀ b ∈ l, b.ok) : GrS l (fun k => (bAt l k).q) 0 := by
  have hz : ∀ (φ : Nat → Int) m, (∀ k, k < m → φ k = 0) → sN φ m = 0 := fun φ m h => by
    rw [sN_congr (ψ := fun _ => 0) h]
    clear h
    induction m with
    | zero => rfl
    | succ m ih => simp only [sN]; rw [ih]; omega
  refine ⟨fun i hi => ?_, ?_, ?_, fun i j _ _ _ _ h => by omega, fun i j _ _ _ _ h => by omega, fun i j _ _ _ _ h => by omega⟩
  · have := hok _ (List.getElem_mem hi)
    rw [bAt_get hi]
    obtain ⟨_, _, _, h, _⟩ := this; omega
  · symm; apply hz; intro k _; unfold gT; simp
  · rw [hz, hz]
    · intro k _; simp
    · intro k _; simp
theorem gT_add (b : Bd) (x y : Int) : gT b (x + y) = gT b x + gT b y := by unfold gT; split <;> (rw [Int.mul_add]; try omega)
def takeF (lf : Nat → Int) (i j : Nat) (m : Int) : Nat → Int := fun k => if k = i then lf i - m else if k = j then lf j - m else lf k
theorem GrS.step {l : List Bd} {lf : Nat → Int} {g : Int} (h : GrS l lf g) {i j : Nat} (hi : i < l.length) (hj : j < l.length) (si : (bAt l i).s = 1) (sj : (bAt l j).s ≠ 1)
    (bi : ∀ k, k < l.length → (bAt l k).s = 1 → lf k ≠ 0 → (bAt l k).p ≤ (bAt l i).p) (bj : ∀ k, k < l.length → (bAt l k).s ≠ 1 → lf k ≠ 0 → (bAt l j).p ≤ (bAt l k).p) (hp : (bAt l j).p < (bAt l i).p)
    {m : Int} (hm : 0 < m) (mi : m ≤ lf i) (mj : m ≤ lf j) : GrS l (takeF lf i j m) (g + m * ((bAt l i).p - (bAt l j).p)) ∧ sN (takeF lf i j m) l.length < sN lf l.length := by
  have hne : i ≠ j := fun e => sj (e ▸ si)
  have ti : takeF lf i j m i = lf i - m := by unfold takeF; rw [if_pos rfl]
  have tj : takeF lf i j m j = lf j - m := by unfold takeF; rw [if_neg (Ne.symm hne), if_pos rfl]
  have tk : ∀ k, k ≠ i → k ≠ j → takeF lf i j m k = lf k := fun k h1 h2 => by unfold takeF; rw [if_neg h1, if_neg h2]
  -- two places at once
  have two : ∀ φ : Nat → Int → Int, sN (fun k => φ k (takeF lf i j m k)) l.length = sN (fun k => φ k (lf k)) l.length + (φ i (lf i - m) - φ i (lf i)) + (φ j (lf j - m) - φ j (lf j)) := fun φ => by
    have e1 := sN_upd (φ := fun k => φ k (lf k)) (ψ := fun k => φ k (if k = i then lf i - m else lf k)) hi (fun k _ hk => by simp [hk])
    have e2 := sN_upd (φ := fun k => φ k (if k = i then lf i - m else lf k)) (ψ := fun k => φ k (takeF lf i j m k)) hj (fun k _ hk => by
      by_cases q : k = i
      · subst q; simp [ti]
      · simp [q, tk k q hk])
    simp only [if_pos, if_neg (Ne.symm hne), tj] at e1 e2
    rw [e2, e1]
  have lt : ∀ k, k < l.length → takeF lf i j m k < (bAt l k).q → (k = i ∨ k = j ∨ lf k < (bAt l k).q) := fun k hk q => by
    by_cases e1 : k = i
    · exact .inl e1
    · by_cases e2 : k = j
      · exact .inr (.inl e2)
      · rw [tk k e1 e2] at q; exact .inr (.inr q)
  have le : ∀ k, lf k = 0 → k < l.length → takeF lf i j m k = 0 := fun k q hk => by
    by_cases e1 : k = i
    · subst e1; omega
    · by_cases e2 : k = j
      · subst e2; omega
      · rw [tk k e1 e2]; exact q
  refine ⟨⟨fun k hk => ?_, ?_, ?_, ?_, ?_, ?_⟩, ?_⟩
  · have := h.bd k hk
    by_cases e1 : k = i
    · subst e1; rw [ti]; omega
    · by_cases e2 : k = j
      · subst e2; rw [tj]; omega
      · rw [tk k e1 e2]; exact this
  · rw [two (fun k x => gT (bAt l k) ((bAt l k).q - x)), ← h.gain]
    have e1 : gT (bAt l i) ((bAt l i).q - (lf i - m)) = gT (bAt l i) ((bAt l i).q - lf i) + (bAt l i).p * m := by
      rw [show (bAt l i).q - (lf i - m) = ((bAt l i).q - lf i) + m by omega, gT_add]
      congr 1; unfold gT; rw [if_pos si]
    have e2 : gT (bAt l j) ((bAt l j).q - (lf j - m)) = gT (bAt l j) ((bAt l j).q - lf j) - (bAt l j).p * m := by
      rw [show (bAt l j).q - (lf j - m) = ((bAt l j).q - lf j) + m by omega, gT_add]
      unfold gT; rw [if_neg sj]; omega
    rw [e1, e2, Int.mul_sub, Int.mul_comm m, Int.mul_comm m]; omega
  · rw [two (fun k x => if (bAt l k).s = 1 then (bAt l k).q - x else 0), two (fun k x => if (bAt l k).s = 1 then 0 else (bAt l k).q - x), h.bal]
    simp only [if_pos si, if_neg sj]; omega
  · intro a b ha hb sa sb q1 q2
    by_cases e0 : lf b = 0
    · exact le b e0 hb
    · rcases lt a ha q1 with rfl | rfl | q
      · have := bi b hb sb e0; omega
      · exact absurd sa sj
      · exact absurd (h.ordB a b ha hb sa sb q q2) e0
  · intro a b ha hb sa sb q1 q2
    by_cases e0 : lf b = 0
    · exact le b e0 hb
    · rcases lt a ha q1 with rfl | rfl | q
      · exact absurd si sa
      · have := bj b hb sb e0; omega
      · exact absurd (h.ordS a b ha hb sa sb q q2) e0
  · intro a b ha hb sa sb q1 q2
    -- a buyer who trades is not worse than i, a seller not worse than j
    have A : (bAt l i).p ≤ (bAt l a).p := by
      rcases lt a ha q1 with rfl | rfl | q
      · omega
      · exact absurd sa sj
      · by_cases c : (bAt l a).p < (bAt l i).p
        · have := h.ordB a i ha hi sa si q c; omega
        · omega
    have B : (bAt l b).p ≤ (bAt l j).p := by
      rcases lt b hb q2 with rfl | rfl | q
      · exact absurd si sb
      · omega
      · by_cases c : (bAt l j).p < (bAt l b).p
        · have := h.ordS b j hb hj sb sj q c; omega
        · omega
    omega
  · have q : sN (takeF lf i j m) l.length = sN lf l.length + (lf i - m - lf i) + (lf j - m - lf j) := two (fun _ x => x)
    rw [q]; omega
theorem ex_max (f : Nat → Int) (p : Nat → Prop) [DecidablePred p] (hf : ∀ k, 0 ≤ f k) : ∀ n, ∃ M, 0 ≤ M ∧ (∀ k, k < n → p k → f k ≤ M) ∧ (M = 0 ∨ ∃ k, k < n ∧ p k ∧ f k = M)
  | 0 => ⟨0, Int.le_refl _, fun k hk => absurd hk (Nat.not_lt_zero k), .inl rfl⟩
  | n + 1 => by
    obtain ⟨M, h0, h1, h2⟩ := ex_max f p hf n
    by_cases q : p n ∧ M < f n
    · refine ⟨f n, hf n, fun k hk hp => ?_, .inr ⟨n, by omega, q.1, rfl⟩⟩
      by_cases e : k = n
      · subst e; exact Int.le_refl _
      · have := h1 k (by omega) hp; omega
    · refine ⟨M, h0, fun k hk hp => ?_, ?_⟩
      · by_cases e : k = n
        · subst e
          by_cases c : f k ≤ M
          · exact c
          · exact absurd ⟨hp, by omega⟩ q
        · exact h1 k (by omega) hp
      · rcases h2 with h2 | ⟨k, hk, a, b⟩
        · exact .inl h2
        · exact .inr ⟨k, by omega, a, b⟩
/-- A gain that is the dual's at some price and nowhere above it. -/
def GrE (l : List Bd) (g : Int) : Prop := (∀ Q, g ≤ dual Q l) ∧ ∃ P, g = dual P l
theorem GrE.uniq {l : List Bd} {g g' : Int} (h : GrE l g) (h' : GrE l g') : g = g' := by
  obtain ⟨a, P, b⟩ := h
  obtain ⟨a', P', b'⟩ := h'
  have := a P'
  have := a' P
  omega
theorem GrS.last {l : List Bd} (hok : ∀ b ∈ l, b.ok) {lf : Nat → Int} {g : Int} (h : GrS l lf g)
    (he : ∀ i j, i < l.length → j < l.length → (bAt l i).s = 1 → (bAt l j).s ≠ 1 → lf i ≠ 0 → lf j ≠ 0 → (bAt l i).p ≤ (bAt l j).p) : GrE l g := by
  obtain ⟨e1, e2, e3⟩ := list_sN l (fun k => (bAt l k).q - lf k) l.length (Nat.le_refl _)
  rw [List.take_length] at e1 e2 e3
  have hg : gsum l (usedL l lf) = g := e1.trans h.gain.symm
  have hb : sumB l (usedL l lf) - sumS l (usedL l lf) = 0 := by
    have q2 : sumB l (usedL l lf) = _ := e2
    have q3 : sumS l (usedL l lf) = _ := e3
    have := h.bal
    rw [q2, q3]; omega
  have hget : ∀ (i : Nat) (h1 : i < l.length) (h2 : i < (usedL l lf).length), (usedL l lf)[i] = l[i].q - lf i := fun i h1 h2 => by
    simp [usedL, bAt_get h1]
  constructor
  · intro Q
    have := weak Q (usedL_len l lf).symm ((fitF_iff (usedL_len l lf).symm).2 fun i h1 h2 => by
      rw [hget i h1 h2]
      have := h.bd i h1
      rw [bAt_get h1] at this; omega)
    rw [hb, hg] at this
    simpa using this
  · have pp : ∀ k, 0 ≤ (bAt l (k : Nat)).p := fun k => by
      by_cases hk : k < l.length
      · rw [bAt_get hk]
        obtain ⟨_, q, _⟩ := hok _ (List.getElem_mem hk); omega
      · have : bAt l (k : Nat) = bdZ := by unfold bAt; simp [Nat.le_of_not_lt hk]
        rw [this]; exact Int.le_refl _
    obtain ⟨B, b0, b1, b2⟩ := ex_max (fun k => (bAt l k).p) (fun k => (bAt l k).s = 1 ∧ lf k ≠ 0) pp l.length
    obtain ⟨S, s0, s1, s2⟩ := ex_max (fun k => (bAt l k).p) (fun k => (bAt l k).s ≠ 1 ∧ lf k < (bAt l k).q) pp l.length
    refine ⟨max B S, ?_⟩
    have cs : csF (max B S) l (usedL l lf) := csF_of (usedL_len l lf).symm fun i h1 h2 => by
      rw [hget i h1 h2]
      have hbi := bAt_get h1
      have hbd := h.bd i h1
      rw [← hbi]
      have hp1 : 1 ≤ (bAt l i).p := by rw [hbi]; exact (hok _ (List.getElem_mem h1)).2.1
      refine ⟨fun si => ⟨fun q => ?_, fun q => ?_⟩, fun si => ⟨fun q => ?_, fun q => ?_⟩⟩
      · by_cases z : lf i = 0
        · omega
        · have := b1 i h1 ⟨si, z⟩; omega
      · by_cases z : lf i < (bAt l i).q
        · exfalso
          by_cases c : B < S
          · rcases s2 with s2 | ⟨j, hj, ⟨sj, zj⟩, ej⟩
            · omega
            · have := h.apart i j h1 hj si sj z zj; omega
          · rcases b2 with b2 | ⟨j, hj, ⟨sj, zj⟩, ej⟩
            · omega
            · exact zj (h.ordB i j h1 hj si sj z (by omega))
        · omega
      · by_cases z : lf i = 0
        · omega
        · exfalso
          by_cases c : B < S
          · rcases s2 with s2 | ⟨j, hj, ⟨sj, zj⟩, ej⟩
            · omega
            · exact z (h.ordS j i hj h1 sj si zj (by omega))
          · rcases b2 with b2 | ⟨j, hj, ⟨sj, zj⟩, ej⟩
            · omega
            · have := he j i hj h1 sj si zj z; omega
      · by_cases z : lf i < (bAt l i).q
        · have := s1 i h1 ⟨si, z⟩; omega
        · omega
    have := strong (max B S) (usedL_len l lf).symm cs
    rw [hb, hg] at this
    simpa using this
/-- The gain is small. -/
theorem GrS.small {l : List Bd} (hl : l.length ≤ 4096) (hok : ∀ b ∈ l, b.ok) {lf : Nat → Int} {g : Int} (h : GrS l lf g) : -4096000000000000000 ≤ g ∧ g ≤ 4096000000000000000 := by
  obtain ⟨e1, _, _⟩ := list_sN l (fun k => (bAt l k).q - lf k) l.length (Nat.le_refl _)
  rw [List.take_length] at e1
  have hg : gsum l (usedL l lf) = g := e1.trans h.gain.symm
  have := gsum_bound hok ((fitF_iff (usedL_len l lf).symm).2 fun i h1 h2 => by
      have e : (usedL l lf)[i] = l[i].q - lf i := by simp [usedL, bAt_get h1]
      rw [e]
      have := h.bd i h1
      rw [bAt_get h1] at this; omega)
  rw [hg] at this
  omega
end Go.Proofs.Ytjhelinbjlahiaa
