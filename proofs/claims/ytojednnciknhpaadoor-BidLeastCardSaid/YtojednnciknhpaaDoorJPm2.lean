/- The hall in plain Lean: prices climb to the least ones at which nobody is crowded out. No program in sight. The hall in plain Lean: two matchings joined; balances. No program in sight. The hall in plain Lean: at the least prices every lot with a price can be sold; the first balance. No program in sight. The hall in plain Lean: what Content answers. No program in sight. -/
import Derived.Test.YtojednnciknhpaaDoorJMem
namespace Go.Proofs.YtojednnciknhpaaDoor
set_option linter.unusedSimpArgs false
set_option linter.unusedVariables false
open Go.RowKit
theorem getD_none {α : Type} {l : List α} {i : Nat} {d : α} (h : l.length ≤ i) : l.getD i d = d := by simp [h]
theorem gainH_cases : ∀ (row prices : List Int) (m : Int), gainH row prices m = m ∨ ∃ j, j < row.length ∧ j < prices.length ∧ row.getD j 0 - prices.getD j 0 = gainH row prices m
  | [], _, _ => .inl (by simp [gainH])
  | _ :: _, [], _ => .inl (by simp [gainH])
  | x :: r, p :: ps, m => by
    rw [gainH]
    rcases gainH_cases r ps (max m (x - p)) with h | ⟨j, h1, h2, h3⟩
    · rw [h]
      by_cases hm : x - p ≤ m
      · exact .inl (by omega)
      · exact .inr ⟨0, by simp, by simp, by simp; omega⟩
    · exact .inr ⟨j + 1, by simpa using h1, by simpa using h2, by simpa using h3⟩
theorem gainH_ub : ∀ (row prices : List Int) (m : Int) (j : Nat), j < row.length → j < prices.length → row.getD j 0 - prices.getD j 0 ≤ gainH row prices m
  | [], _, _, _, h, _ => absurd h (by simp)
  | _ :: _, [], _, _, _, h => absurd h (by simp)
  | x :: r, p :: ps, m, 0, _, _ => by
    have := gainH_ge r ps (max m (x - p))
    simp only [gainH, List.getD_cons_zero]
    omega
  | x :: r, p :: ps, m, j + 1, h1, h2 => by
    simp only [gainH, List.getD_cons_succ]
    exact gainH_ub r ps _ j (by simpa using h1) (by simpa using h2)
theorem mem_wantsH {b : Int} : ∀ (row prices : List Int) (j k : Nat), k ∈ wantsH b row prices j ↔ ∃ t, k = j + t ∧ t < row.length ∧ t < prices.length ∧ row.getD t 0 - prices.getD t 0 = b
  | [], _, _, _ => by simp [wantsH]
  | _ :: _, [], _, _ => by simp [wantsH]
  | x :: r, p :: ps, j, k => by
    rw [wantsH, List.mem_append, mem_wantsH r ps (j + 1) k]
    constructor
    · rintro (h | ⟨t, h1, h2, h3, h4⟩)
      · split at h
        · rename_i q
          exact ⟨0, by simpa using h, by simp, by simp, by simpa using q⟩
        · cases h
      · exact ⟨t + 1, by omega, by simpa using h2, by simpa using h3, by simpa using h4⟩
    · rintro ⟨t, h1, h2, h3, h4⟩
      cases t with
      | zero => left; simp at h4; rw [if_pos h4]; simp [h1]
      | succ t => right; exact ⟨t, by omega, by simpa using h2, by simpa using h3, by simpa using h4⟩
theorem mem_wants {row prices : List Int} {k : Nat} : k ∈ wantsF row prices ↔ k < row.length ∧ k < prices.length ∧ row.getD k 0 - prices.getD k 0 = gainF row prices := by
  unfold wantsF
  rw [mem_wantsH]
  constructor
  · rintro ⟨t, h1, h2⟩
    have : k = t := by omega
    subst this
    exact h2
  · intro h
    exact ⟨k, by omega, h⟩
theorem gainF_nonneg (row prices : List Int) : 0 ≤ gainF row prices := gainH_ge _ _ _
theorem gainF_ub {row prices : List Int} {j : Nat} (h1 : j < row.length) (h2 : j < prices.length) : row.getD j 0 - prices.getD j 0 ≤ gainF row prices := gainH_ub row prices 0 j h1 h2
theorem wants_ne {row prices : List Int} (h : 0 < gainF row prices) : ∃ j, j ∈ wantsF row prices := by
  rcases gainH_cases row prices 0 with q | ⟨j, h1, h2, h3⟩
  · unfold gainF at h; omega
  · exact ⟨j, mem_wants.2 ⟨h1, h2, h3⟩⟩
theorem gainF_le {row prices : List Int} {M : Int} (h0 : 0 ≤ M) (h : ∀ j, j < row.length → j < prices.length → row.getD j 0 - prices.getD j 0 ≤ M) : gainF row prices ≤ M := by
  rcases gainH_cases row prices 0 with q | ⟨j, h1, h2, h3⟩
  · unfold gainF; omega
  · have := h j h1 h2
    unfold gainF
    omega
theorem Sat.congr {R R' : Nat → Nat → Prop} {P P' : Nat → Prop} (h : Sat R P) (hP : ∀ x, P' x → P x) (hR : ∀ x j, P' x → R x j → R' x j) : Sat R' P' := by
  obtain ⟨f, f1, f2⟩ := h
  exact ⟨f, fun x hx => hR x _ hx (f1 x (hP x hx)), fun x y hx hy => f2 x y (hP x hx) (hP y hy)⟩
/-- A buyer that is not content with no lot. -/
def Eager (L : List (List Int)) (p : List Int) (i : Nat) : Prop := i < L.length ∧ 0 < gainF (L.getD i []) p
def Dem (L : List (List Int)) (p : List Int) (i j : Nat) : Prop := j ∈ wantsF (L.getD i []) p
/-- All of them can be given a lot that they want. -/
def FreeP (L : List (List Int)) (p : List Int) : Prop := Sat (Dem L p) (Eager L p)
theorem eagerF_at (L : List (List Int)) (p : List Int) (i : Nat) : (eagerF L p).getD i [] = if 0 < gainF (L.getD i []) p then wantsF (L.getD i []) p else [] := by
  unfold eagerF
  by_cases h : i < L.length
  · simp [h]
  · have h1 : L.length ≤ i := by omega
    have e1 : L.getD i [] = [] := by simp [h1]
    rw [e1]
    have e2 : gainF [] p = 0 := by simp [gainF, gainH]
    rw [e2, if_neg (by omega)]
    simp [h1]
theorem eager_ne {L : List (List Int)} {p : List Int} {i : Nat} : (eagerF L p).getD i [] ≠ [] ↔ Eager L p i := by
  rw [eagerF_at]
  unfold Eager
  constructor
  · intro h
    split at h
    · rename_i q
      refine ⟨Decidable.byContradiction fun c => ?_, q⟩
      have e1 : L.getD i [] = [] := getD_none (by omega)
      rw [e1] at q
      simp [gainF, gainH] at q
    · exact absurd rfl h
  · rintro ⟨_, h⟩
    rw [if_pos h]
    obtain ⟨j, hj⟩ := wants_ne h
    exact List.ne_nil_of_mem hj
theorem eager_wr {L : List (List Int)} {p : List Int} {n i j : Nat} (h : Eager L p i) : WR (eagerF L p) (noB n) i j ↔ Dem L p i j := by
  unfold WR Dem
  rw [eagerF_at, if_pos h.2]
  exact ⟨fun q => q.1, fun q => ⟨q, noB_get n j⟩⟩
theorem wOk_eager {L : List (List Int)} {p : List Int} (ok : OkH L p.length) : wOk (eagerF L p) p.length := fun r hr j hj => (eagerF_ok ok r hr).2 j hj
theorem crowdF_none {L : List (List Int)} {p : List Int} (ok : OkH L p.length) : crowdF L p = none ↔ FreeP L p := by
  unfold crowdF
  rw [crowdL_none]
  have hl := eagerF_len L p
  have := allF_iff (bar := noB p.length) (skip := fun i => decide ((eagerF L p).getD i [] = [])) (wOk_eager ok) (is := List.range L.length) List.nodup_range (fun i hi => by rw [hl]; simpa using hi) (sn := [])
  rw [hl] at this
  rw [this]
  have hP : ∀ x, (x ∈ List.range L.length ∧ decide ((eagerF L p).getD x [] = []) = false) ↔ Eager L p x := fun x => by
    rw [decide_eq_false_iff_not]
    constructor
    · rintro ⟨_, h⟩; exact eager_ne.1 h
    · intro h; exact ⟨by simpa using h.1, eager_ne.2 h⟩
  constructor
  · intro h
    exact h.congr (fun x hx => (hP x).2 hx) fun x j hx hr => (eager_wr hx).1 hr
  · intro h
    exact Sat.congr h (fun x hx => (hP x).1 hx) fun x j hx hr => (eager_wr ((hP x).1 hx)).2 hr
/-- A crowd: buyers who all want lots of a set only, one more than the lots. -/
structure CrowdH (L : List (List Int)) (p : List Int) (b : List Int) (l : List Nat) : Prop where
  len : b.length = l.length + 1
  lt : b.Pairwise (· < ·)
  ll : l.Pairwise (· < ·)
  rl : ∀ j ∈ l, j < p.length
  mem : ∀ x ∈ b, ∃ i : Nat, x = (i : Int) ∧ Eager L p i ∧ ∀ j, Dem L p i j → j ∈ l
theorem crowdF_some {L : List (List Int)} {p : List Int} (ok : OkH L p.length) {b : List Int} {l : List Nat} (h : crowdF L p = some (b, l)) : CrowdH L p b l := by
  have hl := eagerF_len L p
  have c0 := crowdF_ok ok h
  unfold crowdF at h
  rw [← hl] at h
  have c := crowdL_some (wOk_eager ok) _ _ _ List.nodup_range (fun i hi => by simpa using hi) (fun _ _ h => h) (fun _ h => h.elim) (MInv.start _ (noB p.length) p.length []) h
  refine ⟨c.len, c.lt, c.ll, c0.rl, fun x hx => ?_⟩
  obtain ⟨i, h1, _, h3, h4⟩ := c.mem x hx
  have he := eager_ne.1 h3
  refine ⟨i, h1, he, fun j hj => h4 j ?_⟩
  rw [eagerF_at, if_pos he.2]
  exact hj
/-! ### the smallest crowd -/
def nonNeg (p : List Int) : Prop := ∀ x ∈ p, 0 ≤ x
theorem nonNeg.getD {p : List Int} (h : nonNeg p) (j : Nat) : 0 ≤ p.getD j 0 := by
  rw [List.getD_eq_getElem?_getD]
  cases e : p[j]? with
  | none => simp
  | some x => exact h x (List.mem_of_getElem? e)
theorem gain_zeros {p : List Int} (hp : nonNeg p) (n : Nat) : gainF (List.replicate n 0) p = 0 := by
  have h1 := gainF_nonneg (List.replicate n 0) p
  have h2 : gainF (List.replicate n 0) p ≤ 0 := gainF_le (by omega) fun j h1 h2 => by
    have := hp.getD j
    rw [List.length_replicate] at h1
    simp only [List.getD_eq_getElem?_getD, List.getElem?_replicate, h1, if_true, Option.getD_some]
    simp only [List.getD_eq_getElem?_getD] at this
    omega
  omega
theorem partF_at {L : List (List Int)} {n : Nat} {b : List Int} {out : Int} {i : Nat} (h : i < L.length) : (partF L n b out).getD i [] = if b.contains (i : Int) = true ∧ (i : Int) ≠ out then L.getD i [] else List.replicate n 0 := by
  simp [partF, h]
theorem partF_size (L : List (List Int)) (n : Nat) (b : List Int) (out : Int) : (partF L n b out).length = L.length := by simp [partF]
theorem partF_okH {L : List (List Int)} {n : Nat} (ok : OkH L n) (b : List Int) (out : Int) : OkH (partF L n b out) n := by
  have hm : ∀ r ∈ partF L n b out, r ∈ L ∨ r = List.replicate n 0 := fun r hr => by
    obtain ⟨i, hi, rfl⟩ := List.mem_map.1 hr
    have hil : i < L.length := by simpa using hi
    split
    · left; simp [hil]
    · right; rfl
  refine ⟨by rw [partF_size]; exact ok.rows, ok.cols, fun r hr => ?_, fun r hr => ?_⟩
  · rcases hm r hr with h | rfl
    · exact ok.len r h
    · simp
  · rcases hm r hr with h | rfl
    · exact ok.ok r h
    · intro x hx; rw [(List.mem_replicate.1 hx).2]; omega
theorem part_eager {L : List (List Int)} {p : List Int} (hp : nonNeg p) {b : List Int} {out : Int} {i : Nat} : Eager (partF L p.length b out) p i ↔ Eager L p i ∧ (i : Int) ∈ b ∧ (i : Int) ≠ out := by
  unfold Eager
  rw [partF_size]
  constructor
  · rintro ⟨h1, h2⟩
    rw [partF_at h1] at h2
    split at h2
    · rename_i q
      exact ⟨⟨h1, h2⟩, by simpa using q.1, q.2⟩
    · rw [gain_zeros hp] at h2; omega
  · rintro ⟨⟨h1, h2⟩, h3, h4⟩
    refine ⟨h1, ?_⟩
    rw [partF_at h1, if_pos ⟨by simpa using h3, h4⟩]
    exact h2
theorem part_dem {L : List (List Int)} {p : List Int} {b : List Int} {out : Int} {i j : Nat} (h : i < L.length) (hb : (i : Int) ∈ b) (ho : (i : Int) ≠ out) : Dem (partF L p.length b out) p i j ↔ Dem L p i j := by
  unfold Dem
  rw [partF_at h, if_pos ⟨by simpa using hb, ho⟩]
theorem CrowdH.of_part {L : List (List Int)} {p : List Int} (hp : nonNeg p) {b b' : List Int} {out : Int} {l' : List Nat} (h : CrowdH (partF L p.length b out) p b' l') : CrowdH L p b' l' ∧ ∀ x ∈ b', x ∈ b ∧ x ≠ out := by
  refine ⟨⟨h.len, h.lt, h.ll, h.rl, fun x hx => ?_⟩, fun x hx => ?_⟩
  · obtain ⟨i, h1, h2, h3⟩ := h.mem x hx
    obtain ⟨q1, q2, q3⟩ := (part_eager hp).1 h2
    exact ⟨i, h1, q1, fun j hj => h3 j ((part_dem q1.1 q2 q3).2 hj)⟩
  · obtain ⟨i, h1, h2, _⟩ := h.mem x hx
    obtain ⟨_, q2, q3⟩ := (part_eager hp).1 h2
    rw [h1]
    exact ⟨q2, q3⟩
theorem lt_nodup {l : List Int} (h : l.Pairwise (· < ·)) : l.Nodup := h.imp fun h => by omega
theorem shrink_none {L : List (List Int)} {p : List Int} {b : List Int} : ∀ r : List Int, shrinkF L p b r = none → ∀ out ∈ r, crowdF (partF L p.length b out) p = none
  | [], _, _, h => by cases h
  | o :: r, h, out, ho => by
    unfold shrinkF at h
    split at h
    · cases h
    · rename_i q
      rcases List.mem_cons.1 ho with rfl | ho
      · exact q
      · exact shrink_none r h out ho
theorem shrink_some {L : List (List Int)} {p : List Int} {b : List Int} {x : List Int × List Nat} : ∀ r : List Int, shrinkF L p b r = some x → ∃ out ∈ r, crowdF (partF L p.length b out) p = some x
  | [], h => by cases h
  | o :: r, h => by
    unfold shrinkF at h
    split at h
    · rename_i y q
      injection h with h
      subst h
      exact ⟨o, List.mem_cons_self, q⟩
    · obtain ⟨out, h1, h2⟩ := shrink_some r h
      exact ⟨out, List.mem_cons_of_mem _ h1, h2⟩
/-- A crowd in which each buyer is needed. -/
structure TightH (L : List (List Int)) (p : List Int) (b : List Int) (l : List Nat) : Prop where
  cr : CrowdH L p b l
  less : ∀ out ∈ b, FreeP (partF L p.length b out) p
theorem small_spec {L : List (List Int)} {p : List Int} (ok : OkH L p.length) (hp : nonNeg p) : ∀ (f : Nat) (b : List Int) (l : List Nat), CrowdH L p b l → b.length < f → ∃ b' l', smallF L p f (some (b, l)) = some (some (b', l')) ∧ TightH L p b' l'
  | 0, _, _, _, h => absurd h (by omega)
  | f + 1, b, l, h, hf => by
    rw [smallF]
    cases e : shrinkF L p b b with
    | none => exact ⟨b, l, rfl, h, fun out ho => (crowdF_none (partF_okH ok b out)).1 (shrink_none b e out ho)⟩
    | some x =>
      obtain ⟨b2, l2⟩ := x
      obtain ⟨out, h1, h2⟩ := shrink_some b e
      obtain ⟨c1, c2⟩ := CrowdH.of_part hp (crowdF_some (partF_okH ok b out) h2)
      refine small_spec ok hp f b2 l2 c1 ?_
      have := nodup_len (B := b.erase out) (lt_nodup c1.lt) fun x hx => (List.mem_erase_of_ne (c2 x hx).2).2 (c2 x hx).1
      rw [List.length_erase_of_mem h1] at this
      have := List.length_pos_of_mem h1
      omega
theorem crowd_len {L : List (List Int)} {p : List Int} {b : List Int} {l : List Nat} (h : CrowdH L p b l) : b.length ≤ L.length := by
  have := nodup_len (B := (List.range L.length).map fun i : Nat => (i : Int)) (lt_nodup h.lt) fun x hx => by
    obtain ⟨i, rfl, h2, _⟩ := h.mem x hx
    exact List.mem_map.2 ⟨i, by simpa using h2.1, rfl⟩
  simpa using this
theorem smallest_spec {L : List (List Int)} {p : List Int} (ok : OkH L p.length) (hp : nonNeg p) : smallestF L p = some none ∧ FreeP L p ∨ ∃ b l, smallestF L p = some (some (b, l)) ∧ TightH L p b l := by
  unfold smallestF
  cases e : crowdF L p with
  | none =>
    left
    exact ⟨by rw [smallF], (crowdF_none ok).1 e⟩
  | some x =>
    obtain ⟨b, l⟩ := x
    right
    have c := crowdF_some ok e
    exact small_spec ok hp _ b l c (by have := crowd_len c; omega)
/-! ### the step -/
theorem riseH_prop {b : Int} {lots : List Nat} : ∀ (row prices : List Int) (j : Nat) (s : Int), riseH b lots row prices j s ≤ s ∧ (∀ t, t < row.length → t < prices.length → (j + t) ∉ lots → riseH b lots row prices j s ≤ b - (row.getD t 0 - prices.getD t 0)) ∧ (∀ M : Int, M ≤ s → (∀ t, t < row.length → t < prices.length → (j + t) ∉ lots → M ≤ b - (row.getD t 0 - prices.getD t 0)) → M ≤ riseH b lots row prices j s)
  | [], _, _, _ => by simp [riseH]
  | _ :: _, [], _, _ => by simp [riseH]
  | x :: r, p :: ps, j, s => by
    obtain ⟨i1, i2, i3⟩ := riseH_prop (b := b) (lots := lots) r ps (j + 1) (if lots.contains j = true then s else min s (b - (x - p)))
    rw [riseH]
    refine ⟨?_, fun t h1 h2 h3 => ?_, fun M h1 h2 => ?_⟩
    · refine Int.le_trans i1 ?_
      split <;> omega
    · cases t with
      | zero =>
        have hc : ¬ lots.contains j = true := by simpa using h3
        rw [if_neg hc] at i1 ⊢
        simp only [List.getD_cons_zero]
        omega
      | succ t =>
        simp only [List.getD_cons_succ]
        exact i2 t (by simpa using h1) (by simpa using h2) (by rw [show j + 1 + t = j + (t + 1) by omega]; exact h3)
    · refine i3 M ?_ fun t h3 h4 h5 => by
        have := h2 (t + 1) (by simpa using h3) (by simpa using h4) (by rw [show j + (t + 1) = j + 1 + t by omega]; exact h5)
        simpa using this
      split
      · exact h1
      · rename_i q
        have := h2 0 (by simp) (by simp) (by simpa using q)
        simp only [List.getD_cons_zero] at this
        omega
/-- How much a buyer lets the prices of a set rise. -/
def letsH (L : List (List Int)) (p : List Int) (l : List Nat) (M : Int) (x : Int) : Prop := M ≤ gainF (L.getD x.toNat []) p ∧ ∀ t, t < (L.getD x.toNat []).length → t < p.length → t ∉ l → M ≤ gainF (L.getD x.toNat []) p - ((L.getD x.toNat []).getD t 0 - p.getD t 0)
theorem riseF_prop {L : List (List Int)} {p : List Int} {l : List Nat} : ∀ (b : List Int) (s : Int), riseF L p l b s ≤ s ∧ (∀ x ∈ b, letsH L p l (riseF L p l b s) x) ∧ ∀ M : Int, M ≤ s → (∀ x ∈ b, letsH L p l M x) → M ≤ riseF L p l b s
  | [], s => by simp [riseF]
  | x :: b, s => by
    obtain ⟨i1, i2, i3⟩ := riseF_prop (L := L) (p := p) (l := l) b (riseH (gainF (L.getD x.toNat []) p) l (L.getD x.toNat []) p 0 (min s (gainF (L.getD x.toNat []) p)))
    obtain ⟨r1, r2, r3⟩ := riseH_prop (b := gainF (L.getD x.toNat []) p) (lots := l) (L.getD x.toNat []) p 0 (min s (gainF (L.getD x.toNat []) p))
    rw [riseF]
    refine ⟨by omega, fun y hy => ?_, fun M h1 h2 => i3 M (r3 M ?_ fun t h3 h4 h5 => ?_) fun y hy => h2 y (List.mem_cons_of_mem _ hy)⟩
    · rcases List.mem_cons.1 hy with rfl | hy
      · refine ⟨by omega, fun t h1 h2 h3 => ?_⟩
        have := r2 t h1 h2 (by rw [Nat.zero_add]; exact h3)
        omega
      · exact i2 y hy
    · have := (h2 x List.mem_cons_self).1
      omega
    · rw [Nat.zero_add] at h5
      exact (h2 x List.mem_cons_self).2 t h3 h4 h5
theorem raiseF_get (s : Int) : ∀ (l : List Nat) (p : List Int), l.Nodup → (∀ j ∈ l, j < p.length) → (raiseF p s l).length = p.length ∧ ∀ k, (raiseF p s l).getD k 0 = p.getD k 0 + if k ∈ l then s else 0
  | [], p, _, _ => by simp [raiseF]
  | j :: l, p, hn, hl => by
    obtain ⟨n1, n2⟩ := List.nodup_cons.1 hn
    have hj := hl j List.mem_cons_self
    obtain ⟨i1, i2⟩ := raiseF_get s l (p.set j (p.getD j 0 + s)) n2 fun k hk => by simpa using hl k (List.mem_cons_of_mem _ hk)
    rw [raiseF]
    refine ⟨by rw [i1]; simp, fun k => ?_⟩
    rw [i2]
    by_cases e : k = j
    · subst e
      rw [getD_set_eq hj, if_neg n1, if_pos List.mem_cons_self]
      omega
    · rw [getD_set_other e]
      simp [e]
/-- Pointwise at most. -/
def LeP (p q : List Int) : Prop := ∀ j, j < p.length → p.getD j 0 ≤ q.getD j 0
theorem filter_split {α : Type} (P : α → Bool) : ∀ l : List α, (l.filter P).length + (l.filter fun x => !P x).length = l.length
  | [] => rfl
  | a :: l => by
    have := filter_split P l
    cases h : P a <;> simp [h] <;> omega
theorem ints_of {b : List Int} {Q : Nat → Prop} (h : ∀ x ∈ b, ∃ i : Nat, x = (i : Int) ∧ Q i) : ∃ B : List Nat, b = B.map (fun i : Nat => (i : Int)) ∧ ∀ i ∈ B, Q i := by
  induction b with
  | nil => exact ⟨[], rfl, fun _ h => by cases h⟩
  | cons x b ih =>
    obtain ⟨i, rfl, hq⟩ := h x List.mem_cons_self
    obtain ⟨B, rfl, hB⟩ := ih fun x hx => h x (List.mem_cons_of_mem _ hx)
    exact ⟨i :: B, rfl, fun k hk => by
      rcases List.mem_cons.1 hk with rfl | hk
      · exact hq
      · exact hB k hk⟩
theorem list_min (f : Nat → Int) : ∀ l : List Nat, l ≠ [] → ∃ j ∈ l, ∀ k ∈ l, f j ≤ f k
  | [], h => absurd rfl h
  | [a], _ => ⟨a, by simp, fun k hk => by rw [List.mem_singleton.1 hk]; omega⟩
  | a :: b :: l, _ => by
    obtain ⟨j, h1, h2⟩ := list_min f (b :: l) (by simp)
    by_cases h : f a ≤ f j
    · exact ⟨a, by simp, fun k hk => by
        rcases List.mem_cons.1 hk with rfl | hk
        · omega
        · have := h2 k hk; omega⟩
    · exact ⟨j, List.mem_cons_of_mem _ h1, fun k hk => by
        rcases List.mem_cons.1 hk with rfl | hk
        · omega
        · exact h2 k hk⟩
/-- More of a tight crowd want some lots than these lots are. -/
theorem TightH.more {L : List (List Int)} {p : List Int} {l : List Nat} {B : List Nat} (hp : nonNeg p) (h : TightH L p (B.map fun i : Nat => (i : Int)) l) (S : Nat → Bool) (hS : ∃ j ∈ l, S j = true) (W : Nat → Bool) (hW : ∀ i ∈ B, W i = false → ∀ j, Dem L p i j → S j = false) : (l.filter S).length < (B.filter W).length := by
  have hc := h.cr
  have lenB : B.length = l.length + 1 := by have := hc.len; simpa using this
  have ndB : B.Nodup := by
    have := lt_nodup hc.lt
    exact (List.pairwise_map.1 this).imp fun h q => h (by rw [q])
  have ndl : l.Nodup := hc.ll.imp fun h => by omega
  have memB : ∀ i ∈ B, Eager L p i ∧ ∀ j, Dem L p i j → j ∈ l := fun i hi => by
    obtain ⟨k, h1, h2, h3⟩ := hc.mem (i : Int) (List.mem_map.2 ⟨i, hi, rfl⟩)
    have : k = i := by omega
    subst this
    exact ⟨h2, h3⟩
  have sp1 := filter_split S l
  have sp2 := filter_split W B
  have pos : 0 < (l.filter S).length := by
    obtain ⟨j, h1, h2⟩ := hS
    exact List.length_pos_of_mem (List.mem_filter.2 ⟨h1, h2⟩)
  -- the others, but one, have lots outside
  have key : ∀ out ∈ B, ((B.filter fun x => !W x).erase out).length ≤ (l.filter fun x => !S x).length := fun out ho => by
    obtain ⟨f, f1, f2⟩ := h.less (out : Int) (List.mem_map.2 ⟨out, ho, rfl⟩)
    have ndF : ((B.filter fun x => !W x).erase out).Nodup := (List.Pairwise.sublist List.filter_sublist ndB).erase out
    have inF : ∀ x ∈ (B.filter fun x => !W x).erase out, x ∈ B ∧ W x = false ∧ x ≠ out := fun x hx => by
      have h1 := List.mem_of_mem_erase hx
      have h2 := List.mem_filter.1 h1
      refine ⟨h2.1, by simpa using h2.2, fun q => ?_⟩
      subst q
      exact List.Nodup.not_mem_erase (List.Pairwise.sublist List.filter_sublist ndB) hx
    have pe : ∀ x ∈ (B.filter fun x => !W x).erase out, Eager (partF L p.length (B.map fun i : Nat => (i : Int)) (out : Int)) p x := fun x hx => by
      obtain ⟨h1, _, h3⟩ := inF x hx
      exact (part_eager hp).2 ⟨(memB x h1).1, List.mem_map.2 ⟨x, h1, rfl⟩, by omega⟩
    have := nodup_len (nodup_map (f := f) ndF fun x hx y hy => f2 x y (pe x hx) (pe y hy)) (B := l.filter fun x => !S x) fun y hy => by
      obtain ⟨x, hx, rfl⟩ := List.mem_map.1 hy
      obtain ⟨h1, h2, h3⟩ := inF x hx
      have hd := f1 x (pe x hx)
      rw [part_dem (memB x h1).1.1 (List.mem_map.2 ⟨x, h1, rfl⟩) (by omega)] at hd
      exact List.mem_filter.2 ⟨(memB x h1).2 _ hd, by rw [hW x h1 h2 _ hd]; rfl⟩
    simpa using this
  by_cases hT : B.filter W = []
  · obtain ⟨out, ho⟩ : ∃ out, out ∈ B := List.exists_mem_of_length_pos (by omega)
    have k := key out ho
    have hw : W out = false := by
      cases q : W out with
      | false => rfl
      | true =>
        have : out ∈ B.filter W := List.mem_filter.2 ⟨ho, q⟩
        rw [hT] at this; cases this
    rw [List.length_erase_of_mem (List.mem_filter.2 ⟨ho, by rw [hw]; rfl⟩)] at k
    have : (B.filter W).length = 0 := by rw [hT]; rfl
    omega
  · obtain ⟨out, ho⟩ := List.exists_mem_of_ne_nil _ hT
    obtain ⟨h1, h2⟩ := List.mem_filter.1 ho
    have k := key out h1
    rw [List.erase_of_not_mem (fun q => by have := (List.mem_filter.1 q).2; rw [h2] at this; cases this)] at k
    omega
theorem row_len {L : List (List Int)} {n : Nat} (ok : OkH L n) {i : Nat} (hi : i < L.length) : (L.getD i []).length = n := by
  have e : L.getD i [] = L[i] := by simp [hi]
  rw [e]
  exact ok.len _ (List.getElem_mem hi)
/-- Free prices are at least those to which a tight crowd makes prices rise. -/
theorem step_le {L : List (List Int)} {p r : List Int} {b : List Int} {l : List Nat} (ok : OkH L p.length) (hp : nonNeg p) (h : TightH L p b l) (hr : r.length = p.length) (hle : LeP p r) (hf : FreeP L r) {s : Int} (hs : ∀ x ∈ b, letsH L p l s x) : ∀ j ∈ l, p.getD j 0 + s ≤ r.getD j 0 := by
  obtain ⟨B, rfl, hB⟩ := ints_of (Q := fun i => Eager L p i ∧ ∀ j, Dem L p i j → j ∈ l) fun x hx => by
    obtain ⟨i, h1, h2⟩ := h.cr.mem x hx
    exact ⟨i, h1, h2⟩
  intro j0 hj0
  refine Decidable.byContradiction fun hlt => ?_
  obtain ⟨jm, hjm, hmin⟩ := list_min (fun j => r.getD j 0 - p.getD j 0) l (List.ne_nil_of_mem hj0)
  obtain ⟨d, hd⟩ : ∃ d, d = r.getD jm 0 - p.getD jm 0 := ⟨_, rfl⟩
  rw [← hd] at hmin
  have hds : d < s := by have := hmin j0 hj0; omega
  have hd0 : 0 ≤ d := by have := hle jm (h.cr.rl jm hjm); omega
  have lets : ∀ i ∈ B, s ≤ gainF (L.getD i []) p ∧ ∀ t, t < p.length → t ∉ l → s ≤ gainF (L.getD i []) p - ((L.getD i []).getD t 0 - p.getD t 0) := fun i hi => by
    obtain ⟨l1, l2⟩ := hs (i : Int) (List.mem_map.2 ⟨i, hi, rfl⟩)
    rw [show ((i : Int).toNat) = i by simp] at l1 l2
    have hl := row_len ok (hB i hi).1.1
    exact ⟨l1, fun t h1 h2 => l2 t (by rw [hl]; exact h1) h1 h2⟩
  -- the lots that rise least
  obtain ⟨S, hSd⟩ : ∃ S : Nat → Bool, S = fun j => decide (r.getD j 0 - p.getD j 0 = d) := ⟨_, rfl⟩
  have hS : ∀ j, S j = true ↔ r.getD j 0 - p.getD j 0 = d := fun j => by rw [hSd]; simp
  obtain ⟨W, hWd⟩ : ∃ W : Nat → Bool, W = fun i => (l.filter S).any fun j => (wantsF (L.getD i []) p).contains j := ⟨_, rfl⟩
  have hW : ∀ i, W i = true ↔ ∃ j ∈ l, S j = true ∧ Dem L p i j := fun i => by
    rw [hWd]
    simp only [List.any_eq_true, List.mem_filter, List.contains_iff_mem]
    constructor
    · rintro ⟨j, ⟨h1, h2⟩, h3⟩; exact ⟨j, h1, h2, h3⟩
    · rintro ⟨j, h1, h2, h3⟩; exact ⟨j, ⟨h1, h2⟩, h3⟩
  have more := h.more hp S ⟨jm, hjm, (hS jm).2 hd.symm⟩ W fun i hi hw j hj => by
    cases q : S j with
    | false => rfl
    | true =>
      have := (hW i).2 ⟨j, (hB i hi).2 j hj, q, hj⟩
      rw [hw] at this; cases this
  -- at the free prices these buyers want these lots only
  have only : ∀ i ∈ B, W i = true → Eager L r i ∧ ∀ j, Dem L r i j → j ∈ l ∧ S j = true := fun i hi hw => by
    obtain ⟨jw, w1, w2, w3⟩ := (hW i).1 hw
    obtain ⟨hl1, hl2⟩ := lets i hi
    have hlen := row_len ok (hB i hi).1.1
    obtain ⟨d1, d2, d3⟩ := mem_wants.1 w3
    have hjr := (hS jw).1 w2
    have g1 : (L.getD i []).getD jw 0 - r.getD jw 0 ≤ gainF (L.getD i []) r := gainF_ub d1 (by rw [hr]; exact d2)
    refine ⟨⟨(hB i hi).1.1, by omega⟩, fun j hj => ?_⟩
    obtain ⟨e1, e2, e3⟩ := mem_wants.1 hj
    rw [hr] at e2
    have ub := gainF_ub (prices := p) e1 e2
    by_cases hjl : j ∈ l
    · refine ⟨hjl, (hS j).2 ?_⟩
      have := hmin j hjl
      omega
    · have h1 := hl2 j e2 hjl
      have h2 := hle j e2
      omega
  obtain ⟨f, f1, f2⟩ := hf
  have ndB : B.Nodup := by
    have := lt_nodup h.cr.lt
    exact (List.pairwise_map.1 this).imp fun h q => h (by rw [q])
  have inT : ∀ x ∈ B.filter W, x ∈ B ∧ W x = true := fun x hx => List.mem_filter.1 hx
  have := nodup_len (nodup_map (f := f) (List.Pairwise.sublist (List.filter_sublist (p := W)) ndB) fun x hx y hy => f2 x y (only x (inT x hx).1 (inT x hx).2).1 (only y (inT y hy).1 (inT y hy).2).1) (B := l.filter S) fun y hy => by
    obtain ⟨x, hx, rfl⟩ := List.mem_map.1 hy
    obtain ⟨h1, h2⟩ := only x (inT x hx).1 (inT x hx).2
    exact List.mem_filter.2 (h2 _ (f1 x h1))
  rw [List.length_map] at this
  omega
/-! ### the climb -/
theorem okW.nn {p : List Int} (h : okW p) : nonNeg p := fun x hx => (h x hx).1
theorem okW_of {p : List Int} (h : ∀ j, j < p.length → 0 ≤ p.getD j 0 ∧ p.getD j 0 ≤ 1000000000) : okW p := fun x hx => by
  obtain ⟨j, hj, rfl⟩ := List.getElem_of_mem hx
  have := h j hj
  simpa [hj] using this
theorem okW.getD {p : List Int} (h : okW p) (j : Nat) : 0 ≤ p.getD j 0 ∧ p.getD j 0 ≤ 1000000000 := by
  rw [List.getD_eq_getElem?_getD]
  cases e : p[j]? with
  | none => simp
  | some x => exact h x (List.mem_of_getElem? e)
/-- At the greatest prices nobody is eager. -/
theorem free_top {L : List (List Int)} {n : Nat} (ok : OkH L n) : FreeP L (List.replicate n 1000000000) := by
  refine ⟨fun _ => 0, fun x hx => ?_, fun x y hx _ _ => ?_⟩ <;>
  · exfalso
    have h1 := row_len ok hx.1
    have h2 : gainF (L.getD x []) (List.replicate n 1000000000) ≤ 0 := gainF_le (by omega) fun j h3 h4 => by
      have hm : L.getD x [] ∈ L := by simp [hx.1]
      have := (okW.getD (ok.ok _ hm) j).2
      rw [h1] at h3
      have e : (List.replicate n (1000000000 : Int)).getD j 0 = 1000000000 := by simp [h3]
      rw [e]
      omega
    have := hx.2
    omega
theorem climb_spec {L : List (List Int)} {p : List Int} (ok : OkH L p.length) (hp : okW p) (hlow : ∀ r : List Int, r.length = p.length → nonNeg r → FreeP L r → LeP p r) : climbF L p = some none ∧ FreeP L p ∨ ∃ q, climbF L p = some (some q) ∧ q.length = p.length ∧ okW q ∧ LeP p q ∧ (∃ j, j < p.length ∧ p.getD j 0 < q.getD j 0) ∧ ∀ r : List Int, r.length = p.length → nonNeg r → FreeP L r → LeP q r := by
  unfold climbF
  rcases smallest_spec ok hp.nn with ⟨h1, h2⟩ | ⟨b, l, h1, h2⟩
  · left
    rw [h1]
    exact ⟨rfl, h2⟩
  · right
    rw [h1]
    obtain ⟨s, hs⟩ : ∃ s, s = riseF L p l b 1152921504606846976 := ⟨_, rfl⟩
    obtain ⟨r1, r2, r3⟩ := riseF_prop (L := L) (p := p) (l := l) b 1152921504606846976
    rw [← hs] at r1 r2 r3
    have ndl : l.Nodup := h2.cr.ll.imp fun h => by omega
    obtain ⟨q1, q2⟩ := raiseF_get s l p ndl h2.cr.rl
    have s1 : 1 ≤ s := r3 1 (by omega) fun x hx => by
      obtain ⟨i, rfl, h3, h4⟩ := h2.cr.mem x hx
      unfold letsH
      rw [show ((i : Int).toNat) = i by simp]
      have := h3.2
      refine ⟨by omega, fun t t1 t2 t3 => ?_⟩
      have ub := gainF_ub (row := L.getD i []) (prices := p) t1 t2
      have : ¬ (L.getD i []).getD t 0 - p.getD t 0 = gainF (L.getD i []) p := fun q => t3 (h4 t (mem_wants.2 ⟨t1, t2, q⟩))
      omega
    have le2 : ∀ r : List Int, r.length = p.length → nonNeg r → FreeP L r → LeP (raiseF p s l) r := fun r hr hn hf j hj => by
      rw [q1] at hj
      rw [q2]
      split
      · rename_i hjl
        exact step_le ok hp.nn h2 hr (hlow r hr hn hf) hf r2 j hjl
      · have := hlow r hr hn hf j hj
        omega
    have ltop := le2 (List.replicate p.length 1000000000) (by simp) (fun x hx => by rw [(List.mem_replicate.1 hx).2]; omega) (free_top ok)
    obtain ⟨j, hj⟩ : ∃ j, j ∈ l := by
      obtain ⟨x, hx⟩ : ∃ x, x ∈ b := List.exists_mem_of_length_pos (by rw [h2.cr.len]; omega)
      obtain ⟨i, _, h3, h4⟩ := h2.cr.mem x hx
      obtain ⟨j, hj⟩ := wants_ne h3.2
      exact ⟨j, h4 j hj⟩
    refine ⟨raiseF p s l, by rw [hs], q1, okW_of fun k hk => ?_, fun k hk => ?_, ⟨j, h2.cr.rl j hj, ?_⟩, le2⟩
    · have h3 := ltop k hk
      rw [q1] at hk
      have e : (List.replicate p.length (1000000000 : Int)).getD k 0 = 1000000000 := by simp [hk]
      rw [e] at h3
      refine ⟨?_, h3⟩
      rw [q2]
      have := (hp.getD k).1
      split <;> omega
    · rw [q2]
      split <;> omega
    · rw [q2, if_pos hj]
      omega
theorem sum_le : ∀ {p q : List Int}, p.length = q.length → LeP p q → p.sum ≤ q.sum ∧ ((∃ j, j < p.length ∧ p.getD j 0 < q.getD j 0) → p.sum < q.sum)
  | [], [], _, _ => ⟨by simp, by rintro ⟨j, h, _⟩; simp at h⟩
  | [], _ :: _, h, _ => by simp at h
  | _ :: _, [], h, _ => by simp at h
  | x :: p, y :: q, h, hl => by
    obtain ⟨i1, i2⟩ := sum_le (p := p) (q := q) (by simpa using h) fun j hj => by
      have := hl (j + 1) (by simpa using hj)
      simpa using this
    have h0 := hl 0 (by simp)
    simp only [List.getD_cons_zero] at h0
    refine ⟨by simp only [List.sum_cons]; omega, ?_⟩
    rintro ⟨j, h1, h2⟩
    simp only [List.sum_cons]
    cases j with
    | zero => simp only [List.getD_cons_zero] at h2; omega
    | succ j =>
      have := i2 ⟨j, by simpa using h1, by simpa using h2⟩
      omega
theorem sum_top {p : List Int} (h : okW p) : p.sum ≤ 1000000000 * p.length := by
  induction p with
  | nil => simp
  | cons x p ih =>
    have h1 := (h x List.mem_cons_self).2
    have h2 := ih fun y hy => h y (List.mem_cons_of_mem _ hy)
    simp only [List.sum_cons, List.length_cons]
    omega
/-- The least prices at which nobody is crowded out. -/
structure LeastP (L : List (List Int)) (n : Nat) (p : List Int) : Prop where
  len : p.length = n
  ok : okW p
  free : FreeP L p
  least : ∀ r : List Int, r.length = n → nonNeg r → FreeP L r → LeP p r
theorem least_from {L : List (List Int)} {n : Nat} (ok : OkH L n) : ∀ (k : Nat) (p : List Int), p.length = n → okW p → (1000000000 * n - p.sum).toNat ≤ k → (∀ r : List Int, r.length = n → nonNeg r → FreeP L r → LeP p r) → ∃ f q, leastF L f p = some q ∧ LeastP L n q
  | k, p, hl, hp, hk, hlow => by
    subst hl
    rcases climb_spec ok hp hlow with ⟨h1, h2⟩ | ⟨q, h1, h2, h3, h4, h5, h6⟩
    · exact ⟨1, p, by rw [leastF, h1], rfl, hp, h2, hlow⟩
    · have sl := (sum_le h2.symm h4).2 h5
      have st := sum_top h3
      rw [h2] at st
      match k with
      | 0 => omega
      | k + 1 =>
        obtain ⟨f, q', f1, f2⟩ := least_from ok k q h2 h3 (by omega) h6
        refine ⟨f + 1, q', ?_, f2⟩
        rw [leastF, h1]
        simp only
        rw [if_pos, f1]
        rw [List.all_eq_true]
        intro x hx
        have := h3 x hx
        simp only [Bool.and_eq_true, decide_eq_true_eq]
        exact this
theorem least_ex {L : List (List Int)} {n : Nat} (ok : OkH L n) : ∃ f q, leastF L f (List.replicate n 0) = some q ∧ LeastP L n q := by
  refine least_from ok _ _ (by simp) (fun x hx => by rw [(List.mem_replicate.1 hx).2]; omega) (Nat.le_refl _) fun r hr hn _ j hj => ?_
  rw [List.length_replicate] at hj
  have e : (List.replicate n (0 : Int)).getD j 0 = 0 := by simp [hj]
  rw [e]
  exact hn.getD j
end Go.Proofs.YtojednnciknhpaaDoor
namespace Go.Proofs.YtojednnciknhpaaDoor
set_option linter.unusedSimpArgs false
set_option linter.unusedVariables false
open Go.RowKit
/-- Hall: all can be given one, or some are too many. -/
theorem hall_or {R : Nat → Nat → Prop} {P : Nat → Prop} (nx n : Nat) (hP : ∀ x, P x → x < nx) (hR : ∀ x j, R x j → j < n) : Sat R P ∨ Short R P n := by
  classical
  obtain ⟨wants, hw⟩ : ∃ wants : List (List Nat), wants = (List.range nx).map fun x => (List.range n).filter fun j => decide (R x j) := ⟨_, rfl⟩
  have hl : wants.length = nx := by rw [hw]; simp
  have hwr : ∀ x, x < nx → ∀ j, WR wants (noB n) x j ↔ R x j := fun x hx j => by
    unfold WR
    have e : wants.getD x [] = (List.range n).filter fun j => decide (R x j) := by rw [hw]; simp [hx]
    rw [e, List.mem_filter]
    simp only [List.mem_range, decide_eq_true_eq, noB_get]
    exact ⟨fun h => h.1.2, fun h => ⟨⟨hR x j h, h⟩, trivial⟩⟩
  have wok : wOk wants n := fun r hr j hj => by
    rw [hw] at hr
    obtain ⟨x, _, rfl⟩ := List.mem_map.1 hr
    simpa using (List.mem_filter.1 hj).1
  have hPx : ∀ x, (x ∈ List.range nx ∧ decide (¬ P x) = false) ↔ P x := fun x => by
    simp only [List.mem_range, decide_eq_false_iff_not, Classical.not_not]
    exact ⟨fun h => h.2, fun h => ⟨hP x h, h⟩⟩
  by_cases h : allF wants (noB n) n (fun x => decide (¬ P x)) (List.range nx) ⟨List.replicate wants.length (-1), List.replicate n (-1), []⟩ = true
  · left
    exact (allF_sat wok List.nodup_range (fun i hi => by rw [hl]; simpa using hi) h).congr (fun x hx => (hPx x).2 hx) fun x j hx hr => (hwr x (hP x hx) j).1 hr
  · right
    obtain ⟨x0, T, g, h1, h2, h3, h4, h5, h6, h7⟩ := allF_short wok List.nodup_range (fun i hi => by rw [hl]; simpa using hi) h
    have p0 := (hPx x0).1 h1
    have pT : ∀ t ∈ T, P (g t) := fun t ht => (hPx _).1 (h4 t ht).1
    exact ⟨x0, T, g, p0, h2, h3, fun t ht => ⟨pT t ht, (h4 t ht).2.1, (hwr _ (hP _ (pT t ht)) t).1 (h4 t ht).2.2⟩, h5, fun j hj => h6 j ((hwr x0 (hP x0 p0) j).2 hj), fun t ht j hj => h7 t ht j ((hwr _ (hP _ (pT t ht)) j).2 hj)⟩
/-- Pairs. -/
structure Pairs (R : Nat → Nat → Prop) (A : Nat → Prop) (s : Nat → Option Nat) : Prop where
  edge : ∀ i j, s i = some j → R i j
  inj : ∀ i k j, s i = some j → s k = some j → i = k
  cov : ∀ i, A i → ∃ j, s i = some j
/-- Two matchings joined (Mendelsohn and Dulmage). -/
theorem joined {R : Nat → Nat → Prop} {A B : Nat → Prop} (N : Nat) (hN : ∀ i j, R i j → i < N) (hA : Sat R A) (hB : Sat (fun j i => R i j) B) : ∃ s, Pairs R A s ∧ ∀ j, B j → ∃ i, s i = some j := by
  classical
  obtain ⟨f, f1, f2⟩ := hA
  obtain ⟨g, g1, g2⟩ := hB
  have key : ∀ (k : Nat) (s : Nat → Option Nat), Pairs R A s → N - ((List.range N).filter fun i => decide (∃ j, B j ∧ g j = i ∧ s i = some j)).length ≤ k → ∃ s, Pairs R A s ∧ ∀ j, B j → ∃ i, s i = some j := by
    intro k
    induction k with
    | zero =>
      intro s hs hk
      refine ⟨s, hs, fun j hj => Classical.byContradiction fun hc => ?_⟩
      have hle := nodup_len (B := (List.range N).erase (g j)) (List.Pairwise.sublist (List.filter_sublist (p := fun i => decide (∃ j, B j ∧ g j = i ∧ s i = some j))) List.nodup_range) fun x hx => by
        obtain ⟨h1, h2⟩ := List.mem_filter.1 hx
        refine (List.mem_erase_of_ne fun q => ?_).2 h1
        obtain ⟨j', b1, b2, b3⟩ := of_decide_eq_true h2
        have := g2 j' j b1 hj (by rw [b2, q])
        rw [this] at b3
        exact hc ⟨x, b3⟩
      have hm := hN _ _ (g1 j hj)
      rw [List.length_erase_of_mem (List.mem_range.2 hm), List.length_range] at hle
      omega
    | succ k ih =>
      intro s hs hk
      by_cases hc : ∀ j, B j → ∃ i, s i = some j
      · exact ⟨s, hs, hc⟩
      · obtain ⟨j, hj⟩ := Classical.not_forall.1 hc
        obtain ⟨bj, hj⟩ := Classical.not_imp.1 hj
        have hm := hN _ _ (g1 j bj)
        refine ih (fun i => if i = g j then some j else s i) ⟨fun i j' h => ?_, fun i k' j' h1 h2 => ?_, fun i hi => ?_⟩ ?_
        · try simp only at h
          split at h
          · rename_i q
            injection h with h
            subst h q
            exact g1 j bj
          · exact hs.edge i j' h
        · try simp only at h1 h2
          split at h1 <;> split at h2
          · rename_i a b; rw [a, b]
          · injection h1 with h1
            subst h1
            exact absurd ⟨_, h2⟩ hj
          · injection h2 with h2
            subst h2
            exact absurd ⟨_, h1⟩ hj
          · exact hs.inj i k' j' h1 h2
        · try simp only
          split
          · exact ⟨j, rfl⟩
          · exact hs.cov i hi
        · have hle := nodup_len (A := g j :: (List.range N).filter fun i => decide (∃ j, B j ∧ g j = i ∧ s i = some j)) (B := (List.range N).filter fun i => decide (∃ j', B j' ∧ g j' = i ∧ (if i = g j then some j else s i) = some j'))
            (List.nodup_cons.2 ⟨fun q => by
              obtain ⟨j', b1, b2, b3⟩ := of_decide_eq_true (List.mem_filter.1 q).2
              have := g2 j' j b1 bj b2
              rw [this] at b3
              exact hj ⟨_, b3⟩, List.Pairwise.sublist List.filter_sublist List.nodup_range⟩) fun x hx => by
            rcases List.mem_cons.1 hx with rfl | hx
            · exact List.mem_filter.2 ⟨List.mem_range.2 hm, decide_eq_true ⟨j, bj, rfl, by simp⟩⟩
            · obtain ⟨h1, h2⟩ := List.mem_filter.1 hx
              obtain ⟨j', b1, b2, b3⟩ := of_decide_eq_true h2
              refine List.mem_filter.2 ⟨h1, decide_eq_true ⟨j', b1, b2, ?_⟩⟩
              split
              · rename_i q
                have := g2 j' j b1 bj (by rw [b2, q])
                rw [this]
              · exact b3
          simp only [List.length_cons] at hle
          omega
  refine key _ (fun i => if A i then some (f i) else none) ⟨fun i j h => ?_, fun i k j h1 h2 => ?_, fun i hi => ?_⟩ (Nat.le_refl _)
  · try simp only at h
    split at h
    · rename_i q
      injection h with h
      subst h
      exact f1 i q
    · cases h
  · try simp only at h1 h2
    split at h1
    · split at h2
      · rename_i a b
        injection h1 with h1
        injection h2 with h2
        exact f2 i k a b (by rw [h1, h2])
      · cases h2
    · cases h1
  · exact ⟨f i, by simp only [if_pos hi]⟩
/-! ### balances -/
/-- A buyer is content with a lot or with none. -/
def Cont (L : List (List Int)) (p : List Int) (i : Nat) (x : Int) : Prop := x = -1 ∧ gainF (L.getD i []) p = 0 ∨ ∃ j : Nat, x = (j : Int) ∧ Dem L p i j
structure BalL (L : List (List Int)) (p : List Int) (s : List Int) : Prop where
  len : s.length = L.length
  cont : ∀ i, i < L.length → Cont L p i (s.getD i (-1))
  inj : ∀ i k, i < L.length → k < L.length → s.getD i (-1) = s.getD k (-1) → 0 ≤ s.getD i (-1) → i = k
  sold : ∀ j, j < p.length → 0 < p.getD j 0 → (j : Int) ∈ s
/-- A beginning that fits. -/
structure PreL (L : List (List Int)) (p : List Int) (t : List Int) : Prop where
  len : t.length ≤ L.length
  cont : ∀ i, i < t.length → Cont L p i (t.getD i (-1))
  inj : ∀ i k, i < t.length → k < t.length → t.getD i (-1) = t.getD k (-1) → 0 ≤ t.getD i (-1) → i = k
def ExtL (L : List (List Int)) (p : List Int) (t : List Int) : Prop := ∃ s, BalL L p s ∧ s.take t.length = t
theorem dem_lt {L : List (List Int)} {p : List Int} {i j : Nat} (h : Dem L p i j) : j < p.length := (mem_wants.1 h).2.1
theorem dem_row {L : List (List Int)} {p : List Int} {i j : Nat} (h : Dem L p i j) : i < L.length := by
  refine Decidable.byContradiction fun q => ?_
  have e : L.getD i [] = [] := getD_none (by omega)
  have := (mem_wants.1 h).1
  rw [e] at this
  simp at this
theorem getD_take {α : Type} {l : List α} {k i : Nat} {d : α} (h : i < k) : (l.take k).getD i d = l.getD i d := by
  rw [List.getD_eq_getElem?_getD, List.getElem?_take, if_pos h, List.getD_eq_getElem?_getD]
theorem mem_getD {s : List Int} {x : Int} (h : x ∈ s) : ∃ i, i < s.length ∧ s.getD i (-1) = x := by
  obtain ⟨i, hi, rfl⟩ := List.getElem_of_mem h
  exact ⟨i, hi, by simp [hi]⟩
theorem getD_mem {s : List Int} {i : Nat} (h : i < s.length) : s.getD i (-1) ∈ s := by
  have e : s.getD i (-1) = s[i] := by simp [h]
  rw [e]
  exact List.getElem_mem h
/-- What is left to be paired behind a beginning. -/
def RestR (L : List (List Int)) (p t : List Int) (i j : Nat) : Prop := t.length ≤ i ∧ Dem L p i j ∧ (j : Int) ∉ t
theorem must_get (L : List (List Int)) (p : List Int) (k i : Nat) : (mustF L p k).getD i [] = if k ≤ i ∧ 0 < gainF (L.getD i []) p ∧ i < L.length then wantsF (L.getD i []) p else [] := by
  unfold mustF
  by_cases h : i < L.length
  · simp only [List.getD_eq_getElem?_getD, List.getElem?_map, List.getElem?_range h, Option.map_some, Option.getD_some]
    by_cases hk : i < k
    · rw [if_pos hk, if_neg (by omega)]
    · rw [if_neg hk]
      split
      · rename_i q
        rw [if_pos ⟨by omega, q, h⟩]
      · rename_i q
        rw [if_neg (fun c => q c.2.1)]
  · rw [if_neg (fun c => h c.2.2)]
    exact getD_none (by simp; omega)
theorem takenF_iff {n : Nat} {t : List Int} {j : Nat} (h : j < n) : (takenF n t).getD j false = false ↔ (j : Int) ∉ t := by
  rw [takenF_get h]
  simp
theorem byLot_get {L : List (List Int)} {p t : List Int} {j i : Nat} (hj : j < p.length) (h : (j : Int) ∉ t) : i ∈ (byLotF L p t).getD j [] ↔ RestR L p t i j := by
  have e : (byLotF L p t).getD j [] = (List.range L.length).filter fun i => ((restF L p t.length).getD i []).contains j := by
    unfold byLotF
    simp only [List.getD_eq_getElem?_getD, List.getElem?_map, List.getElem?_range hj, Option.map_some, Option.getD_some]
    have := (takenF_iff (t := t) hj).2 h
    rw [List.getD_eq_getElem?_getD] at this
    rw [if_neg (by rw [this]; simp)]
  rw [e, List.mem_filter]
  unfold RestR
  constructor
  · rintro ⟨h1, h2⟩
    have hi : i < L.length := by simpa using h1
    have e2 : (restF L p t.length).getD i [] = if i < t.length then [] else wantsF (L.getD i []) p := by simp [restF, hi]
    rw [e2] at h2
    split at h2
    · simp at h2
    · exact ⟨by omega, List.contains_iff_mem.1 h2, h⟩
  · rintro ⟨h1, h2, _⟩
    have hi := dem_row h2
    have e2 : (restF L p t.length).getD i [] = if i < t.length then [] else wantsF (L.getD i []) p := by simp [restF, hi]
    rw [e2, if_neg (by omega)]
    exact ⟨by simpa using hi, List.contains_iff_mem.2 h2⟩
theorem balancedF_iff {L : List (List Int)} {p t : List Int} (ok : OkH L p.length) : balancedF L p t = true ↔ Sat (RestR L p t) (fun i => t.length ≤ i ∧ Eager L p i) ∧ Sat (fun j i => RestR L p t i j) (fun j => j < p.length ∧ 0 < p.getD j 0 ∧ (j : Int) ∉ t) := by
  unfold balancedF
  rw [Bool.and_eq_true]
  have hm := mustF_len L p t.length
  have hb := byLotF_len L p t
  have A1 := allF_iff (wants := mustF L p t.length) (bar := takenF p.length t) (n := p.length) (skip := fun i => decide ((mustF L p t.length).getD i [] = [])) (fun r hr j hj => (mustF_ok ok t.length r hr).2 j hj) (is := List.range L.length) List.nodup_range (fun i hi => by rw [hm]; simpa using hi) (sn := [])
  have A2 := allF_iff (wants := byLotF L p t) (bar := noB L.length) (n := L.length) (skip := fun j => (takenF p.length t).getD j false || decide (p.getD j 0 ≤ 0)) (fun r hr j hj => (byLotF_ok ok r hr).2 j hj) (is := List.range p.length) List.nodup_range (fun i hi => by rw [hb]; simpa using hi) (sn := [])
  rw [hm] at A1
  rw [hb] at A2
  rw [A1, A2]
  have P1 : ∀ x, (x ∈ List.range L.length ∧ decide ((mustF L p t.length).getD x [] = []) = false) ↔ t.length ≤ x ∧ Eager L p x := fun x => by
    rw [must_get, decide_eq_false_iff_not]
    constructor
    · rintro ⟨h1, h2⟩
      split at h2
      · rename_i q
        exact ⟨q.1, q.2.2, q.2.1⟩
      · exact absurd rfl h2
    · rintro ⟨h1, h2, h3⟩
      refine ⟨by simpa using h2, ?_⟩
      rw [if_pos ⟨h1, h3, h2⟩]
      obtain ⟨j, hj⟩ := wants_ne h3
      exact List.ne_nil_of_mem hj
  have R1 : ∀ x j, t.length ≤ x ∧ Eager L p x → (WR (mustF L p t.length) (takenF p.length t) x j ↔ RestR L p t x j) := fun x j hx => by
    unfold WR RestR
    rw [must_get, if_pos ⟨hx.1, hx.2.2, hx.2.1⟩]
    constructor
    · rintro ⟨h1, h2⟩
      exact ⟨hx.1, h1, (takenF_iff (mem_wants.1 h1).2.1).1 h2⟩
    · rintro ⟨_, h1, h2⟩
      exact ⟨h1, (takenF_iff (mem_wants.1 h1).2.1).2 h2⟩
  have P2 : ∀ j, (j ∈ List.range p.length ∧ ((takenF p.length t).getD j false || decide (p.getD j 0 ≤ 0)) = false) ↔ j < p.length ∧ 0 < p.getD j 0 ∧ (j : Int) ∉ t := fun j => by
    rw [List.mem_range, Bool.or_eq_false_iff, decide_eq_false_iff_not]
    constructor
    · rintro ⟨h1, h2, h3⟩
      exact ⟨h1, by omega, (takenF_iff h1).1 h2⟩
    · rintro ⟨h1, h2, h3⟩
      exact ⟨h1, (takenF_iff h1).2 h3, by omega⟩
  have R2 : ∀ j i, j < p.length ∧ 0 < p.getD j 0 ∧ (j : Int) ∉ t → (WR (byLotF L p t) (noB L.length) j i ↔ RestR L p t i j) := fun j i hj => by
    unfold WR
    rw [byLot_get hj.1 hj.2.2, noB_get]
    simp
  constructor
  · rintro ⟨h1, h2⟩
    exact ⟨h1.congr (fun x hx => (P1 x).2 hx) fun x j hx h => (R1 x j hx).1 h, h2.congr (fun x hx => (P2 x).2 hx) fun x j hx h => (R2 x j hx).1 h⟩
  · rintro ⟨h1, h2⟩
    exact ⟨h1.congr (fun x hx => (P1 x).1 hx) fun x j hx h => (R1 x j ((P1 x).1 hx)).2 h, h2.congr (fun x hx => (P2 x).1 hx) fun x j hx h => (R2 x j ((P2 x).1 hx)).2 h⟩
def optN : Option Nat → Int
  | none => -1
  | some j => (j : Int)
theorem optN_none : optN none = -1 := rfl
theorem optN_some (j : Nat) : optN (some j) = (j : Int) := rfl
/-- A beginning can be completed as soon as the two matchings are there. -/
theorem ext_of_balanced {L : List (List Int)} {p t : List Int} (ok : OkH L p.length) (ht : PreL L p t) (h : balancedF L p t = true) : ExtL L p t := by
  obtain ⟨h1, h2⟩ := (balancedF_iff ok).1 h
  obtain ⟨s, hs, hsold⟩ := joined L.length (fun i j h => dem_row h.2.1) h1 h2
  obtain ⟨S, hS⟩ : ∃ S, S = (List.range L.length).map fun i => if i < t.length then t.getD i (-1) else optN (s i) := ⟨_, rfl⟩
  have hl : S.length = L.length := by rw [hS]; simp
  have hg : ∀ i, i < L.length → S.getD i (-1) = if i < t.length then t.getD i (-1) else optN (s i) := fun i hi => by rw [hS]; simp [hi]
  have htk : S.take t.length = t := by
    apply List.ext_getElem
    · rw [List.length_take, hl]; have := ht.len; omega
    · intro i i1 i2
      have := hg i (by have := ht.len; omega)
      rw [if_pos i2] at this
      rw [List.getElem_take]
      have e1 : S.getD i (-1) = S[i]'(by rw [hl]; have := ht.len; omega) := by simp [show i < S.length by rw [hl]; have := ht.len; omega]
      have e2 : t.getD i (-1) = t[i] := by simp [i2]
      rw [← e1, this, e2]
  refine ⟨S, ⟨hl, fun i hi => ?_, fun i k hi hk he h0 => ?_, fun j hj hp => ?_⟩, htk⟩
  · rw [hg i hi]
    split
    · rename_i q; exact ht.cont i q
    · rename_i q
      cases e : s i with
      | none =>
        left
        refine ⟨rfl, ?_⟩
        have := gainF_nonneg (L.getD i []) p
        refine Decidable.byContradiction fun c => ?_
        obtain ⟨j, hj⟩ := hs.cov i ⟨by omega, hi, by omega⟩
        rw [e] at hj; cases hj
      | some j => exact .inr ⟨j, rfl, (hs.edge i j e).2.1⟩
  · rw [hg i hi] at he h0
    rw [hg k hk] at he
    have aux : ∀ a b, a < t.length → ¬ b < t.length → t.getD a (-1) = optN (s b) → 0 ≤ t.getD a (-1) → False := fun a b ha hb he h0 => by
      cases e : s b with
      | none => rw [e, optN_none] at he; omega
      | some j =>
        rw [e] at he
        exact (hs.edge b j e).2.2 (by rw [show ((j : Nat) : Int) = t.getD a (-1) from he.symm]; exact getD_mem ha)
    by_cases q1 : i < t.length
    · by_cases q2 : k < t.length
      · rw [if_pos q1] at he h0
        rw [if_pos q2] at he
        exact ht.inj i k q1 q2 he h0
      · rw [if_pos q1] at he h0
        rw [if_neg q2] at he
        exact (aux i k q1 q2 he h0).elim
    · by_cases q2 : k < t.length
      · rw [if_neg q1] at he h0
        rw [if_pos q2] at he
        exact (aux k i q2 q1 he.symm (by omega)).elim
      · rw [if_neg q1] at he h0
        rw [if_neg q2] at he
        cases e1 : s i with
        | none => rw [e1, optN_none] at h0; omega
        | some j =>
          cases e2 : s k with
          | none => rw [e1, e2, optN_none] at he; rw [e1, optN_some] at h0; rw [optN_some] at he; omega
          | some j2 =>
            rw [e1, e2, optN_some, optN_some] at he
            have : j = j2 := by omega
            subst this
            exact hs.inj i k j e1 e2
  · by_cases q : (j : Int) ∈ t
    · rw [← htk] at q
      exact List.mem_of_mem_take q
    · obtain ⟨i, hi⟩ := hsold j ⟨hj, hp, q⟩
      obtain ⟨r1, r2, _⟩ := hs.edge i j hi
      have hil := dem_row r2
      have := hg i hil
      rw [if_neg (by omega), hi] at this
      rw [show ((j : Nat) : Int) = S.getD i (-1) from this.symm]
      exact getD_mem (by rw [hl]; exact hil)
theorem balanced_of_ext {L : List (List Int)} {p t : List Int} (ok : OkH L p.length) (h : ExtL L p t) : balancedF L p t = true := by
  obtain ⟨s, hb, ht⟩ := h
  have tl : t.length ≤ s.length := by
    have := congrArg List.length ht
    rw [List.length_take] at this
    omega
  have hsl := hb.len
  have tg : ∀ i, i < t.length → t.getD i (-1) = s.getD i (-1) := fun i hi => by
    have : (s.take t.length).getD i (-1) = t.getD i (-1) := by rw [ht]
    rw [← this, getD_take hi]
  have notin : ∀ i, t.length ≤ i → i < L.length → 0 ≤ s.getD i (-1) → s.getD i (-1) ∉ t := fun i h1 h2 h3 h4 => by
    obtain ⟨k, k1, k2⟩ := mem_getD h4
    rw [tg k k1] at k2
    have := hb.inj k i (by omega) h2 k2 (by omega)
    omega
  rw [balancedF_iff ok]
  constructor
  · refine ⟨fun i => (s.getD i (-1)).toNat, fun i hi => ?_, fun i k hi hk he => ?_⟩
    · rcases hb.cont i hi.2.1 with ⟨_, h2⟩ | ⟨j, h1, h2⟩
      · have := hi.2.2; omega
      · have e : (s.getD i (-1)).toNat = j := by omega
        simp only [e]
        refine ⟨hi.1, h2, ?_⟩
        rw [← h1]
        exact notin i hi.1 hi.2.1 (by omega)
    · have nn : ∀ i, Eager L p i → 0 ≤ s.getD i (-1) := fun i hi => by
        rcases hb.cont i hi.1 with ⟨_, h2⟩ | ⟨j, h1, h2⟩
        · have := hi.2; omega
        · omega
      have n1 := nn i hi.2
      have n2 := nn k hk.2
      try simp only at he
      exact hb.inj i k hi.2.1 hk.2.1 (by omega) n1
  · have ex : ∀ j, j < p.length ∧ 0 < p.getD j 0 ∧ (j : Int) ∉ t → ∃ i, i < L.length ∧ s.getD i (-1) = (j : Int) := fun j hj => by
      obtain ⟨i, h1, h2⟩ := mem_getD (hb.sold j hj.1 hj.2.1)
      exact ⟨i, by omega, h2⟩
    refine ⟨fun j => Classical.epsilon fun i => i < L.length ∧ s.getD i (-1) = (j : Int), fun j hj => ?_, fun j k hj hk he => ?_⟩
    · have hsp := Classical.epsilon_spec (ex j hj)
      try simp only
      obtain ⟨i, hi⟩ : ∃ i, i = Classical.epsilon fun i => i < L.length ∧ s.getD i (-1) = (j : Int) := ⟨_, rfl⟩
      rw [← hi] at hsp ⊢
      refine ⟨Decidable.byContradiction fun q => ?_, ?_, hj.2.2⟩
      · exact hj.2.2 (by rw [← hsp.2, ← tg i (by omega)]; exact getD_mem (by omega))
      · rcases hb.cont i hsp.1 with ⟨h1, _⟩ | ⟨j2, h1, h2⟩
        · have := hsp.2; omega
        · have : j = j2 := by have := hsp.2; omega
          subst this
          exact h2
    · have h1 := Classical.epsilon_spec (ex j hj)
      have h2 := Classical.epsilon_spec (ex k hk)
      try simp only at he
      rw [he, h2.2] at h1
      omega
end Go.Proofs.YtojednnciknhpaaDoor
namespace Go.Proofs.YtojednnciknhpaaDoor
set_option linter.unusedSimpArgs false
set_option linter.unusedVariables false
open Go.RowKit
theorem gain_lower {row p : List Int} {J : List Nat} {r : List Int} (hl : row.length = p.length) (hr : r.length = p.length) (hr2 : ∀ j, j < p.length → r.getD j 0 = if j ∈ J then p.getD j 0 - 1 else p.getD j 0) :
    (∀ j, j ∈ J → j ∈ wantsF row p → gainF row r = gainF row p + 1 ∧ ∀ k, k ∈ J → k ∈ wantsF row p → k ∈ wantsF row r) ∧ ((∀ j, j ∈ J → j ∉ wantsF row p) → gainF row r = gainF row p ∧ ∀ k, k ∈ wantsF row p → k ∈ wantsF row r) := by
  constructor
  · intro j hj hw
    obtain ⟨w1, w2, w3⟩ := mem_wants.1 hw
    have hge : gainF row p + 1 ≤ gainF row r := by
      have := gainF_ub (prices := r) w1 (by rw [hr]; exact w2)
      rw [hr2 j w2, if_pos hj] at this
      omega
    have hle : gainF row r ≤ gainF row p + 1 := gainF_le (by have := gainF_nonneg row p; omega) fun k h1 h2 => by
      rw [hr] at h2
      have := gainF_ub (prices := p) h1 h2
      rw [hr2 k h2]
      split <;> omega
    refine ⟨by omega, fun k hk hkw => ?_⟩
    obtain ⟨v1, v2, v3⟩ := mem_wants.1 hkw
    refine mem_wants.2 ⟨v1, by rw [hr]; exact v2, ?_⟩
    rw [hr2 k v2, if_pos hk]
    omega
  · intro hno
    have ub : ∀ k, k < row.length → k < p.length → row.getD k 0 - r.getD k 0 ≤ gainF row p := fun k h1 h2 => by
      have := gainF_ub (prices := p) h1 h2
      rw [hr2 k h2]
      split
      · rename_i q
        have : ¬ row.getD k 0 - p.getD k 0 = gainF row p := fun c => hno k q (mem_wants.2 ⟨h1, h2, c⟩)
        omega
      · omega
    have hle : gainF row r ≤ gainF row p := gainF_le (gainF_nonneg row p) fun k h1 h2 => ub k h1 (by rw [← hr]; exact h2)
    have hge : gainF row p ≤ gainF row r := by
      rcases gainH_cases row p 0 with q | ⟨j, h1, h2, h3⟩
      · have : gainF row p = 0 := q
        have := gainF_nonneg row r
        omega
      · have hw : j ∈ wantsF row p := mem_wants.2 ⟨h1, h2, h3⟩
        have := gainF_ub (prices := r) h1 (by rw [hr]; exact h2)
        rw [hr2 j h2, if_neg (fun c => hno j c hw)] at this
        have e : gainF row p = gainH row p 0 := rfl
        omega
    refine ⟨by omega, fun k hk => ?_⟩
    obtain ⟨v1, v2, v3⟩ := mem_wants.1 hk
    refine mem_wants.2 ⟨v1, by rw [hr]; exact v2, ?_⟩
    rw [hr2 k v2, if_neg (fun c => hno k c hk)]
    omega
/-- Least prices cannot be lowered: no lots with prices whose friends can all have one of them. -/
theorem LeastP.lower {L : List (List Int)} {n : Nat} {p : List Int} (ok : OkH L n) (h : LeastP L n p) {J : List Nat} {j0 : Nat} (h0 : j0 ∈ J) (hJ : ∀ j ∈ J, j < n ∧ 0 < p.getD j 0) (v : Nat → Nat) (hv : ∀ i j, j ∈ J → Dem L p i j → v i ∈ J ∧ Dem L p i (v i)) (hinj : ∀ i k, (∃ j ∈ J, Dem L p i j) → (∃ j ∈ J, Dem L p k j) → v i = v k → i = k) : False := by
  classical
  have hl := h.len
  obtain ⟨r, hr⟩ : ∃ r : List Int, r = (List.range n).map fun j => if j ∈ J then p.getD j 0 - 1 else p.getD j 0 := ⟨_, rfl⟩
  have r1 : r.length = p.length := by rw [hr, hl]; simp
  have r2 : ∀ j, j < p.length → r.getD j 0 = if j ∈ J then p.getD j 0 - 1 else p.getD j 0 := fun j hj => by rw [hr]; rw [hl] at hj; simp [hj]
  have rn : nonNeg r := fun x hx => by
    rw [hr] at hx
    obtain ⟨j, hj, rfl⟩ := List.mem_map.1 hx
    split
    · rename_i q; have := (hJ j q).2; omega
    · exact (h.ok.getD j).1
  have row : ∀ i, i < L.length → (L.getD i []).length = p.length := fun i hi => by rw [hl]; exact row_len ok hi
  obtain ⟨f, f1, f2⟩ := h.free
  have free : FreeP L r := by
    refine ⟨fun i => if ∃ j ∈ J, Dem L p i j then v i else f i, fun i hi => ?_, fun i k hi hk he => ?_⟩
    · try simp only
      have gl := gain_lower (J := J) (row i hi.1) r1 r2
      split
      · rename_i q
        obtain ⟨j, q1, q2⟩ := q
        obtain ⟨a1, a2⟩ := hv i j q1 q2
        exact (gl.1 j q1 q2).2 _ a1 a2
      · rename_i q
        obtain ⟨g1, g2⟩ := gl.2 fun j hj hd => q ⟨j, hj, hd⟩
        exact g2 _ (f1 i ⟨hi.1, by have := hi.2; omega⟩)
    · have ea : ∀ i, Eager L r i → (¬ ∃ j ∈ J, Dem L p i j) → Eager L p i := fun i hi q => by
        obtain ⟨g1, _⟩ := (gain_lower (J := J) (row i hi.1) r1 r2).2 fun j hj hd => q ⟨j, hj, hd⟩
        exact ⟨hi.1, by have := hi.2; omega⟩
      try simp only at he
      split at he
      · rename_i q1
        split at he
        · rename_i q2
          exact hinj i k q1 q2 he
        · rename_i q2
          obtain ⟨j, a1, a2⟩ := q1
          exact absurd ⟨v i, (hv i j a1 a2).1, by rw [he]; exact f1 k (ea k hk q2)⟩ q2
      · rename_i q1
        split at he
        · rename_i q2
          obtain ⟨j, a1, a2⟩ := q2
          exact absurd ⟨v k, (hv k j a1 a2).1, by rw [← he]; exact f1 i (ea i hi q1)⟩ q1
        · rename_i q2
          exact f2 i k (ea i hi q1) (ea k hk q2) he
  have := h.least r (by rw [r1, hl]) rn free j0 (by rw [hl]; exact (hJ j0 h0).1)
  rw [r2 j0 (by rw [hl]; exact (hJ j0 h0).1), if_pos h0] at this
  omega
/-- Every lot with a price can be sold to a buyer that wants it. -/
theorem LeastP.cover {L : List (List Int)} {n : Nat} {p : List Int} (ok : OkH L n) (h : LeastP L n p) : Sat (fun j i => Dem L p i j) (fun j => j < n ∧ 0 < p.getD j 0) := by
  rcases hall_or (R := fun j i => Dem L p i j) (P := fun j => j < n ∧ 0 < p.getD j 0) n L.length (fun x hx => hx.1) (fun x j hx => dem_row hx) with hs | ⟨x0, T, g, p0, nd, hT, hg, hinj, c0, cT⟩
  · exact hs
  · exfalso
    refine h.lower ok (J := x0 :: T.map g) List.mem_cons_self (fun j hj => ?_) g (fun i j hj hd => ?_) fun i k hi hk he => ?_
    · rcases List.mem_cons.1 hj with rfl | hj
      · exact p0
      · obtain ⟨t, ht, rfl⟩ := List.mem_map.1 hj
        exact (hg t ht).1
    · have hit : i ∈ T := by
        rcases List.mem_cons.1 hj with rfl | hj
        · exact c0 i hd
        · obtain ⟨t, ht, rfl⟩ := List.mem_map.1 hj
          exact cT t ht i hd
      exact ⟨List.mem_cons_of_mem _ (List.mem_map.2 ⟨i, hit, rfl⟩), (hg i hit).2.2⟩
    · have inT : ∀ i, (∃ j ∈ x0 :: T.map g, Dem L p i j) → i ∈ T := fun i ⟨j, hj, hd⟩ => by
        rcases List.mem_cons.1 hj with rfl | hj
        · exact c0 i hd
        · obtain ⟨t, ht, rfl⟩ := List.mem_map.1 hj
          exact cT t ht i hd
      exact hinj i (inT i hi) k (inT k hk) he
theorem nodup_all {α : Type} [DecidableEq α] {A B : List α} (h : A.Nodup) (hs : ∀ x ∈ A, x ∈ B) (hl : B.length ≤ A.length) : ∀ b ∈ B, b ∈ A := fun b hb => Decidable.byContradiction fun q => by
  have := nodup_len (List.nodup_cons.2 ⟨q, h⟩) (B := B) fun x hx => by
    rcases List.mem_cons.1 hx with rfl | hx
    · exact hb
    · exact hs x hx
  simp only [List.length_cons] at this
  omega
/-- Lots with prices have more friends than they are. -/
theorem LeastP.surplus {L : List (List Int)} {n : Nat} {p : List Int} (ok : OkH L n) (h : LeastP L n p) {J N : List Nat} {j0 : Nat} (h0 : j0 ∈ J) (nd : J.Nodup) (hJ : ∀ j ∈ J, j < n ∧ 0 < p.getD j 0) (hN : ∀ i j, j ∈ J → Dem L p i j → i ∈ N) : J.length < N.length := by
  refine Decidable.byContradiction fun hc => ?_
  obtain ⟨f, f1, f2⟩ := h.cover ok
  have all := nodup_all (nodup_map (f := f) nd fun x hx y hy => f2 x y (hJ x hx) (hJ y hy)) (B := N) (fun y hy => by
    obtain ⟨x, hx, rfl⟩ := List.mem_map.1 hy
    exact hN _ x hx (f1 x (hJ x hx))) (by rw [List.length_map]; omega)
  have back : ∀ i, i ∈ N → ∃ j, j ∈ J ∧ f j = i := fun i hi => List.mem_map.1 (all i hi)
  refine h.lower ok h0 hJ (fun i => Classical.epsilon fun j => j ∈ J ∧ f j = i) (fun i j hj hd => ?_) fun i k hi hk he => ?_
  · have sp := Classical.epsilon_spec (back i (hN i j hj hd))
    refine ⟨sp.1, ?_⟩
    have := f1 _ (hJ _ sp.1)
    simp only at this ⊢
    rw [sp.2] at this
    exact this
  · obtain ⟨j, a1, a2⟩ := hi
    obtain ⟨k', b1, b2⟩ := hk
    have s1 := Classical.epsilon_spec (back i (hN i j a1 a2))
    have s2 := Classical.epsilon_spec (back k (hN k k' b1 b2))
    try simp only at he
    rw [← s1.2, ← s2.2, he]
theorem PreL.nil (L : List (List Int)) (p : List Int) : PreL L p [] := ⟨by simp, fun i hi => by simp at hi, fun i k hi => by simp at hi⟩
/-- There is a balance at the least prices. -/
theorem LeastP.balance {L : List (List Int)} {n : Nat} {p : List Int} (ok : OkH L n) (h : LeastP L n p) : ExtL L p [] := by
  have hl := h.len
  subst hl
  refine ext_of_balanced ok (PreL.nil L p) ((balancedF_iff ok).2 ⟨?_, ?_⟩)
  · exact h.free.congr (fun x hx => hx.2) fun x j _ hd => ⟨by simp, hd, by simp⟩
  · exact (h.cover ok).congr (fun j hj => ⟨hj.1, hj.2.1⟩) fun j i _ hd => ⟨by simp, hd, by simp⟩
/-! ### the first balance -/
/-- One list is not behind another. -/
def LexLe (s t : List Int) : Prop := s = t ∨ ∃ k, k < s.length ∧ k < t.length ∧ s.take k = t.take k ∧ s.getD k (-1) < t.getD k (-1)
theorem LexLe.antisymm {s t : List Int} (h1 : LexLe s t) (h2 : LexLe t s) : s = t := by
  rcases h1 with h | ⟨k, k1, k2, k3, k4⟩
  · exact h
  · rcases h2 with h | ⟨m, m1, m2, m3, m4⟩
    · exact h.symm
    · exfalso
      have tk : ∀ {a b : List Int} {x y : Nat}, a.take x = b.take x → y < x → a.getD y (-1) = b.getD y (-1) := fun {a b x y} e hy => by
        rw [← getD_take (l := a) hy, e, getD_take hy]
      rcases Nat.lt_trichotomy k m with h | h | h
      · have := tk m3 h; omega
      · subst h; omega
      · have := tk k3 h; omega
/-- The first of the balances. -/
structure FirstL (Q : List Int → Prop) (s : List Int) : Prop where
  mem : Q s
  le : ∀ t, Q t → LexLe s t
theorem FirstL.unique {Q : List Int → Prop} {s t : List Int} (h1 : FirstL Q s) (h2 : FirstL Q t) : s = t := (h1.le t h2.mem).antisymm (h2.le s h1.mem)
def optsZ (row prices : List Int) : List Int := (if gainF row prices = 0 then [-1] else []) ++ (wantsF row prices).map fun (j : Nat) => (j : Int)
def tryZ (L : List (List Int)) (p t : List Int) (j : Int) : Bool := !(decide (0 ≤ j) && t.contains j) && balancedF L p (t ++ [j])
theorem wantsH_sorted {b : Int} : ∀ (row prices : List Int) (j : Nat), (wantsH b row prices j).Pairwise (· < ·)
  | [], _, _ => by simp [wantsH]
  | _ :: _, [], _ => by simp [wantsH]
  | x :: r, p :: ps, j => by
    have ih := wantsH_sorted (b := b) r ps (j + 1)
    rw [wantsH]
    split
    · rw [List.singleton_append, List.pairwise_cons]
      exact ⟨fun k hk => by have := (wantsH_lt r ps (j + 1) k hk).1; omega, ih⟩
    · simpa using ih
theorem optsZ_sorted (row prices : List Int) : (optsZ row prices).Pairwise (· < ·) := by
  unfold optsZ
  rw [List.pairwise_append]
  refine ⟨by split <;> simp, ?_, fun a ha b hb => ?_⟩
  · rw [List.pairwise_map]
    exact (wantsH_sorted row prices 0).imp fun h => by omega
  · obtain ⟨j, _, rfl⟩ := List.mem_map.1 hb
    split at ha
    · simp at ha; omega
    · cases ha
theorem mem_opts {L : List (List Int)} {p : List Int} {i : Nat} {x : Int} : x ∈ optsZ (L.getD i []) p ↔ Cont L p i x := by
  unfold optsZ Cont Dem
  rw [List.mem_append]
  constructor
  · rintro (h | h)
    · split at h
      · rename_i q; exact .inl ⟨by simpa using h, q⟩
      · cases h
    · obtain ⟨j, h1, rfl⟩ := List.mem_map.1 h
      exact .inr ⟨j, rfl, h1⟩
  · rintro (⟨rfl, h⟩ | ⟨j, rfl, h⟩)
    · left; rw [if_pos h]; simp
    · right; exact List.mem_map.2 ⟨j, h, rfl⟩
theorem find_first {P : Int → Bool} : ∀ {l : List Int} {x : Int}, l.Pairwise (· < ·) → l.find? P = some x → x ∈ l ∧ P x = true ∧ ∀ y ∈ l, P y = true → x ≤ y
  | [], _, _, h => by cases h
  | a :: l, x, hs, h => by
    obtain ⟨h1, h2⟩ := List.pairwise_cons.1 hs
    rw [List.find?_cons] at h
    split at h
    · rename_i q
      injection h with h
      subst h
      exact ⟨List.mem_cons_self, q, fun y hy _ => by
        rcases List.mem_cons.1 hy with rfl | hy
        · omega
        · have := h1 y hy; omega⟩
    · rename_i q
      obtain ⟨i1, i2, i3⟩ := find_first h2 h
      exact ⟨List.mem_cons_of_mem _ i1, i2, fun y hy hp => by
        rcases List.mem_cons.1 hy with rfl | hy
        · rw [hp] at q; cases q
        · exact i3 y hy hp⟩
theorem getD_app_lt {t : List Int} {x : Int} {i : Nat} (h : i < t.length) : (t ++ [x]).getD i (-1) = t.getD i (-1) := by
  simp [List.getD_eq_getElem?_getD, List.getElem?_append_left h]
theorem getD_app_eq {t : List Int} {x : Int} : (t ++ [x]).getD t.length (-1) = x := by
  simp [List.getD_eq_getElem?_getD]
/-- One more buyer's lot. -/
theorem PreL.snoc {L : List (List Int)} {p t : List Int} {x : Int} (h : PreL L p t) (hl : t.length < L.length) (hc : Cont L p t.length x) (hx : 0 ≤ x → x ∉ t) : PreL L p (t ++ [x]) := by
  have ln : (t ++ [x]).length = t.length + 1 := by simp
  refine ⟨by rw [ln]; omega, fun i hi => ?_, fun i k hi hk he h0 => ?_⟩
  · rw [ln] at hi
    by_cases q : i = t.length
    · subst q
      rw [getD_app_eq]
      exact hc
    · rw [getD_app_lt (by omega)]
      exact h.cont i (by omega)
  · rw [ln] at hi hk
    by_cases q1 : i = t.length
    · subst q1
      rw [getD_app_eq] at he h0
      by_cases q2 : k = t.length
      · exact q2.symm
      · rw [getD_app_lt (by omega)] at he
        exact absurd (by rw [he]; exact getD_mem (by omega)) (hx h0)
    · rw [getD_app_lt (by omega)] at he h0
      by_cases q2 : k = t.length
      · subst q2
        rw [getD_app_eq] at he
        exact absurd (by rw [← he]; exact getD_mem (by omega)) (hx (by omega))
      · rw [getD_app_lt (by omega)] at he
        exact h.inj i k (by omega) (by omega) he h0
theorem ExtL.pre {L : List (List Int)} {p t : List Int} (h : ExtL L p t) : PreL L p t := by
  obtain ⟨s, hb, ht⟩ := h
  have tl : t.length ≤ s.length := by
    have := congrArg List.length ht
    rw [List.length_take] at this
    omega
  have hsl := hb.len
  have tg : ∀ i, i < t.length → t.getD i (-1) = s.getD i (-1) := fun i hi => by
    have : (s.take t.length).getD i (-1) = t.getD i (-1) := by rw [ht]
    rw [← this, getD_take hi]
  exact ⟨by omega, fun i hi => by rw [tg i hi]; exact hb.cont i (by omega), fun i k hi hk he h0 => hb.inj i k (by omega) (by omega) (by rw [← tg i hi, ← tg k hk]; exact he) (by rw [← tg i hi]; exact h0)⟩
theorem take_succ' {s : List Int} {k : Nat} (h : k < s.length) : s.take (k + 1) = s.take k ++ [s.getD k (-1)] := by
  rw [List.take_add_one]
  simp [h]
/-- What a beginning may go on with. -/
theorem try_iff {L : List (List Int)} {p t : List Int} (ok : OkH L p.length) (h : PreL L p t) (hl : t.length < L.length) {x : Int} (hx : Cont L p t.length x) : tryZ L p t x = true ↔ ExtL L p (t ++ [x]) := by
  unfold tryZ
  rw [Bool.and_eq_true, Bool.not_eq_true', Bool.and_eq_false_iff, decide_eq_false_iff_not]
  constructor
  · rintro ⟨h1, h2⟩
    refine ext_of_balanced ok (h.snoc hl hx fun h0 hm => ?_) h2
    rcases h1 with h1 | h1
    · exact h1 h0
    · simp at h1; exact h1 hm
  · intro he
    refine ⟨?_, balanced_of_ext ok he⟩
    by_cases h0 : 0 ≤ x
    · right
      have hp := he.pre
      refine Bool.eq_false_iff.2 fun hc => ?_
      obtain ⟨i, i1, i2⟩ := mem_getD (List.contains_iff_mem.1 hc)
      have := hp.inj i t.length (by simp; omega) (by simp) (by rw [getD_app_lt i1, getD_app_eq, i2]) (by rw [getD_app_lt i1, i2]; exact h0)
      omega
    · exact .inl h0
theorem ext_next {L : List (List Int)} {p t : List Int} (h : ExtL L p t) (hl : t.length < L.length) : ∃ x, Cont L p t.length x ∧ ExtL L p (t ++ [x]) := by
  obtain ⟨s, hb, ht⟩ := h
  have hsl := hb.len
  refine ⟨s.getD t.length (-1), hb.cont _ hl, s, hb, ?_⟩
  rw [List.length_append, List.length_singleton, take_succ' (by omega), ht]
theorem hallF_first {L : List (List Int)} {p : List Int} (ok : OkH L p.length) : ∀ (r : List (List Int)) (t : List Int), r = L.drop t.length → ExtL L p t → BalL L p (hallF L p r t) ∧ (hallF L p r t).take t.length = t ∧ ∀ u, BalL L p u → u.take t.length = t → LexLe (hallF L p r t) u
  | [], t, hr, he => by
    have hp := he.pre
    have hlen : t.length = L.length := by
      have := congrArg List.length hr
      simp at this
      have := hp.len
      omega
    obtain ⟨s, hb, ht⟩ := he
    have : s = t := by
      rw [← ht, List.take_of_length_le (by rw [hb.len]; omega)]
    subst this
    rw [hallF]
    refine ⟨hb, by rw [List.take_of_length_le (Nat.le_refl _)], fun u hu hut => .inl ?_⟩
    rw [← hut, List.take_of_length_le (by rw [hu.len, hlen]; exact Nat.le_refl _)]
  | row :: r, t, hr, he => by
    have hp := he.pre
    have hl : t.length < L.length := by
      refine Decidable.byContradiction fun q => ?_
      rw [List.drop_of_length_le (by omega)] at hr
      cases hr
    rw [List.drop_eq_getElem_cons hl] at hr
    injection hr with hr1 hr2
    have hrow : row = L.getD t.length [] := by rw [hr1]; simp [hl]
    have e : hallF L p (row :: r) t = match (optsZ row p).find? (tryZ L p t) with
      | none => hallF L p r t
      | some j => hallF L p r (t ++ [j]) := by rw [hallF]; rfl
    rw [e]
    obtain ⟨x0, hx0, hxe⟩ := ext_next he hl
    have t0 := (try_iff ok hp hl hx0).2 hxe
    cases hf : (optsZ row p).find? (tryZ L p t) with
    | none =>
      have := List.find?_eq_none.1 hf x0 (by rw [hrow]; exact mem_opts.2 hx0)
      exact absurd t0 this
    | some x =>
      obtain ⟨f1, f2, f3⟩ := find_first (optsZ_sorted row p) hf
      rw [hrow] at f1 f3
      have hc := mem_opts.1 f1
      have hex := (try_iff ok hp hl hc).1 f2
      have ln : (t ++ [x]).length = t.length + 1 := by simp
      obtain ⟨b1, b2, b3⟩ := hallF_first ok r (t ++ [x]) (by rw [ln]; exact hr2) hex
      try simp only
      obtain ⟨s, hs⟩ : ∃ s, s = hallF L p r (t ++ [x]) := ⟨_, rfl⟩
      rw [← hs] at b1 b2 b3 ⊢
      rw [ln, take_succ' (by rw [b1.len]; exact hl)] at b2
      have b4 := List.append_inj b2 (by rw [List.length_take, b1.len]; omega)
      have b5 : s.getD t.length (-1) = x := by simpa using b4.2
      refine ⟨b1, b4.1, fun u hu hut => ?_⟩
      have hul : t.length < u.length := by rw [hu.len]; exact hl
      have huc := hu.cont t.length hl
      have hue : ExtL L p (t ++ [u.getD t.length (-1)]) := ⟨u, hu, by rw [List.length_append, List.length_singleton, take_succ' hul, hut]⟩
      have hle := f3 _ (mem_opts.2 huc) ((try_iff ok hp hl huc).2 hue)
      by_cases q : x = u.getD t.length (-1)
      · exact b3 u hu (by rw [ln, take_succ' hul, hut, ← q])
      · exact .inr ⟨t.length, by rw [b1.len]; exact hl, hul, by rw [b4.1, hut], by rw [b5]; omega⟩
/-- Hall's allotment: the first balance. -/
theorem LeastP.hall {L : List (List Int)} {n : Nat} {p : List Int} (ok : OkH L n) (h : LeastP L n p) : FirstL (BalL L p) (hallF L p L []) := by
  have he := h.balance ok
  have hl := h.len
  subst hl
  obtain ⟨b1, _, b3⟩ := hallF_first ok L [] (by simp) he
  exact ⟨b1, fun u hu => b3 u hu (by simp)⟩
/-- The prices cannot all be lowered: then there is a crowd. -/
theorem LeastP.crowd {L : List (List Int)} {n : Nat} {p r : List Int} (h : LeastP L n p) (hr : r.length = n) (hn : nonNeg r) {j : Nat} (hj : j < n) (hlt : r.getD j 0 < p.getD j 0) : ¬ FreeP L r := fun hf => by
  have := h.least r hr hn hf j (by rw [h.len]; exact hj)
  omega
end Go.Proofs.YtojednnciknhpaaDoor
namespace Go.Proofs.YtojednnciknhpaaDoor
set_option linter.unusedSimpArgs false
set_option linter.unusedVariables false
open Go.RowKit
/-- The lots are marked one after the other; none: one is wrong or given twice. -/
def markF (n : Nat) : List Int → List Bool → Option (List Bool)
  | [], t => some t
  | j :: r, t => if j < -1 ∨ (n : Int) ≤ j ∨ (0 ≤ j ∧ t.getD j.toNat false = true) then none else markF n r (if 0 ≤ j then t.set j.toNat true else t)
/-- A buyer is content. -/
def contB (row p : List Int) (j : Int) : Bool := if j < 0 then decide (gainF row p = 0) else decide (row.getD j.toNat 0 - p.getD j.toNat 0 = gainF row p)
/-- The first buyer that is not. -/
def badF (L : List (List Int)) (p : List Int) : List Int → Nat → Option Nat
  | [], _ => none
  | j :: r, i => if contB (L.getD i []) p j = true then badF L p r (i + 1) else some i
def unsoldF (t : List Bool) (p : List Int) : Bool := (List.range p.length).any fun j => !t.getD j false && decide (0 < p.getD j 0)
def contF (L : List (List Int)) (s p : List Int) : Int × Bool :=
  match markF p.length s (noB p.length) with
  | none => (-1, false)
  | some t => match badF L p s 0 with
    | some i => ((i : Int), false)
    | none => if unsoldF t p = true then (-1, false) else (-1, true)
theorem markF_cons (n : Nat) (j : Int) (r : List Int) (t : List Bool) : markF n (j :: r) t = if j < -1 ∨ (n : Int) ≤ j ∨ (0 ≤ j ∧ t.getD j.toNat false = true) then none else markF n r (if 0 ≤ j then t.set j.toNat true else t) := by rw [markF]
theorem badF_cons (L : List (List Int)) (p : List Int) (j : Int) (r : List Int) (i : Nat) : badF L p (j :: r) i = if contB (L.getD i []) p j = true then badF L p r (i + 1) else some i := by rw [badF]
theorem noB_size (n : Nat) : (noB n).length = n := by simp [noB]
/-- Marks: what fits, and what is marked then. -/
theorem markF_spec {n : Nat} : ∀ (s : List Int) (t : List Bool), t.length = n → (match markF n s t with
  | none => ¬ ((∀ x ∈ s, -1 ≤ x ∧ x < (n : Int) ∧ (0 ≤ x → t.getD x.toNat false = false)) ∧ ∀ i k, i < s.length → k < s.length → s.getD i (-1) = s.getD k (-1) → 0 ≤ s.getD i (-1) → i = k)
  | some u => ((∀ x ∈ s, -1 ≤ x ∧ x < (n : Int) ∧ (0 ≤ x → t.getD x.toNat false = false)) ∧ ∀ i k, i < s.length → k < s.length → s.getD i (-1) = s.getD k (-1) → 0 ≤ s.getD i (-1) → i = k) ∧ u.length = n ∧ ∀ j, u.getD j false = true ↔ t.getD j false = true ∨ (j : Int) ∈ s)
  | [], t, ht => by simp [markF, ht]
  | x :: s, t, ht => by
    rw [markF_cons]
    by_cases q : x < -1 ∨ (n : Int) ≤ x ∨ (0 ≤ x ∧ t.getD x.toNat false = true)
    · rw [if_pos q]
      rintro ⟨h1, _⟩
      obtain ⟨a1, a2, a3⟩ := h1 x List.mem_cons_self
      rcases q with q | q | ⟨q1, q2⟩
      · omega
      · omega
      · rw [a3 q1] at q2; cases q2
    · rw [if_neg q]
      have q1 : -1 ≤ x := by omega
      have q2 : x < (n : Int) := by omega
      have q3 : 0 ≤ x → t.getD x.toNat false = false := fun h => by
        cases e : t.getD x.toNat false with
        | false => rfl
        | true => exact absurd (.inr (.inr ⟨h, e⟩)) q
      have tl : (if 0 ≤ x then t.set x.toNat true else t).length = n := by split <;> simp [ht]
      have tg : ∀ j, (if 0 ≤ x then t.set x.toNat true else t).getD j false = true ↔ t.getD j false = true ∨ (j : Int) = x := fun j => by
        split
        · rename_i h0
          by_cases e : j = x.toNat
          · subst e
            rw [getD_set_eq (by omega)]
            simp; omega
          · rw [getD_set_other e]
            constructor
            · exact .inl
            · rintro (h | h)
              · exact h
              · omega
        · constructor
          · exact .inl
          · rintro (h | h)
            · exact h
            · omega
      have ih := markF_spec s _ tl
      have conv : ((∀ y ∈ x :: s, -1 ≤ y ∧ y < (n : Int) ∧ (0 ≤ y → t.getD y.toNat false = false)) ∧ ∀ i k, i < (x :: s).length → k < (x :: s).length → (x :: s).getD i (-1) = (x :: s).getD k (-1) → 0 ≤ (x :: s).getD i (-1) → i = k) ↔ ((∀ y ∈ s, -1 ≤ y ∧ y < (n : Int) ∧ (0 ≤ y → (if 0 ≤ x then t.set x.toNat true else t).getD y.toNat false = false)) ∧ ∀ i k, i < s.length → k < s.length → s.getD i (-1) = s.getD k (-1) → 0 ≤ s.getD i (-1) → i = k) := by
        constructor
        · rintro ⟨h1, h2⟩
          refine ⟨fun y hy => ?_, fun i k hi hk he h0 => ?_⟩
          · obtain ⟨a1, a2, a3⟩ := h1 y (List.mem_cons_of_mem _ hy)
            refine ⟨a1, a2, fun h0 => ?_⟩
            cases e : (if 0 ≤ x then t.set x.toNat true else t).getD y.toNat false with
            | false => rfl
            | true =>
              rcases (tg y.toNat).1 e with e | e
              · rw [a3 h0] at e; cases e
              · obtain ⟨i, hi, hyi⟩ := mem_getD hy
                have := h2 0 (i + 1) (by simp) (by simpa using hi) (by rw [List.getD_cons_zero, List.getD_cons_succ, hyi]; omega) (by rw [List.getD_cons_zero]; omega)
                omega
          · have := h2 (i + 1) (k + 1) (by simpa using hi) (by simpa using hk) (by simpa using he) (by simpa using h0)
            omega
        · rintro ⟨h1, h2⟩
          have nx : ∀ y ∈ s, y = x → 0 ≤ y → False := fun y hy e h0 => by
            have := (h1 y hy).2.2 h0
            rw [Bool.eq_false_iff] at this
            exact this ((tg y.toNat).2 (.inr (by omega)))
          refine ⟨fun y hy => ?_, fun i k hi hk he h0 => ?_⟩
          · rcases List.mem_cons.1 hy with rfl | hy
            · exact ⟨q1, q2, q3⟩
            · obtain ⟨a1, a2, a3⟩ := h1 y hy
              refine ⟨a1, a2, fun h0 => ?_⟩
              cases e : t.getD y.toNat false with
              | false => rfl
              | true =>
                have := a3 h0
                rw [Bool.eq_false_iff] at this
                exact absurd ((tg y.toNat).2 (.inl e)) this
          · cases i with
            | zero =>
              cases k with
              | zero => rfl
              | succ k =>
                rw [List.getD_cons_zero, List.getD_cons_succ] at he
                rw [List.getD_cons_zero] at h0
                exact (nx _ (getD_mem (by simpa using hk)) he.symm (by omega)).elim
            | succ i =>
              cases k with
              | zero =>
                rw [List.getD_cons_zero, List.getD_cons_succ] at he
                rw [List.getD_cons_succ] at h0
                exact (nx _ (getD_mem (by simpa using hi)) he h0).elim
              | succ k =>
                rw [List.getD_cons_succ, List.getD_cons_succ] at he
                rw [List.getD_cons_succ] at h0
                have := h2 i k (by simpa using hi) (by simpa using hk) he h0
                omega
      cases e : markF n s (if 0 ≤ x then t.set x.toNat true else t) with
      | none =>
        rw [e] at ih
        exact fun h => ih (conv.1 h)
      | some u =>
        rw [e] at ih
        obtain ⟨h1, h2, h3⟩ := ih
        refine ⟨conv.2 h1, h2, fun j => ?_⟩
        rw [h3, tg, List.mem_cons]
        constructor
        · rintro ((h | h) | h)
          · exact .inl h
          · exact .inr (.inl h)
          · exact .inr (.inr h)
        · rintro (h | h | h)
          · exact .inl (.inl h)
          · exact .inl (.inr h)
          · exact .inr h
theorem badF_none {L : List (List Int)} {p : List Int} : ∀ (s : List Int) (i : Nat), badF L p s i = none ↔ ∀ k, k < s.length → contB (L.getD (i + k) []) p (s.getD k (-1)) = true
  | [], i => by simp [badF]
  | x :: s, i => by
    rw [badF_cons]
    constructor
    · intro h k hk
      split at h
      · rename_i q
        cases k with
        | zero => simpa using q
        | succ k =>
          have := (badF_none s (i + 1)).1 h k (by simpa using hk)
          rw [show i + 1 + k = i + (k + 1) by omega] at this
          simpa using this
      · cases h
    · intro h
      have h0 := h 0 (by simp)
      simp only [Nat.add_zero, List.getD_cons_zero] at h0
      rw [if_pos h0]
      refine (badF_none s (i + 1)).2 fun k hk => ?_
      have := h (k + 1) (by simpa using hk)
      rw [show i + 1 + k = i + (k + 1) by omega]
      simpa using this
theorem contB_iff {L : List (List Int)} {p : List Int} {i : Nat} {j : Int} (hl : (L.getD i []).length = p.length) (h1 : -1 ≤ j) (h2 : j < (p.length : Int)) : contB (L.getD i []) p j = true ↔ Cont L p i j := by
  unfold contB Cont Dem
  split
  · rename_i q
    rw [decide_eq_true_iff]
    constructor
    · intro h; exact .inl ⟨by omega, h⟩
    · rintro (⟨_, h⟩ | ⟨k, h, _⟩)
      · exact h
      · omega
  · rename_i q
    rw [decide_eq_true_iff]
    constructor
    · intro h
      exact .inr ⟨j.toNat, by omega, mem_wants.2 ⟨by omega, by omega, h⟩⟩
    · rintro (⟨h, _⟩ | ⟨k, h, hk⟩)
      · omega
      · have e : j.toNat = k := by omega
        rw [e]
        exact (mem_wants.1 hk).2.2
/-- Content says whether a list is a balance. -/
theorem contF_iff {L : List (List Int)} {s p : List Int} (ok : OkH L p.length) (hl : s.length = L.length) : (contF L s p = (-1, true) ∧ BalL L p s) ∨ (∃ x, contF L s p = (x, false)) ∧ ¬ BalL L p s := by
  have ms := markF_spec s (noB p.length) (noB_size _)
  unfold contF
  have fitB : BalL L p s → ((∀ x ∈ s, -1 ≤ x ∧ x < (p.length : Int) ∧ (0 ≤ x → (noB p.length).getD x.toNat false = false)) ∧ ∀ i k, i < s.length → k < s.length → s.getD i (-1) = s.getD k (-1) → 0 ≤ s.getD i (-1) → i = k) := fun hb => by
    refine ⟨fun x hx => ?_, fun i k hi hk => hb.inj i k (by omega) (by omega)⟩
    obtain ⟨i, hi, rfl⟩ := mem_getD hx
    have hc := hb.cont i (by omega)
    refine ⟨?_, ?_, fun _ => noB_get _ _⟩
    · rcases hc with ⟨h, _⟩ | ⟨j, h, _⟩ <;> omega
    · rcases hc with ⟨h, _⟩ | ⟨j, h, h2⟩
      · omega
      · have := dem_lt h2; omega
  cases e : markF p.length s (noB p.length) with
  | none =>
    rw [e] at ms
    exact .inr ⟨⟨-1, rfl⟩, fun hb => ms (fitB hb)⟩
  | some t =>
    rw [e] at ms
    obtain ⟨⟨m1, m2⟩, m3, m4⟩ := ms
    have cb : ∀ i, i < L.length → (contB (L.getD i []) p (s.getD i (-1)) = true ↔ Cont L p i (s.getD i (-1))) := fun i hi => by
      obtain ⟨a1, a2, _⟩ := m1 (s.getD i (-1)) (getD_mem (by omega))
      exact contB_iff (row_len ok hi) a1 a2
    simp only
    cases eb : badF L p s 0 with
    | some i =>
      refine .inr ⟨⟨i, rfl⟩, fun hb => ?_⟩
      have : badF L p s 0 = none := (badF_none s 0).2 fun k hk => by
        rw [Nat.zero_add]
        exact (cb k (by omega)).2 (hb.cont k (by omega))
      rw [eb] at this; cases this
    | none =>
      have hall := (badF_none s 0).1 eb
      simp only
      by_cases hu : unsoldF t p = true
      · rw [if_pos hu]
        refine .inr ⟨⟨-1, rfl⟩, fun hb => ?_⟩
        unfold unsoldF at hu
        obtain ⟨j, h1, h2⟩ := List.any_eq_true.1 hu
        rw [Bool.and_eq_true, Bool.not_eq_true', decide_eq_true_iff] at h2
        have := (m4 j).2 (.inr (hb.sold j (by simpa using h1) h2.2))
        rw [h2.1] at this; cases this
      · rw [if_neg hu]
        refine .inl ⟨rfl, hl, fun i hi => ?_, fun i k hi hk => m2 i k (by omega) (by omega), fun j hj h0 => ?_⟩
        · have := hall i (by omega)
          rw [Nat.zero_add] at this
          exact (cb i hi).1 this
        · refine Decidable.byContradiction fun c => hu ?_
          unfold unsoldF
          refine List.any_eq_true.2 ⟨j, by simpa using hj, ?_⟩
          rw [Bool.and_eq_true, Bool.not_eq_true', decide_eq_true_iff]
          refine ⟨?_, h0⟩
          cases e2 : t.getD j false with
          | false => rfl
          | true =>
            rcases (m4 j).1 e2 with h | h
            · rw [noB_get] at h; cases h
            · exact absurd h c
end Go.Proofs.YtojednnciknhpaaDoor
