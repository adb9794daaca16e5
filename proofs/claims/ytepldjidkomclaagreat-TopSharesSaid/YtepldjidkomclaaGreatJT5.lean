/- TopShares in plain Lean: who owns which pocket of the two lots. No program in sight. -/
import Derived.Test.YtepldjidkomclaaGreatJADo1
import Derived.Test.YtepldjidkomclaaGreatJAAll
import Derived.Test.YtepldjidkomclaaGreatJARf2
import Derived.Test.YtepldjidkomclaaGreatJAMake2
namespace Go.Proofs.YtepldjidkomclaaGreat
set_option linter.unusedSimpArgs false
set_option linter.unusedVariables false
open Go.RowKit
def wantT : St.Cl := ⟨1, 1, 1, 0⟩
def idxT (gap n : Int) : Int := if 1 ≤ n ∧ n ≤ 150 then n else if 151 + gap ≤ n ∧ n ≤ 350 + gap then n - gap else 0
theorem idx_cases (gap n : Int) : (1 ≤ n ∧ n ≤ 150 ∧ idxT gap n = n) ∨ (¬ (1 ≤ n ∧ n ≤ 150) ∧ 151 + gap ≤ n ∧ n ≤ 350 + gap ∧ idxT gap n = n - gap) ∨ (¬ (1 ≤ n ∧ n ≤ 150) ∧ ¬ (151 + gap ≤ n ∧ n ≤ 350 + gap) ∧ idxT gap n = 0) := by
  unfold idxT
  by_cases h1 : 1 ≤ n ∧ n ≤ 150
  · exact .inl ⟨h1.1, h1.2, if_pos h1⟩
  · by_cases h2 : 151 + gap ≤ n ∧ n ≤ 350 + gap
    · exact .inr (.inl ⟨h1, h2.1, h2.2, by rw [if_neg h1, if_pos h2]⟩)
    · exact .inr (.inr ⟨h1, h2, by rw [if_neg h1, if_neg h2]⟩)
def valT (gap : Int) (own : Int → Int) (n : Int) : St.Cl := if idxT gap n = 0 then St.cl0 else ⟨1, 1, own (idxT gap n), 0⟩
structure RgT (gap : Int) (own : Int → Int) (L : List St.Pc) : Prop where
  tiles : St.Tiles L 1 1000000
  canon : St.Canon L
  val : ∀ n, 1 ≤ n → n ≤ 1000000 → St.valL L n = valT gap own n
theorem RgT.out {gap : Int} {own : Int → Int} {L : List St.Pc} (h : RgT gap own L) {n : Int} (hn : n < 1 ∨ 1000000 < n) : St.valL L n = St.cl0 :=
  St.valL_out fun p hp q => by have := h.tiles.mem p hp; omega
theorem RgT.tr {gap : Int} {own : Int → Int} {t : St.T} (h : RgT gap own t.toList) (hok : t.Ok) : St.TrOk t := by
  refine ⟨St.Fine.of hok h.tiles, h.tiles, h.canon, fun n hz => ?_⟩
  by_cases hn : 1 ≤ n ∧ n ≤ 1000000
  · rw [h.val n hn.1 hn.2] at hz ⊢
    unfold valT at hz ⊢
    split
    · rfl
    · rename_i c
      rw [if_neg c] at hz
      simp at hz
  · exact h.out (by omega)
def spanP (p : St.Pc) : Int × Int := (p.from_, p.to - p.from_ + 1)
def RunT : List (Int × Int) → Int → Prop
  | [], _ => True
  | s :: l, a => a ≤ s.1 ∧ 1 ≤ s.2 ∧ RunT l (s.1 + s.2 + 1)
def inT' : List (Int × Int) → Int → Prop
  | [], _ => False
  | s :: l, n => s.1 ≤ n ∧ n < s.1 + s.2 ∨ inT' l n
theorem RunT.low : ∀ {l : List (Int × Int)} {a n : Int}, RunT l a → inT' l n → a ≤ n
  | s :: l, a, n, ⟨h1, h2, h3⟩, h => by
    rcases h with h | h
    · omega
    · have := h3.low h; omega
theorem RunT.mono : ∀ {l : List (Int × Int)} {a b : Int}, RunT l a → b ≤ a → RunT l b
  | [], _, _, _, _ => trivial
  | _ :: _, _, _, ⟨h1, h2, h3⟩, h => ⟨by omega, h2, h3⟩
theorem RunT.up {l : List (Int × Int)} {a : Int} (h : RunT l a) (hn : ¬ inT' l a) : RunT l (a + 1) := by
  cases l with
  | nil => trivial
  | cons s l =>
    obtain ⟨h1, h2, h3⟩ := h
    refine ⟨?_, h2, h3⟩
    by_cases e : s.1 = a
    · exact absurd (.inl ⟨by omega, by omega⟩) hn
    · omega
theorem run_unique : ∀ {l m : List (Int × Int)} {a b : Int}, RunT l a → RunT m b → (∀ n, inT' l n ↔ inT' m n) → l = m
  | [], [], _, _, _, _, _ => rfl
  | [], s :: m, _, _, _, ⟨h1, h2, h3⟩, h => absurd ((h s.1).2 (.inl ⟨by omega, by omega⟩)) (by simp [inT'])
  | s :: l, [], _, _, ⟨h1, h2, h3⟩, _, h => absurd ((h s.1).1 (.inl ⟨by omega, by omega⟩)) (by simp [inT'])
  | s :: l, t :: m, a, b, ⟨h1, h2, h3⟩, ⟨k1, k2, k3⟩, h => by
    have nl : ∀ n, n ≤ s.1 + s.2 → ¬ inT' l n := fun n hn hi => by have := h3.low hi; omega
    have nm : ∀ n, n ≤ t.1 + t.2 → ¬ inT' m n := fun n hn hi => by have := k3.low hi; omega
    have e1 : s.1 = t.1 := by
      have q1 := (h s.1).1 (.inl ⟨by omega, by omega⟩)
      have q2 := (h t.1).2 (.inl ⟨by omega, by omega⟩)
      have p1 : t.1 ≤ s.1 := by rcases q1 with q | q; omega; have := k3.low q; omega
      have p2 : s.1 ≤ t.1 := by rcases q2 with q | q; omega; have := h3.low q; omega
      omega
    have e2 : s.2 = t.2 := by
      rcases Int.lt_trichotomy s.2 t.2 with q | q | q
      · have := (h (s.1 + s.2)).2 (.inl ⟨by omega, by omega⟩)
        rcases this with x | x
        · omega
        · exact absurd x (nl _ (by omega))
      · exact q
      · have := (h (t.1 + t.2)).1 (.inl ⟨by omega, by omega⟩)
        rcases this with x | x
        · omega
        · exact absurd x (nm _ (by omega))
    have e : s = t := Prod.ext e1 e2
    subst e
    rw [run_unique h3 k3 fun n => ⟨fun hn => by
      rcases (h n).1 (.inr hn) with x | x
      · have := h3.low hn; omega
      · exact x, fun hn => by
      rcases (h n).2 (.inr hn) with x | x
      · have := k3.low hn; omega
      · exact x⟩]
theorem want_runs (w : St.Cl) : ∀ {L : List St.Pc} {a b : Int}, St.Tiles L a b → St.Canon L → RunT ((St.wantF w L).map spanP) a ∧ ∀ n, inT' ((St.wantF w L).map spanP) n ↔ a ≤ n ∧ n ≤ b ∧ St.valL L n = w
  | [], a, b, h, _ => by
    simp only [St.Tiles] at h
    refine ⟨trivial, fun n => ⟨fun q => q.elim, fun q => by omega⟩⟩
  | p :: l, a, b, ⟨h1, h2, h3⟩, hc => by
    obtain ⟨i1, i2⟩ := want_runs w h3 (by
      cases l with
      | nil => trivial
      | cons q l => exact hc.2)
    have hle := h3.le
    by_cases e : p.cell = w
    · have ew : St.wantF w (p :: l) = p :: St.wantF w l := by unfold St.wantF; rw [List.filter_cons, if_pos (by simpa using e)]
      rw [ew]
      have up : RunT ((St.wantF w l).map spanP) (p.to + 1 + 1) := by
        refine i1.up fun q => ?_
        obtain ⟨_, q2, q3⟩ := (i2 _).1 q
        cases l with
        | nil => simp only [St.Tiles] at h3; omega
        | cons r l =>
          obtain ⟨r1, r2, r3⟩ := h3
          simp only [St.valL] at q3
          rw [if_pos (by omega)] at q3
          exact hc.1 (by rw [e, q3]) r1.symm
      refine ⟨⟨by simp only [spanP]; omega, by simp only [spanP]; omega, ?_⟩, fun n => ?_⟩
      · have : (spanP p).1 + (spanP p).2 + 1 = p.to + 1 + 1 := by simp only [spanP]; omega
        show RunT (List.map spanP (St.wantF w l)) ((spanP p).1 + (spanP p).2 + 1)
        rw [this]; exact up
      · have hn : inT' (List.map spanP (p :: St.wantF w l)) n ↔ (p.from_ ≤ n ∧ n ≤ p.to) ∨ inT' ((St.wantF w l).map spanP) n := by
          show ((spanP p).1 ≤ n ∧ n < (spanP p).1 + (spanP p).2 ∨ _) ↔ _
          simp only [spanP]
          constructor
          · rintro (q | q)
            · exact .inl (by omega)
            · exact .inr q
          · rintro (q | q)
            · exact .inl (by omega)
            · exact .inr q
        rw [hn, i2]
        simp only [St.valL]
        by_cases c : p.from_ ≤ n ∧ n ≤ p.to
        · rw [if_pos c]
          exact ⟨fun _ => ⟨by omega, by omega, e⟩, fun _ => .inl c⟩
        · rw [if_neg c]
          constructor
          · rintro (q | q)
            · exact absurd q c
            · exact ⟨by omega, q.2⟩
          · rintro ⟨q1, q2, q3⟩
            exact .inr ⟨by omega, q2, q3⟩
    · have ew : St.wantF w (p :: l) = St.wantF w l := by unfold St.wantF; rw [List.filter_cons, if_neg (by simpa using e)]
      rw [ew]
      refine ⟨i1.mono (by omega), fun n => ?_⟩
      rw [i2]
      simp only [St.valL]
      by_cases c : p.from_ ≤ n ∧ n ≤ p.to
      · rw [if_pos c]
        exact ⟨fun q => by omega, fun q => absurd q.2.2 e⟩
      · rw [if_neg c]
        exact ⟨fun q => ⟨by omega, q.2⟩, fun q => ⟨by omega, q.2⟩⟩
structure OwT (c : Int) (own : Int → Int) : Prop where
  lo : 0 ≤ c ∧ c ≤ 350
  rest : ∀ j, c < j → own j = 1
  given : ∀ j, 1 ≤ j → j ≤ c → own j ≠ 1
def leftT (gap c : Int) : List (Int × Int) := if c < 150 then [(c + 1, 150 - c), (151 + gap, 200)] else if c < 350 then [(c + 1 + gap, 350 - c)] else []
theorem left_runs {gap c : Int} (hg : 1 ≤ gap) (hc : 0 ≤ c) : RunT (leftT gap c) 1 := by
  unfold leftT
  split
  · exact ⟨by simp only; omega, by simp only; omega, by simp only; omega, by simp only; omega, trivial⟩
  · split
    · exact ⟨by simp only; omega, by simp only; omega, trivial⟩
    · trivial
theorem left_in {gap c : Int} {own : Int → Int} (hg : 1 ≤ gap ∧ gap ≤ 100) (o : OwT c own) (n : Int) : inT' (leftT gap c) n ↔ 1 ≤ n ∧ n ≤ 1000000 ∧ valT gap own n = wantT := by
  have hv : valT gap own n = wantT ↔ idxT gap n ≠ 0 ∧ own (idxT gap n) = 1 := by
    unfold valT
    split
    · rename_i h; simp [h, St.cl0, wantT]
    · rename_i h; simp [h, wantT]
  have ho : idxT gap n ≠ 0 → (own (idxT gap n) = 1 ↔ c < idxT gap n) := fun h => by
    have h1 : 1 ≤ idxT gap n := by rcases idx_cases gap n with q | q | q <;> omega
    constructor
    · intro e
      by_cases q : c < idxT gap n
      · exact q
      · exact absurd e (o.given _ h1 (by omega))
    · exact o.rest _
  obtain ⟨c0, c1⟩ := o.lo
  rw [hv]
  have hx : (idxT gap n ≠ 0 ∧ own (idxT gap n) = 1) ↔ (idxT gap n ≠ 0 ∧ c < idxT gap n) := ⟨fun q => ⟨q.1, (ho q.1).1 q.2⟩, fun q => ⟨q.1, (ho q.1).2 q.2⟩⟩
  rw [hx]
  clear hx hv ho o
  unfold leftT
  split
  · simp only [inT', or_false]
    rcases idx_cases gap n with q | q | q <;> constructor <;> intro z <;> omega
  · split
    · simp only [inT', or_false]
      rcases idx_cases gap n with q | q | q <;> constructor <;> intro z <;> omega
    · simp only [inT', false_iff]
      rcases idx_cases gap n with q | q | q <;> omega
def foundT (gap c m : Int) : List (Int × Int) := if c < 150 then (if c + m ≤ 150 then [(c + 1, m)] else [(c + 1, 150 - c), (151 + gap, m - (150 - c))]) else [(c + 1 + gap, m)]
theorem take_spans : ∀ {L : List St.Pc} {S : List (Int × Int)} {m : Int}, L.map spanP = S → (∀ s ∈ S, 1 ≤ s.2) → 1 ≤ m →
    (∀ a, S = [a] → m ≤ a.2 → St.takeN L m = ([(a.1, m)], 0)) ∧ (∀ a b, S = [a, b] → (m ≤ a.2 → St.takeN L m = ([(a.1, m)], 0)) ∧ (a.2 < m → m ≤ a.2 + b.2 → St.takeN L m = ([a, (b.1, m - a.2)], 0))) := by
  intro L S m hS hs hm
  refine ⟨fun a ha hma => ?_, fun a b hab => ⟨fun hma => ?_, fun h1 h2 => ?_⟩⟩
  · subst ha
    obtain ⟨p, rfl, hp⟩ : ∃ p, L = [p] ∧ spanP p = a := by
      cases L with
      | nil => simp at hS
      | cons p l =>
        cases l with
        | nil => simp at hS; exact ⟨p, rfl, hS⟩
        | cons q l => simp at hS
    subst hp
    simp only [spanP] at hma
    rw [St.takeN, if_neg (by omega), Int.min_eq_right (by omega), show m - m = 0 by omega, St.takeN_done _ (by omega)]
    rfl
  · subst hab
    obtain ⟨p, q, rfl, hp, hq⟩ : ∃ p q, L = [p, q] ∧ spanP p = a ∧ spanP q = b := by
      match L, hS with
      | [p, q], hS => simp at hS; exact ⟨p, q, rfl, hS.1, hS.2⟩
      | [], hS => simp at hS
      | [_], hS => simp at hS
      | _ :: _ :: _ :: _, hS => simp at hS
    subst hp
    simp only [spanP] at hma
    rw [St.takeN, if_neg (by omega), Int.min_eq_right (by omega), show m - m = 0 by omega, St.takeN_done _ (by omega)]
    rfl
  · subst hab
    obtain ⟨p, q, rfl, hp, hq⟩ : ∃ p q, L = [p, q] ∧ spanP p = a ∧ spanP q = b := by
      match L, hS with
      | [p, q], hS => simp at hS; exact ⟨p, q, rfl, hS.1, hS.2⟩
      | [], hS => simp at hS
      | [_], hS => simp at hS
      | _ :: _ :: _ :: _, hS => simp at hS
    subst hp hq
    simp only [spanP] at h1 h2 ⊢
    rw [St.takeN, if_neg (by omega), Int.min_eq_left (by omega), St.takeN, if_neg (by omega), Int.min_eq_right (by omega), St.takeN_done _ (by omega)]
    simp only [Prod.mk.injEq, List.cons.injEq, and_true, true_and]
    omega
theorem find_left {gap c : Int} {own : Int → Int} {L : List St.Pc} (hg : 1 ≤ gap ∧ gap ≤ 100) (o : OwT c own) (r : RgT gap own L) {m : Int} (hm : 1 ≤ m) (hcm : c + m ≤ 350) : St.findS L wantT m = foundT gap c m ∧ St.findE L wantT m = 0 := by
  obtain ⟨w1, w2⟩ := want_runs wantT r.tiles r.canon
  have e : (St.wantF wantT L).map spanP = leftT gap c := by
    refine run_unique w1 (left_runs hg.1 o.lo.1) fun n => ?_
    rw [w2, left_in hg o]
    constructor
    · rintro ⟨a, b, q⟩
      exact ⟨a, b, by rw [← r.val n a b]; exact q⟩
    · rintro ⟨a, b, q⟩
      exact ⟨a, b, by rw [r.val n a b]; exact q⟩
  have hc := o.lo
  have hs : ∀ s ∈ leftT gap c, 1 ≤ s.2 := by
    unfold leftT
    intro s hs
    split at hs
    · simp at hs
      rcases hs with rfl | rfl
      · simp only; omega
      · simp only; omega
    · split at hs
      · simp at hs
        subst hs
        simp only; omega
      · simp at hs
  obtain ⟨t1, t2⟩ := take_spans e hs hm
  have k : St.takeN (St.wantF wantT L) m = (foundT gap c m, 0) := by
    unfold foundT
    by_cases h1 : c < 150
    · rw [if_pos h1]
      have el : leftT gap c = [(c + 1, 150 - c), (151 + gap, 200)] := by unfold leftT; rw [if_pos h1]
      obtain ⟨q1, q2⟩ := t2 _ _ el
      by_cases h2 : c + m ≤ 150
      · rw [if_pos h2]; exact q1 (by simp only; omega)
      · rw [if_neg h2]; exact q2 (by simp only; omega) (by simp only; omega)
    · rw [if_neg h1]
      have el : leftT gap c = [(c + 1 + gap, 350 - c)] := by unfold leftT; rw [if_neg h1, if_pos (by omega)]
      exact t1 _ el (by simp only; omega)
  unfold St.findS St.findE
  rw [k]
  exact ⟨rfl, rfl⟩
theorem first_zero {e : St.Cl → Int} {val : Int → St.Cl} {a b r : Int} (h : St.FirstAt e val a b r) (hz : ∀ n, a ≤ n → n ≤ b → e (val n) = 0) : r = 0 := by
  rcases h with ⟨h, _⟩ | ⟨h, n, n1, n2, n3, _⟩
  · exact h
  · rw [← n3, hz n n1 n2]
def ownM (own : Int → Int) (lo hi k : Int) (j : Int) : Int := if lo < j ∧ j ≤ hi then k else own j
theorem RgT.move {gap : Int} {own : Int → Int} {t : St.T} (hg : 1 ≤ gap ∧ gap ≤ 100) (r : RgT gap own t.toList) (hf : St.Fine t) {a m lo k : Int} (hm : 1 ≤ m) (ha : 1 ≤ a) (ham : a + m - 1 ≤ 350 + gap) (hk : 2 ≤ k ∧ k ≤ 1000)
    (hi : ∀ n, (a ≤ n ∧ n ≤ a + m - 1) ↔ idxT gap n ≠ 0 ∧ lo < idxT gap n ∧ idxT gap n ≤ lo + m) (ho : ∀ j, lo < j → j ≤ lo + m → own j = 1) :
    St.moveR t a m 1 k = 0 ∧ RgT gap (ownM own lo (lo + m) k) (St.changedP t.toList a m (St.moveG k)) := by
  constructor
  · unfold St.moveR
    rw [if_pos ⟨(St.okSpan_iff a m).2 (by omega), by simp [St.inB]; omega, by omega⟩, St.visL_eq _ _ _ hf.sorted]
    have h1 := St.firstE_at (St.ownedE 1) r.tiles (a := a) (b := a + m - 1) (by omega) (by omega) (by omega)
    refine first_zero h1 fun n n1 n2 => ?_
    rw [r.val n (by omega) (by omega)]
    obtain ⟨i1, i2, i3⟩ := (hi n).1 ⟨n1, n2⟩
    unfold valT
    rw [if_neg i1, ho _ i2 i3]
    rfl
  · refine ⟨St.changedP_tiles _ r.tiles (by omega) (by omega) (by omega), St.changedP_canon _ _ _ r.canon, fun n n1 n2 => ?_⟩
    rw [St.changedP_val _ r.tiles (by omega) (by omega) (by omega), r.val n n1 n2]
    unfold valT ownM
    by_cases c : a ≤ n ∧ n ≤ a + m - 1
    · obtain ⟨i1, i2, i3⟩ := (hi n).1 c
      rw [if_pos c, if_neg i1, if_neg i1, if_pos ⟨i2, i3⟩]
      rfl
    · rw [if_neg c]
      by_cases z : idxT gap n = 0
      · rw [if_pos z, if_pos z]
      · rw [if_neg z, if_neg z, if_neg (fun q => c ((hi n).2 ⟨z, q⟩))]
def doneT : List (Int × Int) → Nat → Int
  | _, 0 => 0
  | [], _ + 1 => 0
  | s :: l, r + 1 => s.2 + doneT l r
theorem ownM_join (own : Int → Int) (c d m k : Int) (hd : 0 ≤ d) (hm : 0 ≤ m) : ownM (ownM own c (c + d) k) (c + d) (c + d + m) k = ownM own c (c + d + m) k := by
  funext j
  unfold ownM
  by_cases h1 : c + d < j ∧ j ≤ c + d + m
  · rw [if_pos h1, if_pos (by omega)]
  · rw [if_neg h1]
    by_cases h2 : c < j ∧ j ≤ c + d
    · rw [if_pos h2, if_pos (by omega)]
    · rw [if_neg h2, if_neg (by omega)]
theorem found_step {gap c : Int} {own : Int → Int} {t : St.T} (hg : 1 ≤ gap ∧ gap ≤ 100) (o : OwT c own) {m k : Int} (hm : 1 ≤ m) (hcm : c + m ≤ 350) (hk : 2 ≤ k ∧ k ≤ 1000) (hf : St.Fine t) {r : Nat} (hr : r < (foundT gap c m).length)
    (h : RgT gap (ownM own c (c + doneT (foundT gap c m) r) k) t.toList) :
    St.moveR t (foundT gap c m)[r].1 (foundT gap c m)[r].2 1 k = 0 ∧ RgT gap (ownM own c (c + doneT (foundT gap c m) (r + 1)) k) (St.changedP t.toList (foundT gap c m)[r].1 (foundT gap c m)[r].2 (St.moveG k)) := by
  have hc := o.lo
  have key : ∀ (a l d : Int), 1 ≤ l → 0 ≤ d → 1 ≤ a → a + l - 1 ≤ 350 + gap → RgT gap (ownM own c (c + d) k) t.toList → (∀ n, (a ≤ n ∧ n ≤ a + l - 1) ↔ idxT gap n ≠ 0 ∧ c + d < idxT gap n ∧ idxT gap n ≤ c + d + l) → St.moveR t a l 1 k = 0 ∧ RgT gap (ownM own c (c + d + l) k) (St.changedP t.toList a l (St.moveG k)) := fun a l d hl hd ha hal hr hi => by
    have q := hr.move hg hf (lo := c + d) hl ha hal hk hi (fun j j1 j2 => by
      unfold ownM
      rw [if_neg (by omega)]
      exact o.rest j (by omega))
    rw [ownM_join own c d l k hd (by omega)] at q
    exact q
  revert hr h
  unfold foundT
  split
  · split
    · intro hr h
      have r0 : r = 0 := by simp at hr; omega
      subst r0
      simp only [doneT, List.getElem_cons_zero] at h ⊢
      have q := key (c + 1) m 0 hm (by omega) (by omega) (by omega) h (fun n => by
        rcases idx_cases gap n with q | q | q <;> omega)
      simpa using q
    · intro hr h
      have r01 : r = 0 ∨ r = 1 := by simp at hr; omega
      rcases r01 with rfl | rfl
      · simp only [doneT, List.getElem_cons_zero] at h ⊢
        have q := key (c + 1) (150 - c) 0 (by omega) (by omega) (by omega) (by omega) h (fun n => by
          rcases idx_cases gap n with q | q | q <;> omega)
        simpa using q
      · simp only [doneT, List.getElem_cons_succ, List.getElem_cons_zero] at h ⊢
        have q := key (151 + gap) (m - (150 - c)) (150 - c + 0) (by omega) (by omega) (by omega) (by omega) h (fun n => by
          rcases idx_cases gap n with q | q | q <;> omega)
        rw [show c + (150 - c + 0) + (m - (150 - c)) = c + (150 - c + (m - (150 - c) + 0)) by omega] at q
        exact q
  · intro hr h
    have r0 : r = 0 := by simp at hr; omega
    subst r0
    simp only [doneT, List.getElem_cons_zero] at h ⊢
    have q := key (c + 1 + gap) m 0 hm (by omega) (by omega) (by omega) h (fun n => by
      rcases idx_cases gap n with q | q | q <;> omega)
    simpa using q
theorem found_all {gap c m : Int} : doneT (foundT gap c m) (foundT gap c m).length = m := by
  unfold foundT
  split
  · split
    · simp [doneT]
    · simp [doneT]; omega
  · simp [doneT]
theorem found_len (gap c m : Int) : (foundT gap c m).length ≤ 2 := by
  unfold foundT
  split
  · split <;> simp
  · simp
theorem OwT.next {c : Int} {own : Int → Int} (o : OwT c own) {m k : Int} (hm : 1 ≤ m) (hcm : c + m ≤ 350) (hk : 2 ≤ k) : OwT (c + m) (ownM own c (c + m) k) := by
  have := o.lo
  refine ⟨by omega, fun j hj => ?_, fun j h1 h2 => ?_⟩
  · unfold ownM; rw [if_neg (by omega)]; exact o.rest j (by omega)
  · unfold ownM
    split
    · omega
    · exact o.given j h1 (by omega)
def cntN (f : Int → Bool) (a : Int) : Nat → Int
  | 0 => 0
  | k + 1 => cntN f a k + if f (a + k) = true then 1 else 0
theorem cntN_add (f : Int → Bool) (a : Int) (k : Nat) : ∀ l, cntN f a (k + l) = cntN f a k + cntN f (a + k) l
  | 0 => by simp [cntN]
  | l + 1 => by
    rw [← Nat.add_assoc, cntN, cntN_add f a k l, cntN]
    rw [show a + ((k + l : Nat) : Int) = a + k + l by push_cast; omega]
    omega
theorem cntN_span {f : Int → Bool} {a lo hi : Int} : ∀ k : Nat, (∀ n, a ≤ n → n < a + k → (f n = true ↔ lo ≤ n ∧ n < hi)) → cntN f a k = max 0 (min (a + k) hi - max a lo)
  | 0, _ => by simp only [cntN]; omega
  | k + 1, h => by
    have ih := cntN_span k (fun n h1 h2 => h n h1 (by push_cast; omega))
    have hk := h (a + k) (by omega) (by push_cast; omega)
    rw [cntN, ih]
    split
    · rename_i c; have := hk.1 c; push_cast; omega
    · rename_i c
      have : ¬ (lo ≤ a + (k : Int) ∧ a + (k : Int) < hi) := fun q => c (hk.2 q)
      push_cast; omega
theorem sumP_cnt (is : St.Cl → Bool) : ∀ {L : List St.Pc} {a b : Int}, St.Tiles L a b → ∀ k : Nat, a + k = b + 1 → St.sumP is L = cntN (fun n => is (St.valL L n)) a k
  | [], a, b, h, k, hk => by
    simp only [St.Tiles] at h
    obtain rfl : k = 0 := by omega
    rfl
  | p :: l, a, b, ⟨h1, h2, h3⟩, k, hk => by
    have hle := h3.le
    obtain ⟨x, hx⟩ : ∃ x : Nat, (x : Int) = p.to - p.from_ + 1 := ⟨(p.to - p.from_ + 1).toNat, by omega⟩
    obtain ⟨y, rfl⟩ : ∃ y, k = x + y := ⟨k - x, by omega⟩
    have ih := sumP_cnt is h3 y (by push_cast at hk; omega)
    rw [cntN_add]
    have e1 : cntN (fun n => is (St.valL (p :: l) n)) a x = if is p.cell = true then p.to - p.from_ + 1 else 0 := by
      have hc : ∀ n, a ≤ n → n < a + x → St.valL (p :: l) n = p.cell := fun n n1 n2 => by simp only [St.valL]; rw [if_pos (by omega)]
      by_cases q : is p.cell = true
      · rw [if_pos q, cntN_span (lo := a) (hi := a + x) x (fun n n1 n2 => by rw [hc n n1 n2]; exact ⟨fun _ => ⟨n1, n2⟩, fun _ => q⟩)]
        omega
      · rw [if_neg q, cntN_span (lo := a) (hi := a) x (fun n n1 n2 => by rw [hc n n1 n2]; exact ⟨fun z => absurd z q, fun z => by omega⟩)]
        omega
    have e2 : ∀ (j : Nat) (f g : Int → Bool) (s : Int), (∀ n, s ≤ n → f n = g n) → cntN f s j = cntN g s j := fun j f g s hfg => by
      induction j with
      | zero => rfl
      | succ j ihj => rw [cntN, cntN, ihj, hfg (s + j) (by omega)]
    rw [e1, show a + (x : Int) = p.to + 1 by omega, e2 y _ (fun n => is (St.valL l n)) (p.to + 1) (fun n hn => by simp only [St.valL]; rw [if_neg (by omega)]), ← ih]
    rfl
theorem RgT.count {gap : Int} {own : Int → Int} {L : List St.Pc} (hg : 1 ≤ gap ∧ gap ≤ 100) (r : RgT gap own L) {k lo hi : Int} (hlh : 0 ≤ lo ∧ lo ≤ hi ∧ hi ≤ 350) (h : ∀ j, 1 ≤ j → j ≤ 350 → (own j = k ↔ lo < j ∧ j ≤ hi)) : St.sumP (St.ownB k) L = hi - lo := by
  rw [sumP_cnt _ r.tiles 1000000 (by omega)]
  have hv : ∀ n, 1 ≤ n → n ≤ 1000000 → (St.ownB k (St.valL L n) = true ↔ idxT gap n ≠ 0 ∧ lo < idxT gap n ∧ idxT gap n ≤ hi) := fun n n1 n2 => by
    rw [r.val n n1 n2]
    unfold valT
    by_cases z : idxT gap n = 0
    · rw [if_pos z]; simp [St.ownB, St.cl0, z]
    · rw [if_neg z]
      have hr : 1 ≤ idxT gap n ∧ idxT gap n ≤ 350 := by rcases idx_cases gap n with q | q | q <;> omega
      simp only [St.ownB, decide_true, Bool.true_and, decide_eq_true_eq]
      rw [h _ hr.1 hr.2]
      exact ⟨fun q => ⟨z, q⟩, fun q => q.2⟩
  obtain ⟨g, hgn⟩ : ∃ g : Nat, (g : Int) = gap := ⟨gap.toNat, by omega⟩
  obtain ⟨z, hz⟩ : ∃ z : Nat, 150 + (g + (200 + z)) = 1000000 := ⟨1000000 - 350 - g, by omega⟩
  rw [← hz, cntN_add, cntN_add, cntN_add]
  rw [cntN_span (lo := lo + 1) (hi := hi + 1) 150 (fun n n1 n2 => by
    rw [hv n (by omega) (by omega)]
    rcases idx_cases gap n with q | q | q <;> omega)]
  rw [cntN_span (lo := 0) (hi := 0) g (fun n n1 n2 => by
    rw [hv n (by omega) (by omega)]
    rcases idx_cases gap n with q | q | q <;> omega)]
  rw [cntN_span (lo := lo + gap + 1) (hi := hi + gap + 1) 200 (fun n n1 n2 => by
    rw [hv n (by omega) (by omega)]
    rcases idx_cases gap n with q | q | q <;> omega)]
  rw [cntN_span (lo := 0) (hi := 0) z (fun n n1 n2 => by
    rw [hv n (by omega) (by omega)]
    rcases idx_cases gap n with q | q | q <;> omega)]
  omega
end Go.Proofs.YtepldjidkomclaaGreat
