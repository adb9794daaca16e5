/- Lengths of pieces in some state; holds of a canonical tiling; who owns a pocket. No program in sight. -/
import Derived.Test.YtnnbdjfeagcbdaaAsk
import Derived.Test.YtnnbdjfeagcbdaaLaw0
import Derived.Test.YtnnbdjfeagcbdaaUniq
import Derived.Test.YtnnbdjfeagcbdaaPocket
namespace Go.Proofs.Ytnnbdjfeagcbdaa
set_option linter.unusedSimpArgs false
set_option linter.unusedVariables false
open Go.RowKit

/-- How many pockets the pieces in some states have. -/
def sumP (is : Cl → Bool) : List Pc → Int
  | [] => 0
  | p :: l => (if is p.cell = true then p.to - p.from_ + 1 else 0) + sumP is l
theorem sumP_append (is : Cl → Bool) : ∀ l m : List Pc, sumP is (l ++ m) = sumP is l + sumP is m
  | [], m => by simp [sumP]
  | p :: l, m => by simp only [List.cons_append, sumP, sumP_append is l m]; omega
theorem sumP_appP (is : Cl → Bool) : ∀ (l : List Pc) (p : Pc), sumP is (appP l p) = sumP is l + (if is p.cell = true then p.to - p.from_ + 1 else 0)
  | [], p => by simp [appP, sumP]
  | [q], p => by
    rw [appP_one]
    split
    · rename_i h
      simp only [sumP, h.1]
      split <;> omega
    · simp only [sumP]; omega
  | q :: r :: l, p => by
    rw [appP_cons _ _ _ (by simp)]
    simp only [sumP, sumP_appP is (r :: l) p]
    omega
theorem sumP_all (is : Cl → Bool) (l : List Pc) : cntL (allP is l) = sumP is l := by
  have c : ∀ m : List Pc, cntL m = sumP (fun _ => true) m := by
    intro m
    induction m with
    | nil => rfl
    | cons p m ih => simp [cntL, sumP, ih]
  rw [c]
  have key : ∀ (l acc : List Pc), sumP (fun _ => true) (l.foldl (fun acc p => if is p.cell then appP acc p else acc) acc) = sumP (fun _ => true) acc + sumP is l := by
    intro l
    induction l with
    | nil => intro acc; simp [sumP]
    | cons p l ih =>
      intro acc
      rw [List.foldl_cons, ih]
      simp only [sumP]
      split
      · rename_i h
        rw [sumP_appP]; simp; omega
      · rename_i h
        omega
  have := key l []
  rw [show allP is l = l.foldl (fun acc p => if is p.cell then appP acc p else acc) [] from rfl, this]
  simp [sumP]
theorem sumP_join (is : Cl → Bool) (l m : List Pc) : sumP is (joinP l m) = sumP is l + sumP is m := by
  cases m with
  | nil => simp [joinP, sumP]
  | cons p r => rw [joinP, sumP_append, sumP_appP]; simp only [sumP]; omega
theorem sumP_own (is : Cl → Bool) (g : Cl → Cl) (l : List Pc) : sumP is (ownP g l) = sumP (fun c => is (g c)) l := by
  have key : ∀ (l acc : List Pc), sumP is (l.foldl (fun acc p => appP acc ⟨p.from_, p.to, g p.cell⟩) acc) = sumP is acc + sumP (fun c => is (g c)) l := by
    intro l
    induction l with
    | nil => intro acc; simp [sumP]
    | cons p l ih => intro acc; rw [List.foldl_cons, ih, sumP_appP]; simp only [sumP]; omega
  have := key l []
  rw [show ownP g l = l.foldl (fun acc p => appP acc ⟨p.from_, p.to, g p.cell⟩) [] from rfl, this]
  simp [sumP]
theorem sumP_split (is : Cl → Bool) : ∀ (l : List Pc) (x : Int), sumP is (splitP l x).1 + sumP is (splitP l x).2 = sumP is l
  | [], x => by simp [splitP, sumP]
  | p :: l, x => by
    simp only [splitP]
    split
    · simp [sumP]
    · split
      · have := sumP_split is l x
        simp only [sumP]; omega
      · simp only [sumP]; split <;> omega
theorem sumP_const {l : List Pc} {a b : Int} (h : Tiles l a b) : sumP (fun _ => true) l = b + 1 - a := by
  induction l generalizing a with
  | nil => simp only [Tiles] at h; simp [sumP]; omega
  | cons p l ih => obtain ⟨h1, h2, h3⟩ := h; simp [sumP, ih h3]; omega
theorem sumP_congr {is js : Cl → Bool} {l : List Pc} (h : ∀ p ∈ l, is p.cell = js p.cell) : sumP is l = sumP js l := by
  induction l with
  | nil => rfl
  | cons p l ih => simp only [sumP, h p (by simp), ih (fun q hq => h q (by simp [hq]))]
theorem sumP_false {l : List Pc} : sumP (fun _ => false) l = 0 := by
  induction l with
  | nil => rfl
  | cons p l ih => simp [sumP, ih]
theorem sumP_or {is js : Cl → Bool} (l : List Pc) (h : ∀ c, ¬ (is c = true ∧ js c = true)) : sumP (fun c => is c || js c) l = sumP is l + sumP js l := by
  induction l with
  | nil => rfl
  | cons p l ih =>
    simp only [sumP, ih]
    have := h p.cell
    by_cases h1 : is p.cell = true <;> by_cases h2 : js p.cell = true <;> simp_all <;> omega
theorem sumP_bound {is : Cl → Bool} {l : List Pc} {a b : Int} (h : Tiles l a b) : 0 ≤ sumP is l ∧ sumP is l ≤ b + 1 - a := by
  induction l generalizing a with
  | nil => simp only [Tiles] at h; simp [sumP]; omega
  | cons p l ih =>
    obtain ⟨h1, h2, h3⟩ := h
    have := ih h3
    simp only [sumP]
    split <;> omega

/-- The pieces of a span, whole. -/
def midP (l : List Pc) (a c : Int) : List Pc := (splitP (splitP l a).2 (a + c)).1
theorem sumP_changed (is : Cl → Bool) (g : Cl → Cl) (l : List Pc) (a c : Int) : sumP is (changedP l a c g) = sumP is l - sumP is (midP l a c) + sumP (fun d => is (g d)) (midP l a c) := by
  have h1 := sumP_split is l a
  have h2 := sumP_split is (splitP l a).2 (a + c)
  rw [changedP, sumP_join, sumP_join, sumP_own]
  unfold midP
  omega
theorem Tiles.val : ∀ {l : List Pc} {a b : Int}, Tiles l a b → ∀ p ∈ l, ∀ n, p.from_ ≤ n → n ≤ p.to → valL l n = p.cell
  | [], _, _, _ => by simp
  | q :: l, a, b, ⟨h1, h2, h3⟩ => by
    intro p hp n hn1 hn2
    rcases List.mem_cons.1 hp with rfl | hp
    · rw [valL, if_pos ⟨hn1, hn2⟩]
    · have := h3.mem p hp
      rw [valL, if_neg (by omega)]
      exact h3.val p hp n hn1 hn2
theorem midP_tiles {l : List Pc} {a c : Int} (h : Tiles l 1 1000000) (ha : 1 ≤ a) (hc : 1 ≤ c) (hac : a + c - 1 ≤ 1000000) : Tiles (midP l a c) a (a + c - 1) :=
  (splitP_tiles (splitP_tiles h a ha (by omega)).2 (a + c) (by omega) (by omega)).1
theorem midP_val {l : List Pc} {a c : Int} (h : Tiles l 1 1000000) (ha : 1 ≤ a) (hc : 1 ≤ c) (hac : a + c - 1 ≤ 1000000) : ∀ p ∈ midP l a c, p.cell = valL l p.from_ ∧ a ≤ p.from_ ∧ p.from_ ≤ p.to ∧ p.to ≤ a + c - 1 := by
  intro p hp
  have ht := midP_tiles h ha hc hac
  have hm := ht.mem p hp
  have hv := ht.val p hp p.from_ (by omega) (by omega)
  have h1 := splitP_tiles h a ha (by omega)
  have v1 := splitP_val h a ha (by omega) p.from_
  have v2 := splitP_val h1.2 (a + c) (by omega) (by omega) p.from_
  rw [show midP l a c = (splitP (splitP l a).2 (a + c)).1 from rfl, v2.1, if_pos (by omega), v1.2, if_neg (by omega)] at hv
  exact ⟨hv.symm, hm⟩
/-- What a check of a span's pieces says of its pockets. -/
theorem firstE_zero (e : Cl → Int) : ∀ l : List Pc, firstE e l = 0 → ∀ p ∈ l, e p.cell = 0
  | [], _ => by simp
  | p :: l, h => by
    simp only [firstE] at h
    intro q hq
    by_cases h0 : e p.cell = 0
    · rw [if_neg (by simpa using h0)] at h
      rcases List.mem_cons.1 hq with rfl | hq
      · exact h0
      · exact firstE_zero e l h q hq
    · rw [if_pos h0] at h
      exact absurd h h0
theorem visP_zero {l : List Pc} {a b x y n : Int} (h : Tiles l x y) (e : Cl → Int) (hz : firstE e (visP l a b) = 0) (hx : x ≤ n) (hy : n ≤ y) (h1 : a ≤ n) (h2 : n ≤ b) : e (valL l n) = 0 := by
  obtain ⟨p, hp, hn⟩ := h.covers hx hy
  rw [h.val p hp n hn.1 hn.2]
  have := firstE_zero e _ hz (p.cut a b) (by
    simp only [visP, List.mem_filterMap]
    exact ⟨p, hp, by rw [cutP, if_pos (by omega)]⟩)
  exact this

/-! ### Holds of a canonical tiling -/
theorem canon_ne : ∀ {l : List Pc} {a b : Int}, Tiles l a b → Canon l → ∀ p ∈ l, ∀ q ∈ l, p.to + 1 = q.from_ → p.cell ≠ q.cell
  | [], _, _, _, _ => by simp
  | r :: l, a, b, ht, hc => by
    intro p hp q hq e
    obtain ⟨h1, h2, h3⟩ := ht
    have key := canon_ne h3 hc.tail
    have mem := h3.mem
    rcases List.mem_cons.1 hp with hp1 | hp1
    · subst hp1
      rcases List.mem_cons.1 hq with hq | hq
      · subst hq; omega
      · cases l with
        | nil => simp at hq
        | cons s l =>
          rcases List.mem_cons.1 hq with hq | hq
          · subst hq; intro hcell; exact hc.1 hcell e
          · have hs := h3.1
            have hs2 := h3.2.1
            have := h3.2.2.mem q hq
            omega
    · rcases List.mem_cons.1 hq with hq | hq
      · subst hq
        have := mem p hp1
        omega
      · exact key p hp1 q hq e
theorem appP_new : ∀ (l : List Pc) (p : Pc), (∀ q ∈ l, q.cell = p.cell → q.to + 1 ≠ p.from_) → appP l p = l ++ [p]
  | [], p, _ => rfl
  | [q], p, h => by rw [appP_one, if_neg (fun e => h q (by simp) e.1 e.2)]; rfl
  | q :: r :: l, p, h => by rw [appP_cons _ _ _ (by simp), appP_new (r :: l) p (fun x hx => h x (by simp only [List.mem_cons] at hx ⊢; exact .inr hx))]; rfl
theorem allP_filter (is : Cl → Bool) {l : List Pc} {a b : Int} (ht : Tiles l a b) (hc : Canon l) : allP is l = l.filter (fun p => is p.cell) := by
  have key : ∀ r m : List Pc, l = m ++ r → allP is m = m.filter (fun p => is p.cell) → allP is (m ++ r) = (m ++ r).filter (fun p => is p.cell) := by
    intro r
    induction r with
    | nil => intro m _ h; simpa using h
    | cons p r ih =>
      intro m e hm
      have := ih (m ++ [p]) (by rw [e]; simp) (by
        rw [allP_snoc, hm, List.filter_append]
        by_cases h : is p.cell = true
        · rw [if_pos h, appP_new]
          · simp [h]
          · intro q hq hcell hto
            exact canon_ne ht hc q (by rw [e]; have := (List.mem_filter.1 hq).1; simp [this]) p (by rw [e]; simp) hto hcell
        · rw [if_neg h]; simp [h])
      simpa using this
  exact key l [] (by simp) rfl

/-! ### Who owns a pocket -/
/-- The owners of the pockets, as far as they are marked: those below m, and m's own below x. -/
def mark (l : List Pc) (m x : Int) (k : Int) : Int := if (valL l k).state = 1 ∧ ((valL l k).owner < m ∨ (valL l k).owner = m ∧ k < x) then (valL l k).owner else 0
def markA (l : List Pc) (m x : Int) : Array Value := ((List.range 80).map fun (k : Nat) => Value.int .i64 (mark l m x (k : Int))).toArray
theorem markA_get (l : List Pc) (m x : Int) (k : Nat) (hk : k < 80) : (markA l m x)[k]? = some (.int .i64 (mark l m x k)) := by
  simp [markA, hk]
theorem markA_congr {l : List Pc} {m x m' x' : Int} (h : ∀ k : Nat, k < 80 → mark l m x k = mark l m' x' k) : markA l m x = markA l m' x' := by
  unfold markA
  congr 1
  apply List.map_congr_left
  intro k hk
  rw [h k (by simpa using hk)]
theorem markA_set {l : List Pc} {m : Int} {k : Nat} (hk : k < 80) (h1 : (valL l k).state = 1) (h2 : (valL l k).owner = m) : (markA l m k).setIfInBounds k (.int .i64 m) = markA l m ((k : Int) + 1) := by
  apply Array.ext_getElem?
  intro j
  rw [Array.getElem?_setIfInBounds]
  by_cases hj : k = j
  · subst hj
    rw [if_pos rfl, if_pos (by simp [markA]; omega), markA_get _ _ _ _ hk, mark, if_pos ⟨h1, .inr ⟨h2, by omega⟩⟩, h2]
  · rw [if_neg hj]
    by_cases hj8 : j < 80
    · rw [markA_get _ _ _ _ hj8, markA_get _ _ _ _ hj8]
      congr 2
      unfold mark
      by_cases h : (valL l (j : Int)).state = 1 ∧ ((valL l (j : Int)).owner < m ∨ (valL l (j : Int)).owner = m ∧ (j : Int) < k)
      · rw [if_pos h, if_pos ⟨h.1, h.2.imp id (fun g => ⟨g.1, by omega⟩)⟩]
      · rw [if_neg h, if_neg (fun g => h ⟨g.1, g.2.imp id (fun g => ⟨g.1, by omega⟩)⟩)]
    · simp [markA, hj8]
theorem mark_zero {l : List Pc} {m : Int} {k : Nat} (h2 : (valL l k).owner = m) : mark l m k k = 0 := by
  unfold mark; rw [if_neg]; omega

/-- What the acts keep of the last version: its tiles, canonical; who is in is owned by 1 to 4 and lies in front. -/
structure Kept (l : List Pc) : Prop where
  tiles : Tiles l 1 1000000
  canon : Canon l
  owner : ∀ n, (valL l n).state = 1 → 1 ≤ (valL l n).owner ∧ (valL l n).owner ≤ 4 ∧ 1 ≤ n ∧ n < 80
def inC (c : Cl) : Bool := decide (c.state = 1)
theorem Kept.changed {l : List Pc} (h : Kept l) (a c : Int) (g : Cl → Cl) (ha : 1 ≤ a ∧ 1 ≤ c ∧ a + c - 1 ≤ 74)
    (hg : ∀ d, (g d).state = 1 → (d.state = 1 ∧ (g d).owner = d.owner) ∨ 1 ≤ (g d).owner ∧ (g d).owner ≤ 4) : Kept (changedP l a c g) where
  tiles := changedP_tiles g h.tiles ha.1 ha.2.1 (by omega)
  canon := changedP_canon g a c h.canon
  owner := by
    intro n
    rw [changedP_val g h.tiles ha.1 ha.2.1 (by omega) n]
    split
    · rename_i hn
      intro hs
      rcases hg _ hs with ⟨h1, h2⟩ | h1
      · have := h.owner n h1
        rw [h2]; exact this
      · omega
    · exact h.owner n
theorem Kept.sum {l : List Pc} (h : Kept l) : sumP (ownB 1) l + sumP (ownB 2) l + sumP (ownB 3) l + sumP (ownB 4) l = sumP inC l := by
  have e : sumP inC l = sumP (fun c => ((ownB 1 c || ownB 2 c) || ownB 3 c) || ownB 4 c) l := by
    refine sumP_congr fun p hp => ?_
    have hm := h.tiles.mem p hp
    have hv := h.tiles.val p hp p.from_ (by omega) (by omega)
    have ho := h.owner p.from_
    rw [hv] at ho
    unfold inC ownB
    by_cases hs : p.cell.state = 1
    · have := ho hs
      have hq : p.cell.owner = 1 ∨ p.cell.owner = 2 ∨ p.cell.owner = 3 ∨ p.cell.owner = 4 := by omega
      rcases hq with hq | hq | hq | hq <;> simp [hs, hq]
    · simp [hs]
  rw [e, sumP_or, sumP_or, sumP_or]
  all_goals
    intro c
    simp only [ownB, Bool.or_eq_true, Bool.and_eq_true, decide_eq_true_eq]
    omega
/-- An entry, a leave, any other change. -/
theorem sumP_enter {l : List Pc} (h : Kept l) {a c lot o : Int} (ha : 1 ≤ a ∧ 1 ≤ c ∧ a + c - 1 ≤ 1000000) (hz : firstE enterE (visP l a (a + c - 1)) = 0) : sumP inC (changedP l a c (enterG lot o)) = sumP inC l + c := by
  rw [sumP_changed]
  have hm := midP_val h.tiles ha.1 ha.2.1 ha.2.2
  have e1 : sumP inC (midP l a c) = 0 := by
    rw [← sumP_false (l := midP l a c)]
    refine sumP_congr fun p hp => ?_
    obtain ⟨h1, h2, h3, h4⟩ := hm p hp
    have := visP_zero h.tiles enterE hz (n := p.from_) (by omega) (by omega) h2 (by omega)
    rw [← h1] at this
    unfold enterE at this
    unfold inC
    split at this
    · omega
    · rename_i hs; simp; omega
  have e2 : sumP (fun d => inC (enterG lot o d)) (midP l a c) = c := by
    have := sumP_const (midP_tiles h.tiles ha.1 ha.2.1 ha.2.2)
    rw [show (fun d => inC (enterG lot o d)) = fun _ => true from rfl]
    omega
  omega
theorem sumP_leave {l : List Pc} (h : Kept l) {a c o : Int} (ha : 1 ≤ a ∧ 1 ≤ c ∧ a + c - 1 ≤ 1000000) (hz : firstE (ownedE o) (visP l a (a + c - 1)) = 0) : sumP inC (changedP l a c leaveG) = sumP inC l - c := by
  rw [sumP_changed]
  have hm := midP_val h.tiles ha.1 ha.2.1 ha.2.2
  have e1 : sumP inC (midP l a c) = c := by
    have := sumP_const (midP_tiles h.tiles ha.1 ha.2.1 ha.2.2)
    have e : sumP inC (midP l a c) = sumP (fun _ => true) (midP l a c) := by
      refine sumP_congr fun p hp => ?_
      obtain ⟨h1, h2, h3, h4⟩ := hm p hp
      have := visP_zero h.tiles (ownedE o) hz (n := p.from_) (by omega) (by omega) h2 (by omega)
      rw [← h1] at this
      unfold ownedE at this
      unfold inC
      by_cases hs : p.cell.state = 1
      · simp [hs]
      · rw [if_pos hs] at this; omega
    omega
  have e2 : sumP (fun d => inC (leaveG d)) (midP l a c) = 0 := by
    rw [show (fun d => inC (leaveG d)) = fun _ => false from rfl]
    exact sumP_false
  omega
theorem sumP_same {l : List Pc} (a c : Int) (g : Cl → Cl) (hg : ∀ d, (g d).state = d.state) : sumP inC (changedP l a c g) = sumP inC l := by
  rw [sumP_changed]
  have : (fun d => inC (g d)) = inC := by funext d; unfold inC; rw [hg]
  rw [this]; omega
/-- One pocket's state. -/
theorem endC_visP {l : List Pc} {a b n : Int} (h : Tiles l a b) (h1 : a ≤ n) (h2 : n ≤ b) : endC (visP l n n) = valL l n := by
  induction l generalizing a with
  | nil => simp only [Tiles] at h; omega
  | cons p l ih =>
    obtain ⟨e1, e2, e3⟩ := h
    rw [visP_cons]
    by_cases hn : n ≤ p.to
    · rw [if_pos (by omega), valL_head (by omega) hn, visP_high l n n (fun q hq => by have := e3.mem q hq; omega)]
      simp [endC, Pc.cut]
    · rw [if_neg (by omega), List.nil_append, valL_tail (by omega)]
      exact ih e3 (by omega)
end Go.Proofs.Ytnnbdjfeagcbdaa
