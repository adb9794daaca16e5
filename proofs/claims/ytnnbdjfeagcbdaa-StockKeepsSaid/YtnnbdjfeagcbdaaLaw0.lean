/- Tilings: lists of pieces that cover a span, one behind the other; their values; canonical ones. No program in sight. -/
import Derived.Test.YtnnbdjfeagcbdaaPlain
import Derived.Test.YtnnbdjfeagcbdaaAll0
namespace Go.Proofs.Ytnnbdjfeagcbdaa
set_option linter.unusedSimpArgs false
set_option linter.unusedVariables false

/-- The pieces cover a to b, one behind the other. -/
def Tiles : List Pc → Int → Int → Prop
  | [], a, b => a = b + 1
  | p :: l, a, b => p.from_ = a ∧ p.from_ ≤ p.to ∧ Tiles l (p.to + 1) b
theorem Tiles.le : ∀ {l : List Pc} {a b : Int}, Tiles l a b → a ≤ b + 1
  | [], _, _, h => by simp only [Tiles] at h; omega
  | _ :: _, _, _, ⟨h1, h2, h3⟩ => by have := h3.le; omega
theorem tiles_append : ∀ {l m : List Pc} {a b : Int}, Tiles (l ++ m) a b ↔ ∃ c, Tiles l a c ∧ Tiles m (c + 1) b
  | [], m, a, b => by
    simp only [List.nil_append, Tiles]
    exact ⟨fun h => ⟨a - 1, by omega, by rwa [Int.sub_add_cancel]⟩, fun ⟨c, h1, h2⟩ => by rwa [h1]⟩
  | p :: l, m, a, b => by
    simp only [List.cons_append, Tiles, tiles_append (l := l)]
    exact ⟨fun ⟨h1, h2, c, h3, h4⟩ => ⟨c, ⟨h1, h2, h3⟩, h4⟩, fun ⟨c, ⟨h1, h2, h3⟩, h4⟩ => ⟨h1, h2, c, h3, h4⟩⟩
theorem Tiles.mem : ∀ {l : List Pc} {a b : Int}, Tiles l a b → ∀ p ∈ l, a ≤ p.from_ ∧ p.from_ ≤ p.to ∧ p.to ≤ b
  | [], _, _, _ => by simp
  | q :: l, a, b, ⟨h1, h2, h3⟩ => by
    intro p hp
    have hle := h3.le
    rcases List.mem_cons.1 hp with rfl | hp
    · exact ⟨by omega, h2, by omega⟩
    · have := h3.mem p hp; omega
theorem Tiles.sorted {l : List Pc} {a b : Int} (h : Tiles l a b) (ha : 1 ≤ a) (hb : b ≤ 1000000) : Sorted l := by
  refine ⟨?_, fun p hp => by have := h.mem p hp; simp only [Pc.Good]; omega⟩
  induction l generalizing a with
  | nil => exact List.Pairwise.nil
  | cons q l ih =>
    obtain ⟨h1, h2, h3⟩ := h
    refine List.pairwise_cons.2 ⟨fun p hp => by have := h3.mem p hp; omega, ih h3 (by omega)⟩
theorem Tiles.few : ∀ {l : List Pc} {a b : Int}, Tiles l a b → (l.length : Int) ≤ b + 1 - a
  | [], _, _, h => by simp only [Tiles] at h; simp; omega
  | _ :: l, _, _, ⟨h1, h2, h3⟩ => by have := h3.few; simp only [List.length_cons]; omega

theorem splitP_tiles : ∀ {l : List Pc} {a b : Int}, Tiles l a b → ∀ x, a ≤ x → x ≤ b + 1 → Tiles (splitP l x).1 a (x - 1) ∧ Tiles (splitP l x).2 x b
  | [], a, b, h, x, h1, h2 => by simp only [Tiles] at h; simp only [splitP, Tiles]; omega
  | p :: l, a, b, ⟨e, hp, h⟩, x, h1, h2 => by
    simp only [splitP]
    split
    · rename_i hx
      have : x = a := by omega
      subst this
      exact ⟨by simp only [Tiles]; omega, e, hp, h⟩
    · rename_i hx
      split
      · rename_i hx2
        have ih := splitP_tiles h x (by omega) h2
        exact ⟨⟨e, hp, ih.1⟩, ih.2⟩
      · rename_i hx2
        refine ⟨⟨e, by simp only; omega, by simp only [Tiles]⟩, rfl, by simp only; omega, h⟩
theorem appP_tiles : ∀ {l : List Pc} {a b : Int} {p : Pc}, Tiles l a b → p.from_ = b + 1 → p.from_ ≤ p.to → Tiles (appP l p) a p.to
  | [], a, b, p, h, h1, h2 => by simp only [Tiles] at h; exact ⟨by omega, h2, by simp only [Tiles]⟩
  | [q], a, b, p, ⟨e, hq, h⟩, h1, h2 => by
    simp only [Tiles] at h
    rw [appP_one]
    split
    · exact ⟨e, by simp only; omega, by simp only [Tiles]⟩
    · exact ⟨e, hq, by omega, h2, by simp only [Tiles]⟩
  | q :: r :: l, a, b, p, ⟨e, hq, h⟩, h1, h2 => by
    rw [appP_cons _ _ _ (by simp)]
    exact ⟨e, hq, appP_tiles h h1 h2⟩
theorem joinP_tiles {l m : List Pc} {a b c : Int} (h : Tiles l a b) (hm : Tiles m (b + 1) c) : Tiles (joinP l m) a c := by
  cases m with
  | nil => simp only [Tiles] at hm; simp only [joinP]; have : b = c := by omega
           subst this; exact h
  | cons p r =>
    obtain ⟨h1, h2, h3⟩ := hm
    exact tiles_append.2 ⟨p.to, appP_tiles h h1 h2, h3⟩
theorem ownP_tiles (g : Cl → Cl) {l : List Pc} {a b : Int} (h : Tiles l a b) : Tiles (ownP g l) a b := by
  have key : ∀ (l acc : List Pc) (c : Int), Tiles acc a c → Tiles l (c + 1) b → Tiles (l.foldl (fun acc p => appP acc ⟨p.from_, p.to, g p.cell⟩) acc) a b := by
    intro l
    induction l with
    | nil => intro acc c h1 h2; simp only [Tiles] at h2; have : c = b := by omega
             subst this; exact h1
    | cons p l ih =>
      intro acc c h1 ⟨e, hp, h2⟩
      exact ih _ p.to (appP_tiles h1 e hp) h2
  exact key l [] (a - 1) (by simp [Tiles]) (by rwa [Int.sub_add_cancel])
theorem changedP_tiles (g : Cl → Cl) {l : List Pc} {a c : Int} (h : Tiles l 1 1000000) (ha : 1 ≤ a) (hc : 1 ≤ c) (hac : a + c - 1 ≤ 1000000) : Tiles (changedP l a c g) 1 1000000 := by
  have h1 := splitP_tiles h a ha (by omega)
  have h2 := splitP_tiles h1.2 (a + c) (by omega) (by omega)
  have h3 := ownP_tiles g h2.1
  have h4 : Tiles (joinP (splitP l a).1 (ownP g (splitP (splitP l a).2 (a + c)).1)) 1 (a + c - 1) := joinP_tiles h1.1 (by rw [Int.sub_add_cancel]; exact h3)
  exact joinP_tiles h4 (by rw [Int.sub_add_cancel]; exact h2.2)

/-- The state of a pocket. -/
def cl0 : Cl := ⟨0, 0, 0, 0⟩
def valL : List Pc → Int → Cl
  | [], _ => cl0
  | p :: l, n => if p.from_ ≤ n ∧ n ≤ p.to then p.cell else valL l n
theorem valL_out : ∀ {l : List Pc} {n : Int}, (∀ p ∈ l, ¬ (p.from_ ≤ n ∧ n ≤ p.to)) → valL l n = cl0
  | [], _, _ => rfl
  | p :: l, n, h => by rw [valL, if_neg (h p (by simp)), valL_out (fun q hq => h q (by simp [hq]))]
theorem valL_append {l m : List Pc} {n : Int} : ((∃ p ∈ l, p.from_ ≤ n ∧ n ≤ p.to) → valL (l ++ m) n = valL l n) ∧ ((∀ p ∈ l, ¬ (p.from_ ≤ n ∧ n ≤ p.to)) → valL (l ++ m) n = valL m n) := by
  induction l with
  | nil => simp
  | cons p l ih =>
    simp only [List.cons_append, valL]
    by_cases h : p.from_ ≤ n ∧ n ≤ p.to
    · refine ⟨fun _ => by rw [if_pos h, if_pos h], fun hh => absurd h (hh p (by simp))⟩
    · rw [if_neg h, if_neg h]
      refine ⟨fun ⟨q, hq, hh⟩ => ih.1 ⟨q, ?_, hh⟩, fun hh => ih.2 fun q hq => hh q (by simp [hq])⟩
      rcases List.mem_cons.1 hq with e | hq
      · exact absurd (e ▸ hh) h
      · exact hq
theorem Tiles.covers : ∀ {l : List Pc} {a b n : Int}, Tiles l a b → a ≤ n → n ≤ b → ∃ p ∈ l, p.from_ ≤ n ∧ n ≤ p.to
  | [], _, _, _, h, _, _ => by simp only [Tiles] at h; omega
  | q :: l, a, b, n, ⟨e, hq, h⟩, h1, h2 => by
    by_cases hn : n ≤ q.to
    · exact ⟨q, by simp, by omega, hn⟩
    · obtain ⟨p, hp, hh⟩ := h.covers (n := n) (by omega) h2
      exact ⟨p, by simp [hp], hh⟩
theorem valL_tiles_append {l m : List Pc} {a b c n : Int} (h : Tiles l a b) (hm : Tiles m (b + 1) c) : valL (l ++ m) n = if n ≤ b then valL l n else valL m n := by
  by_cases h1 : a ≤ n ∧ n ≤ b
  · rw [valL_append.1 (h.covers h1.1 h1.2), if_pos h1.2]
  · have hno : ∀ p ∈ l, ¬ (p.from_ ≤ n ∧ n ≤ p.to) := fun p hp hh => by have := h.mem p hp; omega
    rw [valL_append.2 hno]
    by_cases h2 : n ≤ b
    · rw [if_pos h2, valL_out hno, valL_out (fun p hp hh => by have := hm.mem p hp; have := h.le; omega)]
    · rw [if_neg h2]
theorem appP_val : ∀ {l : List Pc} {a b : Int} {p : Pc} {n : Int}, Tiles l a b → p.from_ = b + 1 → p.from_ ≤ p.to → valL (appP l p) n = if n ≤ b then valL l n else valL [p] n
  | [], a, b, p, n, h, h1, h2 => by
    simp only [appP]
    split
    · simp only [valL]; rw [if_neg (by omega)]
    · rfl
  | [q], a, b, p, n, ⟨e, hq, h⟩, h1, h2 => by
    simp only [Tiles] at h
    rw [appP_one]
    split
    · rename_i hc
      simp only [valL, hc.1]
      by_cases x1 : n ≤ b <;> by_cases x2 : q.from_ ≤ n <;> by_cases x3 : n ≤ q.to <;> by_cases x4 : n ≤ p.to <;> by_cases x5 : p.from_ ≤ n <;> simp [x1, x2, x3, x4, x5] <;> omega
    · rename_i hc
      have := valL_tiles_append (l := [q]) (m := [p]) (a := a) (b := b) (c := p.to) (n := n) ⟨e, hq, by simp only [Tiles]; omega⟩ ⟨h1, h2, by simp only [Tiles]⟩
      simpa using this
  | q :: r :: l, a, b, p, n, ⟨e, hq, h⟩, h1, h2 => by
    have hle := h.le
    have hr := h.2.1
    have hr2 := h.1
    have hle2 := h.2.2.le
    have e1 : valL (appP (q :: r :: l) p) n = if q.from_ ≤ n ∧ n ≤ q.to then q.cell else valL (appP (r :: l) p) n := by rw [appP_cons _ _ _ (by simp)]; rfl
    have e2 : valL (q :: r :: l) n = if q.from_ ≤ n ∧ n ≤ q.to then q.cell else valL (r :: l) n := rfl
    rw [e1, e2, appP_val h h1 h2]
    by_cases x1 : q.from_ ≤ n ∧ n ≤ q.to
    · rw [if_pos x1, if_pos x1, if_pos (by omega)]
    · rw [if_neg x1, if_neg x1]
theorem joinP_val {l m : List Pc} {a b c n : Int} (h : Tiles l a b) (hm : Tiles m (b + 1) c) : valL (joinP l m) n = if n ≤ b then valL l n else valL m n := by
  cases m with
  | nil =>
    simp only [joinP]
    split
    · rfl
    · exact valL_out (fun p hp hh => by have := h.mem p hp; omega)
  | cons p r =>
    obtain ⟨h1, h2, h3⟩ := hm
    rw [joinP, valL_tiles_append (appP_tiles h h1 h2) h3, appP_val h h1 h2]
    simp only [valL]
    by_cases x1 : n ≤ b
    · rw [if_pos (by omega), if_pos x1, if_pos x1]
    · rw [if_neg x1, if_neg x1]
      by_cases x2 : n ≤ p.to
      · rw [if_pos x2]
        by_cases x3 : p.from_ ≤ n
        · rw [if_pos ⟨x3, x2⟩, if_pos ⟨x3, x2⟩]
        · omega
      · rw [if_neg x2, if_neg (by omega)]
theorem splitP_val : ∀ {l : List Pc} {a b : Int}, Tiles l a b → ∀ x, a ≤ x → x ≤ b + 1 → ∀ n, valL (splitP l x).1 n = (if n < x then valL l n else cl0) ∧ valL (splitP l x).2 n = (if n < x then cl0 else valL l n)
  | [], a, b, h, x, h1, h2, n => by simp [splitP, valL]
  | p :: l, a, b, ⟨e, hp, h⟩, x, h1, h2, n => by
    simp only [splitP]
    split
    · rename_i hx
      have : x = p.from_ := by omega
      refine ⟨?_, ?_⟩
      · simp only [valL]
        split
        · rw [if_neg (by omega), valL_out (fun q hq hh => by have := h.mem q hq; omega)]
        · rfl
      · split
        · exact valL_out (fun q hq hh => by
            rcases List.mem_cons.1 hq with rfl | hq
            · omega
            · have := h.mem q hq; omega)
        · rfl
    · rename_i hx
      split
      · rename_i hx2
        have ih := splitP_val h x (by omega) h2 n
        refine ⟨?_, ?_⟩
        · simp only [valL, ih.1]
          by_cases x1 : p.from_ ≤ n ∧ n ≤ p.to
          · rw [if_pos x1, if_pos (by omega), if_pos x1]
          · rw [if_neg x1, if_neg x1]
        · simp only [valL, ih.2]
          by_cases x1 : p.from_ ≤ n ∧ n ≤ p.to
          · rw [if_pos (by omega), if_pos (by omega)]
          · rw [if_neg x1]
      · rename_i hx2
        have hl : n < x → valL l n = cl0 := fun hn => valL_out (fun q hq hh => by have := h.mem q hq; omega)
        refine ⟨?_, ?_⟩
        · simp only [valL]
          by_cases x1 : n < x
          · rw [if_pos x1, hl x1]
            by_cases x2 : p.from_ ≤ n
            · rw [if_pos ⟨x2, by omega⟩, if_pos ⟨x2, by omega⟩]
            · rw [if_neg (by omega), if_neg (by omega)]
          · rw [if_neg x1, if_neg (by omega)]
        · simp only [valL]
          by_cases x1 : n < x
          · rw [if_pos x1, if_neg (by omega), hl x1]
          · rw [if_neg x1]
            by_cases x2 : n ≤ p.to
            · rw [if_pos ⟨by omega, x2⟩, if_pos ⟨by omega, x2⟩]
            · rw [if_neg (by omega), if_neg (by omega)]
theorem ownP_val (g : Cl → Cl) {l : List Pc} {a b n : Int} (h : Tiles l a b) : valL (ownP g l) n = if a ≤ n ∧ n ≤ b then g (valL l n) else cl0 := by
  have key : ∀ (l acc : List Pc) (c : Int), Tiles acc a c → Tiles l (c + 1) b → valL (l.foldl (fun acc p => appP acc ⟨p.from_, p.to, g p.cell⟩) acc) n = if n ≤ c then valL acc n else if n ≤ b then g (valL l n) else cl0 := by
    intro l
    induction l with
    | nil =>
      intro acc c h1 h2
      simp only [Tiles] at h2
      simp only [List.foldl_nil, valL]
      split
      · rfl
      · rw [if_neg (by omega), valL_out (fun p hp hh => by have := h1.mem p hp; omega)]
    | cons p l ih =>
      intro acc c h1 ⟨e, hp, h2⟩
      rw [List.foldl_cons, ih (appP acc ⟨p.from_, p.to, g p.cell⟩) p.to (appP_tiles (p := ⟨p.from_, p.to, g p.cell⟩) h1 e hp) h2, appP_val (p := ⟨p.from_, p.to, g p.cell⟩) h1 e hp]
      simp only [valL]
      have := h2.le
      by_cases x1 : n ≤ c
      · rw [if_pos (by omega), if_pos x1, if_pos x1]
      · rw [if_neg x1, if_neg x1]
        by_cases x2 : n ≤ p.to
        · rw [if_pos x2, if_pos (by omega), if_pos (by omega), if_pos (by omega)]
        · rw [if_neg x2, if_neg (c := p.from_ ≤ n ∧ n ≤ p.to) (by omega)]
  have := key l [] (a - 1) (by simp [Tiles]) (by rwa [Int.sub_add_cancel])
  rw [show ownP g l = l.foldl (fun acc p => appP acc ⟨p.from_, p.to, g p.cell⟩) [] from rfl, this]
  simp only [valL]
  by_cases x1 : n ≤ a - 1
  · rw [if_pos x1, if_neg (by omega)]
  · rw [if_neg x1]
    by_cases x2 : n ≤ b
    · rw [if_pos x2, if_pos (by omega)]
    · rw [if_neg x2, if_neg (by omega)]
/-- What a change does to the pockets. -/
theorem changedP_val (g : Cl → Cl) {l : List Pc} {a c : Int} (h : Tiles l 1 1000000) (ha : 1 ≤ a) (hc : 1 ≤ c) (hac : a + c - 1 ≤ 1000000) (n : Int) :
    valL (changedP l a c g) n = if a ≤ n ∧ n ≤ a + c - 1 then g (valL l n) else valL l n := by
  have h1 := splitP_tiles h a ha (by omega)
  have h2 := splitP_tiles h1.2 (a + c) (by omega) (by omega)
  have h3 := ownP_tiles g h2.1
  have h3' : Tiles (ownP g (splitP (splitP l a).2 (a + c)).1) (a - 1 + 1) (a + c - 1) := by rw [Int.sub_add_cancel]; exact h3
  have h4 : Tiles (joinP (splitP l a).1 (ownP g (splitP (splitP l a).2 (a + c)).1)) 1 (a + c - 1) := joinP_tiles h1.1 h3'
  have v1 := splitP_val h a ha (by omega) n
  have v2 := splitP_val h1.2 (a + c) (by omega) (by omega) n
  rw [changedP, joinP_val h4 (by rw [Int.sub_add_cancel]; exact h2.2), joinP_val h1.1 h3', ownP_val g h2.1, v2.1, v2.2, v1.1, v1.2]
  by_cases x1 : n ≤ a + c - 1
  · rw [if_pos x1]
    by_cases x2 : n ≤ a - 1
    · rw [if_pos x2, if_pos (by omega), if_neg (by omega)]
    · rw [if_neg x2, if_pos (by omega), if_pos (by omega), if_neg (by omega), if_pos (by omega)]
  · rw [if_neg x1, if_neg (by omega), if_neg (by omega), if_neg (by omega)]

/-- Pieces that meet are in different states. -/
def Canon : List Pc → Prop
  | [] => True
  | [_] => True
  | p :: q :: l => (p.cell = q.cell → p.to + 1 ≠ q.from_) ∧ Canon (q :: l)
theorem Canon.tail {p : Pc} {l : List Pc} (h : Canon (p :: l)) : Canon l := by
  cases l with
  | nil => trivial
  | cons q l => exact h.2
theorem canon_cons_cell {p q : Pc} {l : List Pc} (h : Canon (p :: l)) (hc : p.cell = q.cell) (ht : p.to = q.to) : Canon (q :: l) := by
  cases l with
  | nil => trivial
  | cons r l => exact ⟨fun e => by rw [← ht]; exact h.1 (hc.trans e), h.2⟩
theorem appP_canon : ∀ {l : List Pc} (p : Pc), Canon l → Canon (appP l p)
  | [], p, _ => trivial
  | [q], p, _ => by
    rw [appP_one]
    split
    · trivial
    · rename_i hc
      exact ⟨fun e h => hc ⟨e, h⟩, trivial⟩
  | q :: r :: l, p, h => by
    have ih := appP_canon p h.2
    rw [appP_cons _ _ _ (by simp)]
    cases l with
    | nil =>
      rw [appP_one] at ih ⊢
      split at ih
      · rw [if_pos (by assumption)]; exact ⟨h.1, trivial⟩
      · rw [if_neg (by assumption)]; exact ⟨h.1, ih⟩
    | cons s l =>
      rw [appP_cons _ _ _ (by simp)] at ih ⊢
      exact ⟨h.1, ih⟩
theorem appP_last_cell (l : List Pc) (p : Pc) : ∃ m f, appP l p = m ++ [⟨f, p.to, p.cell⟩] := by
  rcases List.eq_nil_or_concat l with rfl | ⟨L, q, rfl⟩
  · exact ⟨[], p.from_, rfl⟩
  · rw [List.concat_eq_append, appP_last]
    split
    · rename_i hc; exact ⟨L, q.from_, by rw [hc.1]⟩
    · exact ⟨L ++ [q], p.from_, by simp⟩
theorem canon_join {m r : List Pc} {p q : Pc} (h : Canon (m ++ [p])) (hr : Canon (q :: r)) (hc : p.cell = q.cell) (ht : p.to = q.to) : Canon (m ++ p :: r) := by
  induction m with
  | nil => exact canon_cons_cell hr hc.symm ht.symm
  | cons a m ih =>
    have := ih h.tail
    cases m with
    | nil => exact ⟨h.1, this⟩
    | cons b m => exact ⟨h.1, this⟩
theorem joinP_canon {l m : List Pc} (h : Canon l) (hm : Canon m) : Canon (joinP l m) := by
  cases m with
  | nil => exact h
  | cons p r =>
    have h1 := appP_canon p h
    obtain ⟨m', f, hm'⟩ := appP_last_cell l p
    rw [hm'] at h1
    rw [joinP, hm', List.append_assoc]
    exact canon_join h1 hm rfl rfl
theorem ownP_canon (g : Cl → Cl) (l : List Pc) : Canon (ownP g l) := by
  have key : ∀ (l acc : List Pc), Canon acc → Canon (l.foldl (fun acc p => appP acc ⟨p.from_, p.to, g p.cell⟩) acc) := by
    intro l
    induction l with
    | nil => intro acc h; exact h
    | cons p l ih => intro acc h; exact ih _ (appP_canon _ h)
  exact key l [] trivial
theorem splitP_canon : ∀ {l : List Pc} (x : Int), Canon l → Canon (splitP l x).1 ∧ Canon (splitP l x).2
  | [], x, _ => ⟨trivial, trivial⟩
  | p :: l, x, h => by
    simp only [splitP]
    split
    · exact ⟨trivial, h⟩
    · split
      · have ih := splitP_canon x h.tail
        refine ⟨?_, ih.2⟩
        cases l with
        | nil => exact trivial
        | cons q l =>
          simp only [splitP] at ih ⊢
          split
          · trivial
          · rename_i hx
            rw [if_neg hx] at ih
            split
            · rename_i h2
              rw [if_pos h2] at ih
              exact ⟨h.1, ih.1⟩
            · exact ⟨h.1, trivial⟩
      · exact ⟨trivial, canon_cons_cell h rfl rfl⟩
theorem changedP_canon (g : Cl → Cl) {l : List Pc} (a c : Int) (h : Canon l) : Canon (changedP l a c g) := by
  have h1 := splitP_canon a h
  have h2 := splitP_canon (a + c) h1.2
  exact joinP_canon (joinP_canon h1.1 (ownP_canon g _)) h2.2
end Go.Proofs.Ytnnbdjfeagcbdaa
