/- What becomes of a total when one bidder's lots change. No program in sight. The payments, and why nobody gains by lying. No program in sight. BidTruth in plain Lean. No program in sight. -/
import Derived.Test.YtojednnciknhpaaDoorJMem
namespace Go.Proofs.YtojednnciknhpaaDoor
set_option linter.unusedSimpArgs false
set_option linter.unusedVariables false
open Go.RowKit
/-- Two sets without a common lot that are a set together. -/
def UnN (s a b : Nat) : Prop := ∀ i, s.testBit i = (a.testBit i || b.testBit i) ∧ ¬ (a.testBit i = true ∧ b.testBit i = true)
theorem rsv_union : ∀ (res : List Int) {s a b : Nat}, UnN s a b → rsvF res s = rsvF res a + rsvF res b
  | [], _, _, _, _ => rfl
  | r :: l, s, a, b, h => by
    have ih := rsv_union l (s := s / 2) (a := a / 2) (b := b / 2) fun i => by
      have := h (i + 1)
      simpa only [Nat.testBit_succ] using this
    have h0 := h 0
    simp only [Nat.testBit_zero] at h0
    simp only [rsvF]
    rw [ih]
    obtain ⟨g1, g2⟩ := h0
    have q : ∀ n : Nat, n % 2 = 0 ∨ n % 2 = 1 := fun n => by omega
    rcases q a with x | x <;> rcases q b with y | y
    · have z : s % 2 = 0 := by rw [x, y] at g1; simp at g1; omega
      rw [x, y, z]; simp
    · have z : s % 2 = 1 := by rw [x, y] at g1; simpa using g1
      rw [x, y, z]; simp; omega
    · have z : s % 2 = 1 := by rw [x, y] at g1; simpa using g1
      rw [x, y, z]; simp; omega
    · rw [x, y] at g2; simp at g2
def sml (a : Nat) : Prop := a < 4294967296
/-- More lots are free: they are left. -/
theorem tot_more {res : List Int} : ∀ (l : List (List Of)) (c : List Int) {s s' e : Nat} {v : Int}, sml s → sml s' → sml e → (∀ os ∈ l, ∀ o ∈ os, sml o.lots) → UnN s' s e → totF res l c s = some v → totF res l c s' = some (v + rsvF res e)
  | [], c, s, s', e, v, _, _, _, _, h, ht => by
    simp only [totF] at ht ⊢
    injection ht with ht
    rw [rsv_union res h, ← ht]
  | os :: r, [], s, s', e, v, _, _, _, _, _, ht => by simp [totF] at ht
  | os :: r, k :: c, s, s', e, v, h1, h2, h3, hl, h, ht => by
    have hl' : ∀ os ∈ r, ∀ o ∈ os, sml o.lots := fun x hx => hl x (List.mem_cons_of_mem _ hx)
    simp only [totF] at ht ⊢
    split at ht
    · rename_i q
      rw [if_pos q]
      exact tot_more r c h1 h2 h3 hl' h ht
    · rename_i q
      rw [if_neg q]
      cases ho : os[k.toNat]? with
      | none => rw [ho] at ht; cases ht
      | some o =>
        rw [ho] at ht
        simp only at ht ⊢
        have hos : sml o.lots := hl os List.mem_cons_self o (List.mem_of_getElem? ho)
        split at ht
        · rename_i hd
          cases hu : totF res r c (diffN s o.lots) with
          | none => rw [hu] at ht; cases ht
          | some u =>
            rw [hu] at ht
            simp only [Option.map_some, Option.some.injEq] at ht
            have hsub := (diffN_zero hos h1).1 hd
            have hd' : diffN o.lots s' = 0 := (diffN_zero hos h2).2 fun i hi => by rw [(h i).1, hsub i hi]; rfl
            have := tot_more r c (diffN_lt s o.lots) (diffN_lt s' o.lots) h3 hl' (s := diffN s o.lots) (s' := diffN s' o.lots) (fun i => by
              rw [diffN_bit h2 hos, diffN_bit h1 hos, (h i).1]
              have g := (h i).2
              have gs := hsub i
              cases hs : s.testBit i <;> cases hoi : o.lots.testBit i <;> cases hei : e.testBit i <;> simp_all) hu
            rw [if_pos hd', this, Option.map_some]
            congr 1
            omega
        · cases ht
/-- One bidder takes another offer, within the lots that it had. -/
theorem tot_swap {res : List Int} {os os' : List Of} {r : List (List Of)} {k k' : Int} {cr : List Int} {o o' : Of} (hk : ¬ k < 0) (hk' : ¬ k' < 0) (ho : os[k.toNat]? = some o) (ho' : os'[k'.toNat]? = some o') (so : sml o.lots) (so' : sml o'.lots) (hsub : diffN o'.lots o.lots = 0) (hr : ∀ x ∈ r, ∀ o ∈ x, sml o.lots) :
    ∀ (p : List (List Of)) (cp : List Int) {s : Nat} {v : Int}, cp.length = p.length → sml s → totF res (p ++ os :: r) (cp ++ k :: cr) s = some v → totF res (p ++ os' :: r) (cp ++ k' :: cr) s = some (v - o.w + o'.w + rsvF res (diffN o.lots o'.lots))
  | [], [], s, v, _, hs, h => by
    simp only [List.nil_append, totF] at h ⊢
    rw [if_neg hk, ho] at h
    rw [if_neg hk', ho']
    simp only at h ⊢
    split at h
    · rename_i hd
      cases hu : totF res r cr (diffN s o.lots) with
      | none => rw [hu] at h; cases h
      | some u =>
        rw [hu] at h
        simp only [Option.map_some, Option.some.injEq] at h
        have h1 := (diffN_zero so hs).1 hd
        have h2 := (diffN_zero so' so).1 hsub
        have hd' : diffN o'.lots s = 0 := (diffN_zero so' hs).2 fun i hi => h1 i (h2 i hi)
        have := tot_more r cr (diffN_lt s o.lots) (diffN_lt s o'.lots) (diffN_lt o.lots o'.lots) hr (s := diffN s o.lots) (s' := diffN s o'.lots) (e := diffN o.lots o'.lots) (fun i => by
          rw [diffN_bit hs so, diffN_bit hs so', diffN_bit so so']
          have a1 := h1 i
          have a2 := h2 i
          cases hsi : s.testBit i <;> cases hoi : o.lots.testBit i <;> cases hpi : o'.lots.testBit i <;> simp_all) hu
        rw [if_pos hd', this, Option.map_some]
        congr 1
        omega
    · cases h
  | [], _ :: _, s, v, hl, _, _ => by simp at hl
  | _ :: _, [], s, v, hl, _, _ => by simp at hl
  | x :: p, q :: cp, s, v, hl, hs, h => by
    simp only [List.cons_append, totF] at h ⊢
    split at h
    · rename_i hq
      rw [if_pos hq]
      exact tot_swap hk hk' ho ho' so so' hsub hr p cp (by simpa using hl) hs h
    · rename_i hq
      rw [if_neg hq]
      cases hx : x[q.toNat]? with
      | none => rw [hx] at h; cases h
      | some y =>
        rw [hx] at h
        simp only at h ⊢
        split at h
        · rename_i hd
          cases hu : totF res (p ++ os :: r) (cp ++ k :: cr) (diffN s y.lots) with
          | none => rw [hu] at h; cases h
          | some u =>
            rw [hu] at h
            simp only [Option.map_some, Option.some.injEq] at h
            rw [if_pos hd, tot_swap hk hk' ho ho' so so' hsub hr p cp (by simpa using hl) (diffN_lt s y.lots) hu, Option.map_some]
            congr 1
            omega
        · cases h
/-- One bidder takes nothing instead. -/
theorem tot_drop {res : List Int} {os os' : List Of} {r : List (List Of)} {k : Int} {cr : List Int} {o : Of} (hk : ¬ k < 0) (ho : os[k.toNat]? = some o) (so : sml o.lots) (hr : ∀ x ∈ r, ∀ o ∈ x, sml o.lots) :
    ∀ (p : List (List Of)) (cp : List Int) {s : Nat} {v : Int}, cp.length = p.length → sml s → totF res (p ++ os :: r) (cp ++ k :: cr) s = some v → totF res (p ++ os' :: r) (cp ++ (-1) :: cr) s = some (v - o.w + rsvF res o.lots)
  | [], [], s, v, _, hs, h => by
    simp only [List.nil_append, totF] at h ⊢
    rw [if_neg hk, ho] at h
    simp only at h
    split at h
    · rename_i hd
      cases hu : totF res r cr (diffN s o.lots) with
      | none => rw [hu] at h; cases h
      | some u =>
        rw [hu] at h
        simp only [Option.map_some, Option.some.injEq] at h
        have h1 := (diffN_zero so hs).1 hd
        have := tot_more r cr (diffN_lt s o.lots) hs so hr (s := diffN s o.lots) (s' := s) (e := o.lots) (fun i => by
          rw [diffN_bit hs so]
          have a1 := h1 i
          cases hsi : s.testBit i <;> cases hoi : o.lots.testBit i <;> simp_all) hu
        rw [if_pos (by omega), this]
        congr 1
        omega
    · cases h
  | [], _ :: _, s, v, hl, _, _ => by simp at hl
  | _ :: _, [], s, v, hl, _, _ => by simp at hl
  | x :: p, q :: cp, s, v, hl, hs, h => by
    simp only [List.cons_append, totF] at h ⊢
    split at h
    · rename_i hq
      rw [if_pos hq]
      exact tot_drop hk ho so hr p cp (by simpa using hl) hs h
    · rename_i hq
      rw [if_neg hq]
      cases hx : x[q.toNat]? with
      | none => rw [hx] at h; cases h
      | some y =>
        rw [hx] at h
        simp only at h ⊢
        split at h
        · rename_i hd
          cases hu : totF res (p ++ os :: r) (cp ++ k :: cr) (diffN s y.lots) with
          | none => rw [hu] at h; cases h
          | some u =>
            rw [hu] at h
            simp only [Option.map_some, Option.some.injEq] at h
            rw [if_pos hd, tot_drop hk ho so hr p cp (by simpa using hl) (diffN_lt s y.lots) hu, Option.map_some]
            congr 1
            omega
        · cases h
end Go.Proofs.YtojednnciknhpaaDoor
namespace Go.Proofs.YtojednnciknhpaaDoor
set_option linter.unusedSimpArgs false
set_option linter.unusedVariables false
open Go.RowKit
def valF (res : List Int) (l : List (List Of)) (s : Nat) : Int := tabF res (l.map some) s
theorem rsv_nonneg {res : List Int} (h : ∀ x ∈ res, 0 ≤ x) (s : Nat) : 0 ≤ rsvF res s := by
  induction res generalizing s with
  | nil => simp [rsvF]
  | cons r l ih =>
    have h1 := ih (fun x hx => h x (List.mem_cons_of_mem _ hx)) (s / 2)
    have h2 := h r List.mem_cons_self
    simp only [rsvF]
    split <;> omega
/-- Who has no offers takes nothing. -/
theorem tot_none {res : List Int} {os : List Of} {r : List (List Of)} : ∀ (p : List (List Of)) (c : List Int) {s : Nat} {v : Int}, totF res (p ++ [] :: r) c s = some v → totF res (p ++ os :: r) c s = some v
  | [], [], s, v, h => by simp [totF] at h
  | [], k :: c, s, v, h => by
    simp only [List.nil_append, totF] at h ⊢
    split at h
    · rename_i q; rw [if_pos q]; exact h
    · simp at h
  | x :: p, [], s, v, h => by simp [totF] at h
  | x :: p, k :: c, s, v, h => by
    simp only [List.cons_append, totF] at h ⊢
    split at h
    · rename_i q; rw [if_pos q]; exact tot_none p c h
    · rename_i q
      rw [if_neg q]
      cases hx : x[k.toNat]? with
      | none => rw [hx] at h; cases h
      | some y =>
        rw [hx] at h
        simp only at h ⊢
        split at h
        · rename_i hd
          cases hu : totF res (p ++ [] :: r) c (diffN s y.lots) with
          | none => rw [hu] at h; cases h
          | some u =>
            rw [hu] at h
            rw [if_pos hd, tot_none p c hu]
            exact h
        · cases h
theorem tot_out {res : List Int} {os os' : List Of} {r : List (List Of)} {k : Int} {cr : List Int} (hk : k < 0) : ∀ (p : List (List Of)) (cp : List Int) {s : Nat} {v : Int}, cp.length = p.length → totF res (p ++ os :: r) (cp ++ k :: cr) s = some v → totF res (p ++ os' :: r) (cp ++ k :: cr) s = some v
  | [], [], s, v, _, h => by
    simp only [List.nil_append, totF] at h ⊢
    rw [if_pos hk] at h ⊢
    exact h
  | [], _ :: _, s, v, hl, _ => by simp at hl
  | _ :: _, [], s, v, hl, _ => by simp at hl
  | x :: p, q :: cp, s, v, hl, h => by
    simp only [List.cons_append, totF] at h ⊢
    split at h
    · rename_i hq; rw [if_pos hq]; exact tot_out hk p cp (by simpa using hl) h
    · rename_i hq
      rw [if_neg hq]
      cases hx : x[q.toNat]? with
      | none => rw [hx] at h; cases h
      | some y =>
        rw [hx] at h
        simp only at h ⊢
        split at h
        · rename_i hd
          cases hu : totF res (p ++ os :: r) (cp ++ k :: cr) (diffN s y.lots) with
          | none => rw [hu] at h; cases h
          | some u =>
            rw [hu] at h
            rw [if_pos hd, tot_out hk p cp (by simpa using hl) hu]
            exact h
        · cases h
/-- A bidder more never makes the total less. -/
theorem val_more (res : List Int) (p : List (List Of)) (os : List Of) (r : List (List Of)) (s : Nat) : valF res (p ++ [] :: r) s ≤ valF res (p ++ os :: r) s :=
  tab_max res _ _ s _ (tot_none p _ (best_tot res (p ++ [] :: r) s))
/-- The table without a bidder. -/
theorem out_one (res : List Int) (r : List (List Of)) (os : List Of) : ∀ (p : List (List Of)) (i : Nat) (s : Nat), tabF res (outB [((i + p.length : Nat) : Int)] i (p ++ os :: r)) s = valF res (p ++ [] :: r) s := by
  have rest : ∀ (l : List (List Of)) (j n : Nat), n < j → outB [(n : Int)] j l = l.map some := by
    intro l
    induction l with
    | nil => intro j n _; rfl
    | cons x l ih =>
      intro j n h
      simp only [outB, List.map_cons]
      rw [ih (j + 1) n (by omega)]
      have : ([(n : Int)].contains (j : Int)) = false := by simp; omega
      rw [this]; rfl
  intro p
  induction p with
  | nil =>
    intro i s
    simp only [List.nil_append, List.length_nil, Nat.add_zero, outB]
    have : ([(i : Int)].contains (i : Int)) = true := by simp
    rw [this, rest r (i + 1) i (by omega)]
    rfl
  | cons x p ih =>
    intro i s
    have e : i + (x :: p).length = (i + 1) + p.length := by simp; omega
    have : ([((i + (x :: p).length : Nat) : Int)].contains (i : Int)) = false := by simp; omega
    simp only [List.cons_append, outB]
    rw [this, e]
    unfold valF
    simp only [List.cons_append, List.map_cons, tabF, Bool.false_eq_true, if_false]
    have hT : tabF res (outB [((i + 1 + p.length : Nat) : Int)] (i + 1) (p ++ os :: r)) = tabF res ((p ++ [] :: r).map some) := by
      funext s
      exact ih (i + 1) s
    rw [hT]
/-- What the lots are worth by some offers. -/
def worthF (truth : List Of) (lots : Nat) : Int := truth.foldl (fun m o => if diffN o.lots lots = 0 then max m o.w else m) 0
theorem worth_ge : ∀ (l : List Of) (lots : Nat) (m : Int), m ≤ l.foldl (fun m o => if diffN o.lots lots = 0 then max m o.w else m) m
  | [], _, m => Int.le_refl m
  | o :: l, lots, m => by
    rw [List.foldl_cons]
    refine Int.le_trans ?_ (worth_ge l lots _)
    split <;> omega
theorem worth_mem : ∀ {l : List Of} {lots : Nat} (m : Int) {o : Of}, o ∈ l → diffN o.lots lots = 0 → o.w ≤ l.foldl (fun m o => if diffN o.lots lots = 0 then max m o.w else m) m
  | x :: l, lots, m, o, h, hd => by
    rw [List.foldl_cons]
    rcases List.mem_cons.1 h with rfl | h
    · refine Int.le_trans ?_ (worth_ge l lots _)
      rw [if_pos hd]; omega
    · exact worth_mem _ h hd
theorem worth_one : ∀ (l : List Of) (lots : Nat) (m : Int), l.foldl (fun m o => if diffN o.lots lots = 0 then max m o.w else m) m = m ∨ ∃ o ∈ l, diffN o.lots lots = 0 ∧ l.foldl (fun m o => if diffN o.lots lots = 0 then max m o.w else m) m = o.w
  | [], _, m => .inl rfl
  | o :: l, lots, m => by
    rw [List.foldl_cons]
    rcases worth_one l lots (if diffN o.lots lots = 0 then max m o.w else m) with h | ⟨x, hx, h1, h2⟩
    · rw [h]
      by_cases c : diffN o.lots lots = 0
      · rw [if_pos c]
        rcases Int.le_total m o.w with q | q
        · exact .inr ⟨o, List.mem_cons_self, c, by rw [Int.max_eq_right q]⟩
        · exact .inl (Int.max_eq_left q)
      · rw [if_neg c]; exact .inl rfl
    · exact .inr ⟨x, List.mem_cons_of_mem _ hx, h1, h2⟩
section
variable {res : List Int} (hres : ∀ x ∈ res, 0 ≤ x) {p r : List (List Of)} {s : Nat}
include hres
omit hres in
/-- What the winner's offer leaves to the others. -/
theorem pay_ge {os : List Of} (hr : ∀ x ∈ r, ∀ o ∈ x, sml o.lots) {k : Int} {cp cr : List Int} {o : Of} (hk : ¬ k < 0) (ho : os[k.toNat]? = some o) (so : sml o.lots) (hs : sml s) (hcl : cp.length = p.length) {v : Int} (ht : totF res (p ++ os :: r) (cp ++ k :: cr) s = some v) (os' : List Of) :
    v - o.w + rsvF res o.lots ≤ valF res (p ++ os' :: r) s :=
  tab_max res _ _ s _ (tot_drop hk ho so hr p cp hcl hs ht)
/-- By a lie nobody gets more than what it adds to the total. -/
theorem lie_le {os ls : List Of} (hr : ∀ x ∈ r, ∀ o ∈ x, sml o.lots) (hos : ∀ o ∈ os, sml o.lots) {k : Int} {cp cr : List Int} {o : Of} (hk : ¬ k < 0) (ho : ls[k.toNat]? = some o) (so : sml o.lots) (hs : sml s) (hcl : cp.length = p.length) {v : Int} (ht : totF res (p ++ ls :: r) (cp ++ k :: cr) s = some v) :
    worthF os o.lots + (v - o.w) ≤ valF res (p ++ os :: r) s := by
  rcases worth_one os o.lots 0 with q | ⟨x, hx, h1, h2⟩
  · have h := pay_ge hr hk ho so hs hcl ht os
    have := rsv_nonneg hres o.lots
    have e : worthF os o.lots = 0 := q
    omega
  · obtain ⟨j, hj, hjx⟩ := List.mem_iff_getElem.1 hx
    have hjo : os[((j : Int)).toNat]? = some x := by rw [Int.toNat_natCast, List.getElem?_eq_getElem hj, hjx]
    have h := tab_max res _ _ s _ (tot_swap hk (show ¬ ((j : Int) < 0) by omega) ho hjo so (hos x hx) h1 hr p cp hcl hs ht)
    have := rsv_nonneg hres (diffN o.lots x.lots)
    have e : worthF os o.lots = x.w := h2
    unfold valF
    omega
end
end Go.Proofs.YtojednnciknhpaaDoor
namespace Go.Proofs.YtojednnciknhpaaDoor
set_option linter.unusedSimpArgs false
set_option linter.unusedVariables false
open Go.RowKit
def of0 : Of := ⟨0, 0⟩
/-- The offer that a bidder gets. -/
def givenF (os : List Of) (k : Int) : Of := if k < 0 then of0 else os.getD k.toNat of0
def payF (V W : Int) (os : List Of) (k : Int) : Int := if k < 0 then 0 else W - (V - (givenF os k).w)
theorem choice_split {res : List Int} {p r : List (List Of)} {os : List Of} {s : Nat} : ∃ cp k cr, bestF res (p ++ os :: r) s = cp ++ k :: cr ∧ cp.length = p.length := by
  have hl := bestF_len res (p ++ os :: r) s
  rw [List.length_append, List.length_cons] at hl
  have hi : p.length < (bestF res (p ++ os :: r) s).length := by omega
  refine ⟨(bestF res (p ++ os :: r) s).take p.length, (bestF res (p ++ os :: r) s)[p.length], (bestF res (p ++ os :: r) s).drop (p.length + 1), ?_, by rw [List.length_take]; omega⟩
  rw [List.getElem_cons_drop, List.take_append_drop]
theorem tot_index {res : List Int} {os : List Of} {r : List (List Of)} {k : Int} {cr : List Int} (hk : ¬ k < 0) : ∀ (p : List (List Of)) (cp : List Int) {s : Nat} {v : Int}, cp.length = p.length → totF res (p ++ os :: r) (cp ++ k :: cr) s = some v → ∃ o, os[k.toNat]? = some o
  | [], [], s, v, _, h => by
    simp only [List.nil_append, totF] at h
    rw [if_neg hk] at h
    cases ho : os[k.toNat]? with
    | none => rw [ho] at h; cases h
    | some o => exact ⟨o, rfl⟩
  | [], _ :: _, s, v, hl, _ => by simp at hl
  | _ :: _, [], s, v, hl, _ => by simp at hl
  | x :: p, q :: cp, s, v, hl, h => by
    simp only [List.cons_append, totF] at h
    split at h
    · exact tot_index hk p cp (by simpa using hl) h
    · cases hx : x[q.toNat]? with
      | none => rw [hx] at h; cases h
      | some y =>
        rw [hx] at h
        simp only at h
        split at h
        · cases hu : totF res (p ++ os :: r) (cp ++ k :: cr) (diffN s y.lots) with
          | none => rw [hu] at h; cases h
          | some u => exact tot_index hk p cp (by simpa using hl) hu
        · cases h
theorem given_of {os : List Of} {k : Int} {o : Of} (hk : ¬ k < 0) (ho : os[k.toNat]? = some o) : givenF os k = o := by
  unfold givenF
  rw [if_neg hk, List.getD_eq_getElem?_getD, ho]
  rfl
theorem diffN_self {a : Nat} (h : sml a) : diffN a a = 0 := (diffN_zero h h).2 fun _ q => q
theorem worth_none {os : List Of} (h : ∀ o ∈ os, o.lots ≠ 0 ∧ sml o.lots) : worthF os 0 = 0 := by
  rcases worth_one os 0 0 with q | ⟨o, ho, h1, _⟩
  · exact q
  · obtain ⟨h2, h3⟩ := h o ho
    exact absurd (by
      apply Nat.eq_of_testBit_eq
      intro i
      rw [Nat.zero_testBit]
      cases hb : o.lots.testBit i with
      | false => rfl
      | true => have := (diffN_zero h3 (show (0 : Nat) < 4294967296 by omega)).1 h1 i hb; rw [Nat.zero_testBit] at this; cases this) h2
section
variable {res : List Int} (hres : ∀ x ∈ res, 0 ≤ x) {p r : List (List Of)} {s : Nat} (hs : sml s) (hr : ∀ x ∈ r, ∀ o ∈ x, sml o.lots)
include hres hs hr
omit hres hs hr in
/-- With the true offers a bidder gains what it adds to the total, or more. -/
theorem gain_true {os : List Of} (hos : ∀ o ∈ os, o.lots ≠ 0 ∧ sml o.lots) {cp cr : List Int} {k : Int} (hc : bestF res (p ++ os :: r) s = cp ++ k :: cr) (hl : cp.length = p.length) :
    valF res (p ++ os :: r) s - valF res (p ++ [] :: r) s ≤ worthF os (givenF os k).lots - payF (valF res (p ++ os :: r) s) (valF res (p ++ [] :: r) s) os k := by
  have ht := best_tot res (p ++ os :: r) s
  rw [hc] at ht
  by_cases hk : k < 0
  · have h1 := tab_max res _ _ s _ (tot_out (os' := []) hk p cp hl ht)
    have e : (givenF os k).lots = 0 := by unfold givenF; rw [if_pos hk]; rfl
    rw [e, worth_none hos]
    unfold payF valF
    rw [if_pos hk]
    omega
  · obtain ⟨o, ho⟩ := tot_index hk p cp hl ht
    have hm := List.mem_of_getElem? ho
    rw [given_of hk ho]
    unfold payF
    rw [if_neg hk, given_of hk ho]
    have := worth_mem (lots := o.lots) 0 hm (diffN_self (hos o hm).2)
    unfold worthF
    omega
/-- With any others it gains at most that. -/
theorem gain_lie {os ls : List Of} (hos : ∀ o ∈ os, o.lots ≠ 0 ∧ sml o.lots) (hls : ∀ o ∈ ls, sml o.lots) {cp cr : List Int} {k : Int} (hc : bestF res (p ++ ls :: r) s = cp ++ k :: cr) (hl : cp.length = p.length) :
    worthF os (givenF ls k).lots - payF (valF res (p ++ ls :: r) s) (valF res (p ++ [] :: r) s) ls k ≤ valF res (p ++ os :: r) s - valF res (p ++ [] :: r) s := by
  have ht := best_tot res (p ++ ls :: r) s
  rw [hc] at ht
  by_cases hk : k < 0
  · have e : (givenF ls k).lots = 0 := by unfold givenF; rw [if_pos hk]; rfl
    rw [e, worth_none hos]
    unfold payF
    rw [if_pos hk]
    have := val_more res p os r s
    omega
  · obtain ⟨o, ho⟩ := tot_index hk p cp hl ht
    have hm := List.mem_of_getElem? ho
    have h := lie_le hres hr (fun o ho => (hos o ho).2) hk ho (hls o hm) hs hl ht
    rw [given_of hk ho]
    unfold payF
    rw [if_neg hk, given_of hk ho]
    unfold valF at h ⊢
    omega
omit hres in
/-- The payment is from the lots' reserves to the offer's worth. -/
theorem pay_between {os : List Of} (hos : ∀ o ∈ os, sml o.lots) {cp cr : List Int} {k : Int} (hc : bestF res (p ++ os :: r) s = cp ++ k :: cr) (hl : cp.length = p.length) (hk : ¬ k < 0) :
    rsvF res (givenF os k).lots ≤ payF (valF res (p ++ os :: r) s) (valF res (p ++ [] :: r) s) os k ∧ payF (valF res (p ++ os :: r) s) (valF res (p ++ [] :: r) s) os k ≤ (givenF os k).w := by
  have ht := best_tot res (p ++ os :: r) s
  rw [hc] at ht
  obtain ⟨o, ho⟩ := tot_index hk p cp hl ht
  have hm := List.mem_of_getElem? ho
  have h1 := pay_ge hr hk ho (hos o hm) hs hl ht []
  have h2 := val_more res p os r s
  unfold payF
  rw [if_neg hk, given_of hk ho]
  unfold valF at h1 h2 ⊢
  omega
end
end Go.Proofs.YtojednnciknhpaaDoor
