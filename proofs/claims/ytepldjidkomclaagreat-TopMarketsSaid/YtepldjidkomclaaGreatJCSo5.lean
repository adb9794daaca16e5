/- Merging in place, plain laws on rows as functions. No function of the program in sight. symMerge in general, plain. No function of the program in sight. stableCmpFunc, plain: blocks that are in order. Bids in plain Lean: demand and supply. No program in sight. call.in, takesPart, sums, Check. call.Check. -/
import Derived.Test.YtepldjidkomclaaGreatJBRowp
import Derived.Test.YtepldjidkomclaaGreatJMem
namespace Go.Proofs.YtepldjidkomclaaGreat.Ca
set_option linter.unusedSimpArgs false
set_option linter.unusedVariables false
open Go.RowKit

/-- The element at a goes to c. -/
def movR (f : Nat → Int) (a c : Nat) : Nat → Int := fun p => if a ≤ p ∧ p < c then f (p + 1) else if p = c then f a else f p
/-- The element at m goes to c, ahead of it. -/
def movL (f : Nat → Int) (m c : Nat) : Nat → Int := fun p => if p = c then f m else if c < p ∧ p ≤ m then f (p - 1) else f p
theorem movR_self (f : Nat → Int) (a : Nat) : movR f a a = f := by
  funext p
  unfold movR
  rw [if_neg (by omega)]
  split
  · rename_i h; rw [h]
  · rfl
theorem movL_self (f : Nat → Int) (m : Nat) : movL f m m = f := by
  funext p
  unfold movL
  split
  · rename_i h; rw [h]
  · rw [if_neg (by omega)]
theorem movR_succ (f : Nat → Int) {a c : Nat} (h : a ≤ c) : swp1 (movR f a c) c (c + 1) = movR f a (c + 1) := by
  funext p
  unfold swp1
  by_cases h1 : p = c + 1
  · subst h1
    rw [if_pos rfl]
    unfold movR
    rw [if_neg (by omega), if_pos rfl, if_neg (by omega), if_pos rfl]
  · rw [if_neg h1]
    by_cases h2 : p = c
    · subst h2
      rw [if_pos rfl]
      unfold movR
      rw [if_neg (by omega), if_neg (by omega), if_pos (show a ≤ p ∧ p < p + 1 by omega)]
    · rw [if_neg h2]
      unfold movR
      by_cases h3 : a ≤ p ∧ p < c
      · rw [if_pos h3, if_pos (show a ≤ p ∧ p < c + 1 by omega)]
      · rw [if_neg h3, if_neg h2, if_neg (show ¬ (a ≤ p ∧ p < c + 1) by omega), if_neg h1]
theorem movL_pred (f : Nat → Int) {m c : Nat} (h : c < m) : swp1 (movL f m (c + 1)) (c + 1) c = movL f m c := by
  funext p
  unfold swp1
  by_cases h1 : p = c
  · subst h1
    rw [if_pos rfl]
    unfold movL
    rw [if_pos rfl, if_pos rfl]
  · rw [if_neg h1]
    by_cases h2 : p = c + 1
    · subst h2
      rw [if_pos rfl]
      unfold movL
      rw [if_neg (by omega), if_neg (by omega), if_neg (by omega), if_pos (show c < c + 1 ∧ c + 1 ≤ m by omega)]
      rfl
    · rw [if_neg h2]
      unfold movL
      rw [if_neg h2, if_neg h1]
      by_cases h3 : c + 1 < p ∧ p ≤ m
      · rw [if_pos h3, if_pos (show c < p ∧ p ≤ m by omega)]
      · rw [if_neg h3, if_neg (show ¬ (c < p ∧ p ≤ m) by omega)]
section
variable {lt : Int → Int → Bool}
/-- What a merge comes to. -/
structure MrgR (lt : Int → Int → Bool) (f f' : Nat → Int) (a b : Nat) : Prop where
  far : ∀ k, k < a ∨ b ≤ k → f' k = f k
  perm : (seg f' a b).Perm (seg f a b)
  srt : Srt lt f' a b
/-- One element ahead of a sorted part. -/
theorem mrg_one (hlt : Swo lt) {f : Nat → Int} {a b i : Nat} (h1 : a < i) (h2 : i ≤ b) (hs : Srt lt f (a + 1) b) (he : ∀ k, a < k → k < b → f a < f k) (lo : ∀ k, a < k → k < i → lt (f k) (f a) = true) (hi : ∀ k, i ≤ k → k < b → lt (f k) (f a) = false) : MrgR lt f (movR f a (i - 1)) a b := by
  have e1 : seg (movR f a (i - 1)) a (i - 1) = seg f (a + 1) i := by
    have := seg_shift (f := movR f a (i - 1)) (h := f) (a := a) (b := i - 1) (d := 1) (fun k k1 k2 => by unfold movR; rw [if_pos ⟨k1, k2⟩])
    rw [show i - 1 + 1 = i by omega] at this
    exact this.symm
  have e2 : movR f a (i - 1) (i - 1) = f a := by unfold movR; rw [if_neg (by omega), if_pos rfl]
  have e3 : seg (movR f a (i - 1)) i b = seg f i b := seg_congr fun k k1 k2 => by unfold movR; rw [if_neg (by omega), if_neg (by omega)]
  have e4 : seg (movR f a (i - 1)) a b = seg f (a + 1) i ++ f a :: seg f i b := by
    rw [seg_split _ (show a ≤ i - 1 by omega) (show i - 1 ≤ b by omega), e1]
    by_cases hib : i - 1 < b
    · rw [seg_cons _ hib, e2, show i - 1 + 1 = i by omega, e3]
    · omega
  have e5 : seg f (a + 1) b = seg f (a + 1) i ++ seg f i b := seg_split f (by omega) h2
  refine ⟨fun k hk => ?_, ?_, srt_of ?_⟩
  · unfold movR; rw [if_neg (by omega), if_neg (by omega)]
  · rw [e4, seg_cons f (show a < b by omega), e5]
    exact List.perm_middle
  · rw [e4]
    refine put_early hlt (by rw [← e5]; exact hs.seg) (fun y hy => ?_) (fun y hy => ?_) (fun y hy => ?_)
    · rw [← e5] at hy
      obtain ⟨k, k1, k2, rfl⟩ := mem_seg.1 hy
      exact he k (by omega) k2
    · obtain ⟨k, k1, k2, rfl⟩ := mem_seg.1 hy
      exact lo k (by omega) k2
    · obtain ⟨k, k1, k2, rfl⟩ := mem_seg.1 hy
      exact hi k k1 k2
/-- One element behind a sorted part. -/
theorem mrg_last (hlt : Swo lt) {f : Nat → Int} {a m i : Nat} (h1 : a ≤ i) (h2 : i ≤ m) (hs : Srt lt f a m) (he : ∀ k, a ≤ k → k < m → f k < f m) (lo : ∀ k, a ≤ k → k < i → lt (f m) (f k) = false) (hi : ∀ k, i ≤ k → k < m → lt (f m) (f k) = true) : MrgR lt f (movL f m i) a (m + 1) := by
  have e1 : seg (movL f m i) a i = seg f a i := seg_congr fun k k1 k2 => by unfold movL; rw [if_neg (by omega), if_neg (by omega)]
  have e2 : movL f m i i = f m := by unfold movL; rw [if_pos rfl]
  have e3 : seg (movL f m i) (i + 1) (m + 1) = seg f i m := seg_shift fun k k1 k2 => by
    unfold movL
    rw [if_neg (by omega), if_pos (by omega)]
    rfl
  have e4 : seg (movL f m i) a (m + 1) = seg f a i ++ f m :: seg f i m := by
    rw [seg_split _ h1 (show i ≤ m + 1 by omega), e1, seg_cons _ (show i < m + 1 by omega), e2, e3]
  have e5 : seg f a m = seg f a i ++ seg f i m := seg_split f h1 h2
  refine ⟨fun k hk => ?_, ?_, srt_of ?_⟩
  · unfold movL; rw [if_neg (by omega), if_neg (by omega)]
  · rw [e4, seg_snoc f (by omega), e5]
    exact List.perm_middle.trans (List.perm_append_comm (l₁ := [f m]))
  · rw [e4]
    refine put_late hlt (by rw [← e5]; exact hs.seg) (fun x hx => ?_) (fun x hx => ?_) (fun x hx => ?_)
    · rw [← e5] at hx
      obtain ⟨k, k1, k2, rfl⟩ := mem_seg.1 hx
      exact he k k1 k2
    · obtain ⟨k, k1, k2, rfl⟩ := mem_seg.1 hx
      exact lo k k1 k2
    · obtain ⟨k, k1, k2, rfl⟩ := mem_seg.1 hx
      exact hi k k1 k2
/-- In a sorted part of later elements those ahead of x come first. -/
theorem mono_late (hlt : Swo lt) {f : Nat → Int} {m b h k : Nat} {x : Int} (hs : Srt lt f m b) (he : ∀ k, m ≤ k → k < b → x < f k) (hm : m ≤ k) (hk : k ≤ h) (hb : h < b) (hl : lt (f h) x = true) : lt (f k) x = true := by
  by_cases e : k = h
  · rw [e]; exact hl
  · have h1 := hs k h hm (by omega) hb
    exact (Tt.late (he k hm (by omega))).1 (Tt.trans hlt h1 (.inl hl))
theorem mono_early (hlt : Swo lt) {f : Nat → Int} {a m h k : Nat} {y : Int} (hs : Srt lt f a m) (he : ∀ k, a ≤ k → k < m → f k < y) (ha : a ≤ h) (hk : h ≤ k) (hm : k < m) (hl : lt y (f h) = true) : lt y (f k) = true := by
  by_cases e : k = h
  · rw [e]; exact hl
  · have h1 := hs h k ha (by omega) hm
    exact (Tt.late (he k (by omega) hm)).1 (Tt.trans hlt (.inl hl) h1)
end
end Go.Proofs.YtepldjidkomclaaGreat.Ca
namespace Go.Proofs.YtepldjidkomclaaGreat.Ca
set_option linter.unusedSimpArgs false
set_option linter.unusedVariables false
open Go.RowKit

section
variable {lt : Int → Int → Bool}
theorem MrgR.refl {f : Nat → Int} {a b : Nat} (h : Srt lt f a b) : MrgR lt f f a b := ⟨fun _ _ => rfl, List.Perm.refl _, h⟩
/-- Where the parts are cut. -/
structure SymC (lt : Int → Int → Bool) (f : Nat → Int) (a m b mid st en : Nat) : Prop where
  lo : a ≤ st
  sm : st ≤ m
  me : m ≤ en
  eb : en ≤ b
  sum : st + en = mid + m
  one : st = a ∨ en = b ∨ Tt lt (f (st - 1)) (f en)
  two : en = m ∨ st = m ∨ Tt lt (f (en - 1)) (f st)
  x : Srt lt f a m
  y : Srt lt f m b
  early : ∀ i j, a ≤ i → i < m → m ≤ j → j < b → f i < f j
theorem SymC.parts {f : Nat → Int} {a m b mid st en : Nat} (c : SymC lt f a m b mid st en) : (∀ k, k < st ∨ en ≤ k → rotF f st m en k = f k) ∧ (∀ k, st ≤ k → k < mid → rotF f st m en k = f (k + (m - st))) ∧ (∀ k, mid ≤ k → k < en → rotF f st m en k = f (k - (en - m))) := by
  have h1 := c.lo; have h2 := c.sm; have h3 := c.me; have h4 := c.eb; have h5 := c.sum
  refine ⟨fun k hk => ?_, fun k k1 k2 => ?_, fun k k1 k2 => ?_⟩
  · unfold rotF; rw [if_neg (by omega), if_neg (by omega)]
  · unfold rotF; rw [if_pos (by omega)]
  · unfold rotF; rw [if_neg (by omega), if_pos (by omega)]
theorem SymC.left {f : Nat → Int} {a m b mid st en : Nat} (c : SymC lt f a m b mid st en) : Srt lt (rotF f st m en) a st ∧ Srt lt (rotF f st m en) st mid ∧ (∀ i j, a ≤ i → i < st → st ≤ j → j < mid → rotF f st m en i < rotF f st m en j) ∧ st ≤ mid := by
  obtain ⟨p1, p2, p3⟩ := c.parts
  have h1 := c.lo; have h2 := c.sm; have h3 := c.me; have h4 := c.eb; have h5 := c.sum
  refine ⟨fun i j i1 i2 i3 => ?_, fun i j i1 i2 i3 => ?_, fun i j i1 i2 i3 i4 => ?_, by omega⟩
  · rw [p1 i (by omega), p1 j (by omega)]; exact c.x i j i1 i2 (by omega)
  · rw [p2 i i1 (by omega), p2 j (by omega) i3]; exact c.y _ _ (by omega) (by omega) (by omega)
  · rw [p1 i (by omega), p2 j i3 i4]; exact c.early i _ i1 (by omega) (by omega) (by omega)
theorem SymC.right {f : Nat → Int} {a m b mid st en : Nat} (c : SymC lt f a m b mid st en) : Srt lt (rotF f st m en) mid en ∧ Srt lt (rotF f st m en) en b ∧ (∀ i j, mid ≤ i → i < en → en ≤ j → j < b → rotF f st m en i < rotF f st m en j) ∧ mid ≤ en := by
  obtain ⟨p1, p2, p3⟩ := c.parts
  have h1 := c.lo; have h2 := c.sm; have h3 := c.me; have h4 := c.eb; have h5 := c.sum
  refine ⟨fun i j i1 i2 i3 => ?_, fun i j i1 i2 i3 => ?_, fun i j i1 i2 i3 i4 => ?_, by omega⟩
  · rw [p3 i i1 (by omega), p3 j (by omega) i3]; exact c.x _ _ (by omega) (by omega) (by omega)
  · rw [p1 i (by omega), p1 j (by omega)]; exact c.y _ _ (by omega) (by omega) (by omega)
  · rw [p3 i i1 i2, p1 j (by omega)]; exact c.early _ j (by omega) (by omega) (by omega) i4
/-- Both halves merged: all is merged. -/
theorem SymC.done (hlt : Swo lt) {f f2 f3 : Nat → Int} {a m b mid st en : Nat} (c : SymC lt f a m b mid st en) (r1 : MrgR lt (rotF f st m en) f2 a mid) (r2 : MrgR lt f2 f3 mid b) : MrgR lt f f3 a b := by
  obtain ⟨p1, p2, p3⟩ := c.parts
  have h1 := c.lo; have h2 := c.sm; have h3 := c.me; have h4 := c.eb; have h5 := c.sum
  obtain ⟨f1, hf1⟩ : ∃ f1, f1 = rotF f st m en := ⟨_, rfl⟩
  rw [← hf1] at p1 p2 p3 r1
  have x1 : seg f1 a st = seg f a st := seg_congr fun k k1 k2 => p1 k (by omega)
  have y1 : seg f1 st mid = seg f m en := by
    have := seg_shift (f := f1) (h := f) (a := st) (b := mid) (d := m - st) (fun k k1 k2 => (p2 k k1 k2).symm)
    rw [show st + (m - st) = m by omega, show mid + (m - st) = en by omega] at this
    exact this.symm
  have x2 : seg f1 mid en = seg f st m := by
    have := seg_shift (f := f) (h := f1) (a := st) (b := m) (d := en - m) (fun k k1 k2 => by rw [p3 _ (by omega) (by omega)]; congr 1; omega)
    rw [show st + (en - m) = mid by omega, show m + (en - m) = en by omega] at this
    exact this
  have y2 : seg f1 en b = seg f en b := seg_congr fun k k1 k2 => p1 k (by omega)
  have l1 : seg f1 a mid = seg f a st ++ seg f m en := by rw [seg_split f1 h1 (show st ≤ mid by omega), x1, y1]
  have l2 : seg f1 mid b = seg f st m ++ seg f en b := by rw [seg_split f1 (show mid ≤ en by omega) h4, x2, y2]
  have e2 : seg f2 mid b = seg f1 mid b := seg_congr fun k k1 k2 => r1.far k (by omega)
  have e3 : seg f3 a mid = seg f2 a mid := seg_congr fun k k1 k2 => r2.far k (by omega)
  have sx : seg f a m = seg f a st ++ seg f st m := seg_split f h1 h2
  have sy : seg f m b = seg f m en ++ seg f en b := seg_split f h3 h4
  have hx := c.x.seg
  have hy := c.y.seg
  rw [sx] at hx
  rw [sy] at hy
  have q1 : ∀ x ∈ seg f a st, ∀ y ∈ seg f en b, Tt lt x y := by
    refine part_one hlt (sorted_app.1 hx).1 (sorted_app.1 hy).2.1 ?_
    by_cases e1 : st = a
    · exact .inl (seg_empty f (by omega))
    · by_cases e2 : en = b
      · exact .inr (.inl (seg_empty f (by omega)))
      · refine .inr (.inr ⟨f (st - 1), seg f a (st - 1), f en, seg f (en + 1) b, ?_, seg_cons f (by omega), ?_⟩)
        · have := seg_snoc f (show a ≤ st - 1 by omega)
          rwa [show st - 1 + 1 = st by omega] at this
        · rcases c.one with e | e | e
          · exact absurd e e1
          · exact absurd e e2
          · exact e
  have q2 : ∀ y ∈ seg f m en, ∀ x ∈ seg f st m, Tt lt y x := by
    refine part_one hlt (sorted_app.1 hy).1 (sorted_app.1 hx).2.1 ?_
    by_cases e1 : en = m
    · exact .inl (seg_empty f (by omega))
    · by_cases e2 : st = m
      · exact .inr (.inl (seg_empty f (by omega)))
      · refine .inr (.inr ⟨f (en - 1), seg f m (en - 1), f st, seg f (st + 1) m, ?_, seg_cons f (by omega), ?_⟩)
        · have := seg_snoc f (show m ≤ en - 1 by omega)
          rwa [show en - 1 + 1 = en by omega] at this
        · rcases c.two with e | e | e
          · exact absurd e e1
          · exact absurd e e2
          · exact e
  have z1 : seg f3 a b = seg f2 a mid ++ seg f3 mid b := by rw [seg_split f3 (show a ≤ mid by omega) (show mid ≤ b by omega), e3]
  obtain ⟨m1, m2⟩ := merge_halves hlt hx hy q1 q2 r1.srt.seg (by rw [← l1]; exact r1.perm) r2.srt.seg (by rw [← l2, ← e2]; exact r2.perm)
  refine ⟨fun k hk => ?_, ?_, srt_of ?_⟩
  · rw [r2.far k (by omega), r1.far k (by omega), p1 k (by omega)]
  · rw [z1, seg_split f (show a ≤ m by omega) (show m ≤ b by omega), sx, sy]
    exact m2
  · rw [z1]; exact m1
end
end Go.Proofs.YtepldjidkomclaaGreat.Ca
namespace Go.Proofs.YtepldjidkomclaaGreat.Ca
set_option linter.unusedSimpArgs false
set_option linter.unusedVariables false
open Go.RowKit

section
variable {lt : Int → Int → Bool}
/-- A part in order, and a rearrangement of what it was. -/
structure Good (lt : Int → Int → Bool) (f0 f : Nat → Int) (x y : Nat) : Prop where
  srt : Srt lt f x y
  perm : (seg f x y).Perm (seg f0 x y)
theorem Good.far {f0 f f' : Nat → Int} {x y : Nat} (h : Good lt f0 f x y) (he : ∀ k, x ≤ k → k < y → f' k = f k) : Good lt f0 f' x y :=
  ⟨fun i j i1 i2 i3 => by rw [he i i1 (by omega), he j (by omega) i3]; exact h.srt i j i1 i2 i3, by rw [seg_congr he]; exact h.perm⟩
theorem Good.early {f0 f : Nat → Int} {x m y : Nat} (hinc : ∀ i j, i < j → j < y → f0 i < f0 j) (h1 : Good lt f0 f x m) (h2 : Good lt f0 f m y) : ∀ i j, x ≤ i → i < m → m ≤ j → j < y → f i < f j := fun i j i1 i2 i3 i4 => by
  obtain ⟨i', a1, a2, e1⟩ := mem_seg.1 (h1.perm.mem_iff.1 (mem_seg.2 ⟨i, i1, i2, rfl⟩))
  obtain ⟨j', b1, b2, e2⟩ := mem_seg.1 (h2.perm.mem_iff.1 (mem_seg.2 ⟨j, i3, i4, rfl⟩))
  rw [e1, e2]; exact hinc i' j' (by omega) b2
theorem Good.merge {f0 f f' : Nat → Int} {x m y : Nat} (hx : x ≤ m) (hy : m ≤ y) (h1 : Good lt f0 f x m) (h2 : Good lt f0 f m y) (r : MrgR lt f f' x y) : Good lt f0 f' x y :=
  ⟨r.srt, r.perm.trans (by rw [seg_split f hx hy, seg_split f0 hx hy]; exact h1.perm.append h2.perm)⟩
theorem Good.nil (f0 f : Nat → Int) {x y : Nat} (h : y ≤ x) : Good lt f0 f x y := ⟨fun i j i1 i2 i3 => by omega, by rw [seg_empty f h, seg_empty f0 h]⟩
/-- All blocks of S elements in order. -/
def Blk (lt : Int → Int → Bool) (f0 f : Nat → Int) (L S : Nat) : Prop := ∀ x, S ∣ x → x ≤ L → Good lt f0 f x (min (x + S) L)
/-- One pass, so far. -/
structure Pass (lt : Int → Int → Bool) (f0 f : Nat → Int) (L S a : Nat) : Prop where
  dv : 2 * S ∣ a
  le : a ≤ L
  done : ∀ x, 2 * S ∣ x → x + 2 * S ≤ a → Good lt f0 f x (x + 2 * S)
  rest : ∀ x, S ∣ x → a ≤ x → x ≤ L → Good lt f0 f x (min (x + S) L)
theorem dvd_eq {S x a : Nat} (h1 : S ∣ x) (h2 : S ∣ a) (h3 : x < a + S) (h4 : a < x + S) : x = a := by
  obtain ⟨p, rfl⟩ := h1
  obtain ⟨q, rfl⟩ := h2
  have e1 : p < q + 1 := Nat.lt_of_mul_lt_mul_left (a := S) (by rw [Nat.mul_add]; omega)
  have e2 : q < p + 1 := Nat.lt_of_mul_lt_mul_left (a := S) (by rw [Nat.mul_add]; omega)
  rw [show p = q by omega]
theorem Pass.start {f0 f : Nat → Int} {L S : Nat} (hS : 0 < S) (h : Blk lt f0 f L S) : Pass lt f0 f L S 0 :=
  ⟨Nat.dvd_zero _, Nat.zero_le _, fun x _ h2 => by omega, fun x h1 _ h3 => h x h1 h3⟩
theorem Pass.parts {f0 f : Nat → Int} {L S a : Nat} (h : Pass lt f0 f L S a) (hb : a + S ≤ L) : Good lt f0 f a (a + S) ∧ Good lt f0 f (a + S) (min (a + S + S) L) := by
  have d1 : S ∣ a := Nat.dvd_trans ⟨2, Nat.mul_comm _ _⟩ h.dv
  have h1 := h.rest a d1 (Nat.le_refl _) h.le
  rw [Nat.min_eq_left hb] at h1
  exact ⟨h1, h.rest (a + S) (Nat.dvd_add d1 (Nat.dvd_refl _)) (by omega) hb⟩
theorem Pass.step {f0 f f' : Nat → Int} {L S a : Nat} (hS : 0 < S) (h : Pass lt f0 f L S a) (hb : a + 2 * S ≤ L) (r : MrgR lt f f' a (a + 2 * S)) : Pass lt f0 f' L S (a + 2 * S) := by
  obtain ⟨p1, p2⟩ := h.parts (by omega)
  rw [Nat.min_eq_left (by omega), show a + S + S = a + 2 * S by omega] at p2
  have G := Good.merge (by omega) (by omega) p1 p2 r
  refine ⟨Nat.dvd_add h.dv (Nat.dvd_refl _), hb, fun x h1 h2 => ?_, fun x h1 h2 h3 => (h.rest x h1 (by omega) h3).far fun k k1 k2 => r.far k (.inr (by omega))⟩
  by_cases e : x + 2 * S ≤ a
  · exact (h.done x h1 e).far fun k k1 k2 => r.far k (.inl (by omega))
  · obtain rfl : x = a := dvd_eq h1 h.dv (by omega) (by omega)
    exact G
theorem Pass.last {f0 f f' : Nat → Int} {L S a : Nat} (hS : 0 < S) (h : Pass lt f0 f L S a) (hb : L < a + 2 * S) (hf : ∀ k, k < a → f' k = f k) (G : Good lt f0 f' a L) : Blk lt f0 f' L (2 * S) := fun x h1 h2 => by
  have hl := h.le
  by_cases e : x + 2 * S ≤ a
  · rw [Nat.min_eq_left (by omega)]
    exact (h.done x h1 e).far fun k k1 k2 => hf k (by omega)
  · obtain rfl : x = a := dvd_eq h1 h.dv (by omega) (by omega)
    rw [Nat.min_eq_right (by omega)]
    exact G
/-- The first blocks, so far. -/
structure Ins (lt : Int → Int → Bool) (f0 f : Nat → Int) (L a : Nat) : Prop where
  dv : 20 ∣ a
  le : a ≤ L
  done : ∀ x, 20 ∣ x → x + 20 ≤ a → Good lt f0 f x (x + 20)
  rest : ∀ k, a ≤ k → f k = f0 k
theorem Ins.start (f0 : Nat → Int) (L : Nat) : Ins lt f0 f0 L 0 := ⟨Nat.dvd_zero _, Nat.zero_le _, fun x _ h2 => by omega, fun _ _ => rfl⟩
theorem Ins.good {f0 f f' : Nat → Int} {L a b : Nat} (h : Ins lt f0 f L a) (hp : (seg f' a b).Perm (seg f a b)) (hs : Srt lt f' a b) : Good lt f0 f' a b := ⟨hs, by rw [← seg_congr (f := f) (fun k k1 k2 => h.rest k k1)]; exact hp⟩
theorem Ins.step {f0 f f' : Nat → Int} {L a : Nat} (h : Ins lt f0 f L a) (hb : a + 20 ≤ L) (hf : ∀ k, k < a ∨ a + 20 ≤ k → f' k = f k) (hp : (seg f' a (a + 20)).Perm (seg f a (a + 20))) (hs : Srt lt f' a (a + 20)) : Ins lt f0 f' L (a + 20) := by
  have G := h.good hp hs
  have hd := h.dv
  refine ⟨by omega, hb, fun x h1 h2 => ?_, fun k k1 => by rw [hf k (.inr k1)]; exact h.rest k (by omega)⟩
  by_cases e : x + 20 ≤ a
  · exact (h.done x h1 e).far fun k k1 k2 => hf k (.inl (by omega))
  · obtain rfl : x = a := by omega
    exact G
theorem Ins.last {f0 f f' : Nat → Int} {L a : Nat} (h : Ins lt f0 f L a) (hb : L < a + 20) (hf : ∀ k, k < a ∨ L ≤ k → f' k = f k) (hp : (seg f' a L).Perm (seg f a L)) (hs : Srt lt f' a L) : Blk lt f0 f' L 20 := fun x h1 h2 => by
  have G := h.good hp hs
  have hd := h.dv
  have hl := h.le
  by_cases e : x + 20 ≤ a
  · rw [Nat.min_eq_left (by omega)]
    exact (h.done x h1 e).far fun k k1 k2 => hf k (.inl (by omega))
  · obtain rfl : x = a := by omega
    rw [Nat.min_eq_right (by omega)]
    exact G
theorem Blk.all {f0 f : Nat → Int} {L S : Nat} (h : Blk lt f0 f L S) (hS : L ≤ S) : Good lt f0 f 0 L := by
  have := h 0 (Nat.dvd_zero _) (Nat.zero_le _)
  rwa [Nat.min_eq_right (by omega)] at this
end
end Go.Proofs.YtepldjidkomclaaGreat.Ca
namespace Go.Proofs.YtepldjidkomclaaGreat.Ca
set_option linter.unusedSimpArgs false
set_option linter.unusedVariables false
open Go.RowKit

structure Bd where
  s : Int
  p : Int
  q : Int
deriving DecidableEq
def encBd (b : Bd) : List Value := [.int .i64 b.s, .int .i64 b.p, .int .i64 b.q]
theorem encBd_len (b : Bd) : (encBd b).length = 3 := rfl
theorem encBd_one (b : Bd) : ∀ u ∈ encBd b, u.oneCell' = true := by
  intro u hu
  simp only [encBd, List.mem_cons, List.not_mem_nil, or_false] at hu
  rcases hu with rfl | rfl | rfl <;> rfl
def Bd.ok (b : Bd) : Prop := (b.s = 1 ∨ b.s = 2) ∧ 1 ≤ b.p ∧ b.p ≤ 1000000 ∧ 1 ≤ b.q ∧ b.q ≤ 1000000000
instance (b : Bd) : Decidable b.ok := by unfold Bd.ok; infer_instance
/-- A bid takes part at a price. -/
def Bd.takes (b : Bd) (x : Int) : Bool := if b.s = 1 then decide (x ≤ b.p) else decide (b.p ≤ x)
/-- The quantities of some bids. -/
def sumQ (f : Bd → Bool) : List Bd → Int
  | [] => 0
  | b :: l => (if f b then b.q else 0) + sumQ f l
theorem sumQ_app (f : Bd → Bool) (l m : List Bd) : sumQ f (l ++ m) = sumQ f l + sumQ f m := by
  induction l with
  | nil => simp [sumQ]
  | cons b l ih => simp only [List.cons_append, sumQ, ih]; omega
theorem sumQ_snoc (f : Bd → Bool) (l : List Bd) (b : Bd) : sumQ f (l ++ [b]) = sumQ f l + if f b then b.q else 0 := by rw [sumQ_app]; simp [sumQ]
theorem sumQ_bound (f : Bd → Bool) {l : List Bd} (h : ∀ b ∈ l, b.ok) : 0 ≤ sumQ f l ∧ sumQ f l ≤ 1000000000 * (l.length : Int) := by
  induction l with
  | nil => simp [sumQ]
  | cons b l ih =>
    obtain ⟨h1, h2⟩ := ih fun x hx => h x (List.mem_cons_of_mem _ hx)
    obtain ⟨_, _, _, h3, h4⟩ := h b List.mem_cons_self
    simp only [sumQ, List.length_cons]
    split <;> omega
theorem sumQ_congr {f g : Bd → Bool} {l : List Bd} (h : ∀ b ∈ l, f b = g b) : sumQ f l = sumQ g l := by
  induction l with
  | nil => rfl
  | cons b l ih => simp only [sumQ, h b List.mem_cons_self, ih fun x hx => h x (List.mem_cons_of_mem _ hx)]
def buyT (x : Int) (b : Bd) : Bool := decide (b.s = 1 ∧ x ≤ b.p)
def selT (x : Int) (b : Bd) : Bool := decide (b.s ≠ 1 ∧ b.p ≤ x)
/-- The demand and the supply at a price. -/
def dem (l : List Bd) (x : Int) : Int := sumQ (buyT x) l
def sup (l : List Bd) (x : Int) : Int := sumQ (selT x) l
/-- What Check says. -/
def chk (l : List Bd) : Int := if 4096 < l.length then 2 else if ∀ b ∈ l, b.ok then 0 else 1
theorem take_snoc {α : Type} {l : List α} {i : Nat} (h : i < l.length) : l.take (i + 1) = l.take i ++ [l[i]] := by rw [List.take_add_one, List.getElem?_eq_getElem h]; rfl
end Go.Proofs.YtepldjidkomclaaGreat.Ca
namespace Go.Proofs.YtepldjidkomclaaGreat.Ca
set_option linter.unusedSimpArgs false
set_option linter.unusedVariables false
open Go.RowKit
attribute [local go_sem] Oper.semAt_some
attribute [local go_sem ↓] Go.wp_at_zero Go.wp_at_succ

def inC (x lo hi : Int) : Bool := decide (lo ≤ x ∧ x ≤ hi)
theorem in_calls (x lo hi : Int) (w : World) : Calls Tryz.prog 28 #[.int .i64 x, .int .i64 lo, .int .i64 hi] w fun e w' => e = .returned (.bool (inC x lo hi)) ∧ w' = w := by
  unfold inC
  by_cases h1 : lo ≤ x
  · by_cases h2 : x ≤ hi
    · go_enter Tryz.func28, Tryz.ntmps28
      go_wp2
      go_ret
      exact ⟨by simp; omega, rfl⟩
    · go_enter Tryz.func28, Tryz.ntmps28
      go_wp2
      go_ret
      exact ⟨by simp; omega, rfl⟩
  · go_enter Tryz.func28, Tryz.ntmps28
    go_wp2
    go_ret
    exact ⟨by simp; omega, rfl⟩
theorem takes_calls (b : Bd) (x : Int) (w : World) : Calls Tryz.prog 99 #[.agg #[.int .i64 b.s, .int .i64 b.p, .int .i64 b.q], .int .i64 x] w fun e w' => e = .returned (.bool (b.takes x)) ∧ Below w.heap.size w w' := by
  unfold Bd.takes
  by_cases h1 : b.s = 1
  · have e1 : (b.s == 1) = true := by simpa using h1
    rw [if_pos h1]
    clear h1
    go_enter Tryz.func99, Tryz.ntmps99
    go_wp2
    go_ret
    exact ⟨by simp, Below.alloc (Below.refl _ _) (Nat.le_refl _) _⟩
  · have e1 : (b.s == 1) = false := by simpa using h1
    rw [if_neg h1]
    clear h1
    go_enter Tryz.func99, Tryz.ntmps99
    go_wp2
    go_ret
    exact ⟨by simp, Below.alloc (Below.refl _ _) (Nat.le_refl _) _⟩

theorem box_after {w w2 : World} {vs : Array Value} {ty : TypeId} (h : Below (w.alloc (.cells vs ty)).heap.size (w.alloc (.cells vs ty)) w2) : Cells w2 w.heap.size vs ty := (Cells.new w vs ty).below h (by rw [World.size_alloc]; omega)
set_option maxRecDepth 100000 in
set_option maxHeartbeats 4000000 in
theorem sums_calls {w : World} {v : Value} {l : List Bd} (hv : ReadsE encBd 3 w v l) (hl : l.length ≤ 4096) (hok : ∀ b ∈ l, b.ok) (x : Int) :
    Calls Tryz.prog 72 #[v, .int .i64 x] w fun e w' => e = .returned (.tuple #[.int .i64 (dem l x), .int .i64 (sup l x)]) ∧ Below w.heap.size w w' := by
  obtain ⟨hm, p, cap, bb, off, rfl, hp, hc⟩ := hv
  obtain ⟨n, hn⟩ : ∃ n, n = l.length := ⟨_, rfl⟩
  rw [← hn] at hp hm hl ⊢
  have HN := hid hn
  have HP := hid hp
  have HC := hid hc
  have HOK := hid hok
  obtain ⟨R, hR⟩ : ∃ R : Ending → World → Prop, R = fun e w' => e = .returned (.tuple #[.int .i64 (dem l x), .int .i64 (sup l x)]) ∧ Below w.heap.size w w' := ⟨_, rfl⟩
  have HR := hid hR
  rw [← hR]
  clear hR hn hp hc hok
  go_enter Tryz.func72, Tryz.ntmps72
  go_wp2
  go_loopg [10, 4, 5] n (fun k s10 s4 s5 wr => ∃ i : Nat, i + k = n ∧ s10 = .int .i64 i ∧ s4 = .int .i64 (dem (l.take i) x) ∧ s5 = .int .i64 (sup (l.take i) x) ∧ Below w.heap.size w wr)
  case atStart => exact ⟨0, by omega, rfl, rfl, rfl, Below.refl _ _⟩
  case round =>
    obtain ⟨i, hik, rfl, rfl, rfl, hb⟩ := hrel
    have HIK := hid hik
    have HB := hid hb
    clear hik hb
    by_cases hin : i < n
    · have hil : i < l.length := by rw [← HN.out]; exact hin
      obtain ⟨rfl, hbb⟩ := HP.out (by omega)
      have c0 := (HB.out.cell (p := ⟨bb, off + i * 3 + 0, none⟩) hbb).trans (HC.out i hil 0 (by omega))
      have c1 := (HB.out.cell (p := ⟨bb, off + i * 3 + 1, none⟩) hbb).trans (HC.out i hil 1 (by omega))
      have c2 := (HB.out.cell (p := ⟨bb, off + i * 3 + 2, none⟩) hbb).trans (HC.out i hil 2 (by omega))
      simp [encBd] at c0 c1 c2
      have gi : (i : Int) < (n : Int) := by omega
      have gi4 : (0 : Int) ≤ (i : Int) := by omega
      obtain ⟨b, hx⟩ : ∃ b, b = l[i] := ⟨_, rfl⟩
      rw [← hx] at c0 c1 c2
      have okb := HOK.out b (by rw [hx]; exact List.getElem_mem _)
      have ht : l.take (i + 1) = l.take i ++ [b] := by rw [hx]; exact take_snoc hil
      have hdm := sumQ_bound (buyT x) (l := l.take i) (fun y hy => HOK.out y (List.mem_of_mem_take hy))
      have hsm := sumQ_bound (selT x) (l := l.take i) (fun y hy => HOK.out y (List.mem_of_mem_take hy))
      rw [List.length_take] at hdm hsm
      have hmin : min i l.length ≤ 4096 := by omega
      have DE := hid (show dem (l.take (i + 1)) x = dem (l.take i) x + if buyT x b then b.q else 0 by rw [ht]; exact sumQ_snoc _ _ _)
      have SU := hid (show sup (l.take (i + 1)) x = sup (l.take i) x + if selT x b then b.q else 0 by rw [ht]; exact sumQ_snoc _ _ _)
      obtain ⟨d, hd⟩ : ∃ d, d = dem (l.take i) x := ⟨_, rfl⟩
      obtain ⟨s, hs⟩ : ∃ s, s = sup (l.take i) x := ⟨_, rfl⟩
      have hdm' : 0 ≤ d ∧ d ≤ 4096000000000 := by rw [hd]; unfold dem; omega
      have hsm' : 0 ≤ s ∧ s ≤ 4096000000000 := by rw [hs]; unfold sup; omega
      rw [← hd] at DE ⊢
      rw [← hs] at SU ⊢
      obtain ⟨ok1, ok2, ok3, ok4, ok5⟩ := okb
      have ed : IntKind.i64.wrap (d + b.q) = d + b.q := IntWalk.i64_in _ (by omega)
      have es : IntKind.i64.wrap (s + b.q) = s + b.q := IntWalk.i64_in _ (by omega)
      clear hx ht hdm hsm hd hs ok1
      have NX := hid (show ∀ wr' w2, Below wr.heap.size wr wr' → Below wr'.heap.size wr' w2 → Below w.heap.size w w2 from fun wr' w2 h1 h2 => HB.out.trans ((h1.mono HB.out.size).trans (h2.mono (Nat.le_trans HB.out.size h1.size))))
      go_wp2_with fail
      refine (takes_calls b x _).mono ?_
      rintro e w2 ⟨rfl, hb2⟩
      have cb := box_after hb2
      have hl := cb.lt
      have k0 := cb.cell 0
      have k2 := cb.cell 2
      simp at k0 k2
      have B2 := hid (show Below w.heap.size w w2 from HB.out.trans (((Below.refl wr.heap.size wr).alloc (Nat.le_refl _) _).mono HB.out.size |>.trans (hb2.mono (by rw [World.size_alloc]; have := HB.out.size; omega))))
      clear hb2 cb
      cases ht : b.takes x with
      | false =>
        have DE2 := hid (show dem (l.take (i + 1)) x = d by
          rw [DE.out]
          have : buyT x b = false := by
            unfold Bd.takes at ht
            unfold buyT
            split at ht <;> simp_all
          rw [this]; simp)
        have SU2 := hid (show sup (l.take (i + 1)) x = s by
          rw [SU.out]
          have : selT x b = false := by
            unfold Bd.takes at ht
            unfold selT
            split at ht <;> simp_all
          rw [this]; simp)
        clear ht
        go_wp2
        go_roundg (n - (i + 1))
        · exact ⟨i + 1, by omega, by go_num, by rw [DE2.out], by rw [SU2.out], B2.out⟩
        · have := HIK.out; omega
      | true =>
        by_cases hs1 : b.s = 1
        · have e1 : (b.s == 1) = true := by simpa using hs1
          have DE2 := hid (show dem (l.take (i + 1)) x = d + b.q by
            rw [DE.out]
            have : buyT x b = true := by
              unfold Bd.takes at ht
              unfold buyT
              split at ht <;> simp_all
            rw [this]; simp)
          have SU2 := hid (show sup (l.take (i + 1)) x = s by
            rw [SU.out]
            have : selT x b = false := by unfold selT; simp [hs1]
            rw [this]; simp)
          clear ht hs1
          go_wp2
          go_roundg (n - (i + 1))
          · exact ⟨i + 1, by omega, by go_num, by rw [DE2.out], by rw [SU2.out], B2.out⟩
          · have := HIK.out; omega
        · have e1 : (b.s == 1) = false := by simpa using hs1
          have DE2 := hid (show dem (l.take (i + 1)) x = d by
            rw [DE.out]
            have : buyT x b = false := by unfold buyT; simp [hs1]
            rw [this]; simp)
          have SU2 := hid (show sup (l.take (i + 1)) x = s + b.q by
            rw [SU.out]
            have : selT x b = true := by
              unfold Bd.takes at ht
              unfold selT
              split at ht <;> simp_all
            rw [this]; simp)
          clear ht hs1
          go_wp2
          go_roundg (n - (i + 1))
          · exact ⟨i + 1, by omega, by go_num, by rw [DE2.out], by rw [SU2.out], B2.out⟩
          · have := HIK.out; omega
    · have hin' : i = n := by have := HIK.out; omega
      subst hin'
      have g1 : decide ((i : Int) < (i : Int)) = false := by simp
      have FIN := hid (show R (.returned (.tuple #[.int .i64 (dem (l.take i) x), .int .i64 (sup (l.take i) x)])) wr by rw [HR.out, HN.out, List.take_length]; exact ⟨rfl, HB.out⟩)
      go_wp2
      first | exact FIN.out | (go_ret; exact FIN.out)

end Go.Proofs.YtepldjidkomclaaGreat.Ca
namespace Go.Proofs.YtepldjidkomclaaGreat.Ca
set_option linter.unusedSimpArgs false
set_option linter.unusedVariables false
open Go.RowKit
attribute [local go_sem] Oper.semAt_some
attribute [local go_sem ↓] Go.wp_at_zero Go.wp_at_succ

set_option maxRecDepth 100000 in
set_option maxHeartbeats 4000000 in
theorem check_calls {w : World} {v : Value} {l : List Bd} (hv : ReadsE encBd 3 w v l) :
    Calls Tryz.prog 27 #[v] w fun e w' => e = .returned (.int .i64 (chk l)) ∧ Below w.heap.size w w' := by
  obtain ⟨hm, p, cap, bb, off, rfl, hp, hc⟩ := hv
  obtain ⟨n, hn⟩ : ∃ n, n = l.length := ⟨_, rfl⟩
  unfold chk
  rw [← hn] at hp hm ⊢
  have HN := hid hn
  have HP := hid hp
  have HC := hid hc
  obtain ⟨R, hR⟩ : ∃ R : Ending → World → Prop, R = fun e w' => e = .returned (.int .i64 (if 4096 < n then 2 else if ∀ b ∈ l, b.ok then 0 else 1)) ∧ Below w.heap.size w w' := ⟨_, rfl⟩
  have HR := hid hR
  rw [← hR]
  clear hR hn hp hc
  by_cases hbig : 4096 < n
  · have g1 : (4096 : Int) < (n : Int) := by omega
    have FIN := hid (show R (.returned (.int .i64 2)) w by rw [HR.out, if_pos hbig]; exact ⟨rfl, Below.refl _ _⟩)
    go_enter Tryz.func27, Tryz.ntmps27
    go_wp2
    first | exact FIN.out | (go_ret; exact FIN.out)
  · have g1 : ¬ (4096 : Int) < (n : Int) := by omega
    have BAD := hid (show ∀ w' (i : Nat) (h : i < l.length), ¬ l[i].ok → Below w.heap.size w w' → R (.returned (.int .i64 1)) w' from fun w' i h h1 h2 => by
      rw [HR.out, if_neg hbig, if_neg (fun hh => h1 (hh _ (List.getElem_mem _)))]
      exact ⟨rfl, h2⟩)
    go_enter Tryz.func27, Tryz.ntmps27
    go_wp2
    go_loopg [10] n (fun k s10 wr => ∃ i : Nat, i + k = n ∧ s10 = .int .i64 i ∧ (∀ b ∈ l.take i, b.ok) ∧ Below w.heap.size w wr)
    case atStart => exact ⟨0, by omega, rfl, by simp, Below.refl _ _⟩
    case round =>
      obtain ⟨i, hik, rfl, hoks, hb⟩ := hrel
      have HIK := hid hik
      have HB := hid hb
      have HOKS := hid hoks
      clear hik hb hoks
      by_cases hin : i < n
      · have hil : i < l.length := by rw [← HN.out]; exact hin
        obtain ⟨rfl, hbb⟩ := HP.out (by omega)
        have c0 := (HB.out.cell (p := ⟨bb, off + i * 3 + 0, none⟩) hbb).trans (HC.out i hil 0 (by omega))
        have c1 := (HB.out.cell (p := ⟨bb, off + i * 3 + 1, none⟩) hbb).trans (HC.out i hil 1 (by omega))
        have c2 := (HB.out.cell (p := ⟨bb, off + i * 3 + 2, none⟩) hbb).trans (HC.out i hil 2 (by omega))
        simp [encBd] at c0 c1 c2
        have gi : (i : Int) < (n : Int) := by omega
        have gi4 : (0 : Int) ≤ (i : Int) := by omega
        have BAD2 := hid (BAD.out)
        obtain ⟨b, hx⟩ : ∃ b, b = l[i] := ⟨_, rfl⟩
        have BX := hid (fun w' (h1 : ¬ b.ok) h2 => BAD.out w' i hil (by rw [← hx]; exact h1) h2)
        rw [← hx] at c0 c1 c2
        have ht : l.take (i + 1) = l.take i ++ [b] := by rw [hx]; exact take_snoc hil
        have NX := hid (fun (hb : b.ok) => show ∀ y ∈ l.take (i + 1), y.ok by
          rw [ht]
          intro y hy
          rcases List.mem_append.1 hy with h1 | h1
          · exact HOKS.out y h1
          · rw [List.mem_singleton.1 h1]; exact hb)
        clear hx ht BAD2
        have BB := hid (show Below w.heap.size w (wr.alloc (.cells #[.int .i64 b.s, .int .i64 b.p, .int .i64 b.q] 32)) from HB.out.trans (((Below.refl wr.heap.size wr).alloc (Nat.le_refl _) _).mono HB.out.size))
        by_cases hs : b.s = 1 ∨ b.s = 2
        · by_cases h2 : 1 ≤ b.p ∧ b.p ≤ 1000000
          · have i2 : inC b.p 1 1000000 = true := by unfold inC; simpa using h2
            by_cases h3 : 1 ≤ b.q ∧ b.q ≤ 1000000000
            · have i3 : inC b.q 1 1000000000 = true := by unfold inC; simpa using h3
              have N2 := hid (NX.out ⟨hs, h2.1, h2.2, h3.1, h3.2⟩)
              clear h2 h3
              rcases hs with hs | hs
              · have e1 : (b.s != 1) = false := by simp [hs]
                clear hs
                go_wp2_with (go_at_call 28; refine (in_calls _ _ _ _).mono ?_; rintro e wx ⟨rfl, rfl⟩)
                go_roundg (n - (i + 1))
                · exact ⟨i + 1, by omega, by go_num, N2.out, BB.out⟩
                · have := HIK.out; omega
              · have e1 : (b.s != 1) = true := by simp [hs]
                have e2 : (b.s != 2) = false := by simp [hs]
                clear hs
                go_wp2_with (go_at_call 28; refine (in_calls _ _ _ _).mono ?_; rintro e wx ⟨rfl, rfl⟩)
                go_roundg (n - (i + 1))
                · exact ⟨i + 1, by omega, by go_num, N2.out, BB.out⟩
                · have := HIK.out; omega
            · have i3 : inC b.q 1 1000000000 = false := by unfold inC; simpa using h3
              have FIN := hid (BX.out _ (fun hh => h3 ⟨hh.2.2.2.1, hh.2.2.2.2⟩) BB.out)
              clear h2 h3
              rcases hs with hs | hs
              · have e1 : (b.s != 1) = false := by simp [hs]
                clear hs
                go_wp2_with (go_at_call 28; refine (in_calls _ _ _ _).mono ?_; rintro e wx ⟨rfl, rfl⟩)
                first | exact FIN.out | (go_ret; exact FIN.out)
              · have e1 : (b.s != 1) = true := by simp [hs]
                have e2 : (b.s != 2) = false := by simp [hs]
                clear hs
                go_wp2_with (go_at_call 28; refine (in_calls _ _ _ _).mono ?_; rintro e wx ⟨rfl, rfl⟩)
                first | exact FIN.out | (go_ret; exact FIN.out)
          · have i2 : inC b.p 1 1000000 = false := by unfold inC; simpa using h2
            have FIN := hid (BX.out _ (fun hh => h2 ⟨hh.2.1, hh.2.2.1⟩) BB.out)
            clear h2
            rcases hs with hs | hs
            · have e1 : (b.s != 1) = false := by simp [hs]
              clear hs
              go_wp2_with (go_at_call 28; refine (in_calls _ _ _ _).mono ?_; rintro e wx ⟨rfl, rfl⟩)
              first | exact FIN.out | (go_ret; exact FIN.out)
            · have e1 : (b.s != 1) = true := by simp [hs]
              have e2 : (b.s != 2) = false := by simp [hs]
              clear hs
              go_wp2_with (go_at_call 28; refine (in_calls _ _ _ _).mono ?_; rintro e wx ⟨rfl, rfl⟩)
              first | exact FIN.out | (go_ret; exact FIN.out)
        · have e1 : (b.s != 1) = true := by simp; omega
          have e2 : (b.s != 2) = true := by simp; omega
          have FIN := hid (BX.out _ (fun hh => hs hh.1) BB.out)
          clear hs
          go_wp2
          first | exact FIN.out | (go_ret; exact FIN.out)
      · have hin' : i = n := by have := HIK.out; omega
        subst hin'
        have g1 : decide ((i : Int) < (i : Int)) = false := by simp
        have FIN := hid (show R (.returned (.int .i64 0)) wr by
          rw [HR.out, if_neg hbig, if_pos (by have := HOKS.out; rwa [HN.out, List.take_length] at this)]; exact ⟨rfl, HB.out⟩)
        go_wp2
        first | exact FIN.out | (go_ret; exact FIN.out)
end Go.Proofs.YtepldjidkomclaaGreat.Ca
