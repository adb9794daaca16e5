/- A stable order of ints by a comparison: plain laws of merging. No program in sight. -/
import Derived.Test.YtjhelinbjlahiaaRows
namespace Go.Proofs.Ytjhelinbjlahiaa
set_option linter.unusedSimpArgs false
set_option linter.unusedVariables false

/-- A strict weak order. -/
structure Swo (lt : Int → Int → Bool) : Prop where
  asym : ∀ a b, lt a b = true → lt b a = false
  neg : ∀ a b c, lt a b = true → lt a c = true ∨ lt c b = true
/-- What comes ahead: less, or alike and earlier. -/
def Tt (lt : Int → Int → Bool) (a b : Int) : Prop := lt a b = true ∨ (lt b a = false ∧ a < b)
section
variable {lt : Int → Int → Bool}
theorem Tt.trans (h : Swo lt) {a b c : Int} (h1 : Tt lt a b) (h2 : Tt lt b c) : Tt lt a c := by
  unfold Tt at *
  rcases h1 with h1 | ⟨h1, i1⟩
  · rcases h2 with h2 | ⟨h2, i2⟩
    · rcases h.neg a b c h1 with h3 | h3
      · exact .inl h3
      · rw [h.asym _ _ h2] at h3; cases h3
    · rcases h.neg a b c h1 with h3 | h3
      · exact .inl h3
      · rw [h2] at h3; cases h3
  · rcases h2 with h2 | ⟨h2, i2⟩
    · rcases h.neg b c a h2 with h3 | h3
      · rw [h1] at h3; cases h3
      · exact .inl h3
    · by_cases h3 : lt c a = true
      · rcases h.neg c a b h3 with h4 | h4
        · rw [h2] at h4; cases h4
        · rw [h1] at h4; cases h4
      · exact .inr ⟨by simpa using h3, by omega⟩
theorem Tt.total (_h : Swo lt) {a b : Int} (hn : a ≠ b) : Tt lt a b ∨ Tt lt b a := by
  unfold Tt
  by_cases h1 : lt a b = true
  · exact .inl (.inl h1)
  · by_cases h2 : lt b a = true
    · exact .inr (.inl h2)
    · have h1' : lt a b = false := by simpa using h1
      have h2' : lt b a = false := by simpa using h2
      rcases Int.lt_or_gt_of_ne hn with h | h
      · exact .inl (.inr ⟨h2', h⟩)
      · exact .inr (.inr ⟨h1', h⟩)
theorem Tt.asym (h : Swo lt) {a b : Int} (h1 : Tt lt a b) : ¬ Tt lt b a := by
  unfold Tt at *
  rintro (h2 | ⟨h2, i2⟩)
  · rcases h1 with h1 | ⟨h1, _⟩
    · rw [h.asym _ _ h1] at h2; cases h2
    · rw [h1] at h2; cases h2
  · rcases h1 with h1 | ⟨_, i1⟩
    · rw [h1] at h2; cases h2
    · omega
/-- A later one against an earlier one: the comparison alone. -/
theorem Tt.late {x y : Int} (hxy : x < y) : Tt lt y x ↔ lt y x = true := by
  unfold Tt
  constructor
  · rintro (h | ⟨_, h⟩)
    · exact h
    · omega
  · exact .inl
theorem Tt.early {x y : Int} (hxy : x < y) (h : lt y x = false) : Tt lt x y := .inr ⟨h, hxy⟩
/-- Two sorted lists of the same elements are one. -/
theorem Tt.unique (h : Swo lt) {a b : List Int} (h1 : a.Pairwise (Tt lt)) (h2 : b.Pairwise (Tt lt)) (hp : a.Perm b) : a = b :=
  hp.eq_of_pairwise (le := Tt lt) (fun _ _ _ _ h3 h4 => absurd h4 (Tt.asym h h3)) h1 h2
/-- Sorted: each before each. -/
theorem sorted_app {a b : List Int} : (a ++ b).Pairwise (Tt lt) ↔ a.Pairwise (Tt lt) ∧ b.Pairwise (Tt lt) ∧ ∀ x ∈ a, ∀ y ∈ b, Tt lt x y := List.pairwise_append
/-- An element comes in where it belongs: ahead of it all less, behind it none less; it is earlier than all. -/
theorem put_early (h : Swo lt) {x : Int} {Y1 Y2 : List Int} (hs : (Y1 ++ Y2).Pairwise (Tt lt)) (he : ∀ y ∈ Y1 ++ Y2, x < y) (h1 : ∀ y ∈ Y1, lt y x = true) (h2 : ∀ y ∈ Y2, lt y x = false) : (Y1 ++ x :: Y2).Pairwise (Tt lt) := by
  have hs' := sorted_app.1 hs
  refine sorted_app.2 ⟨hs'.1, List.pairwise_cons.2 ⟨fun y hy => Tt.early (he y (List.mem_append_right _ hy)) (h2 y hy), hs'.2.1⟩, fun a ha b hb => ?_⟩
  rcases List.mem_cons.1 hb with rfl | hb
  · exact .inl (h1 a ha)
  · exact hs'.2.2 a ha b hb
theorem put_late (h : Swo lt) {y : Int} {X1 X2 : List Int} (hs : (X1 ++ X2).Pairwise (Tt lt)) (he : ∀ x ∈ X1 ++ X2, x < y) (h1 : ∀ x ∈ X1, lt y x = false) (h2 : ∀ x ∈ X2, lt y x = true) : (X1 ++ y :: X2).Pairwise (Tt lt) := by
  have hs' := sorted_app.1 hs
  refine sorted_app.2 ⟨hs'.1, List.pairwise_cons.2 ⟨fun x hx => .inl (h2 x hx), hs'.2.1⟩, fun a ha b hb => ?_⟩
  rcases List.mem_cons.1 hb with rfl | hb
  · exact Tt.early (he a (List.mem_append_left _ ha)) (h1 a ha)
  · exact hs'.2.2 a ha b hb
/-- Two halves that are merged each. X = X1 ++ X2, Y = Y1 ++ Y2; Z of X1 and Y1, W of X2 and Y2. -/
theorem merge_halves (h : Swo lt) {X1 X2 Y1 Y2 Z W : List Int} (hX : (X1 ++ X2).Pairwise (Tt lt)) (hY : (Y1 ++ Y2).Pairwise (Tt lt)) (h1 : ∀ x ∈ X1, ∀ y ∈ Y2, Tt lt x y) (h2 : ∀ y ∈ Y1, ∀ x ∈ X2, Tt lt y x)
    (hZ : Z.Pairwise (Tt lt)) (pZ : Z.Perm (X1 ++ Y1)) (hW : W.Pairwise (Tt lt)) (pW : W.Perm (X2 ++ Y2)) : (Z ++ W).Pairwise (Tt lt) ∧ (Z ++ W).Perm ((X1 ++ X2) ++ (Y1 ++ Y2)) := by
  refine ⟨sorted_app.2 ⟨hZ, hW, fun z hz w hw => ?_⟩, ?_⟩
  · rcases List.mem_append.1 (pZ.mem_iff.1 hz) with a | a <;> rcases List.mem_append.1 (pW.mem_iff.1 hw) with c | c
    · exact (sorted_app.1 hX).2.2 z a w c
    · exact h1 z a w c
    · exact h2 z a w c
    · exact (sorted_app.1 hY).2.2 z a w c
  · refine (pZ.append pW).trans ?_
    rw [List.append_assoc, List.append_assoc]
    refine List.Perm.append_left X1 ?_
    rw [← List.append_assoc, ← List.append_assoc]
    exact List.perm_append_comm.append_right Y2
/-- The last of the first part and the first of the other's second part part them. -/
theorem part_one (h : Swo lt) {X1 Y2 : List Int} (hX : X1.Pairwise (Tt lt)) (hY : Y2.Pairwise (Tt lt)) (hh : X1 = [] ∨ Y2 = [] ∨ ∃ x X' y Y', X1 = X' ++ [x] ∧ Y2 = y :: Y' ∧ Tt lt x y) : ∀ x ∈ X1, ∀ y ∈ Y2, Tt lt x y := by
  rcases hh with rfl | rfl | ⟨x, X', y, Y', rfl, rfl, hxy⟩
  · intro x hx; cases hx
  · intro x _ y hy; cases hy
  · intro a ha c hc
    have h1 : a = x ∨ Tt lt a x := by
      rcases List.mem_append.1 ha with e | e
      · exact .inr ((sorted_app.1 hX).2.2 a e x (by simp))
      · exact .inl (by simpa using e)
    have h2 : c = y ∨ Tt lt y c := by
      rcases List.mem_cons.1 hc with e | e
      · exact .inl e
      · exact .inr ((List.pairwise_cons.1 hY).1 c e)
    have h3 : Tt lt a y := by
      rcases h1 with rfl | h1
      · exact hxy
      · exact Tt.trans h h1 hxy
    rcases h2 with rfl | h2
    · exact h3
    · exact Tt.trans h h3 h2
end
end Go.Proofs.Ytjhelinbjlahiaa
