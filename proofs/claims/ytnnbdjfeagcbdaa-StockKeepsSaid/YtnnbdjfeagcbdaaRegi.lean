/- A register whose versions are canonical tilings; what a change of it comes to. -/
import Derived.Test.YtnnbdjfeagcbdaaKeep0
import Derived.Test.YtnnbdjfeagcbdaaAwake
namespace Go.Proofs.Ytnnbdjfeagcbdaa
set_option linter.unusedSimpArgs false
set_option linter.unusedVariables false
open Go.RowKit Go.Shelf

/-- A register at block sB, its versions in vB, made since the world W. -/
structure Reg (B : Nat) (W w : World) (sB vB : Nat) (vs : List T) : Prop where
  st : StAt w sB vB vs
  fine : ∀ t ∈ vs, Fine t
  tiles : ∀ t ∈ vs, Tiles t.toList 1 1000000
  canon : ∀ t ∈ vs, Canon t.toList
  zero : ∀ t ∈ vs, ∀ n, (valL t.toList n).state = 0 → valL t.toList n = cl0
  below : Below B W w
  ls : B ≤ sB
  lv : B ≤ vB
theorem Reg.after {B : Nat} {W w w' : World} {sB vB : Nat} {vs : List T} (h : Reg B W w sB vB vs) (hB : B ≤ w.heap.size) (hb : Below w.heap.size w w') : Reg B W w' sB vB vs :=
  ⟨h.st.below hb, h.fine, h.tiles, h.canon, h.zero, h.below.trans (hb.mono hB), h.ls, h.lv⟩
theorem Reg.last {B : Nat} {W w : World} {sB vB : Nat} {vs : List T} (h : Reg B W w sB vB vs) : ∃ t, vs.getLast? = some t ∧ t ∈ vs := by
  refine ⟨vs.getLast h.st.full, List.getLast?_eq_some_getLast h.st.full, List.getLast_mem h.st.full⟩
theorem Reg.cell {B : Nat} {W w : World} {sB vB : Nat} {vs : List T} (h : Reg B W w sB vB vs) : ∃ cap, w.cell? ⟨sB, 0, none⟩ = some (.slice (some ⟨vB, 0, none⟩) vs.length cap) ∧ sB < w.heap.size := by
  obtain ⟨cap, ps, hc, _, _⟩ := h.st.at_
  refine ⟨cap, ?_, hc.lt⟩
  have := hc.cell 0
  simpa using this
theorem valL_pc0 (n : Int) : valL [pc0] n = cl0 := by
  rw [valL]
  split
  · rfl
  · rfl
/-- A new register. -/
theorem new_reg (w : World) : Calls Try.prog 17 #[] w fun e w' => ∃ sB vB t, e = .returned (.pointer (some ⟨sB, 0, none⟩)) ∧ Reg w.heap.size w w' sB vB [t] ∧ t.toList = [pc0] := by
  refine (New_calls w).mono ?_
  rintro e w1 ⟨sB, vB, t, rfl, st, tl, fi, ls, lv, hb⟩
  refine ⟨sB, vB, t, rfl, ⟨st, by simpa using fi, ?_, ?_, ?_, hb, ls, lv⟩, tl⟩
  · intro u hu; simp at hu; subst hu; rw [tl]; simp [Tiles, pc0]
  · intro u hu; simp at hu; subst hu; rw [tl]; trivial
  · intro u hu n _; simp at hu; subst hu; rw [tl]; exact valL_pc0 n

/-- What a change of a register came to: an error, or the next version. -/
def Went (B : Nat) (W w : World) (sB vB : Nat) (vs : List T) (t : T) (r a c : Int) (g : Cl → Cl) (e : Ending) (w' : World) : Prop :=
  e = .returned (.int .i64 r) ∧ ∃ us uB, Reg B W w' sB uB us ∧ Turned sB vB w w' ∧ (r ≠ 0 → us = vs ∧ uB = vB) ∧
    (r = 0 → (uB = vB ∨ w.heap.size ≤ uB) ∧ ∃ t' : T, us = vs ++ [t'] ∧ t'.toList = changedP t.toList a c g)
theorem Reg.step {B : Nat} {W w w' : World} {sB vB : Nat} {vs : List T} {t : T} {r a c : Int} {g : Cl → Cl} {e : Ending} (h : Reg B W w sB vB vs) (hB : B ≤ w.heap.size) (ht : vs.getLast? = some t) (hS : Stepped w sB vB vs t r a c g e w')
    (hac : r = 0 → 1 ≤ a ∧ 1 ≤ c ∧ a + c - 1 ≤ 1000000) (hz : r = 0 → ∀ n, a ≤ n → n ≤ a + c - 1 → (g (valL t.toList n)).state ≠ 0) : Went B W w sB vB vs t r a c g e w' := by
  obtain ⟨he, h1, h2⟩ := hS
  refine ⟨he, ?_⟩
  by_cases hr : r = 0
  · obtain ⟨t', uB, s1, ok1, l1, u1, tu⟩ := h2 hr
    have hac := hac hr
    have hz := hz hr
    have htm : t ∈ vs := List.mem_of_getLast? ht
    have tt := h.tiles t htm
    have nt : Tiles t'.toList 1 1000000 := by rw [l1]; exact changedP_tiles g tt hac.1 hac.2.1 hac.2.2
    have nf := Fine.of ok1 nt
    refine ⟨vs ++ [t'], uB, ⟨s1, ?_, ?_, ?_, ?_, h.below.trans (tu.below h.ls h.lv hB), h.ls, ?_⟩, tu, fun e => absurd hr e, fun _ => ⟨u1, t', rfl, l1⟩⟩
    · intro u hu
      rcases List.mem_append.1 hu with hu | hu
      · exact h.fine u hu
      · simp at hu; subst hu; exact nf
    · intro u hu
      rcases List.mem_append.1 hu with hu | hu
      · exact h.tiles u hu
      · simp at hu; subst hu; exact nt
    · intro u hu
      rcases List.mem_append.1 hu with hu | hu
      · exact h.canon u hu
      · simp at hu; subst hu; rw [l1]; exact changedP_canon g a c (h.canon t htm)
    · intro u hu n
      rcases List.mem_append.1 hu with hu | hu
      · exact h.zero u hu n
      · simp at hu; subst hu
        rw [l1, changedP_val g tt hac.1 hac.2.1 hac.2.2]
        split
        · rename_i hn
          intro hs
          exact absurd hs (hz n hn.1 hn.2)
        · exact h.zero t htm n
    · rcases u1 with rfl | u1
      · exact h.lv
      · omega
  · have hb := h1 hr
    exact ⟨vs, vB, h.after hB hb, Turned.of_below hb, fun _ => ⟨rfl, rfl⟩, fun e => absurd e hr⟩

theorem enterR_zero {t : T} {a c lot o : Int} (h : enterR t a c lot o = 0) : (1 ≤ a ∧ 1 ≤ c ∧ a + c - 1 ≤ 1000000) ∧ firstE enterE (visL t a (a + c - 1)) = 0 := by
  unfold enterR at h
  split at h
  · rename_i hc; exact ⟨(okSpan_iff a c).1 hc.1, h⟩
  · omega
theorem moveR_zero {t : T} {a c o to : Int} (h : moveR t a c o to = 0) : (1 ≤ a ∧ 1 ≤ c ∧ a + c - 1 ≤ 1000000) ∧ firstE (ownedE o) (visL t a (a + c - 1)) = 0 := by
  unfold moveR at h
  split at h
  · rename_i hc; exact ⟨(okSpan_iff a c).1 hc.1, h⟩
  · omega
theorem pledgeR_zero {t : T} {a c o to : Int} (h : pledgeR t a c o to = 0) : (1 ≤ a ∧ 1 ≤ c ∧ a + c - 1 ≤ 1000000) ∧ firstE (ownedE o) (visL t a (a + c - 1)) = 0 := by
  unfold pledgeR at h
  split at h
  · rename_i hc; exact ⟨(okSpan_iff a c).1 hc.1, h⟩
  · omega
theorem leaveR_zero {t : T} {a c o : Int} (h : leaveR t a c o = 0) : (1 ≤ a ∧ 1 ≤ c ∧ a + c - 1 ≤ 1000000) ∧ firstE (ownedE o) (visL t a (a + c - 1)) = 0 := by
  unfold leaveR at h
  split at h
  · rename_i hc; exact ⟨(okSpan_iff a c).1 hc.1, h⟩
  · omega
theorem heldR_zero {t : T} {a c o : Int} (h : heldR t a c o = 0) : (1 ≤ a ∧ 1 ≤ c ∧ a + c - 1 ≤ 1000000) ∧ firstE (heldE o) (visL t a (a + c - 1)) = 0 := by
  unfold heldR at h
  split at h
  · rename_i hc; exact ⟨(okSpan_iff a c).1 hc.1, h⟩
  · omega
theorem ownedE_in {o : Int} {c : Cl} (h : ownedE o c = 0) : c.state = 1 ∧ c.owner = o ∧ c.holder = 0 := by
  unfold ownedE at h
  split at h
  · omega
  · split at h
    · omega
    · split at h
      · omega
      · omega
theorem heldE_in {o : Int} {c : Cl} (h : heldE o c = 0) : c.state = 1 ∧ c.holder = o := by
  unfold heldE at h
  split at h
  · omega
  · split at h
    · omega
    · omega
theorem enterE_in {c : Cl} (h : enterE c = 0) : c.state = 0 := by
  unfold enterE at h
  split at h <;> omega
/-- What a check of a span says of its pockets. -/
theorem vis_in {t : T} {a b : Int} {e : Cl → Int} (fi : Fine t) (ht : Tiles t.toList 1 1000000) (hz : firstE e (visL t a b) = 0) (h1 : 1 ≤ a) (h2 : b ≤ 1000000) : ∀ n, a ≤ n → n ≤ b → e (valL t.toList n) = 0 := by
  intro n hn1 hn2
  rw [visL_eq a b t fi.sorted] at hz
  exact visP_zero ht e hz (by omega) (by omega) hn1 hn2

section
variable {B : Nat} {W w : World} {sB vB : Nat} {vs : List T} {t : T} (h : Reg B W w sB vB vs) (hB : B ≤ w.heap.size) (hn : vs.length ≤ 1000) (ht : vs.getLast? = some t)
include h hB hn ht
theorem enter_reg (a c lot o : Int) : Calls Try.prog 20 #[.pointer (some ⟨sB, 0, none⟩), .agg #[.int .i64 a, .int .i64 c], .int .i64 lot, .int .i64 o] w (Went B W w sB vB vs t (enterR t a c lot o) a c (enterG lot o)) := by
  have hm := List.mem_of_getLast? ht
  exact (enter_calls w sB vB vs t h.st hn ht (h.fine t hm) a c lot o).mono fun e w' hS => h.step hB ht hS (fun hr => (enterR_zero hr).1) (fun hr n _ _ => by simp [enterG])
theorem move_reg (a c o to : Int) : Calls Try.prog 21 #[.pointer (some ⟨sB, 0, none⟩), .agg #[.int .i64 a, .int .i64 c], .int .i64 o, .int .i64 to] w (Went B W w sB vB vs t (moveR t a c o to) a c (moveG to)) := by
  have hm := List.mem_of_getLast? ht
  exact (move_calls w sB vB vs t h.st hn ht (h.fine t hm) a c o to).mono fun e w' hS => h.step hB ht hS (fun hr => (moveR_zero hr).1) (fun hr n h1 h2 => by
    have hz := moveR_zero hr
    have := ownedE_in (vis_in (h.fine t hm) (h.tiles t hm) hz.2 hz.1.1 hz.1.2.2 n h1 h2)
    simp only [moveG]; omega)
theorem pledge_reg (a c o to : Int) : Calls Try.prog 22 #[.pointer (some ⟨sB, 0, none⟩), .agg #[.int .i64 a, .int .i64 c], .int .i64 o, .int .i64 to] w (Went B W w sB vB vs t (pledgeR t a c o to) a c (pledgeG to)) := by
  have hm := List.mem_of_getLast? ht
  exact (pledge_calls w sB vB vs t h.st hn ht (h.fine t hm) a c o to).mono fun e w' hS => h.step hB ht hS (fun hr => (pledgeR_zero hr).1) (fun hr n h1 h2 => by
    have hz := pledgeR_zero hr
    have := ownedE_in (vis_in (h.fine t hm) (h.tiles t hm) hz.2 hz.1.1 hz.1.2.2 n h1 h2)
    simp only [pledgeG]; omega)
theorem leave_reg (a c o : Int) : Calls Try.prog 25 #[.pointer (some ⟨sB, 0, none⟩), .agg #[.int .i64 a, .int .i64 c], .int .i64 o] w (Went B W w sB vB vs t (leaveR t a c o) a c leaveG) := by
  have hm := List.mem_of_getLast? ht
  exact (leave_calls w sB vB vs t h.st hn ht (h.fine t hm) a c o).mono fun e w' hS => h.step hB ht hS (fun hr => (leaveR_zero hr).1) (fun hr n _ _ => by simp [leaveG])
theorem release_reg (a c o : Int) : Calls Try.prog 23 #[.pointer (some ⟨sB, 0, none⟩), .agg #[.int .i64 a, .int .i64 c], .int .i64 o] w (Went B W w sB vB vs t (heldR t a c o) a c releaseG) := by
  have hm := List.mem_of_getLast? ht
  exact (release_calls w sB vB vs t h.st hn ht (h.fine t hm) a c o).mono fun e w' hS => h.step hB ht hS (fun hr => (heldR_zero hr).1) (fun hr n h1 h2 => by
    have hz := heldR_zero hr
    have := heldE_in (vis_in (h.fine t hm) (h.tiles t hm) hz.2 hz.1.1 hz.1.2.2 n h1 h2)
    simp only [releaseG]; omega)
theorem seize_reg (a c o : Int) : Calls Try.prog 24 #[.pointer (some ⟨sB, 0, none⟩), .agg #[.int .i64 a, .int .i64 c], .int .i64 o] w (Went B W w sB vB vs t (heldR t a c o) a c (seizeG o)) := by
  have hm := List.mem_of_getLast? ht
  exact (seize_calls w sB vB vs t h.st hn ht (h.fine t hm) a c o).mono fun e w' hS => h.step hB ht hS (fun hr => (heldR_zero hr).1) (fun hr n h1 h2 => by
    have hz := heldR_zero hr
    have := heldE_in (vis_in (h.fine t hm) (h.tiles t hm) hz.2 hz.1.1 hz.1.2.2 n h1 h2)
    simp only [seizeG]; omega)
end
end Go.Proofs.Ytnnbdjfeagcbdaa
