/- The reference: change. The reference's register: all versions as runs; New, Last, next. The reference: the first error of a span's pockets. The reference: owned, held. The reference: Move, Pledge, Release, Seize, Leave. The reference: Enter. A call done to the register and to the reference comes to the same. No program in sight but in the posts. -/
import Derived.Deep.CutBlock
import Derived.Test.YtepldjidkomclaaGreatJARf1
import Derived.Test.YtepldjidkomclaaGreatJAMake2
import Derived.Test.YtepldjidkomclaaGreatJARf0
namespace Go.Proofs.YtepldjidkomclaaGreat.St
set_option linter.unusedSimpArgs false
set_option linter.unusedVariables false
open Go.RowKit Go.Shelf
attribute [local go_sem] Oper.semAt_some
def InR (l : List Pc) : Prop := ∀ q ∈ l, 0 ≤ q.from_ ∧ q.from_ ≤ 1000001 ∧ -1 ≤ q.to ∧ q.to ≤ 1000000
theorem InR.add {l : List Pc} {p : Pc} (h : InR l) (hp : 0 ≤ p.from_ ∧ p.from_ ≤ 1000001 ∧ -1 ≤ p.to ∧ p.to ≤ 1000000) : InR (addR l p) := by
  unfold addR
  split
  · exact h
  · rcases List.eq_nil_or_concat l with rfl | ⟨L, q, rfl⟩
    · intro x hx; simp [appP] at hx; subst hx; exact hp
    · rw [List.concat_eq_append] at h ⊢
      rw [appP_last]
      have hq := h q (by simp)
      split
      · intro x hx
        rcases List.mem_append.1 hx with h1 | h1
        · exact h x (by simp [h1])
        · rw [List.mem_singleton.1 h1]; simp only; omega
      · intro x hx
        rcases List.mem_append.1 hx with h1 | h1
        · exact h x (by simp [h1])
        · simp only [List.mem_cons, List.not_mem_nil, or_false] at h1
          rcases h1 with h1 | h1
          · rw [h1]; exact hq
          · rw [h1]; exact hp
theorem InR.to {l : List Pc} (h : InR l) : ∀ q ∈ l, q.to ≤ 1000000000 ∧ -1000000000 ≤ q.to := fun q hq => by have := h q hq; omega
end Go.Proofs.YtepldjidkomclaaGreat.St
namespace Go.Proofs.YtepldjidkomclaaGreat.St
set_option linter.unusedSimpArgs false
set_option linter.unusedVariables false
open Go.RowKit Go.Shelf
attribute [local go_sem] Oper.semAt_some
end Go.Proofs.YtepldjidkomclaaGreat.St
namespace Go.Proofs.YtepldjidkomclaaGreat.St
set_option linter.unusedSimpArgs false
set_option linter.unusedVariables false
open Go.RowKit Go.Shelf
attribute [local go_sem] Oper.semAt_some
def FirstAt (e : Cl → Int) (val : Int → Cl) (a b r : Int) : Prop :=
  (r = 0 ∧ ∀ n, a ≤ n → n ≤ b → e (val n) = 0) ∨ (r ≠ 0 ∧ ∃ n, a ≤ n ∧ n ≤ b ∧ e (val n) = r ∧ ∀ m, a ≤ m → m < n → e (val m) = 0)
theorem filterMap_same {α β : Type} {f g : α → Option β} : ∀ {l : List α}, (∀ q ∈ l, f q = g q) → l.filterMap f = l.filterMap g
  | [], _ => rfl
  | q :: l, h => by rw [List.filterMap_cons, List.filterMap_cons, h q (by simp), filterMap_same fun x hx => h x (by simp [hx])]
theorem firstE_at (e : Cl → Int) {l : List Pc} {x y a b : Int} (ht : Tiles l x y) (hx : x ≤ a) (hab : a ≤ b) (hy : b ≤ y) : FirstAt e (valL l) a b (firstE e (visP l a b)) := by
  induction l generalizing x a with
  | nil =>
    simp only [Tiles] at ht
    refine .inl ⟨rfl, fun n h1 h2 => by omega⟩
  | cons p l ih =>
    obtain ⟨h1, h2, h3⟩ := ht
    by_cases hc : p.to < a
    · have hv : visP (p :: l) a b = visP l a b := by
        unfold visP
        rw [List.filterMap_cons]
        have : cutP a b p = none := by rw [cutP, if_neg (by omega)]
        rw [this]
      rw [hv]
      rcases ih h3 (a := a) (by omega) (by omega) with ⟨r1, r2⟩ | ⟨r1, n, n1, n2, n3, n4⟩
      · exact .inl ⟨r1, fun n h4 h5 => by rw [valL_tail (by omega)]; exact r2 n h4 h5⟩
      · exact .inr ⟨r1, n, n1, n2, by rw [valL_tail (by omega)]; exact n3, fun m m1 m2 => by rw [valL_tail (by omega)]; exact n4 m m1 m2⟩
    · by_cases hb : b < p.from_
      · have hv : visP (p :: l) a b = [] := by
          unfold visP
          rw [List.filterMap_eq_nil_iff]
          intro q hq
          have : b < q.from_ := by
            rcases List.mem_cons.1 hq with rfl | hq
            · exact hb
            · have := h3.mem q hq; omega
          rw [cutP, if_neg (by omega)]
        rw [hv]
        exact .inl ⟨rfl, fun n h4 h5 => by omega⟩
      · have hv : visP (p :: l) a b = p.cut a b :: visP l a b := by
          unfold visP
          rw [List.filterMap_cons]
          have : cutP a b p = some (p.cut a b) := by rw [cutP, if_pos (by omega)]
          rw [this]
        rw [hv, firstE]
        have hcell : (p.cut a b).cell = p.cell := rfl
        rw [hcell]
        by_cases he : e p.cell = 0
        · rw [if_neg (by simp [he])]
          by_cases hpb : b ≤ p.to
          · have hv2 : visP l a b = [] := by
              unfold visP
              rw [List.filterMap_eq_nil_iff]
              intro q hq
              have := h3.mem q hq
              rw [cutP, if_neg (by omega)]
            rw [hv2]
            exact .inl ⟨rfl, fun n h4 h5 => by rw [valL_head (by omega) (by omega)]; exact he⟩
          · have hv2 : visP l a b = visP l (p.to + 1) b := by
              unfold visP
              refine filterMap_same fun q hq => ?_
              have := h3.mem q hq
              rw [cutP, cutP]
              by_cases hqb : q.from_ ≤ b
              · rw [if_pos (by omega), if_pos (by omega)]
                simp only [Pc.cut, Option.some.injEq, Pc.mk.injEq, and_true]
                omega
              · rw [if_neg (by omega), if_neg (by omega)]
            rw [hv2]
            rcases ih h3 (a := p.to + 1) (Int.le_refl _) (by omega) with ⟨r1, r2⟩ | ⟨r1, n, n1, n2, n3, n4⟩
            · refine .inl ⟨r1, fun n h4 h5 => ?_⟩
              by_cases hn : n ≤ p.to
              · rw [valL_head (by omega) hn]; exact he
              · rw [valL_tail (by omega)]; exact r2 n (by omega) h5
            · refine .inr ⟨r1, n, by omega, n2, by rw [valL_tail (by omega)]; exact n3, fun m m1 m2 => ?_⟩
              by_cases hn : m ≤ p.to
              · rw [valL_head (by omega) hn]; exact he
              · rw [valL_tail (by omega)]; exact n4 m (by omega) m2
        · rw [if_pos he]
          exact .inr ⟨he, a, Int.le_refl _, by omega, by rw [valL_head (by omega) (by omega)], fun m m1 m2 => by omega⟩
end Go.Proofs.YtepldjidkomclaaGreat.St
namespace Go.Proofs.YtepldjidkomclaaGreat.St
set_option linter.unusedSimpArgs false
set_option linter.unusedVariables false
open Go.RowKit Go.Shelf
attribute [local go_sem] Oper.semAt_some
end Go.Proofs.YtepldjidkomclaaGreat.St
namespace Go.Proofs.YtepldjidkomclaaGreat.St
set_option linter.unusedSimpArgs false
set_option linter.unusedVariables false
open Go.RowKit Go.Shelf
attribute [local go_sem] Oper.semAt_some
end Go.Proofs.YtepldjidkomclaaGreat.St
namespace Go.Proofs.YtepldjidkomclaaGreat.St
set_option linter.unusedSimpArgs false
set_option linter.unusedVariables false
open Go.RowKit Go.Shelf
attribute [local go_sem] Oper.semAt_some
end Go.Proofs.YtepldjidkomclaaGreat.St
namespace Go.Proofs.YtepldjidkomclaaGreat.St
set_option linter.unusedSimpArgs false
set_option linter.unusedVariables false
open Go.RowKit Go.Shelf
structure TrOk (t : T) : Prop where
  fine : Fine t
  tiles : Tiles t.toList 1 1000000
  canon : Canon t.toList
  zero : ∀ n, (valL t.toList n).state = 0 → valL t.toList n = cl0
theorem Reg.tr {B : Nat} {W w : World} {sB vB : Nat} {vs : List T} (h : Reg B W w sB vB vs) {t : T} (hm : t ∈ vs) : TrOk t := ⟨h.fine t hm, h.tiles t hm, h.canon t hm, h.zero t hm⟩
def inT (t : T) : List Pc := inL t.toList
theorem TrOk.runs {t : T} (h : TrOk t) : RunsP (inT t) := inL_runs h.tiles h.canon
theorem TrOk.val {t : T} (h : TrOk t) (n : Int) : valL (inT t) n = valL t.toList n := inL_val h.tiles h.zero n
section
variable {t : T} (h : TrOk t) {a c o tt r' : Int} {l : List Pc}
include h
end
end Go.Proofs.YtepldjidkomclaaGreat.St
