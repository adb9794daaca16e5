/- A canonical tiling is fixed by the states it gives. No program in sight. -/
import Derived.Test.YtnnbdjfeagcbdaaLaw0
namespace Go.Proofs.Ytnnbdjfeagcbdaa
set_option linter.unusedSimpArgs false
set_option linter.unusedVariables false
open Go.RowKit Go.Shelf

theorem valL_head {p : Pc} {l : List Pc} {n : Int} (h1 : p.from_ ≤ n) (h2 : n ≤ p.to) : valL (p :: l) n = p.cell := by rw [valL, if_pos ⟨h1, h2⟩]
theorem valL_tail {p : Pc} {l : List Pc} {n : Int} (h : p.to < n) : valL (p :: l) n = valL l n := by rw [valL, if_neg (by omega)]
/-- The first piece of a canonical tiling ends no later than that of another one with the same states. -/
theorem canon_first_le {p q : Pc} {l m : List Pc} {a b : Int} (hl : Tiles (p :: l) a b) (hm : Tiles (q :: m) a b) (cl : Canon (p :: l)) (hv : ∀ n, a ≤ n → n ≤ b → valL (p :: l) n = valL (q :: m) n) : q.to ≤ p.to := by
  obtain ⟨h1, h2, h3⟩ := hl
  obtain ⟨k1, k2, k3⟩ := hm
  have lb := k3.le
  rcases Int.lt_or_le p.to q.to with hlt | hle
  · exfalso
    cases l with
    | nil => simp only [Tiles] at h3; omega
    | cons r l =>
      obtain ⟨g1, g2, g3⟩ := h3
      have e0 := hv a (by omega) (by omega)
      rw [valL_head (by omega) (by omega), valL_head (by omega) (by omega)] at e0
      have e1 := hv (p.to + 1) (by omega) (by omega)
      rw [valL_tail (by omega), valL_head (by omega) (by omega), valL_head (by omega) (by omega)] at e1
      exact cl.1 (e0.trans e1.symm) g1.symm
  · exact hle
theorem canon_unique : ∀ {l m : List Pc} {a b : Int}, Tiles l a b → Tiles m a b → Canon l → Canon m → (∀ n, a ≤ n → n ≤ b → valL l n = valL m n) → l = m
  | [], [], _, _, _, _, _, _, _ => rfl
  | [], q :: m, a, b, h, k, _, _, _ => by obtain ⟨k1, k2, k3⟩ := k; have := k3.le; simp only [Tiles] at h; omega
  | p :: l, [], a, b, h, k, _, _, _ => by obtain ⟨k1, k2, k3⟩ := h; have := k3.le; simp only [Tiles] at k; omega
  | p :: l, q :: m, a, b, h, k, cl, cm, hv => by
    have l1 := canon_first_le h k cl hv
    have l2 := canon_first_le k h cm (fun n h1 h2 => (hv n h1 h2).symm)
    obtain ⟨h1, h2, h3⟩ := h
    obtain ⟨k1, k2, k3⟩ := k
    have lb := h3.le
    have e0 := hv a (by omega) (by omega)
    rw [valL_head (by omega) (by omega), valL_head (by omega) (by omega)] at e0
    have et : p.to = q.to := by omega
    have ef : p.from_ = q.from_ := by omega
    have epq : p = q := by cases p; cases q; simp_all
    subst epq
    have := canon_unique h3 k3 cl.tail cm.tail (fun n g1 g2 => by
      have := hv n (by omega) g2
      rwa [valL_tail (by omega), valL_tail (by omega)] at this)
    rw [this]
end Go.Proofs.Ytnnbdjfeagcbdaa
