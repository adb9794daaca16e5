/- Mirrored bids, plain. -/
import Derived.Test.YtjhelinbjlahiaaJDu0
namespace Go.Proofs.Ytjhelinbjlahiaa
set_option linter.unusedSimpArgs false
set_option linter.unusedVariables false
open Go.RowKit
def mirB (b : Bd) : Bd := ⟨3 - b.s, 1000001 - b.p, b.q⟩
def mirL (l : List Bd) : List Bd := l.map mirB
theorem mirL_len (l : List Bd) : (mirL l).length = l.length := by simp [mirL]
theorem mir_ok {b : Bd} (h : b.ok) : (mirB b).ok := by unfold Bd.ok mirB at *; simp only; omega
theorem mirL_ok {l : List Bd} (h : ∀ b ∈ l, b.ok) : ∀ b ∈ mirL l, b.ok := fun b hb => by
  obtain ⟨c, hc, rfl⟩ := List.mem_map.1 hb
  exact mir_ok (h c hc)
theorem sumQ_mir {f g : Bd → Bool} : ∀ {l : List Bd}, (∀ b ∈ l, f (mirB b) = g b) → sumQ f (mirL l) = sumQ g l
  | [], _ => rfl
  | b :: l, h => by
    have ih := sumQ_mir (f := f) (g := g) (l := l) fun c hc => h c (List.mem_cons_of_mem _ hc)
    have : mirL (b :: l) = mirB b :: mirL l := rfl
    rw [this]
    simp only [sumQ, ih, h b List.mem_cons_self]
    rfl
theorem dem_mir {l : List Bd} (hok : ∀ b ∈ l, b.ok) (x : Int) : dem (mirL l) (1000001 - x) = sup l x := sumQ_mir fun b hb => by
  obtain ⟨h, _⟩ := hok b hb
  unfold buyT selT mirB
  rw [Bool.eq_iff_iff]; simp; omega
theorem sup_mir {l : List Bd} (hok : ∀ b ∈ l, b.ok) (x : Int) : sup (mirL l) (1000001 - x) = dem l x := sumQ_mir fun b hb => by
  obtain ⟨h, _⟩ := hok b hb
  unfold buyT selT mirB
  rw [Bool.eq_iff_iff]; simp; omega
theorem volX_mir {l : List Bd} (hok : ∀ b ∈ l, b.ok) (x : Int) : volX (mirL l) (1000001 - x) = volX l x := by
  unfold volX; rw [dem_mir hok, sup_mir hok]; omega
theorem dual_mir (P : Int) : ∀ {l : List Bd}, (∀ b ∈ l, b.ok) → dual (1000001 - P) (mirL l) = dual P l
  | [], _ => rfl
  | b :: l, h => by
    have ih := dual_mir P (l := l) fun c hc => h c (List.mem_cons_of_mem _ hc)
    have e : mirL (b :: l) = mirB b :: mirL l := rfl
    obtain ⟨hs, _⟩ := h b List.mem_cons_self
    rw [e]
    simp only [dual, ih]
    have : dT (1000001 - P) (mirB b) = dT P b := by
      unfold dT mirB
      rcases hs with hs | hs
      · rw [hs]; simp
        rw [show 1000001 - P - (1000001 - b.p) = b.p - P by omega]
      · rw [hs]; simp
        rw [show 1000001 - b.p - (1000001 - P) = P - b.p by omega]
    omega
/-- Best's ends. -/
def bLo (l : List Bd) : Int := ((bestZ l).getD 0 zn0).f
def bHi (l : List Bd) : Int := ((bestZ l).getD ((bestZ l).length - 1) zn0).t
section
variable {l : List Bd} (hl : l.length ≤ 4096) (hok : ∀ b ∈ l, b.ok)
include hl hok
theorem best_ends : (1 ≤ bLo l ∧ bLo l ≤ 1000000 ∧ volX l (bLo l) = most l) ∧ (1 ≤ bHi l ∧ bHi l ≤ 1000000 ∧ volX l (bHi l) = most l) := by
  obtain ⟨b1, b2, b3⟩ := bestZ_vol hl hok
  have h0 : 0 < (bestZ l).length := List.length_pos_iff.2 b1
  have hl1 : (bestZ l).length - 1 < (bestZ l).length := by omega
  have e0 : (bestZ l).getD 0 zn0 = (bestZ l)[0] := by simp [h0]
  have e1 : (bestZ l).getD ((bestZ l).length - 1) zn0 = (bestZ l)[(bestZ l).length - 1] := by simp [hl1]
  have m : ∀ z ∈ bestZ l, z ∈ zonesL l ∧ z.vol = most l ∧ z.ok := fun z hz => by
    have hz' := hz
    rw [b3] at hz'
    exact ⟨(List.mem_filter.1 hz').1, by simpa using (List.mem_filter.1 hz').2, (zonesL_ok hl hok).1 z (List.mem_filter.1 hz').1⟩
  unfold bLo bHi
  rw [e0, e1]
  constructor
  · obtain ⟨m1, m2, m3⟩ := m _ (List.getElem_mem h0)
    have k := m3
    obtain ⟨k1, k2, k3, _⟩ := k
    exact ⟨k1, by omega, by rw [(zone_vol hok m1 (Int.le_refl _) k2).2.2, m2]⟩
  · obtain ⟨m1, m2, m3⟩ := m _ (List.getElem_mem hl1)
    have k := m3
    obtain ⟨k1, k2, k3, _⟩ := k
    exact ⟨by omega, k3, by rw [(zone_vol hok m1 k2 (Int.le_refl _)).2.2, m2]⟩
theorem best_within {x : Int} (h1 : 1 ≤ x) (h2 : x ≤ 1000000) (h : volX l x = most l) : bLo l ≤ x ∧ x ≤ bHi l := by
  obtain ⟨b1, b2, b3⟩ := bestZ_vol hl hok
  obtain ⟨z, hz, z1, z2⟩ := zone_cover hok h1 h2
  have hb : z ∈ bestZ l := by
    rw [b3]
    refine List.mem_filter.2 ⟨hz, ?_⟩
    have := (zone_vol hok hz z1 z2).2.2
    simp; omega
  have hr : Rising (bestZ l) := by rw [b3]; exact (zones_rising hok).filter _
  obtain ⟨i, hi, rfl⟩ := List.getElem_of_mem hb
  have h0 : 0 < (bestZ l).length := by omega
  have hl1 : (bestZ l).length - 1 < (bestZ l).length := by omega
  have e0 : (bestZ l).getD 0 zn0 = (bestZ l)[0] := by simp [h0]
  have e1 : (bestZ l).getD ((bestZ l).length - 1) zn0 = (bestZ l)[(bestZ l).length - 1] := by simp [hl1]
  unfold bLo bHi
  rw [e0, e1]
  constructor
  · rcases Nat.eq_zero_or_pos i with q | q
    · subst q; exact z1
    · have := (hr.lt q hi).1
      have := hr.2 _ (List.getElem_mem h0)
      omega
  · by_cases q : i = (bestZ l).length - 1
    · subst q; exact z2
    · have := (hr.lt (show i < (bestZ l).length - 1 by omega) hl1).2
      omega
theorem most_mir : most (mirL l) = most l := by
  have hl' : (mirL l).length ≤ 4096 := by rw [mirL_len]; exact hl
  obtain ⟨x, x1, x2, x3⟩ := most_at hok hl
  obtain ⟨y, y1, y2, y3⟩ := most_at (mirL_ok hok) hl'
  have a := vol_le_most (mirL_ok hok) (x := 1000001 - x) (by omega) (by omega)
  rw [volX_mir hok, x3] at a
  have b := vol_le_most hok (x := 1000001 - y) (by omega) (by omega)
  have c := volX_mir hok (1000001 - y)
  rw [show 1000001 - (1000001 - y) = y by omega, y3] at c
  omega
theorem best_mir : bLo (mirL l) = 1000001 - bHi l ∧ bHi (mirL l) = 1000001 - bLo l := by
  have hl' : (mirL l).length ≤ 4096 := by rw [mirL_len]; exact hl
  obtain ⟨⟨a1, a2, a3⟩, c1, c2, c3⟩ := best_ends hl hok
  obtain ⟨⟨d1, d2, d3⟩, e1, e2, e3⟩ := best_ends hl' (mirL_ok hok)
  have mm := most_mir hl hok
  have p1 := best_within hl' (mirL_ok hok) (x := 1000001 - bLo l) (by omega) (by omega) (by rw [volX_mir hok, a3, mm])
  have p2 := best_within hl' (mirL_ok hok) (x := 1000001 - bHi l) (by omega) (by omega) (by rw [volX_mir hok, c3, mm])
  have f1 := volX_mir hok (1000001 - bLo (mirL l))
  rw [show 1000001 - (1000001 - bLo (mirL l)) = bLo (mirL l) by omega, d3, mm] at f1
  have f2 := volX_mir hok (1000001 - bHi (mirL l))
  rw [show 1000001 - (1000001 - bHi (mirL l)) = bHi (mirL l) by omega, e3, mm] at f2
  have q1 := best_within hl hok (x := 1000001 - bLo (mirL l)) (by omega) (by omega) f1.symm
  have q2 := best_within hl hok (x := 1000001 - bHi (mirL l)) (by omega) (by omega) f2.symm
  omega
theorem gain_mir {x y rule rule' : Int} (hx : 1 ≤ x ∧ x ≤ 1000000) (hy : 1 ≤ y ∧ y ≤ 1000000) (h1 : volX l x = most l) (h2 : volX (mirL l) y = most (mirL l)) :
    gsum (mirL l) (fillsL (mirL l) y (volX (mirL l) y) rule') = gsum l (fillsL l x (volX l x) rule) := by
  have hl' : (mirL l).length ≤ 4096 := by rw [mirL_len]; exact hl
  obtain ⟨P, hP⟩ := gain_dual hok (rule := rule) hx rfl (fun y a b => by rw [h1]; exact vol_le_most hok a b)
  obtain ⟨Q, hQ⟩ := gain_dual (mirL_ok hok) (rule := rule') hy rfl (fun y a b => by rw [h2]; exact vol_le_most (mirL_ok hok) a b)
  have w1 := gain_weak hok (x := x) (rule := rule) (1000001 - Q) rfl
  have w2 := gain_weak (mirL_ok hok) (x := y) (rule := rule') (1000001 - P) rfl
  rw [dual_mir P hok] at w2
  have e := dual_mir (1000001 - Q) hok
  rw [show 1000001 - (1000001 - Q) = Q by omega] at e
  omega
end
end Go.Proofs.Ytjhelinbjlahiaa
