/- board.Cost. -/
import Derived.BigQuiet
import Derived.Test.YtdjhpldiifdifaaJBrd1
namespace Go.Proofs.Ytdjhpldiifdifaa
set_option linter.unusedSimpArgs false
set_option linter.unusedVariables false
open Go.RowKit Go.Shelf
attribute [local go_sem] Oper.semAt_some
attribute [local go_sem ↓] Go.wp_at_zero Go.wp_at_succ

/-- How much a market order of a stranger would trade, and for how much. -/
def costF (qty : Int) : List En → Int × Int → Int × Int
  | [], z => z
  | e :: r, z => if z.1 < qty then costF qty r (z.1 + min (qty - z.1) e.l, z.2 + min (qty - z.1) e.l * e.o.p) else z
theorem costF_done {qty : Int} {z : Int × Int} (h : ¬ z.1 < qty) : ∀ l, costF qty l z = z
  | [] => rfl
  | e :: r => by show (if z.1 < qty then _ else z) = z; rw [if_neg h]

set_option maxRecDepth 100000 in
set_option maxHeartbeats 4000000 in
theorem cost1_calls {w : World} {Y B1 B2 B3 : Nat} {y : En} {wy : Bool} {py : Option Nat} {qty f m : Int} (hY : EnC w Y y wy py) (h1 : Cells w B1 #[.int .i64 qty] 2) (h2 : Cells w B2 #[.int .i64 f] 2) (h3 : Cells w B3 #[.int .i64 m] 2)
    (hf : 0 ≤ f ∧ f < qty) (hq : qty ≤ 1000000000) (hm : 0 ≤ m ∧ m ≤ 1000000000000000) (hl : 1 ≤ y.l ∧ y.l ≤ 1000000000) (hp : 0 ≤ y.o.p ∧ y.o.p ≤ 1000000) (n1 : B1 ≠ B2) (n2 : B1 ≠ B3) (n3 : B2 ≠ B3) :
    Calls Try.prog 51 #[pt Y, pt B1, pt B2, pt B3] w fun e w' => e = .returned (.bool (decide (f + min (qty - f) y.l < qty))) ∧ Cells w' B2 #[.int .i64 (f + min (qty - f) y.l)] 2 ∧ Cells w' B3 #[.int .i64 (m + min (qty - f) y.l * y.o.p)] 2 ∧ Kept (fun k => k = B2 ∨ k = B3) w w' := by
  obtain ⟨d, hd⟩ : ∃ d, d = min (qty - f) y.l := ⟨_, rfl⟩
  obtain ⟨z, hz⟩ : ∃ z, z = d * y.o.p := ⟨_, rfl⟩
  have hd1 : 1 ≤ d ∧ d ≤ qty - f ∧ d ≤ y.l := by omega
  have hz0 : 0 ≤ z := by rw [hz]; exact Int.mul_nonneg (by omega) hp.1
  have hz1 : z ≤ 1000000000000000 := by
    rw [hz]
    have h4 : d * y.o.p ≤ 1000000000 * y.o.p := Int.mul_le_mul_of_nonneg_right (by omega) hp.1
    omega
  have y9 : w.cell? ⟨Y, 9, none⟩ = some (.int .i64 y.l) := by rw [Cells.cell hY]; rfl
  have y5 : w.cell? ⟨Y, 5, none⟩ = some (.int .i64 y.o.p) := by rw [Cells.cell hY]; rfl
  have b1 : w.cell? ⟨B1, 0, none⟩ = some (.int .i64 qty) := by rw [h1.cell]; rfl
  have b2 : w.cell? ⟨B2, 0, none⟩ = some (.int .i64 f) := by rw [h2.cell]; rfl
  have b3 : w.cell? ⟨B3, 0, none⟩ = some (.int .i64 m) := by rw [h3.cell]; rfl
  have f2 : w.frozen? ⟨B2, 0, none⟩ = false := h2.frozen 0
  have f3 : w.frozen? ⟨B3, 0, none⟩ = false := h3.frozen 0
  have hYl := hY.lt
  have hB1 := h1.lt
  have hB2 := h2.lt
  have hB3 := h3.lt
  have hny2 : Y ≠ B2 := Cells.ne hY h2 (by decide)
  have hny3 : Y ≠ B3 := Cells.ne hY h3 (by decide)
  obtain ⟨p, hpp⟩ : ∃ p, p = y.o.p := ⟨_, rfl⟩
  obtain ⟨l, hll⟩ : ∃ l, l = y.l := ⟨_, rfl⟩
  rw [← hpp] at y5 hz hp ⊢
  rw [← hll] at y9 hd hl hd1 ⊢
  rw [← hd, ← hz]
  have HZ := hid hz
  have HD := hid hd
  have K := hid (show ∀ wx, wx = ((w.drewN 1).setCell ⟨B2, 0, none⟩ (.int .i64 (f + d))) → True from fun _ _ => trivial)
  obtain ⟨R, hR⟩ : ∃ R : Ending → World → Prop, R = fun e w' => e = .returned (.bool (decide (f + d < qty))) ∧ Cells w' B2 #[.int .i64 (f + d)] 2 ∧ Cells w' B3 #[.int .i64 (m + z)] 2 ∧ Kept (fun k => k = B2 ∨ k = B3) w w' := ⟨_, rfl⟩
  have H2 := hid h2
  have H3 := hid h3
  have HR := hid hR
  rw [← hR]
  clear hz hd hpp hll h1 h2 h3 hY hR K
  go_enter Try.func51, Try.ntmps51
  go_upto_region 1 with fail
  go_cut [6] (fun s6 wx => s6 = .int .i64 d ∧ ∃ n, wx = w.drewN n)
  case first =>
    by_cases hle : qty - f ≤ l
    · have e : d = qty - f := by have := HD.out; omega
      subst e
      go_big_quiet (fail)
      go_wp2
      go_meet
      exact ⟨rfl, _, rfl⟩
    · have e : d = l := by have := HD.out; omega
      subst e
      go_big_quiet (fail)
      all_goals go_wp2
      all_goals go_meet
      all_goals first | exact ⟨rfl, _, rfl⟩ | (exfalso; omega)
  case rest =>
    obtain ⟨rfl, n, rfl⟩ := hcut
    have FIN := hid (show ∀ wx k, wx = (((w.drewN n).setCell ⟨B2, 0, none⟩ (.int .i64 (f + d))).setCell ⟨B3, 0, none⟩ (.int .i64 (m + z))).drewN k → R (.returned (.bool (decide (f + d < qty)))) wx by
      rintro wx k rfl
      rw [HR.out]
      have k1 : Kept (fun k => k = B2 ∨ k = B3) w ((w.drewN n).setCell ⟨B2, 0, none⟩ (.int .i64 (f + d))) := ((Kept.refl _ w).drewN n).set (C := B2) (.inl rfl) 0 _
      have c2 : Cells ((w.drewN n).setCell ⟨B2, 0, none⟩ (.int .i64 (f + d))) B2 #[.int .i64 (f + d)] 2 := (H2.out.drewN n).set 0 _
      have c3 : Cells ((w.drewN n).setCell ⟨B2, 0, none⟩ (.int .i64 (f + d))) B3 #[.int .i64 m] 2 := (H3.out.drewN n).kept ((Kept.refl (fun k => k = B2) _).set (C := B2) rfl 0 _) (fun e => n3 e.symm)
      have c4 := c2.kept (w' := ((w.drewN n).setCell ⟨B2, 0, none⟩ (.int .i64 (f + d))).setCell ⟨B3, 0, none⟩ (.int .i64 (m + z))) ((Kept.refl (fun k => k = B3) _).set (C := B3) rfl 0 _) n3
      exact ⟨rfl, c4.drewN k, (c3.set 0 _).drewN k, (k1.set (C := B3) (.inr rfl) 0 _).drewN k⟩)
    have hzz : d * p = z := HZ.out.symm
    go_wp2
    go_region
    all_goals go_wp2
    all_goals (
      have hx := hzz
      first | exact FIN.out _ _ rfl | (go_ret; exact FIN.out _ _ rfl))
end Go.Proofs.Ytdjhpldiifdifaa
