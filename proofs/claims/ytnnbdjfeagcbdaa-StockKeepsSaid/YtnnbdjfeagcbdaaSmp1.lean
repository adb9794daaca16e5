/- below, Below: a number below m. -/
import Derived.Test.YtnnbdjfeagcbdaaSmp0
namespace Go.Proofs.Ytnnbdjfeagcbdaa
set_option linter.unusedSimpArgs false
set_option linter.unusedVariables false
open Go.RowKit
attribute [local go_sem] Oper.semAt_some

theorem setCell_grown (w : World) (B j : Nat) (v : Value) : w.grownBy (w.setCell ⟨B, j, none⟩ v) (some B) :=
  ⟨rfl, rfl, rfl, by simp [World.setCell], fun k _ hk => Below.heap_setCell w ⟨B, j, none⟩ v k (fun e => hk (by simp [show k = B from e]))⟩
theorem grownBy_trans {a b c : World} {r : Option Nat} (h : a.grownBy b r) (k : b.grownBy c r) : a.grownBy c r :=
  ⟨k.os.trans h.os, k.tape.trans h.tape, k.output.trans h.output, Nat.le_trans h.size k.size, fun i hi hr => (k.block i (Nat.lt_of_lt_of_le hi h.size) hr).trans (h.block i hi hr)⟩
theorem grownBy_refl (a : World) (r : Option Nat) : a.grownBy a r := ⟨rfl, rfl, rfl, Nat.le_refl _, fun _ _ _ => rfl⟩
theorem grownBy_drewN {a b : World} {r : Option Nat} (h : a.grownBy b r) (k : Nat) : a.grownBy (b.drewN k) r := ⟨h.os, h.tape, h.output, h.size, h.block⟩
def genM (B : Nat) (w : World) : Nat := match w.cell? ⟨B, 0, none⟩ with | some (.int _ x) => dist (drawS x.toNat) | _ => 0
theorem genM_eq {B : Nat} {w : World} {x : Nat} (h : w.cell? ⟨B, 0, none⟩ = some (.int .u64 (x : Int))) : genM B w = dist (drawS x) := by unfold genM; rw [h]; simp
theorem mod_neg (m : Nat) (h0 : 0 < m) (h1 : m < 18446744073709551616) : (18446744073709551616 - m) % m = 18446744073709551616 % m := by
  have e : 18446744073709551616 = (18446744073709551616 - m) + m := by omega
  rw [show 18446744073709551616 % m = ((18446744073709551616 - m) + m) % m by rw [← e], Nat.add_mod_right]
theorem mod_top (m : Nat) (h0 : 0 < m) : (18446744073709551615 % m + 1) % m = 18446744073709551616 % m := by
  rw [show 18446744073709551616 = 18446744073709551615 + 1 by rfl, Nat.add_mod 18446744073709551615 1 m, Nat.add_mod (18446744073709551615 % m) 1 m, Nat.mod_mod]

set_option maxRecDepth 100000 in
set_option maxHeartbeats 2000000 in
theorem below_calls (x m : Nat) (hx : x < 18446744073709551616) (hm : 0 < m) (hm2 : m < 18446744073709551616) (B : Nat) (w : World) (hg : Cells w B #[.int .u64 x] 100) :
    Calls Try.prog 47 #[.pointer (some ⟨B, 0, none⟩), .int .u64 m] w fun e w' => ∃ y r : Nat, BelR m x y r ∧ e = .returned (.int .u64 r) ∧ Cells w' B #[.int .u64 y] 100 ∧ w.grownBy w' (some B) := by
  have HG := hid hg
  have MN := hid (mod_neg m hm hm2)
  have hv1 : 18446744073709551616 % m < m := Nat.mod_lt _ hm
  obtain ⟨v, hv⟩ : ∃ v, v = 18446744073709551616 % m := ⟨_, rfl⟩
  rw [← hv] at hv1
  have n0 : IntKind.u64.wrap (-(m : Int)) = ((18446744073709551616 - m : Nat) : Int) := by rw [IntKind.wrap_u64]; omega
  obtain ⟨m', hm'⟩ : ∃ m', m' = 18446744073709551616 - m := ⟨_, rfl⟩
  rw [← hm'] at n0
  have n1 : (m' : Int).tmod (m : Int) = (v : Int) := by
    rw [Int.tmod_eq_emod_of_nonneg (by omega), ← Int.natCast_emod, hm', MN.out, hv]
  have n1' : (m' : Int) % (m : Int) = (v : Int) := by rw [← Int.natCast_emod, hm', MN.out, hv]
  have n2 : IntKind.u64.wrap (v : Int) = (v : Int) := IntWalk.u64_in _ (by omega)
  have n3 : ((m : Int) == 0) = false := by simp; omega
  have n4 : (m : Int) ≠ 0 := by omega
  have HV := hid hv
  clear hg hv hm'
  go_enter Try.func47, Try.ntmps47
  go_wp2
  go_loopw [6] (fun _ wr => ∃ c : Nat, c < 18446744073709551616 ∧ (∀ y r, BelR m c y r → BelR m x y r) ∧ Cells wr B #[.int .u64 c] 100 ∧ w.grownBy wr (some B)) (fun _ wr => genM B wr)
  case atStart => exact ⟨x, hx, fun _ _ h => h, HG.out, grownBy_refl _ _⟩
  case round =>
    obtain ⟨c, hc, hb, hcl, hgr⟩ := hrel
    have c0 : wr.cell? ⟨B, 0, none⟩ = some (.int .u64 (c : Int)) := by simp [hcl.cell]
    have GM := hid (genM_eq c0)
    have HB := hid hb
    have HC := hid hcl
    have HR := hid hgr
    have fz := hcl.frozen 0
    clear hb hcl hgr
    go_wp2_with fail
    refine (next_calls c hc B wr c0 fz).mono ?_
    rintro e w1 ⟨rfl, hw1⟩
    have C1 := hid (show Cells w1 B #[.int .u64 (drawS c : Nat)] 100 by rw [hw1]; exact HC.out.set 0 _)
    have R1 := hid (show w.grownBy w1 (some B) by rw [hw1]; exact grownBy_trans HR.out (setCell_grown _ _ _ _))
    have G1 := hid (show genM B w1 = dist (drawS (drawS c)) from genM_eq (by simp [C1.out.cell]))
    clear hw1 c0 fz
    obtain ⟨z, hz⟩ : ∃ z, z = drawZ c := ⟨_, rfl⟩
    have zl : z < 18446744073709551616 := by rw [hz]; exact drawZ_lt c
    have HZ := hid hz
    rw [← hz]
    clear hz
    by_cases ht : z + v < 18446744073709551616
    · have hit := hid (BelR.hit (m := m) c (by unfold takes; rw [← HZ.out, ← HV.out]; exact ht))
      have zm : (z : Int).tmod (m : Int) = ((z % m : Nat) : Int) := by rw [Int.tmod_eq_emod_of_nonneg (by omega)]; exact (Int.natCast_emod z m).symm
      have zm' : (z : Int) % (m : Int) = ((z % m : Nat) : Int) := (Int.natCast_emod z m).symm
      obtain ⟨q, hq⟩ : ∃ q, q = z % m := ⟨_, rfl⟩
      have ql : q < m := by rw [hq]; exact Nat.mod_lt _ hm
      rw [← hq] at zm zm'
      have HQ := hid hq
      have kq : IntKind.u64.wrap (q : Int) = (q : Int) := IntWalk.u64_in _ (by omega)
      clear hq
      by_cases h0 : v = 0
      · have t0 : ((v : Int) == 0) = true := by simp [h0]
        clear h0 zm'
        go_wp2
        go_ret
        exact ⟨_, q, HB.out _ _ (by rw [HQ.out, HZ.out]; exact hit.out), rfl, C1.out, R1.out⟩
      · have t0 : ((v : Int) == 0) = false := by simp [h0]
        have t1 : IntKind.u64.wrap (-(v : Int)) = 18446744073709551616 - (v : Int) := by rw [IntKind.wrap_u64]; omega
        have t2 : decide ((z : Int) < 18446744073709551616 - (v : Int)) = true := by simp; omega
        clear h0 zm'
        go_wp2
        go_ret
        exact ⟨_, q, HB.out _ _ (by rw [HQ.out, HZ.out]; exact hit.out), rfl, C1.out, R1.out⟩
    · have hmiss : ¬ takes m (drawZ c) := by unfold takes; rw [← HZ.out, ← HV.out]; exact ht
      have t0 : ((v : Int) == 0) = false := by simp; omega
      have t1 : IntKind.u64.wrap (-(v : Int)) = 18446744073709551616 - (v : Int) := by rw [IntKind.wrap_u64]; omega
      have t2 : decide ((z : Int) < 18446744073709551616 - (v : Int)) = false := by simp; omega
      have MS := hid hmiss
      clear hmiss
      go_wp2
      go_roundw
      case rel => exact ⟨drawS c, drawS_lt c, fun y r h => HB.out y r (.miss c y r MS.out h), C1.out, R1.out⟩
      case measure => rw [G1.out, GM.out]; exact miss_dist m c hm hm2 MS.out

set_option maxRecDepth 100000 in
set_option maxHeartbeats 2000000 in
theorem rbelow_calls (x m : Nat) (hx : x < 18446744073709551616) (hm : 0 < m) (hm2 : m < 18446744073709551616) (w : World) :
    Calls Try.prog 48 #[.int .u64 x, .int .u64 m] w fun e w' => ∃ y r : Nat, BelR m x y r ∧ e = .returned (.tuple #[.int .u64 y, .int .u64 r]) ∧ Below w.heap.size w w' := by
  have MN := hid (mod_top m hm)
  have hv1 : 18446744073709551616 % m < m := Nat.mod_lt _ hm
  obtain ⟨v, hv⟩ : ∃ v, v = 18446744073709551616 % m := ⟨_, rfl⟩
  rw [← hv] at hv1
  obtain ⟨p, hp⟩ : ∃ p, p = 18446744073709551615 % m := ⟨_, rfl⟩
  have hp1 : p < m := by rw [hp]; exact Nat.mod_lt _ hm
  have n1 : (18446744073709551615 : Int).tmod (m : Int) = (p : Int) := by rw [Int.tmod_eq_emod_of_nonneg (by omega), hp]; simp
  have n1' : (18446744073709551615 : Int) % (m : Int) = (p : Int) := by rw [hp]; simp
  have n2 : IntKind.u64.wrap (p : Int) = (p : Int) := IntWalk.u64_in _ (by omega)
  obtain ⟨p1, hp2⟩ : ∃ p1, p1 = p + 1 := ⟨_, rfl⟩
  have n3 : IntKind.u64.wrap ((p : Int) + 1) = (p1 : Int) := by rw [IntWalk.u64_in _ (by omega)]; omega
  have n4 : (p1 : Int).tmod (m : Int) = (v : Int) := by rw [Int.tmod_eq_emod_of_nonneg (by omega), ← Int.natCast_emod, hp2, hp, MN.out, hv]
  have n4' : (p1 : Int) % (m : Int) = (v : Int) := by rw [← Int.natCast_emod, hp2, hp, MN.out, hv]
  have n5 : IntKind.u64.wrap (v : Int) = (v : Int) := IntWalk.u64_in _ (by omega)
  have n6 : ((m : Int) == 0) = false := by simp; omega
  have n7 : (m : Int) ≠ 0 := by omega
  have HV := hid hv
  clear hv hp hp2
  go_enter Try.func48, Try.ntmps48
  go_wp2
  go_loopw [0, 7, 8] (fun a _ _ wr => ∃ c : Nat, a = .int .u64 c ∧ c < 18446744073709551616 ∧ (∀ y r, BelR m c y r → BelR m x y r) ∧ wr = w) (fun a _ _ _ => dist (drawS (intOf a).toNat))
  case atStart => exact ⟨x, rfl, hx, fun _ _ h => h, rfl⟩
  case round =>
    obtain ⟨c, rfl, hc, hb, rfl⟩ := hrel
    have HB := hid hb
    clear hb
    go_wp2_with fail
    refine (rdraw_calls c hc _).mono ?_
    rintro e w1 ⟨rfl, rfl⟩
    obtain ⟨z, hz⟩ : ∃ z, z = drawZ c := ⟨_, rfl⟩
    have zl : z < 18446744073709551616 := by rw [hz]; exact drawZ_lt c
    obtain ⟨s, hs⟩ : ∃ s, s = drawS c := ⟨_, rfl⟩
    have sl : s < 18446744073709551616 := by rw [hs]; exact drawS_lt c
    have HZ := hid hz
    have HS := hid hs
    rw [← hz, ← hs]
    clear hz hs
    have t1 : IntKind.u64.wrap (18446744073709551615 - (v : Int)) = 18446744073709551615 - (v : Int) := IntWalk.u64_in _ (by omega)
    by_cases ht : z + v < 18446744073709551616
    · have hit := hid (BelR.hit (m := m) c (by unfold takes; rw [← HZ.out, ← HV.out]; exact ht))
      have zm : (z : Int).tmod (m : Int) = ((z % m : Nat) : Int) := by rw [Int.tmod_eq_emod_of_nonneg (by omega)]; exact (Int.natCast_emod z m).symm
      obtain ⟨q, hq⟩ : ∃ q, q = z % m := ⟨_, rfl⟩
      have ql : q < m := by rw [hq]; exact Nat.mod_lt _ hm
      rw [← hq] at zm
      have zm' : (z : Int) % (m : Int) = (q : Int) := by rw [hq]; simp
      have HQ := hid hq
      have kq : IntKind.u64.wrap (q : Int) = (q : Int) := IntWalk.u64_in _ (by omega)
      have t2 : decide ((z : Int) ≤ 18446744073709551615 - (v : Int)) = true := by simp; omega
      clear hq
      go_wp2
      go_quiet (fail)
      go_wp2
      refine bodyPost_ret (v := .tuple #[.int .u64 (s : Int), .int .u64 (q : Int)]) (by simp [results, Try.results48, go_sem]) rfl ⟨s, q, HB.out _ _ (by rw [HQ.out, HZ.out, HS.out]; exact hit.out), rfl, below_drewN (Below.refl _ _) _⟩
    · have hmiss : ¬ takes m (drawZ c) := by unfold takes; rw [← HZ.out, ← HV.out]; exact ht
      have t2 : decide ((z : Int) ≤ 18446744073709551615 - (v : Int)) = false := by simp; omega
      have MS := hid hmiss
      clear hmiss
      go_wp2
      go_roundw
      case rel => exact ⟨s, rfl, sl, fun y r h => HB.out y r (.miss c y r MS.out (by rw [← HS.out]; exact h)), trivial⟩
      case measure => simp only [intOf, Int.toNat_natCast]; rw [HS.out]; exact miss_dist m c hm hm2 MS.out
end Go.Proofs.Ytnnbdjfeagcbdaa
