/- The reference's inTurn. -/
import Derived.Test.YtjhelinbjlahiaaJSh0
namespace Go.Proofs.Ytjhelinbjlahiaa
set_option linter.unusedSimpArgs false
set_option linter.unusedVariables false
open Go.RowKit
attribute [local go_sem] Oper.semAt_some
attribute [local go_sem ↓] Go.wp_at_zero Go.wp_at_succ

set_option maxRecDepth 100000 in
set_option maxHeartbeats 4000000 in
theorem inTurn_calls {w : World} {v : Value} {l : List Int} (hv : ReadsE encI 1 w v l) (hl : l.length ≤ 4096) (hok : ∀ x ∈ l, 0 ≤ x) {t : Int} (ht : 0 ≤ t ∧ t ≤ 5000000000000) :
    Calls Try.prog 45 #[.int .i64 t, v] w fun e w' => ∃ v', e = .returned v' ∧ RowI w.heap.size w' v' (byTimeF t l) ∧ Below w.heap.size w w' := by
  obtain ⟨hm, p, cap, bb, off, rfl, hp, hc⟩ := hv
  obtain ⟨n, hn⟩ : ∃ n, n = l.length := ⟨_, rfl⟩
  rw [← hn] at hp hm hl ⊢
  have HN := hid hn
  have HP := hid hp
  have HC := hid hc
  have HOK := hid hok
  have HT := hid ht
  obtain ⟨R, hR⟩ : ∃ R : Ending → World → Prop, R = fun e w' => ∃ v', e = .returned v' ∧ RowI w.heap.size w' v' (byTimeF t l) ∧ Below w.heap.size w w' := ⟨_, rfl⟩
  have HR := hid hR
  rw [← hR]
  have hn0 : (0 : Int) ≤ (n : Int) := by omega
  have hmk := mk_i64 w n (by omega)
  clear hR hn hp hc hok ht
  go_enter Try.func45, Try.ntmps45
  go_upto_region 3 with fail
  have S0 := hid (show ∀ wx, wx = w.alloc (.cells (madeCells #[.int .i64 0] n) 2) → RowL wx w.heap.size n (fun _ => 0) ∧ Below w.heap.size w wx by
    rintro wx rfl
    exact ⟨RowL.new w n _ (size_madeCells _ _) (fun i hi => by rw [← Array.getElem?_toList, toList_madeCells_one]; simp [hi]), (Below.refl _ _).alloc (Nat.le_refl _) _⟩)
  go_loopg [0, 6, 7] n (fun k s0 s6 s7 wr => ∃ (i : Nat) (h : Nat → Int), i + k = n ∧ s6 = .int .i64 i ∧ s0 = .int .i64 (afterT t (l.take i)) ∧ RowL wr w.heap.size n h ∧ (∀ k, k < i → h k = (byTimeF t (l.take i)).getD k 0) ∧ Below w.heap.size w wr)
  case atStart => exact ⟨0, _, by omega, rfl, rfl, (S0.out _ rfl).1, fun k hk => by omega, (S0.out _ rfl).2⟩
  case round =>
    obtain ⟨i, h, hik, rfl, rfl, hrow, hlo, hb⟩ := hrel
    have HIK := hid hik
    have HB := hid hb
    have HROW := hid hrow
    have HLO := hid hlo
    clear hik hb hrow hlo S0 hmk
    by_cases hin : i < n
    · have hil : i < l.length := by rw [← HN.out]; exact hin
      obtain ⟨rfl, hbb⟩ := HP.out (by omega)
      have c0 := (HB.out.cell (p := ⟨bb, off + i * 1 + 0, none⟩) hbb).trans (HC.out i hil 0 (by omega))
      simp [encI] at c0
      obtain ⟨x, hx⟩ : ∃ x, x = l[i] := ⟨_, rfl⟩
      rw [← hx] at c0
      have gi : (i : Int) < (n : Int) := by omega
      have gi0 : (0 : Int) ≤ (i : Int) := by omega
      have m0 := HROW.out.cell hin
      have f0 := HROW.out.froz i
      have l0 := HROW.out.lt
      obtain ⟨u, hu⟩ : ∃ u, u = h i := ⟨_, rfl⟩
      rw [← hu] at m0
      obtain ⟨a, ha⟩ : ∃ a, a = afterT t (l.take i) := ⟨_, rfl⟩
      have hab := afterT_bound (l := l.take i) (fun y hy => HOK.out y (List.mem_of_mem_take hy)) t HT.out.1
      have hT := HT.out
      have hx0 := HOK.out x (by rw [hx]; exact List.getElem_mem _)
      rw [← ha] at hab ⊢
      obtain ⟨m, hm⟩ : ∃ m, min a x = m := ⟨_, rfl⟩
      have hm2 : min x a = m := by omega
      have ew : IntKind.i64.wrap (a - m) = a - m := IntWalk.i64_in _ (by omega)
      have ht : l.take (i + 1) = l.take i ++ [x] := by rw [hx]; exact take_snoc hil
      have AF := hid (show afterT t (l.take (i + 1)) = a - m by rw [ht, afterT_snoc, ← ha, hm2])
      have BF := hid (show byTimeF t (l.take (i + 1)) = byTimeF t (l.take i) ++ [m] by rw [ht, byTimeF_snoc, ← ha, hm2])
      have BL := hid (show (byTimeF t (l.take i)).length = i by rw [byTimeF_len, List.length_take]; omega)
      have m1 : (wr.setCell ⟨w.heap.size, i, none⟩ (.int .i64 (m))).cell? ⟨w.heap.size, i, none⟩ = some (.int .i64 (m)) := World.cell?_setCell_same' _ _ _ (by rw [m0]; rfl)
      have NX := hid (show ∀ wx, wx = wr.setCell ⟨w.heap.size, i, none⟩ (.int .i64 (m)) → ∃ h', RowL wx w.heap.size n h' ∧ (∀ k, k < i + 1 → h' k = (byTimeF t (l.take (i + 1))).getD k 0) ∧ Below w.heap.size w wx by
        rintro wx rfl
        refine ⟨_, HROW.out.set i (m), fun k hk => ?_, HB.out.trans (Kept.below ((Kept.refl (fun k => k = w.heap.size) wr).set (C := w.heap.size) rfl _ _) HB.out.size (fun k hk => by omega))⟩
        rw [BF.out]
        by_cases e : k = i
        · subst e
          rw [if_pos rfl, List.getD_eq_getElem?_getD, List.getElem?_append_right (Nat.le_of_eq BL.out), BL.out]; simp
        · rw [if_neg e, HLO.out k (by omega)]
          simp [List.getElem?_append_left, BL.out, show k < i by omega])
      clear hu hx ha ht hab hT hm2
      go_wp2
      go_roundg (n - (i + 1))
      · obtain ⟨h', n1, n2, n3⟩ := NX.out _ rfl
        exact ⟨i + 1, h', by omega, by go_num, by rw [AF.out], n1, n2, n3⟩
      · have := HIK.out; omega
    · have hin' : i = n := by have := HIK.out; omega
      subst hin'
      have g1 : decide ((i : Int) < (i : Int)) = false := by simp
      have FIN := hid (show R (.returned (.slice (some ⟨w.heap.size, 0, none⟩) i i)) wr by
        rw [HR.out]
        have hlt : l.take i = l := by rw [HN.out, List.take_length]
        have hlo := HLO.out
        rw [hlt] at hlo
        exact ⟨_, rfl, HROW.out.own (l := byTimeF t l) (by rw [byTimeF_len]; exact HN.out.symm) (fun k hk => by rw [hlo k (by rw [byTimeF_len] at hk; rw [HN.out]; exact hk)]; simp [hk]) (Nat.le_refl _) (by unfold maxLen; omega), HB.out⟩)
      go_wp2
      first | exact FIN.out | (go_ret; exact FIN.out)
end Go.Proofs.Ytjhelinbjlahiaa
