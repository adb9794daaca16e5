/- The top laws' small functions: small, bids. -/
import Derived.Test.YtepldjidkomclaaGreatJCLh0
namespace Go.Proofs.YtepldjidkomclaaGreat
set_option linter.unusedSimpArgs false
set_option linter.unusedVariables false
open Go.RowKit
attribute [local go_sem] Oper.semAt_some
attribute [local go_sem ↓] Go.wp_at_zero Go.wp_at_succ
set_option maxRecDepth 100000 in
set_option maxHeartbeats 4000000 in
theorem small_calls (x m k : Int) (hk : k = m + 1) (hm : 0 ≤ m ∧ m ≤ 1000000000000) (w : World) :
    Calls Tryz.prog 12 #[.int .i64 x, .int .i64 m] w fun e w' => e = .returned (.int .i64 (Ca.um x k)) ∧ w' = w := by
  obtain ⟨R, hR⟩ : ∃ R : Ending → World → Prop, R = fun e w' => e = .returned (.int .i64 (Ca.um x k)) ∧ w' = w := ⟨_, rfl⟩
  have F := hid (show R (.returned (.int .i64 (Ca.um x k))) w by rw [hR]; exact ⟨rfl, rfl⟩)
  rw [← hR]
  have u := Ca.um_range x (k := k) (by omega)
  have e1 : IntKind.i64.wrap (m + 1) = k := by rw [IntWalk.i64_in _ (by omega), hk]
  have e2 : IntKind.u64.wrap k = k := IntWalk.u64_in _ (by omega)
  have t1 := Ca.um_tmod x k
  have t2 : IntKind.i64.wrap (Ca.um x k) = Ca.um x k := IntWalk.i64_in _ (by omega)
  have nz : ¬ k = 0 := by omega
  have nz2 : (k == 0) = false := by simpa using nz
  clear hR hk
  go_enter Tryz.func12, Tryz.ntmps12
  go_wp2
  first | exact F.out | (go_ret; exact F.out)

set_option maxRecDepth 100000 in
set_option maxHeartbeats 4000000 in
theorem bids_calls {w : World} {v : Value} {l : List Ca.Bd} (hv : ReadsE Ca.encBd 3 w v l) (m : Nat) (hm : m ≤ 100) :
    Calls Tryz.prog 5 #[v, .int .i64 m] w fun e w' => ∃ v' O, e = .returned v' ∧ Ca.RowC w.heap.size w' v' O ∧ O.length ≤ m ∧ (∀ b ∈ O, b.ok) ∧ Below w.heap.size w w' := by
  obtain ⟨R, hR⟩ : ∃ R : Ending → World → Prop, R = fun e w' => ∃ v' O, e = .returned v' ∧ Ca.RowC w.heap.size w' v' O ∧ O.length ≤ m ∧ (∀ b ∈ O, b.ok) ∧ Below w.heap.size w w' := ⟨_, rfl⟩
  rw [← hR]
  have FN := hid (show ∀ v' (O : List Ca.Bd) w', Ca.RowC w.heap.size w' v' O → O.length ≤ m → (∀ b ∈ O, b.ok) → Below w.heap.size w w' → R (.returned v') w' from fun v' O w' h1 h2 h3 h4 => by rw [hR]; exact ⟨v', O, rfl, h1, h2, h3, h4⟩)
  clear hR
  obtain ⟨hm2, p, cap, bb, off, rfl, hp, hc⟩ := hv
  obtain ⟨n, hn⟩ : ∃ n, n = l.length := ⟨_, rfl⟩
  rw [← hn] at hp hm2 ⊢
  have HN := hid hn
  have HP := hid hp
  have HC := hid hc
  obtain ⟨N, hN⟩ : ∃ N, N = min n m := ⟨_, rfl⟩
  have HNM := hid hN
  clear hn hp hc hN
  go_enter Tryz.func5, Tryz.ntmps5
  go_upto_region 3 with fail
  go_loopg [5, 6] N (fun k s5 s6 wr => ∃ (i : Nat) (O : List Ca.Bd), i + k = N ∧ s6 = .int .i64 i ∧ Ca.RowC w.heap.size wr s5 O ∧ O.length = i ∧ (∀ b ∈ O, b.ok) ∧ Below w.heap.size w wr)
  case atStart => exact ⟨0, [], by omega, rfl, OwnE.nil _ _, rfl, fun b hb => by simp at hb, Below.refl _ _⟩
  case round =>
    obtain ⟨i, O, hik, rfl, rr, hOl, hOk, hb⟩ := hrel
    have HIK := hid hik
    have RR := hid rr
    have B := hid hb
    have HOK := hid hOk
    have HOL := hid hOl
    clear hik rr hb hOk hOl
    by_cases hin : i < N
    · have h1 : i < n := by have := HNM.out; omega
      have h2 : i < m := by have := HNM.out; omega
      have hil : i < l.length := by rw [← HN.out]; exact h1
      obtain ⟨rfl, hbb⟩ := HP.out (by omega)
      obtain ⟨b, hx⟩ : ∃ b, b = l[i] := ⟨_, rfl⟩
      have CE := hid (show ∀ wx, Below w.heap.size w wx → wx.cell? ⟨bb, off + i * 3, none⟩ = some (.int .i64 b.s) ∧ wx.cell? ⟨bb, off + i * 3 + 1, none⟩ = some (.int .i64 b.p) ∧ wx.cell? ⟨bb, off + i * 3 + 2, none⟩ = some (.int .i64 b.q) from fun wx hwx => by
        have hbx := hwx
        have c0 := (hbx.cell (p := ⟨bb, off + i * 3 + 0, none⟩) hbb).trans (HC.out i hil 0 (by omega))
        have c1 := (hbx.cell (p := ⟨bb, off + i * 3 + 1, none⟩) hbb).trans (HC.out i hil 1 (by omega))
        have c2 := (hbx.cell (p := ⟨bb, off + i * 3 + 2, none⟩) hbb).trans (HC.out i hil 2 (by omega))
        simp [Ca.encBd, ← hx] at c0 c1 c2
        exact ⟨c0, c1, c2⟩)
      obtain ⟨c0, c1, c2⟩ := CE.out _ B.out
      have gi : (i : Int) < (n : Int) := by omega
      have gm : (i : Int) < (m : Int) := by omega
      have gi0 : (0 : Int) ≤ (i : Int) := by omega
      clear hx
      obtain ⟨x1, hx1⟩ : ∃ x1, x1 = IntKind.i64.wrap (b.p - 1) := ⟨_, rfl⟩
      obtain ⟨x2, hx2⟩ : ∃ x2, x2 = IntKind.i64.wrap (b.q - 1) := ⟨_, rfl⟩
      obtain ⟨y1, hy1⟩ : ∃ y, y = Ca.um x1 100 := ⟨_, rfl⟩
      obtain ⟨y2, hy2⟩ : ∃ y, y = Ca.um x2 50 := ⟨_, rfl⟩
      have r1 := Ca.um_range x1 (k := 100) (by omega)
      have r2 := Ca.um_range x2 (k := 50) (by omega)
      rw [← hy1] at r1
      rw [← hy2] at r2
      have SC1 := hid (fun wx => small_calls x1 99 100 (by omega) (by omega) wx)
      have SC2 := hid (fun wx => small_calls x2 49 50 (by omega) (by omega) wx)
      rw [← hy1] at SC1
      rw [← hy2] at SC2
      have u0 := Ca.um_range b.s (k := 2) (by omega)
      have t1 := Ca.um_tmod b.s 2
      have t2 : IntKind.i64.wrap (Ca.um b.s 2) = Ca.um b.s 2 := IntWalk.i64_in _ (by omega)
      have t3 : IntKind.i64.wrap (1 + Ca.um b.s 2) = 1 + Ca.um b.s 2 := IntWalk.i64_in _ (by omega)
      have t4 : IntKind.i64.wrap (1 + y1) = 1 + y1 := IntWalk.i64_in _ (by omega)
      have t5 : IntKind.i64.wrap (1 + y2) = 1 + y2 := IntWalk.i64_in _ (by omega)
      have e1 : IntKind.i64.wrap (b.p - 1) = x1 := hx1.symm
      have e2 : IntKind.i64.wrap (b.q - 1) = x2 := hx2.symm
      clear hx1 hx2 hy1 hy2
      obtain ⟨z, hz⟩ : ∃ z, z = 1 + Ca.um b.s 2 := ⟨_, rfl⟩
      have hzb : z = 1 ∨ z = 2 := by omega
      rw [← hz] at t3
      have BOK := hid (show (⟨z, 1 + y1, 1 + y2⟩ : Ca.Bd).ok from ⟨hzb, by simp only; omega, by simp only; omega, by simp only; omega, by simp only; omega⟩)
      have hz' : 1 + Ca.um b.s 2 = z := hz.symm
      clear hz u0 hzb
      obtain ⟨po, co, hvo, hh⟩ := RR.out.form
      rw [HOL.out] at hvo
      subst hvo
      have AP := hid (show ∀ wx, Below wr.heap.size wr wx → ∃ v6 w6, (Builtin.append_ #[22, 22] 22 #[.slice po i co, .slice (some ⟨wx.heap.size, 0, none⟩) 1 1]).run Tryz.prog (wx.alloc (.cells #[.int .i64 z, .int .i64 (1 + y1), .int .i64 (1 + y2)] 32)) = .ok v6 w6 ∧ Ca.RowC w.heap.size w6 v6 (O ++ [⟨z, 1 + y1, 1 + y2⟩]) ∧ Below w.heap.size w w6 from fun wx hwx => by
        have so : Ca.SrcE Ca.encBd 3 (wx.alloc (.cells #[.int .i64 z, .int .i64 (1 + y1), .int .i64 (1 + y2)] 32)) (.slice (some ⟨wx.heap.size, 0, none⟩) 1 1) [⟨z, 1 + y1, 1 + y2⟩] := Ca.SrcE.one (Cells.new wx _ _)
        have hsz := B.out.size
        have hsz2 := hwx.size
        obtain ⟨v6, w6, r2, r3, k3, _⟩ := Ca.own_append (ty := 22) Ca.undC Ca.infoC rfl (by omega) Ca.encBd_len Ca.encBd_one ((OwnE.below RR.out hwx).alloc (.cells #[.int .i64 z, .int .i64 (1 + y1), .int .i64 (1 + y2)] 32)) (by simp; omega) so (by unfold maxLen; simp [HOL.out]; omega) (by simp [HOL.out]; omega)
        refine ⟨v6, w6, r2, r3, ((B.out.trans (hwx.mono hsz)).alloc (by omega) _).trans (k3.below (by simp; omega) (fun k hk => ?_))⟩
        rcases hh with ⟨rfl, _⟩ | ⟨g, rfl, hg, _⟩ <;> cases hk
        exact hg)
      clear hh
      go_upto_region 5 with fail
      go_region_held3 (fun wh => wh.cell? ⟨bb, off + i * 3, none⟩ = some (.int .i64 b.s) ∧ wh.cell? ⟨bb, off + i * 3 + 1, none⟩ = some (.int .i64 b.p) ∧ wh.cell? ⟨bb, off + i * 3 + 2, none⟩ = some (.int .i64 b.q))
        (first | exact CE.out _ hb6 | exact CE.out _ B.out | exact CE.out _ B.out.drew | exact CE.out _ (B.out.drew.alloc B.out.size _) | assumption)
        (first
          | (go_at_call 12; (with_reducible refine (SC1.out _).mono ?_); rintro e w3 ⟨rfl, rfl⟩)
          | (go_at_call 12; (with_reducible refine (SC2.out _).mono ?_); rintro e w3 ⟨rfl, rfl⟩)
          | (obtain ⟨v6, w6, r6, hr6, hb6⟩ := AP.out _ (Below.refl _ _).drew; refine Ca.step_append_run (by rfl) (.tmp 18) (.tmp 45) 22 (by rfl) _ _ v6 w6 (by rfl) (by rfl) r6 ?_)
          | fail)
      all_goals go_wp2
      all_goals (
        go_roundg (N - (i + 1))
        · refine ⟨i + 1, O ++ [⟨z, 1 + y1, 1 + y2⟩], by omega, by go_num, hr6, by rw [List.length_append, HOL.out]; rfl, fun c hc => ?_, hb6⟩
          rcases List.mem_append.1 hc with q | q
          · exact HOK.out c q
          · rw [List.mem_singleton.1 q]; exact BOK.out
        · have := HIK.out; omega)
    · have hin' : N = i := by have := HIK.out; omega
      have F2 := hid (FN.out _ O wr RR.out (by rw [HOL.out]; have := HNM.out; omega) HOK.out B.out)
      by_cases h1 : i < n
      · have g1 : (i : Int) < (n : Int) := by omega
        have g2 : ¬ (i : Int) < (m : Int) := by have := HNM.out; omega
        clear h1 hin hin'
        go_wp2
        first | exact F2.out | (go_ret; exact F2.out)
      · have g1 : ¬ (i : Int) < (n : Int) := by omega
        clear h1 hin hin'
        go_wp2
        first | exact F2.out | (go_ret; exact F2.out)
end Go.Proofs.YtepldjidkomclaaGreat
