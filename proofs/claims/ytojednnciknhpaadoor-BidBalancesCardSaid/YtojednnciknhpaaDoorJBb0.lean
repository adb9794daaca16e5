/- BidBalances: the walk. -/
import Derived.Test.YtojednnciknhpaaDoorJLh1
import Derived.Test.YtojednnciknhpaaDoorJLr1
namespace Go.Proofs.YtojednnciknhpaaDoor
set_option linter.unusedSimpArgs false
set_option linter.unusedVariables false
open Go.RowKit
attribute [local go_sem] Oper.semAt_some
attribute [local go_sem ↓] Go.wp_at_zero Go.wp_at_succ
/-- Prices, all cheaper by 1. -/
def lessF (q : List Int) : List Int := q.map fun x => max 0 (x - 1)
theorem lessF_get {q : List Int} {j : Nat} (h : j < q.length) : (lessF q).getD j 0 = max 0 (q.getD j 0 - 1) := by simp [lessF, h]
/-- If a lot has a price, all cheaper by 1 crowd somebody out. -/
theorem less_crowded {L : List (List Int)} {n : Nat} {q : List Int} (ok : OkH L n) (h : LeastP L n q) (hp : (q.any fun x => decide (0 < x)) = true) : crwF L (lessF q) = true := by
  have hl : (lessF q).length = n := by simp [lessF, h.len]
  rw [crwF_iff (by rw [hl]; exact ok)]
  obtain ⟨x, hx, hx0⟩ := List.any_eq_true.1 hp
  obtain ⟨j, hj, rfl⟩ := List.getElem_of_mem hx
  have h0 := of_decide_eq_true hx0
  have e : q.getD j 0 = q[j] := by simp [hj]
  refine h.crowd hl (fun y hy => ?_) (j := j) (by rw [← h.len]; exact hj) ?_
  · obtain ⟨x, _, rfl⟩ := List.mem_map.1 hy
    omega
  · rw [lessF_get hj, e]
    omega
theorem lessF_ok {q : List Int} (h : okW q) : okW (lessF q) := fun y hy => by
  obtain ⟨x, hx, rfl⟩ := List.mem_map.1 hy
  have := h x hx
  omega

set_option maxRecDepth 100000 in
set_option maxHeartbeats 16000000 in
theorem balances_law (w : World) (hT : TabOk w) (v : Value) (L0 : List (List Int)) (h : NestA encI 1 w v L0) (_hq : ∀ l ∈ L0, ∀ x ∈ l, -9223372036854775808 ≤ x ∧ x ≤ 9223372036854775807) (lot : Int) :
    Calls Tryd.prog 12 #[v, .int .i64 lot] w fun e w' => e = .returned (.bool true) ∧ Below w.heap.size w w' := by
  have HC := hid (tidy_calls h 12 12 (by omega) (by omega))
  obtain ⟨R, hR⟩ : ∃ R : Ending → World → Prop, R = fun e w' => e = .returned (.bool true) ∧ Below w.heap.size w w' := ⟨_, rfl⟩
  rw [← hR]
  have FN := hid (show ∀ w', Below w.heap.size w w' → R (.returned (.bool true)) w' from fun w' h => by rw [hR]; exact ⟨rfl, h⟩)
  have TO := hid hT
  obtain ⟨L, hL⟩ : ∃ L, L = tidyF L0 12 12 := ⟨_, rfl⟩
  have CK := hid (show chkH L = 0 by rw [hL]; exact tidy_chk (by omega) (by omega))
  have LN := hid (show 1 ≤ L.length ∧ L.length ≤ 12 by rw [hL, tidyF_len]; unfold trows; omega)
  have LC := hid (show 1 ≤ cols L ∧ cols L ≤ 12 by rw [hL, tidyF_cols]; unfold tcols; omega)
  have OK := hid (show OkH L (cols L) by rw [hL, tidyF_cols]; exact tidy_okH (by omega) (by omega))
  rw [← hL] at HC
  obtain ⟨f, q, hf, hq⟩ := least_ex OK.out
  have HF := hid hf
  have Q := hid hq
  have FL := hid (hq.hall OK.out)
  have ql := hid hq.len
  have EC := hid (show contR L (hallF L q L []) q = (-1, true) by
    unfold contR
    rw [if_pos ⟨CK.out, FL.out.mem.len, arP_iff.2 ⟨hq.len, hq.ok⟩⟩]
    rcases contF_iff (by rw [hq.len]; exact OK.out) FL.out.mem.len with h | h
    · exact h.1
    · exact absurd FL.out.mem h.2)
  have EX := hid (show crowdR L q = none by
    unfold crowdR
    rw [if_pos ⟨CK.out, arP_iff.2 ⟨hq.len, hq.ok⟩⟩]
    exact (crowdF_none (by rw [hq.len]; exact OK.out)).2 hq.free)
  clear hR hL hT hf hq
  obtain ⟨p, cap, rfl, _⟩ := h.open_
  obtain ⟨n0, hn0⟩ : ∃ n0, n0 = L0.length := ⟨_, rfl⟩
  rw [← hn0] at HC ⊢
  clear h hn0
  go_enter Tryd.func12, Tryd.ntmps12
  go_wp2_with fail
  refine HC.out.mono ?_
  rintro e w1 ⟨v1, rfl, ht, hb1⟩
  have B1 := hid hb1
  have N1 := hid (ht.nest encI_len (by have := LN.out.2; omega) (fun r hr => by have := OK.out.len r hr; have := LC.out.2; omega))
  obtain ⟨p1, c1, hv1⟩ := ht.form
  obtain ⟨n, hn⟩ : ∃ n, n = L.length := ⟨_, rfl⟩
  obtain ⟨N, hN⟩ : ∃ N, N = cols L := ⟨_, rfl⟩
  have HN := hid hn
  have HNN := hid hN
  rw [← hn] at hv1
  subst hv1
  have HH := hid (hall_calls N1.out CK.out HF.out)
  rw [← hN] at HH ql
  clear hb1 ht hn hN HC
  go_wp2_with fail
  refine HH.out.mono ?_
  rintro e w2 ⟨vl, gp, rfl, hrl, hrp, _, hok, hgp, hb2⟩
  have B2 := hid (B1.out.trans (hb2.mono B1.out.size))
  have N2 := hid (N1.out.below hb2)
  have RL2 := hid hrl
  have RP2 := hid hrp
  have OKQ := hid hok
  obtain ⟨pl, cl, hvl, _⟩ := hrl.form
  obtain ⟨nl, hnl⟩ : ∃ nl, nl = (hallF L q L []).length := ⟨_, rfl⟩
  rw [← hnl] at hvl
  subst hvl
  have HNL := hid (show (hallF L q L []).length ≤ 5000 by rw [FL.out.mem.len]; have := LN.out.2; omega)
  have N12 : N ≤ 12 := by rw [HNN.out]; exact LC.out.2
  have PRD := hid (show ∀ wx, Below w2.heap.size w2 wx → ReadsE encI 1 wx (.slice (some ⟨gp, 0, none⟩) N N) q from fun wx hb => by
    have := (RP2.out.below' hb).reads (by rw [ql.out]; omega) N
    rw [ql.out] at this
    exact this)
  have CC := hid (content_calls (s := hallF L q L []) (p := q) N2.out (hrl.reads encI_len (by have := HNL.out; omega)) (PRD.out w2 (Below.refl _ _)))
  rw [EC.out] at CC
  clear hrl hrp hok hgp hb2 HH hnl
  go_wp2_with fail
  refine CC.out.mono ?_
  rintro e w3 ⟨rfl, hb3⟩
  have B23 := hid hb3
  have RB := hid (rbalance_calls (s := hallF L q L []) (p := q) (N2.out.below hb3) ((RL2.out.below hb3).reads encI_len (by have := HNL.out; omega)) (PRD.out w3 hb3))
  rw [EC.out] at RB
  clear hb3 CC
  go_wp2_with fail
  refine RB.out.mono ?_
  rintro e w4 ⟨rfl, hb4⟩
  have B24 := hid (B23.out.trans (hb4.mono B23.out.size))
  have XC := hid (crowdX_calls (p := q) (N2.out.below B24.out) (PRD.out w4 B24.out))
  rw [EX.out] at XC
  clear hb4 RB B23
  go_wp2_with fail
  refine XC.out.mono ?_
  rintro e w5 ⟨vb, vx, rfl, ⟨rfl, rfl⟩, hb5⟩
  have B25 := hid (B24.out.trans (hb5.mono B24.out.size))
  clear hb5 XC B24
  go_upto_region 15 with fail
  go_loopg [16, 17, 18] N (fun k s16 s17 s18 wr => ∃ (i : Nat) (b16 : Value), i + k = N ∧ s18 = .int .i64 i ∧ b16 = s16 ∧ s17 = .bool ((q.take i).any fun x => decide (0 < x)) ∧ RowI w2.heap.size wr b16 (lessF (q.take i)) ∧ Below w2.heap.size w2 wr)
  case atStart => exact ⟨0, _, by omega, rfl, rfl, rfl, OwnE.nil _ _, B25.out⟩
  case round =>
  obtain ⟨i, b16, hik, rfl, rfl, rfl, hr, hb⟩ := hrel
  have HIK := hid hik
  have RR := hid hr
  have B := hid hb
  obtain ⟨p16, c16, hv16, _⟩ := hr.form
  have LT := hid (show (lessF (q.take i)).length = i by simp [lessF, ql.out]; have := HIK.out; omega)
  rw [LT.out] at hv16
  subst hv16
  clear hik hr hb
  by_cases hiN : i < N
  · have hiq : i < q.length := by rw [ql.out]; exact hiN
    have cx := (B.out.cell (p := ⟨gp, i, none⟩) (RP2.out.lt)).trans (RP2.out.cell hiq)
    have hqb := OKQ.out _ (List.getElem_mem hiq)
    have ea : (q.take (i + 1)).any (fun x => decide (0 < x)) = ((q.take i).any (fun x => decide (0 < x)) || decide (0 < q[i])) := by rw [take_snoc hiq, List.any_append, List.any_cons, List.any_nil, Bool.or_false]
    have el : lessF (q.take (i + 1)) = lessF (q.take i) ++ [max 0 (q[i] - 1)] := by unfold lessF; rw [take_snoc hiq, List.map_append]; rfl
    have EA := hid ea
    have EL := hid el
    obtain ⟨x, hx⟩ : ∃ x, x = q[i] := ⟨_, rfl⟩
    rw [← hx] at cx hqb EA EL
    obtain ⟨y, hy⟩ : ∃ y, y = max 0 (x - 1) := ⟨_, rfl⟩
    rw [← hy] at EL
    have ey : max 0 (x - 1) = y := hy.symm
    have ew : IntKind.i64.wrap (x - 1) = x - 1 := IntWalk.i64_in _ (by omega)
    obtain ⟨v9, w9, r1, r2, r3⟩ := rowi_app RR.out B.out.size y (by rw [LT.out]; omega)
    have R1 := hid r1
    have R2 := hid (show RowI w2.heap.size w9 v9 (lessF (q.take (i + 1))) by rw [EL.out]; exact r2)
    have R3 := hid (B.out.trans r3)
    have gi : (i : Int) < (N : Int) := by omega
    have gi0 : (0 : Int) ≤ (i : Int) := by omega
    obtain ⟨po, hpo⟩ : ∃ po, po = (q.take i).any fun x => decide (0 < x) := ⟨_, rfl⟩
    rw [← hpo] at EA ⊢
    clear ea el hx hy r1 r2 r3 hpo
    cases po with
    | true =>
      go_wp2_with (at_builtin; refine wpList_append_run rfl (.tmp 85) (.tmp 92) 22 rfl _ _ v9 w9 rfl rfl R1.out ?_)
      go_roundg (N - (i + 1))
      · exact ⟨i + 1, _, by omega, by go_num, rfl, by rw [EA.out]; first | rfl | (rw [decide_eq_false (show ¬ 0 < x by omega)]; rfl), R2.out, R3.out⟩
      · have := HIK.out; omega
    | false =>
      by_cases hx0 : 0 < x
      · rw [decide_eq_true hx0] at EA
        go_wp2_with (at_builtin; refine wpList_append_run rfl (.tmp 85) (.tmp 92) 22 rfl _ _ v9 w9 rfl rfl R1.out ?_)
        go_roundg (N - (i + 1))
        · exact ⟨i + 1, _, by omega, by go_num, rfl, by rw [EA.out]; first | rfl | (rw [decide_eq_false (show ¬ 0 < x by omega)]; rfl), R2.out, R3.out⟩
        · have := HIK.out; omega
      · rw [decide_eq_false hx0] at EA
        have hx1 : x ≤ 0 := by omega
        clear hx0
        go_wp2_with (at_builtin; refine wpList_append_run rfl (.tmp 85) (.tmp 92) 22 rfl _ _ v9 w9 rfl rfl R1.out ?_)
        go_roundg (N - (i + 1))
        · exact ⟨i + 1, _, by omega, by go_num, rfl, by rw [EA.out]; first | rfl | (rw [decide_eq_false (show ¬ 0 < x by omega)]; rfl), R2.out, R3.out⟩
        · have := HIK.out; omega
  obtain rfl : i = N := by have := HIK.out; omega
  have g2 : decide ((i : Int) < (i : Int)) = false := by simp
  have et : q.take i = q := List.take_of_length_le (by rw [ql.out]; exact Nat.le_refl _)
  rw [et] at RR ⊢
  have BW := hid (B2.out.trans (B.out.mono B2.out.size))
  have AW := hid (awake_calls (TO.out.below BW.out))
  obtain ⟨po, hpo⟩ : ∃ po, po = q.any fun x => decide (0 < x) := ⟨_, rfl⟩
  have HPO := hid hpo
  rw [← hpo]
  clear et hpo
  cases po with
  | false =>
    go_wp2_with fail
    refine AW.out.mono ?_
    rintro e w8 ⟨rfl, hb8⟩
    have F := hid (FN.out w8 (BW.out.trans (hb8.mono BW.out.size)))
    clear hb8 AW FN
    go_wp2
    first | exact F.out | (go_ret; exact F.out)
  | true =>
    have LQ := hid (show (lessF q).length = cols L by simp [lessF, ql.out, HNN.out])
    have RC := hid (rcrowded_calls (p := lessF q) (N2.out.below B.out) (RR.out.reads encI_len (by simp [lessF, ql.out]; omega)) (by rw [LQ.out]; exact OK.out) (lessF_ok OKQ.out) LN.out.1 (by rw [LQ.out]; exact LC.out.1))
    rw [less_crowded OK.out Q.out HPO.out.symm] at RC
    clear AW
    go_wp2_with fail
    refine RC.out.mono ?_
    rintro e w7 ⟨rfl, hb7⟩
    have BW7 := hid (BW.out.trans (hb7.mono BW.out.size))
    have AW := hid (awake_calls (TO.out.below BW7.out))
    clear hb7 RC
    go_wp2_with fail
    refine AW.out.mono ?_
    rintro e w8 ⟨rfl, hb8⟩
    have F := hid (FN.out w8 (BW7.out.trans (hb8.mono BW7.out.size)))
    clear hb8 AW FN
    go_wp2
    first | exact F.out | (go_ret; exact F.out)
end Go.Proofs.YtojednnciknhpaaDoor
