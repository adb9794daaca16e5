/- The reference: Prices, most, Content, Wanted. The reference: Balance. -/
import Derived.Test.YtojednnciknhpaaDoorJBm
import Derived.Test.YtojednnciknhpaaDoorJPm2
namespace Go.Proofs.YtojednnciknhpaaDoor
set_option linter.unusedSimpArgs false
set_option linter.unusedVariables false
open Go.RowKit
attribute [local go_sem] Oper.semAt_some
attribute [local go_sem ↓] Go.wp_at_zero Go.wp_at_succ

set_option maxRecDepth 100000 in
set_option maxHeartbeats 4000000 in
theorem rprices_calls {w : World} {v vp : Value} {L : List (List Int)} {p : List Int} (hv : NestE encI 1 w v L) (h1 : 1 ≤ L.length) (hp : ReadsE encI 1 w vp p) :
    Calls Tryd.prog 29 #[v, vp] w fun e w' => e = .returned (.bool (arP L p)) ∧ Below w.heap.size w w' := by
  obtain ⟨R, hR⟩ : ∃ R : Ending → World → Prop, R = fun e w' => e = .returned (.bool (arP L p)) ∧ Below w.heap.size w w' := ⟨_, rfl⟩
  rw [← hR]
  have FN := hid (show ∀ b w', b = arP L p → Below w.heap.size w w' → R (.returned (.bool b)) w' from fun b w' e h => by rw [hR, e]; exact ⟨rfl, h⟩)
  clear hR
  unfold arP at FN
  obtain ⟨bb, off, cap, p0, c0, rfl, hc, _⟩ := nest_first hv h1
  have c0 := hc w (Below.refl _ _)
  obtain ⟨n, hn⟩ : ∃ n, n = L.length := ⟨_, rfl⟩
  rw [← hn] at h1 ⊢
  have g0 : (0 : Int) < (n : Int) := by omega
  obtain ⟨m, hm⟩ : ∃ m, m = cols L := ⟨_, rfl⟩
  rw [← hm] at c0 FN
  have hpm := hp.1
  obtain ⟨pp, cp, rfl, hpc⟩ := reads_at hp
  have HPC := hid hpc
  obtain ⟨np, hnp⟩ : ∃ np, np = p.length := ⟨_, rfl⟩
  have HNP := hid hnp
  rw [← hnp] at FN hpm ⊢
  clear hv hn hm hc hnp hpc hp
  by_cases hq : np = m
  · subst hq
    have gq : ((np : Int) != (np : Int)) = false := by simp
    go_enter Tryd.func29, Tryd.ntmps29
    go_upto_region 4 with fail
    go_loopg [5] np (fun k s5 wr => ∃ i : Nat, i + k = np ∧ s5 = .int .i64 i ∧ (∀ k (hk : k < p.length), k < i → (!isW p[k]) = false) ∧ wr = w)
    case atStart => exact ⟨0, by omega, rfl, fun k _ h => by omega, rfl⟩
    case round =>
    obtain ⟨i, hik, rfl, hno, hwr⟩ := hrel
    have HIK := hid hik
    have NO := hid hno
    rw [hwr]
    clear hik hno hwr
    by_cases hin : i < np
    · have hip : i < p.length := by rw [← HNP.out]; exact hin
      obtain ⟨b1, o1, rfl, hc1⟩ := HPC.out i hip
      have cx := hc1 w (Below.refl _ _)
      have RW := hid (rworth_calls p[i] w)
      have N3 := hid (show (!isW p[i]) = false → ∀ k (hk : k < p.length), k < i + 1 → (!isW p[k]) = false from fun hq k hk h => by
        by_cases e : k = i
        · subst e; exact hq
        · exact NO.out k hk (by omega))
      have Y3 := hid (show (!isW p[i]) = true → R (.returned (.bool false)) w from fun hq => FN.out false w (by rw [any_at (P := fun x => !isW x) hip hq]; simp) (Below.refl _ _))
      obtain ⟨x, hx⟩ : ∃ x, x = p[i] := ⟨_, rfl⟩
      rw [← hx] at cx N3 Y3 RW
      obtain ⟨y, hy⟩ : ∃ y, y = isW x := ⟨_, rfl⟩
      rw [← hy] at N3 Y3 RW
      have gq : (i : Int) < (np : Int) := by omega
      have gq0 : (0 : Int) ≤ (i : Int) := by omega
      clear hx hy hc1
      go_wp2_with fail
      refine RW.out.mono ?_
      rintro e w8 ⟨rfl, hw8⟩
      rw [hw8]
      clear hw8 RW
      cases y with
      | true =>
        have N4 := hid (N3.out rfl)
        clear N3 Y3
        go_wp2
        go_roundg (np - (i + 1))
        · exact ⟨i + 1, by omega, by go_num, N4.out, rfl⟩
        · have := HIK.out; omega
      | false =>
        have F := hid (Y3.out rfl)
        clear N3 Y3
        go_wp2
        first | exact F.out | (go_ret; exact F.out)
    obtain rfl : i = np := by have := HIK.out; omega
    have g2 : decide ((i : Int) < (i : Int)) = false := by simp
    have hno : (p.any fun x => !isW x) = false := any_take (P := fun x => !isW x) fun k hk => NO.out k hk (by rw [HNP.out]; exact hk)
    have F := hid (FN.out true w (by rw [hno]; simp) (Below.refl _ _))
    clear FN hno
    go_wp2
    first | exact F.out | (go_ret; exact F.out)
  · have gq : ((np : Int) != (m : Int)) = true := by simp; omega
    have F := hid (FN.out false w (by simp [hq]) (Below.refl _ _))
    clear FN hq
    go_enter Tryd.func29, Tryd.ntmps29
    go_wp2
    first | exact F.out | (go_ret; exact F.out)

set_option maxRecDepth 100000 in
set_option maxHeartbeats 4000000 in
theorem rmost_calls {w : World} {v vp : Value} {L : List (List Int)} {p : List Int} (hv : NestE encI 1 w v L) (hp : ReadsE encI 1 w vp p) (ok : OkH L p.length) (okp : okW p) {b : Nat} (hb : b < L.length) :
    Calls Tryd.prog 109 #[v, vp, .int .i64 b] w fun e w' => e = .returned (.int .i64 (gainF L[b] p)) ∧ ∃ m, w' = w.drewN m := by
  obtain ⟨R, hR⟩ : ∃ R : Ending → World → Prop, R = fun e w' => e = .returned (.int .i64 (gainF L[b] p)) ∧ ∃ m, w' = w.drewN m := ⟨_, rfl⟩
  rw [← hR]
  have FN := hid (show ∀ z m, z = gainF L[b] p → R (.returned (.int .i64 z)) (w.drewN m) from fun z m e => by rw [hR, e]; exact ⟨rfl, m, rfl⟩)
  clear hR
  obtain ⟨bb, off, cap, rfl, hrow⟩ := nest_open hv (by omega)
  obtain ⟨u, RX, hcu⟩ := hrow b hb
  have hro := ok.ok _ (List.getElem_mem hb)
  have hrl := ok.len _ (List.getElem_mem hb)
  obtain ⟨pu, cu, rfl, hcr⟩ := reads_at RX
  obtain ⟨pp, cp, rfl, hpc⟩ := reads_at hp
  have HCU := hid hcu
  have HCR := hid hcr
  have HPC := hid hpc
  have HRO := hid hro
  have OKP := hid okp
  have HRL := hid hrl
  obtain ⟨n, hn⟩ : ∃ n, n = L.length := ⟨_, rfl⟩
  obtain ⟨np, hnp⟩ : ∃ np, np = p.length := ⟨_, rfl⟩
  have np64 : np ≤ 64 := by rw [hnp]; exact ok.cols
  have HNP := hid hnp
  rw [hrl, ← hnp] at HCU
  rw [← hnp, ← hn]
  have gb : (b : Int) < (n : Int) := by omega
  have gb0 : (0 : Int) ≤ (b : Int) := by omega
  clear hv hp ok okp hrow RX hcu hro hrl hcr hpc hn hnp
  go_enter Tryd.func109, Tryd.ntmps109
  go_upto_region 3 with fail
  go_loopg [8, 7] np (fun k s8 s7 wr => ∃ i : Nat, i + k = np ∧ s8 = .int .i64 i ∧ s7 = .int .i64 (gainH (L[b].take i) p 0) ∧ ∃ m, wr = w.drewN m)
  case atStart => exact ⟨0, by omega, rfl, by simp [gainH], 0, rfl⟩
  case round =>
  obtain ⟨i, hik, rfl, rfl, md, hwr⟩ := hrel
  have HIK := hid hik
  rw [hwr]
  clear hik hwr
  by_cases hin : i < np
  · have hip : i < p.length := by rw [← HNP.out]; exact hin
    have hir : i < L[b].length := by rw [HRL.out]; exact hip
    obtain ⟨b1, o1, rfl, hc1⟩ := HPC.out i hip
    obtain ⟨b2, o2, rfl, hc2⟩ := HCR.out i hir
    have cx := hc1 w (Below.refl _ _)
    have cy := hc2 w (Below.refl _ _)
    have cz := HCU.out w (Below.refl _ _)
    have hs := gainH_snoc (0 : Int) hir hip
    have hb1 := HRO.out _ (List.getElem_mem hir)
    have hb2 := OKP.out _ (List.getElem_mem hip)
    have hg := gain_take_bound HRO.out OKP.out i
    obtain ⟨x, hx⟩ : ∃ x, x = p[i] := ⟨_, rfl⟩
    obtain ⟨y, hy⟩ : ∃ y, y = L[b][i] := ⟨_, rfl⟩
    obtain ⟨G, hG⟩ : ∃ G, G = gainH (L[b].take i) p 0 := ⟨_, rfl⟩
    rw [← hx] at cx hs hb2
    rw [← hy] at cy hs hb1
    rw [← hG] at hs hg ⊢
    have HS := hid hs
    have ew : IntKind.i64.wrap (y - x) = y - x := IntWalk.i64_in _ (by omega)
    have gq : (i : Int) < (np : Int) := by omega
    have gq0 : (0 : Int) ≤ (i : Int) := by omega
    obtain ⟨M, hM⟩ : ∃ M, M = max G (y - x) := ⟨_, rfl⟩
    rw [← hM] at HS
    have em : max G (y - x) = M := hM.symm
    clear hc1 hc2 hs hb1 hb2 hg hx hy hG hM
    go_upto_region 5 with fail
    go_quiet (fail)
    go_wp2
    go_roundg (np - (i + 1))
    · exact ⟨i + 1, by omega, by go_num, by rw [HS.out], _, rfl⟩
    · have := HIK.out; omega
  obtain rfl : i = np := by have := HIK.out; omega
  have g2 : decide ((i : Int) < (i : Int)) = false := by simp
  have F := hid (FN.out (gainH (L[b].take i) p 0) md (by rw [List.take_of_length_le (by rw [HRL.out, ← HNP.out]; exact Nat.le_refl _)]; rfl))
  clear FN
  go_wp2
  first | exact F.out | (go_ret; exact F.out)

set_option maxRecDepth 100000 in
set_option maxHeartbeats 4000000 in
theorem rcontent_calls {w : World} {v vp : Value} {L : List (List Int)} {p : List Int} (hv : NestE encI 1 w v L) (hp : ReadsE encI 1 w vp p) (ok : OkH L p.length) (okp : okW p) {b : Nat} (hb : b < L.length) (j : Int) (hj : j < (p.length : Int)) :
    Calls Tryd.prog 72 #[v, vp, .int .i64 b, .int .i64 j] w fun e w' => e = .returned (.bool (contB L[b] p j)) ∧ ∃ m, w' = w.drewN m := by
  have MC := hid (fun m => rmost_calls (w := w.drewN m) (hv.below (drewN_below (Below.refl _ _) m)) (hp.drewN m) ok okp hb)
  obtain ⟨R, hR⟩ : ∃ R : Ending → World → Prop, R = fun e w' => e = .returned (.bool (contB L[b] p j)) ∧ ∃ m, w' = w.drewN m := ⟨_, rfl⟩
  rw [← hR]
  have FN := hid (show ∀ z m, z = contB L[b] p j → R (.returned (.bool z)) (w.drewN m) from fun z m e => by rw [hR, e]; exact ⟨rfl, m, rfl⟩)
  clear hR
  unfold contB at FN
  obtain ⟨bb, off, cap, rfl, hrow⟩ := nest_open hv (by omega)
  obtain ⟨u, RX, hcu⟩ := hrow b hb
  have hro := ok.ok _ (List.getElem_mem hb)
  have hrl := ok.len _ (List.getElem_mem hb)
  obtain ⟨pu, cu, rfl, hcr⟩ := reads_at RX
  obtain ⟨pp, cp, rfl, hpc⟩ := reads_at hp
  obtain ⟨n, hn⟩ : ∃ n, n = L.length := ⟨_, rfl⟩
  obtain ⟨np, hnp⟩ : ∃ np, np = p.length := ⟨_, rfl⟩
  rw [hrl, ← hnp] at hcu
  rw [← hnp, ← hn] at MC
  rw [← hnp, ← hn]
  have gb : (b : Int) < (n : Int) := by omega
  have gb0 : (0 : Int) ≤ (b : Int) := by omega
  by_cases hj0 : j < 0
  · have FN1 := hid (fun z m e => FN.out z m (Eq.trans e (if_pos hj0).symm))
    obtain ⟨G, hG⟩ : ∃ G, G = gainF L[b] p := ⟨_, rfl⟩
    rw [← hG] at MC FN1
    clear FN hv hp ok okp hrow RX hcu hro hrl hcr hpc hn hnp hG hj
    go_enter Tryd.func72, Tryd.ntmps72
    go_wp2_with fail
    refine (MC.out 0).mono ?_
    rintro e w2 ⟨rfl, m, hw2⟩
    rw [hw2]
    have F := hid (FN1.out (decide (G = 0)) (0 + m) rfl)
    rw [← World.drewN_drewN] at F
    by_cases hG0 : G = 0
    · have e1 : (G == 0) = true := by simpa using hG0
      rw [decide_eq_true hG0] at F
      clear hG0 hw2 MC FN1
      go_wp2
      first | exact F.out | (go_ret; exact F.out)
    · have e1 : (G == 0) = false := by simpa using hG0
      rw [decide_eq_false hG0] at F
      clear hG0 hw2 MC FN1
      go_wp2
      first | exact F.out | (go_ret; exact F.out)
  · obtain ⟨x, rfl⟩ : ∃ x : Nat, j = (x : Int) := ⟨j.toNat, by omega⟩
    have FN1 := hid (fun z m e => FN.out z m (Eq.trans e (if_neg hj0).symm))
    have hxp : x < p.length := by omega
    have hxr : x < L[b].length := by rw [hrl]; exact hxp
    obtain ⟨b1, o1, rfl, hc1⟩ := hpc x hxp
    obtain ⟨b2, o2, rfl, hc2⟩ := hcr x hxr
    have cx := hc1 w (Below.refl _ _)
    have cy := hc2 w (Below.refl _ _)
    have cz := hcu w (Below.refl _ _)
    have hb1 := hro _ (List.getElem_mem hxr)
    have hb2 := okp _ (List.getElem_mem hxp)
    have e1 : L[b].getD x 0 = L[b][x] := by simp [hxr]
    have e2 : p.getD x 0 = p[x] := by simp [hxp]
    rw [show ((x : Int)).toNat = x by simp, e1, e2] at FN1
    obtain ⟨y1, hy1⟩ : ∃ y1, y1 = L[b][x] := ⟨_, rfl⟩
    obtain ⟨y2, hy2⟩ : ∃ y2, y2 = p[x] := ⟨_, rfl⟩
    obtain ⟨G, hG⟩ : ∃ G, G = gainF L[b] p := ⟨_, rfl⟩
    rw [← hG] at MC FN1
    rw [← hy1] at cy FN1 hb1
    rw [← hy2] at cx FN1 hb2
    have ew : IntKind.i64.wrap (y1 - y2) = y1 - y2 := IntWalk.i64_in _ (by omega)
    have gx0 : (0 : Int) ≤ (x : Int) := by omega
    have gx : (x : Int) < (np : Int) := by omega
    have MC2 := hid (fun m => (MC.out m).mono fun e w' ⟨h1, k, h2⟩ => (⟨h1, m + k, by rw [h2, World.drewN_drewN]⟩ : e = Ending.returned (Value.int IntKind.i64 G) ∧ ∃ q, w' = w.drewN q))
    clear FN hv hp ok okp hrow RX hcu hro hrl hcr hpc hn hnp hG hj hc1 hc2 hb1 hb2 e1 e2 hy1 hy2 hj0 hxp hxr MC
    go_enter Tryd.func72, Tryd.ntmps72
    go_upto_region 3 with fail
    go_quiet (first | (go_at_call 109; exact MC2.out _) | fail)
    have F := hid (FN1.out (decide (y1 - y2 = G)) nq rfl)
    go_wp2
    first | exact F.out | (go_ret; exact F.out)

set_option maxRecDepth 100000 in
set_option maxHeartbeats 4000000 in
theorem rwanted_calls {w : World} {v vp : Value} {L : List (List Int)} {p : List Int} (hv : NestE encI 1 w v L) (hp : ReadsE encI 1 w vp p) (ok : OkH L p.length) (okp : okW p) {b : Nat} (hb : b < L.length) :
    Calls Tryd.prog 48 #[v, vp, .int .i64 b] w fun e w' => ∃ v', e = .returned v' ∧ RowN w.heap.size w' v' (zl (wantsF L[b] p)) ∧ Below w.heap.size w w' := by
  obtain ⟨R, hR⟩ : ∃ R : Ending → World → Prop, R = fun e w' => ∃ v', e = .returned v' ∧ RowN w.heap.size w' v' (zl (wantsF L[b] p)) ∧ Below w.heap.size w w' := ⟨_, rfl⟩
  rw [← hR]
  have FN := hid (show ∀ v' w', RowN w.heap.size w' v' (zl (wantsF L[b] p)) → Below w.heap.size w w' → R (.returned v') w' from fun v' w' a h => by rw [hR]; exact ⟨v', rfl, a, h⟩)
  clear hR
  have CC := hid (fun (wx : World) (hbx : Below w.heap.size w wx) (x : Nat) (hx : x < p.length) => rcontent_calls (hv.below hbx) (hp.below hbx) ok okp hb (x : Int) (by omega))
  have HRL := hid (ok.len _ (List.getElem_mem hb))
  have np64' := ok.cols
  obtain ⟨vs, ⟨_, pv, capv, _, _, hvv, _, _⟩, hvl, _⟩ := hv
  obtain ⟨hpm, pp, cp, bp, offp, hvp, _, _⟩ := hp
  obtain ⟨n, hn⟩ : ∃ n, n = vs.length := ⟨_, rfl⟩
  obtain ⟨np, hnp⟩ : ∃ np, np = p.length := ⟨_, rfl⟩
  rw [← hn] at hvv
  rw [← hnp] at hvp
  subst hvv hvp
  have HNP := hid hnp
  have np64 : np ≤ 64 := by omega
  clear ok okp hn hnp hvl hpm np64'
  go_enter Tryd.func48, Tryd.ntmps48
  go_upto_region 3 with fail
  go_loopg [8, 7] np (fun k s8 s7 wr => ∃ (i : Nat) (b7 : Value), i + k = np ∧ s8 = .int .i64 i ∧ b7 = s7 ∧ RowN w.heap.size wr b7 (zl (wantsH (gainF L[b] p) (L[b].take i) p 0)) ∧ Below w.heap.size w wr)
  case atStart => exact ⟨0, _, by omega, rfl, rfl, by simpa [wantsH, zl] using OwnE.nil _ _, Below.refl _ _⟩
  case round =>
  obtain ⟨i, b7, hik, rfl, rfl, hr, hbx⟩ := hrel
  have HIK := hid hik
  have B := hid hbx
  have RW := hid hr
  clear hik hbx
  by_cases hin : i < np
  · have hip : i < p.length := by rw [← HNP.out]; exact hin
    have hir : i < L[b].length := by rw [HRL.out]; exact hip
    have C1 := hid (CC.out wr B.out i hip)
    have hs := wantsH_snoc (b := gainF L[b] p) 0 hir hip
    have ec : contB L[b] p (i : Int) = decide (L[b][i] - p[i] = gainF L[b] p) := by
      unfold contB
      rw [if_neg (by omega)]
      simp [hir, hip]
    rw [ec] at C1
    have hlen : (zl (wantsH (gainF L[b] p) (L[b].take i) p 0)).length ≤ 1000000 := by
      rw [zl_len]
      have := wantsH_len (b := gainF L[b] p) (L[b].take i) p 0
      rw [List.length_take] at this
      omega
    obtain ⟨l, hl⟩ : ∃ l, l = wantsH (gainF L[b] p) (L[b].take i) p 0 := ⟨_, rfl⟩
    rw [← hl] at hs RW hlen hr
    obtain ⟨p7, c7, hv7, _⟩ := hr.form
    obtain ⟨n7, hn7⟩ : ∃ n7, n7 = (zl l).length := ⟨_, rfl⟩
    rw [← hn7] at hv7
    have gq : (i : Int) < (np : Int) := by omega
    have gq0 : (0 : Int) ≤ (i : Int) := by omega
    have HS := hid hs
    have HL := hid hlen
    clear ec hl hs hr hlen hn7
    by_cases hc : L[b][i] - p[i] = gainF L[b] p
    · rw [decide_eq_true hc] at C1
      rw [if_pos hc, Nat.zero_add] at HS
      subst hv7
      clear hc
      go_wp2_with fail
      refine C1.out.mono ?_
      rintro e w8 ⟨rfl, md, hw8⟩
      have B8 := hid (show Below wr.heap.size wr w8 by rw [hw8]; exact drewN_below (Below.refl _ _) md)
      have ha := (Below.refl w8.heap.size w8).alloc (Nat.le_refl _) (.cells #[.int .i64 (i : Int)] 3)
      have R8 := RW.out.below B8.out
      have hws := B.out.size
      have hws8 := B8.out.size
      obtain ⟨v9, w9, r1, r2, r3, _⟩ := rown_app (R8.below ha) (by simp; omega) (cell_one (Cells.new w8 #[.int .i64 (i : Int)] 3)) HL.out
      have R1 := hid r1
      have R9 := hid (show RowN w.heap.size w9 v9 (zl (wantsH (gainF L[b] p) (L[b].take (i + 1)) p 0)) by rw [HS.out, zl_append]; exact r2)
      have B9 := hid (((B.out.trans (B8.out.mono hws)).trans (ha.mono (Nat.le_trans hws hws8))).trans (kept_own (R8.below ha) (by simp; omega) r3))
      clear hw8 C1 ha r1 r2 r3 R8 hws hws8
      go_wp2_with (at_builtin; refine wpList_append_run rfl (.tmp 20) (.tmp 22) 27 rfl _ _ v9 w9 rfl rfl R1.out ?_)
      go_roundg (np - (i + 1))
      · exact ⟨i + 1, _, by omega, by go_num, rfl, R9.out, B9.out⟩
      · have := HIK.out; omega
    · rw [decide_eq_false hc] at C1
      rw [if_neg hc, List.append_nil] at HS
      clear hc
      go_wp2_with fail
      refine C1.out.mono ?_
      rintro e w8 ⟨rfl, md, hw8⟩
      have B8 := hid (show Below wr.heap.size wr w8 by rw [hw8]; exact drewN_below (Below.refl _ _) md)
      have R9 := hid (show RowN w.heap.size w8 b7 (zl (wantsH (gainF L[b] p) (L[b].take (i + 1)) p 0)) by rw [HS.out]; exact RW.out.below B8.out)
      rw [hv7] at R9
      have B9 := hid (B.out.trans (B8.out.mono B.out.size))
      clear hw8 C1
      go_wp2
      go_roundg (np - (i + 1))
      · exact ⟨i + 1, _, by omega, by go_num, rfl, R9.out, B9.out⟩
      · have := HIK.out; omega
  obtain rfl : i = np := by have := HIK.out; omega
  have g2 : decide ((i : Int) < (i : Int)) = false := by simp
  have F := hid (FN.out b7 wr (by
    have h := RW.out
    rw [List.take_of_length_le (by rw [HRL.out, ← HNP.out]; exact Nat.le_refl _)] at h
    exact h) B.out)
  clear FN
  go_wp2
  first | exact F.out | (go_ret; exact F.out)
end Go.Proofs.YtojednnciknhpaaDoor
namespace Go.Proofs.YtojednnciknhpaaDoor
set_option linter.unusedSimpArgs false
set_option linter.unusedVariables false
open Go.RowKit
attribute [local go_sem] Oper.semAt_some
attribute [local go_sem ↓] Go.wp_at_zero Go.wp_at_succ
set_option maxRecDepth 100000 in
set_option maxHeartbeats 16000000 in
theorem rbalance_calls {w : World} {v vl vp : Value} {L : List (List Int)} {s p : List Int} (hv : NestE encI 1 w v L) (hs : ReadsE encI 1 w vl s) (hp : ReadsE encI 1 w vp p) :
    Calls Tryd.prog 46 #[v, vl, vp] w fun e w' => e = .returned (.tuple #[.int .i64 (contR L s p).1, .bool (contR L s p).2]) ∧ Below w.heap.size w w' := by
  have CH := hid (rcheckHall_calls hv)
  obtain ⟨R, hR⟩ : ∃ R : Ending → World → Prop, R = fun e w' => e = .returned (.tuple #[.int .i64 (contR L s p).1, .bool (contR L s p).2]) ∧ Below w.heap.size w w' := ⟨_, rfl⟩
  rw [← hR]
  have FN := hid (show ∀ x b w', (x, b) = contR L s p → Below w.heap.size w w' → R (.returned (.tuple #[.int .i64 x, .bool b])) w' from fun x b w' e h => by rw [hR, ← e]; exact ⟨rfl, h⟩)
  clear hR
  unfold contR at FN
  have NV := hid hv
  have PR := hid hp
  have SR := hid hs
  obtain ⟨pl, cl, hvl, hsc⟩ := reads_at hs
  obtain ⟨pp, cp, hvp, hpc⟩ := reads_at hp
  obtain ⟨vs, ⟨_, pv, capv, _, _, hvv, _, _⟩, hvsl, _⟩ := hv
  obtain ⟨n, hn⟩ : ∃ n, n = L.length := ⟨_, rfl⟩
  rw [hvsl, ← hn] at hvv
  obtain ⟨ns, hns⟩ : ∃ ns, ns = s.length := ⟨_, rfl⟩
  rw [← hns] at hvl FN
  obtain ⟨np, hnp⟩ : ∃ np, np = p.length := ⟨_, rfl⟩
  rw [← hnp] at hvp
  subst hvv hvl hvp
  rw [← hn] at FN
  obtain ⟨c, hc⟩ : ∃ c, c = chkH L := ⟨_, rfl⟩
  rw [← hc] at CH FN
  by_cases hc0 : c = 0
  · obtain ⟨ok, h1, h2⟩ := chkH_ok (L := L) (by rw [← hc, hc0])
    have e1 : (c == 0) = true := by simpa using hc0
    have e2 : (c != 0) = false := by simpa using hc0
    obtain ⟨bb, off, cap, p0, c0, he, hcf, hrw⟩ := nest_first NV.out h1
    rw [← hn] at he
    injection he with he1 he2 he3
    have AP := hid (fun wx (hb : Below w.heap.size w wx) => rprices_calls (NV.out.below hb) h1 (PR.out.below hb))
    subst he1 he3
    have HRW := hid hrw
    have HSC := hid hsc
    have HPC := hid hpc
    have HN := hid hn
    have HNS := hid hns
    have HNP := hid hnp
    have OK := hid ok
    have H12 := hid (And.intro h1 h2)
    clear hvsl he2 hn hc hrw hcf hsc hpc hns hnp ok h1 h2
    subst hc0
    by_cases hq : ns = n
    · subst hq
      have gq : ((ns : Int) != (ns : Int)) = false := by simp
      have gq2 : ((ns : Int) == (ns : Int)) = true := by simp
      obtain ⟨t, ht⟩ : ∃ t, t = arP L p := ⟨_, rfl⟩
      rw [← ht] at AP FN
      have HT := hid ht
      clear ht
      go_enter Tryd.func46, Tryd.ntmps46
      go_wp2_with fail
      refine CH.out.mono ?_
      rintro e w2 ⟨rfl, hb2⟩
      have A2 := hid (AP.out w2 hb2)
      have B2 := hid hb2
      clear hb2 CH AP
      go_wp2_with fail
      refine A2.out.mono ?_
      rintro e w3 ⟨rfl, hb3⟩
      have B3 := hid (B2.out.trans (hb3.mono B2.out.size))
      clear hb3 A2 B2
      cases t with
      | false =>
        have F := hid (FN.out (-1) false w3 (if_neg (by simp)).symm B3.out)
        clear FN
        go_wp2
        first | exact F.out | (go_ret; exact F.out)
      | true =>
        have FN1 := hid (fun x b w' e => FN.out x b w' (Eq.trans e (if_pos (by simp)).symm))
        obtain ⟨hpl, okp⟩ := arP_iff.1 HT.out.symm
        have ns64 : ns ≤ 64 := by rw [HN.out]; exact OK.out.rows
        have np64 : np ≤ 64 := by rw [HNP.out, hpl]; exact OK.out.cols
        have OKP := hid okp
        have OKL := hid (show OkH L p.length by rw [hpl]; exact OK.out)
        have mkb := mk_B w3 np (by omega)
        obtain ⟨w4, hw4⟩ : ∃ w4, w4 = w3.alloc (.cells (madeCells #[.bool false] np) 4) := ⟨_, rfl⟩
        have B4 := hid (show Below w.heap.size w w4 by rw [hw4]; exact B3.out.alloc B3.out.size _)
        have T4 := hid (show RB w4 w3.heap.size (noB np) by rw [hw4]; exact RowX.made w3 np false _ rfl)
        have hws := B3.out.size
        have HW4 := hid hw4
        rw [← hw4] at mkb
        unfold contF at FN1
        rw [← HNP.out] at FN1
        clear FN hw4 hpl okp
        go_upto_region 5 with fail
        go_loopg [9] ns (fun k s9 wr => ∃ (i : Nat) (t : List Bool), i + k = ns ∧ s9 = .int .i64 i ∧ RB wr w3.heap.size t ∧ t.length = np ∧ markF np s (noB np) = markF np (s.drop i) t ∧ Below w.heap.size w wr)
        case atStart => exact ⟨0, noB np, by omega, rfl, T4.out, noB_size np, rfl, B4.out⟩
        case round =>
          obtain ⟨i, t, hik, rfl, hrt, htl, heq, hb⟩ := hrel
          have HIK := hid hik
          have RT := hid hrt
          have HTL := hid htl
          have EQ := hid heq
          have B := hid hb
          clear hik hrt htl heq hb
          by_cases hin : i < ns
          · have his : i < s.length := by rw [← HNS.out]; exact hin
            obtain ⟨bs, os, rfl, hcs⟩ := HSC.out i his
            have ci := hcs wr B.out
            rw [List.drop_eq_getElem_cons his, markF_cons] at EQ
            obtain ⟨j, hj⟩ : ∃ j, j = s[i] := ⟨_, rfl⟩
            rw [← hj] at ci EQ
            have gi : (i : Int) < (ns : Int) := by omega
            have gi0 : (0 : Int) ≤ (i : Int) := by omega
            clear hj hcs
            by_cases hj1 : j < -1
            · rw [if_pos (.inl hj1)] at EQ
              have F := hid (FN1.out (-1) false wr (by rw [EQ.out]) B.out)
              clear FN1
              go_wp2
              first | exact F.out | (go_ret; exact F.out)
            have hj1' : -1 ≤ j := by omega
            by_cases hj2 : (np : Int) ≤ j
            · rw [if_pos (.inr (.inl hj2))] at EQ
              have F := hid (FN1.out (-1) false wr (by rw [EQ.out]) B.out)
              clear FN1 hj1
              go_wp2
              first | exact F.out | (go_ret; exact F.out)
            have hj2' : j < (np : Int) := by omega
            by_cases hj3 : j < 0
            · have EQ2 := hid (show markF np s (noB np) = markF np (s.drop (i + 1)) t by rw [EQ.out, if_neg (by omega), if_neg (by omega)])
              clear hj1 hj2
              go_wp2
              go_roundg (ns - (i + 1))
              · exact ⟨i + 1, t, by omega, by go_num, RT.out, HTL.out, EQ2.out, B.out⟩
              · have := HIK.out; omega
            have hj3' : 0 ≤ j := by omega
            obtain ⟨x, rfl⟩ : ∃ x : Nat, j = (x : Int) := ⟨j.toNat, by omega⟩
            have hxn : x < np := by omega
            have ct := RT.out.cellD (i := x) (by rw [HTL.out]; exact hxn) false
            have ft := RT.out.froz x
            rw [show ((x : Int)).toNat = x by simp] at EQ
            obtain ⟨y, hy⟩ : ∃ y, y = t.getD x false := ⟨_, rfl⟩
            rw [← hy] at ct EQ
            clear hy
            cases y with
            | true =>
              have F := hid (FN1.out (-1) false wr (by rw [EQ.out, if_pos (.inr (.inr ⟨hj3', rfl⟩))]) B.out)
              clear FN1 hj1 hj2 hj3
              go_wp2
              first | exact F.out | (go_ret; exact F.out)
            | false =>
              have EQ2 := hid (show markF np s (noB np) = markF np (s.drop (i + 1)) (t.set x true) by rw [EQ.out, if_neg (by simp; omega), if_pos hj3'])
              have RT2 := hid (RT.out.set x true)
              have B2 := hid (B.out.trans (Kept.below ((Kept.refl (fun k => k = w3.heap.size) wr).set (C := w3.heap.size) rfl x (.bool true)) B.out.size (fun k hk => by rw [hk]; exact hws)))
              clear hj1 hj2 hj3
              go_wp2
              go_roundg (ns - (i + 1))
              · exact ⟨i + 1, t.set x true, by omega, by go_num, RT2.out, by rw [List.length_set]; exact HTL.out, EQ2.out, B2.out⟩
              · have := HIK.out; omega
          obtain rfl : i = ns := by have := HIK.out; omega
          have g1 : decide ((i : Int) < (i : Int)) = false := by simp
          have hd : s.drop i = [] := List.drop_of_length_le (by rw [HNS.out]; exact Nat.le_refl _)
          rw [hd, markF] at EQ
          rw [EQ.out] at FN1
          have FN2 := hid (fun x b w' e => FN1.out x b w' e)
          simp only at FN2
          obtain ⟨wA, hwA⟩ : ∃ wA, wA = wr := ⟨_, rfl⟩
          rw [← hwA] at RT B ⊢
          have MS := markF_spec s (noB np) (noB_size np)
          rw [EQ.out] at MS
          have M1 := hid MS.1.1
          clear FN1 hd T4 B4 mkb hwA MS EQ
          go_upto_region 12 with fail
          go_loopg [10] i (fun k s10 wx => ∃ q : Nat, q + k = i ∧ s10 = .int .i64 q ∧ badF L p s 0 = badF L p (s.drop q) q ∧ Below wA.heap.size wA wx)
          case atStart => exact ⟨0, by omega, rfl, rfl, Below.refl _ _⟩
          case round =>
          obtain ⟨q, hqk, rfl, hbd, hbx⟩ := hrel
          have HQK := hid hqk
          have BD := hid hbd
          have BX := hid hbx
          have BW := hid (B.out.trans (hbx.mono B.out.size))
          have RTX := hid (RT.out.below' hbx)
          clear hqk hbd hbx
          by_cases hqi : q < i
          · have hqs : q < s.length := by rw [← HNS.out]; exact hqi
            have hql : q < L.length := by rw [← HN.out]; exact hqi
            obtain ⟨bs, os, rfl, hcs⟩ := HSC.out q hqs
            have cq := hcs wr BW.out
            have hm := M1.out _ (List.getElem_mem hqs)
            rw [List.drop_eq_getElem_cons hqs, badF_cons] at BD
            obtain ⟨j, hj⟩ : ∃ j, j = s[q] := ⟨_, rfl⟩
            rw [← hj] at cq BD hm
            obtain ⟨hj1, hj2, _⟩ := hm
            have gq : (q : Int) < (i : Int) := by omega
            have gq0 : (0 : Int) ≤ (q : Int) := by omega
            have eL : L.getD q [] = L[q] := by simp [hql]
            rw [eL] at BD
            have C1 := hid (rcontent_calls (NV.out.below BW.out) (PR.out.below BW.out) OKL.out OKP.out hql j (by rw [← HNP.out]; exact hj2))
            obtain ⟨cb, hcb⟩ : ∃ cb, cb = contB L[q] p j := ⟨_, rfl⟩
            rw [← hcb] at BD C1
            clear hj hcs eL hj1 hj2 hcb
            go_wp2_with fail
            refine C1.out.mono ?_
            rintro e w8 ⟨rfl, md, hw8⟩
            rw [hw8]
            clear hw8 C1
            cases cb with
            | true =>
              have NX2 := hid (show badF L p s 0 = badF L p (s.drop (q + 1)) (q + 1) by rw [BD.out, if_pos rfl])
              go_wp2
              go_roundg (i - (q + 1))
              · exact ⟨q + 1, by omega, by go_num, NX2.out, drewN_below BX.out _⟩
              · have := HQK.out; omega
            | false =>
              have F := hid (FN2.out q false (wr.drewN md) (by rw [BD.out]; rfl) (drewN_below BW.out md))
              clear FN2
              go_wp2
              first | exact F.out | (go_ret; exact F.out)
          obtain rfl : q = i := by have := HQK.out; omega
          have g1 : decide ((q : Int) < (q : Int)) = false := by simp
          have hd : s.drop q = [] := List.drop_of_length_le (by rw [HNS.out]; exact Nat.le_refl _)
          rw [hd, badF] at BD
          rw [BD.out] at FN2
          simp only at FN2
          obtain ⟨un, hun⟩ : ∃ un, un = unsoldF t p := ⟨_, rfl⟩
          rw [← hun] at FN2
          have HUN := hid hun
          unfold unsoldF at HUN
          obtain ⟨wB, hwB⟩ : ∃ wB, wB = wr := ⟨_, rfl⟩
          rw [← hwB] at RTX BW ⊢
          clear hd hwB hun BX BD
          have np0 : (0 : Int) ≤ (np : Int) := by omega
          go_upto_region 17 with fail
          go_loopg [11] np (fun k s11 wx => ∃ m : Nat, m + k = np ∧ s11 = .int .i64 m ∧ (∀ j, j < m → (!t.getD j false && decide (0 < p.getD j 0)) = false) ∧ wx = wB)
          case atStart => exact ⟨0, by omega, rfl, fun j h => absurd h (by omega), rfl⟩
          case round =>
          obtain ⟨m, hmk, rfl, hno, hwx⟩ := hrel
          have HMK := hid hmk
          have NO := hid hno
          rw [hwx]
          clear hmk hno hwx
          by_cases hmn : m < np
          · have hmp : m < p.length := by rw [← HNP.out]; exact hmn
            have ct := RTX.out.cellD (i := m) (by rw [HTL.out]; exact hmn) false
            obtain ⟨b2, o2, rfl, hc2⟩ := HPC.out m hmp
            have cx2 := hc2 wB BW.out
            have e2 : p.getD m 0 = p[m] := by simp [hmp]
            have gm : (m : Int) < (np : Int) := by omega
            have gm0 : (0 : Int) ≤ (m : Int) := by omega
            have NX := hid (show (!t.getD m false && decide (0 < p.getD m 0)) = false → ∀ j, j < m + 1 → (!t.getD j false && decide (0 < p.getD j 0)) = false from fun h j hj => by
              by_cases e : j = m
              · subst e; exact h
              · exact NO.out j (by omega))
            have YY := hid (show (!t.getD m false && decide (0 < p.getD m 0)) = true → un = true from fun h => by
              rw [HUN.out]
              exact List.any_eq_true.2 ⟨m, by simpa using hmp, h⟩)
            rw [e2] at NX YY
            obtain ⟨y1, hy1⟩ : ∃ y1, y1 = t.getD m false := ⟨_, rfl⟩
            obtain ⟨y2, hy2⟩ : ∃ y2, y2 = p[m] := ⟨_, rfl⟩
            rw [← hy1] at ct NX YY
            rw [← hy2] at cx2 NX YY
            clear hy1 hy2 e2 hc2 hmp
            cases y1 with
            | true =>
              have NX2 := hid (NX.out (by simp))
              clear NX YY
              go_wp2
              go_roundg (np - (m + 1))
              · exact ⟨m + 1, by omega, by go_num, NX2.out, rfl⟩
              · have := HMK.out; omega
            | false =>
              by_cases h0 : 0 < y2
              · have F := hid (FN2.out (-1) false wB (by rw [YY.out (by simpa using h0)]; rfl) BW.out)
                clear NX YY
                go_wp2
                first | exact F.out | (go_ret; exact F.out)
              · have NX2 := hid (NX.out (by simpa using h0))
                have h1 : y2 ≤ 0 := by omega
                clear NX YY h0
                go_wp2
                go_roundg (np - (m + 1))
                · exact ⟨m + 1, by omega, by go_num, NX2.out, rfl⟩
                · have := HMK.out; omega
          obtain rfl : m = np := by have := HMK.out; omega
          have g2 : decide ((m : Int) < (m : Int)) = false := by simp
          have F := hid (FN2.out (-1) true wB (by
            have : un = false := by
              rw [HUN.out]
              refine List.any_eq_false.2 fun j hj => ?_
              rw [NO.out j (by rw [HNP.out]; simpa using hj)]
              simp
            rw [this]; rfl) BW.out)
          clear FN2 np0
          go_wp2
          first | exact F.out | (go_ret; exact F.out)
    · have gq : ((ns : Int) != (n : Int)) = true := by simp; omega
      have gq2 : ((ns : Int) == (n : Int)) = false := by simp; omega
      go_enter Tryd.func46, Tryd.ntmps46
      go_wp2_with fail
      refine CH.out.mono ?_
      rintro e w2 ⟨rfl, hb2⟩
      have F := hid (FN.out (-1) false w2 (if_neg (fun h => hq h.2.1)).symm hb2)
      clear hb2 CH FN hq
      go_wp2
      first | exact F.out | (go_ret; exact F.out)
  · have e1 : (c == 0) = false := by simpa using hc0
    have e2 : (c != 0) = true := by simpa using hc0
    have FE1 := hid (fun w' h => FN.out (-1) false w' (if_neg (fun q => hc0 q.1)).symm h)
    clear hvsl hsc hpc FN hc hn hns hnp
    go_enter Tryd.func46, Tryd.ntmps46
    go_wp2_with fail
    refine CH.out.mono ?_
    rintro e w2 ⟨rfl, hb2⟩
    have F := hid (FE1.out w2 hb2)
    clear hb2 CH FE1
    go_wp2
    first | exact F.out | (go_ret; exact F.out)
end Go.Proofs.YtojednnciknhpaaDoor
