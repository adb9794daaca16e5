/- The reference: Prices, most, Content, Wanted. The reference: Balance. The reference: match. The hall in plain Lean: the reference's tables of what is open. No program in sight. The reference: Crowded. The reference: Crowd, of a crowd. -/
import Derived.Test.YtojednnciknhpaaDoorJBm
import Derived.Test.YtojednnciknhpaaDoorJPm2
import Derived.Test.YtojednnciknhpaaDoorJRowx
namespace Go.Proofs.YtojednnciknhpaaDoor
set_option linter.unusedSimpArgs false
set_option linter.unusedVariables false
open Go.RowKit
attribute [local go_sem] Oper.semAt_some
attribute [local go_sem ↓] Go.wp_at_zero Go.wp_at_succ

set_option maxRecDepth 100000 in
set_option maxHeartbeats 4000000 in
theorem rprices_calls {w : World} {v vp : Value} {L : List (List Int)} {p : List Int} (hv : NestE encI 1 w v L) (h1 : 1 ≤ L.length) (hp : ReadsE encI 1 w vp p) :
    Calls Tryd.prog 29 #[v, vp] w fun e w' => e = .returned (.bool (arP L p)) ∧ Below w.heap.size w w' := by
  obtain ⟨R, hR⟩ : ∃ R : Ending → World → Prop, R = fun e w' => e = .returned (.bool (arP L p)) ∧ Below w.heap.size w w' := ⟨_, rfl⟩
  rw [← hR]
  have FN := hid (show ∀ b w', b = arP L p → Below w.heap.size w w' → R (.returned (.bool b)) w' from fun b w' e h => by rw [hR, e]; exact ⟨rfl, h⟩)
  clear hR
  unfold arP at FN
  obtain ⟨bb, off, cap, p0, c0, rfl, hc, _⟩ := nest_first hv h1
  have c0 := hc w (Below.refl _ _)
  obtain ⟨n, hn⟩ : ∃ n, n = L.length := ⟨_, rfl⟩
  rw [← hn] at h1 ⊢
  have g0 : (0 : Int) < (n : Int) := by omega
  obtain ⟨m, hm⟩ : ∃ m, m = cols L := ⟨_, rfl⟩
  rw [← hm] at c0 FN
  have hpm := hp.1
  obtain ⟨pp, cp, rfl, hpc⟩ := reads_at hp
  have HPC := hid hpc
  obtain ⟨np, hnp⟩ : ∃ np, np = p.length := ⟨_, rfl⟩
  have HNP := hid hnp
  rw [← hnp] at FN hpm ⊢
  clear hv hn hm hc hnp hpc hp
  by_cases hq : np = m
  · subst hq
    have gq : ((np : Int) != (np : Int)) = false := by simp
    go_enter Tryd.func29, Tryd.ntmps29
    go_upto_region 4 with fail
    go_loopg [5] np (fun k s5 wr => ∃ i : Nat, i + k = np ∧ s5 = .int .i64 i ∧ (∀ k (hk : k < p.length), k < i → (!isW p[k]) = false) ∧ wr = w)
    case atStart => exact ⟨0, by omega, rfl, fun k _ h => by omega, rfl⟩
    case round =>
    obtain ⟨i, hik, rfl, hno, hwr⟩ := hrel
    have HIK := hid hik
    have NO := hid hno
    rw [hwr]
    clear hik hno hwr
    by_cases hin : i < np
    · have hip : i < p.length := by rw [← HNP.out]; exact hin
      obtain ⟨b1, o1, rfl, hc1⟩ := HPC.out i hip
      have cx := hc1 w (Below.refl _ _)
      have RW := hid (rworth_calls p[i] w)
      have N3 := hid (show (!isW p[i]) = false → ∀ k (hk : k < p.length), k < i + 1 → (!isW p[k]) = false from fun hq k hk h => by
        by_cases e : k = i
        · subst e; exact hq
        · exact NO.out k hk (by omega))
      have Y3 := hid (show (!isW p[i]) = true → R (.returned (.bool false)) w from fun hq => FN.out false w (by rw [any_at (P := fun x => !isW x) hip hq]; simp) (Below.refl _ _))
      obtain ⟨x, hx⟩ : ∃ x, x = p[i] := ⟨_, rfl⟩
      rw [← hx] at cx N3 Y3 RW
      obtain ⟨y, hy⟩ : ∃ y, y = isW x := ⟨_, rfl⟩
      rw [← hy] at N3 Y3 RW
      have gq : (i : Int) < (np : Int) := by omega
      have gq0 : (0 : Int) ≤ (i : Int) := by omega
      clear hx hy hc1
      go_wp2_with fail
      refine RW.out.mono ?_
      rintro e w8 ⟨rfl, hw8⟩
      rw [hw8]
      clear hw8 RW
      cases y with
      | true =>
        have N4 := hid (N3.out rfl)
        clear N3 Y3
        go_wp2
        go_roundg (np - (i + 1))
        · exact ⟨i + 1, by omega, by go_num, N4.out, rfl⟩
        · have := HIK.out; omega
      | false =>
        have F := hid (Y3.out rfl)
        clear N3 Y3
        go_wp2
        first | exact F.out | (go_ret; exact F.out)
    obtain rfl : i = np := by have := HIK.out; omega
    have g2 : decide ((i : Int) < (i : Int)) = false := by simp
    have hno : (p.any fun x => !isW x) = false := any_take (P := fun x => !isW x) fun k hk => NO.out k hk (by rw [HNP.out]; exact hk)
    have F := hid (FN.out true w (by rw [hno]; simp) (Below.refl _ _))
    clear FN hno
    go_wp2
    first | exact F.out | (go_ret; exact F.out)
  · have gq : ((np : Int) != (m : Int)) = true := by simp; omega
    have F := hid (FN.out false w (by simp [hq]) (Below.refl _ _))
    clear FN hq
    go_enter Tryd.func29, Tryd.ntmps29
    go_wp2
    first | exact F.out | (go_ret; exact F.out)

set_option maxRecDepth 100000 in
set_option maxHeartbeats 4000000 in
theorem rmost_calls {w : World} {v vp : Value} {L : List (List Int)} {p : List Int} (hv : NestE encI 1 w v L) (hp : ReadsE encI 1 w vp p) (ok : OkH L p.length) (okp : okW p) {b : Nat} (hb : b < L.length) :
    Calls Tryd.prog 109 #[v, vp, .int .i64 b] w fun e w' => e = .returned (.int .i64 (gainF L[b] p)) ∧ ∃ m, w' = w.drewN m := by
  obtain ⟨R, hR⟩ : ∃ R : Ending → World → Prop, R = fun e w' => e = .returned (.int .i64 (gainF L[b] p)) ∧ ∃ m, w' = w.drewN m := ⟨_, rfl⟩
  rw [← hR]
  have FN := hid (show ∀ z m, z = gainF L[b] p → R (.returned (.int .i64 z)) (w.drewN m) from fun z m e => by rw [hR, e]; exact ⟨rfl, m, rfl⟩)
  clear hR
  obtain ⟨bb, off, cap, rfl, hrow⟩ := nest_open hv (by omega)
  obtain ⟨u, RX, hcu⟩ := hrow b hb
  have hro := ok.ok _ (List.getElem_mem hb)
  have hrl := ok.len _ (List.getElem_mem hb)
  obtain ⟨pu, cu, rfl, hcr⟩ := reads_at RX
  obtain ⟨pp, cp, rfl, hpc⟩ := reads_at hp
  have HCU := hid hcu
  have HCR := hid hcr
  have HPC := hid hpc
  have HRO := hid hro
  have OKP := hid okp
  have HRL := hid hrl
  obtain ⟨n, hn⟩ : ∃ n, n = L.length := ⟨_, rfl⟩
  obtain ⟨np, hnp⟩ : ∃ np, np = p.length := ⟨_, rfl⟩
  have np64 : np ≤ 64 := by rw [hnp]; exact ok.cols
  have HNP := hid hnp
  rw [hrl, ← hnp] at HCU
  rw [← hnp, ← hn]
  have gb : (b : Int) < (n : Int) := by omega
  have gb0 : (0 : Int) ≤ (b : Int) := by omega
  clear hv hp ok okp hrow RX hcu hro hrl hcr hpc hn hnp
  go_enter Tryd.func109, Tryd.ntmps109
  go_upto_region 3 with fail
  go_loopg [8, 7] np (fun k s8 s7 wr => ∃ i : Nat, i + k = np ∧ s8 = .int .i64 i ∧ s7 = .int .i64 (gainH (L[b].take i) p 0) ∧ ∃ m, wr = w.drewN m)
  case atStart => exact ⟨0, by omega, rfl, by simp [gainH], 0, rfl⟩
  case round =>
  obtain ⟨i, hik, rfl, rfl, md, hwr⟩ := hrel
  have HIK := hid hik
  rw [hwr]
  clear hik hwr
  by_cases hin : i < np
  · have hip : i < p.length := by rw [← HNP.out]; exact hin
    have hir : i < L[b].length := by rw [HRL.out]; exact hip
    obtain ⟨b1, o1, rfl, hc1⟩ := HPC.out i hip
    obtain ⟨b2, o2, rfl, hc2⟩ := HCR.out i hir
    have cx := hc1 w (Below.refl _ _)
    have cy := hc2 w (Below.refl _ _)
    have cz := HCU.out w (Below.refl _ _)
    have hs := gainH_snoc (0 : Int) hir hip
    have hb1 := HRO.out _ (List.getElem_mem hir)
    have hb2 := OKP.out _ (List.getElem_mem hip)
    have hg := gain_take_bound HRO.out OKP.out i
    obtain ⟨x, hx⟩ : ∃ x, x = p[i] := ⟨_, rfl⟩
    obtain ⟨y, hy⟩ : ∃ y, y = L[b][i] := ⟨_, rfl⟩
    obtain ⟨G, hG⟩ : ∃ G, G = gainH (L[b].take i) p 0 := ⟨_, rfl⟩
    rw [← hx] at cx hs hb2
    rw [← hy] at cy hs hb1
    rw [← hG] at hs hg ⊢
    have HS := hid hs
    have ew : IntKind.i64.wrap (y - x) = y - x := IntWalk.i64_in _ (by omega)
    have gq : (i : Int) < (np : Int) := by omega
    have gq0 : (0 : Int) ≤ (i : Int) := by omega
    obtain ⟨M, hM⟩ : ∃ M, M = max G (y - x) := ⟨_, rfl⟩
    rw [← hM] at HS
    have em : max G (y - x) = M := hM.symm
    clear hc1 hc2 hs hb1 hb2 hg hx hy hG hM
    go_upto_region 5 with fail
    go_quiet (fail)
    go_wp2
    go_roundg (np - (i + 1))
    · exact ⟨i + 1, by omega, by go_num, by rw [HS.out], _, rfl⟩
    · have := HIK.out; omega
  obtain rfl : i = np := by have := HIK.out; omega
  have g2 : decide ((i : Int) < (i : Int)) = false := by simp
  have F := hid (FN.out (gainH (L[b].take i) p 0) md (by rw [List.take_of_length_le (by rw [HRL.out, ← HNP.out]; exact Nat.le_refl _)]; rfl))
  clear FN
  go_wp2
  first | exact F.out | (go_ret; exact F.out)

set_option maxRecDepth 100000 in
set_option maxHeartbeats 4000000 in
theorem rcontent_calls {w : World} {v vp : Value} {L : List (List Int)} {p : List Int} (hv : NestE encI 1 w v L) (hp : ReadsE encI 1 w vp p) (ok : OkH L p.length) (okp : okW p) {b : Nat} (hb : b < L.length) (j : Int) (hj : j < (p.length : Int)) :
    Calls Tryd.prog 72 #[v, vp, .int .i64 b, .int .i64 j] w fun e w' => e = .returned (.bool (contB L[b] p j)) ∧ ∃ m, w' = w.drewN m := by
  have MC := hid (fun m => rmost_calls (w := w.drewN m) (hv.below (drewN_below (Below.refl _ _) m)) (hp.drewN m) ok okp hb)
  obtain ⟨R, hR⟩ : ∃ R : Ending → World → Prop, R = fun e w' => e = .returned (.bool (contB L[b] p j)) ∧ ∃ m, w' = w.drewN m := ⟨_, rfl⟩
  rw [← hR]
  have FN := hid (show ∀ z m, z = contB L[b] p j → R (.returned (.bool z)) (w.drewN m) from fun z m e => by rw [hR, e]; exact ⟨rfl, m, rfl⟩)
  clear hR
  unfold contB at FN
  obtain ⟨bb, off, cap, rfl, hrow⟩ := nest_open hv (by omega)
  obtain ⟨u, RX, hcu⟩ := hrow b hb
  have hro := ok.ok _ (List.getElem_mem hb)
  have hrl := ok.len _ (List.getElem_mem hb)
  obtain ⟨pu, cu, rfl, hcr⟩ := reads_at RX
  obtain ⟨pp, cp, rfl, hpc⟩ := reads_at hp
  obtain ⟨n, hn⟩ : ∃ n, n = L.length := ⟨_, rfl⟩
  obtain ⟨np, hnp⟩ : ∃ np, np = p.length := ⟨_, rfl⟩
  rw [hrl, ← hnp] at hcu
  rw [← hnp, ← hn] at MC
  rw [← hnp, ← hn]
  have gb : (b : Int) < (n : Int) := by omega
  have gb0 : (0 : Int) ≤ (b : Int) := by omega
  by_cases hj0 : j < 0
  · have FN1 := hid (fun z m e => FN.out z m (Eq.trans e (if_pos hj0).symm))
    obtain ⟨G, hG⟩ : ∃ G, G = gainF L[b] p := ⟨_, rfl⟩
    rw [← hG] at MC FN1
    clear FN hv hp ok okp hrow RX hcu hro hrl hcr hpc hn hnp hG hj
    go_enter Tryd.func72, Tryd.ntmps72
    go_wp2_with fail
    refine (MC.out 0).mono ?_
    rintro e w2 ⟨rfl, m, hw2⟩
    rw [hw2]
    have F := hid (FN1.out (decide (G = 0)) (0 + m) rfl)
    rw [← World.drewN_drewN] at F
    by_cases hG0 : G = 0
    · have e1 : (G == 0) = true := by simpa using hG0
      rw [decide_eq_true hG0] at F
      clear hG0 hw2 MC FN1
      go_wp2
      first | exact F.out | (go_ret; exact F.out)
    · have e1 : (G == 0) = false := by simpa using hG0
      rw [decide_eq_false hG0] at F
      clear hG0 hw2 MC FN1
      go_wp2
      first | exact F.out | (go_ret; exact F.out)
  · obtain ⟨x, rfl⟩ : ∃ x : Nat, j = (x : Int) := ⟨j.toNat, by omega⟩
    have FN1 := hid (fun z m e => FN.out z m (Eq.trans e (if_neg hj0).symm))
    have hxp : x < p.length := by omega
    have hxr : x < L[b].length := by rw [hrl]; exact hxp
    obtain ⟨b1, o1, rfl, hc1⟩ := hpc x hxp
    obtain ⟨b2, o2, rfl, hc2⟩ := hcr x hxr
    have cx := hc1 w (Below.refl _ _)
    have cy := hc2 w (Below.refl _ _)
    have cz := hcu w (Below.refl _ _)
    have hb1 := hro _ (List.getElem_mem hxr)
    have hb2 := okp _ (List.getElem_mem hxp)
    have e1 : L[b].getD x 0 = L[b][x] := by simp [hxr]
    have e2 : p.getD x 0 = p[x] := by simp [hxp]
    rw [show ((x : Int)).toNat = x by simp, e1, e2] at FN1
    obtain ⟨y1, hy1⟩ : ∃ y1, y1 = L[b][x] := ⟨_, rfl⟩
    obtain ⟨y2, hy2⟩ : ∃ y2, y2 = p[x] := ⟨_, rfl⟩
    obtain ⟨G, hG⟩ : ∃ G, G = gainF L[b] p := ⟨_, rfl⟩
    rw [← hG] at MC FN1
    rw [← hy1] at cy FN1 hb1
    rw [← hy2] at cx FN1 hb2
    have ew : IntKind.i64.wrap (y1 - y2) = y1 - y2 := IntWalk.i64_in _ (by omega)
    have gx0 : (0 : Int) ≤ (x : Int) := by omega
    have gx : (x : Int) < (np : Int) := by omega
    have MC2 := hid (fun m => (MC.out m).mono fun e w' ⟨h1, k, h2⟩ => (⟨h1, m + k, by rw [h2, World.drewN_drewN]⟩ : e = Ending.returned (Value.int IntKind.i64 G) ∧ ∃ q, w' = w.drewN q))
    clear FN hv hp ok okp hrow RX hcu hro hrl hcr hpc hn hnp hG hj hc1 hc2 hb1 hb2 e1 e2 hy1 hy2 hj0 hxp hxr MC
    go_enter Tryd.func72, Tryd.ntmps72
    go_upto_region 3 with fail
    go_quiet (first | (go_at_call 109; exact MC2.out _) | fail)
    have F := hid (FN1.out (decide (y1 - y2 = G)) nq rfl)
    go_wp2
    first | exact F.out | (go_ret; exact F.out)

set_option maxRecDepth 100000 in
set_option maxHeartbeats 4000000 in
theorem rwanted_calls {w : World} {v vp : Value} {L : List (List Int)} {p : List Int} (hv : NestE encI 1 w v L) (hp : ReadsE encI 1 w vp p) (ok : OkH L p.length) (okp : okW p) {b : Nat} (hb : b < L.length) :
    Calls Tryd.prog 48 #[v, vp, .int .i64 b] w fun e w' => ∃ v', e = .returned v' ∧ RowN w.heap.size w' v' (zl (wantsF L[b] p)) ∧ Below w.heap.size w w' := by
  obtain ⟨R, hR⟩ : ∃ R : Ending → World → Prop, R = fun e w' => ∃ v', e = .returned v' ∧ RowN w.heap.size w' v' (zl (wantsF L[b] p)) ∧ Below w.heap.size w w' := ⟨_, rfl⟩
  rw [← hR]
  have FN := hid (show ∀ v' w', RowN w.heap.size w' v' (zl (wantsF L[b] p)) → Below w.heap.size w w' → R (.returned v') w' from fun v' w' a h => by rw [hR]; exact ⟨v', rfl, a, h⟩)
  clear hR
  have CC := hid (fun (wx : World) (hbx : Below w.heap.size w wx) (x : Nat) (hx : x < p.length) => rcontent_calls (hv.below hbx) (hp.below hbx) ok okp hb (x : Int) (by omega))
  have HRL := hid (ok.len _ (List.getElem_mem hb))
  have np64' := ok.cols
  obtain ⟨vs, ⟨_, pv, capv, _, _, hvv, _, _⟩, hvl, _⟩ := hv
  obtain ⟨hpm, pp, cp, bp, offp, hvp, _, _⟩ := hp
  obtain ⟨n, hn⟩ : ∃ n, n = vs.length := ⟨_, rfl⟩
  obtain ⟨np, hnp⟩ : ∃ np, np = p.length := ⟨_, rfl⟩
  rw [← hn] at hvv
  rw [← hnp] at hvp
  subst hvv hvp
  have HNP := hid hnp
  have np64 : np ≤ 64 := by omega
  clear ok okp hn hnp hvl hpm np64'
  go_enter Tryd.func48, Tryd.ntmps48
  go_upto_region 3 with fail
  go_loopg [8, 7] np (fun k s8 s7 wr => ∃ (i : Nat) (b7 : Value), i + k = np ∧ s8 = .int .i64 i ∧ b7 = s7 ∧ RowN w.heap.size wr b7 (zl (wantsH (gainF L[b] p) (L[b].take i) p 0)) ∧ Below w.heap.size w wr)
  case atStart => exact ⟨0, _, by omega, rfl, rfl, by simpa [wantsH, zl] using OwnE.nil _ _, Below.refl _ _⟩
  case round =>
  obtain ⟨i, b7, hik, rfl, rfl, hr, hbx⟩ := hrel
  have HIK := hid hik
  have B := hid hbx
  have RW := hid hr
  clear hik hbx
  by_cases hin : i < np
  · have hip : i < p.length := by rw [← HNP.out]; exact hin
    have hir : i < L[b].length := by rw [HRL.out]; exact hip
    have C1 := hid (CC.out wr B.out i hip)
    have hs := wantsH_snoc (b := gainF L[b] p) 0 hir hip
    have ec : contB L[b] p (i : Int) = decide (L[b][i] - p[i] = gainF L[b] p) := by
      unfold contB
      rw [if_neg (by omega)]
      simp [hir, hip]
    rw [ec] at C1
    have hlen : (zl (wantsH (gainF L[b] p) (L[b].take i) p 0)).length ≤ 1000000 := by
      rw [zl_len]
      have := wantsH_len (b := gainF L[b] p) (L[b].take i) p 0
      rw [List.length_take] at this
      omega
    obtain ⟨l, hl⟩ : ∃ l, l = wantsH (gainF L[b] p) (L[b].take i) p 0 := ⟨_, rfl⟩
    rw [← hl] at hs RW hlen hr
    obtain ⟨p7, c7, hv7, _⟩ := hr.form
    obtain ⟨n7, hn7⟩ : ∃ n7, n7 = (zl l).length := ⟨_, rfl⟩
    rw [← hn7] at hv7
    have gq : (i : Int) < (np : Int) := by omega
    have gq0 : (0 : Int) ≤ (i : Int) := by omega
    have HS := hid hs
    have HL := hid hlen
    clear ec hl hs hr hlen hn7
    by_cases hc : L[b][i] - p[i] = gainF L[b] p
    · rw [decide_eq_true hc] at C1
      rw [if_pos hc, Nat.zero_add] at HS
      subst hv7
      clear hc
      go_wp2_with fail
      refine C1.out.mono ?_
      rintro e w8 ⟨rfl, md, hw8⟩
      have B8 := hid (show Below wr.heap.size wr w8 by rw [hw8]; exact drewN_below (Below.refl _ _) md)
      have ha := (Below.refl w8.heap.size w8).alloc (Nat.le_refl _) (.cells #[.int .i64 (i : Int)] 3)
      have R8 := RW.out.below B8.out
      have hws := B.out.size
      have hws8 := B8.out.size
      obtain ⟨v9, w9, r1, r2, r3, _⟩ := rown_app (R8.below ha) (by simp; omega) (cell_one (Cells.new w8 #[.int .i64 (i : Int)] 3)) HL.out
      have R1 := hid r1
      have R9 := hid (show RowN w.heap.size w9 v9 (zl (wantsH (gainF L[b] p) (L[b].take (i + 1)) p 0)) by rw [HS.out, zl_append]; exact r2)
      have B9 := hid (((B.out.trans (B8.out.mono hws)).trans (ha.mono (Nat.le_trans hws hws8))).trans (kept_own (R8.below ha) (by simp; omega) r3))
      clear hw8 C1 ha r1 r2 r3 R8 hws hws8
      go_wp2_with (at_builtin; refine wpList_append_run rfl (.tmp 20) (.tmp 22) 27 rfl _ _ v9 w9 rfl rfl R1.out ?_)
      go_roundg (np - (i + 1))
      · exact ⟨i + 1, _, by omega, by go_num, rfl, R9.out, B9.out⟩
      · have := HIK.out; omega
    · rw [decide_eq_false hc] at C1
      rw [if_neg hc, List.append_nil] at HS
      clear hc
      go_wp2_with fail
      refine C1.out.mono ?_
      rintro e w8 ⟨rfl, md, hw8⟩
      have B8 := hid (show Below wr.heap.size wr w8 by rw [hw8]; exact drewN_below (Below.refl _ _) md)
      have R9 := hid (show RowN w.heap.size w8 b7 (zl (wantsH (gainF L[b] p) (L[b].take (i + 1)) p 0)) by rw [HS.out]; exact RW.out.below B8.out)
      rw [hv7] at R9
      have B9 := hid (B.out.trans (B8.out.mono B.out.size))
      clear hw8 C1
      go_wp2
      go_roundg (np - (i + 1))
      · exact ⟨i + 1, _, by omega, by go_num, rfl, R9.out, B9.out⟩
      · have := HIK.out; omega
  obtain rfl : i = np := by have := HIK.out; omega
  have g2 : decide ((i : Int) < (i : Int)) = false := by simp
  have F := hid (FN.out b7 wr (by
    have h := RW.out
    rw [List.take_of_length_le (by rw [HRL.out, ← HNP.out]; exact Nat.le_refl _)] at h
    exact h) B.out)
  clear FN
  go_wp2
  first | exact F.out | (go_ret; exact F.out)
end Go.Proofs.YtojednnciknhpaaDoor
namespace Go.Proofs.YtojednnciknhpaaDoor
set_option linter.unusedSimpArgs false
set_option linter.unusedVariables false
open Go.RowKit
attribute [local go_sem] Oper.semAt_some
attribute [local go_sem ↓] Go.wp_at_zero Go.wp_at_succ
set_option maxRecDepth 100000 in
set_option maxHeartbeats 16000000 in
theorem rbalance_calls {w : World} {v vl vp : Value} {L : List (List Int)} {s p : List Int} (hv : NestE encI 1 w v L) (hs : ReadsE encI 1 w vl s) (hp : ReadsE encI 1 w vp p) :
    Calls Tryd.prog 46 #[v, vl, vp] w fun e w' => e = .returned (.tuple #[.int .i64 (contR L s p).1, .bool (contR L s p).2]) ∧ Below w.heap.size w w' := by
  have CH := hid (rcheckHall_calls hv)
  obtain ⟨R, hR⟩ : ∃ R : Ending → World → Prop, R = fun e w' => e = .returned (.tuple #[.int .i64 (contR L s p).1, .bool (contR L s p).2]) ∧ Below w.heap.size w w' := ⟨_, rfl⟩
  rw [← hR]
  have FN := hid (show ∀ x b w', (x, b) = contR L s p → Below w.heap.size w w' → R (.returned (.tuple #[.int .i64 x, .bool b])) w' from fun x b w' e h => by rw [hR, ← e]; exact ⟨rfl, h⟩)
  clear hR
  unfold contR at FN
  have NV := hid hv
  have PR := hid hp
  have SR := hid hs
  obtain ⟨pl, cl, hvl, hsc⟩ := reads_at hs
  obtain ⟨pp, cp, hvp, hpc⟩ := reads_at hp
  obtain ⟨vs, ⟨_, pv, capv, _, _, hvv, _, _⟩, hvsl, _⟩ := hv
  obtain ⟨n, hn⟩ : ∃ n, n = L.length := ⟨_, rfl⟩
  rw [hvsl, ← hn] at hvv
  obtain ⟨ns, hns⟩ : ∃ ns, ns = s.length := ⟨_, rfl⟩
  rw [← hns] at hvl FN
  obtain ⟨np, hnp⟩ : ∃ np, np = p.length := ⟨_, rfl⟩
  rw [← hnp] at hvp
  subst hvv hvl hvp
  rw [← hn] at FN
  obtain ⟨c, hc⟩ : ∃ c, c = chkH L := ⟨_, rfl⟩
  rw [← hc] at CH FN
  by_cases hc0 : c = 0
  · obtain ⟨ok, h1, h2⟩ := chkH_ok (L := L) (by rw [← hc, hc0])
    have e1 : (c == 0) = true := by simpa using hc0
    have e2 : (c != 0) = false := by simpa using hc0
    obtain ⟨bb, off, cap, p0, c0, he, hcf, hrw⟩ := nest_first NV.out h1
    rw [← hn] at he
    injection he with he1 he2 he3
    have AP := hid (fun wx (hb : Below w.heap.size w wx) => rprices_calls (NV.out.below hb) h1 (PR.out.below hb))
    subst he1 he3
    have HRW := hid hrw
    have HSC := hid hsc
    have HPC := hid hpc
    have HN := hid hn
    have HNS := hid hns
    have HNP := hid hnp
    have OK := hid ok
    have H12 := hid (And.intro h1 h2)
    clear hvsl he2 hn hc hrw hcf hsc hpc hns hnp ok h1 h2
    subst hc0
    by_cases hq : ns = n
    · subst hq
      have gq : ((ns : Int) != (ns : Int)) = false := by simp
      have gq2 : ((ns : Int) == (ns : Int)) = true := by simp
      obtain ⟨t, ht⟩ : ∃ t, t = arP L p := ⟨_, rfl⟩
      rw [← ht] at AP FN
      have HT := hid ht
      clear ht
      go_enter Tryd.func46, Tryd.ntmps46
      go_wp2_with fail
      refine CH.out.mono ?_
      rintro e w2 ⟨rfl, hb2⟩
      have A2 := hid (AP.out w2 hb2)
      have B2 := hid hb2
      clear hb2 CH AP
      go_wp2_with fail
      refine A2.out.mono ?_
      rintro e w3 ⟨rfl, hb3⟩
      have B3 := hid (B2.out.trans (hb3.mono B2.out.size))
      clear hb3 A2 B2
      cases t with
      | false =>
        have F := hid (FN.out (-1) false w3 (if_neg (by simp)).symm B3.out)
        clear FN
        go_wp2
        first | exact F.out | (go_ret; exact F.out)
      | true =>
        have FN1 := hid (fun x b w' e => FN.out x b w' (Eq.trans e (if_pos (by simp)).symm))
        obtain ⟨hpl, okp⟩ := arP_iff.1 HT.out.symm
        have ns64 : ns ≤ 64 := by rw [HN.out]; exact OK.out.rows
        have np64 : np ≤ 64 := by rw [HNP.out, hpl]; exact OK.out.cols
        have OKP := hid okp
        have OKL := hid (show OkH L p.length by rw [hpl]; exact OK.out)
        have mkb := mk_B w3 np (by omega)
        obtain ⟨w4, hw4⟩ : ∃ w4, w4 = w3.alloc (.cells (madeCells #[.bool false] np) 4) := ⟨_, rfl⟩
        have B4 := hid (show Below w.heap.size w w4 by rw [hw4]; exact B3.out.alloc B3.out.size _)
        have T4 := hid (show RB w4 w3.heap.size (noB np) by rw [hw4]; exact RowX.made w3 np false _ rfl)
        have hws := B3.out.size
        have HW4 := hid hw4
        rw [← hw4] at mkb
        unfold contF at FN1
        rw [← HNP.out] at FN1
        clear FN hw4 hpl okp
        go_upto_region 5 with fail
        go_loopg [9] ns (fun k s9 wr => ∃ (i : Nat) (t : List Bool), i + k = ns ∧ s9 = .int .i64 i ∧ RB wr w3.heap.size t ∧ t.length = np ∧ markF np s (noB np) = markF np (s.drop i) t ∧ Below w.heap.size w wr)
        case atStart => exact ⟨0, noB np, by omega, rfl, T4.out, noB_size np, rfl, B4.out⟩
        case round =>
          obtain ⟨i, t, hik, rfl, hrt, htl, heq, hb⟩ := hrel
          have HIK := hid hik
          have RT := hid hrt
          have HTL := hid htl
          have EQ := hid heq
          have B := hid hb
          clear hik hrt htl heq hb
          by_cases hin : i < ns
          · have his : i < s.length := by rw [← HNS.out]; exact hin
            obtain ⟨bs, os, rfl, hcs⟩ := HSC.out i his
            have ci := hcs wr B.out
            rw [List.drop_eq_getElem_cons his, markF_cons] at EQ
            obtain ⟨j, hj⟩ : ∃ j, j = s[i] := ⟨_, rfl⟩
            rw [← hj] at ci EQ
            have gi : (i : Int) < (ns : Int) := by omega
            have gi0 : (0 : Int) ≤ (i : Int) := by omega
            clear hj hcs
            by_cases hj1 : j < -1
            · rw [if_pos (.inl hj1)] at EQ
              have F := hid (FN1.out (-1) false wr (by rw [EQ.out]) B.out)
              clear FN1
              go_wp2
              first | exact F.out | (go_ret; exact F.out)
            have hj1' : -1 ≤ j := by omega
            by_cases hj2 : (np : Int) ≤ j
            · rw [if_pos (.inr (.inl hj2))] at EQ
              have F := hid (FN1.out (-1) false wr (by rw [EQ.out]) B.out)
              clear FN1 hj1
              go_wp2
              first | exact F.out | (go_ret; exact F.out)
            have hj2' : j < (np : Int) := by omega
            by_cases hj3 : j < 0
            · have EQ2 := hid (show markF np s (noB np) = markF np (s.drop (i + 1)) t by rw [EQ.out, if_neg (by omega), if_neg (by omega)])
              clear hj1 hj2
              go_wp2
              go_roundg (ns - (i + 1))
              · exact ⟨i + 1, t, by omega, by go_num, RT.out, HTL.out, EQ2.out, B.out⟩
              · have := HIK.out; omega
            have hj3' : 0 ≤ j := by omega
            obtain ⟨x, rfl⟩ : ∃ x : Nat, j = (x : Int) := ⟨j.toNat, by omega⟩
            have hxn : x < np := by omega
            have ct := RT.out.cellD (i := x) (by rw [HTL.out]; exact hxn) false
            have ft := RT.out.froz x
            rw [show ((x : Int)).toNat = x by simp] at EQ
            obtain ⟨y, hy⟩ : ∃ y, y = t.getD x false := ⟨_, rfl⟩
            rw [← hy] at ct EQ
            clear hy
            cases y with
            | true =>
              have F := hid (FN1.out (-1) false wr (by rw [EQ.out, if_pos (.inr (.inr ⟨hj3', rfl⟩))]) B.out)
              clear FN1 hj1 hj2 hj3
              go_wp2
              first | exact F.out | (go_ret; exact F.out)
            | false =>
              have EQ2 := hid (show markF np s (noB np) = markF np (s.drop (i + 1)) (t.set x true) by rw [EQ.out, if_neg (by simp; omega), if_pos hj3'])
              have RT2 := hid (RT.out.set x true)
              have B2 := hid (B.out.trans (Kept.below ((Kept.refl (fun k => k = w3.heap.size) wr).set (C := w3.heap.size) rfl x (.bool true)) B.out.size (fun k hk => by rw [hk]; exact hws)))
              clear hj1 hj2 hj3
              go_wp2
              go_roundg (ns - (i + 1))
              · exact ⟨i + 1, t.set x true, by omega, by go_num, RT2.out, by rw [List.length_set]; exact HTL.out, EQ2.out, B2.out⟩
              · have := HIK.out; omega
          obtain rfl : i = ns := by have := HIK.out; omega
          have g1 : decide ((i : Int) < (i : Int)) = false := by simp
          have hd : s.drop i = [] := List.drop_of_length_le (by rw [HNS.out]; exact Nat.le_refl _)
          rw [hd, markF] at EQ
          rw [EQ.out] at FN1
          have FN2 := hid (fun x b w' e => FN1.out x b w' e)
          simp only at FN2
          obtain ⟨wA, hwA⟩ : ∃ wA, wA = wr := ⟨_, rfl⟩
          rw [← hwA] at RT B ⊢
          have MS := markF_spec s (noB np) (noB_size np)
          rw [EQ.out] at MS
          have M1 := hid MS.1.1
          clear FN1 hd T4 B4 mkb hwA MS EQ
          go_upto_region 12 with fail
          go_loopg [10] i (fun k s10 wx => ∃ q : Nat, q + k = i ∧ s10 = .int .i64 q ∧ badF L p s 0 = badF L p (s.drop q) q ∧ Below wA.heap.size wA wx)
          case atStart => exact ⟨0, by omega, rfl, rfl, Below.refl _ _⟩
          case round =>
          obtain ⟨q, hqk, rfl, hbd, hbx⟩ := hrel
          have HQK := hid hqk
          have BD := hid hbd
          have BX := hid hbx
          have BW := hid (B.out.trans (hbx.mono B.out.size))
          have RTX := hid (RT.out.below' hbx)
          clear hqk hbd hbx
          by_cases hqi : q < i
          · have hqs : q < s.length := by rw [← HNS.out]; exact hqi
            have hql : q < L.length := by rw [← HN.out]; exact hqi
            obtain ⟨bs, os, rfl, hcs⟩ := HSC.out q hqs
            have cq := hcs wr BW.out
            have hm := M1.out _ (List.getElem_mem hqs)
            rw [List.drop_eq_getElem_cons hqs, badF_cons] at BD
            obtain ⟨j, hj⟩ : ∃ j, j = s[q] := ⟨_, rfl⟩
            rw [← hj] at cq BD hm
            obtain ⟨hj1, hj2, _⟩ := hm
            have gq : (q : Int) < (i : Int) := by omega
            have gq0 : (0 : Int) ≤ (q : Int) := by omega
            have eL : L.getD q [] = L[q] := by simp [hql]
            rw [eL] at BD
            have C1 := hid (rcontent_calls (NV.out.below BW.out) (PR.out.below BW.out) OKL.out OKP.out hql j (by rw [← HNP.out]; exact hj2))
            obtain ⟨cb, hcb⟩ : ∃ cb, cb = contB L[q] p j := ⟨_, rfl⟩
            rw [← hcb] at BD C1
            clear hj hcs eL hj1 hj2 hcb
            go_wp2_with fail
            refine C1.out.mono ?_
            rintro e w8 ⟨rfl, md, hw8⟩
            rw [hw8]
            clear hw8 C1
            cases cb with
            | true =>
              have NX2 := hid (show badF L p s 0 = badF L p (s.drop (q + 1)) (q + 1) by rw [BD.out, if_pos rfl])
              go_wp2
              go_roundg (i - (q + 1))
              · exact ⟨q + 1, by omega, by go_num, NX2.out, drewN_below BX.out _⟩
              · have := HQK.out; omega
            | false =>
              have F := hid (FN2.out q false (wr.drewN md) (by rw [BD.out]; rfl) (drewN_below BW.out md))
              clear FN2
              go_wp2
              first | exact F.out | (go_ret; exact F.out)
          obtain rfl : q = i := by have := HQK.out; omega
          have g1 : decide ((q : Int) < (q : Int)) = false := by simp
          have hd : s.drop q = [] := List.drop_of_length_le (by rw [HNS.out]; exact Nat.le_refl _)
          rw [hd, badF] at BD
          rw [BD.out] at FN2
          simp only at FN2
          obtain ⟨un, hun⟩ : ∃ un, un = unsoldF t p := ⟨_, rfl⟩
          rw [← hun] at FN2
          have HUN := hid hun
          unfold unsoldF at HUN
          obtain ⟨wB, hwB⟩ : ∃ wB, wB = wr := ⟨_, rfl⟩
          rw [← hwB] at RTX BW ⊢
          clear hd hwB hun BX BD
          have np0 : (0 : Int) ≤ (np : Int) := by omega
          go_upto_region 17 with fail
          go_loopg [11] np (fun k s11 wx => ∃ m : Nat, m + k = np ∧ s11 = .int .i64 m ∧ (∀ j, j < m → (!t.getD j false && decide (0 < p.getD j 0)) = false) ∧ wx = wB)
          case atStart => exact ⟨0, by omega, rfl, fun j h => absurd h (by omega), rfl⟩
          case round =>
          obtain ⟨m, hmk, rfl, hno, hwx⟩ := hrel
          have HMK := hid hmk
          have NO := hid hno
          rw [hwx]
          clear hmk hno hwx
          by_cases hmn : m < np
          · have hmp : m < p.length := by rw [← HNP.out]; exact hmn
            have ct := RTX.out.cellD (i := m) (by rw [HTL.out]; exact hmn) false
            obtain ⟨b2, o2, rfl, hc2⟩ := HPC.out m hmp
            have cx2 := hc2 wB BW.out
            have e2 : p.getD m 0 = p[m] := by simp [hmp]
            have gm : (m : Int) < (np : Int) := by omega
            have gm0 : (0 : Int) ≤ (m : Int) := by omega
            have NX := hid (show (!t.getD m false && decide (0 < p.getD m 0)) = false → ∀ j, j < m + 1 → (!t.getD j false && decide (0 < p.getD j 0)) = false from fun h j hj => by
              by_cases e : j = m
              · subst e; exact h
              · exact NO.out j (by omega))
            have YY := hid (show (!t.getD m false && decide (0 < p.getD m 0)) = true → un = true from fun h => by
              rw [HUN.out]
              exact List.any_eq_true.2 ⟨m, by simpa using hmp, h⟩)
            rw [e2] at NX YY
            obtain ⟨y1, hy1⟩ : ∃ y1, y1 = t.getD m false := ⟨_, rfl⟩
            obtain ⟨y2, hy2⟩ : ∃ y2, y2 = p[m] := ⟨_, rfl⟩
            rw [← hy1] at ct NX YY
            rw [← hy2] at cx2 NX YY
            clear hy1 hy2 e2 hc2 hmp
            cases y1 with
            | true =>
              have NX2 := hid (NX.out (by simp))
              clear NX YY
              go_wp2
              go_roundg (np - (m + 1))
              · exact ⟨m + 1, by omega, by go_num, NX2.out, rfl⟩
              · have := HMK.out; omega
            | false =>
              by_cases h0 : 0 < y2
              · have F := hid (FN2.out (-1) false wB (by rw [YY.out (by simpa using h0)]; rfl) BW.out)
                clear NX YY
                go_wp2
                first | exact F.out | (go_ret; exact F.out)
              · have NX2 := hid (NX.out (by simpa using h0))
                have h1 : y2 ≤ 0 := by omega
                clear NX YY h0
                go_wp2
                go_roundg (np - (m + 1))
                · exact ⟨m + 1, by omega, by go_num, NX2.out, rfl⟩
                · have := HMK.out; omega
          obtain rfl : m = np := by have := HMK.out; omega
          have g2 : decide ((m : Int) < (m : Int)) = false := by simp
          have F := hid (FN2.out (-1) true wB (by
            have : un = false := by
              rw [HUN.out]
              refine List.any_eq_false.2 fun j hj => ?_
              rw [NO.out j (by rw [HNP.out]; simpa using hj)]
              simp
            rw [this]; rfl) BW.out)
          clear FN2 np0
          go_wp2
          first | exact F.out | (go_ret; exact F.out)
    · have gq : ((ns : Int) != (n : Int)) = true := by simp; omega
      have gq2 : ((ns : Int) == (n : Int)) = false := by simp; omega
      go_enter Tryd.func46, Tryd.ntmps46
      go_wp2_with fail
      refine CH.out.mono ?_
      rintro e w2 ⟨rfl, hb2⟩
      have F := hid (FN.out (-1) false w2 (if_neg (fun h => hq h.2.1)).symm hb2)
      clear hb2 CH FN hq
      go_wp2
      first | exact F.out | (go_ret; exact F.out)
  · have e1 : (c == 0) = false := by simpa using hc0
    have e2 : (c != 0) = true := by simpa using hc0
    have FE1 := hid (fun w' h => FN.out (-1) false w' (if_neg (fun q => hc0 q.1)).symm h)
    clear hvsl hsc hpc FN hc hn hns hnp
    go_enter Tryd.func46, Tryd.ntmps46
    go_wp2_with fail
    refine CH.out.mono ?_
    rintro e w2 ⟨rfl, hb2⟩
    have F := hid (FE1.out w2 hb2)
    clear hb2 CH FE1
    go_wp2
    first | exact F.out | (go_ret; exact F.out)
end Go.Proofs.YtojednnciknhpaaDoor
namespace Go.Proofs.YtojednnciknhpaaDoor
set_option linter.unusedSimpArgs false
set_option linter.unusedVariables false
open Go.RowKit
attribute [local go_sem] Oper.semAt_some
attribute [local go_sem ↓] Go.wp_at_zero Go.wp_at_succ
abbrev encB : Bool → List Value := fun b => [.bool b]
theorem encB_len (b : Bool) : (encB b).length = 1 := rfl
/-- A table of what is open, as lists. -/
def oW (rows : List (List Bool)) (n : Nat) : List (List Nat) := rows.map fun row => (List.range n).filter fun k => row.getD k false
theorem oW_len (rows : List (List Bool)) (n : Nat) : (oW rows n).length = rows.length := by simp [oW]
theorem oW_get {rows : List (List Bool)} {n i : Nat} (h : i < rows.length) : (oW rows n).getD i [] = (List.range n).filter fun k => rows[i].getD k false := by simp [oW, h]
theorem oW_ok (rows : List (List Bool)) (n : Nat) : wOk (oW rows n) n := fun l hl j hj => by
  obtain ⟨row, _, rfl⟩ := List.mem_map.1 hl
  simpa using (List.mem_filter.1 hj).1
/-- A table of what is open, in memory: it stays though a block and new ones change. -/
def RmO (w0 : World) (go_ bb off n : Nat) (rows : List (List Bool)) : Prop := ∀ (i : Nat) (hi : i < rows.length), ∃ b o c, (∀ wx, Kept (fun k => k = go_ ∨ w0.heap.size ≤ k) w0 wx → wx.cell? ⟨bb, off + i, none⟩ = some (.slice (some ⟨b, o, none⟩) n c)) ∧ ∀ t, t < n → ∀ wx, Kept (fun k => k = go_ ∨ w0.heap.size ≤ k) w0 wx → wx.cell? ⟨b, o + t, none⟩ = some (.bool (rows[i].getD t false))
abbrev RmX (go_ gs : Nat) (k : Nat) : Prop := k = go_ ∨ k = gs
structure RmI (w0 w : World) (bb off : Nat) (rows : List (List Bool)) (n go_ gs : Nat) (m : Mg) : Prop where
  wt : RmO w0 go_ bb off n rows
  b0 : Kept (fun k => k = go_ ∨ w0.heap.size ≤ k) w0 w
  ok : MgOk rows.length n m
  bu : RN w go_ m.bu
  sn : RB w gs m.seen
  gs0 : w0.heap.size ≤ gs
theorem RmI.kept {w0 w w' : World} {bb off : Nat} {rows : List (List Bool)} {n go_ gs : Nat} {m m' : Mg} (h : RmI w0 w bb off rows n go_ gs m) (hk : Kept (RmX go_ gs) w w') (h1 : MgOk rows.length n m') (h2 : RN w' go_ m'.bu) (h3 : RB w' gs m'.seen) : RmI w0 w' bb off rows n go_ gs m' :=
  ⟨h.wt, h.b0.trans hk (fun k _ hk => by
    rcases hk with rfl | rfl
    · exact .inl rfl
    · exact .inr h.gs0), h1, h2, h3, h.gs0⟩
theorem RmI.see {w0 w : World} {bb off : Nat} {rows : List (List Bool)} {n go_ gs : Nat} {m : Mg} (h : RmI w0 w bb off rows n go_ gs m) (j : Nat) : RmI w0 (w.setCell ⟨gs, j, none⟩ (.bool true)) bb off rows n go_ gs { m with seen := m.seen.set j true } :=
  h.kept ((Kept.refl _ _).set (.inr rfl) _ _) (h.ok.see j) (h.bu.set_far _ _ (Cells.ne h.bu h.sn (by decide))) (h.sn.set j true)
theorem RmI.pair {w0 w : World} {bb off : Nat} {rows : List (List Bool)} {n go_ gs : Nat} {m : Mg} (h : RmI w0 w bb off rows n go_ gs m) {i : Nat} (hi : i < rows.length) (j : Nat) : RmI w0 (w.setCell ⟨go_, j, none⟩ (.int .i64 i)) bb off rows n go_ gs (m.pair i j) :=
  h.kept ((Kept.refl _ _).set (.inl rfl) _ _) (h.ok.pair hi j) (h.bu.set j (i : Int)) (h.sn.set_far _ _ (Cells.ne h.sn h.bu (by decide)))
def RmP (w0 w : World) (bb off : Nat) (rows : List (List Bool)) (n go_ gs : Nat) (r : Bool × Mg) (e : Ending) (w' : World) : Prop :=
  e = .returned (.bool r.1) ∧ RmI w0 w' bb off rows n go_ gs r.2 ∧ Kept (RmX go_ gs) w w'

set_option maxRecDepth 100000 in
set_option maxHeartbeats 8000000 in
theorem rmatch_calls : ∀ (f : Nat) {w0 w : World} {bb off cap : Nat} {rows : List (List Bool)} {n go_ gs : Nat} {m : Mg} {i : Nat} (_ : RmI w0 w bb off rows n go_ gs m) (_ : i < rows.length) (_ : m.left < f) (_ : rows.length ≤ 5000) (_ : n ≤ 5000),
    Calls Tryd.prog 73 #[.slice (some ⟨bb, off, none⟩) rows.length cap, .int .i64 i, .slice (some ⟨go_, 0, none⟩) n n, .slice (some ⟨gs, 0, none⟩) n n] w (RmP w0 w bb off rows n go_ gs (giveF (oW rows n) (noB n) f i m))
  | 0, _, _, _, _, _, _, _, _, _, _, _, _, _, hf, _, _ => absurd hf (by omega)
  | f + 1, w0, w, bb, off, cap, rows, n, go_, gs, m, i, hI, hi, hf, hwl, hn => by
    have IH := hid (fun (wx : World) (mx : Mg) (k : Nat) (h1 : RmI w0 wx bb off rows n go_ gs mx) (h2 : k < rows.length) (h3 : mx.left < f) => rmatch_calls f (cap := cap) h1 h2 h3 hwl hn)
    obtain ⟨R, hR⟩ : ∃ R : Ending → World → Prop, R = RmP w0 w bb off rows n go_ gs (giveF (oW rows n) (noB n) (f + 1) i m) := ⟨_, rfl⟩
    rw [← hR]
    obtain ⟨G, hG⟩ : ∃ G, G = giveF (oW rows n) (noB n) f := ⟨_, rfl⟩
    have FN := hid (show ∀ (b : Bool) (m' : Mg) w', giveL G (noB n) i ((List.range n).filter fun k => rows[i].getD k false) m = (b, m') → RmI w0 w' bb off rows n go_ gs m' → Kept (RmX go_ gs) w w' → R (.returned (.bool b)) w' from fun b m' w' h1 h2 h3 => by
      rw [hR]
      unfold RmP
      have e : giveF (oW rows n) (noB n) (f + 1) i m = (b, m') := by
        rw [giveF, oW_get hi, ← hG]
        exact h1
      rw [e]
      exact ⟨rfl, h2, h3⟩)
    have II := hid hI
    obtain ⟨bu, ou, cu, hcu, hcr⟩ := hI.wt i hi
    have CU := hid hcu
    have CR := hid hcr
    obtain ⟨row, hrw⟩ : ∃ row, row = rows[i] := ⟨_, rfl⟩
    rw [← hrw] at FN CR
    obtain ⟨nv, hnv⟩ : ∃ nv, nv = rows.length := ⟨_, rfl⟩
    rw [← hnv] at IH ⊢
    have HNV := hid hnv
    have gi : (i : Int) < (nv : Int) := by omega
    have gi0 : (0 : Int) ≤ (i : Int) := by omega
    have HI := hid hi
    have HF := hid hf
    have HG := hid hG
    clear hR hI hcr hrw hnv hwl hf hG hcu
    go_enter Tryd.func73, Tryd.ntmps73
    go_upto_region 2 with fail
    go_loopg [9] n (fun k s9 wr => ∃ (t : Nat) (m' : Mg), t + k = n ∧ s9 = .int .i64 t ∧ RmI w0 wr bb off rows n go_ gs m' ∧ m'.left ≤ m.left ∧ Kept (RmX go_ gs) w wr ∧ giveL G (noB n) i ((List.range n).filter fun k => row.getD k false) m = giveL G (noB n) i (((List.range n).drop t).filter fun k => row.getD k false) m')
    case atStart => exact ⟨0, m, by omega, rfl, II.out, Nat.le_refl _, Kept.refl _ _, rfl⟩
    case round =>
    obtain ⟨t, m', htk, rfl, hII, hle, hk, heq⟩ := hrel
    have HTK := hid htk
    have I2 := hid hII
    have LE := hid hle
    have K := hid hk
    have EQ := hid heq
    clear htk hII hle hk heq II
    by_cases htn : t < n
    · have cx := CR.out t htn wr I2.out.b0
      have cu0 := CU.out wr I2.out.b0
      rw [range_drop htn, List.filter_cons] at EQ
      have csn := I2.out.sn.cellD (i := t) (by rw [I2.out.ok.sn]; exact htn) false
      have fsn := I2.out.sn.froz t
      have gt : (t : Int) < (n : Int) := by omega
      have gt0 : (0 : Int) ≤ (t : Int) := by omega
      obtain ⟨y, hy⟩ : ∃ y, y = row.getD t false := ⟨_, rfl⟩
      rw [← hy] at cx EQ
      have SL := hid (show m'.seen.getD t false = false → ({ m' with seen := m'.seen.set t true } : Mg).left < m'.left from fun h => count_set_lt _ _ (by rw [I2.out.ok.sn]; exact htn) h)
      have BU := hid (show ¬ m'.bu.getD t (-1) < 0 → ∃ kb : Nat, m'.bu.getD t (-1) = (kb : Int) ∧ kb < rows.length from fun h => by
        have hlb : t < m'.bu.length := by rw [I2.out.ok.bu]; exact htn
        have e : m'.bu.getD t (-1) = m'.bu[t] := by simp [hlb]
        rw [e] at h ⊢
        have := I2.out.ok.rb _ (List.getElem_mem hlb)
        exact ⟨m'.bu[t].toNat, by omega, by omega⟩)
      clear hy
      cases y with
      | false =>
        have EQ2 := hid (show giveL G (noB n) i ((List.range n).filter fun k => row.getD k false) m = giveL G (noB n) i (((List.range n).drop (t + 1)).filter fun k => row.getD k false) m' by rw [EQ.out]; rfl)
        go_wp2
        go_roundg (n - (t + 1))
        · exact ⟨t + 1, m', by omega, by go_num, I2.out, LE.out, K.out, EQ2.out⟩
        · have := HTK.out; omega
      | true =>
        have GL := hid (show giveL G (noB n) i (t :: ((List.range n).drop (t + 1)).filter fun k => row.getD k false) m' = if m'.seen.getD t false = true ∨ (noB n).getD t false = true then giveL G (noB n) i (((List.range n).drop (t + 1)).filter fun k => row.getD k false) m' else if m'.bu.getD t (-1) < 0 then (true, ({ m' with seen := m'.seen.set t true } : Mg).pair i t) else if (G (m'.bu.getD t (-1)).toNat { m' with seen := m'.seen.set t true }).1 = true then (true, (G (m'.bu.getD t (-1)).toNat { m' with seen := m'.seen.set t true }).2.pair i t) else giveL G (noB n) i (((List.range n).drop (t + 1)).filter fun k => row.getD k false) (G (m'.bu.getD t (-1)).toNat { m' with seen := m'.seen.set t true }).2 by rw [giveL])
        rw [noB_get] at GL
        rw [if_pos rfl] at EQ
        obtain ⟨sb, hsb⟩ : ∃ sb, sb = m'.seen.getD t false := ⟨_, rfl⟩
        rw [← hsb] at csn GL SL
        clear hsb
        cases sb with
        | true =>
          rw [if_pos (.inl rfl)] at GL
          go_wp2
          go_roundg (n - (t + 1))
          · exact ⟨t + 1, m', by omega, by go_num, I2.out, LE.out, K.out, EQ.out.trans GL.out⟩
          · have := HTK.out; omega
        | false =>
          rw [if_neg (by simp)] at GL
          obtain ⟨w1, hw1⟩ : ∃ w1, w1 = wr.setCell ⟨gs, t, none⟩ (.bool true) := ⟨_, rfl⟩
          have I3 := hid (show RmI w0 w1 bb off rows n go_ gs { m' with seen := m'.seen.set t true } by rw [hw1]; exact I2.out.see t)
          have K3 := hid (show Kept (RmX go_ gs) w w1 by rw [hw1]; exact K.out.set (.inr rfl) _ _)
          have HW1 := hid hw1
          have SL1 := hid (SL.out rfl)
          obtain ⟨m1, hm1⟩ : ∃ m1 : Mg, m1 = { m' with seen := m'.seen.set t true } := ⟨_, rfl⟩
          rw [← hm1] at I3 GL SL1
          have hbu : m'.bu = m1.bu := by rw [hm1]
          rw [hbu] at GL BU
          clear hw1 SL hm1 hbu
          have kb := I3.out.bu.cellD (i := t) (by rw [I3.out.ok.bu]; exact htn) (-1)
          have fb := I3.out.bu.froz t
          obtain ⟨b, hb⟩ : ∃ b, b = m1.bu.getD t (-1) := ⟨_, rfl⟩
          rw [← hb] at kb GL BU
          clear hb
          go_upto_region 6 with fail
          rw [← HW1.out]
          by_cases hb0 : b < 0
          · rw [if_pos hb0] at GL
            have ST := hid (FN.out true _ (w1.setCell ⟨go_, t, none⟩ (.int .i64 i)) (EQ.out.trans GL.out) (I3.out.pair HI.out t) (K3.out.set (.inl rfl) _ _))
            clear BU
            go_wp2
            first | exact ST.out | (go_ret; exact ST.out)
          · obtain ⟨kk, rfl, hkk⟩ := BU.out hb0
            rw [if_neg hb0, Int.toNat_natCast] at GL
            have CL := hid (IH.out w1 m1 kk I3.out (by rw [HNV.out]; exact hkk) (by have := LE.out; have := HF.out; have := SL1.out; omega))
            have LF := hid (giveF_ok (bar := noB n) (oW_ok rows n) f kk m1 (by rw [oW_len]; exact hkk) (by rw [oW_len]; exact I3.out.ok)).2
            rw [← HG.out] at CL LF
            obtain ⟨r, hr⟩ : ∃ r, r = G kk m1 := ⟨_, rfl⟩
            rw [← hr] at CL GL LF
            obtain ⟨rb, m3⟩ := r
            clear BU hr
            go_wp2_with fail
            refine CL.out.mono ?_
            rintro e w2 ⟨rfl, hI4, hk4⟩
            have I4 := hid hI4
            have K4 := hid (K3.out.trans hk4 fun _ _ h => h)
            clear hI4 hk4 CL
            cases rb with
            | true =>
              rw [if_pos rfl] at GL
              have kb2 := I4.out.bu.cellD (i := t) (by rw [I4.out.ok.bu]; exact htn) 0
              have fb2 := I4.out.bu.froz t
              have ST := hid (FN.out true _ (w2.setCell ⟨go_, t, none⟩ (.int .i64 i)) (EQ.out.trans GL.out) (I4.out.pair HI.out t) (K4.out.set (.inl rfl) _ _))
              go_wp2
              first | exact ST.out | (go_ret; exact ST.out)
            | false =>
              rw [if_neg (by simp)] at GL
              go_wp2
              go_roundg (n - (t + 1))
              · exact ⟨t + 1, m3, by omega, by go_num, I4.out, by have := LE.out; have := LF.out; have := SL1.out; omega, K4.out, EQ.out.trans GL.out⟩
              · have := HTK.out; omega
    obtain rfl : t = n := by have := HTK.out; omega
    have g2 : decide ((t : Int) < (t : Int)) = false := by simp
    have F := hid (FN.out false m' wr (by
      have e := EQ.out
      rw [List.drop_of_length_le (by simp), List.filter_nil, giveL] at e
      exact e) I2.out K.out)
    clear FN
    go_wp2
    first | exact F.out | (go_ret; exact F.out)
end Go.Proofs.YtojednnciknhpaaDoor
namespace Go.Proofs.YtojednnciknhpaaDoor
set_option linter.unusedSimpArgs false
set_option linter.unusedVariables false
open Go.RowKit
/-- What is open at prices. -/
def openF (L : List (List Int)) (p : List Int) : List (List Bool) := L.map fun row => (List.range p.length).map fun (k : Nat) => contB row p (k : Int)
theorem openF_len (L : List (List Int)) (p : List Int) : (openF L p).length = L.length := by simp [openF]
theorem openF_row {L : List (List Int)} {p : List Int} : ∀ r ∈ openF L p, r.length = p.length := fun r hr => by
  obtain ⟨row, _, rfl⟩ := List.mem_map.1 hr
  simp
theorem oW_open {L : List (List Int)} {p : List Int} (ok : OkH L p.length) {i j : Nat} (hi : i < L.length) : j ∈ (oW (openF L p) p.length).getD i [] ↔ Dem L p i j := by
  rw [oW_get (by rw [openF_len]; exact hi), List.mem_filter, List.mem_range]
  have e : (openF L p)[i]'(by rw [openF_len]; exact hi) = (List.range p.length).map fun (k : Nat) => contB L[i] p (k : Int) := by simp [openF]
  have eL : L.getD i [] = L[i] := by simp [hi]
  have hl := ok.len _ (List.getElem_mem hi)
  rw [e]
  unfold Dem
  rw [mem_wants, eL]
  constructor
  · rintro ⟨h1, h2⟩
    have h3 : contB L[i] p (j : Int) = true := by simpa [h1] using h2
    unfold contB at h3
    rw [if_neg (by omega), decide_eq_true_iff] at h3
    exact ⟨by omega, h1, by simpa using h3⟩
  · rintro ⟨h1, h2, h3⟩
    refine ⟨h2, ?_⟩
    have h4 : contB L[i] p (j : Int) = true := by
      unfold contB
      rw [if_neg (by omega), decide_eq_true_iff]
      simpa using h3
    simpa [h2] using h4
/-- What Crowded answers. -/
def crwF (L : List (List Int)) (p : List Int) : Bool := !allF (oW (openF L p) p.length) (noB p.length) p.length (fun i => decide (gainF (L.getD i []) p = 0)) (List.range L.length) ⟨List.replicate L.length (-1), List.replicate p.length (-1), []⟩
theorem crwF_iff {L : List (List Int)} {p : List Int} (ok : OkH L p.length) : crwF L p = true ↔ ¬ FreeP L p := by
  unfold crwF
  have hl : (oW (openF L p) p.length).length = L.length := by rw [oW_len, openF_len]
  have := allF_iff (bar := noB p.length) (skip := fun i => decide (gainF (L.getD i []) p = 0)) (oW_ok (openF L p) p.length) (is := List.range L.length) List.nodup_range (fun i hi => by rw [hl]; simpa using hi) (sn := [])
  rw [hl] at this
  rw [Bool.not_eq_true', ← Bool.not_eq_true, this]
  have hP : ∀ x, (x ∈ List.range L.length ∧ decide (gainF (L.getD x []) p = 0) = false) ↔ Eager L p x := fun x => by
    unfold Eager
    have := gainF_nonneg (L.getD x []) p
    rw [decide_eq_false_iff_not, List.mem_range]
    constructor
    · rintro ⟨h1, h2⟩; exact ⟨h1, by omega⟩
    · rintro ⟨h1, h2⟩; exact ⟨h1, by omega⟩
  have hR : ∀ x j, Eager L p x → (WR (oW (openF L p) p.length) (noB p.length) x j ↔ Dem L p x j) := fun x j hx => by
    unfold WR
    rw [oW_open ok hx.1, noB_get]
    simp
  refine not_congr ⟨fun h => ?_, fun h => ?_⟩
  · exact h.congr (fun x hx => (hP x).2 hx) fun x j hx hr => (hR x j hx).1 hr
  · exact Sat.congr h (fun x hx => (hP x).1 hx) fun x j hx hr => (hR x j ((hP x).1 hx)).2 hr
/-- Both answer the same. -/
theorem crwF_crowd {L : List (List Int)} {p : List Int} (ok : OkH L p.length) : crwF L p = (crowdF L p).isSome := by
  rw [Bool.eq_iff_iff, crwF_iff ok]
  cases e : crowdF L p with
  | none => simp [(crowdF_none ok).1 e]
  | some x =>
    have : ¬ FreeP L p := fun h => by rw [(crowdF_none ok).2 h] at e; cases e
    simp [this]
end Go.Proofs.YtojednnciknhpaaDoor
namespace Go.Proofs.YtojednnciknhpaaDoor
set_option linter.unusedSimpArgs false
set_option linter.unusedVariables false
open Go.RowKit
attribute [local go_sem] Oper.semAt_some
attribute [local go_sem ↓] Go.wp_at_zero Go.wp_at_succ
theorem undBB : Tryd.prog.underlying 116 = some (.slice 117) := by kernel_rfl
theorem infoBB : (Tryd.prog.info? 117).map (fun i => (i.zero, i.size, i.bytes)) = some (some (.slice none 0 0), 1, 24) := by kernel_rfl
abbrev TabB (B : Nat) (w : World) (v : Value) (L : List (List Bool)) : Prop := OwnT encB 1 117 4 B w v L
/-- A finished table of what is open: it stays though a row of numbers and new blocks change. -/
theorem TabB.open_ {B : Nat} {w : World} {v : Value} {rows : List (List Bool)} (h : TabB B w v rows) {n go_ : Nat} (hn : ∀ r ∈ rows, r.length = n) (h0 : 1 ≤ rows.length) (hn1 : 1 ≤ n) {bs : List Int} (hg : RN w go_ bs) : ∃ bb cap, v = .slice (some ⟨bb, 0, none⟩) rows.length cap ∧ RmO w go_ bb 0 n rows := by
  obtain ⟨vs, a1, a2, a3⟩ := h
  obtain ⟨p, cap, b, hv, hp, hc⟩ := a1.cells encV_len
  obtain ⟨rfl, hb1, hbl⟩ := hp (by omega)
  have hne : b ≠ go_ := fun e => by
    subst e
    subst hv
    obtain ⟨_, cs, hcs⟩ := (show B ≤ b ∧ ∃ cs, Cells w b cs 117 by
      rcases a1.2 with ⟨h1, h2⟩ | ⟨g', c', cur, h1, h2, h3, _⟩
      · cases h1
      · injection h1 with e1 e2 e3
        injection e1 with e1
        injection e1 with e1
        subst e1
        exact ⟨h2, cur, h3⟩)
    exact (by decide : (117 : TypeId) ≠ 3) (cells_type hcs hg)
  refine ⟨b, cap, by rw [hv, a2], fun i hi => ?_⟩
  have hiv : i < vs.length := by omega
  have ho := a3 i hiv hi
  have hr := hn _ (List.getElem_mem hi)
  obtain ⟨p2, cap2, b2, hv2, hp2, hc2⟩ := ho.cells encB_len
  obtain ⟨rfl, hb2, hbl2⟩ := hp2 (by omega)
  have hne2 : b2 ≠ go_ := fun e => by
    subst e
    have : ∃ cs, Cells w b2 cs 4 := by
      rcases ho.2 with ⟨h1, h2⟩ | ⟨g', c', cur, h1, h2, h3, _⟩
      · rw [hv2] at h1; cases h1
      · rw [hv2] at h1
        injection h1 with e1 e2 e3
        injection e1 with e1
        injection e1 with e1
        subst e1
        exact ⟨cur, h3⟩
    obtain ⟨cs, hcs⟩ := this
    exact (by decide : (4 : TypeId) ≠ 3) (cells_type hcs hg)
  refine ⟨b2, 0, cap2, fun wx hk => ?_, fun t ht wx hk => ?_⟩
  · have := hc i hiv 0 (by omega)
    simp at this
    rw [hr] at hv2
    rw [Nat.zero_add, ← hv2, ← this]
    have := hk.block b hbl (by rintro (e | e) <;> omega)
    simp [World.cell?, World.cells?, this]
  · have htr : t < rows[i].length := by omega
    have h1 := hc2 t htr 0 (by omega)
    simp at h1
    have e : rows[i].getD t false = rows[i][t] := by simp [htr]
    rw [Nat.zero_add, e, ← h1]
    have := hk.block b2 hbl2 (by rintro (e | e) <;> omega)
    simp [World.cell?, World.cells?, this]
theorem allF_at {W : List (List Nat)} {n : Nat} {skip : Nat → Bool} {i nw : Nat} (h : i < nw) (m : Mg) : allF W (noB n) n skip ((List.range nw).drop i) m = if skip i = true then allF W (noB n) n skip ((List.range nw).drop (i + 1)) m else if (giveF W (noB n) (n + 1) i { m with seen := noB n }).1 = true then allF W (noB n) n skip ((List.range nw).drop (i + 1)) (giveF W (noB n) (n + 1) i { m with seen := noB n }).2 else false := by
  rw [range_drop h, allF_cons]
/-- The state of Crowded's last loop. -/
structure CwR (wE w : World) (bb : Nat) (rows : List (List Bool)) (n go_ : Nat) (m : Mg) : Prop where
  b0 : Kept (fun k => k = go_ ∨ wE.heap.size ≤ k) wE w
  ok : MgOk rows.length n { m with seen := noB n }
  bu : RN w go_ m.bu
theorem CwR.give {wE w : World} {bb : Nat} {rows : List (List Bool)} {n go_ : Nat} {m : Mg} (h : CwR wE w bb rows n go_ m) (hO : RmO wE go_ bb 0 n rows) {w1 : World} {gs : Nat} (hb : Below w.heap.size w w1) (hs : RB w1 gs (noB n)) (hg : w.heap.size ≤ gs) : RmI wE w1 bb 0 rows n go_ gs { m with seen := noB n } :=
  ⟨hO, h.b0.trans (Kept.of_below (X := fun _ => False) hb) (fun _ _ q => q.elim), h.ok, h.bu.below' hb, hs, Nat.le_trans h.b0.size hg⟩
theorem CwR.of {wE w : World} {bb : Nat} {rows : List (List Bool)} {n go_ gs : Nat} {m : Mg} (h : RmI wE w bb 0 rows n go_ gs m) : CwR wE w bb rows n go_ m := ⟨h.b0, h.ok.fresh, h.bu⟩
theorem CwR.drewN {wE w : World} {bb : Nat} {rows : List (List Bool)} {n go_ : Nat} {m : Mg} (h : CwR wE w bb rows n go_ m) (k : Nat) : CwR wE (w.drewN k) bb rows n go_ m := ⟨h.b0.drewN k, h.ok, h.bu.drewN k⟩

set_option maxRecDepth 100000 in
set_option maxHeartbeats 16000000 in
theorem rcrowded_calls {w : World} {v vp : Value} {L : List (List Int)} {p : List Int} (hv : NestE encI 1 w v L) (hp : ReadsE encI 1 w vp p) (ok : OkH L p.length) (okp : okW p) (h1 : 1 ≤ L.length) (h2 : 1 ≤ p.length) :
    Calls Tryd.prog 30 #[v, vp] w fun e w' => e = .returned (.bool (crwF L p)) ∧ Below w.heap.size w w' := by
  obtain ⟨R, hR⟩ : ∃ R : Ending → World → Prop, R = fun e w' => e = .returned (.bool (crwF L p)) ∧ Below w.heap.size w w' := ⟨_, rfl⟩
  rw [← hR]
  have FN := hid (show ∀ b w', b = crwF L p → Below w.heap.size w w' → R (.returned (.bool b)) w' from fun b w' e h => by rw [hR, e]; exact ⟨rfl, h⟩)
  clear hR
  have CC := hid (fun (wx : World) (hbx : Below w.heap.size w wx) (b : Nat) (hb : b < L.length) (x : Int) (hx : x < (p.length : Int)) => rcontent_calls (hv.below hbx) (hp.below hbx) ok okp hb x hx)
  have np64' := ok.cols
  have nw64' := ok.rows
  obtain ⟨vs, ⟨_, pv, capv, _, _, hvv, _, _⟩, hvl, _⟩ := hv
  obtain ⟨hpm, pp, cp, bp, offp, hvp, _, _⟩ := hp
  obtain ⟨nw, hnw⟩ : ∃ nw, nw = L.length := ⟨_, rfl⟩
  obtain ⟨n, hn⟩ : ∃ n, n = p.length := ⟨_, rfl⟩
  rw [hvl, ← hnw] at hvv
  rw [← hn] at hvp
  subst hvv hvp
  have HN := hid hn
  have HNW := hid hnw
  rw [← hn] at h2 np64'
  rw [← hnw] at h1 nw64'
  unfold crwF at FN
  obtain ⟨rows, hrows⟩ : ∃ rows, rows = openF L p := ⟨_, rfl⟩
  rw [← hrows, ← hn, ← hnw] at FN
  have HR := hid hrows
  have HRL := hid (show rows.length = nw by rw [hrows, openF_len, hnw])
  have mkN := mk_N w n (by omega)
  have mkB := fun wx => mk_B wx n (by omega)
  obtain ⟨w1, hw1⟩ : ∃ w1, w1 = w.alloc (.cells (madeCells #[.int .i64 0] n) 3) := ⟨_, rfl⟩
  have B1 := hid (show Below w.heap.size w w1 by rw [hw1]; exact (Below.refl _ _).alloc (Nat.le_refl _) _)
  have G1 := hid (show RN w1 w.heap.size (List.replicate n 0) by rw [hw1]; exact RowX.made w n (0 : Int) _ rfl)
  have HW1 := hid hw1
  rw [← hw1] at mkN
  clear hpm hvl hrows hn hnw hw1 ok okp
  go_enter Tryd.func30, Tryd.ntmps30
  go_upto_block 0 with fail
  go_cut [7] (fun s7 wx => RN wx w.heap.size (List.replicate n (-1)) ∧ Below w.heap.size w wx)
  case first =>
    go_upto_region 4 with fail
    go_loopg [7] n (fun k s7 wx => ∃ i : Nat, i + k = n ∧ s7 = .int .i64 i ∧ RN wx w.heap.size (List.replicate i (-1) ++ List.replicate (n - i) 0) ∧ Below w.heap.size w wx)
    case atStart => exact ⟨0, by omega, rfl, by simpa using G1.out, B1.out⟩
    case round =>
    obtain ⟨i, hik, rfl, hg, hb⟩ := hrel
    have HIK := hid hik
    have G := hid hg
    have B := hid hb
    clear hik hg hb
    by_cases hin : i < n
    · have ll : (List.replicate i (-1 : Int) ++ List.replicate (n - i) 0).length = n := by simp; omega
      have cx := G.out.cellD (i := i) (by rw [ll]; exact hin) 0
      have fx := G.out.froz i
      have gi : (i : Int) < (n : Int) := by omega
      have gi0 : (0 : Int) ≤ (i : Int) := by omega
      have G2 := hid (show RN (wr.setCell ⟨w.heap.size, i, none⟩ (.int .i64 (-1))) w.heap.size (List.replicate (i + 1) (-1) ++ List.replicate (n - (i + 1)) 0) by
        have := G.out.set i (-1)
        have e : (List.replicate i (-1 : Int) ++ List.replicate (n - i) 0).set i (-1) = List.replicate (i + 1) (-1) ++ List.replicate (n - (i + 1)) 0 := by
          rw [show n - i = (n - (i + 1)) + 1 by omega, List.replicate_succ, List.set_append_right _ _ (by simp), List.length_replicate, Nat.sub_self, List.set_cons_zero, List.replicate_succ']
          simp
        rw [e] at this
        exact this)
      have B2 := hid (B.out.trans (Kept.below ((Kept.refl (fun k => k = w.heap.size) wr).set (C := w.heap.size) rfl i (.int .i64 (-1))) B.out.size (fun k hk => by rw [hk]; exact Nat.le_refl _)))
      clear ll
      go_wp2
      go_roundg (n - (i + 1))
      · exact ⟨i + 1, by omega, by go_num, G2.out, B2.out⟩
      · have := HIK.out; omega
    · obtain rfl : i = n := by have := HIK.out; omega
      have g2 : decide ((i : Int) < (i : Int)) = false := by simp
      have F := G.out
      rw [Nat.sub_self] at F
      have F2 := hid (show RN wr w.heap.size (List.replicate i (-1)) by simpa using F)
      clear F
      go_wp2
      go_meet
      exact ⟨F2.out, B.out⟩
  case rest =>
  obtain ⟨hg, hb⟩ := hcut
  obtain ⟨wA, hwA⟩ : ∃ wA, wA = wc := ⟨_, rfl⟩
  rw [← hwA] at hg hb ⊢
  have G := hid hg
  have B := hid hb
  clear hwA hg hb G1 B1
  go_upto_block 2 with fail
  go_cut [5, 8] (fun s5 s8 wx => ∃ b5, b5 = s5 ∧ TabB w.heap.size wx b5 rows ∧ RN wx w.heap.size (List.replicate n (-1)) ∧ Below w.heap.size w wx)
  case first =>
    go_upto_region 8 with fail
    go_loopg [5, 8] nw (fun k s5 s8 wx => ∃ (i : Nat) (b5 : Value), i + k = nw ∧ s8 = .int .i64 i ∧ b5 = s5 ∧ TabB w.heap.size wx b5 (rows.take i) ∧ RN wx w.heap.size (List.replicate n (-1)) ∧ Below w.heap.size w wx)
    case atStart => exact ⟨0, _, by omega, rfl, rfl, OwnT.nil _ _, G.out, B.out⟩
    case round =>
    obtain ⟨i, b5, hik, rfl, rfl, ht, hg, hb⟩ := hrel
    have HIK := hid hik
    have T := hid ht
    have G2 := hid hg
    have B2 := hid hb
    obtain ⟨p5, c5, hv5⟩ := ht.form
    rw [show (rows.take i).length = i by rw [List.length_take, HRL.out]; omega] at hv5
    subst hv5
    clear hik ht hg hb G B
    by_cases hin : i < nw
    · have hil : i < L.length := by rw [← HNW.out]; exact hin
      have hir : i < rows.length := by rw [HRL.out]; exact hin
      have gi : (i : Int) < (nw : Int) := by omega
      have gi0 : (0 : Int) ≤ (i : Int) := by omega
      have RE := hid (show rows[i] = (List.range n).map fun (k : Nat) => contB L[i] p (k : Int) by
        have e : rows[i] = (openF L p)[i]'(by rw [← HR.out]; exact hir) := by congr 1 <;> exact HR.out
        rw [e]
        simp [openF, ← HN.out])
      obtain ⟨row, hrow⟩ : ∃ row, row = (List.range n).map fun (k : Nat) => contB L[i] p (k : Int) := ⟨_, rfl⟩
      rw [← hrow] at RE
      have RWL := hid (show row.length = n by rw [hrow]; simp)
      have RWG := hid (show ∀ q, q < n → row.getD q false = contB L[i] p (q : Int) from fun q hq => by rw [hrow]; simp [hq])
      obtain ⟨wB, hwB⟩ : ∃ wB, wB = wr.alloc (.cells (madeCells #[.bool false] n) 4) := ⟨_, rfl⟩
      have BB := hid (show Below wr.heap.size wr wB by rw [hwB]; exact (Below.refl _ _).alloc (Nat.le_refl _) _)
      have RBB := hid (show RB wB wr.heap.size (List.replicate n false) by rw [hwB]; exact RowX.made wr n false _ rfl)
      have HWB := hid hwB
      obtain ⟨wZ, hwZ⟩ : ∃ wZ, wZ = wr := ⟨_, rfl⟩
      rw [← hwZ] at T G2 B2 BB RBB HWB ⊢
      have hwsz := B2.out.size
      clear hwB hrow hwZ
      go_upto_region 12 with fail
      rw [← HWB.out]
      go_loopg [10] n (fun k s10 wx => ∃ q : Nat, q + k = n ∧ s10 = .int .i64 q ∧ RB wx wZ.heap.size (row.take q ++ List.replicate (n - q) false) ∧ Below wZ.heap.size wZ wx)
      case atStart => exact ⟨0, by omega, rfl, by simpa using RBB.out, BB.out⟩
      case round =>
      obtain ⟨q, hqk, rfl, hr, hbq⟩ := hrel
      have HQK := hid hqk
      have RQ := hid hr
      have BQ := hid hbq
      clear hqk hr hbq
      by_cases hqn : q < n
      · have C1 := hid (CC.out wr (B2.out.trans (BQ.out.mono hwsz)) i hil (q : Int) (by rw [← HN.out]; omega))
        rw [← RWG.out q hqn] at C1
        obtain ⟨y, hy⟩ : ∃ y, y = row.getD q false := ⟨_, rfl⟩
        rw [← hy] at C1
        have SE := hid (show (row.take q ++ List.replicate (n - q) false).set q y = row.take (q + 1) ++ List.replicate (n - (q + 1)) false by
          have hl : q < row.length := by rw [RWL.out]; exact hqn
          have e1 : (row.take q).length = q := by rw [List.length_take]; omega
          rw [show n - q = (n - (q + 1)) + 1 by omega, List.replicate_succ, List.set_append_right _ _ (by omega), e1, Nat.sub_self, List.set_cons_zero, take_snoc hl]
          have : row[q] = y := by rw [hy]; simp [hl]
          rw [this]
          simp)
        have ll : (row.take q ++ List.replicate (n - q) false).length = n := by simp [RWL.out]; omega
        have gq : (q : Int) < (n : Int) := by omega
        have gq0 : (0 : Int) ≤ (q : Int) := by omega
        clear hy
        go_wp2_with fail
        refine C1.out.mono ?_
        rintro e w8 ⟨rfl, md, hw8⟩
        have RQ8 := hid (show RB w8 wZ.heap.size (row.take q ++ List.replicate (n - q) false) by rw [hw8]; exact RQ.out.drewN md)
        have BQ8 := hid (show Below wZ.heap.size wZ w8 by rw [hw8]; exact drewN_below BQ.out md)
        have cx := RQ8.out.cellD (i := q) (by rw [ll]; exact hqn) false
        have fx := RQ8.out.froz q
        have RQ9 := hid (show RB (w8.setCell ⟨wZ.heap.size, q, none⟩ (.bool y)) wZ.heap.size (row.take (q + 1) ++ List.replicate (n - (q + 1)) false) by rw [← SE.out]; exact RQ8.out.set q y)
        have BQ9 := hid (BQ8.out.trans (Kept.below ((Kept.refl (fun k => k = wZ.heap.size) w8).set (C := wZ.heap.size) rfl q (.bool y)) BQ8.out.size (fun k hk => by rw [hk]; exact Nat.le_refl _)))
        clear hw8 C1 ll
        go_wp2
        go_roundg (n - (q + 1))
        · exact ⟨q + 1, by omega, by go_num, RQ9.out, BQ9.out⟩
        · have := HQK.out; omega
      obtain rfl : q = n := by have := HQK.out; omega
      have g2 : decide ((q : Int) < (q : Int)) = false := by simp
      have RF := hid (show RB wr wZ.heap.size row by
        have := RQ.out
        rw [Nat.sub_self, List.take_of_length_le (by rw [RWL.out]; exact Nat.le_refl _)] at this
        simpa using this)
      have RO := hid (show OwnE encB 1 4 w.heap.size wr (.slice (some ⟨wZ.heap.size, 0, none⟩) q q) row by
        have := RF.out.own (B := w.heap.size) hwsz (by rw [RWL.out]; unfold maxLen; omega)
        rw [RWL.out] at this
        exact this)
      obtain ⟨v9, w9, r1, r2, r3, r4⟩ := OwnT.app' (t := 116) (ty := 116) (by decide) undBB infoBB (by omega) (T.out.below BQ.out) (Nat.le_trans hwsz BQ.out.size) RO.out (by rw [List.length_take, HRL.out]; omega)
      have R1 := hid r1
      have R2 := hid (show TabB w.heap.size w9 v9 (rows.take (i + 1)) by rw [take_snoc hir, RE.out]; exact r2)
      have R3 := hid ((B2.out.trans (BQ.out.mono hwsz)).trans r3)
      have R4 := hid (show RN w9 w.heap.size (List.replicate q (-1)) from r4 _ _ _ (G2.out.below' BQ.out) (by decide))
      clear r1 r2 r3 r4
      go_wp2_with (at_builtin; refine wpList_append_run rfl (.tmp 47) (.tmp 49) 116 rfl _ _ v9 w9 rfl rfl R1.out ?_)
      go_roundg (nw - (i + 1))
      · exact ⟨i + 1, _, by omega, by go_num, rfl, R2.out, R4.out, R3.out⟩
      · have := HIK.out; omega
    · obtain rfl : i = nw := by have := HIK.out; omega
      have g2 : decide ((i : Int) < (i : Int)) = false := by simp
      have TF := T.out
      rw [List.take_of_length_le (by rw [HRL.out]; exact Nat.le_refl _)] at TF
      have F := hid (show ∃ b5, b5 = Value.slice p5 i c5 ∧ TabB w.heap.size wr b5 rows ∧ RN wr w.heap.size (List.replicate n (-1)) ∧ Below w.heap.size w wr from ⟨_, rfl, TF, G2.out, B2.out⟩)
      clear TF
      go_wp2
      go_meet
      exact F.out
  case rest =>
  obtain ⟨b5, rfl, ht, hg, hb⟩ := hcut
  obtain ⟨wE, hwE⟩ : ∃ wE, wE = wc := ⟨_, rfl⟩
  rw [← hwE] at ht hg hb ⊢
  obtain ⟨bb, c5, hv5, hO⟩ := TabB.open_ ht (n := n) (fun r hr => by rw [HR.out] at hr; rw [HN.out]; exact openF_row r hr) (by rw [HRL.out]; exact h1) h2 hg
  rw [HRL.out] at hv5
  subst hv5
  have OO := hid hO
  have B := hid hb
  have S0 := hid (show CwR wE wE bb rows n w.heap.size ⟨List.replicate nw (-1), List.replicate n (-1), []⟩ from ⟨Kept.refl _ _, ⟨by simp [HRL.out], by simp, by simp [noB], fun x hx => by rw [(List.mem_replicate.1 hx).2]; omega⟩, hg⟩)
  obtain ⟨W, hW⟩ : ∃ W, W = oW rows n := ⟨_, rfl⟩
  obtain ⟨skip, hskip⟩ : ∃ skip : Nat → Bool, skip = fun i => decide (gainF (L.getD i []) p = 0) := ⟨_, rfl⟩
  rw [← hW, ← hskip] at FN
  obtain ⟨RES, hRES⟩ : ∃ RES, RES = allF W (noB n) n skip (List.range nw) ⟨List.replicate nw (-1), List.replicate n (-1), []⟩ := ⟨_, rfl⟩
  rw [← hRES] at FN
  have HRES := hid hRES
  have HW := hid hW
  have HSK := hid hskip
  have hws := B.out.size
  clear hwE ht hg hb hO hW hskip hRES
  go_upto_region 17 with fail
  go_loopg [11] nw (fun k s11 wx => ∃ (i : Nat) (m : Mg), i + k = nw ∧ s11 = .int .i64 i ∧ CwR wE wx bb rows n w.heap.size m ∧ RES = allF W (noB n) n skip ((List.range nw).drop i) m)
  case atStart => exact ⟨0, _, by omega, rfl, S0.out, HRES.out⟩
  case round =>
  obtain ⟨i, m, hik, rfl, hs, heq⟩ := hrel
  have HIK := hid hik
  have S := hid hs
  have EQ := hid heq
  have BW := hid (show Below w.heap.size w wr from B.out.trans (hs.b0.below hws (fun k hk => by rcases hk with rfl | hk <;> omega)))
  clear hik hs heq S0
  by_cases hin : i < nw
  · have hil : i < L.length := by rw [← HNW.out]; exact hin
    have gi : (i : Int) < (nw : Int) := by omega
    have gi0 : (0 : Int) ≤ (i : Int) := by omega
    have C1 := hid (CC.out wr BW.out i hil (-1) (by omega))
    have eL : L.getD i [] = L[i] := by simp [hil]
    have ec : contB L[i] p (-1) = skip i := by rw [HSK.out]; unfold contB; simp [hil]
    rw [ec] at C1
    rw [allF_at hin] at EQ
    obtain ⟨sk, hsk⟩ : ∃ sk, sk = skip i := ⟨_, rfl⟩
    rw [← hsk] at C1 EQ
    clear eL ec hsk
    go_wp2_with fail
    refine C1.out.mono ?_
    rintro e w8 ⟨rfl, md, hw8⟩
    have S8 := hid (show CwR wE w8 bb rows n w.heap.size m by rw [hw8]; exact S.out.drewN md)
    have BW8 := hid (show Below w.heap.size w w8 by rw [hw8]; exact drewN_below BW.out md)
    clear hw8 C1
    cases sk with
    | true =>
      rw [if_pos rfl] at EQ
      go_wp2
      go_roundg (nw - (i + 1))
      · exact ⟨i + 1, m, by omega, by go_num, S8.out, EQ.out⟩
      · have := HIK.out; omega
    | false =>
      rw [if_neg (by simp)] at EQ
      obtain ⟨w9, hw9⟩ : ∃ w9, w9 = w8.alloc (.cells (madeCells #[.bool false] n) 4) := ⟨_, rfl⟩
      have I9 := hid (show RmI wE w9 bb 0 rows n w.heap.size w8.heap.size { m with seen := noB n } by
        rw [hw9]
        exact S8.out.give OO.out ((Below.refl _ _).alloc (Nat.le_refl _) _) (RowX.made w8 n false _ rfl) (Nat.le_refl _))
      have HW9 := hid hw9
      have MC := hid (rmatch_calls (n + 1) (cap := c5) I9.out (by rw [HRL.out]; exact hin) (by rw [left_fresh]; omega) (by rw [HRL.out]; omega) (by omega))
      rw [HRL.out] at MC
      obtain ⟨r, hr⟩ : ∃ r, r = giveF (oW rows n) (noB n) (n + 1) i { m with seen := noB n } := ⟨_, rfl⟩
      rw [HW.out, ← hr, ← HW.out] at EQ
      rw [← hr] at MC
      obtain ⟨rb, m3⟩ := r
      clear hw9 hr
      go_wp2_with fail
      rw [← HW9.out]
      refine MC.out.mono ?_
      rintro e wX ⟨rfl, hI, hK⟩
      have SX := hid (CwR.of hI)
      have BX := hid (show Below w.heap.size w wX from B.out.trans (hI.b0.below hws (fun k hk => by rcases hk with rfl | hk <;> omega)))
      clear hI hK MC
      cases rb with
      | true =>
        rw [if_pos rfl] at EQ
        go_wp2
        go_roundg (nw - (i + 1))
        · exact ⟨i + 1, m3, by omega, by go_num, SX.out, EQ.out⟩
        · have := HIK.out; omega
      | false =>
        rw [if_neg (by simp)] at EQ
        have F := hid (FN.out true wX (by rw [EQ.out]; rfl) BX.out)
        clear FN
        go_wp2
        first | exact F.out | (go_ret; exact F.out)
  obtain rfl : i = nw := by have := HIK.out; omega
  have g2 : decide ((i : Int) < (i : Int)) = false := by simp
  have F := hid (FN.out false wr (by
    have e := EQ.out
    rw [List.drop_of_length_le (by simp), allF] at e
    rw [e]; rfl) BW.out)
  clear FN
  go_wp2
  first | exact F.out | (go_ret; exact F.out)
end Go.Proofs.YtojednnciknhpaaDoor
namespace Go.Proofs.YtojednnciknhpaaDoor
set_option linter.unusedSimpArgs false
set_option linter.unusedVariables false
open Go.RowKit
attribute [local go_sem] Oper.semAt_some
attribute [local go_sem ↓] Go.wp_at_zero Go.wp_at_succ

set_option maxRecDepth 100000 in
set_option maxHeartbeats 16000000 in
theorem rcrowd_calls {w : World} {v vp vb vl : Value} {L : List (List Int)} {p b : List Int} {l : List Nat} (hv : NestE encI 1 w v L) (hp : ReadsE encI 1 w vp p) (ok : OkH L p.length) (okp : okW p) (hc : CrowdH L p b l) (hb : ReadsE encI 1 w vb b) (hl : ReadsE encI 1 w vl (zl l)) (hl64 : l.length ≤ 64) :
    Calls Tryd.prog 31 #[v, vp, vb, vl] w fun e w' => e = .returned (.bool true) ∧ Below w.heap.size w w' := by
  obtain ⟨R, hR⟩ : ∃ R : Ending → World → Prop, R = fun e w' => e = .returned (.bool true) ∧ Below w.heap.size w w' := ⟨_, rfl⟩
  rw [← hR]
  have FN := hid (show ∀ w', Below w.heap.size w w' → R (.returned (.bool true)) w' from fun w' h => by rw [hR]; exact ⟨rfl, h⟩)
  clear hR
  have CC := hid (fun (wx : World) (hbx : Below w.heap.size w wx) (x : Nat) (hx : x < L.length) => rcontent_calls (hv.below hbx) (hp.below hbx) ok okp hx (-1) (by omega))
  have WC := hid (fun (wx : World) (hbx : Below w.heap.size w wx) (x : Nat) (hx : x < L.length) => rwanted_calls (hv.below hbx) (hp.below hbx) ok okp hx)
  have HCR := hid hc
  have np64' := ok.cols
  have nw64' := ok.rows
  have OK := hid ok
  obtain ⟨vs, ⟨_, pv, capv, _, _, hvv, _, _⟩, hvl, _⟩ := hv
  obtain ⟨hpm, pp, cp, bp, offp, hvp, _, _⟩ := hp
  obtain ⟨pb, cb, hvb, hbc⟩ := reads_at hb
  obtain ⟨pl, cl, hvl2, hlc⟩ := reads_at hl
  rw [zl_len] at hvl2
  obtain ⟨nw, hnw⟩ : ∃ nw, nw = L.length := ⟨_, rfl⟩
  obtain ⟨n, hn⟩ : ∃ n, n = p.length := ⟨_, rfl⟩
  obtain ⟨nb, hnb⟩ : ∃ nb, nb = b.length := ⟨_, rfl⟩
  obtain ⟨nl, hnl⟩ : ∃ nl, nl = l.length := ⟨_, rfl⟩
  rw [hvl, ← hnw] at hvv
  rw [← hn] at hvp
  rw [← hnb] at hvb
  rw [← hnl] at hvl2
  subst hvv hvp hvb hvl2
  have HN := hid hn
  have HNW := hid hnw
  have HNB := hid hnb
  have HNL := hid hnl
  have HBC := hid hbc
  have HLC := hid hlc
  rw [← hn] at np64'
  rw [← hnw] at nw64'
  rw [← hnl] at hl64
  have mkB := mk_B w n (by omega)
  obtain ⟨w1, hw1⟩ : ∃ w1, w1 = w.alloc (.cells (madeCells #[.bool false] n) 4) := ⟨_, rfl⟩
  have B1 := hid (show Below w.heap.size w w1 by rw [hw1]; exact (Below.refl _ _).alloc (Nat.le_refl _) _)
  have T1 := hid (show RB w1 w.heap.size (noB n) by rw [hw1]; exact RowX.made w n false _ rfl)
  have HW1 := hid hw1
  rw [← hw1] at mkB
  have HLEN := hid (show nb = nl + 1 by rw [hnb, hnl]; exact hc.len)
  clear hpm hvl hw1 ok okp hc hb hl hbc hlc hnw hn hnb hnl
  go_enter Tryd.func31, Tryd.ntmps31
  go_upto_block 0 with fail
  go_cut [10] (fun s10 wx => ∃ t : List Bool, RB wx w.heap.size t ∧ t.length = n ∧ (∀ j ∈ l, t.getD j false = true) ∧ Below w.heap.size w wx)
  case first =>
    go_upto_region 3 with fail
    go_loopg [10] nl (fun k s10 wx => ∃ (i : Nat) (t : List Bool), i + k = nl ∧ s10 = .int .i64 i ∧ RB wx w.heap.size t ∧ t.length = n ∧ (∀ j ∈ l.take i, t.getD j false = true) ∧ Below w.heap.size w wx)
    case atStart => exact ⟨0, noB n, by omega, rfl, T1.out, noB_size n, fun j hj => by simp at hj, B1.out⟩
    case round =>
    obtain ⟨i, t, hik, rfl, hrt, htl, hin_, hbx⟩ := hrel
    have HIK := hid hik
    have RT := hid hrt
    have HTL := hid htl
    have IN := hid hin_
    have B := hid hbx
    clear hik hrt htl hin_ hbx
    by_cases hil : i < nl
    · have hiL : i < l.length := by rw [← HNL.out]; exact hil
      have hiZ : i < (zl l).length := by rw [zl_len]; exact hiL
      obtain ⟨bl, ol, rfl, hcx⟩ := HLC.out i hiZ
      have cx := hcx wr B.out
      rw [zl_get hiZ] at cx
      have hjn := HCR.out.rl _ (List.getElem_mem hiL)
      rw [← HN.out] at hjn
      obtain ⟨j, hj⟩ : ∃ j, j = l[i] := ⟨_, rfl⟩
      rw [← hj] at cx hjn
      have HJ := hid hj
      have ct := RT.out.cellD (i := j) (by rw [HTL.out]; exact hjn) false
      have ft := RT.out.froz j
      have gi : (i : Int) < (nl : Int) := by omega
      have gi0 : (0 : Int) ≤ (i : Int) := by omega
      have gj : (j : Int) < (n : Int) := by omega
      have gj0 : (0 : Int) ≤ (j : Int) := by omega
      have RT2 := hid (RT.out.set j true)
      have IN2 := hid (show ∀ x ∈ l.take (i + 1), (t.set j true).getD x false = true from fun x hx => by
        by_cases e : x = j
        · subst e; exact getD_set_eq (by rw [HTL.out]; exact hjn)
        · rw [getD_set_other e]
          rw [take_snoc hiL] at hx
          rcases List.mem_append.1 hx with hx | hx
          · exact IN.out x hx
          · exact absurd (by rw [List.mem_singleton.1 hx, HJ.out]) e)
      have B2 := hid (B.out.trans (Kept.below ((Kept.refl (fun k => k = w.heap.size) wr).set (C := w.heap.size) rfl j (.bool true)) B.out.size (fun k hk => by rw [hk]; exact Nat.le_refl _)))
      have gl1 : decide ((j : Int) < 0) = false := by simp
      have gl2 : decide (n ≤ j) = false := by simp; omega
      rcases Nat.eq_zero_or_pos i with h0 | h0
      · have gz : decide (0 < i) = false := by simp; omega
        clear hcx hj h0
        go_upto_region 5 with fail
        go_quiet (fail)
        go_wp2
        go_roundg (nl - (i + 1))
        · exact ⟨i + 1, _, by omega, by go_num, (RT2.out.drewN nq), by rw [List.length_set]; exact HTL.out, IN2.out, drewN_below B2.out nq⟩
        · have := HIK.out; omega
      · have gz : decide (0 < i) = true := by simp; omega
        have hi1 : i - 1 < l.length := by omega
        obtain ⟨bl', ol', e3, hcy⟩ := HLC.out (i - 1) (by rw [zl_len]; exact hi1)
        injection e3 with e3
        injection e3 with e3 e4
        subst e3 e4
        have cy := hcy wr B.out
        rw [zl_get (by rw [zl_len]; exact hi1)] at cy
        have hlt : l[i - 1] < l[i] := List.pairwise_iff_getElem.1 HCR.out.ll (i - 1) i hi1 hiL (by omega)
        rw [← HJ.out] at hlt
        obtain ⟨j', hj'⟩ : ∃ j', j' = l[i - 1] := ⟨_, rfl⟩
        rw [← hj'] at cy hlt
        have ew : IntKind.i64.wrap ((i : Int) - 1) = ((i - 1 : Nat) : Int) := by rw [IntWalk.i64_in _ (by omega)]; omega
        have gm0 : (0 : Int) ≤ ((i - 1 : Nat) : Int) := by omega
        have gm : ((i - 1 : Nat) : Int) < (nl : Int) := by omega
        have gg : decide (j ≤ j') = false := by simp; omega
        clear hcx hj hcy hj' hlt
        go_upto_region 5 with fail
        go_quiet (fail)
        go_wp2
        go_roundg (nl - (i + 1))
        · exact ⟨i + 1, _, by omega, by go_num, (RT2.out.drewN nq), by rw [List.length_set]; exact HTL.out, IN2.out, drewN_below B2.out nq⟩
        · have := HIK.out; omega
    · obtain rfl : i = nl := by have := HIK.out; omega
      have g2 : decide ((i : Int) < (i : Int)) = false := by simp
      go_wp2
      go_meet
      exact ⟨t, RT.out, HTL.out, fun j hj => IN.out j (by rw [List.take_of_length_le (by rw [HNL.out]; exact Nat.le_refl _)]; exact hj), B.out⟩
  case rest =>
  obtain ⟨t, hrt, htl, hin_, hbx⟩ := hcut
  obtain ⟨wA, hwA⟩ : ∃ wA, wA = wc := ⟨_, rfl⟩
  rw [← hwA] at hrt hbx ⊢
  have RT := hid hrt
  have HTL := hid htl
  have IN := hid hin_
  have B := hid hbx
  clear hwA hrt htl hin_ hbx T1 B1
  go_upto_region 9 with fail
  go_loopg [11] nb (fun k s11 wx => ∃ i : Nat, i + k = nb ∧ s11 = .int .i64 i ∧ Below wA.heap.size wA wx)
  case atStart => exact ⟨0, by omega, rfl, Below.refl _ _⟩
  case round =>
  obtain ⟨i, hik, rfl, hbx⟩ := hrel
  have HIK := hid hik
  have BX := hid hbx
  have BW := hid (B.out.trans (hbx.mono B.out.size))
  have nb65 : nb ≤ 65 := by have := HLEN.out; omega
  clear hik hbx
  by_cases hib : i < nb
  · have hiB : i < b.length := by rw [← HNB.out]; exact hib
    obtain ⟨bl, ol, rfl, hcx⟩ := HBC.out i hiB
    have cx := hcx wr BW.out
    obtain ⟨x, hx1, hx2, hx3⟩ := HCR.out.mem _ (List.getElem_mem hiB)
    rw [hx1] at cx
    have hxl : x < L.length := hx2.1
    have HW3 := hid hx3
    have C1 := hid (CC.out wr BW.out x hxl)
    have eL : L.getD x [] = L[x] := by simp [hxl]
    have ec : contB L[x] p (-1) = false := by
      have := hx2.2
      rw [eL] at this
      unfold contB
      rw [if_pos (by omega), decide_eq_false_iff_not]
      omega
    rw [ec] at C1
    have gx : (x : Int) < (nw : Int) := by rw [HNW.out]; omega
    have gx0 : (0 : Int) ≤ (x : Int) := by omega
    have gx1 : decide ((x : Int) < 0) = false := by simp
    have gx2 : decide (nw ≤ x) = false := by simp; omega
    have gx3 : decide ((nw : Int) ≤ (x : Int)) = false := by simp; omega
    have gi : (i : Int) < (nb : Int) := by omega
    have gi0 : (0 : Int) ≤ (i : Int) := by omega
    have W8 := hid (fun (wx : World) (hb : Below w.heap.size w wx) => WC.out wx hb x hxl)
    have WIN := hid (show ∀ k, (hk : k < (wantsF L[x] p).length) → (wantsF L[x] p)[k] < n ∧ t.getD (wantsF L[x] p)[k] false = true from fun k hk => by
      have hd : Dem L p x (wantsF L[x] p)[k] := by
        unfold Dem
        rw [eL]
        exact List.getElem_mem hk
      have hm := HW3.out _ hd
      exact ⟨by rw [HN.out]; exact HCR.out.rl _ hm, IN.out _ hm⟩)
    have WL64 := hid (show (wantsF L[x] p).length ≤ 64 by
      have h1 := wantsH_len (b := gainF L[x] p) L[x] p 0
      have h2 := OK.out.len _ (List.getElem_mem hxl)
      have := OK.out.cols
      unfold wantsF
      omega)
    obtain ⟨W, hW⟩ : ∃ W, W = wantsF L[x] p := ⟨_, rfl⟩
    rw [← hW] at W8 WL64
    have WIN2 := hid (show ∀ k, (hk : k < W.length) → W[k] < n ∧ t.getD W[k] false = true by rw [hW]; exact WIN.out)
    rcases Nat.eq_zero_or_pos i with h0 | h0
    · have gz : decide (0 < i) = false := by simp; omega
      have gz2 : decide ((0 : Int) < (i : Int)) = false := by simp; omega
      clear hcx hx1 hx2 hx3 eL ec hW WIN h0
      go_wp2_with fail
      refine C1.out.mono ?_
      rintro e w8 ⟨rfl, md, hw8⟩
      have B8 := hid (show Below wr.heap.size wr w8 by rw [hw8]; exact drewN_below (Below.refl _ _) md)
      have W9 := hid (W8.out w8 (BW.out.trans (B8.out.mono BW.out.size)))
      clear hw8 C1 W8
      go_wp2_with fail
      refine W9.out.mono ?_
      rintro e w9 ⟨v9, rfl, hr9, hb9⟩
      have BX9 := hid (BX.out.trans ((B8.out.trans (hb9.mono B8.out.size)).mono BX.out.size))
      obtain ⟨p9, c9, hv9, hc9⟩ := reads_at (hr9.reads encI_len (by rw [zl_len]; have := WL64.out; omega))
      obtain ⟨nv, hnv⟩ : ∃ nv, nv = W.length := ⟨_, rfl⟩
      rw [zl_len, ← hnv] at hv9
      subst hv9
      have HNV := hid hnv
      have HC9 := hid hc9
      have nv64 : nv ≤ 64 := by rw [hnv]; exact WL64.out
      obtain ⟨wB, hwB⟩ : ∃ wB, wB = w9 := ⟨_, rfl⟩
      rw [← hwB] at BX9 HC9 ⊢
      have RTB := hid (RT.out.below' BX9.out)
      clear hr9 hb9 W9 hnv hc9 hwB B8
      go_upto_region 16 with fail
      go_loopg [14] nv (fun k s14 wx => ∃ q : Nat, q + k = nv ∧ s14 = .int .i64 q ∧ wx = wB)
      case atStart => exact ⟨0, by omega, rfl, rfl⟩
      case round =>
      obtain ⟨q, hqk, rfl, hwr⟩ := hrel
      have HQK := hid hqk
      rw [hwr]
      clear hqk hwr
      by_cases hqn : q < nv
      · have hqW : q < W.length := by rw [← HNV.out]; exact hqn
        obtain ⟨b9, o9, rfl, hcy9⟩ := HC9.out q (by rw [zl_len]; exact hqW)
        have cy9 := hcy9 wB (Below.refl _ _)
        rw [zl_get (by rw [zl_len]; exact hqW)] at cy9
        obtain ⟨hjn, hjt⟩ := WIN2.out q hqW
        obtain ⟨j, hj⟩ : ∃ j, j = W[q] := ⟨_, rfl⟩
        rw [← hj] at cy9 hjn hjt
        have ct := RTB.out.cellD (i := j) (by rw [HTL.out]; exact hjn) false
        rw [hjt] at ct
        have gq : (q : Int) < (nv : Int) := by omega
        have gq0 : (0 : Int) ≤ (q : Int) := by omega
        have gj : (j : Int) < (n : Int) := by omega
        have gj0 : (0 : Int) ≤ (j : Int) := by omega
        clear hj hjt hcy9
        go_wp2
        go_roundg (nv - (q + 1))
        · exact ⟨q + 1, by omega, by go_num, rfl⟩
        · have := HQK.out; omega
      · obtain rfl : q = nv := by have := HQK.out; omega
        have g2 : decide ((q : Int) < (q : Int)) = false := by simp
        go_wp2
        go_roundg (nb - (i + 1))
        · exact ⟨i + 1, by omega, by go_num, BX9.out⟩
        · have := HIK.out; omega
    · have gz : decide (0 < i) = true := by simp; omega
      have gz2 : (0 : Int) < (i : Int) := by omega
      have hi1 : i - 1 < b.length := by omega
      obtain ⟨bl', ol', e3, hcy⟩ := HBC.out (i - 1) hi1
      injection e3 with e3
      injection e3 with e3 e4
      subst e3 e4
      have cy := hcy wr BW.out
      have hlt : b[i - 1] < b[i] := List.pairwise_iff_getElem.1 HCR.out.lt (i - 1) i hi1 hiB (by omega)
      rw [hx1] at hlt
      obtain ⟨j', hj'⟩ : ∃ j', j' = b[i - 1] := ⟨_, rfl⟩
      rw [← hj'] at cy hlt
      have ew : IntKind.i64.wrap ((i : Int) - 1) = ((i - 1 : Nat) : Int) := by rw [IntWalk.i64_in _ (by omega)]; omega
      have gm0 : (0 : Int) ≤ ((i - 1 : Nat) : Int) := by omega
      have gm : ((i - 1 : Nat) : Int) < (nb : Int) := by omega
      have gg : decide ((x : Int) ≤ j') = false := by simp; omega
      clear hcx hx1 hx2 hx3 eL ec hW WIN hcy hj' hlt
      go_wp2_with fail
      refine C1.out.mono ?_
      rintro e w8 ⟨rfl, md, hw8⟩
      have B8 := hid (show Below wr.heap.size wr w8 by rw [hw8]; exact drewN_below (Below.refl _ _) md)
      have W9 := hid (W8.out w8 (BW.out.trans (B8.out.mono BW.out.size)))
      clear hw8 C1 W8
      go_wp2_with fail
      refine W9.out.mono ?_
      rintro e w9 ⟨v9, rfl, hr9, hb9⟩
      have BX9 := hid (BX.out.trans ((B8.out.trans (hb9.mono B8.out.size)).mono BX.out.size))
      obtain ⟨p9, c9, hv9, hc9⟩ := reads_at (hr9.reads encI_len (by rw [zl_len]; have := WL64.out; omega))
      obtain ⟨nv, hnv⟩ : ∃ nv, nv = W.length := ⟨_, rfl⟩
      rw [zl_len, ← hnv] at hv9
      subst hv9
      have HNV := hid hnv
      have HC9 := hid hc9
      have nv64 : nv ≤ 64 := by rw [hnv]; exact WL64.out
      obtain ⟨wB, hwB⟩ : ∃ wB, wB = w9 := ⟨_, rfl⟩
      rw [← hwB] at BX9 HC9 ⊢
      have RTB := hid (RT.out.below' BX9.out)
      clear hr9 hb9 W9 hnv hc9 hwB B8
      go_upto_region 16 with fail
      go_loopg [14] nv (fun k s14 wx => ∃ q : Nat, q + k = nv ∧ s14 = .int .i64 q ∧ wx = wB)
      case atStart => exact ⟨0, by omega, rfl, rfl⟩
      case round =>
      obtain ⟨q, hqk, rfl, hwr⟩ := hrel
      have HQK := hid hqk
      rw [hwr]
      clear hqk hwr
      by_cases hqn : q < nv
      · have hqW : q < W.length := by rw [← HNV.out]; exact hqn
        obtain ⟨b9, o9, rfl, hcy9⟩ := HC9.out q (by rw [zl_len]; exact hqW)
        have cy9 := hcy9 wB (Below.refl _ _)
        rw [zl_get (by rw [zl_len]; exact hqW)] at cy9
        obtain ⟨hjn, hjt⟩ := WIN2.out q hqW
        obtain ⟨j, hj⟩ : ∃ j, j = W[q] := ⟨_, rfl⟩
        rw [← hj] at cy9 hjn hjt
        have ct := RTB.out.cellD (i := j) (by rw [HTL.out]; exact hjn) false
        rw [hjt] at ct
        have gq : (q : Int) < (nv : Int) := by omega
        have gq0 : (0 : Int) ≤ (q : Int) := by omega
        have gj : (j : Int) < (n : Int) := by omega
        have gj0 : (0 : Int) ≤ (j : Int) := by omega
        clear hj hjt hcy9
        go_wp2
        go_roundg (nv - (q + 1))
        · exact ⟨q + 1, by omega, by go_num, rfl⟩
        · have := HQK.out; omega
      · obtain rfl : q = nv := by have := HQK.out; omega
        have g2 : decide ((q : Int) < (q : Int)) = false := by simp
        go_wp2
        go_roundg (nb - (i + 1))
        · exact ⟨i + 1, by omega, by go_num, BX9.out⟩
        · have := HIK.out; omega
  obtain rfl : i = nb := by have := HIK.out; omega
  have g2 : decide ((i : Int) < (i : Int)) = false := by simp
  have F := hid (FN.out wr BW.out)
  have gf : (nl : Int) < (i : Int) := by have := HLEN.out; omega
  clear FN
  go_wp2
  first | exact F.out | (go_ret; exact F.out)
end Go.Proofs.YtojednnciknhpaaDoor
