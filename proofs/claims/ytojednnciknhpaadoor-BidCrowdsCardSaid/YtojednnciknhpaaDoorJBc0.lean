/- BidCrowds: the walk. -/
import Derived.Test.YtojednnciknhpaaDoorJLh1
import Derived.Test.YtojednnciknhpaaDoorJLr1
import Derived.Test.YtojednnciknhpaaDoorJRowx
import Derived.Test.YtojednnciknhpaaDoorJBn3
namespace Go.Proofs.YtojednnciknhpaaDoor
set_option linter.unusedSimpArgs false
set_option linter.unusedVariables false
open Go.RowKit
attribute [local go_sem] Oper.semAt_some
attribute [local go_sem ↓] Go.wp_at_zero Go.wp_at_succ

set_option maxRecDepth 100000 in
set_option maxHeartbeats 16000000 in
theorem crowds_law (w : World) (hT : TabOk w) (v : Value) (L0 : List (List Int)) (h : NestA encI 1 w v L0) (_hq : ∀ l ∈ L0, ∀ x ∈ l, -9223372036854775808 ≤ x ∧ x ≤ 9223372036854775807) (vp : Value) (p0 : List Int) (hp : ArgE encI 1 w vp p0) (_hqp : ∀ x ∈ p0, -9223372036854775808 ≤ x ∧ x ≤ 9223372036854775807) :
    Calls Tryd.prog 6 #[v, vp] w fun e w' => e = .returned (.bool true) ∧ Below w.heap.size w w' := by
  have HC := hid (tidy_calls h 8 8 (by omega) (by omega))
  obtain ⟨R, hR⟩ : ∃ R : Ending → World → Prop, R = fun e w' => e = .returned (.bool true) ∧ Below w.heap.size w w' := ⟨_, rfl⟩
  rw [← hR]
  have FN := hid (show ∀ w', Below w.heap.size w w' → R (.returned (.bool true)) w' from fun w' h => by rw [hR]; exact ⟨rfl, h⟩)
  have TO := hid hT
  obtain ⟨L, hL⟩ : ∃ L, L = tidyF L0 8 8 := ⟨_, rfl⟩
  have CK := hid (show chkH L = 0 by rw [hL]; exact tidy_chk (by omega) (by omega))
  have LN := hid (show 1 ≤ L.length ∧ L.length ≤ 8 by rw [hL, tidyF_len]; unfold trows; omega)
  have LC := hid (show 1 ≤ cols L ∧ cols L ≤ 8 by rw [hL, tidyF_cols]; unfold tcols; omega)
  have OK := hid (show OkH L (cols L) by rw [hL, tidyF_cols]; exact tidy_okH (by omega) (by omega))
  rw [← hL] at HC
  clear hR hL hT
  obtain ⟨p, cap, rfl, _⟩ := h.open_
  obtain ⟨n0, hn0⟩ : ∃ n0, n0 = L0.length := ⟨_, rfl⟩
  rw [← hn0] at HC ⊢
  have HP := hid hp
  clear h hn0 hp
  go_enter Tryd.func6, Tryd.ntmps6
  go_wp2_with fail
  refine HC.out.mono ?_
  rintro e w1 ⟨v1, rfl, ht, hb1⟩
  have B1 := hid hb1
  have N1 := hid (ht.nest encI_len (by have := LN.out.2; omega) (fun r hr => by have := OK.out.len r hr; have := LC.out.2; omega))
  obtain ⟨bb, off, c1, q1, q2, hv1, hc1, hrw⟩ := nest_first N1.out LN.out.1
  obtain ⟨n, hn⟩ : ∃ n, n = L.length := ⟨_, rfl⟩
  obtain ⟨N, hN⟩ : ∃ N, N = cols L := ⟨_, rfl⟩
  have HN := hid hn
  have HNN := hid hN
  rw [← hn] at hv1
  rw [← hN] at hc1
  subst hv1
  have HC1 := hid hc1
  have n1 : 1 ≤ n := by rw [hn]; exact LN.out.1
  have N1' : 1 ≤ N := by rw [hN]; exact LC.out.1
  have N8 : N ≤ 8 := by rw [hN]; exact LC.out.2
  clear hb1 ht hn hN HC hc1 hrw
  go_upto_region 3 with fail
  go_cut [6] (fun s6 wx => ∃ b6, b6 = s6 ∧ RowI w1.heap.size wx b6 (p0.take 10) ∧ Below w1.heap.size w1 wx)
  case first =>
    obtain ⟨v9, w9, r1, r2, r3⟩ := cut_app (t := 22) (ty := 22) undI infoI (by omega) (HP.out.below B1.out) 10 (by omega) (Nat.le_refl _)
    have R1 := hid r1
    have F := hid (show ∃ b9, b9 = v9 ∧ RowI w1.heap.size w9 b9 (p0.take 10) ∧ Below w1.heap.size w1 w9 from ⟨_, rfl, r2, r3⟩)
    rcases HP.out.form with rfl | ⟨a, nu, cp, rfl, f1, f2⟩
    · rw [cutW, Nat.zero_min] at R1
      clear r1 r2 r3
      go_wp2_with (at_builtin; refine wpList_append_run rfl (.tmp 14) (.tmp 19) 22 rfl _ _ v9 w9 rfl rfl R1.out ?_)
      go_meet
      exact F.out
    · obtain ⟨k, hk⟩ : ∃ k, k = min nu 10 := ⟨_, rfl⟩
      have ek : min (nu : Int) 10 = (k : Int) := by omega
      have k1 : (k : Int) ≤ (cp : Int) := by omega
      have k0 : (0 : Int) ≤ (k : Int) := by omega
      rw [cutW, ← hk] at R1
      clear r1 r2 r3 hk f1 f2
      go_wp2_with (at_builtin; refine wpList_append_run rfl (.tmp 14) (.tmp 19) 22 rfl _ _ v9 w9 rfl rfl R1.out ?_)
      go_meet
      exact F.out
  case rest =>
  obtain ⟨b6, rfl, hr6, hb6⟩ := hcut
  have S0 := hid (show PrS w1 wc b6 (p0.take 10) from ⟨hb6, hr6⟩)
  clear hr6 hb6 HP
  go_upto_region 5 with fail
  go_loopg [6, 7] 2 (fun k s6 s7 wr => ∃ (i : Nat) (b6 : Value) (p : List Int), i + k = 2 ∧ s7 = .int .i64 i ∧ b6 = s6 ∧ PrS w1 wr b6 p ∧ p.length ≤ 10)
  case atStart => exact ⟨0, _, _, by omega, rfl, rfl, S0.out, by simp; omega⟩
  case round =>
  obtain ⟨i, b6, p, hik, rfl, rfl, hs, hp10⟩ := hrel
  have HIK := hid hik
  have S := hid hs
  obtain ⟨p6, c6, hv6, _⟩ := hs.rp.form
  obtain ⟨np, hnp⟩ : ∃ np, np = p.length := ⟨_, rfl⟩
  rw [← hnp] at hv6 hp10
  have HNP := hid hnp
  subst hv6
  clear hik hs hnp S0
  by_cases hi2 : i < 2
  · have gi : (i : Int) < 2 := by omega
    have NW := hid (fun (wx : World) (hb : Below w1.heap.size w1 wx) => N1.out.below hb)
    have PRD := hid (fun (wx : World) (hs : PrS w1 wx (.slice p6 np c6) p) => hs.rp.reads encI_len (by rw [← HNP.out]; omega))
    have XC := hid (crowdX_calls (NW.out wr S.out.b) (PRD.out wr S.out))
    have PP := hid (fun (wx : World) (hs : PrS w1 wx (.slice p6 np c6) p) => rprices_calls (NW.out wx hs.b) LN.out.1 (PRD.out wx hs))
    clear hi2
    have RCW := hid (fun (wx : World) (hs : PrS w1 wx (.slice p6 np c6) p) (ha : arP L p = true) => rcrowded_calls (NW.out wx hs.b) (PRD.out wx hs) (by rw [(arP_iff.1 ha).1]; exact OK.out) (arP_iff.1 ha).2 LN.out.1 (by rw [(arP_iff.1 ha).1]; exact LC.out.1))
    have RCR := hid (fun (wx : World) (hs : PrS w1 wx (.slice p6 np c6) p) (ha : arP L p = true) (b : List Int) (l : List Nat) (vb vl : Value) (hc : crowdF L p = some (b, l)) (hb : ReadsE encI 1 wx vb b) (hl : ReadsE encI 1 wx vl (zl l)) => rcrowd_calls (NW.out wx hs.b) (PRD.out wx hs) (by rw [(arP_iff.1 ha).1]; exact OK.out) (arP_iff.1 ha).2 (crowdF_some (by rw [(arP_iff.1 ha).1]; exact OK.out) hc) hb hl (by
      have h1 := (crowdF_some (by rw [(arP_iff.1 ha).1]; exact OK.out) hc)
      have h2 := crowd_len h1
      have h3 := h1.len
      have h4 := LN.out.2
      omega))
    have EQC := hid (show arP L p = true → crwF L p = (crowdF L p).isSome from fun ha => crwF_crowd (by rw [(arP_iff.1 ha).1]; exact OK.out))
    have BL := hid (show arP L p = true → ∀ b l, crowdF L p = some (b, l) → b.length ≤ 5000 ∧ l.length ≤ 5000 from fun ha b l hc => by
      have h1 := (crowdF_some (by rw [(arP_iff.1 ha).1]; exact OK.out) hc)
      have h2 := crowd_len h1
      have h3 := h1.len
      have h4 := LN.out.2
      omega)
    have ER := hid (show crowdR L p = if arP L p = true then crowdF L p else none by
      unfold crowdR
      by_cases ha : arP L p = true
      · rw [if_pos ⟨CK.out, ha⟩, if_pos ha]
      · rw [if_neg (fun q => ha q.2), if_neg ha])
    rw [ER.out] at XC
    obtain ⟨tt, htt⟩ : ∃ tt, tt = arP L p := ⟨_, rfl⟩
    rw [← htt] at XC PP RCW RCR EQC BL
    clear htt ER
    go_wp2_with fail
    refine XC.out.mono ?_
    rintro e w2 ⟨vb, vx, rfl, hcr, hb2⟩
    have S2 := hid (S.out.below hb2)
    have P2 := hid (PP.out w2 S2.out)
    have CR2 := hid hcr
    have HS2 := hid (show w1.heap.size ≤ wr.heap.size from S.out.b.size)
    clear hb2 XC hcr
    obtain ⟨rr, hrr⟩ : ∃ rr, rr = (if tt = true then crowdF L p else none) := ⟨_, rfl⟩
    rw [← hrr] at CR2 ⊢
    have HRR := hid hrr
    have FRM := hid (show (vb = .slice none 0 0 ∧ vx = .slice none 0 0) ∨ ∃ pb nb cb pl nl cl, vb = .slice pb nb cb ∧ vx = .slice pl nl cl from by
      have := CR2.out
      cases rr with
      | none => exact .inl this
      | some x =>
        obtain ⟨b, l⟩ := x
        obtain ⟨q1, q2, _⟩ := this
        obtain ⟨pb, cb, hvb, _⟩ := q1.form
        obtain ⟨pl, cl, hvl, _⟩ := q2.form
        exact .inr ⟨pb, _, cb, pl, _, cl, hvb, hvl⟩)
    clear hrr
    go_wp2_with fail
    refine P2.out.mono ?_
    rintro e w3 ⟨rfl, hb3⟩
    have S3 := hid (S2.out.below hb3)
    have B23 := hid hb3
    clear hb3 P2 S2
    go_upto_if 35 with fail
    go_cut [37] (fun s37 wx => PrS w1 wx (.slice p6 np c6) p)
    case first =>
      cases tt with
      | false =>
        rw [if_neg (by simp)] at HRR
        obtain rfl : rr = none := HRR.out
        obtain ⟨rfl, rfl⟩ : vb = .slice none 0 0 ∧ vx = .slice none 0 0 := CR2.out
        clear RCW RCR EQC BL
        go_wp2
        go_meet
        exact S3.out
      | true =>
        rw [if_pos rfl] at HRR
        have C3 := hid (RCW.out w3 S3.out rfl)
        rw [EQC.out rfl, ← HRR.out] at C3
        cases rr with
        | none =>
          obtain ⟨rfl, rfl⟩ : vb = .slice none 0 0 ∧ vx = .slice none 0 0 := CR2.out
          clear RCW RCR EQC BL
          go_wp2_with fail
          refine C3.out.mono ?_
          rintro e w4 ⟨rfl, hb4⟩
          have S4 := hid (S3.out.below hb4)
          clear hb4 C3
          go_wp2
          go_meet
          exact S4.out
        | some x =>
          obtain ⟨b, l⟩ := x
          obtain ⟨q1, q2, q3⟩ := CR2.out
          obtain ⟨bl1, bl2⟩ := BL.out rfl b l HRR.out.symm
          have Q1 := hid q1
          have Q2 := hid q2
          obtain ⟨pb, cb, hvb, _⟩ := q1.form
          obtain ⟨pl, cl, hvl, _⟩ := q2.form
          obtain ⟨nb, hnb⟩ : ∃ nb, nb = b.length := ⟨_, rfl⟩
          obtain ⟨nl, hnl⟩ : ∃ nl, nl = (zl l).length := ⟨_, rfl⟩
          rw [← hnb] at hvb
          rw [← hnl] at hvl
          have R4 := hid (fun (wx : World) (hs : PrS w1 wx (.slice p6 np c6) p) (hb : Below w2.heap.size w2 wx) => RCR.out wx hs rfl b l vb vx HRR.out.symm ((Q1.out.below hb).reads encI_len (by omega)) ((Q2.out.below hb).reads encI_len (by rw [zl_len]; omega)))
          subst hvb hvl
          clear RCW RCR EQC BL q1 q2 q3 bl1 bl2 hnb hnl Q1 Q2 CR2
          go_wp2_with fail
          refine C3.out.mono ?_
          rintro e w4 ⟨rfl, hb4⟩
          have S4 := hid (S3.out.below hb4)
          have R5 := hid (R4.out w4 S4.out (B23.out.trans (hb4.mono B23.out.size)))
          clear hb4 C3 R4
          go_wp2_with fail
          refine R5.out.mono ?_
          rintro e w5 ⟨rfl, hb5⟩
          have S5 := hid (S4.out.below hb5)
          clear hb5 R5
          go_wp2
          go_meet
          exact S5.out
    case rest =>
    obtain ⟨wC, hwC⟩ : ∃ wC, wC = wc := ⟨_, rfl⟩
    rw [← hwC] at hcut ⊢
    have SX := hid hcut
    clear hwC hcut S3 S CR2 HRR FRM RCW RCR EQC BL PP PRD
    go_upto_block 2 with fail
    go_cut [6] (fun s6 wx => ∃ (p9' : Option Addr) (n9 c9' : Nat) (p' : List Int), s6 = .slice p9' n9 c9' ∧ PrS w1 wx (.slice p9' n9 c9') p' ∧ n9 = p'.length ∧ N ≤ n9 ∧ n9 ≤ 10)
    case first =>
      go_upto_region 13 with fail
      go_loopg [6] N (fun k s6 wx => ∃ (K : Nat) (b9 : Value) (p' : List Int), K = k ∧ b9 = s6 ∧ PrS w1 wx b9 p' ∧ N ≤ p'.length + K ∧ p'.length ≤ 10)
      case atStart => exact ⟨_, _, p, rfl, rfl, SX.out, by omega, by rw [← HNP.out]; exact hp10⟩
      case round =>
      obtain ⟨K, b9, p', hK, rfl, hs, hnp', hp7'⟩ := hrel
      obtain ⟨p9', c9', hv9, _⟩ := hs.rp.form
      obtain ⟨n9, hn9⟩ : ∃ n9, n9 = p'.length := ⟨_, rfl⟩
      rw [← hn9] at hv9
      have HK := hid hK
      have SP := hid hs
      have k0 := HC1.out wr hs.b
      subst hv9
      rw [← hn9] at hnp' hp7'
      have HN9 := hid hn9
      clear hK hs hn9
      by_cases hlt : n9 < N
      · obtain ⟨v', w', r1, r2⟩ := SP.out.app 0 (by rw [← HN9.out]; omega)
        have R1 := hid r1
        have R2 := hid r2
        have glt : (n9 : Int) < (N : Int) := by omega
        clear r1 r2
        go_wp2_with (at_builtin; refine wpList_append_run rfl (.tmp 84) (.tmp 85) 22 rfl _ _ v' w' rfl rfl R1.out ?_)
        go_roundg (K - 1)
        · exact ⟨K - 1, _, p' ++ [0], rfl, rfl, R2.out, by simp; rw [← HN9.out]; omega, by simp; rw [← HN9.out]; omega⟩
        · have := HK.out; omega
      · have gle : (N : Int) ≤ (n9 : Int) := by omega
        have F := hid (show ∃ (p9'' : Option Addr) (n9' c9'' : Nat) (p'' : List Int), Value.slice p9' n9 c9' = .slice p9'' n9' c9'' ∧ PrS w1 wr (.slice p9'' n9' c9'') p'' ∧ n9' = p''.length ∧ N ≤ n9' ∧ n9' ≤ 10 from ⟨_, _, _, p', rfl, SP.out, HN9.out, by omega, hp7'⟩)
        clear hlt
        go_wp2
        go_meet
        exact F.out
    case rest =>
    obtain ⟨p9', n9, c9', p', rfl, hs, hn9, hn9a, hn9b⟩ := hcut
    obtain ⟨wE, hwE⟩ : ∃ wE, wE = wc := ⟨_, rfl⟩
    rw [← hwE] at hs ⊢
    have hcap9 := own_cap hs.rp
    have SE := hid (hs.take (b := N) (by omega))
    have k0 := HC1.out wE hs.b
    have HT9 := hid (show (p'.take N).length = N by rw [List.length_take]; omega)
    obtain ⟨p2, hp2⟩ : ∃ p2, p2 = p'.take N := ⟨_, rfl⟩
    rw [← hp2] at SE HT9
    have gs2 : (N : Int) ≤ (c9' : Int) := by omega
    have gs3 : (0 : Int) ≤ (N : Int) := by omega
    clear hwE hs SX hn9 hp2
    go_upto_region 17 with fail
    go_loopg [11] N (fun k s11 wx => ∃ (q : Nat) (p3 : List Int), q + k = N ∧ s11 = .int .i64 q ∧ PrS w1 wx (.slice p9' N c9') p3 ∧ p3.length = N)
    case atStart => exact ⟨0, p2, by omega, rfl, SE.out, HT9.out⟩
    case round =>
    obtain ⟨q, p3, hqk, rfl, hs, hp3⟩ := hrel
    have HQK := hid hqk
    have SG := hid hs
    have HP3 := hid hp3
    clear hqk hs hp3
    by_cases hqN : q < N
    · have hq3 : q < p3.length := by rw [HP3.out]; exact hqN
      obtain ⟨g9, rfl, cx, fx⟩ := own_at SG.out.rp hq3
      have gq : (q : Int) < (N : Int) := by omega
      have gq0 : (0 : Int) ≤ (q : Int) := by omega
      obtain ⟨x, hx⟩ : ∃ x, x = p3[q] := ⟨_, rfl⟩
      rw [← hx] at cx
      have SM := hid (small_calls x 10 (by omega) (by omega) wr)
      have S2 := hid (SG.out.put q (smlF x 10))
      have HP4 := hid (show (p3.set q (smlF x 10)).length = N by rw [List.length_set]; exact HP3.out)
      clear hx
      go_wp2_with fail
      refine SM.out.mono ?_
      rintro e w8 ⟨rfl, hw8⟩
      rw [hw8]
      clear hw8 SM
      go_wp2
      go_roundg (N - (q + 1))
      · exact ⟨q + 1, _, by omega, by go_num, S2.out, HP4.out⟩
      · have := HQK.out; omega
    · obtain rfl : q = N := by have := HQK.out; omega
      have g2 : decide ((q : Int) < (q : Int)) = false := by simp
      go_wp2
      go_roundg (2 - (i + 1))
      · exact ⟨i + 1, _, p3, by omega, by go_num, rfl, SG.out, by rw [HP3.out]; omega⟩
      · have := HIK.out; omega
  · obtain rfl : i = 2 := by have := HIK.out; omega
    have B2 := hid (B1.out.trans (S.out.b.mono B1.out.size))
    have AW := hid (awake_calls (TO.out.below B2.out))
    go_wp2_with fail
    refine AW.out.mono ?_
    rintro e w8 ⟨rfl, hb8⟩
    have F := hid (FN.out w8 (B2.out.trans (hb8.mono B2.out.size)))
    clear hb8 AW FN
    go_wp2
    first | exact F.out | (go_ret; exact F.out)
end Go.Proofs.YtojednnciknhpaaDoor
