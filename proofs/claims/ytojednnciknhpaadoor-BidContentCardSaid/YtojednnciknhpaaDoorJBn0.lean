/- BidContent: the walk. -/
import Derived.Test.YtojednnciknhpaaDoorJLh1
import Derived.Test.YtojednnciknhpaaDoorJLr1
import Derived.Test.YtojednnciknhpaaDoorJRowx
namespace Go.Proofs.YtojednnciknhpaaDoor
set_option linter.unusedSimpArgs false
set_option linter.unusedVariables false
open Go.RowKit
attribute [local go_sem] Oper.semAt_some
attribute [local go_sem ↓] Go.wp_at_zero Go.wp_at_succ
/-- A tidy hall in memory, and two rows of the law's own. -/
structure BcS (w0 w1 w : World) (vl vp : Value) (l p : List Int) : Prop where
  b : Below w1.heap.size w1 w
  rl : RowN w1.heap.size w vl l
  rp : RowI w1.heap.size w vp p
theorem BcS.below {w0 w1 w w' : World} {vl vp : Value} {l p : List Int} (h : BcS w0 w1 w vl vp l p) (hb : Below w.heap.size w w') : BcS w0 w1 w' vl vp l p := ⟨h.b.trans (hb.mono h.b.size), h.rl.below hb, h.rp.below hb⟩
theorem int_ne : (3 : TypeId) ≠ 2 := by decide
theorem int_ne' : (2 : TypeId) ≠ 3 := by decide
theorem own_cap {α : Type} {enc : α → List Value} {sz : Nat} {e : TypeId} {B : Nat} {w : World} {p : Option Addr} {n c : Nat} {l : List α} (h : OwnE enc sz e B w (.slice p n c) l) : n ≤ c := by
  rcases h.2 with ⟨h1, h2⟩ | ⟨g, c', cur, h1, h2, h3, h4, h5, h6, h7⟩
  · injection h1 with e1 e2 e3
    omega
  · injection h1 with e1 e2 e3
    omega
theorem BcS.appL {w0 w1 w : World} {vl vp : Value} {l p : List Int} (h : BcS w0 w1 w vl vp l p) (x : Int) (hl : l.length ≤ 1000) : ∃ v' w', (Builtin.append_ #[27, 27] 27 #[vl, .slice (some ⟨w.heap.size, 0, none⟩) 1 1]).run Tryd.prog (w.alloc (.cells #[.int .i64 x] 3)) = .ok v' w' ∧ BcS w0 w1 w' v' vp (l ++ [x]) p := by
  have ha := (Below.refl w.heap.size w).alloc (Nat.le_refl _) (.cells #[.int .i64 x] 3)
  have hs := h.b.size
  obtain ⟨v', w', r1, r2, r3, _⟩ := rown_app (h.rl.below ha) (by simp; omega) (cell_one (Cells.new w #[.int .i64 x] 3)) (by omega)
  exact ⟨v', w', r1, (h.b.trans (ha.mono hs)).trans (kept_own (h.rl.below ha) (by simp; omega) r3), r2, (h.rp.below ha).kept r3 (own_ne int_ne (h.rl.below ha) (h.rp.below ha))⟩
theorem BcS.appP {w0 w1 w : World} {vl vp : Value} {l p : List Int} (h : BcS w0 w1 w vl vp l p) (x : Int) (hl : p.length ≤ 1000) : ∃ v' w', (Builtin.append_ #[22, 22] 22 #[vp, .slice (some ⟨w.heap.size, 0, none⟩) 1 1]).run Tryd.prog (w.alloc (.cells #[.int .i64 x] 2)) = .ok v' w' ∧ BcS w0 w1 w' vl v' l (p ++ [x]) := by
  have ha := (Below.refl w.heap.size w).alloc (Nat.le_refl _) (.cells #[.int .i64 x] 2)
  have hs := h.b.size
  obtain ⟨v', w', r1, r2, r3, _⟩ := own_append (ty := 22) undI infoI rfl (by omega) encI_len encI_one (h.rp.below ha) (by simp; omega) (SrcE.one (a := x) (Cells.new w #[.int .i64 x] 2)) (by unfold maxLen; simp; omega) (by simp; omega)
  exact ⟨v', w', r1, (h.b.trans (ha.mono hs)).trans (kept_own (h.rp.below ha) (by simp; omega) r3), (h.rl.below ha).kept r3 (own_ne int_ne' (h.rp.below ha) (h.rl.below ha)), r2⟩
theorem BcS.takes {w0 w1 w : World} {p8 p9 : Option Addr} {n8 c8 n9 c9 : Nat} {l p : List Int} (h : BcS w0 w1 w (.slice p8 n8 c8) (.slice p9 n9 c9) l p) {a b : Nat} (ha : a ≤ l.length) (hb : b ≤ p.length) : BcS w0 w1 w (.slice p8 a c8) (.slice p9 b c9) (l.take a) (p.take b) :=
  ⟨h.b, h.rl.take encI_len ha, h.rp.take encI_len hb⟩
theorem BcS.drewN {w0 w1 w : World} {vl vp : Value} {l p : List Int} (h : BcS w0 w1 w vl vp l p) (k : Nat) : BcS w0 w1 (w.drewN k) vl vp l p := h.below (drewN_below (Below.refl _ _) k)
theorem own_block {α : Type} {enc : α → List Value} {sz : Nat} {e : TypeId} {B : Nat} {w : World} {g n c : Nat} {l : List α} (h : OwnE enc sz e B w (.slice (some ⟨g, 0, none⟩) n c) l) : B ≤ g ∧ ∃ cs, Cells w g cs e := by
  rcases h.2 with ⟨h1, h2⟩ | ⟨g', c', cur, h1, h2, h3, _⟩
  · cases h1
  · injection h1 with e1 e2 e3
    injection e1 with e1
    injection e1 with e1
    subst e1
    exact ⟨h2, cur, h3⟩
theorem BcS.putL {w0 w1 w : World} {g n8 c8 : Nat} {vp : Value} {l p : List Int} (h : BcS w0 w1 w (.slice (some ⟨g, 0, none⟩) n8 c8) vp l p) (i : Nat) (x : Int) : BcS w0 w1 (w.setCell ⟨g, i, none⟩ (.int .i64 x)) (.slice (some ⟨g, 0, none⟩) n8 c8) vp (l.set i x) p := by
  obtain ⟨hg, cs, hc⟩ := own_block h.rl
  exact ⟨h.b.trans (Kept.below ((Kept.refl (fun k => k = g) w).set (C := g) rfl _ _) h.b.size (fun k hk => by rw [hk]; exact hg)), own_put h.rl i x, h.rp.set hc int_ne _ _⟩
theorem BcS.putP {w0 w1 w : World} {g n9 c9 : Nat} {vl : Value} {l p : List Int} (h : BcS w0 w1 w vl (.slice (some ⟨g, 0, none⟩) n9 c9) l p) (i : Nat) (x : Int) : BcS w0 w1 (w.setCell ⟨g, i, none⟩ (.int .i64 x)) vl (.slice (some ⟨g, 0, none⟩) n9 c9) l (p.set i x) := by
  obtain ⟨hg, cs, hc⟩ := own_block h.rp
  exact ⟨h.b.trans (Kept.below ((Kept.refl (fun k => k = g) w).set (C := g) rfl _ _) h.b.size (fun k hk => by rw [hk]; exact hg)), h.rl.set hc int_ne' _ _, own_put h.rp i x⟩
/-- A cell of an own row of integers. -/
theorem own_at {e : TypeId} {B : Nat} {w : World} {p : Option Addr} {n c : Nat} {l : List Int} (h : OwnE encI 1 e B w (.slice p n c) l) {i : Nat} (hi : i < l.length) : ∃ g, p = some ⟨g, 0, none⟩ ∧ w.cell? ⟨g, i, none⟩ = some (.int .i64 l[i]) ∧ w.frozen? ⟨g, i, none⟩ = false := by
  obtain ⟨p', c', b, hv, hp, hc⟩ := h.cells encI_len
  injection hv with e1 e2 e3
  subst e1
  obtain ⟨rfl, _, _⟩ := hp (by omega)
  refine ⟨b, rfl, ?_, ?_⟩
  · have := hc i hi 0 (by omega)
    simpa [encI] using this
  · obtain ⟨_, cs, hcs⟩ := own_block h
    exact hcs.frozen i

set_option maxRecDepth 100000 in
set_option maxHeartbeats 16000000 in
theorem content_law (w : World) (hT : TabOk w) (v : Value) (L0 : List (List Int)) (h : NestA encI 1 w v L0) (_hq : ∀ l ∈ L0, ∀ x ∈ l, -9223372036854775808 ≤ x ∧ x ≤ 9223372036854775807) (vl : Value) (l0 : List Int) (hl : ArgE encI 1 w vl l0) (_hql : ∀ x ∈ l0, -9223372036854775808 ≤ x ∧ x ≤ 9223372036854775807) (vp : Value) (p0 : List Int) (hp : ArgE encI 1 w vp p0) (_hqp : ∀ x ∈ p0, -9223372036854775808 ≤ x ∧ x ≤ 9223372036854775807) :
    Calls Tryd.prog 13 #[v, vl, vp] w fun e w' => e = .returned (.bool true) ∧ Below w.heap.size w w' := by
  have HC := hid (tidy_calls h 5 5 (by omega) (by omega))
  obtain ⟨R, hR⟩ : ∃ R : Ending → World → Prop, R = fun e w' => e = .returned (.bool true) ∧ Below w.heap.size w w' := ⟨_, rfl⟩
  rw [← hR]
  have FN := hid (show ∀ w', Below w.heap.size w w' → R (.returned (.bool true)) w' from fun w' h => by rw [hR]; exact ⟨rfl, h⟩)
  have TO := hid hT
  obtain ⟨L, hL⟩ : ∃ L, L = tidyF L0 5 5 := ⟨_, rfl⟩
  have CK := hid (show chkH L = 0 by rw [hL]; exact tidy_chk (by omega) (by omega))
  have LN := hid (show 1 ≤ L.length ∧ L.length ≤ 5 by rw [hL, tidyF_len]; unfold trows; omega)
  have LC := hid (show 1 ≤ cols L ∧ cols L ≤ 5 by rw [hL, tidyF_cols]; unfold tcols; omega)
  have OK := hid (show OkH L (cols L) by rw [hL, tidyF_cols]; exact tidy_okH (by omega) (by omega))
  rw [← hL] at HC
  clear hR hL hT
  obtain ⟨p, cap, rfl, _⟩ := h.open_
  obtain ⟨n0, hn0⟩ : ∃ n0, n0 = L0.length := ⟨_, rfl⟩
  rw [← hn0] at HC ⊢
  have HL := hid hl
  have HP := hid hp
  clear h hn0 hl hp
  go_enter Tryd.func13, Tryd.ntmps13
  go_wp2_with fail
  refine HC.out.mono ?_
  rintro e w1 ⟨v1, rfl, ht, hb1⟩
  have B1 := hid hb1
  have N1 := hid (ht.nest encI_len (by have := LN.out.2; omega) (fun r hr => by have := OK.out.len r hr; have := LC.out.2; omega))
  obtain ⟨bb, off, c1, q1, q2, hv1, hc1, hrw⟩ := nest_first N1.out LN.out.1
  obtain ⟨n, hn⟩ : ∃ n, n = L.length := ⟨_, rfl⟩
  obtain ⟨N, hN⟩ : ∃ N, N = cols L := ⟨_, rfl⟩
  have HN := hid hn
  have HNN := hid hN
  rw [← hn] at hv1 LN
  rw [← hN] at hc1 LC OK
  subst hv1
  have HC1 := hid hc1
  obtain ⟨n1, n5⟩ := LN.out
  obtain ⟨N1', N5⟩ := LC.out
  clear hb1 ht hn hN HC hc1 hrw
  go_upto_region 4 with fail
  go_cut [8] (fun s8 wx => ∃ b8, b8 = s8 ∧ RowN w1.heap.size wx b8 (l0.take 7) ∧ Below w1.heap.size w1 wx)
  case first =>
    obtain ⟨v8, w8, r1, r2, r3⟩ := cut_app (t := 27) (ty := 27) undN infoN (by omega) (HL.out.below B1.out) 7 (by omega) (Nat.le_refl _)
    have R1 := hid r1
    have F := hid (show ∃ b8, b8 = v8 ∧ RowN w1.heap.size w8 b8 (l0.take 7) ∧ Below w1.heap.size w1 w8 from ⟨_, rfl, r2, r3⟩)
    rcases HL.out.form with rfl | ⟨a, nu, cp, rfl, f1, f2⟩
    · rw [cutW, Nat.zero_min] at R1
      clear r1 r2 r3
      go_wp2_with (at_builtin; refine wpList_append_run rfl (.tmp 22) (.tmp 27) 27 rfl _ _ v8 w8 rfl rfl R1.out ?_)
      go_meet
      exact F.out
    · obtain ⟨k, hk⟩ : ∃ k, k = min nu 7 := ⟨_, rfl⟩
      have ek : min (nu : Int) 7 = (k : Int) := by omega
      have k1 : (k : Int) ≤ (cp : Int) := by omega
      have k0 : (0 : Int) ≤ (k : Int) := by omega
      rw [cutW, ← hk] at R1
      clear r1 r2 r3 hk f1 f2
      go_wp2_with (at_builtin; refine wpList_append_run rfl (.tmp 22) (.tmp 27) 27 rfl _ _ v8 w8 rfl rfl R1.out ?_)
      go_meet
      exact F.out
  case rest =>
  obtain ⟨b8, rfl, hr8, hb8⟩ := hcut
  obtain ⟨wA, hwA⟩ : ∃ wA, wA = wc := ⟨_, rfl⟩
  rw [← hwA] at hr8 hb8 ⊢
  have R8 := hid hr8
  have B8 := hid hb8
  clear hwA hr8 hb8
  go_upto_region 5 with fail
  go_cut [9] (fun s9 wx => ∃ b9, b9 = s9 ∧ RowI w1.heap.size wx b9 (p0.take 7) ∧ Below wA.heap.size wA wx)
  case first =>
    obtain ⟨v9, w9, r1, r2, r3⟩ := cut_app (t := 22) (ty := 22) undI infoI (by omega) (HP.out.below (B1.out.trans (B8.out.mono B1.out.size))) 7 (by omega) (Nat.le_refl _)
    have R1 := hid r1
    have F := hid (show ∃ b9, b9 = v9 ∧ RowI w1.heap.size w9 b9 (p0.take 7) ∧ Below wA.heap.size wA w9 from ⟨_, rfl, OwnE.mono r2 B8.out.size, r3⟩)
    rcases HP.out.form with rfl | ⟨a, nu, cp, rfl, f1, f2⟩
    · rw [cutW, Nat.zero_min] at R1
      clear r1 r2 r3
      go_wp2_with (at_builtin; refine wpList_append_run rfl (.tmp 29) (.tmp 34) 22 rfl _ _ v9 w9 rfl rfl R1.out ?_)
      go_meet
      exact F.out
    · obtain ⟨k, hk⟩ : ∃ k, k = min nu 7 := ⟨_, rfl⟩
      have ek : min (nu : Int) 7 = (k : Int) := by omega
      have k1 : (k : Int) ≤ (cp : Int) := by omega
      have k0 : (0 : Int) ≤ (k : Int) := by omega
      rw [cutW, ← hk] at R1
      clear r1 r2 r3 hk f1 f2
      go_wp2_with (at_builtin; refine wpList_append_run rfl (.tmp 29) (.tmp 34) 22 rfl _ _ v9 w9 rfl rfl R1.out ?_)
      go_meet
      exact F.out
  case rest =>
  obtain ⟨b9, rfl, hr9, hb9⟩ := hcut
  have S0 := hid (show BcS w w1 wc b8 b9 (l0.take 7) (p0.take 7) from ⟨B8.out.trans (hb9.mono B8.out.size), R8.out.below hb9, hr9⟩)
  clear hr9 hb9 R8 B8 HL HP
  go_upto_region 7 with fail
  go_loopg [8, 9, 10] 2 (fun k s8 s9 s10 wr => ∃ (i : Nat) (b8 b9 : Value) (l p : List Int), i + k = 2 ∧ s10 = .int .i64 i ∧ b8 = s8 ∧ b9 = s9 ∧ BcS w w1 wr b8 b9 l p ∧ l.length ≤ 7 ∧ p.length ≤ 7)
  case atStart => exact ⟨0, _, _, _, _, by omega, rfl, rfl, rfl, S0.out, by simp; omega, by simp; omega⟩
  case round =>
  obtain ⟨i, b8, b9, l, p, hik, rfl, rfl, rfl, hs, hl7, hp7⟩ := hrel
  have HIK := hid hik
  have S := hid hs
  obtain ⟨p8, c8, hv8, _⟩ := hs.rl.form
  obtain ⟨p9, c9, hv9, _⟩ := hs.rp.form
  obtain ⟨nl, hnl⟩ : ∃ nl, nl = l.length := ⟨_, rfl⟩
  obtain ⟨np, hnp⟩ : ∃ np, np = p.length := ⟨_, rfl⟩
  rw [← hnl] at hv8 hl7
  rw [← hnp] at hv9 hp7
  have HNL := hid hnl
  have HNP := hid hnp
  subst hv8 hv9
  clear hik hs hnl hnp S0
  by_cases hi2 : i < 2
  · have gi : (i : Int) < 2 := by omega
    have NW := hid (fun (wx : World) (hb : Below w1.heap.size w1 wx) => N1.out.below hb)
    have CC := hid (content_calls (NW.out wr S.out.b) (S.out.rl.reads encI_len (by rw [← HNL.out]; omega)) (S.out.rp.reads encI_len (by rw [← HNP.out]; omega)))
    clear hi2
    go_wp2_with fail
    refine CC.out.mono ?_
    rintro e w2 ⟨rfl, hb2⟩
    have S2 := hid (S.out.below hb2)
    have RB := hid (rbalance_calls (NW.out w2 S2.out.b) (S2.out.rl.reads encI_len (by rw [← HNL.out]; omega)) (S2.out.rp.reads encI_len (by rw [← HNP.out]; omega)))
    obtain ⟨x1, hx1⟩ : ∃ x1, x1 = (contR L l p).1 := ⟨_, rfl⟩
    obtain ⟨x2, hx2⟩ : ∃ x2, x2 = (contR L l p).2 := ⟨_, rfl⟩
    rw [← hx1, ← hx2] at RB ⊢
    clear hb2 CC hx1 hx2
    go_wp2_with fail
    refine RB.out.mono ?_
    rintro e w3 ⟨rfl, hb3⟩
    have S3 := hid (S2.out.below hb3)
    have g1 : (x1 != x1) = false := by simp
    have g2 : (x2 != x2) = false := by simp
    clear hb3 RB S2
    obtain ⟨wB, hwB⟩ : ∃ wB, wB = w3 := ⟨_, rfl⟩
    rw [← hwB] at S3 ⊢
    clear hwB
    go_upto_block 2 with fail
    go_cut [15] (fun s15 wx => Below wB.heap.size wB wx)
    case first =>
      go_upto_region 14 with fail
      go_loopg [15] (n + 2) (fun k s15 wx => ∃ j : Int, -1 ≤ j ∧ j + (k : Int) = n + 1 ∧ s15 = .int .i64 j ∧ Below wB.heap.size wB wx)
      case atStart => exact ⟨-1, by omega, by omega, rfl, Below.refl _ _⟩
      case round =>
      obtain ⟨j, hj0, hjk, rfl, hbx⟩ := hrel
      have HJK := hid hjk
      have SX := hid (S3.out.below hbx)
      have BX := hid hbx
      clear hjk hbx
      by_cases hjn : j ≤ (n : Int)
      · have WC := hid (wanted_calls j (NW.out wr SX.out.b) (SX.out.rp.reads encI_len (by rw [← HNP.out]; omega)))
        by_cases hqN : np = N
        · subst hqN
          have gN : ((np : Int) != (np : Int)) = false := by simp
          have ew0 : wantedF L p j = if ¬ arP L p = true ∨ j < 0 ∨ (L.length : Int) ≤ j then ([], 1) else (wantsF (L.getD j.toNat []) p, 0) := by
            unfold wantedF
            rw [if_neg (by rw [CK.out]; simp), if_neg (by rw [← HNP.out, ← HNN.out]; simp)]
          rw [ew0] at WC
          have PP := hid (fun (wx : World) (hb : Below w1.heap.size w1 wx) (hp : ReadsE encI 1 wx (.slice p9 np c9) p) => rprices_calls (NW.out wx hb) (by rw [← HN.out]; omega) hp)
          clear ew0
          by_cases hjneg : j < 0
          · rw [if_pos (.inr (.inl hjneg))] at WC
            go_wp2_with fail
            refine WC.out.mono ?_
            rintro e w4 ⟨v4, rfl, hr4, hb4⟩
            have BX4 := hid (BX.out.trans (hb4.mono BX.out.size))
            have k0 := HC1.out w4 (SX.out.below hb4).b
            obtain ⟨p4, c4, hv4, _⟩ := hr4.form
            have hv4' : v4 = .slice p4 0 c4 := hv4
            subst hv4'
            clear hb4 hr4 hv4 WC PP
            go_wp2
            go_roundg ((n : Int) + 1 - (j + 1)).toNat
            · exact ⟨j + 1, by omega, by omega, by go_num, BX4.out⟩
            · have := HJK.out; omega
          · have hj00 : 0 ≤ j := by omega
            by_cases hjn2 : (n : Int) ≤ j
            · rw [if_pos (.inr (.inr (by rw [← HN.out]; exact hjn2)))] at WC
              go_wp2_with fail
              refine WC.out.mono ?_
              rintro e w4 ⟨v4, rfl, hr4, hb4⟩
              have BX4 := hid (BX.out.trans (hb4.mono BX.out.size))
              have k0 := HC1.out w4 (SX.out.below hb4).b
              obtain ⟨p4, c4, hv4, _⟩ := hr4.form
              have hv4' : v4 = .slice p4 0 c4 := hv4
              subst hv4'
              clear hb4 hr4 hv4 WC PP
              go_wp2
              go_roundg ((n : Int) + 1 - (j + 1)).toNat
              · exact ⟨j + 1, by omega, by omega, by go_num, BX4.out⟩
              · have := HJK.out; omega
            · have hjn3 : j < (n : Int) := by omega
              obtain ⟨tt, htt⟩ : ∃ tt, tt = arP L p := ⟨_, rfl⟩
              have HTT := hid htt
              rw [← htt] at WC PP
              clear htt
              cases tt with
              | false =>
                rw [if_pos (.inl (by simp))] at WC
                go_wp2_with fail
                refine WC.out.mono ?_
                rintro e w4 ⟨v4, rfl, hr4, hb4⟩
                have BX4 := hid (BX.out.trans (hb4.mono BX.out.size))
                have SX4 := hid (SX.out.below hb4)
                have k0 := HC1.out w4 SX4.out.b
                have P4 := hid (PP.out w4 SX4.out.b (SX4.out.rp.reads encI_len (by rw [← HNP.out]; omega)))
                obtain ⟨p4, c4, hv4, _⟩ := hr4.form
                have hv4' : v4 = .slice p4 0 c4 := hv4
                subst hv4'
                clear hb4 hr4 hv4 WC PP
                go_wp2_with fail
                refine P4.out.mono ?_
                rintro e w5 ⟨rfl, hb5⟩
                have BX5 := hid (BX4.out.trans (hb5.mono BX4.out.size))
                clear hb5 P4 k0
                go_wp2
                go_roundg ((n : Int) + 1 - (j + 1)).toNat
                · exact ⟨j + 1, by omega, by omega, by go_num, BX5.out⟩
                · have := HJK.out; omega
              | true =>
                rw [if_neg (by rw [← HN.out]; simp; omega)] at WC
                obtain ⟨x, rfl⟩ : ∃ x : Nat, j = (x : Int) := ⟨j.toNat, by omega⟩
                have hxl : x < L.length := by rw [← HN.out]; omega
                have eL : L.getD x [] = L[x] := by simp [hxl]
                rw [show ((x : Int)).toNat = x by simp, eL] at WC
                have okp := hid (arP_iff.1 HTT.out.symm).2
                have RWC := hid (fun (wx : World) (hb : Below w1.heap.size w1 wx) (hp : ReadsE encI 1 wx (.slice p9 np c9) p) => rwanted_calls (NW.out wx hb) hp (by rw [← HNP.out]; exact OK.out) okp.out hxl)
                have WL := hid (show (zl (wantsF L[x] p)).length ≤ 5000 by
                  rw [zl_len]
                  have h1 := wantsH_len (b := gainF L[x] p) L[x] p 0
                  have h2 := OK.out.len _ (List.getElem_mem hxl)
                  unfold wantsF
                  omega)
                obtain ⟨W, hW⟩ : ∃ W, W = wantsF L[x] p := ⟨_, rfl⟩
                rw [← hW] at WC RWC WL
                clear eL hW
                go_wp2_with fail
                refine WC.out.mono ?_
                rintro e w4 ⟨v4, rfl, hr4, hb4⟩
                have BX4 := hid (BX.out.trans (hb4.mono BX.out.size))
                have SX4 := hid (SX.out.below hb4)
                have k0 := HC1.out w4 SX4.out.b
                have P4 := hid (PP.out w4 SX4.out.b (SX4.out.rp.reads encI_len (by rw [← HNP.out]; omega)))
                have R4 := hid hr4
                obtain ⟨p4, c4, hv4, _⟩ := hr4.form
                obtain ⟨nw, hnw⟩ : ∃ nw, nw = (zl W).length := ⟨_, rfl⟩
                rw [← hnw] at hv4
                subst hv4
                clear hb4 hr4 WC PP hnw
                go_wp2_with fail
                refine P4.out.mono ?_
                rintro e w5 ⟨rfl, hb5⟩
                have BX5 := hid (BX4.out.trans (hb5.mono BX4.out.size))
                have SX5 := hid (SX4.out.below hb5)
                have R5 := hid (R4.out.below hb5)
                have W5 := hid (RWC.out w5 SX5.out.b (SX5.out.rp.reads encI_len (by rw [← HNP.out]; omega)))
                clear hb5 P4 k0 R4 RWC
                go_wp2_with fail
                refine W5.out.mono ?_
                rintro e w6 ⟨v6, rfl, hr6, hb6⟩
                have BX6 := hid (BX5.out.trans (hb6.mono BX5.out.size))
                have IC := hid (ints_calls ((R5.out.below hb6).reads encI_len (by have := WL.out; omega)) (hr6.reads encI_len (by have := WL.out; omega)))
                clear hb6 W5 hr6
                go_wp2_with fail
                refine IC.out.mono ?_
                rintro e w7 ⟨rfl, hb7⟩
                have BX7 := hid (BX6.out.trans (hb7.mono BX6.out.size))
                clear hb7 IC
                go_wp2
                go_roundg ((n : Int) + 1 - ((x : Int) + 1)).toNat
                · exact ⟨(x : Int) + 1, by omega, by omega, by go_num, BX7.out⟩
                · have := HJK.out; omega
        · have gN : ((np : Int) != (N : Int)) = true := by simp; omega
          have ew : wantedF L p j = ([], 7) := by
            unfold wantedF
            rw [if_neg (by rw [CK.out]; simp), if_pos (by rw [← HNP.out, ← HNN.out]; exact hqN)]
          rw [ew] at WC
          clear ew hqN
          go_wp2_with fail
          refine WC.out.mono ?_
          rintro e w4 ⟨v4, rfl, hr4, hb4⟩
          have BX4 := hid (BX.out.trans (hb4.mono BX.out.size))
          have k0 := HC1.out w4 (SX.out.below hb4).b
          obtain ⟨p4, c4, hv4, _⟩ := hr4.form
          have hv4' : v4 = .slice p4 0 c4 := hv4
          subst hv4'
          clear hb4 hr4 hv4 WC
          go_wp2
          go_roundg ((n : Int) + 1 - (j + 1)).toNat
          · exact ⟨j + 1, by omega, by omega, by go_num, BX4.out⟩
          · have := HJK.out; omega
      have gjn : decide (j ≤ (n : Int)) = false := by simp; omega
      go_wp2
      go_meet
      exact BX.out
    case rest =>
    obtain ⟨wC, hwC⟩ : ∃ wC, wC = wc := ⟨_, rfl⟩
    rw [← hwC] at hcut ⊢
    have SX := hid (S3.out.below hcut)
    clear hwC hcut S3 S
    go_upto_block 5 with fail
    go_cut [8] (fun s8 wx => ∃ (p8' : Option Addr) (n8 c8' : Nat) (l' : List Int), s8 = .slice p8' n8 c8' ∧ BcS w w1 wx (.slice p8' n8 c8') (.slice p9 np c9) l' p ∧ n8 = l'.length ∧ n ≤ n8 ∧ n8 ≤ 7)
    case first =>
      go_upto_region 25 with fail
      go_loopg [8] n (fun k s8 wx => ∃ (K : Nat) (b8 : Value) (l' : List Int), K = k ∧ b8 = s8 ∧ BcS w w1 wx b8 (.slice p9 np c9) l' p ∧ n ≤ l'.length + K ∧ l'.length ≤ 7)
      case atStart => exact ⟨_, _, l, rfl, rfl, SX.out, by omega, by rw [← HNL.out]; exact hl7⟩
      case round =>
      obtain ⟨K, b8, l', hK, rfl, hs, hnl', hl7'⟩ := hrel
      obtain ⟨p8', c8', hv8, _⟩ := hs.rl.form
      obtain ⟨n8, hn8⟩ : ∃ n8, n8 = l'.length := ⟨_, rfl⟩
      rw [← hn8] at hv8
      have HK := hid hK
      have SL := hid hs
      subst hv8
      rw [← hn8] at hnl' hl7'
      have HN8 := hid hn8
      clear hK hs hn8
      by_cases hlt : n8 < n
      · obtain ⟨v', w', r1, r2⟩ := SL.out.appL (-1) (by rw [← HN8.out]; omega)
        have R1 := hid r1
        have R2 := hid r2
        have glt : (n8 : Int) < (n : Int) := by omega
        clear r1 r2
        go_wp2_with (at_builtin; refine wpList_append_run rfl (.tmp 128) (.tmp 129) 27 rfl _ _ v' w' rfl rfl R1.out ?_)
        go_roundg (K - 1)
        · exact ⟨K - 1, _, l' ++ [-1], rfl, rfl, R2.out, by simp; rw [← HN8.out]; omega, by simp; rw [← HN8.out]; omega⟩
        · have := HK.out; omega
      · have gle : (n : Int) ≤ (n8 : Int) := by omega
        have F := hid (show ∃ (p8'' : Option Addr) (n8' c8'' : Nat) (l' : List Int), Value.slice p8' n8 c8' = .slice p8'' n8' c8'' ∧ BcS w w1 wr (.slice p8'' n8' c8'') (.slice p9 np c9) l' p ∧ n8' = l'.length ∧ n ≤ n8' ∧ n8' ≤ 7 from ⟨_, _, _, l', rfl, SL.out, HN8.out, by omega, hl7'⟩)
        clear hlt
        go_wp2
        go_meet
        exact F.out
    case rest =>
    obtain ⟨p8', n8, c8', l', rfl, hs, hn8, hn8a, hn8b⟩ := hcut
    obtain ⟨wD, hwD⟩ : ∃ wD, wD = wc := ⟨_, rfl⟩
    rw [← hwD] at hs ⊢
    have SD := hid hs
    have HN8 := hid hn8
    clear hwD hs SX hn8
    go_upto_block 7 with fail
    go_cut [9] (fun s9 wx => ∃ (p9' : Option Addr) (n9 c9' : Nat) (p' : List Int), s9 = .slice p9' n9 c9' ∧ BcS w w1 wx (.slice p8' n8 c8') (.slice p9' n9 c9') l' p' ∧ n9 = p'.length ∧ N ≤ n9 ∧ n9 ≤ 7)
    case first =>
      go_upto_region 27 with fail
      go_loopg [9] N (fun k s9 wx => ∃ (K : Nat) (b9 : Value) (p' : List Int), K = k ∧ b9 = s9 ∧ BcS w w1 wx (.slice p8' n8 c8') b9 l' p' ∧ N ≤ p'.length + K ∧ p'.length ≤ 7)
      case atStart => exact ⟨_, _, p, rfl, rfl, SD.out, by omega, by rw [← HNP.out]; exact hp7⟩
      case round =>
      obtain ⟨K, b9, p', hK, rfl, hs, hnp', hp7'⟩ := hrel
      obtain ⟨p9', c9', hv9, _⟩ := hs.rp.form
      obtain ⟨n9, hn9⟩ : ∃ n9, n9 = p'.length := ⟨_, rfl⟩
      rw [← hn9] at hv9
      have HK := hid hK
      have SP := hid hs
      have k0 := HC1.out wr hs.b
      subst hv9
      rw [← hn9] at hnp' hp7'
      have HN9 := hid hn9
      clear hK hs hn9
      by_cases hlt : n9 < N
      · obtain ⟨v', w', r1, r2⟩ := SP.out.appP 0 (by rw [← HN9.out]; omega)
        have R1 := hid r1
        have R2 := hid r2
        have glt : (n9 : Int) < (N : Int) := by omega
        clear r1 r2
        go_wp2_with (at_builtin; refine wpList_append_run rfl (.tmp 138) (.tmp 139) 22 rfl _ _ v' w' rfl rfl R1.out ?_)
        go_roundg (K - 1)
        · exact ⟨K - 1, _, p' ++ [0], rfl, rfl, R2.out, by simp; rw [← HN9.out]; omega, by simp; rw [← HN9.out]; omega⟩
        · have := HK.out; omega
      · have gle : (N : Int) ≤ (n9 : Int) := by omega
        have F := hid (show ∃ (p9'' : Option Addr) (n9' c9'' : Nat) (p'' : List Int), Value.slice p9' n9 c9' = .slice p9'' n9' c9'' ∧ BcS w w1 wr (.slice p8' n8 c8') (.slice p9'' n9' c9'') l' p'' ∧ n9' = p''.length ∧ N ≤ n9' ∧ n9' ≤ 7 from ⟨_, _, _, p', rfl, SP.out, HN9.out, by omega, hp7'⟩)
        clear hlt
        go_wp2
        go_meet
        exact F.out
    case rest =>
    obtain ⟨p9', n9, c9', p', rfl, hs, hn9, hn9a, hn9b⟩ := hcut
    obtain ⟨wE, hwE⟩ : ∃ wE, wE = wc := ⟨_, rfl⟩
    rw [← hwE] at hs ⊢
    have hcap8 := own_cap hs.rl
    have hcap9 := own_cap hs.rp
    have SE := hid (hs.takes (a := n) (b := N) (by rw [← HN8.out]; exact hn8a) (by omega))
    have k0 := HC1.out wE hs.b
    have HT8 := hid (show (l'.take n).length = n by rw [List.length_take]; have := HN8.out; omega)
    have HT9 := hid (show (p'.take N).length = N by rw [List.length_take]; omega)
    obtain ⟨l2, hl2⟩ : ∃ l2, l2 = l'.take n := ⟨_, rfl⟩
    obtain ⟨p2, hp2⟩ : ∃ p2, p2 = p'.take N := ⟨_, rfl⟩
    rw [← hl2] at SE HT8
    rw [← hp2] at SE HT9
    have gs1 : (n : Int) ≤ (c8' : Int) := by omega
    have gs2 : (N : Int) ≤ (c9' : Int) := by omega
    have gs0 : (0 : Int) ≤ (n : Int) := by omega
    have gs3 : (0 : Int) ≤ (N : Int) := by omega
    clear hwE hs SD hn9 hl2 hp2
    go_upto_region 29 with fail
    go_quiet (fail)
    have SF := hid (SE.out.drewN nq)
    obtain ⟨wF, hwF⟩ : ∃ wF, wF = wE.drewN nq := ⟨_, rfl⟩
    rw [← hwF] at SF ⊢
    clear hwF SE k0
    go_upto_block 9 with fail
    go_cut [18] (fun s18 wx => ∃ p3 : List Int, BcS w w1 wx (.slice p8' n c8') (.slice p9' N c9') l2 p3 ∧ p3.length = N)
    case first =>
      go_upto_region 31 with fail
      go_loopg [18] N (fun k s18 wx => ∃ (q : Nat) (p3 : List Int), q + k = N ∧ s18 = .int .i64 q ∧ BcS w w1 wx (.slice p8' n c8') (.slice p9' N c9') l2 p3 ∧ p3.length = N)
      case atStart => exact ⟨0, p2, by omega, rfl, SF.out, HT9.out⟩
      case round =>
      obtain ⟨q, p3, hqk, rfl, hs, hp3⟩ := hrel
      have HQK := hid hqk
      have SG := hid hs
      have HP3 := hid hp3
      clear hqk hs hp3
      by_cases hqN : q < N
      · have hq3 : q < p3.length := by rw [HP3.out]; exact hqN
        obtain ⟨g9, rfl, cx, fx⟩ := own_at SG.out.rp hq3
        have gq : (q : Int) < (N : Int) := by omega
        have gq0 : (0 : Int) ≤ (q : Int) := by omega
        obtain ⟨x, hx⟩ : ∃ x, x = p3[q] := ⟨_, rfl⟩
        rw [← hx] at cx
        have SM := hid (small_calls x 10 (by omega) (by omega) wr)
        have S2 := hid (SG.out.putP q (smlF x 10))
        have HP4 := hid (show (p3.set q (smlF x 10)).length = N by rw [List.length_set]; exact HP3.out)
        clear hx
        go_wp2_with fail
        refine SM.out.mono ?_
        rintro e w8 ⟨rfl, hw8⟩
        rw [hw8]
        clear hw8 SM
        go_wp2
        go_roundg (N - (q + 1))
        · exact ⟨q + 1, _, by omega, by go_num, S2.out, HP4.out⟩
        · have := HQK.out; omega
      · obtain rfl : q = N := by have := HQK.out; omega
        have g2 : decide ((q : Int) < (q : Int)) = false := by simp
        go_wp2
        go_meet
        exact ⟨p3, SG.out, HP3.out⟩
    case rest =>
    obtain ⟨p3, hs, hp3⟩ := hcut
    obtain ⟨wG, hwG⟩ : ∃ wG, wG = wc := ⟨_, rfl⟩
    rw [← hwG] at hs ⊢
    have SG := hid hs
    have HP3 := hid hp3
    clear hwG hs SF hp3 HT9
    go_upto_region 35 with fail
    go_loopg [19] n (fun k s19 wx => ∃ (q : Nat) (l3 : List Int), q + k = n ∧ s19 = .int .i64 q ∧ BcS w w1 wx (.slice p8' n c8') (.slice p9' N c9') l3 p3 ∧ l3.length = n)
    case atStart => exact ⟨0, l2, by omega, rfl, SG.out, HT8.out⟩
    case round =>
    obtain ⟨q, l3, hqk, rfl, hs, hl3⟩ := hrel
    have HQK := hid hqk
    have SH := hid hs
    have HL3 := hid hl3
    clear hqk hs hl3
    by_cases hqN : q < n
    · have hq3 : q < l3.length := by rw [HL3.out]; exact hqN
      obtain ⟨g8, rfl, cx, fx⟩ := own_at SH.out.rl hq3
      have gq : (q : Int) < (n : Int) := by omega
      have gq0 : (0 : Int) ≤ (q : Int) := by omega
      obtain ⟨x, hx⟩ : ∃ x, x = l3[q] := ⟨_, rfl⟩
      rw [← hx] at cx
      have S2 := hid (SH.out.putL q (-1))
      have HL4 := hid (show (l3.set q (-1)).length = n by rw [List.length_set]; exact HL3.out)
      clear hx
      by_cases hx1 : (N : Int) ≤ x
      · go_wp2
        go_roundg (n - (q + 1))
        · exact ⟨q + 1, _, by omega, by go_num, S2.out, HL4.out⟩
        · have := HQK.out; omega
      · have hx1' : x < (N : Int) := by omega
        by_cases hx2 : x < -1
        · clear hx1
          go_wp2
          go_roundg (n - (q + 1))
          · exact ⟨q + 1, _, by omega, by go_num, S2.out, HL4.out⟩
          · have := HQK.out; omega
        · have hx3 : -1 ≤ x := by omega
          clear hx1 hx2
          go_wp2
          go_roundg (n - (q + 1))
          · exact ⟨q + 1, l3, by omega, by go_num, SH.out, HL3.out⟩
          · have := HQK.out; omega
    · obtain rfl : q = n := by have := HQK.out; omega
      have g2 : decide ((q : Int) < (q : Int)) = false := by simp
      go_wp2
      go_roundg (2 - (i + 1))
      · exact ⟨i + 1, _, _, l3, p3, by omega, by go_num, rfl, rfl, SH.out, by rw [HL3.out]; omega, by rw [HP3.out]; omega⟩
      · have := HIK.out; omega
  · obtain rfl : i = 2 := by have := HIK.out; omega
    have B2 := hid (B1.out.trans (S.out.b.mono B1.out.size))
    have AW := hid (awake_calls (TO.out.below B2.out))
    go_wp2_with fail
    refine AW.out.mono ?_
    rintro e w8 ⟨rfl, hb8⟩
    have F := hid (FN.out w8 (B2.out.trans (hb8.mono B2.out.size)))
    clear hb8 AW FN
    go_wp2
    first | exact F.out | (go_ret; exact F.out)
end Go.Proofs.YtojednnciknhpaaDoor
