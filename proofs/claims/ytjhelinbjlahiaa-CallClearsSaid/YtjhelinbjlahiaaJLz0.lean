/- CallClears: the walk. -/
import Derived.Test.YtjhelinbjlahiaaJMo0
import Derived.Test.YtjhelinbjlahiaaJLg0
import Derived.Test.YtjhelinbjlahiaaJLp0
import Derived.Test.YtjhelinbjlahiaaJLu0
import Derived.Test.YtjhelinbjlahiaaJZe3
namespace Go.Proofs.Ytjhelinbjlahiaa
set_option linter.unusedSimpArgs false
set_option linter.unusedVariables false
open Go.RowKit
attribute [local go_sem] Oper.semAt_some
attribute [local go_sem ↓] Go.wp_at_zero Go.wp_at_succ
def okX (r x : Int) : Prop := (r = 1 ∨ r = 2) ∧ 1 ≤ x ∧ x ≤ 1000000
instance (r x : Int) : Decidable (okX r x) := by unfold okX; infer_instance
theorem clear_cases {l : List Bd} (hl : l.length ≤ 4096) (hok : ∀ b ∈ l, b.ok) (x rule : Int) :
    (¬ okX rule x ∧ clearF l x rule = ⟨0, 0, 0, [], 1⟩) ∨ (okX rule x ∧ priceZ (zonesL l) x = 0 ∧ clearF l x rule = ⟨0, 0, 0, [], 30⟩) ∨
    (okX rule x ∧ ∃ P, P = priceZ (zonesL l) x ∧ P ≠ 0 ∧ (1 ≤ P ∧ P ≤ 1000000) ∧ clearF l x rule = ⟨P, min (dem l P) (sup l P), dem l P - sup l P, fillsL l P (min (dem l P) (sup l P)) rule, 0⟩) := by
  by_cases hb : okX rule x
  · obtain ⟨hr, hx⟩ := hb
    have e := clearF_eq hl hok hx hr
    by_cases hm : most l = 0
    · have p := price_zero hok hl x hm
      exact .inr (.inl ⟨⟨hr, hx⟩, p, by rw [e, if_pos (.inl p)]⟩)
    · obtain ⟨z, hz, _, h1, h2, h3⟩ := price_best hok hl x hm
      obtain ⟨z1, z2, z3, _⟩ := (zonesL_ok hl hok).1 z (keptF_sub _ (keptF_sub _ hz))
      refine .inr (.inr ⟨⟨hr, hx⟩, _, rfl, by omega, by omega, ?_⟩)
      rw [e, if_neg]
      rintro (q | q)
      · omega
      · unfold volX at h3; omega
  · refine .inl ⟨hb, ?_⟩
    unfold clearF
    rw [if_neg (by rw [chk_ok hl hok]; decide), if_neg]
    rintro ⟨q1, q2⟩
    rw [inC_of] at q1
    exact hb ⟨q2, by simpa using q1⟩
theorem clearAt_cases {l : List Bd} (hl : l.length ≤ 4096) (hok : ∀ b ∈ l, b.ok) (x rule : Int) :
    (¬ okX rule x ∧ clearAtF l x rule = ⟨0, 0, 0, [], 1⟩) ∨ (okX rule x ∧ min (dem l x) (sup l x) = 0 ∧ clearAtF l x rule = ⟨0, 0, 0, [], 30⟩) ∨
    (okX rule x ∧ min (dem l x) (sup l x) ≠ 0 ∧ clearAtF l x rule = ⟨x, min (dem l x) (sup l x), dem l x - sup l x, fillsL l x (min (dem l x) (sup l x)) rule, 0⟩) := by
  by_cases hb : okX rule x
  · obtain ⟨hr, hx⟩ := hb
    have e : clearAtF l x rule = clrF l x rule := by
      unfold clearAtF
      rw [if_neg (by rw [chk_ok hl hok]; decide), if_pos ⟨by rw [inC_of]; simpa using hx, hr⟩]
    unfold clrF at e
    by_cases hm : min (dem l x) (sup l x) = 0
    · rw [if_pos hm] at e; exact .inr (.inl ⟨⟨hr, hx⟩, hm, e⟩)
    · rw [if_neg hm] at e; exact .inr (.inr ⟨⟨hr, hx⟩, hm, e⟩)
  · refine .inl ⟨hb, ?_⟩
    unfold clearAtF
    rw [if_neg (by rw [chk_ok hl hok]; decide), if_neg]
    rintro ⟨q1, q2⟩
    rw [inC_of] at q1
    exact hb ⟨q2, by simpa using q1⟩
theorem set2_spec {w : World} {B : Nat} {a0 a1 : Value} {ty : TypeId} (h : Cells w B #[a0, a1] ty) (v0 v1 : Value) : Cells ((w.setCell ⟨B, 0, none⟩ v0).setCell ⟨B, 1, none⟩ v1) B #[v0, v1] ty ∧ Kept (fun k => k = B) w ((w.setCell ⟨B, 0, none⟩ v0).setCell ⟨B, 1, none⟩ v1) := by
  refine ⟨?_, (set_kept w B 0 v0).trans (set_kept _ _ 1 v1) (fun _ _ e => e)⟩
  have := (h.set 0 v0).set 1 v1
  exact this
/-- What stands ahead of a round. -/
structure CzS (w : World) (O : List Bd) (pO pC : Option Addr) (n cO cC : Nat) (c0 c1 : Int) (wx : World) : Prop where
  box : Cells wx w.heap.size #[.int .i64 c0, .int .i64 c1] 43
  own : RowR (w.heap.size + 1) wx (.slice pO n cO) O
  giv : RowC (w.heap.size + 1) wx (.slice pC n cC) O
  below : Below w.heap.size w wx
theorem CzS.on {w : World} {O : List Bd} {pO pC : Option Addr} {n cO cC : Nat} {c0 c1 : Int} {wx wy : World} (s : CzS w O pO pC n cO cC c0 c1 wx) (hb : Below wx.heap.size wx wy) : CzS w O pO pC n cO cC c0 c1 wy :=
  ⟨s.box.below hb s.box.lt, OwnE.below s.own hb, OwnE.below s.giv hb, s.below.trans (hb.mono s.below.size)⟩
theorem CzS.set {w : World} {O : List Bd} {pO pC : Option Addr} {n cO cC : Nat} {c0 c1 : Int} {wx : World} (s : CzS w O pO pC n cO cC c0 c1 wx) (d0 d1 : Int) : CzS w O pO pC n cO cC d0 d1 ((wx.setCell ⟨w.heap.size, 0, none⟩ (.int .i64 d0)).setCell ⟨w.heap.size, 1, none⟩ (.int .i64 d1)) := by
  obtain ⟨q1, q2⟩ := set2_spec s.box (.int .i64 d0) (.int .i64 d1)
  refine ⟨q1, OwnE.kept s.own q2 (fun b hb e => ?_), OwnE.kept s.giv q2 (fun b hb e => ?_), s.below.trans (q2.below s.below.size (fun k e => by omega))⟩
  · have := OwnE.own_ge s.own hb.symm; omega
  · have := OwnE.own_ge s.giv hb.symm; omega

set_option maxRecDepth 100000 in
set_option maxHeartbeats 8000000 in
theorem clears_law (w : World) (v : Value) (l : List Bd) (hv : ArgE encBd 3 w v l) (a0 a1 rule : Int) :
    Calls Try.prog 5 #[v, .agg #[.int .i64 a0, .int .i64 a1], .int .i64 rule] w fun e w' => e = .returned (.bool true) ∧ Below w.heap.size w w' := by
  obtain ⟨R, hR⟩ : ∃ R : Ending → World → Prop, R = fun e w' => e = .returned (.bool true) ∧ Below w.heap.size w w' := ⟨_, rfl⟩
  rw [← hR]
  have FN := hid (show ∀ w', Below w.heap.size w w' → R (.returned (.bool true)) w' from fun w' h => by rw [hR]; exact ⟨rfl, h⟩)
  clear hR
  obtain ⟨wb, hwb⟩ : ∃ wb, wb = w.alloc (.cells #[.int .i64 a0, .int .i64 a1] 43) := ⟨_, rfl⟩
  have BB := hid (show Below w.heap.size w wb by rw [hwb]; exact (Below.refl _ _).alloc (Nat.le_refl _) _)
  have c5 : Cells wb w.heap.size #[.int .i64 a0, .int .i64 a1] 43 := by rw [hwb]; exact Cells.new w _ _
  have hws : wb.heap.size = w.heap.size + 1 := by rw [hwb]; simp
  have HWB := hid hwb
  have TM := hid (tame_calls ((hv.src encBd_len (by omega)).below BB.out) 30 (by omega))
  rw [hws] at TM
  obtain ⟨O, hO⟩ : ∃ O, O = tameL 30 l := ⟨_, rfl⟩
  have hOk : ∀ b ∈ O, b.ok := by rw [hO]; exact tameL_ok 30 l
  have hOl : O.length ≤ 30 := by rw [hO]; exact tameL_len 30 l
  rw [← hO] at TM
  have HOK := hid hOk
  have AW := hid awake_calls
  have C5 := hid c5
  have HWS := hid hws
  clear hO hv hOk hwb c5 hws
  go_enter Try.func5, Try.ntmps5
  go_upto_region 1 with fail
  try rw [← HWB.out]
  go_wp2_with fail
  refine TM.out.mono ?_
  rintro e w2 ⟨v2, rfl, hr2, hb2⟩
  obtain ⟨pO, cO, hvO, _⟩ := hr2.form
  obtain ⟨n, hn⟩ : ∃ n, n = O.length := ⟨_, rfl⟩
  rw [← hn] at hvO hOl
  subst hvO
  have HN := hid hn
  rw [← HWS.out] at hb2
  have B2 := hid hb2
  have R2 := hid hr2
  have GV := hid (give_calls (OwnE.reads encBd_len hr2 (by omega)) (by omega))
  clear hr2 hb2 TM hn
  go_wp2_with fail
  refine GV.out.mono ?_
  rintro e w3 ⟨v3, rfl, hr3, hb3⟩
  obtain ⟨pC, cC, hvC, _⟩ := hr3.form
  rw [← HN.out] at hvC
  subst hvC
  have S3 := hid (show CzS w O pO pC n cO cC a0 a1 w3 from
    have b23 : Below wb.heap.size wb w3 := B2.out.trans (hb3.mono B2.out.size)
    ⟨C5.out.below b23 C5.out.lt, OwnE.below R2.out hb3, hr3.mono (by have := B2.out.size; have := HWS.out; omega), BB.out.trans (b23.mono BB.out.size)⟩)
  clear hr3 hb3 GV R2 B2 C5 BB HWB HWS
  go_upto_region 4 with fail
  go_loopg [2, 9] 2 (fun k s2 s9 wx => ∃ (i : Nat) (r c0 c1 : Int), i + k = 2 ∧ s9 = .int .i64 i ∧ s2 = .int .i64 r ∧ CzS w O pO pC n cO cC c0 c1 wx)
  case atStart => exact ⟨0, rule, a0, a1, rfl, rfl, rfl, S3.out⟩
  case round =>
    obtain ⟨i, r, c0, c1, hik, rfl, rfl, hs⟩ := hrel
    have HIK := hid hik
    have SS := hid hs
    clear hik hs S3
    by_cases hi : i = 2
    · subst hi
      go_wp2_with fail
      refine (AW.out _).mono ?_
      rintro e w5 ⟨rfl, hb5⟩
      have F := hid (FN.out w5 (SS.out.below.trans (hb5.mono SS.out.below.size)))
      clear hb5
      go_wp2
      first | exact F.out | (go_ret; exact F.out)
    · have gi : (i : Int) < 2 := by have := HIK.out; omega
      have hi2 : i < 2 := by omega
      have hln : O.length ≤ 4096 := by rw [← HN.out]; omega
      have x0 : wr.cell? ⟨w.heap.size, 0, none⟩ = some (.int .i64 c0) := by rw [SS.out.box.cell]; rfl
      have CL := hid (clear_calls (OwnE.reads encBd_len SS.out.giv (by rw [← HN.out]; omega)) c0 r)
      have K1 := hid (clear_cases hln HOK.out c0 r)
      have K2 := hid (clearAt_cases hln HOK.out c1 r)
      obtain ⟨r1, hr1⟩ : ∃ y, y = clearF O c0 r := ⟨_, rfl⟩
      rw [← hr1] at CL K1
      clear hr1 hi
      go_wp2_with fail
      refine CL.out.mono ?_
      rintro e w4 ⟨⟨vf, rfl, hrf⟩, hb4⟩
      obtain ⟨pf, cf, hvf, _⟩ := hrf.form
      subst hvf
      obtain ⟨wa, hwa⟩ : ∃ wa, wa = w4.alloc (.cells #[.int .i64 r1.p, .int .i64 r1.v, .int .i64 r1.s, .slice pf r1.f.length cf] 26) := ⟨_, rfl⟩
      have BA := hid (show Below wr.heap.size wr wa by rw [hwa]; exact hb4.alloc hb4.size _)
      have CA := hid (show Cells wa w4.heap.size #[.int .i64 r1.p, .int .i64 r1.v, .int .i64 r1.s, .slice pf r1.f.length cf] 26 by rw [hwa]; exact Cells.new w4 _ _)
      have RFA := hid (show RowI wr.heap.size wa (.slice pf r1.f.length cf) r1.f by rw [hwa]; exact hrf.alloc _)
      have HWA := hid hwa
      have SA := hid (SS.out.on BA.out)
      have x1 : wa.cell? ⟨w.heap.size, 1, none⟩ = some (.int .i64 c1) := by rw [SA.out.box.cell]; rfl
      clear hwa hrf hb4 CL
      have CL := hid (clearAt_calls (OwnE.reads encBd_len SA.out.giv (by rw [← HN.out]; omega)) c1 r)
      obtain ⟨r2, hr2⟩ : ∃ y, y = clearAtF O c1 r := ⟨_, rfl⟩
      rw [← hr2] at CL K2
      clear hr2
      go_upto_region 7 with fail
      rw [← HWA.out]
      go_wp2_with fail
      refine CL.out.mono ?_
      rintro e w5 ⟨⟨vg, rfl, hrg⟩, hb5⟩
      obtain ⟨pg, cg, hvg, _⟩ := hrg.form
      subst hvg
      obtain ⟨wq, hwq⟩ : ∃ wq, wq = w5.alloc (.cells #[.int .i64 r2.p, .int .i64 r2.v, .int .i64 r2.s, .slice pg r2.f.length cg] 26) := ⟨_, rfl⟩
      have BQ := hid (show Below wa.heap.size wa wq by rw [hwq]; exact hb5.alloc hb5.size _)
      have CQ := hid (show Cells wq w5.heap.size #[.int .i64 r2.p, .int .i64 r2.v, .int .i64 r2.s, .slice pg r2.f.length cg] 26 by rw [hwq]; exact Cells.new w5 _ _)
      have RGQ := hid (show RowI wa.heap.size wq (.slice pg r2.f.length cg) r2.f by rw [hwq]; exact hrg.alloc _)
      have HWQ := hid hwq
      have SQ := hid (SA.out.on BQ.out)
      have CAQ := hid (CA.out.below BQ.out CA.out.lt)
      have RFQ := hid (OwnE.below RFA.out BQ.out)
      clear hwq hrg hb5 CL x0 x1
      go_upto_region 8 with fail
      rw [← HWQ.out]
      obtain ⟨ga, hga⟩ : ∃ g, g = w4.heap.size := ⟨_, rfl⟩
      obtain ⟨gq, hgq⟩ : ∃ g, g = w5.heap.size := ⟨_, rfl⟩
      rw [← hga] at CAQ ⊢
      rw [← hgq] at CQ ⊢
      clear hga hgq HWQ HWA CA SA RFA SS BA BQ
      obtain ⟨tb, htb⟩ : ∃ t, t = !decide (r = 1 ∨ r = 2) := ⟨_, rfl⟩
      have HTB := hid htb
      clear htb
      go_cut [14] (fun s14 wx => s14 = .bool tb ∧ wx = wq)
      case first =>
        by_cases h1 : r = 1
        · have e : tb = false := by rw [HTB.out]; simp [h1]
          subst e
          subst h1
          go_wp2
          go_meet
          exact ⟨rfl, rfl⟩
        · by_cases h2 : r = 2
          · have e : tb = false := by rw [HTB.out]; simp [h2]
            subst e
            subst h2
            go_wp2
            go_meet
            exact ⟨rfl, rfl⟩
          · have e : tb = true := by rw [HTB.out]; simp [h1, h2]
            subst e
            have e1 : (r == 1) = false := by simpa using h1
            have e2 : (r == 2) = false := by simpa using h2
            have e3 : (r != 1 && r != 2) = true := by simp [h1, h2]
            go_wp2
            go_meet
            exact ⟨by first | rfl | rw [e3], rfl⟩
      case rest =>
      obtain ⟨rfl, hwc⟩ := hcut
      obtain rfl : wq = wc := hwc.symm
      have x0 : wq.cell? ⟨w.heap.size, 0, none⟩ = some (.int .i64 c0) := by rw [SQ.out.box.cell]; rfl
      obtain ⟨t1, ht1⟩ : ∃ t, t = !decide (okX r c0) := ⟨_, rfl⟩
      have HT1 := hid ht1
      clear ht1
      go_upto_region 9 with fail
      go_cut [58] (fun s58 wx => s58 = .bool t1 ∧ wx = wq)
      case first =>
        cases tb with
        | true =>
          have hn : ¬ (r = 1 ∨ r = 2) := fun h => by
            have := HTB.out
            rw [decide_eq_true h] at this
            cases this
          have e : t1 = true := by rw [HT1.out, decide_eq_false (fun h : okX r c0 => hn h.1)]; rfl
          clear hn
          subst e
          go_wp2
          go_meet
          exact ⟨rfl, rfl⟩
        | false =>
          have hr : r = 1 ∨ r = 2 := by
            by_cases h : r = 1 ∨ r = 2
            · exact h
            · have := HTB.out
              rw [decide_eq_false h] at this
              cases this
          by_cases h1 : c0 < 1
          · have e : t1 = true := by rw [HT1.out, decide_eq_false (fun h : okX r c0 => by have := h.2; omega)]; rfl
            subst e
            go_wp2
            go_meet
            exact ⟨rfl, rfl⟩
          · by_cases h2 : 1000000 < c0
            · have e : t1 = true := by rw [HT1.out, decide_eq_false (fun h : okX r c0 => by have := h.2; omega)]; rfl
              subst e
              go_wp2
              go_meet
              exact ⟨rfl, rfl⟩
            · have e : t1 = false := by rw [HT1.out, decide_eq_true (show okX r c0 from ⟨hr, by omega, by omega⟩)]; rfl
              subst e
              clear hr
              go_wp2
              go_meet
              exact ⟨rfl, rfl⟩
      case rest =>
      obtain ⟨rfl, hwc⟩ := hcut
      obtain rfl : wq = wc := hwc.symm
      go_upto_if 58 with fail
      go_cut [] (fun wx => Below wq.heap.size wq wx)
      case first =>
        rcases K1.out with ⟨k1, k2⟩ | ⟨k1, k2, k3⟩ | ⟨k1, P, k2, k3, k4, k5⟩
        · have e : t1 = true := by rw [HT1.out]; simp [k1]
          subst e
          have y0 : wq.cell? ⟨ga, 0, none⟩ = some (.int .i64 0) := by rw [CAQ.out.cell, k2]; rfl
          have y1 : wq.cell? ⟨ga, 1, none⟩ = some (.int .i64 0) := by rw [CAQ.out.cell, k2]; rfl
          have y2 : wq.cell? ⟨ga, 2, none⟩ = some (.int .i64 0) := by rw [CAQ.out.cell, k2]; rfl
          have y3 : wq.cell? ⟨ga, 3, none⟩ = some (.slice pf 0 cf) := by rw [CAQ.out.cell, k2]; rfl
          have q1 : (r1.e == 1) = true := by rw [k2]; rfl
          have q2 : (r1.e != 1) = false := by rw [k2]; rfl
          have NT := hid (nothing_calls pf cf wq)
          clear k1 k2
          go_wp2_with fail
          refine NT.out.mono ?_
          rintro e w6 ⟨rfl, hb6⟩
          have F := hid hb6
          clear hb6
          go_wp2
          go_meet
          exact F.out
        · have e : t1 = false := by rw [HT1.out]; simp [k1]
          subst e
          have PR := hid (rprice_calls (OwnE.reads encBd_len SQ.out.own (by rw [← HN.out]; omega)) hln HOK.out (ref := c0) k1.2)
          rw [k2] at PR
          have q1 : (r1.e == 30) = true := by rw [k3]; rfl
          have q2 : (r1.e != 30) = false := by rw [k3]; rfl
          have KC := hid (show ∀ wh, Below wq.heap.size wq wh → wh.cell? ⟨ga, 0, none⟩ = some (.int .i64 0) ∧ wh.cell? ⟨ga, 1, none⟩ = some (.int .i64 0) ∧ wh.cell? ⟨ga, 2, none⟩ = some (.int .i64 0) ∧ wh.cell? ⟨ga, 3, none⟩ = some (.slice pf 0 cf) from fun wh hb => by
            have q := CAQ.out.below hb CAQ.out.lt
            rw [k3] at q
            refine ⟨?_, ?_, ?_, ?_⟩ <;> (rw [q.cell]; rfl))
          clear k1 k2 k3
          go_wp2_with fail
          refine PR.out.mono ?_
          rintro e w6 ⟨rfl, hb6⟩
          have y := KC.out _ hb6
          obtain ⟨y0, y1, y2, y3⟩ := y
          have NT := hid (nothing_calls pf cf w6)
          have B6 := hid hb6
          clear hb6 PR
          go_wp2_with fail
          refine NT.out.mono ?_
          rintro e w7 ⟨rfl, hb7⟩
          have F := hid (B6.out.trans (hb7.mono B6.out.size))
          clear hb7
          go_wp2
          go_meet
          exact F.out
        · have e : t1 = false := by rw [HT1.out]; simp [k1]
          subst e
          have PR := hid (rprice_calls (OwnE.reads encBd_len SQ.out.own (by rw [← HN.out]; omega)) hln HOK.out (ref := c0) k1.2)
          rw [← k2] at PR
          have hP0 : (P == 0) = false := by simpa using k3
          have q1 : (r1.e == 0) = true := by rw [k5]; rfl
          have q2 : (r1.e != 0) = false := by rw [k5]; rfl
          have RC := hid (show ∀ wx, Below wq.heap.size wq wx → _ from fun wx hb => rclearAt_calls (OwnE.reads encBd_len (OwnE.below SQ.out.own hb) (by rw [← HN.out]; omega)) hln HOK.out P k1.1 k4)
          have HLF := hid (fillsL_len O P (min (dem O P) (sup O P)) r)
          have RF := RFQ.out
          have CC := CAQ.out
          rw [k5] at RF CC
          obtain ⟨F, hF⟩ : ∃ y, y = fillsL O P (min (dem O P) (sup O P)) r := ⟨_, rfl⟩
          rw [← hF] at RC RF CC HLF
          obtain ⟨V, hV⟩ : ∃ y, y = min (dem O P) (sup O P) := ⟨_, rfl⟩
          rw [← hV] at RC CC
          obtain ⟨E, hE⟩ : ∃ y, y = dem O P - sup O P := ⟨_, rfl⟩
          rw [← hE] at RC CC
          have RF : RowI wr.heap.size wq (.slice pf F.length cf) F := RF
          have CC : Cells wq ga #[.int .i64 P, .int .i64 V, .int .i64 E, .slice pf F.length cf] 26 := CC
          have hfl : F.length = n := by rw [HLF.out]; exact HN.out.symm
          rw [hfl] at RF CC
          have HRF := hid RF
          have HCC := hid CC
          have HFL := hid hfl
          clear k1 k2 k3 k4 k5 hF hV hE RF CC hfl
          go_wp2_with fail
          refine PR.out.mono ?_
          rintro e w6 ⟨rfl, hb6⟩
          have B6 := hid hb6
          clear hb6 PR
          have KC := hid (show ∀ wh, Below w6.heap.size w6 wh → wh.cell? ⟨ga, 0, none⟩ = some (.int .i64 P) ∧ wh.cell? ⟨ga, 1, none⟩ = some (.int .i64 V) ∧ wh.cell? ⟨ga, 2, none⟩ = some (.int .i64 E) ∧ wh.cell? ⟨ga, 3, none⟩ = some (.slice pf n cf) from fun wh hb => by
            have q := HCC.out.below (B6.out.trans (hb.mono B6.out.size)) HCC.out.lt
            refine ⟨?_, ?_, ?_, ?_⟩ <;> (rw [q.cell]; rfl))
          have RC2 := hid (show ∀ wx, Below w6.heap.size w6 wx → Calls Try.prog 24 #[.slice pO n cO, .int .i64 P, .int .i64 r] wx fun e w' => ∃ p c, e = .returned (.agg #[.int .i64 P, .int .i64 V, .int .i64 E, .slice p n c]) ∧ RowI w6.heap.size w' (.slice p n c) F ∧ Below w6.heap.size w6 w' from fun wx hb =>
            (RC.out wx (B6.out.trans (hb.mono B6.out.size))).mono fun e w' h => by
              obtain ⟨vf, h1, h2, h3⟩ := h
              obtain ⟨p, c, rfl, _⟩ := h2.form
              rw [HFL.out] at h1 h2
              exact ⟨p, c, h1, h2.mono hb.size, hb.trans (h3.mono hb.size)⟩)
          have SM2 := hid (show ∀ wx p c, RowI w6.heap.size wx (.slice p n c) F → Below w6.heap.size w6 wx → Calls Try.prog 23 #[.agg #[.int .i64 P, .int .i64 V, .int .i64 E, .slice pf n cf], .agg #[.int .i64 P, .int .i64 V, .int .i64 E, .slice p n c]] wx fun e w' => e = .returned (.bool true) ∧ Below w6.heap.size w6 w' from fun wx p c hr hb =>
            (same_calls P V E (OwnE.reads encI_len (OwnE.below HRF.out (B6.out.trans (hb.mono B6.out.size))) (by rw [HFL.out]; omega)) (OwnE.reads encI_len hr (by rw [HFL.out]; omega))).mono fun e w' h => ⟨h.1, hb.trans (h.2.mono hb.size)⟩)
          clear RC
          go_upto_region 16 with fail
          go_cut [89] (fun sx wx => sx = .bool false ∧ Below w6.heap.size w6 wx)
          case first =>
            have hcur := Below.refl w6.heap.size w6
            go_region_held3 (fun wh => wh.cell? ⟨ga, 0, none⟩ = some (.int .i64 P) ∧ wh.cell? ⟨ga, 1, none⟩ = some (.int .i64 V) ∧ wh.cell? ⟨ga, 2, none⟩ = some (.int .i64 E) ∧ wh.cell? ⟨ga, 3, none⟩ = some (.slice pf n cf))
              (first | exact KC.out _ hcur | exact KC.out _ hcur.drew | assumption)
              (first
                | (go_at_call 24; refine (RC2.out _ ?_).mono ?_; (first | exact hcur.drew | exact hcur); rintro e w14 ⟨p14, c14, rfl, hr14, hb14⟩; replace hcur := hb14)
                | (go_at_call 23; refine (SM2.out _ _ _ hr14 ?_).mono ?_; (first | exact hcur.drew | exact hcur); rintro e w15 ⟨rfl, hb15⟩; replace hcur := hb15))
            all_goals go_wp2
            all_goals (
              go_meet
              exact ⟨rfl, hcur⟩)
          case rest =>
          obtain ⟨rfl, hb8⟩ := hcut
          have F := hid (B6.out.trans (hb8.mono B6.out.size))
          clear hb8 KC RC2 SM2
          go_wp2
          go_meet
          exact F.out
      case rest =>
      obtain ⟨wz, rfl⟩ : ∃ wz : World, wz = wc := ⟨_, rfl⟩
      have SR := hid (SQ.out.on hcut)
      have CR := hid (CQ.out.below hcut CQ.out.lt)
      have RGR := hid (OwnE.below RGQ.out hcut)
      clear hcut K1 RFQ CAQ HT1 x0
      have x1 : wz.cell? ⟨w.heap.size, 1, none⟩ = some (.int .i64 c1) := by rw [SR.out.box.cell]; rfl
      obtain ⟨t2, ht2⟩ : ∃ t, t = !decide (okX r c1) := ⟨_, rfl⟩
      have HT2 := hid ht2
      clear ht2
      go_upto_region 18 with fail
      go_cut [100] (fun s100 wx => s100 = .bool t2 ∧ wx = wz)
      case first =>
        cases tb with
        | true =>
          have hn : ¬ (r = 1 ∨ r = 2) := fun h => by
            have := HTB.out
            rw [decide_eq_true h] at this
            cases this
          have e : t2 = true := by rw [HT2.out, decide_eq_false (fun h : okX r c1 => hn h.1)]; rfl
          clear hn
          subst e
          go_wp2
          go_meet
          exact ⟨rfl, rfl⟩
        | false =>
          have hr : r = 1 ∨ r = 2 := by
            by_cases h : r = 1 ∨ r = 2
            · exact h
            · have := HTB.out
              rw [decide_eq_false h] at this
              cases this
          by_cases h1 : c1 < 1
          · have e : t2 = true := by rw [HT2.out, decide_eq_false (fun h : okX r c1 => by have := h.2; omega)]; rfl
            subst e
            go_wp2
            go_meet
            exact ⟨rfl, rfl⟩
          · by_cases h2 : 1000000 < c1
            · have e : t2 = true := by rw [HT2.out, decide_eq_false (fun h : okX r c1 => by have := h.2; omega)]; rfl
              subst e
              go_wp2
              go_meet
              exact ⟨rfl, rfl⟩
            · have e : t2 = false := by rw [HT2.out, decide_eq_true (show okX r c1 from ⟨hr, by omega, by omega⟩)]; rfl
              subst e
              clear hr
              go_wp2
              go_meet
              exact ⟨rfl, rfl⟩
      case rest =>
      obtain ⟨rfl, hwc⟩ := hcut
      obtain rfl : wz = wc := hwc.symm
      go_upto_if 100 with fail
      go_cut [] (fun wx => Below wz.heap.size wz wx)
      case first =>
        rcases K2.out with ⟨k1, k2⟩ | ⟨k1, k2, k3⟩ | ⟨k1, k2, k5⟩
        · have e : t2 = true := by rw [HT2.out]; simp [k1]
          subst e
          have y0 : wz.cell? ⟨gq, 0, none⟩ = some (.int .i64 0) := by rw [CR.out.cell, k2]; rfl
          have y1 : wz.cell? ⟨gq, 1, none⟩ = some (.int .i64 0) := by rw [CR.out.cell, k2]; rfl
          have y2 : wz.cell? ⟨gq, 2, none⟩ = some (.int .i64 0) := by rw [CR.out.cell, k2]; rfl
          have y3 : wz.cell? ⟨gq, 3, none⟩ = some (.slice pg 0 cg) := by rw [CR.out.cell, k2]; rfl
          have q1 : (r2.e == 1) = true := by rw [k2]; rfl
          have q2 : (r2.e != 1) = false := by rw [k2]; rfl
          have NT := hid (nothing_calls pg cg wz)
          clear k1 k2
          go_wp2_with fail
          refine NT.out.mono ?_
          rintro e w6 ⟨rfl, hb6⟩
          have F := hid hb6
          clear hb6
          go_wp2
          go_meet
          exact F.out
        · have e : t2 = false := by rw [HT2.out]; simp [k1]
          subst e
          have PR := hid (rat_calls (OwnE.reads encBd_len SR.out.own (by rw [← HN.out]; omega)) hln HOK.out c1)
          obtain ⟨D, hD⟩ : ∃ y, y = dem O c1 := ⟨_, rfl⟩
          obtain ⟨S, hS⟩ : ∃ y, y = sup O c1 := ⟨_, rfl⟩
          rw [← hD, ← hS] at PR k2
          have hm0 : min D S = 0 := k2
          have hm1 : min S D = 0 := by omega
          clear hD hS
          have q1 : (r2.e == 30) = true := by rw [k3]; rfl
          have q2 : (r2.e != 30) = false := by rw [k3]; rfl
          have KC := hid (show ∀ wh, Below wz.heap.size wz wh → wh.cell? ⟨gq, 0, none⟩ = some (.int .i64 0) ∧ wh.cell? ⟨gq, 1, none⟩ = some (.int .i64 0) ∧ wh.cell? ⟨gq, 2, none⟩ = some (.int .i64 0) ∧ wh.cell? ⟨gq, 3, none⟩ = some (.slice pg 0 cg) from fun wh hb => by
            have q := CR.out.below hb CR.out.lt
            rw [k3] at q
            refine ⟨?_, ?_, ?_, ?_⟩ <;> (rw [q.cell]; rfl))
          clear k1 k2 k3
          go_wp2_with fail
          refine PR.out.mono ?_
          rintro e w6 ⟨rfl, hw6⟩
          subst hw6
          have hb6 := Below.refl w6.heap.size w6
          have y := KC.out _ hb6
          obtain ⟨y0, y1, y2, y3⟩ := y
          have NT := hid (nothing_calls pg cg w6)
          have B6 := hid hb6
          clear hb6 PR
          go_wp2_with fail
          refine NT.out.mono ?_
          rintro e w7 ⟨rfl, hb7⟩
          have F := hid (B6.out.trans (hb7.mono B6.out.size))
          clear hb7
          go_wp2
          go_meet
          exact F.out
        · have e : t2 = false := by rw [HT2.out]; simp [k1]
          subst e
          have PR := hid (rat_calls (OwnE.reads encBd_len SR.out.own (by rw [← HN.out]; omega)) hln HOK.out c1)
          obtain ⟨D, hD⟩ : ∃ y, y = dem O c1 := ⟨_, rfl⟩
          obtain ⟨S, hS⟩ : ∃ y, y = sup O c1 := ⟨_, rfl⟩
          have hDS : ((min D S) == 0) = false := by rw [hD, hS]; simpa using k2
          rw [← hD, ← hS] at PR
          clear hD hS
          have q1 : (r2.e == 0) = true := by rw [k5]; rfl
          have q2 : (r2.e != 0) = false := by rw [k5]; rfl
          have RC := hid (show ∀ wx, Below wz.heap.size wz wx → _ from fun wx hb => rclearAt_calls (OwnE.reads encBd_len (OwnE.below SR.out.own hb) (by rw [← HN.out]; omega)) hln HOK.out c1 k1.1 k1.2)
          have HLF := hid (fillsL_len O c1 (min (dem O c1) (sup O c1)) r)
          have RF := RGR.out
          have CC := CR.out
          rw [k5] at RF CC
          obtain ⟨F, hF⟩ : ∃ y, y = fillsL O c1 (min (dem O c1) (sup O c1)) r := ⟨_, rfl⟩
          rw [← hF] at RC RF CC HLF
          obtain ⟨V, hV⟩ : ∃ y, y = min (dem O c1) (sup O c1) := ⟨_, rfl⟩
          rw [← hV] at RC CC k2
          obtain ⟨E, hE⟩ : ∃ y, y = dem O c1 - sup O c1 := ⟨_, rfl⟩
          rw [← hE] at RC CC
          have RF : RowI wa.heap.size wz (.slice pg F.length cg) F := RF
          have CC : Cells wz gq #[.int .i64 c1, .int .i64 V, .int .i64 E, .slice pg F.length cg] 26 := CC
          have hfl : F.length = n := by rw [HLF.out]; exact HN.out.symm
          rw [hfl] at RF CC
          have HRF := hid RF
          have HCC := hid CC
          have HFL := hid hfl
          clear k1 k2 k5 hF hV hE RF CC hfl
          go_wp2_with fail
          refine PR.out.mono ?_
          rintro e w6 ⟨rfl, hw6⟩
          subst hw6
          have hb6 := Below.refl w6.heap.size w6
          have B6 := hid hb6
          clear hb6 PR
          have KC := hid (show ∀ wh, Below w6.heap.size w6 wh → wh.cell? ⟨gq, 0, none⟩ = some (.int .i64 c1) ∧ wh.cell? ⟨gq, 1, none⟩ = some (.int .i64 V) ∧ wh.cell? ⟨gq, 2, none⟩ = some (.int .i64 E) ∧ wh.cell? ⟨gq, 3, none⟩ = some (.slice pg n cg) ∧ wh.cell? ⟨w.heap.size, 1, none⟩ = some (.int .i64 c1) from fun wh hb => by
            have q := HCC.out.below (B6.out.trans (hb.mono B6.out.size)) HCC.out.lt
            have q2 := (SR.out.on (B6.out.trans (hb.mono B6.out.size))).box
            refine ⟨?_, ?_, ?_, ?_, ?_⟩ <;> first | (rw [q.cell]; rfl) | (rw [q2.cell]; rfl))
          have RC2 := hid (show ∀ wx, Below w6.heap.size w6 wx → Calls Try.prog 24 #[.slice pO n cO, .int .i64 c1, .int .i64 r] wx fun e w' => ∃ p c, e = .returned (.agg #[.int .i64 c1, .int .i64 V, .int .i64 E, .slice p n c]) ∧ RowI w6.heap.size w' (.slice p n c) F ∧ Below w6.heap.size w6 w' from fun wx hb =>
            (RC.out wx (B6.out.trans (hb.mono B6.out.size))).mono fun e w' h => by
              obtain ⟨vf, h1, h2, h3⟩ := h
              obtain ⟨p, c, rfl, _⟩ := h2.form
              rw [HFL.out] at h1 h2
              exact ⟨p, c, h1, h2.mono hb.size, hb.trans (h3.mono hb.size)⟩)
          have SM2 := hid (show ∀ wx p c, RowI w6.heap.size wx (.slice p n c) F → Below w6.heap.size w6 wx → Calls Try.prog 23 #[.agg #[.int .i64 c1, .int .i64 V, .int .i64 E, .slice pg n cg], .agg #[.int .i64 c1, .int .i64 V, .int .i64 E, .slice p n c]] wx fun e w' => e = .returned (.bool true) ∧ Below w6.heap.size w6 w' from fun wx p c hr hb =>
            (same_calls c1 V E (OwnE.reads encI_len (OwnE.below HRF.out (B6.out.trans (hb.mono B6.out.size))) (by rw [HFL.out]; omega)) (OwnE.reads encI_len hr (by rw [HFL.out]; omega))).mono fun e w' h => ⟨h.1, hb.trans (h.2.mono hb.size)⟩)
          clear RC
          go_upto_region 25 with fail
          go_cut [137] (fun sx wx => sx = .bool false ∧ Below w6.heap.size w6 wx)
          case first =>
            have hcur := Below.refl w6.heap.size w6
            go_region_held3 (fun wh => wh.cell? ⟨gq, 0, none⟩ = some (.int .i64 c1) ∧ wh.cell? ⟨gq, 1, none⟩ = some (.int .i64 V) ∧ wh.cell? ⟨gq, 2, none⟩ = some (.int .i64 E) ∧ wh.cell? ⟨gq, 3, none⟩ = some (.slice pg n cg) ∧ wh.cell? ⟨w.heap.size, 1, none⟩ = some (.int .i64 c1))
              (first | exact KC.out _ hcur | exact KC.out _ hcur.drew | assumption)
              (first
                | (go_at_call 24; refine (RC2.out _ ?_).mono ?_; (first | exact hcur.drew | exact hcur); rintro e w14 ⟨p14, c14, rfl, hr14, hb14⟩; replace hcur := hb14)
                | (go_at_call 23; refine (SM2.out _ _ _ hr14 ?_).mono ?_; (first | exact hcur.drew | exact hcur); rintro e w15 ⟨rfl, hb15⟩; replace hcur := hb15))
            all_goals go_wp2
            all_goals (
              go_meet
              exact ⟨rfl, hcur⟩)
          case rest =>
          obtain ⟨rfl, hb8⟩ := hcut
          have F := hid (B6.out.trans (hb8.mono B6.out.size))
          clear hb8 KC RC2 SM2
          go_wp2
          go_meet
          exact F.out
      case rest =>
      obtain ⟨wy, rfl⟩ : ∃ wy : World, wy = wc := ⟨_, rfl⟩
      have SY := hid (SR.out.on hcut)
      clear hcut K2 CR RGR HT2 HTB x1 SR SQ CQ RGQ
      have x0 : wy.cell? ⟨w.heap.size, 0, none⟩ = some (.int .i64 c0) := by rw [SY.out.box.cell]; rfl
      have x1 : wy.cell? ⟨w.heap.size, 1, none⟩ = some (.int .i64 c1) := by rw [SY.out.box.cell]; rfl
      have f0 := SY.out.box.frozen 0
      have f1 := SY.out.box.frozen 1
      have lb := SY.out.box.lt
      have u0 := um_range c0 (k := 120) (by omega)
      have u1 := um_range c1 (k := 120) (by omega)
      have u2 := um_range r (k := 2) (by omega)
      have t1 := um_tmod c0 120
      have t2 : IntKind.i64.wrap (um c0 120) = um c0 120 := IntWalk.i64_in _ (by omega)
      have t3 : IntKind.i64.wrap (1 + um c0 120) = 1 + um c0 120 := IntWalk.i64_in _ (by omega)
      have t4 := um_tmod c1 120
      have t5 : IntKind.i64.wrap (um c1 120) = um c1 120 := IntWalk.i64_in _ (by omega)
      have t6 : IntKind.i64.wrap (1 + um c1 120) = 1 + um c1 120 := IntWalk.i64_in _ (by omega)
      have t7 := um_tmod r 2
      have t8 : IntKind.i64.wrap (um r 2) = um r 2 := IntWalk.i64_in _ (by omega)
      have t9 : IntKind.i64.wrap (1 + um r 2) = 1 + um r 2 := IntWalk.i64_in _ (by omega)
      have NX := hid (SY.out.set (1 + um c0 120) (1 + um c1 120))
      go_wp2
      go_roundg (2 - (i + 1))
      · exact ⟨i + 1, 1 + um r 2, 1 + um c0 120, 1 + um c1 120, by omega, by go_num, rfl, NX.out⟩
      · have := HIK.out; omega
end Go.Proofs.Ytjhelinbjlahiaa
