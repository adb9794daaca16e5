/- bid.balanced: the walk. slices.Clone at int; bid.Hall. bid.arePrices, Wanted, Crowd. bid.Crowd, Content. bid.Content. The reference: worth, CheckHall. -/
import Derived.Test.YtojednnciknhpaaDoorJRp
import Derived.Test.YtojednnciknhpaaDoorJCf
import Derived.Test.YtojednnciknhpaaDoorJPm2
namespace Go.Proofs.YtojednnciknhpaaDoor
set_option linter.unusedSimpArgs false
set_option linter.unusedVariables false
open Go.RowKit
attribute [local go_sem] Oper.semAt_some
attribute [local go_sem ↓] Go.wp_at_zero Go.wp_at_succ

set_option maxRecDepth 100000 in
set_option maxHeartbeats 16000000 in
theorem balanced_calls {w : World} {vw vp vl : Value} {worth : List (List Int)} {prices lots : List Int} (hw : NestE encI 1 w vw worth) (hp : ReadsE encI 1 w vp prices) (hl : ReadsE encI 1 w vl lots) (ok : OkH worth prices.length) (okp : okW prices) (h1 : 1 ≤ worth.length) (h2 : 1 ≤ prices.length) (hlo : ∀ x ∈ lots, x < (prices.length : Int)) (hll : lots.length ≤ worth.length) :
    Calls Tryd.prog 66 #[vw, vp, vl] w fun e w' => e = .returned (.bool (balancedF worth prices lots)) ∧ Below w.heap.size w w' := by
  obtain ⟨R, hR⟩ : ∃ R : Ending → World → Prop, R = fun e w' => e = .returned (.bool (balancedF worth prices lots)) ∧ Below w.heap.size w w' := ⟨_, rfl⟩
  rw [← hR]
  have FN := hid (show ∀ b w', b = balancedF worth prices lots → Below w.heap.size w w' → R (.returned (.bool b)) w' from fun b w' a c => by rw [hR, a]; exact ⟨rfl, c⟩)
  unfold balancedF at FN
  have OK := hid ok
  have OKP := hid okp
  have PR := hid hp
  have HLO := hid hlo
  obtain ⟨vs, hvs, hvl, hvk⟩ := hw
  obtain ⟨hm, p1, cap1, bb1, off1, hv1, hp1, hc1⟩ := hvs
  obtain ⟨hm2, p, cap, bb, off, hvp, hpp, hcp⟩ := hp
  obtain ⟨hm3, p3, cap3, bb3, off3, hv3, hp3, hc3⟩ := hl
  obtain ⟨nw, hnw⟩ : ∃ nw, nw = worth.length := ⟨_, rfl⟩
  obtain ⟨n, hn⟩ : ∃ n, n = prices.length := ⟨_, rfl⟩
  obtain ⟨K, hK⟩ : ∃ K, K = lots.length := ⟨_, rfl⟩
  rw [hvl, ← hnw] at hv1 hp1
  rw [← hn] at hvp hpp
  rw [← hK] at hv3 hp3
  have hc64 := ok.cols
  have hr64 := ok.rows
  rw [← hn] at hc64 h2
  rw [← hnw] at hr64 h1 hll
  rw [← hK] at hll
  have HNW := hid hnw
  have HN := hid hn
  have HK := hid hK
  have HVL := hid hvl
  have HVK := hid hvk
  have HP1 := hid hp1
  have HC1 := hid hc1
  have HPP := hid hpp
  have HCP := hid hcp
  have HP3 := hid hp3
  have HC3 := hid hc3
  subst hv1 hvp hv3
  have hn0 : (0 : Int) ≤ (n : Int) := by omega
  have hnw0 : (0 : Int) ≤ (nw : Int) := by omega
  have hmk := mk_B w n (by omega)
  have SA := hid (show ∀ wx, wx = w.alloc (.cells (madeCells #[.bool false] n) 4) → RB wx w.heap.size (takenF n []) ∧ Below w.heap.size w wx by
    rintro wx rfl
    rw [takenF_nil]
    exact ⟨RowX.made w n false _ rfl, (Below.refl _ _).alloc (Nat.le_refl _) _⟩)
  clear hR hm hm2 hm3 hvl hvk hp1 hc1 hpp hcp hp3 hc3 ok okp hlo hnw hn hK
  go_enter Tryd.func66, Tryd.ntmps66
  -- taken
  go_upto_region 4 with fail
  go_loopg [29] K (fun k s29 wr => ∃ t : Nat, t + k = K ∧ s29 = .int .i64 t ∧ RB wr w.heap.size (takenF n (lots.take t)) ∧ Below w.heap.size w wr)
  case atStart => exact ⟨0, by omega, rfl, (SA.out _ rfl).1, (SA.out _ rfl).2⟩
  case round =>
  obtain ⟨t, htk, rfl, hrb, hb⟩ := hrel
  have HTK := hid htk
  have RBT := hid hrb
  have B := hid hb
  clear htk hrb hb SA hmk
  by_cases htK : t < K
  · have htl : t < lots.length := by rw [← HK.out]; exact htK
    obtain ⟨rfl, hbb3⟩ := HP3.out (by omega)
    have ct := (B.out.cell (p := ⟨bb3, off3 + t * 1 + 0, none⟩) hbb3).trans (HC3.out t htl 0 (by omega))
    simp [encI] at ct
    have hx := HLO.out _ (List.getElem_mem htl)
    have TS := hid (takenF_snoc (n := n) (l := lots.take t) (x := lots[t]))
    rw [← take_snoc htl] at TS
    rw [← HN.out] at hx
    obtain ⟨x, hxe⟩ : ∃ x, x = lots[t] := ⟨_, rfl⟩
    rw [← hxe] at ct TS hx
    have gt : (t : Int) < (K : Int) := by omega
    have gt0 : (0 : Int) ≤ (t : Int) := by omega
    clear hxe
    by_cases hx0 : 0 ≤ x
    · obtain ⟨xn, rfl⟩ : ∃ xn : Nat, x = (xn : Int) := ⟨x.toNat, by omega⟩
      rw [if_pos hx0, Int.toNat_natCast] at TS
      have cx := RBT.out.cell (i := xn) (by rw [takenF_len]; omega)
      have fx := RBT.out.froz xn
      have N1 := hid (show RB (wr.setCell ⟨w.heap.size, xn, none⟩ (.bool true)) w.heap.size (takenF n (lots.take (t + 1))) by rw [TS.out]; exact RBT.out.set xn true)
      have N2 := hid (B.out.trans (Kept.below ((Kept.refl (fun k => k = w.heap.size) wr).set (C := w.heap.size) rfl xn (.bool true)) B.out.size (fun k hk => by omega)))
      go_wp2
      go_roundg (K - (t + 1))
      · exact ⟨t + 1, by omega, by go_num, N1.out, N2.out⟩
      · have := HTK.out; omega
    · rw [if_neg hx0] at TS
      have hx1 : x < 0 := by omega
      go_wp2
      go_roundg (K - (t + 1))
      · exact ⟨t + 1, by omega, by go_num, by rw [TS.out]; exact RBT.out, B.out⟩
      · have := HTK.out; omega
  obtain rfl : t = K := by have := HTK.out; omega
  have g1 : decide ((t : Int) < (t : Int)) = false := by simp
  have hT : lots.take t = lots := List.take_of_length_le (by rw [HK.out]; exact Nat.le_refl _)
  rw [hT] at RBT
  obtain ⟨wA, hwA⟩ : ∃ wA, wA = wr := ⟨_, rfl⟩
  rw [← hwA] at RBT B ⊢
  obtain ⟨gt, hgt⟩ : ∃ gt, gt = w.heap.size := ⟨_, rfl⟩
  rw [← hgt] at RBT ⊢
  have HGT := hid hgt
  clear hT hwA hgt HTK
  -- rest and must
  have hs1 : ∀ o, (wA.alloc o).heap.size = wA.heap.size + 1 := fun o => by simp
  have hmk1 := mk_NN wA nw (by omega)
  have hmk2 := mk_NN (wA.alloc (.cells (madeCells #[.slice none 0 0] nw) 27)) nw (by omega)
  rw [hs1] at hmk2
  obtain ⟨w2, hw2⟩ : ∃ w2, w2 = (wA.alloc (.cells (madeCells #[.slice none 0 0] nw) 27)).alloc (.cells (madeCells #[.slice none 0 0] nw) 27) := ⟨_, rfl⟩
  have S2 := hid (show BtS w2 worth prices t wA.heap.size (wA.heap.size + 1) t (List.replicate nw (.slice none 0 0)) (List.replicate nw (.slice none 0 0)) ∧ Below wA.heap.size wA w2 by
    rw [hw2]
    refine ⟨⟨RowX.alloc (RowX.made wA nw _ _ rfl) _, ?_, by simp [HNW.out], by simp [HNW.out], by omega, fun k h1 h2 _ => by simp, fun k h1 h2 h3 h4 h5 => by omega⟩, ((Below.refl _ _).alloc (Nat.le_refl _) _).alloc (by rw [hs1]; omega) _⟩
    have := RowX.made (ty := 27) (mk := fun u : Value => u) (wA.alloc (.cells (madeCells #[.slice none 0 0] nw) 27)) nw (Value.slice none 0 0) _ rfl
    rw [hs1] at this
    exact this)
  have HW2 := hid hw2
  have ht5 : t ≤ 64 := by omega
  clear hw2 g1
  go_upto_region 11 with fail
  rw [← HW2.out]
  clear hmk1 hmk2 hs1
  go_upto_region 12 with fail
  obtain ⟨gr, hgr⟩ : ∃ gr, gr = wA.heap.size := ⟨_, rfl⟩
  rw [← hgr]
  have HGR := hid hgr
  rw [← hgr] at S2
  clear hgr
  go_loopg [13] (nw - t) (fun k s13 wr => ∃ (i : Nat) (us ms : List Value), nw - i = k ∧ t ≤ i ∧ i ≤ nw ∧ s13 = .int .i64 i ∧ BtS wr worth prices t gr (gr + 1) i us ms ∧ Below gr wA wr)
  case atStart => exact ⟨t, _, _, rfl, Nat.le_refl _, hll, rfl, S2.out.1, S2.out.2⟩
  case round =>
  obtain ⟨i, us, ms, hik, hti, hin0, rfl, hS, hbA⟩ := hrel
  have HIK := hid hik
  have S := hid hS
  have BA := hid hbA
  clear hik hS hbA S2
  have BW := hid (B.out.trans (BA.out.mono (by rw [HGR.out]; exact B.out.size)))
  by_cases hin : i < nw
  · have hiw : i < worth.length := by rw [← HNW.out]; exact hin
    have hiv : i < vs.length := by rw [HVL.out]; exact hiw
    obtain ⟨rfl, hbb1⟩ := HP1.out (by omega)
    have ci := (BW.out.cell (p := ⟨bb1, off1 + i * 1 + 0, none⟩) hbb1).trans (HC1.out i hiv 0 (by omega))
    simp at ci
    have RX := HVK.out i hiv hiw
    have hro := OK.out.ok _ (List.getElem_mem hiw)
    have hrl := OK.out.len _ (List.getElem_mem hiw)
    obtain ⟨x, hx⟩ : ∃ x, x = vs[i] := ⟨_, rfl⟩
    rw [← hx] at ci RX
    have WC := hid (wants_calls (RX.below BW.out) (PR.out.below BW.out) (by omega) (by rw [hrl, ← HN.out]; omega) hro OKP.out)
    have GC := hid (fun wx (hb : Below w.heap.size w wx) => gain_calls (RX.below hb) (PR.out.below hb) (by omega) (by rw [hrl, ← HN.out]; omega) hro OKP.out)
    have P1 := hid (fun (wx : World) (v : Value) (hs : BtS wx worth prices t gr (gr + 1) i us ms) => hs.put1 hti hiw (v := v))
    have P2 := hid (fun (wx : World) (v : Value) (hs : BtS wx worth prices t gr (gr + 1) i us ms) => hs.put2 hti hiw (v := v))
    obtain ⟨row, hrow⟩ : ∃ row, row = worth[i] := ⟨_, rfl⟩
    rw [← hrow] at WC GC P1 P2
    obtain ⟨G, hG⟩ : ∃ G, G = gainF row prices := ⟨_, rfl⟩
    obtain ⟨W, hW⟩ : ∃ W, W = wantsF row prices := ⟨_, rfl⟩
    rw [← hG] at GC P1 P2
    rw [← hW] at WC P1 P2
    have gi : (i : Int) < (nw : Int) := by omega
    have gi0 : (0 : Int) ≤ (i : Int) := by omega
    clear hro hrl hx hrow hG hW RX
    go_upto_region 14 with fail
    go_wp2_with fail
    refine WC.out.mono ?_
    rintro e w3 ⟨v3, rfl, hr3, hz3, hb3⟩
    have S3 := hid (S.out.below hb3)
    have B3 := hid (BA.out.trans (hb3.mono (by have := BA.out.size; have := HGR.out; omega)))
    have BW3 := hid (BW.out.trans (hb3.mono BW.out.size))
    have hrl3 := S.out.rm.lt
    have R3 := hid (show RowN (gr + 1 + 1) w3 v3 (zl W) from OwnE.mono hr3 (by omega))
    have Z3 := hid hz3
    obtain ⟨pv, cv, hv3, _⟩ := hr3.form
    obtain ⟨lw, hlw⟩ : ∃ lw, lw = (zl W).length := ⟨_, rfl⟩
    rw [← hlw] at hv3
    subst hv3
    have cr := S3.out.rr.cell (i := i) (by rw [S3.out.lu]; exact hiw)
    have fr := S3.out.rr.froz i
    obtain ⟨w4, hw4⟩ : ∃ w4, w4 = w3.setCell ⟨gr, i, none⟩ (.slice pv lw cv) := ⟨_, rfl⟩
    have B4 := hid (show Below gr wA w4 by rw [hw4]; exact B3.out.trans (Kept.below ((Kept.refl (fun k => k = gr) w3).set (C := gr) rfl _ _) (by have := S3.out.rr.lt; omega) (fun k hk => by omega)))
    have BW4 := hid (B.out.trans (B4.out.mono (by rw [HGR.out]; exact B.out.size)))
    have G4 := hid (GC.out w4 BW4.out)
    have c4 : w4.cell? ⟨gr, i, none⟩ = some (.slice pv lw cv) := by rw [hw4]; exact World.cell?_setCell_same' _ _ _ (by rw [cr]; rfl)
    have ci4 := (BW4.out.cell (p := ⟨bb1, off1 + i, none⟩) hbb1).trans ((BW.out.cell (p := ⟨bb1, off1 + i, none⟩) hbb1).symm.trans ci)
    have HW4 := hid hw4
    have HIW := hid hiw
    clear hr3 hz3 hb3 hlw WC GC hw4
    go_upto_region 15 with fail
    rw [← HW4.out]
    go_wp2_with fail
    refine G4.out.mono ?_
    rintro e w5 ⟨rfl, hw5⟩
    rw [hw5]
    clear hw5 G4 cr fr
    by_cases hG0 : 0 < G
    · have S5 := hid (P2.out w3 _ S3.out R3.out Z3.out hG0)
      rw [← HW4.out] at S5
      have cm : w4.cell? ⟨gr + 1, i, none⟩ = some (ms[i]'(by rw [S.out.lm]; exact HIW.out)) := by
        rw [HW4.out]
        exact (RowX.set_far S3.out.rm i _ (by omega)).cell (by rw [S.out.lm]; exact HIW.out)
      have fm : w4.frozen? ⟨gr + 1, i, none⟩ = false := by rw [HW4.out]; exact (RowX.set_far S3.out.rm i _ (by omega)).froz i
      have B5 := hid (show Below gr wA (w4.setCell ⟨gr + 1, i, none⟩ (.slice pv lw cv)) from B4.out.trans (Kept.below ((Kept.refl (fun k => k = gr + 1) w4).set (C := gr + 1) rfl _ _) (by have := S3.out.rr.lt; have := HW4.out; rw [HW4.out, size_setCell]; omega) (fun k hk => by omega)))
      have hri : i < us.length := by rw [S.out.lu]; exact HIW.out
      go_wp2
      go_roundg (nw - (i + 1))
      · exact ⟨i + 1, _, _, rfl, by omega, by omega, by go_num, S5.out, B5.out⟩
      · have := HIK.out; omega
    · have S5 := hid (P1.out w3 _ S3.out R3.out Z3.out (by omega))
      rw [← HW4.out] at S5
      have g0 : G ≤ 0 := by omega
      go_wp2
      go_roundg (nw - (i + 1))
      · exact ⟨i + 1, _, _, rfl, by omega, by omega, by go_num, S5.out, B4.out⟩
      · have := HIK.out; omega
  obtain rfl : i = nw := by omega
  have g1 : decide ((i : Int) < (i : Int)) = false := by simp
  obtain ⟨wB, hwB⟩ : ∃ wB, wB = wr := ⟨_, rfl⟩
  rw [← hwB] at S BA BW ⊢
  have SB := hid (show BtS wB worth prices t gr (gr + 1) worth.length us ms by have := S.out; rw [HNW.out] at this; exact this)
  clear hwB S HIK
  obtain ⟨E, hE⟩ : ∃ E, E = mustF worth prices t := ⟨_, rfl⟩
  have MN := hid (show NestN wB (.slice (some ⟨gr + 1, 0, none⟩) i i) E by rw [hE, HNW.out]; exact SB.out.must OK.out)
  have MA := hid (fun k h1 h2 => SB.out.mustAt OK.out k h1 h2)
  have EL := hid (show E.length = i by rw [hE, mustF_len, HNW.out])
  have EO := hid (show ∀ l ∈ E, l.length ≤ 64 ∧ ∀ j ∈ l, j < n by rw [hE, HN.out]; exact mustF_ok OK.out t)
  rw [← hE] at MA
  have HE := hid hE
  clear hE
  obtain ⟨TK, hTK⟩ : ∃ TK, TK = takenF n lots := ⟨_, rfl⟩
  rw [← hTK] at RBT
  have TL := hid (show TK.length = n by rw [hTK, takenF_len])
  have HTK := hid hTK
  clear hTK
  have NM := hid (newMatching_calls (w := wB) (p := some ⟨gr + 1, 0, none⟩) (nw := i) (cap := i) (n := n) h1 h2 (by omega) (by omega))
  go_upto_region 17 with fail
  go_wp2_with fail
  refine NM.out.mono ?_
  rintro e w6 ⟨gm, gl, gb, rfl, hM, hb6⟩
  have S6 := hid (show CwS wB w6 (.slice (some ⟨gr + 1, 0, none⟩) i i) E n gm gl gb ⟨List.replicate i (-1), List.replicate n (-1), []⟩ from ⟨hb6, hM, ⟨by simp [EL.out], by simp, noB_len n, fun j hj => by rw [(List.mem_replicate.1 hj).2]; omega⟩⟩)
  have WO := hid (show wOk E n from fun l hl j hj => (EO.out l hl).2 j hj)
  obtain ⟨AF, hAF⟩ : ∃ AF, AF = allF E TK n (fun i => decide (E.getD i [] = [])) (List.range i) ⟨List.replicate i (-1), List.replicate n (-1), []⟩ := ⟨_, rfl⟩
  have HAF := hid hAF
  have RT := hid (show ∀ wx, Below wB.heap.size wB wx → RB wx gt TK from fun wx hb => (RBT.out.below BA.out (by have := RBT.out.lt; have := HGR.out; omega)).below hb (by have := RBT.out.lt; have := BA.out.size; omega))
  clear hM hb6 NM hAF g1
  go_upto_region 19 with fail
  go_loopg [81] i (fun k s81 wr => ∃ (a : Nat) (m : Mg), a + k = i ∧ s81 = .int .i64 a ∧ CwS wB wr (.slice (some ⟨gr + 1, 0, none⟩) i i) E n gm gl gb m ∧ AF = allF E TK n (fun i => decide (E.getD i [] = [])) ((List.range i).drop a) m)
  case atStart => exact ⟨0, _, by omega, rfl, S6.out, HAF.out⟩
  case round =>
  obtain ⟨a, m, hak, rfl, hS, heq⟩ := hrel
  have HAK := hid hak
  have S := hid hS
  have EQ := hid heq
  clear hak hS heq S6
  by_cases ha : a < i
  · have hae : a < E.length := by rw [EL.out]; exact ha
    have ham : a < ms.length := by rw [SB.out.lm, ← HNW.out]; exact ha
    have ca := (S.out.b0.cell (p := ⟨gr + 1, a, none⟩) SB.out.rm.lt).trans (SB.out.rm.cell ham)
    have MX := hid (MA.out a ham hae)
    have HAE := hid hae
    obtain ⟨x, hx⟩ : ∃ x, x = ms[a] := ⟨_, rfl⟩
    rw [← hx] at ca MX
    have ga : (a : Int) < (i : Int) := by omega
    have ga0 : (0 : Int) ≤ (a : Int) := by omega
    have hD : E.getD a [] = E[a] := by rw [List.getD_eq_getElem?_getD, List.getElem?_eq_getElem hae]; rfl
    rw [range_drop ha, allF_cons, hD] at EQ
    clear hx hD
    by_cases h0 : E[a] = []
    · have hx0 := MX.out.2 h0
      subst hx0
      have EQ2 := hid (EQ.out.trans (if_pos (by simp [h0])))
      have e0 := neq_nil wr
      clear EQ h0
      go_wp2
      go_roundg (i - (a + 1))
      · exact ⟨a + 1, m, by omega, by go_num, S.out, EQ2.out⟩
      · have := HAK.out; omega
    · obtain ⟨hmx, px, capx, bx, ox, rfl, hpx, _⟩ := MX.out.1
      rw [zl_len] at hpx
      obtain ⟨rfl, _⟩ := hpx (List.length_pos_iff.2 h0)
      replace EQ := hid (EQ.out.trans (if_neg (by simp [h0])))
      have HL := hid (zl_len E[a])
      have e0 := fun a n c => neq_some a n c wr
      obtain ⟨w7, hw7⟩ : ∃ w7, w7 = wr.alloc (.cells (madeCells #[.bool false] n) 4) := ⟨_, rfl⟩
      have I7 := hid (show GvI wB w7 (.slice (some ⟨gr + 1, 0, none⟩) i i) E n gm gl gb wr.heap.size gt TK { m with seen := noB n } from S.out.give MN.out (by rw [hw7]; exact (Below.refl _ _).alloc (Nat.le_refl _) _) (by rw [hw7]; exact RowX.made wr n false _ rfl) (RT.out w7 (by rw [hw7]; exact S.out.b0.alloc S.out.b0.size _)) TL.out (Nat.le_refl _) (by have := (RT.out wr S.out.b0).lt; omega))
      have GV := hid (give_calls (n + 1) I7.out WO.out HAE.out (noB_left n m) (by rw [EL.out]; omega) (by omega) (fun l hl => by have := (EO.out l hl).1; omega))
      have HW7 := hid hw7
      obtain ⟨r, hr⟩ : ∃ r, r = giveF E TK (n + 1) a { m with seen := noB n } := ⟨_, rfl⟩
      rw [← hr] at GV EQ
      obtain ⟨rb, M⟩ := r
      have hk1 := mk_B wr n (by omega)
      clear h0 hw7 hr
      go_upto_region 21 with fail
      go_wp2_with fail
      rw [← HW7.out]
      refine GV.out.mono ?_
      rintro e w8 ⟨rfl, hI8, hk8⟩
      have I8 := hid hI8
      clear hI8 hk8 GV hk1
      cases rb with
      | true =>
        have EQ2 := hid (EQ.out.trans (if_pos rfl))
        clear EQ
        go_wp2
        go_roundg (i - (a + 1))
        · exact ⟨a + 1, M, by omega, by go_num, CwS.of I8.out, EQ2.out⟩
        · have := HAK.out; omega
      | false =>
        have EQ2 := hid (EQ.out.trans (if_neg (by simp)))
        have F := hid (FN.out false w8 (by
          have h1 := EQ2.out
          have h2 := HAF.out
          rw [h1] at h2
          rw [← HK.out, ← HE.out, ← HN.out, ← HTK.out, ← HNW.out, ← h2]
          rfl) (BW.out.trans (I8.out.b0.mono BW.out.size)))
        clear EQ
        go_wp2
        first | exact F.out | (go_ret; exact F.out)
  obtain rfl : a = i := by have := HAK.out; omega
  have g1 : decide ((a : Int) < (a : Int)) = false := by simp
  have AT := hid (show AF = true by rw [EQ.out, List.drop_of_length_le (by simp)]; rfl)
  obtain ⟨wD, hwD⟩ : ∃ wD, wD = wr := ⟨_, rfl⟩
  rw [← hwD] at S ⊢
  have BD := hid S.out.b0
  obtain ⟨RS, hRS⟩ : ∃ RS, RS = restF worth prices t := ⟨_, rfl⟩
  have RL := hid (show RS.length = a by rw [hRS, restF_len, HNW.out])
  have RO := hid (show ∀ l ∈ RS, l.length ≤ 64 ∧ ∀ j ∈ l, j < n by rw [hRS, HN.out]; exact restF_ok OK.out t)
  have RA := hid (fun k h1 h2 => SB.out.restAt OK.out k h1 h2)
  rw [← hRS] at RA
  have HRS := hid hRS
  have hmk := mk_NN wD n (by omega)
  have S0 := hid (show ∀ wx, wx = wD.alloc (.cells (madeCells #[.slice none 0 0] n) 27) → ByS wD.heap.size wx (List.replicate n (.slice none 0 0)) (List.replicate n []) ∧ Below wD.heap.size wD wx by
    rintro wx rfl
    exact ⟨ByS.start, (Below.refl _ _).alloc (Nat.le_refl _) _⟩)
  obtain ⟨BL, hBL⟩ : ∃ BL, BL = addAll TK RS 0 (List.replicate n []) := ⟨_, rfl⟩
  have HBL := hid hBL
  have TKC := hid (show ∀ wx, Below wD.heap.size wD wx → ∀ j, j < n → wx.cell? ⟨gt, j, none⟩ = some (.bool (TK.getD j false)) from fun wx hb j hj => (RT.out wx (BD.out.trans (hb.mono BD.out.size))).cellD (by rw [TL.out]; exact hj) false)
  clear hwD S EQ hRS hBL HAK
  go_upto_region 26 with fail
  obtain ⟨gy, hgy⟩ : ∃ gy, gy = wD.heap.size := ⟨_, rfl⟩
  rw [← hgy]
  rw [← hgy] at S0 TKC
  have HGY := hid hgy
  clear hgy hmk g1
  go_loopg [103] a (fun k s103 wr => ∃ (c : Nat) (us : List Value) (Ls : List (List Nat)), c + k = a ∧ s103 = .int .i64 c ∧ ByS gy wr us Ls ∧ Ls.length = n ∧ BL = addAll TK (RS.drop c) c Ls ∧ (∀ l ∈ Ls, l.length ≤ c * 64) ∧ Below gy wD wr)
  case atStart => exact ⟨0, _, _, by omega, rfl, (S0.out _ rfl).1, by simp, HBL.out, fun l hl => by rw [(List.mem_replicate.1 hl).2]; simp, (S0.out _ rfl).2⟩
  case round =>
  obtain ⟨c, vs5, Ls, hck, rfl, hS, hll5, heq, hbd, hb⟩ := hrel
  have HCK := hid hck
  have S := hid hS
  have LL := hid hll5
  have EQ := hid heq
  have BD5 := hid hbd
  have B5 := hid hb
  clear hck hS heq hbd hb S0 hll5
  by_cases hc : c < a
  · have hcr : c < RS.length := by rw [RL.out]; exact hc
    have hcu : c < us.length := by rw [SB.out.lu, ← HNW.out]; exact hc
    have BBR := hid (BD.out.trans (B5.out.mono (by rw [HGY.out]; exact BD.out.size)))
    have cc := (BBR.out.cell (p := ⟨gr, c, none⟩) SB.out.rr.lt).trans (SB.out.rr.cell hcu)
    have RX := RA.out c hcu hcr
    have hRO := RO.out _ (List.getElem_mem hcr)
    rw [List.drop_eq_getElem_cons hcr, addAll] at EQ
    obtain ⟨r, hr⟩ : ∃ r, r = RS[c] := ⟨_, rfl⟩
    obtain ⟨x, hx⟩ : ∃ x, x = us[c] := ⟨_, rfl⟩
    rw [← hx] at cc RX
    rw [← hr] at RX hRO EQ
    obtain ⟨⟨hm6, p6, cap6, bb6, off6, hv6, hp6, hc6⟩, _⟩ := RX
    rw [zl_len] at hv6 hp6
    subst hv6
    obtain ⟨L, hL⟩ : ∃ L, L = r.length := ⟨_, rfl⟩
    have RC := hid (show ∀ wx, Below gy wD wx → ∀ d, (hd : d < r.length) → ∃ g o, p6 = some ⟨g, o, none⟩ ∧ wx.cell? ⟨g, o + d, none⟩ = some (.int .i64 (r[d] : Nat)) from fun wx hb d hd => by
      obtain ⟨rfl, hl6⟩ := hp6 (by omega)
      refine ⟨bb6, off6, rfl, ?_⟩
      have := ((BD.out.trans (hb.mono (by rw [HGY.out]; exact BD.out.size))).cell (p := ⟨bb6, off6 + d * 1 + 0, none⟩) hl6).trans (hc6 d (by rw [zl_len]; exact hd) 0 (by omega))
      rw [zl_get] at this
      simpa [encI] using this)
    rw [← hL] at cc hRO
    have HL := hid hL
    have gc : (c : Int) < (a : Int) := by omega
    have gc0 : (0 : Int) ≤ (c : Int) := by omega
    have hL64 := hRO.1
    have RJ := hid hRO.2
    obtain ⟨L0, hL0⟩ : ∃ L0, L0 = addB TK c r Ls := ⟨_, rfl⟩
    rw [← hL0] at EQ
    have HL0 := hid hL0
    clear hr hx hm6 hp6 hc6 hL hRO hL0
    go_upto_region 29 with fail
    go_loopg [110] L (fun k s110 wr => ∃ (d : Nat) (us : List Value) (Ls : List (List Nat)), d + k = L ∧ s110 = .int .i64 d ∧ ByS gy wr us Ls ∧ Ls.length = n ∧ L0 = addB TK c (r.drop d) Ls ∧ (∀ l ∈ Ls, l.length ≤ c * 64 + d) ∧ Below gy wD wr)
    case atStart => exact ⟨0, _, _, by omega, rfl, S.out, LL.out, HL0.out, fun l hl => by have := BD5.out l hl; omega, B5.out⟩
    case round =>
    obtain ⟨d, us6, Ls6, hdk, rfl, hS, hll6, heq, hbd, hb⟩ := hrel
    have HDK := hid hdk
    have S6 := hid hS
    have LL6 := hid hll6
    have EQ6 := hid heq
    have BD6 := hid hbd
    have B6 := hid hb
    clear hdk hS heq hbd hb hll6 cc S LL BD5 B5
    by_cases hd : d < L
    · have hdr : d < r.length := by rw [← HL.out]; exact hd
      obtain ⟨g6, o6, rfl, cd⟩ := RC.out wr B6.out d hdr
      have hjn := RJ.out _ (List.getElem_mem hdr)
      rw [List.drop_eq_getElem_cons hdr, addB] at EQ6
      obtain ⟨j, hj⟩ : ∃ j, j = r[d] := ⟨_, rfl⟩
      rw [← hj] at cd hjn EQ6
      have ct := TKC.out wr B6.out j hjn
      obtain ⟨tb, htb⟩ : ∃ tb, tb = TK.getD j false := ⟨_, rfl⟩
      rw [← htb] at ct EQ6
      have gd : (d : Int) < (L : Int) := by omega
      have gd0 : (0 : Int) ≤ (d : Int) := by omega
      have gj : (j : Int) < (n : Int) := by omega
      have gj0 : (0 : Int) ≤ (j : Int) := by omega
      clear hj htb
      cases tb with
      | true =>
        rw [if_pos rfl] at EQ6
        go_wp2
        go_roundg (L - (d + 1))
        · exact ⟨d + 1, _, _, by omega, by go_num, S6.out, LL6.out, EQ6.out, fun l hl => by have := BD6.out l hl; omega, B6.out⟩
        · have := HDK.out; omega
      | false =>
        rw [if_neg (by simp)] at EQ6
        have hjl : j < Ls6.length := by rw [LL6.out]; exact hjn
        have hju : j < us6.length := by rw [S6.out.len]; exact hjl
        have hbj := BD6.out _ (List.getElem_mem hjl)
        have hca : c ≤ 64 := by omega
        have eD : Ls6.getD j [] = Ls6[j] := by simp [hjl]
        rw [eD] at EQ6
        obtain ⟨v7, w7, r7, ⟨p7, c7, hv7⟩, cg7, fg7, S7, b7⟩ := S6.out.app hju hjl c (by omega)
        have cj := S6.out.row.cell hju
        have R7 := hid r7
        have SS7 := hid S7
        have B7 := hid (B6.out.trans (b7.mono (Nat.le_refl _)))
        have BD7 := hid (show ∀ l ∈ Ls6.set j (Ls6[j] ++ [c]), l.length ≤ c * 64 + (d + 1) from fun l hl => by
          rcases List.mem_or_eq_of_mem_set hl with hl | rfl
          · have := BD6.out l hl; omega
          · simp; omega)
        have LL7 := hid (show (Ls6.set j (Ls6[j] ++ [c])).length = n by simp [LL6.out])
        obtain ⟨xj, hxj⟩ : ∃ xj, xj = us6[j] := ⟨_, rfl⟩
        rw [← hxj] at R7 cj cg7
        obtain ⟨l7, hl7⟩ : ∃ l7, l7 = Ls6[j].length + 1 := ⟨_, rfl⟩
        rw [← hl7] at hv7
        subst hv7
        clear r7 S7 b7 hxj hl7 eD hbj
        go_wp2_with (at_builtin; refine wpList_append_run rfl (.tmp 124) (.tmp 126) 27 rfl _ _ _ w7 rfl rfl R7.out ?_)
        go_roundg (L - (d + 1))
        · exact ⟨d + 1, _, _, by omega, by go_num, SS7.out, LL7.out, EQ6.out, BD7.out, B7.out⟩
        · have := HDK.out; omega
    obtain rfl : d = L := by have := HDK.out; omega
    have g1 : decide ((d : Int) < (d : Int)) = false := by simp
    have hT : r.drop d = [] := List.drop_of_length_le (by rw [HL.out]; exact Nat.le_refl _)
    rw [hT, addB] at EQ6
    rw [EQ6.out] at EQ
    clear hT
    go_wp2
    go_roundg (a - (c + 1))
    · exact ⟨c + 1, _, _, by omega, by go_num, S6.out, LL6.out, EQ.out, fun l hl => by have := BD6.out l hl; omega, B6.out⟩
    · have := HCK.out; omega
  obtain rfl : c = a := by have := HCK.out; omega
  have g1 : decide ((c : Int) < (c : Int)) = false := by simp
  have LB := hid (show Ls = byLotF worth prices lots by
    have e1 := EQ.out
    rw [List.drop_of_length_le (by rw [RL.out]; exact Nat.le_refl _), addAll] at e1
    rw [← e1, HBL.out, HTK.out, HRS.out, HN.out, HK.out]
    exact byLot_fold)
  have EO2 := hid (show ∀ l ∈ Ls, l.length ≤ 64 ∧ ∀ j ∈ l, j < c by rw [LB.out, HNW.out]; exact byLotF_ok OK.out)
  obtain ⟨wG, hwG⟩ : ∃ wG, wG = wr := ⟨_, rfl⟩
  rw [← hwG] at S B5 ⊢
  have NG := hid (show NestN wG (.slice (some ⟨gy, 0, none⟩) n n) Ls by
    have := S.out.nest (by rw [LL.out]; omega) (fun l hl => by have := (EO2.out l hl).1; omega)
    rw [LL.out] at this
    exact this)
  have BWG := hid (BW.out.trans ((BD.out.trans (B5.out.mono (by rw [HGY.out]; exact BD.out.size))).mono BW.out.size))
  have TKG := hid (show ∀ wx, Below wG.heap.size wG wx → ∀ j, j < n → wx.cell? ⟨gt, j, none⟩ = some (.bool (TK.getD j false)) from fun wx hb j hj => TKC.out wx (B5.out.trans (hb.mono (by have := S.out.row.lt; omega))) j hj)
  have NM := hid (newMatching_calls (w := wG) (p := some ⟨gy, 0, none⟩) (nw := n) (cap := n) (n := c) h2 h1 (by omega) (by omega))
  have gyl := S.out.row.lt
  have VR := hid S.out.row
  have VN := hid S.out.len
  clear hwG EQ HCK BD5
  go_upto_region 35 with fail
  go_wp2_with fail
  refine NM.out.mono ?_
  rintro e w9 ⟨gm2, gl2, gb2, rfl, hM, hb9⟩
  have S9 := hid (show CwS wG w9 (.slice (some ⟨gy, 0, none⟩) n n) Ls c gm2 gl2 gb2 ⟨List.replicate n (-1), List.replicate c (-1), []⟩ from ⟨hb9, hM, ⟨by simp [LL.out], by simp, noB_len c, fun j hj => by rw [(List.mem_replicate.1 hj).2]; omega⟩⟩)
  have WO2 := hid (show wOk Ls c from fun l hl j hj => (EO2.out l hl).2 j hj)
  obtain ⟨BF, hBF⟩ : ∃ BF, BF = allF Ls (noB c) c (fun j => TK.getD j false || decide (prices.getD j 0 ≤ 0)) (List.range n) ⟨List.replicate n (-1), List.replicate c (-1), []⟩ := ⟨_, rfl⟩
  have HBF := hid hBF
  have FB := hid (show ∀ (b : Bool) w', b = BF → Below w.heap.size w w' → R (.returned (.bool b)) w' from fun b w' hb hw => FN.out b w' (by
    rw [hb]
    have h2 := HAF.out
    have h3 := HBF.out
    rw [AT.out] at h2
    rw [← HK.out, ← HE.out, ← HN.out, ← HTK.out, ← HNW.out, ← h2, Bool.true_and, h3, LB.out]) hw)
  clear hM hb9 NM hBF g1
  go_upto_region 37 with fail
  go_loopg [137] n (fun k s137 wr => ∃ (b : Nat) (m : Mg), b + k = n ∧ s137 = .int .i64 b ∧ CwS wG wr (.slice (some ⟨gy, 0, none⟩) n n) Ls c gm2 gl2 gb2 m ∧ BF = allF Ls (noB c) c (fun j => TK.getD j false || decide (prices.getD j 0 ≤ 0)) ((List.range n).drop b) m)
  case atStart => exact ⟨0, _, by omega, rfl, S9.out, HBF.out⟩
  case round =>
  obtain ⟨b, m, hbk, rfl, hS, heq⟩ := hrel
  have HBK := hid hbk
  have S := hid hS
  have EQ := hid heq
  clear hbk hS heq S9
  by_cases hb : b < n
  · have hbl : b < Ls.length := by rw [LL.out]; exact hb
    have hbp : b < prices.length := by rw [← HN.out]; exact hb
    have ct := TKG.out wr S.out.b0 b hb
    obtain ⟨rfl, hbbp⟩ := HPP.out (by omega)
    have cp := ((BWG.out.trans (S.out.b0.mono BWG.out.size)).cell (p := ⟨bb, off + b * 1 + 0, none⟩) hbbp).trans (HCP.out b hbp 0 (by omega))
    simp [encI] at cp
    rw [range_drop hb, allF_cons] at EQ
    have eD : prices.getD b 0 = prices[b] := by simp [hbp]
    rw [eD] at EQ
    obtain ⟨q, hq⟩ : ∃ q, q = prices[b] := ⟨_, rfl⟩
    obtain ⟨tb, htb⟩ : ∃ tb, tb = TK.getD b false := ⟨_, rfl⟩
    rw [← hq] at cp EQ
    rw [← htb] at ct EQ
    have gb0 : (b : Int) < (n : Int) := by omega
    have gb1 : (0 : Int) ≤ (b : Int) := by omega
    clear hq htb eD
    cases tb with
    | true =>
      replace EQ := hid (EQ.out.trans (if_pos (by simp)))
      go_upto_region 39 with fail
      go_region
      all_goals (
        go_wp2
        go_roundg (n - (b + 1))
        · exact ⟨b + 1, m, by omega, by go_num, S.out.drew, EQ.out⟩
        · have := HBK.out; omega)
    | false =>
      by_cases hq0 : q ≤ 0
      · replace EQ := hid (EQ.out.trans (if_pos (by simp [hq0])))
        have HD := hid (show decide (0 < q) = false by simp; omega)
        clear hq0
        go_upto_region 39 with fail
        have hd := HD.out
        go_quiet (fail)
        go_wp2
        go_roundg (n - (b + 1))
        · exact ⟨b + 1, m, by omega, by go_num, S.out.drewN nq, EQ.out⟩
        · have := HBK.out; omega
      · replace EQ := hid (EQ.out.trans (if_neg (by simp [hq0])))
        have hq1 : 0 < q := by omega
        have hkB := fun w => mk_B w c (by omega)
        have hsz : ∀ o, (wr.alloc o).heap.size = wr.heap.size + 1 := fun o => by simp
        have r1 : RB ((wr.alloc (.cells (madeCells #[.bool false] c) 4)).alloc (.cells (madeCells #[.bool false] c) 4)) wr.heap.size (noB c) := RowX.alloc (RowX.made wr c false _ rfl) _
        have r2 : RB ((wr.alloc (.cells (madeCells #[.bool false] c) 4)).alloc (.cells (madeCells #[.bool false] c) 4)) (wr.heap.size + 1) (noB c) := by
          have := RowX.made (ty := 4) (mk := fun b => Value.bool b) (wr.alloc (.cells (madeCells #[.bool false] c) 4)) c false _ rfl
          rw [hsz] at this
          exact this
        have b2 : Below wr.heap.size wr ((wr.alloc (.cells (madeCells #[.bool false] c) 4)).alloc (.cells (madeCells #[.bool false] c) 4)) := ((Below.refl _ _).alloc (Nat.le_refl _) _).alloc (by simp) _
        have IA := hid ((S.out.give NG.out b2 r2 r1 (noB_len c) (by omega) (by omega)).drewN 1)
        have IB := hid ((S.out.give NG.out b2 r1 r2 (noB_len c) (by omega) (by omega)).drewN 1)
        have GV := hid (fun (wx : World) (gs gr : Nat) (hI : GvI wG wx (.slice (some ⟨gy, 0, none⟩) n n) Ls c gm2 gl2 gb2 gs gr (noB c) { m with seen := noB c }) => give_calls (c + 1) hI WO2.out hbl (noB_left c m) (by rw [LL.out]; omega) (by omega) (fun l hl => by have := (EO2.out l hl).1; omega))
        obtain ⟨r, hr⟩ : ∃ r, r = giveF Ls (noB c) (c + 1) b { m with seen := noB c } := ⟨_, rfl⟩
        rw [← hr] at GV EQ
        obtain ⟨rb, M⟩ := r
        have KS := hid (show ∀ wx, Below wG.heap.size wG wx → wx.cell? ⟨gt, b, none⟩ = some (.bool false) ∧ wx.cell? ⟨bb, off + b, none⟩ = some (.int .i64 q) from fun wx hx => by
          have e1 := TKG.out wx hx b hb
          have e2 := TKG.out wr S.out.b0 b hb
          rw [ct] at e2
          have e3 := (BWG.out.trans (hx.mono BWG.out.size)).cell (p := ⟨bb, off + b, none⟩) hbbp
          have e4 := (BWG.out.trans (S.out.b0.mono BWG.out.size)).cell (p := ⟨bb, off + b, none⟩) hbbp
          exact ⟨e1.trans e2.symm, e3.trans (e4.symm.trans cp)⟩)
        have hcur := S.out.b0
        have HQ := hid hq1
        clear r1 r2 b2 hr hsz hq0 hq1
        go_upto_region 39 with fail
        have hd := HQ.out
        go_region_held3 (fun wh => wh.cell? ⟨gt, b, none⟩ = some (.bool false) ∧ wh.cell? ⟨bb, off + b, none⟩ = some (.int .i64 q))
          (first | exact KS.out _ hcur | exact KS.out _ hcur.drew | exact KS.out _ (hcur.alloc hcur.size _) | exact KS.out _ ((hcur.alloc hcur.size _).alloc (hcur.alloc hcur.size _).size _) | exact KS.out _ (hcur.alloc hcur.size _).drew | exact KS.out _ ((hcur.alloc hcur.size _).alloc (hcur.alloc hcur.size _).size _).drew | assumption)
          (first
            | (go_at_call 105; refine (GV.out _ _ _ ?_).mono ?_; (first | exact IA.out | exact IB.out); rintro e w8 ⟨rfl, hI8, hk8⟩; have I8 := hid (CwS.of hI8); replace hcur := hI8.b0; clear hI8 hk8)
            | fail)
        all_goals (
          clear hd hcur
          cases rb with
          | true =>
            have EQ2 := hid (EQ.out.trans (if_pos rfl))
            clear EQ
            go_wp2
            go_roundg (n - (b + 1))
            · exact ⟨b + 1, M, by omega, by go_num, I8.out, EQ2.out⟩
            · have := HBK.out; omega
          | false =>
            have EQ2 := hid (EQ.out.trans (if_neg (by simp)))
            have F := hid (FB.out false w8 EQ2.out.symm (BWG.out.trans (I8.out.b0.mono BWG.out.size)))
            clear EQ
            go_wp2
            first | exact F.out | (go_ret; exact F.out))
  obtain rfl : b = n := by have := HBK.out; omega
  have g1 : decide ((b : Int) < (b : Int)) = false := by simp
  have F := hid (FB.out true wr (by rw [EQ.out, List.drop_of_length_le (by simp)]; rfl) (BWG.out.trans (S.out.b0.mono BWG.out.size)))
  go_wp2
  first | exact F.out | (go_ret; exact F.out)
end Go.Proofs.YtojednnciknhpaaDoor
namespace Go.Proofs.YtojednnciknhpaaDoor
set_option linter.unusedSimpArgs false
set_option linter.unusedVariables false
open Go.RowKit
attribute [local go_sem] Oper.semAt_some
attribute [local go_sem ↓] Go.wp_at_zero Go.wp_at_succ
/-- Another row comes behind a row. -/
theorem rown_all {B B2 : Nat} {w : World} {v u : Value} {l m : List Int} (h : RowN B w v l) (hB : B ≤ w.heap.size) (hu : RowN B2 w u m) (hl : l.length ≤ 100000) (hm : m.length ≤ 100000) :
    ∃ v' w', (Builtin.append_ #[27, 27] 27 #[v, u]).run Tryd.prog w = .ok v' w' ∧ RowN B w' v' (l ++ m) ∧ Kept (fun k => some k = v.ownBlock) w w' := by
  obtain ⟨v', w', r1, r2, r3, _⟩ := own_append (ty := 27) undN infoN rfl (by omega) encI_len encI_one h hB hu.src (by unfold maxLen; omega) (by omega)
  exact ⟨v', w', r1, r2, r3⟩

set_option maxRecDepth 100000 in
set_option maxHeartbeats 4000000 in
theorem clone_calls {B : Nat} {w : World} {v : Value} {l : List Int} (h : RowN B w v l) (hl : l.length ≤ 5000) :
    Calls Tryd.prog 65 #[v] w fun e w' => ∃ v', e = .returned v' ∧ RowN w.heap.size w' v' l ∧ Below w.heap.size w w' := by
  obtain ⟨R, hR⟩ : ∃ R : Ending → World → Prop, R = fun e w' => ∃ v', e = .returned v' ∧ RowN w.heap.size w' v' l ∧ Below w.heap.size w w' := ⟨_, rfl⟩
  rw [← hR]
  have FN := hid (show ∀ v' w', RowN w.heap.size w' v' l → Below w.heap.size w w' → R (.returned v') w' from fun v' w' a b => by rw [hR]; exact ⟨v', rfl, a, b⟩)
  clear hR
  obtain ⟨p, c, hv, hh⟩ := h.form
  rcases hh with ⟨rfl, h0⟩ | ⟨g, rfl, hg, hgl⟩
  · have h3 : v = .slice none 0 0 := by
      rcases h.2 with ⟨h1, _⟩ | ⟨g, cap, cur, h1, _⟩
      · exact h1
      · rw [h1] at hv; cases hv
    have F := hid (FN.out (.slice none 0 0) w (by rw [h0]; exact OwnE.nil _ _) (Below.refl _ _))
    have e0 := eql_nil w
    subst h3
    clear hv h FN
    go_enter Tryd.func65, Tryd.ntmps65
    go_wp2
    first | exact F.out | (go_ret; exact F.out)
  · have e0 := fun a n c => eql_some a n c w
    have hb := (Below.refl w.heap.size w).alloc (Nat.le_refl _) (.cells #[] 3)
    have r0 : RN (w.alloc (.cells #[] 3)) w.heap.size [] := Cells.new w #[] _
    have o0 : RowN w.heap.size (w.alloc (.cells #[] 3)) (.slice (some ⟨w.heap.size, 0, none⟩) 0 0) [] := r0.own (Nat.le_refl _) (by simp)
    obtain ⟨v', w', r1, r2, r3⟩ := rown_all o0 (by simp) (h.below hb) (by simp) (by omega)
    rw [List.nil_append] at r2
    have F := hid (FN.out v' w' r2 (hb.trans (kept_own o0 (by simp) r3)))
    have R1 := hid r1
    obtain ⟨n, hn⟩ : ∃ n, n = l.length := ⟨_, rfl⟩
    rw [← hn] at hv
    subst hv
    clear h FN r0 o0 r1 r2 r3 hb hn
    go_enter Tryd.func65, Tryd.ntmps65
    go_wp2_with (at_builtin; refine wpList_append_run rfl (.tmp 5) (.tmp 6) 27 rfl _ _ v' w' rfl rfl R1.out ?_)
    first | exact F.out | (go_ret; exact F.out)

set_option maxRecDepth 100000 in
set_option maxHeartbeats 4000000 in
theorem hall_bad {w : World} {v : Value} {L : List (List Int)} (hv : NestE encI 1 w v L) (h0 : chkH L ≠ 0) :
    Calls Tryd.prog 25 #[v] w fun e w' => e = .returned (.tuple #[.slice none 0 0, .slice none 0 0, .int .i64 (chkH L)]) ∧ Below w.heap.size w w' := by
  have CH := hid (checkHall_calls hv)
  obtain ⟨R, hR⟩ : ∃ R : Ending → World → Prop, R = fun e w' => e = .returned (.tuple #[.slice none 0 0, .slice none 0 0, .int .i64 (chkH L)]) ∧ Below w.heap.size w w' := ⟨_, rfl⟩
  rw [← hR]
  have FN := hid (show ∀ w', Below w.heap.size w w' → R (.returned (.tuple #[.slice none 0 0, .slice none 0 0, .int .i64 (chkH L)])) w' from fun w' a => by rw [hR]; exact ⟨rfl, a⟩)
  clear hR
  obtain ⟨c, hc⟩ : ∃ c, c = chkH L := ⟨_, rfl⟩
  rw [← hc] at CH FN h0
  have e1 : (c == 0) = false := by simpa using h0
  have e2 : (c != 0) = true := by simpa using h0
  obtain ⟨vs, ⟨hm, p, cap, bb, off, rfl, hp2, hc2⟩, hl2, hk2⟩ := hv
  clear hc hm hp2 hc2 hl2 hk2
  go_enter Tryd.func25, Tryd.ntmps25
  go_wp2_with fail
  go_step3
  go_wp2_with fail
  refine CH.out.mono ?_
  rintro e w2 ⟨rfl, hb⟩
  have F := hid (FN.out w2 hb)
  clear hb CH
  go_wp2
  rw [Exit.noGoto_ret]
  exact bodyPost_ret (by simp [results, Tryd.results25, go_sem]) rfl F.out

/-- What is tried for a buyer. -/
def optsF (row prices : List Int) : List Int := (if gainF row prices = 0 then [-1] else []) ++ zl (wantsF row prices)
def tryF (worth : List (List Int)) (prices ls : List Int) (j : Int) : Bool := !(decide (0 ≤ j) && ls.contains j) && balancedF worth prices (ls ++ [j])
theorem hallF_cons (worth : List (List Int)) (prices : List Int) (row : List Int) (r : List (List Int)) (ls : List Int) : hallF worth prices (row :: r) ls = match (optsF row prices).find? (tryF worth prices ls) with
    | none => hallF worth prices r ls
    | some j => hallF worth prices r (ls ++ [j]) := by rw [hallF]; rfl
theorem optsF_lt {row prices : List Int} {n : Nat} (hn : row.length = n) (h64 : n ≤ 64) : (optsF row prices).length ≤ 65 ∧ ∀ j ∈ optsF row prices, j < (n : Int) := by
  obtain ⟨h1, h2⟩ := wantsF_ok (prices := prices) hn h64
  unfold optsF
  refine ⟨?_, fun j hj => ?_⟩
  · rw [List.length_append, zl_len]
    split <;> simp <;> omega
  · rcases List.mem_append.1 hj with hj | hj
    · split at hj
      · simp at hj; omega
      · cases hj
    · obtain ⟨k, hk, rfl⟩ := List.mem_map.1 hj
      have := h2 k hk
      omega

set_option maxRecDepth 100000 in
set_option maxHeartbeats 16000000 in
theorem hall_calls {w : World} {v : Value} {L : List (List Int)} {f : Nat} {q : List Int} (hv : NestE encI 1 w v L) (h0 : chkH L = 0) (hres : leastF L f (List.replicate (cols L) 0) = some q) :
    Calls Tryd.prog 25 #[v] w fun e w' => ∃ vl gp, e = .returned (.tuple #[vl, .slice (some ⟨gp, 0, none⟩) (cols L) (cols L), .int .i64 0]) ∧ RowN w.heap.size w' vl (hallF L q L []) ∧ RI w' gp q ∧ q.length = cols L ∧ okW q ∧ w.heap.size ≤ gp ∧ Below w.heap.size w w' := by
  obtain ⟨ok, h1, h2⟩ := chkH_ok h0
  have CH := hid (checkHall_calls hv)
  rw [h0] at CH
  have LC := hid (fun (wx : World) (hb : Below w.heap.size w wx) => least_calls (hv.below hb) ok h1 h2 hres)
  obtain ⟨R, hR⟩ : ∃ R : Ending → World → Prop, R = fun e w' => ∃ vl gp, e = .returned (.tuple #[vl, .slice (some ⟨gp, 0, none⟩) (cols L) (cols L), .int .i64 0]) ∧ RowN w.heap.size w' vl (hallF L q L []) ∧ RI w' gp q ∧ q.length = cols L ∧ okW q ∧ w.heap.size ≤ gp ∧ Below w.heap.size w w' := ⟨_, rfl⟩
  rw [← hR]
  obtain ⟨n, hn⟩ : ∃ n, n = cols L := ⟨_, rfl⟩
  obtain ⟨nw, hnw⟩ : ∃ nw, nw = L.length := ⟨_, rfl⟩
  have FN := hid (show ∀ vl gp w', RowN w.heap.size w' vl (hallF L q L []) → RI w' gp q → q.length = n → okW q → w.heap.size ≤ gp → Below w.heap.size w w' → R (.returned (.tuple #[vl, .slice (some ⟨gp, 0, none⟩) n n, .int .i64 0])) w' from fun vl gp w' a b c d e g => by rw [hR, hn]; exact ⟨vl, gp, rfl, a, b, by rw [c, hn], d, e, g⟩)
  rw [← hn] at LC ok h2
  rw [← hnw] at h1
  have OK := hid ok
  have NV := hid hv
  have hr64 := ok.rows
  have hc64 := ok.cols
  rw [← hnw] at hr64
  have HNW := hid hnw
  have H2 := hid h2
  obtain ⟨vs, ⟨hm, p, cap, bb, off, hvv, hp, hc⟩, hvl, hvk⟩ := hv
  have hvn : vs.length = nw := by rw [hnw]; exact hvl
  rw [hvn] at hvv hp
  subst hvv
  have HVN := hid hvn
  have HVK := hid hvk
  have HP := hid hp
  have HC := hid hc
  clear hR hn hnw ok hm hp hc hvl hvk hvn hres h0
  go_enter Tryd.func25, Tryd.ntmps25
  go_wp2_with fail
  go_step3
  go_wp2_with fail
  refine CH.out.mono ?_
  rintro e w2 ⟨rfl, hb⟩
  have B2 := hid hb
  have L2 := hid (LC.out w2 hb)
  clear hb CH LC
  go_wp2_with fail
  refine L2.out.mono ?_
  rintro e w3 ⟨gp, rfl, hrow, hql, hqok, hgp, hb3⟩
  have B3 := hid (B2.out.trans (hb3.mono B2.out.size))
  have ROW := hid hrow
  have QL := hid hql
  have QOK := hid hqok
  have HGP := hid (show w.heap.size ≤ gp from Nat.le_trans B2.out.size hgp)
  have PR := hid (show ReadsE encI 1 w3 (.slice (some ⟨gp, 0, none⟩) n n) q by
    have := hrow.reads (by rw [hql]; omega) n
    rw [hql] at this
    exact this)
  have OKQ := hid (show OkH L q.length by rw [hql]; exact OK.out)
  clear hrow hql hqok hgp hb3 L2
  go_wp2_with fail
  go_step3
  go_upto_region 6 with fail
  go_loopg [20, 2] nw (fun k s20 s2 wr => ∃ (i : Nat) (b2 : Value) (ls : List Int), i + k = nw ∧ s20 = .int .i64 i ∧ b2 = s2 ∧ RowN w3.heap.size wr b2 ls ∧ hallF L q L [] = hallF L q (L.drop i) ls ∧ (∀ x ∈ ls, x < (n : Int)) ∧ ls.length ≤ i ∧ Below w3.heap.size w3 wr)
  case atStart => exact ⟨0, _, [], by omega, rfl, rfl, OwnE.nil _ _, rfl, (fun x hx => by cases hx), Nat.le_refl _, Below.refl _ _⟩
  case round =>
  obtain ⟨i, b2, ls, hik, rfl, rfl, hr, heq, hlt, hll, hb⟩ := hrel
  have HIK := hid hik
  have RL := hid hr
  have EQ := hid heq
  have LT := hid hlt
  have LL := hid hll
  have B := hid hb
  have BW := hid (B3.out.trans (hb.mono B3.out.size))
  clear hik hr heq hlt hll hb
  by_cases hin : i < nw
  · have hil : i < L.length := by rw [← HNW.out]; exact hin
    have hiv : i < vs.length := by rw [HVN.out]; exact hin
    obtain ⟨rfl, hbb⟩ := HP.out (by omega)
    have ci := (BW.out.cell (p := ⟨bb, off + i * 1 + 0, none⟩) hbb).trans (HC.out i hiv 0 (by omega))
    simp at ci
    have RX := HVK.out i hiv hil
    have hro := OK.out.ok _ (List.getElem_mem hil)
    have hrl := OK.out.len _ (List.getElem_mem hil)
    rw [List.drop_eq_getElem_cons hil, hallF_cons] at EQ
    obtain ⟨x, hx⟩ : ∃ x, x = vs[i] := ⟨_, rfl⟩
    rw [← hx] at ci RX
    have WC := hid (wants_calls (RX.below BW.out) (PR.out.below B.out) (by rw [hrl, QL.out]; exact Nat.le_refl _) (by rw [hrl]; omega) hro QOK.out)
    have GC := hid (fun wx (h1 : Below w.heap.size w wx) (h2 : Below w3.heap.size w3 wx) => gain_calls (RX.below h1) (PR.out.below h2) (by rw [hrl, QL.out]; exact Nat.le_refl _) (by rw [hrl]; omega) hro QOK.out)
    have OO := hid (optsF_lt (prices := q) hrl hc64)
    obtain ⟨row, hrow⟩ : ∃ row, row = L[i] := ⟨_, rfl⟩
    rw [← hrow] at WC GC OO EQ
    obtain ⟨G, hG⟩ : ∃ G, G = gainF row q := ⟨_, rfl⟩
    obtain ⟨O, hO⟩ : ∃ O, O = optsF row q := ⟨_, rfl⟩
    have HO := hid hO
    rw [← hO] at OO EQ
    unfold optsF at HO
    rw [← hG] at GC HO
    have gi : (i : Int) < (nw : Int) := by omega
    have gi0 : (0 : Int) ≤ (i : Int) := by omega
    have W64 := hid (show (wantsF row q).length ≤ 64 from (wantsF_ok (by rw [hrow]; exact hrl) hc64).1)
    clear hro hrl hx hrow hG hO RX
    go_upto_region 8 with fail
    go_wp2_with fail
    refine WC.out.mono ?_
    rintro e w4 ⟨v7, rfl, hr7, _, hb4⟩
    have R7 := hid hr7
    have B4 := hid hb4
    have G4 := hid (GC.out w4 (BW.out.trans (hb4.mono BW.out.size)) (B.out.trans (hb4.mono B.out.size)))
    have ci4 := (hb4.cell (p := ⟨bb, off + i, none⟩) (World.block_lt_of_cell? _ _ ci)).trans ci
    clear hr7 hb4 WC GC ci
    go_wp2_with fail
    refine G4.out.mono ?_
    rintro e w5 ⟨rfl, hw5⟩
    rw [hw5]
    clear hw5 G4
    go_upto_if 35 with fail
    go_cut [7] (fun s7 wx => ∃ b7, b7 = s7 ∧ RowN wr.heap.size wx b7 O ∧ Below wr.heap.size wr wx)
    case first =>
      by_cases hG0 : G = 0
      · have e1 : (G == 0) = true := by simpa using hG0
        have ha := (Below.refl w4.heap.size w4).alloc (Nat.le_refl _) (.cells #[.int .i64 (-1)] 3)
        have r0 : RN (w4.alloc (.cells #[.int .i64 (-1)] 3)) w4.heap.size [-1] := Cells.new w4 #[.int .i64 (-1)] _
        have o0 : RowN w4.heap.size (w4.alloc (.cells #[.int .i64 (-1)] 3)) (.slice (some ⟨w4.heap.size, 0, none⟩) 1 1) [-1] := r0.own (Nat.le_refl _) (by simp [maxLen])
        obtain ⟨v8, w6, r1, r2, r3⟩ := rown_all o0 (by simp) (R7.out.below ha) (by simp) (by rw [zl_len]; have := W64.out; omega)
        have R1 := hid r1
        have F := hid (show ∃ b7, b7 = v8 ∧ RowN wr.heap.size w6 b7 O ∧ Below wr.heap.size wr w6 from ⟨_, rfl, by rw [HO.out, if_pos hG0]; exact OwnE.mono r2 B4.out.size, B4.out.trans ((ha.trans (kept_own o0 (by simp) r3)).mono B4.out.size)⟩)
        obtain ⟨p7, c7, hv7, _⟩ := R7.out.form
        clear ha r0 o0 r1 r2 r3 hG0
        go_wp2_with (at_builtin; refine wpList_append_run rfl (.tmp 36) (.tmp 37) 27 rfl _ _ v8 w6 rfl rfl R1.out ?_)
        go_meet
        exact F.out
      · have e1 : (G == 0) = false := by simpa using hG0
        have F := hid (show ∃ b7, b7 = v7 ∧ RowN wr.heap.size w4 b7 O ∧ Below wr.heap.size wr w4 from ⟨_, rfl, by rw [HO.out, if_neg hG0, List.nil_append]; exact R7.out, B4.out⟩)
        go_wp2
        go_meet
        exact F.out
    case rest =>
    obtain ⟨b7, rfl, hr7, hbc⟩ := hcut
    obtain ⟨wC, hwC⟩ : ∃ wC, wC = wc := ⟨_, rfl⟩
    rw [← hwC] at hr7 hbc ⊢
    have RO := hid hr7
    have RLC := hid (RL.out.below hbc)
    have BC := hid (B.out.trans (hbc.mono B.out.size))
    have BWC := hid (BW.out.trans (hbc.mono BW.out.size))
    obtain ⟨p7, c7, hv7, hf7⟩ := hr7.form
    obtain ⟨K, hK⟩ : ∃ K, K = O.length := ⟨_, rfl⟩
    rw [← hK] at hv7
    subst hv7
    have HK := hid hK
    have CO := hid (show ∀ wx, Below wC.heap.size wC wx → ∀ t, (ht : t < O.length) → ∃ g, p7 = some ⟨g, 0, none⟩ ∧ wx.cell? ⟨g, t, none⟩ = some (.int .i64 O[t]) from fun wx hb t ht => by
      rcases hf7 with ⟨_, h0⟩ | ⟨g, rfl, hg, hgl⟩
      · rw [h0] at ht; simp at ht
      · obtain ⟨_, _, _, hcc⟩ := OwnE.cellsAt encI_len (RO.out.below hb)
        have := hcc t ht 0 (by omega)
        exact ⟨g, rfl, by simpa [encI] using this⟩)
    have hK65 : K ≤ 65 := by rw [hK]; exact OO.out.1
    clear hwC hr7 hbc hf7 hK ci4 R7 B4
    go_upto_region 12 with fail
    go_loopg [41, 2] K (fun k s41 s2 wx => ∃ t : Nat, t + k = K ∧ s41 = .int .i64 t ∧ b2 = s2 ∧ O.find? (tryF L q ls) = (O.drop t).find? (tryF L q ls) ∧ Below wC.heap.size wC wx)
    case atStart => exact ⟨0, by omega, rfl, rfl, rfl, Below.refl _ _⟩
    case round =>
    obtain ⟨t, htk, rfl, rfl, hfd, hbx⟩ := hrel
    have HTK := hid htk
    have FD := hid hfd
    have BX := hid hbx
    clear htk hfd hbx
    by_cases htK : t < K
    · have htO : t < O.length := by rw [← HK.out]; exact htK
      obtain ⟨g7, rfl, ct⟩ := CO.out wr BX.out t htO
      have hjn := OO.out.2 _ (List.getElem_mem htO)
      rw [List.drop_eq_getElem_cons htO, List.find?_cons] at FD
      obtain ⟨j, hj⟩ : ∃ j, j = O[t] := ⟨_, rfl⟩
      rw [← hj] at ct hjn FD
      have RLX := hid (RLC.out.below BX.out)
      have BWX := hid (BWC.out.trans (BX.out.mono BWC.out.size))
      have B3X := hid (BC.out.trans (BX.out.mono BC.out.size))
      have l64 : ls.length ≤ 64 := by have := LL.out; omega
      have CT := hid (contains_calls (RLX.out.reads encI_len (by omega)) j)
      have CL := hid (clone_calls RLX.out (by omega))
      obtain ⟨p2, c2, hv2, _⟩ := RLX.out.form
      have TF := hid (show tryF L q ls j = (!(decide (0 ≤ j) && ls.contains j) && balancedF L q (ls ++ [j])) from rfl)
      have gt : (t : Int) < (K : Int) := by omega
      have gt0 : (0 : Int) ≤ (t : Int) := by omega
      have BLC := hid (show ∀ (w11 : World) (v11 : Value), RowN w3.heap.size w11 v11 (ls ++ [j]) → Below w.heap.size w w11 → Below w3.heap.size w3 w11 → Calls Tryd.prog 66 #[.slice (some ⟨bb, off, none⟩) nw cap, .slice (some ⟨gp, 0, none⟩) n n, v11] w11 fun e w' => e = .returned (.bool (balancedF L q (ls ++ [j]))) ∧ Below w11.heap.size w11 w' from fun w11 v11 h1 h2 h3 =>
        balanced_calls (NV.out.below h2) (PR.out.below h3) (h1.reads encI_len (by simp; omega)) OKQ.out QOK.out (by rw [← HNW.out]; omega) (by rw [QL.out]; exact H2.out) (fun y hy => by
          rw [QL.out]
          rcases List.mem_append.1 hy with hy | hy
          · exact LT.out y hy
          · rw [List.mem_singleton.1 hy]; exact hjn) (by have := LL.out; rw [← HNW.out]; simp; omega))
      have LT2 := hid (show ∀ y ∈ ls ++ [j], y < (n : Int) from fun y hy => by
        rcases List.mem_append.1 hy with hy | hy
        · exact LT.out y hy
        · rw [List.mem_singleton.1 hy]; exact hjn)
      obtain ⟨bl, hbl⟩ : ∃ bl, bl = balancedF L q (ls ++ [j]) := ⟨_, rfl⟩
      rw [← hbl] at BLC TF
      obtain ⟨m2, hm2⟩ : ∃ m2, m2 = ls.length := ⟨_, rfl⟩
      rw [← hm2] at hv2
      subst hv2
      obtain ⟨cb, hcb⟩ : ∃ cb, cb = ls.contains j := ⟨_, rfl⟩
      rw [← hcb] at CT TF
      have L64 := hid l64
      clear hj hbl hcb hm2 hjn l64
      go_upto_region 14 with fail
      go_cut [48, 49, 50, 51] (fun s48 s49 s50 s51 wx => s51 = .bool (decide (0 ≤ j) && cb) ∧ wx = wr)
      case first =>
        by_cases hj0 : 0 ≤ j
        · go_wp2_with fail
          refine CT.out.mono ?_
          rintro e w8 ⟨rfl, hw8⟩
          rw [hw8]
          clear hw8 CT
          go_wp2
          go_meet
          exact ⟨by simp [hj0], rfl⟩
        · have hj1 : j < 0 := by omega
          go_wp2
          go_meet
          exact ⟨by rw [decide_eq_false (by omega)]; rfl, rfl⟩
      case rest =>
      obtain ⟨rfl, hwc⟩ := hcut
      rw [hwc]
      clear hwc CT
      obtain ⟨sk, hsk⟩ : ∃ sk, sk = (decide (0 ≤ j) && cb) := ⟨_, rfl⟩
      rw [← hsk] at TF ⊢
      clear hsk
      cases sk with
      | true =>
        have FD2 := hid (show O.find? (tryF L q ls) = (O.drop (t + 1)).find? (tryF L q ls) by rw [FD.out, TF.out]; rfl)
        go_wp2
        go_roundg (K - (t + 1))
        · exact ⟨t + 1, by omega, by go_num, rfl, FD2.out, BX.out⟩
        · have := HTK.out; omega
      | false =>
        go_wp2_with fail
        refine CL.out.mono ?_
        rintro e w10 ⟨v10, rfl, hr10, hb10⟩
        have ha := (Below.refl w10.heap.size w10).alloc (Nat.le_refl _) (.cells #[.int .i64 j] 3)
        obtain ⟨v11, w11, r1, r2, r3, _⟩ := rown_app (hr10.below ha) (by have := hb10.size; simp; omega) (cell_one (Cells.new w10 #[.int .i64 j] 3)) (by have := L64.out; omega)
        have R1 := hid r1
        have bx := (hb10.trans (ha.mono hb10.size)).trans (kept_own (hr10.below ha) (by have := hb10.size; simp; omega) r3)
        have R11 := hid (OwnE.mono r2 B3X.out.size)
        have B11 := hid (BWX.out.trans (bx.mono BWX.out.size))
        have B311 := hid (B3X.out.trans (bx.mono B3X.out.size))
        have BXX := hid (BX.out.trans (bx.mono BX.out.size))
        have B2C := hid (BLC.out w11 v11 R11.out B11.out B311.out)
        clear hr10 hb10 ha r1 r2 r3 bx CL
        go_wp2_with (at_builtin; refine wpList_append_run rfl (.tmp 53) (.tmp 55) 27 rfl _ _ v11 w11 rfl rfl R1.out ?_)
        refine B2C.out.mono ?_
        rintro e w12 ⟨rfl, hb12⟩
        have R12 := hid (R11.out.below hb12)
        have B12 := hid (B311.out.trans (hb12.mono B311.out.size))
        have BX12 := hid (BXX.out.trans (hb12.mono BXX.out.size))
        clear hb12 B2C
        cases bl with
        | true =>
          have EQ2 := hid (show hallF L q L [] = hallF L q (L.drop (i + 1)) (ls ++ [j]) by
            have h := EQ.out
            rw [FD.out, TF.out] at h
            exact h)
          go_wp2
          go_roundg (nw - (i + 1))
          · exact ⟨i + 1, _, ls ++ [j], by omega, by go_num, rfl, R12.out, EQ2.out, LT2.out, by have := LL.out; simp; omega, B12.out⟩
          · have := HIK.out; omega
        | false =>
          have FD2 := hid (show O.find? (tryF L q ls) = (O.drop (t + 1)).find? (tryF L q ls) by rw [FD.out, TF.out]; rfl)
          go_wp2
          go_roundg (K - (t + 1))
          · exact ⟨t + 1, by omega, by go_num, rfl, FD2.out, BX12.out⟩
          · have := HTK.out; omega
    obtain rfl : t = K := by have := HTK.out; omega
    have g1 : decide ((t : Int) < (t : Int)) = false := by simp
    have hd : O.drop t = [] := List.drop_of_length_le (by rw [HK.out]; exact Nat.le_refl _)
    rw [hd, List.find?_nil] at FD
    rw [FD.out] at EQ
    have RLX := hid (RLC.out.below BX.out)
    have B3X := hid (BC.out.trans (BX.out.mono BC.out.size))
    clear hd
    go_wp2
    go_roundg (nw - (i + 1))
    · exact ⟨i + 1, _, ls, by omega, by go_num, rfl, RLX.out, EQ.out, LT.out, by have := LL.out; omega, B3X.out⟩
    · have := HIK.out; omega
  obtain rfl : i = nw := by have := HIK.out; omega
  have g1 : decide ((i : Int) < (i : Int)) = false := by simp
  have F := hid (FN.out b2 gp wr (by
    have e := EQ.out
    rw [List.drop_of_length_le (by rw [HNW.out]; exact Nat.le_refl _), hallF] at e
    rw [e]
    exact OwnE.mono RL.out B3.out.size) (ROW.out.below' B.out) QL.out QOK.out HGP.out BW.out)
  go_wp2
  rw [Exit.noGoto_ret]
  exact bodyPost_ret (by simp [results, Tryd.results25, go_sem]) rfl F.out
end Go.Proofs.YtojednnciknhpaaDoor
namespace Go.Proofs.YtojednnciknhpaaDoor
set_option linter.unusedSimpArgs false
set_option linter.unusedVariables false
open Go.RowKit
attribute [local go_sem] Oper.semAt_some
attribute [local go_sem ↓] Go.wp_at_zero Go.wp_at_succ
/-- Prices that fit a hall. -/
def arP (L : List (List Int)) (p : List Int) : Bool := decide (p.length = cols L) && !p.any fun x => !isW x
theorem arP_iff {L : List (List Int)} {p : List Int} : arP L p = true ↔ p.length = cols L ∧ okW p := by
  unfold arP okW
  rw [Bool.and_eq_true, decide_eq_true_iff, Bool.not_eq_true', List.any_eq_false]
  constructor
  · rintro ⟨h1, h2⟩
    exact ⟨h1, fun x hx => isW_ok.1 (by simpa using h2 x hx)⟩
  · rintro ⟨h1, h2⟩
    exact ⟨h1, fun x hx => by simpa using isW_ok.2 (h2 x hx)⟩
/-- The rows of a table in memory. -/
theorem nest_open {α : Type} {enc : α → List Value} {sz : Nat} {w : World} {v : Value} {L : List (List α)} (hv : NestE enc sz w v L) (h1 : 1 ≤ L.length) : ∃ bb off cap, v = .slice (some ⟨bb, off, none⟩) L.length cap ∧ ∀ i (hi : i < L.length), ∃ u, ReadsE enc sz w u L[i] ∧ ∀ wx, Below w.heap.size w wx → wx.cell? ⟨bb, off + i, none⟩ = some u := by
  obtain ⟨vs, ⟨hm, p, cap, bb, off, rfl, hp, hc⟩, hvl, hvk⟩ := hv
  obtain ⟨rfl, hbb⟩ := hp (by omega)
  refine ⟨bb, off, cap, by rw [hvl], fun i hi => ⟨vs[i], hvk i (by omega) hi, fun wx hb => ?_⟩⟩
  have c0 := hc i (by omega) 0 (by omega)
  simp at c0
  rw [← c0]
  exact hb.cell (p := ⟨bb, off + i, none⟩) hbb
/-- The first row of a hall in memory. -/
theorem nest_first {w : World} {v : Value} {L : List (List Int)} (hv : NestE encI 1 w v L) (h1 : 1 ≤ L.length) : ∃ bb off cap p0 c0, v = .slice (some ⟨bb, off, none⟩) L.length cap ∧ (∀ wx, Below w.heap.size w wx → wx.cell? ⟨bb, off, none⟩ = some (.slice p0 (cols L) c0)) ∧ ∀ i (hi : i < L.length), ∃ u, ReadsE encI 1 w u L[i] ∧ ∀ wx, Below w.heap.size w wx → wx.cell? ⟨bb, off + i, none⟩ = some u := by
  obtain ⟨bb, off, cap, e, h⟩ := nest_open hv h1
  obtain ⟨u, ⟨_, p0, c0, _, _, hu, _, _⟩, hc⟩ := h 0 (by omega)
  have hcol : cols L = L[0].length := by unfold cols; simp [show 0 < L.length by omega]
  refine ⟨bb, off, cap, p0, c0, e, fun wx hb => ?_, h⟩
  rw [hcol, ← hu]
  exact hc wx hb

/-- The cells of a slice of integers. -/
theorem reads_at {w : World} {v : Value} {l : List Int} (h : ReadsE encI 1 w v l) : ∃ p cap, v = .slice p l.length cap ∧ ∀ i (hi : i < l.length), ∃ b off, p = some ⟨b, off, none⟩ ∧ ∀ wx, Below w.heap.size w wx → wx.cell? ⟨b, off + i, none⟩ = some (.int .i64 l[i]) := by
  obtain ⟨_, p, cap, b, off, rfl, hp, hc⟩ := h
  refine ⟨p, cap, rfl, fun i hi => ⟨b, off, (hp (by omega)).1, fun wx hb => ?_⟩⟩
  have h1 := (hb.cell (p := ⟨b, off + i * 1 + 0, none⟩) (hp (by omega)).2).trans (hc i hi 0 (by omega))
  simpa [encI] using h1

set_option maxRecDepth 100000 in
set_option maxHeartbeats 4000000 in
theorem arePrices_calls {w : World} {v vp : Value} {L : List (List Int)} {p : List Int} (hv : NestE encI 1 w v L) (h1 : 1 ≤ L.length) (hp : ReadsE encI 1 w vp p) :
    Calls Tryd.prog 69 #[v, vp] w fun e w' => e = .returned (.bool (arP L p)) ∧ Below w.heap.size w w' := by
  have CF := hid (containsF_i hp (arp1_pred _ _))
  obtain ⟨R, hR⟩ : ∃ R : Ending → World → Prop, R = fun e w' => e = .returned (.bool (arP L p)) ∧ Below w.heap.size w w' := ⟨_, rfl⟩
  rw [← hR]
  have FN := hid (show ∀ b w', b = arP L p → Below w.heap.size w w' → R (.returned (.bool b)) w' from fun b w' e h => by rw [hR, e]; exact ⟨rfl, h⟩)
  clear hR
  unfold arP at FN
  obtain ⟨bb, off, cap, p0, c0, rfl, hc, _⟩ := nest_first hv h1
  have c0 := hc w (Below.refl _ _)
  obtain ⟨n, hn⟩ : ∃ n, n = L.length := ⟨_, rfl⟩
  rw [← hn] at h1 ⊢
  have g0 : (0 : Int) < (n : Int) := by omega
  obtain ⟨m, hm⟩ : ∃ m, m = cols L := ⟨_, rfl⟩
  rw [← hm] at c0 FN
  obtain ⟨hpm, pp, cp, bp, offp, hvp, _, _⟩ := hp
  obtain ⟨np, hnp⟩ : ∃ np, np = p.length := ⟨_, rfl⟩
  rw [← hnp] at hvp FN
  subst hvp
  obtain ⟨t, ht⟩ : ∃ t, t = p.any fun x => !isW x := ⟨_, rfl⟩
  rw [← ht] at FN CF
  clear hv hn hm hc hpm hnp ht
  by_cases hq : np = m
  · subst hq
    have gq : ((np : Int) == (np : Int)) = true := by simp
    go_enter Tryd.func69, Tryd.ntmps69
    go_wp2_with fail
    refine CF.out.mono ?_
    rintro e w2 ⟨rfl, hb2⟩
    have F := hid (FN.out (!t) w2 (by simp) hb2)
    clear FN hb2
    go_wp2
    first | exact F.out | (go_ret; exact F.out)
  · have gq : ((np : Int) == (m : Int)) = false := by simp; omega
    have F := hid (FN.out false w (by simp [hq]) (Below.refl _ _))
    clear FN hq
    go_enter Tryd.func69, Tryd.ntmps69
    go_wp2
    first | exact F.out | (go_ret; exact F.out)

/-- What Wanted returns: the lots, or the error. -/
def wantedF (L : List (List Int)) (p : List Int) (i : Int) : List Nat × Int :=
  if chkH L ≠ 0 then ([], chkH L) else if ¬ p.length = cols L then ([], 7) else if ¬ arP L p = true ∨ i < 0 ∨ (L.length : Int) ≤ i then ([], 1) else (wantsF (L.getD i.toNat []) p, 0)

set_option maxRecDepth 100000 in
set_option maxHeartbeats 8000000 in
theorem wanted_calls {w : World} {v vp : Value} {L : List (List Int)} {p : List Int} (i : Int) (hv : NestE encI 1 w v L) (hp : ReadsE encI 1 w vp p) :
    Calls Tryd.prog 47 #[v, vp, .int .i64 i] w fun e w' => ∃ v', e = .returned (.tuple #[v', .int .i64 (wantedF L p i).2]) ∧ RowN w.heap.size w' v' (zl (wantedF L p i).1) ∧ Below w.heap.size w w' := by
  have CH := hid (checkHall_calls hv)
  obtain ⟨R, hR⟩ : ∃ R : Ending → World → Prop, R = fun e w' => ∃ v', e = .returned (.tuple #[v', .int .i64 (wantedF L p i).2]) ∧ RowN w.heap.size w' v' (zl (wantedF L p i).1) ∧ Below w.heap.size w w' := ⟨_, rfl⟩
  rw [← hR]
  have FN := hid (show ∀ v' l z w', (l, z) = wantedF L p i → RowN w.heap.size w' v' (zl l) → Below w.heap.size w w' → R (.returned (.tuple #[v', .int .i64 z])) w' from fun v' l z w' e a b => by rw [hR, ← e]; exact ⟨v', rfl, a, b⟩)
  clear hR
  have FE := hid (show ∀ z w', (([] : List Nat), z) = wantedF L p i → Below w.heap.size w w' → R (.returned (.tuple #[.slice none 0 0, .int .i64 z])) w' from fun z w' e b => FN.out _ [] z w' e (OwnE.nil _ _) b)
  unfold wantedF at FN FE
  obtain ⟨c, hc⟩ : ∃ c, c = chkH L := ⟨_, rfl⟩
  rw [← hc] at CH FN FE
  have NV := hid hv
  have PR := hid hp
  obtain ⟨vs, ⟨_, pv, capv, _, _, hvv, _, _⟩, hvl, _⟩ := hv
  obtain ⟨hpm, pp, cp, bp, offp, hvp, hpp, hcp⟩ := hp
  obtain ⟨n, hn⟩ : ∃ n, n = L.length := ⟨_, rfl⟩
  rw [hvl, ← hn] at hvv
  obtain ⟨np, hnp⟩ : ∃ np, np = p.length := ⟨_, rfl⟩
  rw [← hnp] at hvp FN FE
  subst hvv hvp
  by_cases hc0 : c = 0
  · obtain ⟨ok, h1, h2⟩ := chkH_ok (L := L) (by rw [← hc, hc0])
    have e1 : (c == 0) = true := by simpa using hc0
    have e2 : (c != 0) = false := by simpa using hc0
    have FN1 := hid (fun v' l z w' h => FN.out v' l z w' (Eq.trans h (if_neg (by simp [hc0])).symm))
    have FE1 := hid (fun z w' h => FE.out z w' (Eq.trans h (if_neg (by simp [hc0])).symm))
    obtain ⟨bb, off, cap, p0, c0, he, hcf, hrw⟩ := nest_first NV.out h1
    have HRW := hid hrw
    rw [← hn] at he h1
    injection he with he1 he2 he3
    subst he1 he3
    have HCF := hid hcf
    have AP := hid (fun wx (hb : Below w.heap.size w wx) => arePrices_calls (NV.out.below hb) (by rw [← hn]; exact h1) (PR.out.below hb))
    obtain ⟨m, hm'⟩ : ∃ m, m = cols L := ⟨_, rfl⟩
    rw [← hm'] at HCF FN1 FE1 ok h2
    have g0 : (0 : Int) < (n : Int) := by omega
    have HM := hid hm'
    have HN := hid hn
    have OK := hid ok
    have HNP := hid hnp
    clear FN FE hrw hvl hpm hpp hcp he2 hcf hn hnp hm' hc ok
    subst hc0
    by_cases hq : np = m
    · have FN2 := hid (fun v' l z w' h => FN1.out v' l z w' (Eq.trans h (if_neg (by simp [hq])).symm))
      have FE2 := hid (fun z w' h => FE1.out z w' (Eq.trans h (if_neg (by simp [hq])).symm))
      subst hq
      have gq : ((np : Int) != (np : Int)) = false := by simp
      have gq2 : ((np : Int) == (np : Int)) = true := by simp
      clear FN1 FE1
      go_enter Tryd.func47, Tryd.ntmps47
      go_wp2_with fail
      refine CH.out.mono ?_
      rintro e w2 ⟨rfl, hb2⟩
      have B2 := hid hb2
      have A2 := hid (AP.out w2 hb2)
      have k0 := HCF.out w2 hb2
      obtain ⟨t, ht⟩ : ∃ t, t = arP L p := ⟨_, rfl⟩
      rw [← ht] at A2 FN2 FE2
      have HT := hid ht
      clear hb2 CH ht AP
      go_wp2_with fail
      refine A2.out.mono ?_
      rintro e w3 ⟨rfl, hb3⟩
      have B3 := hid (B2.out.trans (hb3.mono B2.out.size))
      clear hb3 A2 k0
      cases t with
      | false =>
        have F := hid (FE2.out 1 w3 (if_pos (.inl (by simp))).symm B3.out)
        clear FN2 FE2
        go_wp2
        first | exact F.out | (go_ret; exact F.out)
      | true =>
        by_cases hi0 : i < 0
        · have F := hid (FE2.out 1 w3 (if_pos (.inr (.inl hi0))).symm B3.out)
          clear FN2 FE2
          go_wp2
          first | exact F.out | (go_ret; exact F.out)
        · have hi1 : 0 ≤ i := by omega
          by_cases hin : (n : Int) ≤ i
          · have F := hid (FE2.out 1 w3 (if_pos (.inr (.inr (by rw [← HN.out]; exact hin)))).symm B3.out)
            clear FN2 FE2
            go_wp2
            first | exact F.out | (go_ret; exact F.out)
          · obtain ⟨x, rfl⟩ : ∃ x : Nat, i = (x : Int) := ⟨i.toNat, by omega⟩
            have hxn : (x : Int) < (n : Int) := by omega
            have hxl : x < L.length := by rw [← HN.out]; omega
            have okp := (arP_iff.1 HT.out.symm).2
            have FN3 := hid (fun v' w' => FN2.out v' (wantsF L[x] p) 0 w' (by rw [if_neg (by rw [← HN.out]; simp; omega)]; simp [hxl]))
            obtain ⟨u, RX, hci⟩ := HRW.out x hxl
            have ci := hci w3 B3.out
            have hro := OK.out.ok _ (List.getElem_mem hxl)
            have hrl := OK.out.len _ (List.getElem_mem hxl)
            have WC := hid (wants_calls (RX.below B3.out) (PR.out.below B3.out) (by rw [hrl, ← HNP.out]; exact Nat.le_refl _) (by rw [hrl]; have := OK.out.cols; omega) hro okp)
            clear FN2 FE2 RX hro hrl hci okp hi0
            go_wp2_with fail
            refine WC.out.mono ?_
            rintro e w4 ⟨v7, rfl, hr7, _, hb4⟩
            have F := hid (FN3.out v7 w4 (OwnE.mono hr7 B3.out.size) (B3.out.trans (hb4.mono B3.out.size)))
            clear hr7 hb4
            go_wp2
            first | exact F.out | (go_ret; exact F.out)
    · have gq : ((np : Int) != (m : Int)) = true := by simp; omega
      have gq2 : ((np : Int) == (m : Int)) = false := by simp; omega
      have FE2 := hid (fun w' h => FE1.out 7 w' (if_pos hq).symm h)
      clear FN1 FE1
      go_enter Tryd.func47, Tryd.ntmps47
      go_wp2_with fail
      refine CH.out.mono ?_
      rintro e w2 ⟨rfl, hb2⟩
      have F := hid (FE2.out w2 hb2)
      have k0 := HCF.out w2 hb2
      clear hb2 CH FE2
      go_wp2
      first | exact F.out | (go_ret; exact F.out)
  · have e1 : (c == 0) = false := by simpa using hc0
    have e2 : (c != 0) = true := by simpa using hc0
    have FE1 := hid (fun w' h => FE.out c w' (if_pos hc0).symm h)
    clear hvl hpm hpp hcp FN FE hc hn hnp
    go_enter Tryd.func47, Tryd.ntmps47
    go_wp2_with fail
    refine CH.out.mono ?_
    rintro e w2 ⟨rfl, hb2⟩
    have F := hid (FE1.out w2 hb2)
    clear hb2 CH FE1
    go_wp2
    first | exact F.out | (go_ret; exact F.out)
end Go.Proofs.YtojednnciknhpaaDoor
namespace Go.Proofs.YtojednnciknhpaaDoor
set_option linter.unusedSimpArgs false
set_option linter.unusedVariables false
open Go.RowKit
attribute [local go_sem] Oper.semAt_some
attribute [local go_sem ↓] Go.wp_at_zero Go.wp_at_succ
/-- What Crowd returns. -/
def crowdR (L : List (List Int)) (p : List Int) : Option (List Int × List Nat) := if chkH L = 0 ∧ arP L p = true then crowdF L p else none

set_option maxRecDepth 100000 in
set_option maxHeartbeats 8000000 in
theorem crowdX_calls {w : World} {v vp : Value} {L : List (List Int)} {p : List Int} (hv : NestE encI 1 w v L) (hp : ReadsE encI 1 w vp p) :
    Calls Tryd.prog 28 #[v, vp] w fun e w' => ∃ vb vl, e = .returned (.tuple #[vb, vl, .bool (crowdR L p).isSome]) ∧ CrV w.heap.size w' (crowdR L p) vb vl ∧ Below w.heap.size w w' := by
  have CH := hid (checkHall_calls hv)
  obtain ⟨R, hR⟩ : ∃ R : Ending → World → Prop, R = fun e w' => ∃ vb vl, e = .returned (.tuple #[vb, vl, .bool (crowdR L p).isSome]) ∧ CrV w.heap.size w' (crowdR L p) vb vl ∧ Below w.heap.size w w' := ⟨_, rfl⟩
  rw [← hR]
  have FN := hid (show ∀ vb vl r w', r = crowdR L p → CrV w.heap.size w' r vb vl → Below w.heap.size w w' → R (.returned (.tuple #[vb, vl, .bool r.isSome])) w' from fun vb vl r w' e a b => by subst e; rw [hR]; exact ⟨vb, vl, rfl, a, b⟩)
  have FE := hid (show ∀ w', none = crowdR L p → Below w.heap.size w w' → R (.returned (.tuple #[.slice none 0 0, .slice none 0 0, .bool false])) w' from fun w' e b => FN.out _ _ none w' e ⟨rfl, rfl⟩ b)
  clear hR
  unfold crowdR at FN FE
  have NV := hid hv
  have PR := hid hp
  obtain ⟨vs, ⟨_, pv, capv, _, _, hvv, _, _⟩, hvl, _⟩ := hv
  obtain ⟨hpm, pp, cp, bp, offp, hvp, hpp, hcp⟩ := hp
  obtain ⟨n, hn⟩ : ∃ n, n = L.length := ⟨_, rfl⟩
  rw [hvl, ← hn] at hvv
  obtain ⟨np, hnp⟩ : ∃ np, np = p.length := ⟨_, rfl⟩
  rw [← hnp] at hvp
  subst hvv hvp
  obtain ⟨c, hc⟩ : ∃ c, c = chkH L := ⟨_, rfl⟩
  rw [← hc] at CH FN FE
  by_cases hc0 : c = 0
  · obtain ⟨ok, h1, h2⟩ := chkH_ok (L := L) (by rw [← hc, hc0])
    have e1 : (c == 0) = true := by simpa using hc0
    have e2 : (c != 0) = false := by simpa using hc0
    have AP := hid (fun wx (hb : Below w.heap.size w wx) => arePrices_calls (NV.out.below hb) h1 (PR.out.below hb))
    have AI := hid (arP_iff (L := L) (p := p))
    have CC := hid (fun wx (hb : Below w.heap.size w wx) (ha : arP L p = true) => crowd_calls (NV.out.below hb) (PR.out.below hb) (by rw [(AI.out.1 ha).1]; exact ok) (AI.out.1 ha).2 h1 (by rw [(AI.out.1 ha).1]; exact h2))
    obtain ⟨t, ht⟩ : ∃ t, t = arP L p := ⟨_, rfl⟩
    rw [← ht] at AP CC FN FE
    clear hpm hpp hcp hn hnp hc ok h1 h2 hvl ht
    subst hc0
    go_enter Tryd.func28, Tryd.ntmps28
    go_wp2_with fail
    refine CH.out.mono ?_
    rintro e w2 ⟨rfl, hb2⟩
    have A2 := hid (AP.out w2 hb2)
    have B2 := hid hb2
    clear hb2 CH AP
    go_wp2_with fail
    refine A2.out.mono ?_
    rintro e w3 ⟨rfl, hb3⟩
    have B3 := hid (B2.out.trans (hb3.mono B2.out.size))
    clear hb3 A2
    cases t with
    | false =>
      have F := hid (FE.out w3 (if_neg (by simp)).symm B3.out)
      clear FN FE CC
      go_wp2
      exact bodyPost_ret (by simp [results, Tryd.results28, go_sem]) rfl F.out
    | true =>
      have C3 := hid (CC.out w3 B3.out rfl)
      clear CC
      go_wp2_with fail
      refine C3.out.mono ?_
      rintro e w4 ⟨vb, vl, rfl, hcr, hb4⟩
      have B4 := hid (B3.out.trans (hb4.mono B3.out.size))
      have hs3 := B3.out.size
      clear hb4 C3
      obtain ⟨r, hr⟩ : ∃ r, r = crowdF L p := ⟨_, rfl⟩
      rw [← hr] at hcr FN
      clear hr
      match r, hcr with
      | none, hcr =>
        obtain ⟨rfl, rfl⟩ := hcr
        have F := hid (FN.out (.slice none 0 0) (.slice none 0 0) none w4 (if_pos (by simp)).symm ⟨rfl, rfl⟩ B4.out)
        have e0 := neq_nil w4
        have e3 := fun x y => guard_nil x y w4
        clear FN FE
        go_wp2
        exact bodyPost_ret (by simp [results, Tryd.results28, go_sem]) rfl F.out
      | some (b, l), hcr =>
        obtain ⟨q1, q2, q3⟩ := hcr
        have F := hid (FN.out vb vl (some (b, l)) w4 (if_pos (by simp)).symm ⟨OwnE.mono q1 hs3, OwnE.mono q2 hs3, q3⟩ B4.out)
        obtain ⟨p7, c7, hv7, hf7⟩ := q1.form
        rcases hf7 with ⟨_, h0⟩ | ⟨g7, hp7, _⟩
        · exact absurd h0 q3
        · rw [hp7] at hv7
          have e0 := neq_some ⟨g7, 0, none⟩ b.length c7 w4
          have e3 := fun x y => guard_some x y ⟨g7, 0, none⟩ b.length c7 w4
          subst hv7
          clear FN FE q1 q2 q3 hp7
          go_wp2
          exact bodyPost_ret (by simp [results, Tryd.results28, go_sem]) rfl F.out
  · have e1 : (c == 0) = false := by simpa using hc0
    have e2 : (c != 0) = true := by simpa using hc0
    have FE1 := hid (fun w' h => FE.out w' (if_neg (fun q => hc0 q.1)).symm h)
    clear hpm hpp hcp FN FE hc hn hnp
    go_enter Tryd.func28, Tryd.ntmps28
    go_wp2_with fail
    refine CH.out.mono ?_
    rintro e w2 ⟨rfl, hb2⟩
    have F := hid (FE1.out w2 hb2)
    clear hb2 CH FE1
    go_wp2
    exact bodyPost_ret (by simp [results, Tryd.results28, go_sem]) rfl F.out
end Go.Proofs.YtojednnciknhpaaDoor
namespace Go.Proofs.YtojednnciknhpaaDoor
set_option linter.unusedSimpArgs false
set_option linter.unusedVariables false
open Go.RowKit
attribute [local go_sem] Oper.semAt_some
attribute [local go_sem ↓] Go.wp_at_zero Go.wp_at_succ
/-- What Content returns. -/
def contR (L : List (List Int)) (s p : List Int) : Int × Bool := if chkH L = 0 ∧ s.length = L.length ∧ arP L p = true then contF L s p else (-1, false)
set_option maxRecDepth 100000 in
set_option maxHeartbeats 16000000 in
theorem content_calls {w : World} {v vl vp : Value} {L : List (List Int)} {s p : List Int} (hv : NestE encI 1 w v L) (hs : ReadsE encI 1 w vl s) (hp : ReadsE encI 1 w vp p) :
    Calls Tryd.prog 45 #[v, vl, vp] w fun e w' => e = .returned (.tuple #[.int .i64 (contR L s p).1, .bool (contR L s p).2]) ∧ Below w.heap.size w w' := by
  have CH := hid (checkHall_calls hv)
  obtain ⟨R, hR⟩ : ∃ R : Ending → World → Prop, R = fun e w' => e = .returned (.tuple #[.int .i64 (contR L s p).1, .bool (contR L s p).2]) ∧ Below w.heap.size w w' := ⟨_, rfl⟩
  rw [← hR]
  have FN := hid (show ∀ x b w', (x, b) = contR L s p → Below w.heap.size w w' → R (.returned (.tuple #[.int .i64 x, .bool b])) w' from fun x b w' e h => by rw [hR, ← e]; exact ⟨rfl, h⟩)
  clear hR
  unfold contR at FN
  have NV := hid hv
  have PR := hid hp
  have SR := hid hs
  obtain ⟨pl, cl, hvl, hsc⟩ := reads_at hs
  obtain ⟨pp, cp, hvp, hpc⟩ := reads_at hp
  obtain ⟨vs, ⟨_, pv, capv, _, _, hvv, _, _⟩, hvsl, _⟩ := hv
  obtain ⟨n, hn⟩ : ∃ n, n = L.length := ⟨_, rfl⟩
  rw [hvsl, ← hn] at hvv
  obtain ⟨ns, hns⟩ : ∃ ns, ns = s.length := ⟨_, rfl⟩
  rw [← hns] at hvl FN
  obtain ⟨np, hnp⟩ : ∃ np, np = p.length := ⟨_, rfl⟩
  rw [← hnp] at hvp
  subst hvv hvl hvp
  rw [← hn] at FN
  obtain ⟨c, hc⟩ : ∃ c, c = chkH L := ⟨_, rfl⟩
  rw [← hc] at CH FN
  by_cases hc0 : c = 0
  · obtain ⟨ok, h1, h2⟩ := chkH_ok (L := L) (by rw [← hc, hc0])
    have e1 : (c == 0) = true := by simpa using hc0
    have e2 : (c != 0) = false := by simpa using hc0
    obtain ⟨bb, off, cap, p0, c0, he, hcf, hrw⟩ := nest_first NV.out h1
    rw [← hn] at he
    injection he with he1 he2 he3
    have AP := hid (fun wx (hb : Below w.heap.size w wx) => arePrices_calls (NV.out.below hb) h1 (PR.out.below hb))
    subst he1 he3
    have HRW := hid hrw
    have HSC := hid hsc
    have HPC := hid hpc
    have HN := hid hn
    have HNS := hid hns
    have HNP := hid hnp
    have OK := hid ok
    have H12 := hid (And.intro h1 h2)
    clear hvsl he2 hn hc hrw hcf hsc hpc hns hnp ok h1 h2
    subst hc0
    by_cases hq : ns = n
    · subst hq
      have gq : ((ns : Int) != (ns : Int)) = false := by simp
      have gq2 : ((ns : Int) == (ns : Int)) = true := by simp
      obtain ⟨t, ht⟩ : ∃ t, t = arP L p := ⟨_, rfl⟩
      rw [← ht] at AP FN
      have HT := hid ht
      clear ht
      go_enter Tryd.func45, Tryd.ntmps45
      go_wp2_with fail
      refine CH.out.mono ?_
      rintro e w2 ⟨rfl, hb2⟩
      have A2 := hid (AP.out w2 hb2)
      have B2 := hid hb2
      clear hb2 CH AP
      go_wp2_with fail
      refine A2.out.mono ?_
      rintro e w3 ⟨rfl, hb3⟩
      have B3 := hid (B2.out.trans (hb3.mono B2.out.size))
      clear hb3 A2 B2
      cases t with
      | false =>
        have F := hid (FN.out (-1) false w3 (if_neg (by simp)).symm B3.out)
        clear FN
        go_wp2
        first | exact F.out | (go_ret; exact F.out)
      | true =>
        have FN1 := hid (fun x b w' e => FN.out x b w' (Eq.trans e (if_pos (by simp)).symm))
        obtain ⟨hpl, okp⟩ := arP_iff.1 HT.out.symm
        have ns64 : ns ≤ 64 := by rw [HN.out]; exact OK.out.rows
        have np64 : np ≤ 64 := by rw [HNP.out, hpl]; exact OK.out.cols
        have OKP := hid okp
        have OKL := hid (show OkH L p.length by rw [hpl]; exact OK.out)
        have mkb := mk_B w3 np (by omega)
        obtain ⟨w4, hw4⟩ : ∃ w4, w4 = w3.alloc (.cells (madeCells #[.bool false] np) 4) := ⟨_, rfl⟩
        have B4 := hid (show Below w.heap.size w w4 by rw [hw4]; exact B3.out.alloc B3.out.size _)
        have T4 := hid (show RB w4 w3.heap.size (noB np) by rw [hw4]; exact RowX.made w3 np false _ rfl)
        have hws := B3.out.size
        have HW4 := hid hw4
        rw [← hw4] at mkb
        unfold contF at FN1
        rw [← HNP.out] at FN1
        clear FN hw4 hpl okp
        go_upto_region 5 with fail
        go_loopg [37] ns (fun k s37 wr => ∃ (i : Nat) (t : List Bool), i + k = ns ∧ s37 = .int .i64 i ∧ RB wr w3.heap.size t ∧ t.length = np ∧ markF np s (noB np) = markF np (s.drop i) t ∧ Below w.heap.size w wr)
        case atStart => exact ⟨0, noB np, by omega, rfl, T4.out, noB_size np, rfl, B4.out⟩
        case round =>
          obtain ⟨i, t, hik, rfl, hrt, htl, heq, hb⟩ := hrel
          have HIK := hid hik
          have RT := hid hrt
          have HTL := hid htl
          have EQ := hid heq
          have B := hid hb
          clear hik hrt htl heq hb
          by_cases hin : i < ns
          · have his : i < s.length := by rw [← HNS.out]; exact hin
            obtain ⟨bs, os, rfl, hcs⟩ := HSC.out i his
            have ci := hcs wr B.out
            rw [List.drop_eq_getElem_cons his, markF_cons] at EQ
            obtain ⟨j, hj⟩ : ∃ j, j = s[i] := ⟨_, rfl⟩
            rw [← hj] at ci EQ
            have gi : (i : Int) < (ns : Int) := by omega
            have gi0 : (0 : Int) ≤ (i : Int) := by omega
            clear hj hcs
            by_cases hj1 : j < -1
            · rw [if_pos (.inl hj1)] at EQ
              have F := hid (FN1.out (-1) false wr (by rw [EQ.out]) B.out)
              clear FN1
              go_wp2
              first | exact F.out | (go_ret; exact F.out)
            have hj1' : -1 ≤ j := by omega
            by_cases hj2 : (np : Int) ≤ j
            · rw [if_pos (.inr (.inl hj2))] at EQ
              have F := hid (FN1.out (-1) false wr (by rw [EQ.out]) B.out)
              clear FN1 hj1
              go_wp2
              first | exact F.out | (go_ret; exact F.out)
            have hj2' : j < (np : Int) := by omega
            by_cases hj3 : j < 0
            · have EQ2 := hid (show markF np s (noB np) = markF np (s.drop (i + 1)) t by rw [EQ.out, if_neg (by omega), if_neg (by omega)])
              clear hj1 hj2
              go_wp2
              go_roundg (ns - (i + 1))
              · exact ⟨i + 1, t, by omega, by go_num, RT.out, HTL.out, EQ2.out, B.out⟩
              · have := HIK.out; omega
            have hj3' : 0 ≤ j := by omega
            obtain ⟨x, rfl⟩ : ∃ x : Nat, j = (x : Int) := ⟨j.toNat, by omega⟩
            have hxn : x < np := by omega
            have ct := RT.out.cellD (i := x) (by rw [HTL.out]; exact hxn) false
            have ft := RT.out.froz x
            rw [show ((x : Int)).toNat = x by simp] at EQ
            obtain ⟨y, hy⟩ : ∃ y, y = t.getD x false := ⟨_, rfl⟩
            rw [← hy] at ct EQ
            clear hy
            cases y with
            | true =>
              have F := hid (FN1.out (-1) false wr (by rw [EQ.out, if_pos (.inr (.inr ⟨hj3', rfl⟩))]) B.out)
              clear FN1 hj1 hj2 hj3
              go_wp2
              first | exact F.out | (go_ret; exact F.out)
            | false =>
              have EQ2 := hid (show markF np s (noB np) = markF np (s.drop (i + 1)) (t.set x true) by rw [EQ.out, if_neg (by simp; omega), if_pos hj3'])
              have RT2 := hid (RT.out.set x true)
              have B2 := hid (B.out.trans (Kept.below ((Kept.refl (fun k => k = w3.heap.size) wr).set (C := w3.heap.size) rfl x (.bool true)) B.out.size (fun k hk => by rw [hk]; exact hws)))
              clear hj1 hj2 hj3
              go_wp2
              go_roundg (ns - (i + 1))
              · exact ⟨i + 1, t.set x true, by omega, by go_num, RT2.out, by rw [List.length_set]; exact HTL.out, EQ2.out, B2.out⟩
              · have := HIK.out; omega
          obtain rfl : i = ns := by have := HIK.out; omega
          have g1 : decide ((i : Int) < (i : Int)) = false := by simp
          have hd : s.drop i = [] := List.drop_of_length_le (by rw [HNS.out]; exact Nat.le_refl _)
          rw [hd, markF] at EQ
          rw [EQ.out] at FN1
          have FN2 := hid (fun x b w' e => FN1.out x b w' e)
          simp only at FN2
          obtain ⟨wA, hwA⟩ : ∃ wA, wA = wr := ⟨_, rfl⟩
          rw [← hwA] at RT B ⊢
          have MS := markF_spec s (noB np) (noB_size np)
          rw [EQ.out] at MS
          have M1 := hid MS.1.1
          clear FN1 hd T4 B4 mkb hwA MS EQ
          go_upto_region 13 with fail
          go_loopg [67] i (fun k s67 wx => ∃ q : Nat, q + k = i ∧ s67 = .int .i64 q ∧ badF L p s 0 = badF L p (s.drop q) q ∧ Below wA.heap.size wA wx)
          case atStart => exact ⟨0, by omega, rfl, rfl, Below.refl _ _⟩
          case round =>
          obtain ⟨q, hqk, rfl, hbd, hbx⟩ := hrel
          have HQK := hid hqk
          have BD := hid hbd
          have BX := hid hbx
          have BW := hid (B.out.trans (hbx.mono B.out.size))
          have RTX := hid (RT.out.below' hbx)
          clear hqk hbd hbx
          by_cases hqi : q < i
          · have hqs : q < s.length := by rw [← HNS.out]; exact hqi
            have hql : q < L.length := by rw [← HN.out]; exact hqi
            obtain ⟨bs, os, rfl, hcs⟩ := HSC.out q hqs
            have cq := hcs wr BW.out
            have hm := M1.out _ (List.getElem_mem hqs)
            rw [List.drop_eq_getElem_cons hqs, badF_cons] at BD
            obtain ⟨j, hj⟩ : ∃ j, j = s[q] := ⟨_, rfl⟩
            rw [← hj] at cq BD hm
            obtain ⟨hj1, hj2, _⟩ := hm
            have gq : (q : Int) < (i : Int) := by omega
            have gq0 : (0 : Int) ≤ (q : Int) := by omega
            obtain ⟨u, RX, hcu⟩ := HRW.out q hql
            have cu := hcu wr BW.out
            have hro := OKL.out.ok _ (List.getElem_mem hql)
            have hrl := OKL.out.len _ (List.getElem_mem hql)
            have GC := hid (fun k => gain_calls ((RX.below BW.out).drewN k) ((PR.out.below BW.out).drewN k) (by rw [hrl]; exact Nat.le_refl _) (by rw [hrl, ← HNP.out]; omega) hro OKP.out)
            obtain ⟨pu, cpu, hu, hcr⟩ := reads_at RX
            have hgb := gainF_bound hro OKP.out
            have eL : L.getD q [] = L[q] := by simp [hql]
            rw [eL] at BD
            obtain ⟨G, hG⟩ : ∃ G, G = gainF L[q] p := ⟨_, rfl⟩
            rw [← hG] at GC hgb
            obtain ⟨nu, hnu⟩ : ∃ nu, nu = L[q].length := ⟨_, rfl⟩
            rw [← hnu] at hu
            have hun : nu = np := by rw [hnu, hrl, ← HNP.out]
            rw [hun] at hu
            subst hu
            clear hun hnu
            obtain ⟨hG0, hG1⟩ := hgb
            have NX := hid (show contB L[q] p j = true → badF L p s 0 = badF L p (s.drop (q + 1)) (q + 1) from fun h => by rw [BD.out, if_pos h])
            have FB := hid (show contB L[q] p j = false → ∀ k, R (.returned (.tuple #[.int .i64 q, .bool false])) (wr.drewN k) from fun h k => FN2.out q false (wr.drewN k) (by rw [BD.out, h]; rfl) (drewN_below BW.out k))
            clear hj hcs RX hro hcu eL
            by_cases hj3 : j < 0
            · have hct : contB L[q] p j = decide (G = 0) := by unfold contB; rw [if_pos hj3, hG]
              rw [hct] at NX FB
              clear hj1 hj2 hct hG hrl hcr
              by_cases hG2 : G = 0
              · have NX2 := hid (NX.out (by simpa using hG2))
                have gl : decide ((0 : Int) < G) = false := by simp; omega
                go_wp2_with fail
                refine (GC.out 0).mono ?_
                rintro e w8 ⟨rfl, hw8⟩
                rw [hw8]
                clear hw8 GC NX FB
                go_wp2
                go_roundg (i - (q + 1))
                · exact ⟨q + 1, by omega, by go_num, NX2.out, BX.out⟩
                · have := HQK.out; omega
              · have F := hid (FB.out (by simpa using hG2) 0)
                have gl : (0 : Int) < G := by omega
                go_wp2_with fail
                refine (GC.out 0).mono ?_
                rintro e w8 ⟨rfl, hw8⟩
                rw [hw8]
                clear hw8 GC NX FB
                go_wp2
                first | exact F.out | (go_ret; exact F.out)
            · obtain ⟨x, rfl⟩ : ∃ x : Nat, j = (x : Int) := ⟨j.toNat, by omega⟩
              have hxn : x < np := by omega
              have hxp : x < p.length := by rw [← HNP.out]; exact hxn
              have hxr : x < L[q].length := by rw [hrl]; exact hxp
              obtain ⟨b1, o1, rfl, hc1⟩ := hcr x hxr
              obtain ⟨b2, o2, rfl, hc2⟩ := HPC.out x hxp
              have cx1 := hc1 wr BW.out
              have cx2 := hc2 wr BW.out
              have hub := gainF_ub (prices := p) hxr hxp
              have hro := OKL.out.ok _ (List.getElem_mem hql)
              have hb1 := hro _ (List.getElem_mem hxr)
              have hb2 := OKP.out _ (List.getElem_mem hxp)
              have e1 : L[q].getD x 0 = L[q][x] := by simp [hxr]
              have e2 : p.getD x 0 = p[x] := by simp [hxp]
              have hct : contB L[q] p x = decide (L[q][x] - p[x] = G) := by unfold contB; rw [if_neg (by omega), hG, ← e1, ← e2]; rfl
              rw [hct] at NX FB
              rw [← hG, e1, e2] at hub
              obtain ⟨y1, hy1⟩ : ∃ y1, y1 = L[q][x] := ⟨_, rfl⟩
              obtain ⟨y2, hy2⟩ : ∃ y2, y2 = p[x] := ⟨_, rfl⟩
              rw [← hy1] at NX FB hub hb1 cx1
              rw [← hy2] at NX FB hub hb2 cx2
              have ew : IntKind.i64.wrap (y1 - y2) = y1 - y2 := IntWalk.i64_in _ (by omega)
              have hj3' : (0 : Int) ≤ (x : Int) := by omega
              clear hj1 hj2 hct hG hrl hcr hc1 hc2 hro e1 e2 hy1 hy2 hb1 hb2 hj3 hxp hxr
              by_cases hG2 : y1 - y2 = G
              · have NX2 := hid (NX.out (by simpa using hG2))
                have gl : decide (y1 - y2 < G) = false := by simp; omega
                go_upto_region 17 with fail
                go_quiet (fail)
                go_wp2_with fail
                refine (GC.out nq).mono ?_
                rintro e w8 ⟨rfl, hw8⟩
                rw [hw8]
                clear hw8 GC NX FB
                go_wp2
                go_roundg (i - (q + 1))
                · exact ⟨q + 1, by omega, by go_num, NX2.out, drewN_below BX.out _⟩
                · have := HQK.out; omega
              · have F := hid (FB.out (by simpa using hG2))
                have gl : y1 - y2 < G := by omega
                go_upto_region 17 with fail
                go_quiet (fail)
                go_wp2_with fail
                refine (GC.out nq).mono ?_
                rintro e w8 ⟨rfl, hw8⟩
                rw [hw8]
                clear hw8 GC NX FB
                go_wp2
                first | exact F.out nq | (go_ret; exact F.out nq)
          obtain rfl : q = i := by have := HQK.out; omega
          have g1 : decide ((q : Int) < (q : Int)) = false := by simp
          have hd : s.drop q = [] := List.drop_of_length_le (by rw [HNS.out]; exact Nat.le_refl _)
          rw [hd, badF] at BD
          rw [BD.out] at FN2
          simp only at FN2
          obtain ⟨un, hun⟩ : ∃ un, un = unsoldF t p := ⟨_, rfl⟩
          rw [← hun] at FN2
          have HUN := hid hun
          unfold unsoldF at HUN
          obtain ⟨wB, hwB⟩ : ∃ wB, wB = wr := ⟨_, rfl⟩
          rw [← hwB] at RTX BW ⊢
          clear hd hwB hun BX BD
          have np0 : (0 : Int) ≤ (np : Int) := by omega
          go_upto_region 22 with fail
          go_loopg [98] np (fun k s98 wx => ∃ m : Nat, m + k = np ∧ s98 = .int .i64 m ∧ (∀ j, j < m → (!t.getD j false && decide (0 < p.getD j 0)) = false) ∧ wx = wB)
          case atStart => exact ⟨0, by omega, rfl, fun j h => absurd h (by omega), rfl⟩
          case round =>
          obtain ⟨m, hmk, rfl, hno, hwx⟩ := hrel
          have HMK := hid hmk
          have NO := hid hno
          rw [hwx]
          clear hmk hno hwx
          by_cases hmn : m < np
          · have hmp : m < p.length := by rw [← HNP.out]; exact hmn
            have ct := RTX.out.cellD (i := m) (by rw [HTL.out]; exact hmn) false
            obtain ⟨b2, o2, rfl, hc2⟩ := HPC.out m hmp
            have cx2 := hc2 wB BW.out
            have e2 : p.getD m 0 = p[m] := by simp [hmp]
            have gm : (m : Int) < (np : Int) := by omega
            have gm0 : (0 : Int) ≤ (m : Int) := by omega
            have NX := hid (show (!t.getD m false && decide (0 < p.getD m 0)) = false → ∀ j, j < m + 1 → (!t.getD j false && decide (0 < p.getD j 0)) = false from fun h j hj => by
              by_cases e : j = m
              · subst e; exact h
              · exact NO.out j (by omega))
            have YY := hid (show (!t.getD m false && decide (0 < p.getD m 0)) = true → un = true from fun h => by
              rw [HUN.out]
              exact List.any_eq_true.2 ⟨m, by simpa using hmp, h⟩)
            rw [e2] at NX YY
            obtain ⟨y1, hy1⟩ : ∃ y1, y1 = t.getD m false := ⟨_, rfl⟩
            obtain ⟨y2, hy2⟩ : ∃ y2, y2 = p[m] := ⟨_, rfl⟩
            rw [← hy1] at ct NX YY
            rw [← hy2] at cx2 NX YY
            clear hy1 hy2 e2 hc2 hmp
            cases y1 with
            | true =>
              have NX2 := hid (NX.out (by simp))
              clear NX YY
              go_wp2
              go_roundg (np - (m + 1))
              · exact ⟨m + 1, by omega, by go_num, NX2.out, rfl⟩
              · have := HMK.out; omega
            | false =>
              by_cases h0 : 0 < y2
              · have F := hid (FN2.out (-1) false wB (by rw [YY.out (by simpa using h0)]; rfl) BW.out)
                clear NX YY
                go_wp2
                first | exact F.out | (go_ret; exact F.out)
              · have NX2 := hid (NX.out (by simpa using h0))
                have h1 : y2 ≤ 0 := by omega
                clear NX YY h0
                go_wp2
                go_roundg (np - (m + 1))
                · exact ⟨m + 1, by omega, by go_num, NX2.out, rfl⟩
                · have := HMK.out; omega
          obtain rfl : m = np := by have := HMK.out; omega
          have g2 : decide ((m : Int) < (m : Int)) = false := by simp
          have F := hid (FN2.out (-1) true wB (by
            have : un = false := by
              rw [HUN.out]
              refine List.any_eq_false.2 fun j hj => ?_
              rw [NO.out j (by rw [HNP.out]; simpa using hj)]
              simp
            rw [this]; rfl) BW.out)
          clear FN2 np0
          go_wp2
          first | exact F.out | (go_ret; exact F.out)
    · have gq : ((ns : Int) != (n : Int)) = true := by simp; omega
      have gq2 : ((ns : Int) == (n : Int)) = false := by simp; omega
      go_enter Tryd.func45, Tryd.ntmps45
      go_wp2_with fail
      refine CH.out.mono ?_
      rintro e w2 ⟨rfl, hb2⟩
      have F := hid (FN.out (-1) false w2 (if_neg (fun h => hq h.2.1)).symm hb2)
      clear hb2 CH FN hq
      go_wp2
      first | exact F.out | (go_ret; exact F.out)
  · have e1 : (c == 0) = false := by simpa using hc0
    have e2 : (c != 0) = true := by simpa using hc0
    have FE1 := hid (fun w' h => FN.out (-1) false w' (if_neg (fun q => hc0 q.1)).symm h)
    clear hvsl hsc hpc FN hc hn hns hnp
    go_enter Tryd.func45, Tryd.ntmps45
    go_wp2_with fail
    refine CH.out.mono ?_
    rintro e w2 ⟨rfl, hb2⟩
    have F := hid (FE1.out w2 hb2)
    clear hb2 CH FE1
    go_wp2
    first | exact F.out | (go_ret; exact F.out)
end Go.Proofs.YtojednnciknhpaaDoor
namespace Go.Proofs.YtojednnciknhpaaDoor
set_option linter.unusedSimpArgs false
set_option linter.unusedVariables false
open Go.RowKit
attribute [local go_sem] Oper.semAt_some
attribute [local go_sem ↓] Go.wp_at_zero Go.wp_at_succ
set_option maxRecDepth 100000 in
set_option maxHeartbeats 1000000 in
theorem rworth_calls (x : Int) (w : World) : Calls Tryd.prog 71 #[.int .i64 x] w fun e w' => e = .returned (.bool (isW x)) ∧ w' = w := by
  obtain ⟨R, hR⟩ : ∃ R : Ending → World → Prop, R = fun e w' => e = .returned (.bool (isW x)) ∧ w' = w := ⟨_, rfl⟩
  rw [← hR]
  have FN := hid (show ∀ b, b = isW x → R (.returned (.bool b)) w from fun b h => by rw [hR, h]; exact ⟨rfl, rfl⟩)
  unfold isW at FN
  clear hR
  by_cases h0 : 0 ≤ x
  · by_cases h1 : x ≤ 1000000000
    · have F := hid (FN.out true (by simp [h0, h1]))
      clear FN
      go_enter Tryd.func71, Tryd.ntmps71
      go_wp2
      first | exact F.out | (go_ret; exact F.out)
    · have F := hid (FN.out false (by simp [h1]))
      have h2 : 1000000000 < x := by omega
      clear FN
      go_enter Tryd.func71, Tryd.ntmps71
      go_wp2
      first | exact F.out | (go_ret; exact F.out)
  · have F := hid (FN.out false (by simp [h0]))
    have h2 : x < 0 := by omega
    clear FN
    go_enter Tryd.func71, Tryd.ntmps71
    go_wp2
    first | exact F.out | (go_ret; exact F.out)

set_option maxRecDepth 100000 in
set_option maxHeartbeats 8000000 in
theorem rcheckHall_calls {w : World} {v : Value} {L : List (List Int)} (hv : NestE encI 1 w v L) :
    Calls Tryd.prog 52 #[v] w fun e w' => e = .returned (.int .i64 (chkH L)) ∧ Below w.heap.size w w' := by
  obtain ⟨R, hR⟩ : ∃ R : Ending → World → Prop, R = fun e w' => e = .returned (.int .i64 (chkH L)) ∧ Below w.heap.size w w' := ⟨_, rfl⟩
  rw [← hR]
  have FN := hid (show ∀ z w', z = chkH L → Below w.heap.size w w' → R (.returned (.int .i64 z)) w' from fun z w' a b => by rw [hR, a]; exact ⟨rfl, b⟩)
  unfold chkH at FN
  rcases Nat.eq_zero_or_pos L.length with h0 | h0
  · obtain ⟨vs, ⟨_, p, cap, _, _, hvv, _, _⟩, hvl, _⟩ := hv
    rw [hvl, h0] at hvv
    have F := hid (FN.out 1 w (by rw [if_pos (.inl h0)]) (Below.refl _ _))
    subst hvv
    clear FN hR hvl h0
    go_enter Tryd.func52, Tryd.ntmps52
    go_wp2
    first | exact F.out | (go_ret; exact F.out)
  · obtain ⟨bb, off, cap, p0, c0, rfl, hc, hrw⟩ := nest_first hv h0
    have k0 := hc w (Below.refl _ _)
    obtain ⟨n, hn⟩ : ∃ n, n = L.length := ⟨_, rfl⟩
    obtain ⟨m, hm⟩ : ∃ m, m = cols L := ⟨_, rfl⟩
    rw [← hn, ← hm] at FN
    rw [← hm] at k0 hc
    rw [← hn] at h0 ⊢
    have HN := hid hn
    have HM := hid hm
    have HC := hid hc
    have HRW := hid hrw
    have h0z : (0 : Int) < (n : Int) := by omega
    have en : ((n : Int) == 0) = false := by simp; omega
    clear hR hn hm hc hrw hv
    by_cases hm00 : m = 0
    · have F := hid (FN.out 1 w (by rw [if_pos (.inr hm00)]) (Below.refl _ _))
      subst hm00
      clear FN
      go_enter Tryd.func52, Tryd.ntmps52
      go_wp2
      first | exact F.out | (go_ret; exact F.out)
    · have em : ((m : Int) == 0) = false := by simp; omega
      have FN1 := hid (fun z w' h hb => FN.out z w' (Eq.trans h (if_neg (show ¬ (n = 0 ∨ m = 0) by omega)).symm) hb)
      clear FN
      by_cases hb1 : 64 < n
      · have F := hid (FN1.out 2 w (by rw [if_pos (.inl hb1)]) (Below.refl _ _))
        have hb2 : (64 : Int) < (n : Int) := by omega
        clear FN1
        go_enter Tryd.func52, Tryd.ntmps52
        go_wp2
        first | exact F.out | (go_ret; exact F.out)
      by_cases hb3 : 64 < m
      · have F := hid (FN1.out 2 w (by rw [if_pos (.inr hb3)]) (Below.refl _ _))
        have hb2 : (n : Int) ≤ 64 := by omega
        have hb4 : (64 : Int) < (m : Int) := by omega
        clear FN1
        go_enter Tryd.func52, Tryd.ntmps52
        go_wp2
        first | exact F.out | (go_ret; exact F.out)
      have hb2 : (n : Int) ≤ 64 := by omega
      have hb4 : (m : Int) ≤ 64 := by omega
      have FN2 := hid (fun z w' h hb => FN1.out z w' (Eq.trans h (if_neg (show ¬ (64 < n ∨ 64 < m) by omega)).symm) hb)
      clear FN1 hb1 hb3 hm00
      go_enter Tryd.func52, Tryd.ntmps52
      go_upto_region 6 with fail
      go_loopg [3] n (fun k s3 wr => ∃ i : Nat, i + k = n ∧ s3 = .int .i64 i ∧ (∀ k (hk : k < L.length), k < i → decide (¬ L[k].length = m) = false) ∧ Below w.heap.size w wr)
      case atStart => exact ⟨0, by omega, rfl, fun k _ h => by omega, Below.refl _ _⟩
      case round =>
      obtain ⟨i, hik, rfl, hno, hb⟩ := hrel
      have HIK := hid hik
      have NO := hid hno
      have B := hid hb
      have kk0 := HC.out wr hb
      clear hik hno hb k0
      by_cases hin : i < n
      · have hil : i < L.length := by rw [← HN.out]; exact hin
        obtain ⟨u, RX, hcu⟩ := HRW.out i hil
        have cu := hcu wr B.out
        obtain ⟨_, pi, capi, bi, oi, hvi, _, _⟩ := RX
        have NX := hid (show decide (¬ L[i].length = m) = false → ∀ k (hk : k < L.length), k < i + 1 → decide (¬ L[k].length = m) = false from fun hq k hk h => by
          by_cases e : k = i
          · subst e; exact hq
          · exact NO.out k hk (by omega))
        have YY := hid (show decide (¬ L[i].length = m) = true → L.any (fun r => decide (¬ r.length = m)) = true from fun hq => any_at (P := fun r => decide (¬ r.length = m)) hil hq)
        obtain ⟨q, hq⟩ : ∃ q, q = L[i].length := ⟨_, rfl⟩
        rw [← hq] at hvi NX YY
        subst hvi
        have gi : (i : Int) < (n : Int) := by omega
        have gi0 : (0 : Int) ≤ (i : Int) := by omega
        clear hq hcu
        by_cases hqm : q = m
        · subst hqm
          have N2 := hid (NX.out (by simp))
          have gq : ((q : Int) != (q : Int)) = false := by simp
          clear NX YY
          go_upto_region 8 with fail
          go_quiet (fail)
          go_wp2
          go_roundg (n - (i + 1))
          · exact ⟨i + 1, by omega, by go_num, N2.out, drewN_below B.out _⟩
          · have := HIK.out; omega
        · have F := hid (fun w' h => FN2.out 7 w' (by rw [if_pos (YY.out (by simpa using hqm))]) h)
          have gq : ((q : Int) != (m : Int)) = true := by simp; omega
          clear NX YY hqm
          go_upto_region 8 with fail
          go_quiet (fail)
          go_wp2
          first | exact F.out _ (drewN_below B.out _) | (go_ret; exact F.out _ (drewN_below B.out _))
      obtain rfl : i = n := by have := HIK.out; omega
      have g1 : decide ((i : Int) < (i : Int)) = false := by simp
      have hno : (L.any fun r => decide (¬ r.length = m)) = false := any_take (P := fun r => decide (¬ r.length = m)) fun k hk => NO.out k hk (by rw [HN.out]; exact hk)
      have FN3 := hid (fun z w' h hb => FN2.out z w' (Eq.trans h (if_neg (by rw [hno]; simp)).symm) hb)
      obtain ⟨wA, hwA⟩ : ∃ wA, wA = wr := ⟨_, rfl⟩
      rw [← hwA] at B ⊢
      have LEN := hid (show ∀ k (hk : k < L.length), L[k].length = m from fun k hk => by
        have := NO.out k hk (by rw [HN.out]; exact hk)
        simpa using this)
      clear FN2 hno hwA kk0 NO
      go_upto_region 11 with fail
      go_loopg [4] i (fun k s4 wr => ∃ t : Nat, t + k = i ∧ s4 = .int .i64 t ∧ (∀ k (hk : k < L.length), k < t → (L[k].any fun x => !isW x) = false) ∧ Below wA.heap.size wA wr)
      case atStart => exact ⟨0, by omega, rfl, fun k _ h => by omega, Below.refl _ _⟩
      case round =>
      obtain ⟨t, htk, rfl, hnt, hb⟩ := hrel
      have HTK := hid htk
      have NT := hid hnt
      have BT := hid hb
      have BW := hid (B.out.trans (hb.mono B.out.size))
      clear htk hnt hb
      by_cases hti : t < i
      · have htl : t < L.length := by rw [← HN.out]; exact hti
        obtain ⟨u, RX, hcu⟩ := HRW.out t htl
        have HCU := hid hcu
        obtain ⟨pu, cpu, hu, hcr⟩ := reads_at RX
        rw [LEN.out t htl] at hu
        subst hu
        have HCR := hid hcr
        have gt : (t : Int) < (i : Int) := by omega
        have gt0 : (0 : Int) ≤ (t : Int) := by omega
        have NX := hid (show (L[t].any fun x => !isW x) = false → ∀ k (hk : k < L.length), k < t + 1 → (L[k].any fun x => !isW x) = false from fun hq k hk h => by
          by_cases e : k = t
          · subst e; exact hq
          · exact NT.out k hk (by omega))
        have YY := hid (show (L[t].any fun x => !isW x) = true → (L.any fun r => r.any fun x => !isW x) = true from fun hq => any_at (P := fun r : List Int => r.any fun x => !isW x) htl hq)
        obtain ⟨wB, hwB⟩ : ∃ wB, wB = wr := ⟨_, rfl⟩
        rw [← hwB] at BT BW ⊢
        clear hcu hcr RX hwB
        go_upto_region 14 with fail
        go_loopg [5] m (fun k s5 wr => ∃ q : Nat, q + k = m ∧ s5 = .int .i64 q ∧ (∀ k (hk : k < L[t].length), k < q → (!isW L[t][k]) = false) ∧ wr = wB)
        case atStart => exact ⟨0, by omega, rfl, fun k _ h => by omega, rfl⟩
        case round =>
        obtain ⟨q, hqk, rfl, hnq, hwr⟩ := hrel
        have HQK := hid hqk
        have NQ := hid hnq
        rw [hwr]
        clear hqk hnq hwr
        have cu := HCU.out wB BW.out
        by_cases hqm : q < m
        · have hqr : q < L[t].length := by rw [LEN.out t htl]; exact hqm
          obtain ⟨b1, o1, rfl, hc1⟩ := HCR.out q hqr
          have cx := hc1 wB BW.out
          have N3 := hid (show (!isW L[t][q]) = false → ∀ k (hk : k < L[t].length), k < q + 1 → (!isW L[t][k]) = false from fun hq k hk h => by
            by_cases e : k = q
            · subst e; exact hq
            · exact NQ.out k hk (by omega))
          have Y3 := hid (show (!isW L[t][q]) = true → R (.returned (.int .i64 1)) wB from fun hq => FN3.out 1 wB (by rw [if_pos (YY.out (any_at (P := fun x => !isW x) hqr hq))]) BW.out)
          have RW := hid (rworth_calls L[t][q] wB)
          obtain ⟨x, hx⟩ : ∃ x, x = L[t][q] := ⟨_, rfl⟩
          rw [← hx] at cx N3 Y3 RW
          obtain ⟨y, hy⟩ : ∃ y, y = isW x := ⟨_, rfl⟩
          rw [← hy] at N3 Y3 RW
          have gq : (q : Int) < (m : Int) := by omega
          have gq0 : (0 : Int) ≤ (q : Int) := by omega
          clear hx hy hc1
          go_wp2_with fail
          refine RW.out.mono ?_
          rintro e w8 ⟨rfl, hw8⟩
          rw [hw8]
          clear hw8 RW
          cases y with
          | true =>
            have N4 := hid (N3.out rfl)
            clear N3 Y3
            go_wp2
            go_roundg (m - (q + 1))
            · exact ⟨q + 1, by omega, by go_num, N4.out, rfl⟩
            · have := HQK.out; omega
          | false =>
            have F := hid (Y3.out rfl)
            clear N3 Y3
            go_wp2
            first | exact F.out | (go_ret; exact F.out)
        obtain rfl : q = m := by have := HQK.out; omega
        have g2 : decide ((q : Int) < (q : Int)) = false := by simp
        have N2 := hid (NX.out (any_take (P := fun x => !isW x) fun k hk => NQ.out k hk (by rw [LEN.out t htl] at hk; exact hk)))
        clear NX YY
        go_wp2
        go_roundg (i - (t + 1))
        · exact ⟨t + 1, by omega, by go_num, N2.out, BT.out⟩
        · have := HTK.out; omega
      obtain rfl : t = i := by have := HTK.out; omega
      have g2 : decide ((t : Int) < (t : Int)) = false := by simp
      have hno : (L.any fun r => r.any fun x => !isW x) = false := any_take (P := fun r : List Int => r.any fun x => !isW x) fun k hk => NT.out k hk (by rw [HN.out]; exact hk)
      have F := hid (FN3.out 0 wr (by rw [if_neg (by rw [hno]; simp)]) BW.out)
      clear FN3 hno
      go_wp2
      first | exact F.out | (go_ret; exact F.out)
end Go.Proofs.YtojednnciknhpaaDoor
