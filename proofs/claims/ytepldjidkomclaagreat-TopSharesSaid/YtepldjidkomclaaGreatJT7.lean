/- TopShares: the walk. -/
import Derived.Test.YtepldjidkomclaaGreatJT6
import Derived.Test.YtepldjidkomclaaGreatJT2
namespace Go.Proofs.YtepldjidkomclaaGreat
set_option linter.unusedSimpArgs false
set_option linter.unusedVariables false
open Go.RowKit
attribute [local go_sem] Oper.semAt_some
attribute [local go_sem ↓] Go.wp_at_zero Go.wp_at_succ
theorem sum_le {W : List Int} (h : ∀ x ∈ W, 0 ≤ x ∧ x ≤ 30) : 0 ≤ Ca.sumI W ∧ Ca.sumI W ≤ 30 * (W.length : Int) := by
  induction W with
  | nil => simp [Ca.sumI]
  | cons x W ih =>
    obtain ⟨i1, i2⟩ := ih fun y hy => h y (List.mem_cons_of_mem _ hy)
    obtain ⟨h1, h2⟩ := h x List.mem_cons_self
    simp only [Ca.sumI, List.length_cons]
    push_cast
    omega
theorem row_cell {B : Nat} {w : World} {p : Option Addr} {n c : Nat} {L : List Int} (h : Ca.RowI B w (.slice p n c) L) {i : Nat} (hi : i < L.length) : ∃ g, p = some ⟨g, 0, none⟩ ∧ w.cell? ⟨g, i, none⟩ = some (.int .i64 (L.getD i 0)) := by
  obtain ⟨p', c', e, q⟩ := OwnE.form h
  injection e with e1 e2 e3
  subst e1 e2 e3
  rcases q with ⟨_, e⟩ | ⟨g, rfl, _⟩
  · rw [e] at hi; simp at hi
  · obtain ⟨_, _, _, hc⟩ := OwnE.cellsAt Ca.encI_len h
    refine ⟨g, rfl, ?_⟩
    have := hc i hi 0 (by omega)
    rw [List.getD_eq_getElem?_getD, List.getElem?_eq_getElem hi]
    simpa [Ca.encI] using this
set_option maxRecDepth 100000 in
set_option maxHeartbeats 20000000 in
theorem shares_law (w : World) (v : Value) (l : List Int) (hv : ReadsE Ca.encI 1 w v l) (tot : Int) (v2 : Value) (l2 : List Int) (hv2 : ReadsE Ca.encI 1 w v2 l2) :
    Calls Tryz.prog 4 #[v, .int .i64 tot, v2] w fun e w' => e = .returned (.bool true) ∧ Below w.heap.size w w' := by
  obtain ⟨R, hR⟩ : ∃ R : Ending → World → Prop, R = fun e w' => e = .returned (.bool true) ∧ Below w.heap.size w w' := ⟨_, rfl⟩
  rw [← hR]
  have FN := hid (show ∀ w', Below w.heap.size w w' → R (.returned (.bool true)) w' from fun w' h => by rw [hR]; exact ⟨rfl, h⟩)
  clear hR
  obtain ⟨hm2, p, cap, bb, off, rfl, hp, hc⟩ := hv
  obtain ⟨hm3, p2, cap2, bb2, off2, rfl, hp2, hc2⟩ := hv2
  obtain ⟨n, hn⟩ : ∃ n, n = l.length := ⟨_, rfl⟩
  obtain ⟨n2, hn2⟩ : ∃ n, n = l2.length := ⟨_, rfl⟩
  rw [← hn] at hp hm2 ⊢
  rw [← hn2] at hp2 hm3 ⊢
  have HN := hid hn
  have HP := hid hp
  have HC := hid hc
  have HN2 := hid hn2
  have HP2 := hid hp2
  have HC2 := hid hc2
  obtain ⟨N, hN⟩ : ∃ N, N = min n 10 := ⟨_, rfl⟩
  have HNM := hid hN
  clear hn hp hc hn2 hp2 hc2 hN
  go_enter Tryz.func4, Tryz.ntmps4
  go_upto_block 0 with fail
  go_cut [7, 8, 9] (fun s7 s8 s9 wx => ∃ (W : List Int) (pW : Option Addr) (cW : Nat), s7 = .slice pW N cW ∧ s8 = .int .i64 (Ca.sumI W) ∧ Ca.RowI w.heap.size wx (.slice pW N cW) W ∧ W.length = N ∧ (∀ x ∈ W, 0 ≤ x ∧ x ≤ 30) ∧ Below w.heap.size w wx)
  case first =>
    go_wp2_with fail
    go_loopg [7, 8, 9] N (fun k s7 s8 s9 wr => ∃ (i : Nat) (W : List Int), i + k = N ∧ s9 = .int .i64 i ∧ s8 = .int .i64 (Ca.sumI W) ∧ Ca.RowI w.heap.size wr s7 W ∧ W.length = i ∧ (∀ x ∈ W, 0 ≤ x ∧ x ≤ 30) ∧ Below w.heap.size w wr)
    case atStart => exact ⟨0, [], by omega, rfl, rfl, OwnE.nil _ _, rfl, fun b hb => by simp at hb, Below.refl _ _⟩
    case round =>
      obtain ⟨i, W, hik, rfl, rfl, rr, hWl, hWk, hb⟩ := hrel
      have HIK := hid hik
      have RR := hid rr
      have B := hid hb
      have HWK := hid hWk
      have HWL := hid hWl
      have sb := sum_le hWk
      rw [hWl] at sb
      clear hik rr hb hWk hWl
      obtain ⟨po, co, hvo, hh⟩ := RR.out.form
      rw [HWL.out] at hvo
      subst hvo
      by_cases hin : i < N
      · have h1 : i < n := by have := HNM.out; omega
        have h2 : i < 10 := by have := HNM.out; omega
        have hil : i < l.length := by rw [← HN.out]; exact h1
        obtain ⟨rfl, hbb⟩ := HP.out (by omega)
        have c0 := (B.out.cell (p := ⟨bb, off + i * 1 + 0, none⟩) hbb).trans (HC.out i hil 0 (by omega))
        simp [Ca.encI] at c0
        obtain ⟨x, hx⟩ : ∃ x, x = l[i] := ⟨_, rfl⟩
        rw [← hx] at c0
        have gi : (i : Int) < (n : Int) := by omega
        have gm : (i : Int) < 10 := by omega
        have gi0 : (0 : Int) ≤ (i : Int) := by omega
        obtain ⟨y, hy⟩ : ∃ y, y = Ca.um x 31 := ⟨_, rfl⟩
        have ry := Ca.um_range x (k := 31) (by omega)
        rw [← hy] at ry
        have SC := hid (small_calls x 30 31 (by omega) (by omega) wr)
        rw [← hy] at SC
        have so : Ca.SrcE Ca.encI 1 (wr.alloc (.cells #[.int .i64 y] 2)) (.slice (some ⟨wr.heap.size, 0, none⟩) 1 1) [y] := Ca.SrcE.one (Cells.new wr _ _)
        have hsz := B.out.size
        obtain ⟨v6, w6, r2, r3, k3, _⟩ := Ca.own_append (ty := 26) Ca.undI64 Ca.infoI64 rfl (by omega) Ca.encI_len Ca.encI_one (RR.out.alloc (.cells #[.int .i64 y] 2)) (by simp; omega) so (by unfold maxLen; simp [HWL.out]; omega) (by simp [HWL.out]; omega)
        have b6 : Below w.heap.size w w6 := (B.out.alloc B.out.size _).trans (k3.below (by simp; omega) (fun k hk => by
          rcases hh with ⟨rfl, _⟩ | ⟨g, rfl, hg, _⟩ <;> cases hk
          exact hg))
        obtain ⟨p6, c6, hv6, _⟩ := OwnE.form r3
        rw [List.length_append, HWL.out, show ([y] : List Int).length = 1 from rfl] at hv6
        subst hv6
        obtain ⟨g6, rfl, k6⟩ := row_cell r3 (i := i) (by rw [List.length_append, HWL.out]; simp)
        have ey : (W ++ [y]).getD i 0 = y := by rw [List.getD_eq_getElem?_getD, List.getElem?_append_right (by rw [HWL.out]; omega), HWL.out]; simp
        rw [ey] at k6
        have l6 := World.block_lt_of_cell? _ _ k6
        have SS := hid (show Ca.sumI (W ++ [y]) = Ca.sumI W + y from Ca.sumI_snoc W y)
        obtain ⟨s, hs⟩ : ∃ s, s = Ca.sumI W := ⟨_, rfl⟩
        rw [← hs] at sb SS ⊢
        have ew : IntKind.i64.wrap (s + y) = s + y := IntWalk.i64_in _ (by omega)
        have gi1 : (i : Int) < ((i + 1 : Nat) : Int) := by push_cast; omega
        have gi2 : (i : Int) < (i : Int) + 1 := by omega
        have R2 := hid r2
        have R3 := hid r3
        have B6 := hid b6
        have HY := hid ry
        clear so r2 r3 k3 b6 hx hy hs hh ey ry
        go_wp2_with fail
        refine SC.out.mono ?_
        rintro e w5 ⟨rfl, rfl⟩
        go_wp2_with (at_builtin; refine Ca.wpList_append_run rfl (.tmp 34) (.tmp 40) 26 rfl _ _ (.slice (some ⟨g6, 0, none⟩) (i + 1) c6) w6 rfl rfl R2.out ?_)
        go_roundg (N - (i + 1))
        · refine ⟨i + 1, W ++ [y], by omega, by go_num, by rw [SS.out], R3.out, by rw [List.length_append, HWL.out]; rfl, fun z hz => ?_, B6.out⟩
          rcases List.mem_append.1 hz with q | q
          · exact HWK.out z q
          · rw [List.mem_singleton.1 q]; have := HY.out; omega
        · have := HIK.out; omega
      · have hin' : N = i := by have := HIK.out; omega
        have RRN := hid (show Ca.RowI w.heap.size wr (.slice po N co) W by rw [hin']; exact RR.out)
        have eNi : Value.slice po i co = .slice po N co := by rw [hin']
        have HWN := hid (show W.length = N by rw [HWL.out, hin'])
        by_cases h1 : i < n
        · have g1 : (i : Int) < (n : Int) := by omega
          have g2 : ¬ (i : Int) < 10 := by have := HNM.out; omega
          clear h1 hin hh
          rw [eNi]
          clear eNi hin'
          go_wp2
          go_meet
          exact ⟨W, po, co, rfl, rfl, RRN.out, HWN.out, HWK.out, B.out⟩
        · have g1 : ¬ (i : Int) < (n : Int) := by omega
          clear h1 hin hh
          rw [eNi]
          clear eNi hin'
          go_wp2
          go_meet
          exact ⟨W, po, co, rfl, rfl, RRN.out, HWN.out, HWK.out, B.out⟩
  case rest =>
  obtain ⟨W, pW, cW, rfl, rfl, hrW, hWl, hWk, hb3⟩ := hcut
  have hN10 : N ≤ 10 := by have := HNM.out; omega
  have sb := sum_le hWk
  rw [hWl] at sb
  obtain ⟨s, hs⟩ : ∃ s, s = Ca.sumI W := ⟨_, rfl⟩
  rw [← hs] at sb ⊢
  have rn := Ca.um_range tot (k := s + 1) (by omega)
  have SC := hid (small_calls tot s (s + 1) rfl (by omega) wc)
  obtain ⟨nn, hnn⟩ : ∃ nn, nn = Ca.um tot (s + 1) := ⟨_, rfl⟩
  rw [← hnn] at rn SC
  obtain ⟨f1, f2, f3⟩ := split_facts hWk (by omega) (n := nn) (by rw [← hs]; omega)
  have SP := hid (Ca.splitf_calls (OwnE.reads Ca.encI_len hrW (by omega)) nn)
  rw [f1] at SP
  have flen := Ca.splitL_len nn W
  obtain ⟨sh, hsh⟩ : ∃ sh, sh = Ca.splitL nn W := ⟨_, rfl⟩
  rw [← hsh] at f2 f3 SP flen
  rw [hWl] at flen
  have SHF := hid f2
  have SHS := hid f3
  have SHL := hid flen
  have B3 := hid hb3
  have RN := hid rn
  have hsb : s ≤ 300 := by omega
  clear hrW hWl hWk hb3 f1 f2 f3 flen hsh hnn hs sb rn
  obtain ⟨w3, rfl⟩ : ∃ w3 : World, w3 = wc := ⟨_, rfl⟩
  go_wp2_with fail
  refine SC.out.mono ?_
  rintro e w3' ⟨rfl, hw3⟩
  subst hw3
  clear SC
  go_wp2_with fail
  refine SP.out.mono ?_
  rintro e w4 ⟨⟨vs, rfl, hrs⟩, hb4⟩
  have hrs : Ca.RowI w3'.heap.size w4 vs sh := hrs
  obtain ⟨ps, cs, hvs, _⟩ := OwnE.form hrs
  rw [SHL.out] at hvs
  subst hvs
  have RS := hid hrs
  have B4 := hid (B3.out.trans (hb4.mono B3.out.size))
  clear hrs hb4 SP
  go_wp2_with fail
  refine (St.New_calls w4).mono ?_
  rintro e w5 ⟨sB, vB, t, rfl, hst, htl, hfi, hls, hlv, hb5⟩
  have ST5 := hid hst
  have HTL := hid htl
  have HFI := hid hfi
  have HLS := hid hls
  have HLV := hid hlv
  have B5 := hid hb5
  clear hst htl hfi hls hlv hb5
  have enn : ((N : Int) != (N : Int)) = false := by simp
  go_upto_if 73 with fail
  go_cut [14] (fun s14 wx => ∃ gap, s14 = .int .i64 gap ∧ 1 ≤ gap ∧ gap ≤ 100 ∧ wx = w5)
  case first =>
    by_cases h0 : 0 < n2
    · have hil : 0 < l2.length := by rw [← HN2.out]; exact h0
      obtain ⟨rfl, hbb⟩ := HP2.out (by omega)
      have b5 := B4.out.trans (B5.out.mono B4.out.size)
      have c0 := (b5.cell (p := ⟨bb2, off2 + 0 * 1 + 0, none⟩) hbb).trans (HC2.out 0 hil 0 (by omega))
      simp [Ca.encI] at c0
      obtain ⟨x, hx⟩ : ∃ x, x = l2[0] := ⟨_, rfl⟩
      rw [← hx] at c0
      have gi : (0 : Int) < (n2 : Int) := by omega
      have u0 := Ca.um_range x (k := 5) (by omega)
      have t1 := Ca.um_tmod x 5
      have t2 : IntKind.i64.wrap (Ca.um x 5) = Ca.um x 5 := IntWalk.i64_in _ (by omega)
      have t3 : IntKind.i64.wrap (1 + Ca.um x 5) = 1 + Ca.um x 5 := IntWalk.i64_in _ (by omega)
      clear hx b5 h0
      go_wp2
      go_meet
      exact ⟨_, rfl, by omega, by omega, rfl⟩
    · have h00 : n2 = 0 := by omega
      subst h00
      go_wp2
      go_meet
      exact ⟨3, rfl, by omega, by omega, rfl⟩
  case rest =>
  obtain ⟨gap, rfl, hg1, hg2, hwc⟩ := hcut
  obtain rfl : w5 = wc := hwc.symm
  have HG := hid (show 1 ≤ gap ∧ gap ≤ 100 from ⟨hg1, hg2⟩)
  clear hwc
  have E1 := hid (St.enter_calls w5 sB vB [t] t ST5.out (by simp) rfl HFI.out 1 150 1 1)
  rw [lots_one HTL.out HFI.out] at E1
  have eg : IntKind.i64.wrap (151 + gap) = 151 + gap := IntWalk.i64_in _ (by omega)
  go_wp2_with fail
  refine E1.out.mono ?_
  rintro e w6 ⟨rfl, _, h3⟩
  obtain ⟨t1, uB, s1, ok1, lst1, u1, tu1⟩ := h3 rfl
  rw [HTL.out] at lst1
  have ti1 : St.Tiles t1.toList 1 1000000 := by rw [lst1]; exact St.changedP_tiles _ pc0_tiles (by omega) (by omega) (by omega)
  have fi1 := St.Fine.of ok1 ti1
  obtain ⟨m1, m2⟩ := lots_two HG.out lst1 fi1
  have b46 : Below w4.heap.size w4 w6 := B5.out.trans (Turned_below' tu1 HLS.out HLV.out B5.out.size)
  have E2 := hid (St.enter_calls w6 sB uB ([t] ++ [t1]) t1 s1 (by simp) rfl fi1 (151 + gap) 200 1 1)
  rw [m1] at E2
  have NX := hid (fun (e : Ending) (w' : World) h => ShT.stepped (w0 := w4) (N := 2) (av := fun _ => False) (e := e) (w' := w') s1 (by simp) rfl (fun x hx => by
    simp at hx
    rcases hx with rfl | rfl
    · exact HFI.out
    · exact fi1) HLS.out (by have := HLV.out; have := B5.out.size; omega) b46 (fun k hk => hk.elim) m2 h)
  clear h3 s1 ok1 lst1 u1 tu1 ti1 fi1 m1 m2 b46 E1
  go_wp2_with fail
  refine E2.out.mono ?_
  rintro e w7 hst7
  obtain ⟨rfl, sh7, _⟩ := NX.out _ _ hst7
  have SH7 := hid sh7
  clear hst7 sh7 NX E2 eg
  have CUM := hid (show cumT sh sh.length ≤ 300 from by unfold cumT; rw [List.take_length, SHS.out]; have := RN.out; omega)
  have CM := hid (fun i j h1 h2 => cumT_mono (sh := sh) (fun k => (SHF.out k).1) (i := i) (j := j) h1 h2)
  go_upto_block 2 with fail
  go_cut [15] (fun s15 wx => ∃ own N', OwS sh N own ∧ ShT w4 gap own sB N' (fun _ => False) wx ∧ 1 ≤ N' ∧ N' ≤ 100)
  case first =>
    go_wp2_with fail
    go_loopg [15] N (fun k s15 wx => ∃ (i : Nat) (own : Int → Int) (N' : Nat), i + k = N ∧ s15 = .int .i64 i ∧ OwS sh i own ∧ ShT w4 gap own sB N' (fun _ => False) wx ∧ 1 ≤ N' ∧ N' ≤ 3 + 2 * i)
    case atStart => exact ⟨0, _, 3, by omega, rfl, OwS.start sh, SH7.out, by omega, by omega⟩
    case round =>
      obtain ⟨i, own, N', hik, rfl, ho, hs, hn1, hn2⟩ := hrel
      have HIK := hid hik
      have OW := hid ho
      have SS := hid hs
      clear hik ho hs SH7
      by_cases hin : i < N
      · have hil : i < sh.length := by rw [SHL.out]; exact hin
        have bel : Below w4.heap.size w4 wr := by obtain ⟨_, _, _, _, _, _, _, _, _, _, _, h9, _⟩ := SS.out; exact h9
        obtain ⟨gs, rfl, k0⟩ := row_cell (OwnE.below RS.out bel) hil
        have hm0 := (SHF.out i).1
        have hm30 := (SHF.out i).2
        have gi : (i : Int) < (N : Int) := by omega
        have gi0 : (0 : Int) ≤ (i : Int) := by omega
        have SKIP := hid (fun h => OW.out.skip hil h)
        have cs := cumT_succ hil
        have c1 := CM.out (i + 1) sh.length (by omega) (Nat.le_refl _)
        have hc := CUM.out
        have NXT := hid (fun h => OW.out.next (fun k => (SHF.out k).1) hil h (by omega))
        obtain ⟨m, hm⟩ : ∃ m, m = sh.getD i 0 := ⟨_, rfl⟩
        rw [← hm] at k0 hm0 hm30 SKIP cs NXT
        obtain ⟨c, hcc⟩ : ∃ c, c = cumT sh i := ⟨_, rfl⟩
        have hcm : c + m ≤ 350 := by omega
        rw [← hcc] at NXT
        have OT := hid (show OwT c own by rw [hcc]; exact OW.out.ow)
        clear hm hcc cs c1 hc bel
        by_cases hz : m = 0
        · have S2 := hid (SKIP.out hz)
          have ez : (m == 0) = true := by simpa using hz
          clear hz SKIP NXT
          go_wp2
          go_roundg (N - (i + 1))
          · exact ⟨i + 1, own, N', by omega, by go_num, S2.out, SS.out, hn1, by omega⟩
          · have := HIK.out; omega
        · have ez : (m == 0) = false := by simpa using hz
          have hm1 : 1 ≤ m := by omega
          have FD := hid (SS.out.find_calls (by omega) HG.out OT.out hm1 hcm)
          have N2 := hid (NXT.out hm1)
          clear hz SKIP NXT
          go_wp2_with fail
          refine FD.out.mono ?_
          rintro e w8 ⟨gs8, c8, rfl, sh8, hcell⟩
          obtain ⟨F, hF⟩ : ∃ F, F = foundT gap c m := ⟨_, rfl⟩
          have S8 := hid sh8
          have HC8 := hid hcell
          have STEP := hid (fun (t : St.T) (hf : St.Fine t) (r : Nat) hr h => found_step HG.out OT.out hm1 hcm (k := (i : Int) + 2) (by have := HNM.out; omega) hf (r := r) hr h)
          have ALL := hid (found_all (gap := gap) (c := c) (m := m))
          have FLN := hid (found_len gap c m)
          rw [← hF] at HC8 STEP ALL FLN
          obtain ⟨ne, hne⟩ : ∃ ne, ne = F.length := ⟨_, rfl⟩
          rw [← hF, ← hne]
          have HNE := hid hne
          have e2 : IntKind.i64.wrap ((i : Int) + 2) = (i : Int) + 2 := IntWalk.i64_in _ (by have := HNM.out; omega)
          clear sh8 hcell hF hne FD k0
          go_upto_region 26 with fail
          go_loopg [18] ne (fun k s18 wx => ∃ r : Nat, r + k = ne ∧ s18 = .int .i64 r ∧ ShT w4 gap (ownM own c (c + doneT F r) ((i : Int) + 2)) sB (N' + r) (fun k => k = gs8) wx ∧ ∀ (q : Nat) (hq : q < F.length), wx.cell? ⟨gs8, q * 2, none⟩ = some (.int .i64 F[q].1) ∧ wx.cell? ⟨gs8, q * 2 + 1, none⟩ = some (.int .i64 F[q].2))
          case atStart => exact ⟨0, by omega, rfl, by
            have e0 : ownM own c (c + doneT F 0) ((i : Int) + 2) = own := by funext j; unfold ownM; rw [if_neg (by simp [doneT])]
            rw [e0]; exact S8.out, HC8.out⟩
          case round =>
            obtain ⟨r, hrk, rfl, hs, hcl⟩ := hrel
            have HRK := hid hrk
            have SR := hid hs
            have HCL := hid hcl
            clear hrk hs hcl S8 HC8
            have hne2 : ne ≤ 2 := by rw [HNE.out]; exact FLN.out
            by_cases hr : r < ne
            · have hrl : r < F.length := by rw [← HNE.out]; exact hr
              obtain ⟨k0, k1⟩ := HCL.out r hrl
              have MV := hid (SR.out.move_calls (by have := HNM.out; omega) (fun t hf h => STEP.out t hf r hrl h))
              have gr : (r : Int) < (ne : Int) := by omega
              have gr0 : (0 : Int) ≤ (r : Int) := by omega
              obtain ⟨fa, hfa⟩ : ∃ y, y = F[r].1 := ⟨_, rfl⟩
              obtain ⟨fb, hfb⟩ : ∃ y, y = F[r].2 := ⟨_, rfl⟩
              rw [← hfa, ← hfb] at MV
              rw [← hfa] at k0
              rw [← hfb] at k1
              clear hfa hfb
              go_wp2_with fail
              refine MV.out.mono ?_
              rintro e w9 ⟨rfl, sh9, hav⟩
              have S9 := hid sh9
              have hbk := hav gs8 rfl
              have HC9 := hid (show ∀ (q : Nat) (hq : q < F.length), w9.cell? ⟨gs8, q * 2, none⟩ = some (.int .i64 F[q].1) ∧ w9.cell? ⟨gs8, q * 2 + 1, none⟩ = some (.int .i64 F[q].2) from fun q hq => by
                have := HCL.out q hq
                simp only [World.cell?, World.cells?] at this ⊢
                rw [hbk]; exact this)
              clear sh9 hav hbk k0 k1
              go_wp2
              go_roundg (ne - (r + 1))
              · exact ⟨r + 1, by omega, by go_num, S9.out, HC9.out⟩
              · have := HRK.out; omega
            · have hrn : r = F.length := by rw [← HNE.out]; have := HRK.out; omega
              have W := hid (show ShT w4 gap (ownM own c (c + m) ((i : Int) + 2)) sB (N' + r) (fun _ => False) wr from by
                have h := SR.out.weak
                rw [hrn, ALL.out, ← hrn] at h
                exact h)
              have grn : ¬ (r : Int) < (ne : Int) := by omega
              clear hr hrn
              go_wp2
              go_roundg (N - (i + 1))
              · exact ⟨i + 1, _, N' + r, by omega, by go_num, N2.out, W.out, by omega, by have := HRK.out; omega⟩
              · have := HIK.out; omega
      · have hin' : i = N := by have := HIK.out; omega
        have gin : ¬ (i : Int) < (N : Int) := by omega
        have F1 := hid (show OwS sh N own by rw [← hin']; exact OW.out)
        have hnn : N' ≤ 100 := by omega
        clear hin hin'
        go_wp2
        go_meet
        exact ⟨own, N', F1.out, SS.out, hn1, hnn⟩
  case rest =>
  obtain ⟨own, N', ho, hs, hn1, hn2⟩ := hcut
  have OW := hid ho
  have SS := hid hs
  clear ho hs SH7
  obtain ⟨w8, rfl⟩ : ∃ w8 : World, w8 = wc := ⟨_, rfl⟩
  go_upto_region 31 with fail
  go_loopg [19] N (fun k s19 wx => ∃ (i : Nat), i + k = N ∧ s19 = .int .i64 i ∧ ShT w4 gap own sB N' (fun _ => False) wx)
  case atStart => exact ⟨0, by omega, rfl, SS.out⟩
  case round =>
    obtain ⟨i, hik, rfl, hs⟩ := hrel
    have HIK := hid hik
    have SR := hid hs
    clear hik hs SS
    have bel : Below w4.heap.size w4 wr := by obtain ⟨_, _, _, _, _, _, _, _, _, _, _, h9, _⟩ := SR.out; exact h9
    by_cases hin : i < N
    · have hil : i < sh.length := by rw [SHL.out]; exact hin
      obtain ⟨gs, rfl, k0⟩ := row_cell (OwnE.below RS.out bel) hil
      have gi : (i : Int) < (N : Int) := by omega
      have gi0 : (0 : Int) ≤ (i : Int) := by omega
      have cs := cumT_succ hil
      have c1 := CM.out (i + 1) sh.length (by omega) (Nat.le_refl _)
      have c2 := CM.out 0 i (by omega) (by omega)
      have c3 := (SHF.out i).1
      have c00 : cumT sh 0 = 0 := by unfold cumT; rw [List.take_zero]; rfl
      have hc := CUM.out
      have CT := hid (SR.out.count_calls (by omega) hn1 HG.out (k := (i : Int) + 2) (lo := cumT sh i) (hi := cumT sh (i + 1)) (by have := HNM.out; omega) (by omega) (fun j h1 h2 => OW.out.who i hin j h1))
      rw [show cumT sh (i + 1) - cumT sh i = sh.getD i 0 by omega] at CT
      have VS := hid (SR.out.ver_calls (by omega))
      have e2 : IntKind.i64.wrap ((i : Int) + 2) = (i : Int) + 2 := IntWalk.i64_in _ (by have := HNM.out; omega)
      obtain ⟨m, hm⟩ : ∃ m, m = sh.getD i 0 := ⟨_, rfl⟩
      rw [← hm] at k0 CT
      have emm : (m != m) = false := by simp
      have HRS := hid (fun wx (hb : Below wr.heap.size wr wx) => (show wx.cell? ⟨gs, i, none⟩ = some (.int .i64 m) from (hb.cell (p := ⟨gs, i, none⟩) (World.block_lt_of_cell? _ _ k0)).trans k0))
      clear cs c1 c2 c3 c00 hc hm bel
      go_wp2_with fail
      refine VS.out.mono ?_
      rintro e w9 ⟨rfl, hw9⟩
      subst hw9
      go_wp2_with fail
      refine CT.out.mono ?_
      rintro e wa ⟨rfl, hba⟩
      have k9 := HRS.out _ hba
      have SA := hid (SR.out.on hba)
      clear hba k0 HRS
      go_wp2
      go_roundg (N - (i + 1))
      · exact ⟨i + 1, by omega, by go_num, SA.out⟩
      · have := HIK.out; omega
    · have hin' : i = N := by have := HIK.out; omega
      have gin : ¬ (i : Int) < (N : Int) := by omega
      have hc := CUM.out
      have hlast : cumT sh N = nn := by rw [← SHL.out]; unfold cumT; rw [List.take_length]; exact SHS.out
      have ot := OW.out.ow
      rw [hlast] at ot
      have rn := RN.out
      have CT := hid (SR.out.count_calls (by omega) hn1 HG.out (k := 1) (lo := nn) (hi := 350) (by omega) (by omega) (fun j h1 h2 => ⟨fun e => by
        by_cases q : nn < j
        · exact ⟨q, h2⟩
        · exact absurd e (ot.given j h1 (by omega)), fun q => ot.rest j q.1⟩))
      have VS := hid (SR.out.ver_calls (by omega))
      have e3 : IntKind.i64.wrap (350 - nn) = 350 - nn := IntWalk.i64_in _ (by omega)
      have emm : ((350 - nn) == (350 - nn)) = true := by simp
      have BL := hid (B4.out.trans (bel.mono B4.out.size))
      clear hin hin' hlast ot rn hc
      go_wp2_with fail
      refine VS.out.mono ?_
      rintro e w9 ⟨rfl, hw9⟩
      subst hw9
      go_wp2_with fail
      refine CT.out.mono ?_
      rintro e wa ⟨rfl, hba⟩
      have BA := hid (BL.out.trans (hba.mono BL.out.size))
      have TC := hid (three_calls wa)
      clear hba
      go_wp2_with fail
      refine TC.out.mono ?_
      rintro e wz ⟨rfl, hbz⟩
      have F := hid (FN.out _ (BA.out.trans (hbz.mono BA.out.size)))
      clear hbz
      go_wp2
      first | exact F.out | (go_ret; exact F.out)
end Go.Proofs.YtepldjidkomclaaGreat
