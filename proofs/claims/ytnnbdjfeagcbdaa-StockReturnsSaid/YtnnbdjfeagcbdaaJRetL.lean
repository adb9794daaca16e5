/- StockReturns: its walk. -/
import Derived.Test.YtnnbdjfeagcbdaaJDo1
import Derived.Test.YtnnbdjfeagcbdaaJRunsL
namespace Go.Proofs.Ytnnbdjfeagcbdaa
set_option linter.unusedSimpArgs false
set_option linter.unusedVariables false
open Go.RowKit Go.Shelf
attribute [local go_sem] Oper.semAt_some

theorem Reg.short {B : Nat} {W w : World} {sB vB : Nat} {vs : List T} (h : Reg B W w sB vB vs) {t : T} (ht : vs.getLast? = some t) : ∃ n, vs.length = n + 1 ∧ vs[n]? = some t := by
  have hl := List.length_pos_iff.2 h.st.full
  exact ⟨vs.length - 1, by omega, by rw [← List.getLast?_eq_getElem?]; exact ht⟩

theorem version_reg {B : Nat} {W w : World} {sB vB : Nat} {vs : List T} (h : Reg B W w sB vB vs) {m : Nat} (hm : vs.length = m + 1) (hn : m ≤ 999) : Calls Try.prog 19 #[.pointer (some ⟨sB, 0, none⟩)] w fun e w' => e = .returned (.int .i64 (m : Int)) ∧ Below w.heap.size w w' := by
  obtain ⟨cp, hc, _⟩ := h.cell
  refine (version_calls w sB (.bool true) vs.length cp _ (by omega) hc).mono ?_
  rintro e w' ⟨he, hw⟩
  rw [hw]
  refine ⟨?_, Below.refl _ _⟩
  rw [he, hm]
  congr 2
  omega
theorem hold_cells {w wx : World} {b i : Nat} {p : Pc} (hx : wx.heap[b]? = w.heap[b]?) (h : w.cell? ⟨b, i * 5, none⟩ = some (.int .i64 p.from_) ∧ w.cell? ⟨b, i * 5 + 1, none⟩ = some (.int .i64 (p.to - p.from_ + 1)) ∧ w.cell? ⟨b, i * 5 + 2, none⟩ = some (.int .i64 p.cell.lot) ∧ w.cell? ⟨b, i * 5 + 3, none⟩ = some (.int .i64 p.cell.owner) ∧ w.cell? ⟨b, i * 5 + 4, none⟩ = some (.int .i64 p.cell.holder)) :
    wx.cell? ⟨b, i * 5, none⟩ = some (.int .i64 p.from_) ∧ wx.cell? ⟨b, i * 5 + 1, none⟩ = some (.int .i64 (p.to - p.from_ + 1)) ∧ wx.cell? ⟨b, i * 5 + 2, none⟩ = some (.int .i64 p.cell.lot) ∧ wx.cell? ⟨b, i * 5 + 3, none⟩ = some (.int .i64 p.cell.owner) ∧ wx.cell? ⟨b, i * 5 + 4, none⟩ = some (.int .i64 p.cell.holder) :=
  ⟨(World.cell?_of_block (w := w) (a := ⟨b, i * 5, none⟩) hx).trans h.1, (World.cell?_of_block (w := w) (a := ⟨b, i * 5 + 1, none⟩) hx).trans h.2.1, (World.cell?_of_block (w := w) (a := ⟨b, i * 5 + 2, none⟩) hx).trans h.2.2.1, (World.cell?_of_block (w := w) (a := ⟨b, i * 5 + 3, none⟩) hx).trans h.2.2.2.1, (World.cell?_of_block (w := w) (a := ⟨b, i * 5 + 4, none⟩) hx).trans h.2.2.2.2⟩
theorem other_ne {m q : Int} (hm : 1 ≤ m ∧ m ≤ 4) (hq : m.tmod 4 = q) : 0 ≤ q ∧ q ≤ 3 ∧ m ≠ 1 + q := by
  have : m = 1 ∨ m = 2 ∨ m = 3 ∨ m = 4 := by omega
  rcases this with rfl | rfl | rfl | rfl <;> (rw [← hq]; decide)

set_option maxRecDepth 100000 in
set_option maxHeartbeats 16000000 in
theorem returns_calls (w : World) (v : Value) (l : List Ac) (hv : ReadsE encA 6 w v l) (oa ob oc : Int) :
    Calls Try.prog 11 #[v, .agg #[.int .i64 oa, .int .i64 ob, .int .i64 oc]] w fun e w' => e = .returned (.bool true) ∧ Below w.heap.size w w' := by
  obtain ⟨hm, p, cap, b, off, rfl, hp, hc⟩ := hv
  obtain ⟨n, hn⟩ : ∃ n, n = l.length := ⟨_, rfl⟩
  rw [← hn] at hp hm ⊢
  have HP := hid hp
  have HC := hid hc
  have HN := hid hn
  clear hp hc hn
  obtain ⟨W0, hW0⟩ : ∃ W0, W0 = w.alloc (.cells #[.int .i64 oa, .int .i64 ob, .int .i64 oc] 81) := ⟨_, rfl⟩
  have CO := hid (show Cells W0 w.heap.size #[.int .i64 oa, .int .i64 ob, .int .i64 oc] 81 by rw [hW0]; exact Cells.new _ _ _)
  have BO := hid (show Below w.heap.size w W0 by rw [hW0]; exact (Below.refl _ _).alloc (Nat.le_refl _) _)
  have hz0 : W0.heap.size = w.heap.size + 1 := by rw [hW0]; simp
  have HW0 := hid hW0
  clear hW0
  go_enter Try.func11, Try.ntmps11
  go_wp2_with fail
  rw [← HW0.out]
  refine (new_reg W0).mono ?_
  rintro e w1 ⟨sB, vB0, t0, rfl, rg0, tl0⟩
  have RG0 := hid rg0
  have TL0 := hid tl0
  clear rg0 tl0
  go_upto_block 0 with fail
  go_cut [6] (fun s6 wx => ∃ (vB : Nat) (vs : List T) (t : T), vs.length ≤ 16 ∧ Reg W0.heap.size W0 wx sB vB vs ∧ vs.getLast? = some t ∧ t.toList.length ≤ 31)
  case first =>
    go_wp2_with fail
    go_loopg [6] 15 (fun k s6 wr => ∃ (i vB : Nat) (vs : List T) (t : T), i + k = 15 ∧ s6 = .int .i64 i ∧ vs.length ≤ i + 1 ∧ Reg W0.heap.size W0 wr sB vB vs ∧ vs.getLast? = some t ∧ t.toList.length ≤ 2 * i + 1)
    case atStart => exact ⟨0, vB0, [t0], t0, rfl, rfl, by simp, RG0.out, rfl, by rw [TL0.out]; simp⟩
    case round =>
      obtain ⟨i, vB, vs, t, hik, rfl, hvs, rg, ht, htl⟩ := hrel
      have RG := hid rg
      have HT := hid ht
      have HTL := hid htl
      have BW := hid (BO.out.trans (rg.below.mono BO.out.size))
      have hsz := rg.below.size
      clear rg ht htl
      by_cases hi : i < n
      · have g1 : decide ((i : Int) < (n : Int)) = true := by simpa using hi
        by_cases h3 : i < 15
        · have g2 : decide ((i : Int) < 15) = true := by simp; omega
          have i64 : IntKind.i64.wrap ((i : Int) + 1) = (i : Int) + 1 := IntWalk.i64_in _ (by omega)
          have hil : i < l.length := by rw [← HN.out]; exact hi
          obtain ⟨rfl, hbl⟩ := HP.out (by omega)
          obtain ⟨x, hx⟩ : ∃ x, x = l[i] := ⟨_, rfl⟩
          have ACT := hid (fun (wx : World) (hwx : ∀ o, wx.cell? ⟨b, o, none⟩ = w.cell? ⟨b, o, none⟩) => act_cell (x := x) hwx (fun j hj => by rw [hx]; exact HC.out i hil j hj))
          have AW := hid (ACT.out wr (fun o => BW.out.cell (p := ⟨b, o, none⟩) hbl))
          obtain ⟨d0, d1, d2, d3, d4, d5⟩ := AW.out
          have n2 : (0 : Int) ≤ (i : Int) := by omega
          have n3 : (i : Int) < (n : Int) := by omega
          have lb : b < wr.heap.size := Nat.lt_of_lt_of_le hbl BW.out.size
          have hvn : vs.length ≤ 999 := by omega
          have hcur : Below wr.heap.size wr wr.drew := (Below.refl _ _).drew
          have one : ([[]] : List (List Pc)).length ≤ 999 := by simp
          have zero : ([] : List Pc).length ≤ 1000000 := by simp
          clear hx hm
          go_wp2
          go_region_held3 (fun wh => wh.cell? ⟨b, off + i * 6, none⟩ = some (.int .i64 x.k) ∧ wh.cell? ⟨b, off + i * 6 + 1, none⟩ = some (.int .i64 x.f) ∧ wh.cell? ⟨b, off + i * 6 + 2, none⟩ = some (.int .i64 x.c) ∧ wh.cell? ⟨b, off + i * 6 + 3, none⟩ = some (.int .i64 x.l) ∧ wh.cell? ⟨b, off + i * 6 + 4, none⟩ = some (.int .i64 x.a) ∧ wh.cell? ⟨b, off + i * 6 + 5, none⟩ = some (.int .i64 x.b))
            (first | assumption | go_keep)
            (first
              | (go_at_call 29; (refine (new_rcalls _).mono ?_); rintro e w3 ⟨v0, rfl, ra0, hb3⟩; have hcur := hcur.trans (hb3.mono hcur.size); have a5 := ACT.out w3 (fun o => (BW.out.trans (hcur.mono BW.out.size)).cell (p := ⟨b, o, none⟩) hbl))
              | (go_at_call 18; (refine (tame_calls x.k x.f x.c x.l x.a x.b _).mono ?_); rintro e w4 ⟨rfl, hb3⟩; (try have ra0 := ra0.below hb3); have hcur := hcur.trans (hb3.mono hcur.size); have a5 := ACT.out w4 (fun o => (BW.out.trans (hcur.mono BW.out.size)).cell (p := ⟨b, o, none⟩) hbl))
              | (go_at_call 30; (refine (do_rcalls (RG.out.after hsz hcur) (Nat.le_trans hsz hcur.size) hvn HT.out v0 [[]] ra0 one [] rfl RunsP.nil zero x.k _ _ _ _ _).mono ?_); rintro e w5 ⟨r, r', v5, us, uB, ys, rfl, rg5, ra5, tu5, hu5, hus5, _⟩; have a5 := ACT.out w5 (fun o => (BO.out.trans (rg5.below.mono BO.out.size)).cell (p := ⟨b, o, none⟩) hbl)))
          all_goals (
            have R5 := hid rg5
            have US := hid hus5
            have LEN := hid (show us.length ≤ i + 2 by
              rcases hus5 with h | ⟨t', h, _⟩
              · rw [h]; omega
              · rw [h, List.length_append]; simp; omega)
            have LST := hid (show ∃ t', us.getLast? = some t' ∧ t'.toList.length ≤ 2 * (i + 1) + 1 by
              have := HTL.out
              rcases hus5 with h | ⟨t', h, _, h2⟩
              · exact ⟨t, by rw [h]; exact HT.out, by omega⟩
              · exact ⟨t', by rw [h]; simp, by omega⟩)
            clear rg5 ra5 tu5 hu5 hus5 a5 hcur hb3 ra0
            go_wp2
            obtain ⟨t', ht1, ht2⟩ := LST.out
            go_roundg (gk - 1)
            · exact ⟨i + 1, uB, us, t', by omega, rfl, by have := LEN.out; omega, R5.out, ht1, ht2⟩
            · omega)
        · have g2 : decide ((i : Int) < 15) = false := by simp; omega
          go_wp2
          go_meet
          case rel => exact ⟨vB, vs, t, by omega, RG.out, HT.out, by have := HTL.out; omega⟩
      · have g1 : decide ((i : Int) < (n : Int)) = false := by simpa using hi
        go_wp2
        go_meet
        case rel => exact ⟨vB, vs, t, by omega, RG.out, HT.out, by have := HTL.out; omega⟩
  case rest =>
    obtain ⟨vB, vs, t, hvs, rg, ht, htl⟩ := hcut
    have RG := hid rg
    have HT := hid ht
    have HTL := hid htl
    have hsz := rg.below.size
    have TR := hid (rg.tr (List.mem_of_getLast? ht))
    obtain ⟨N, hN, htN⟩ := rg.short ht
    have HN1 := hid hN
    have HTN := hid htN
    have co := CO.out.below rg.below (by omega)
    have k0 : wc.cell? ⟨w.heap.size, 0, none⟩ = some (.int .i64 oa) := by simp [co.cell]
    have lk0 := co.lt
    have hmr := tam_range 4 oa (by omega)
    obtain ⟨p1, p2⟩ := tam_i64 4 oa (by omega) (by omega)
    obtain ⟨p3, p4⟩ := tam_wraps 4 oa (by omega) (by omega)
    obtain ⟨m, hme⟩ : ∃ m, m = tam 4 oa := ⟨_, rfl⟩
    rw [← hme] at hmr p1 p2 p3 p4
    obtain ⟨q, hq⟩ : ∃ q, m.tmod 4 = q := ⟨_, rfl⟩
    obtain ⟨hq0, hq3, hmq⟩ := other_ne hmr hq
    have q1 : IntKind.i64.wrap q = q := IntWalk.i64_in _ (by omega)
    have q2 : IntKind.i64.wrap (1 + q) = 1 + q := IntWalk.i64_in _ (by omega)
    have q3 : wrap64 q = q := by unfold wrap64; rw [← IntKind.wrap_i64]; exact q1
    have q4 : wrap64 (1 + q) = 1 + q := by unfold wrap64; rw [← IntKind.wrap_i64]; exact q2
    have hvn : vs.length ≤ 1000 := by omega
    have hN9 : N ≤ 999 := by omega
    have hN15 : N ≤ 15 := by omega
    clear rg ht htl hN htN co hme
    go_wp2_with fail
    refine (version_reg RG.out HN1.out hN9).mono ?_
    rintro e w3 ⟨rfl, hb3⟩
    have R3 := hid (RG.out.after hsz hb3)
    have hz3 := hb3.size
    clear hb3
    go_wp2_with fail
    refine (holds_ver R3.out hvn HTN.out m ⟨by omega, by omega⟩).mono ?_
    rintro e w4 ⟨uh, rfl, oh, hb4⟩
    have R4 := hid (R3.out.after (by omega) hb4)
    have hz4 := hb4.size
    obtain ⟨HL, hHL⟩ : ∃ HL, HL = (inT t).filter (fun p => ownB m p.cell) := ⟨_, rfl⟩
    rw [← hHL] at oh
    obtain ⟨pH, capH, bH, rfl, hpH, hcH⟩ := HoldsV.cells oh
    have HPH := hid hpH
    have HCH := hid hcH
    have HHL := hid hHL
    have hHn : HL.length ≤ 31 := by
      rw [hHL, inT_own]
      exact Nat.le_trans (List.length_filter_le _ _) HTL.out
    obtain ⟨nh, hnh⟩ : ∃ nh, nh = HL.length := ⟨_, rfl⟩
    have HNH := hid hnh
    rw [← hnh] at HPH hHn ⊢
    have R4H := hid (show sB < w3.heap.size ∧ vB < w3.heap.size from R3.out.st.lt)
    clear oh hpH hcH hHL hnh hb4 R3
    go_upto_block 2 with fail
    go_cut [12] (fun s12 wx => ∃ (vB9 : Nat) (vs9 : List T) (t9 : T), Reg W0.heap.size W0 wx sB vB9 vs9 ∧ vs9.getLast? = some t9 ∧ t9.toList = t.toList ∧ vs9.length ≤ N + 1 + 4 * 31 ∧ vs9[N]? = some t)
    case first =>
      go_wp2_with fail
      go_loopg [12] nh (fun k s12 wr => ∃ (i vB9 : Nat) (vs9 : List T) (t9 : T), i + k = nh ∧ s12 = .int .i64 i ∧ Reg W0.heap.size W0 wr sB vB9 vs9 ∧ vs9.getLast? = some t9 ∧ t9.toList = t.toList ∧ vs9.length ≤ N + 1 + 4 * i ∧ vs9[N]? = some t ∧ (0 < nh → bH ≠ vB9 ∧ wr.heap[bH]? = w4.heap[bH]?) ∧ w4.heap.size ≤ wr.heap.size)
      case atStart => exact ⟨0, vB, vs, t, by omega, rfl, R4.out, HT.out, rfl, by have := HN1.out; omega, HTN.out, fun h0 => ⟨by obtain ⟨_, h1, _⟩ := HPH.out h0; have := R4H.out; omega, rfl⟩, Nat.le_refl _⟩
      case round =>
        obtain ⟨i, vB9, vs9, t9, hik, rfl, rg, ht, htl, hvs9, htn, hbk, hz⟩ := hrel
        have RG9 := hid rg
        have LL9 := hid ht
        have TR9 := hid (rg.tr (List.mem_of_getLast? ht))
        have HT9 := hid htl
        have HTN9 := hid htn
        have HBK := hid hbk
        have hB9 := rg.below.size
        by_cases hi : i < nh
        · have g1 : decide ((i : Int) < (nh : Int)) = true := by simpa using hi
          have hiH : i < HL.length := by rw [← HNH.out]; exact hi
          obtain ⟨rfl, hbH3, hbH4⟩ := HPH.out (by omega)
          obtain ⟨nb9, kb9⟩ := hbk (by omega)
          have KB9 := hid kb9
          obtain ⟨P, hP⟩ : ∃ P, P = HL[i] := ⟨_, rfl⟩
          have FH := hid (fun (wx : World) (hx : wx.heap[bH]? = w4.heap[bH]?) => hold_cells hx (HCH.out i hiH))
          rw [← hP] at FH
          have hPm : P ∈ HL := by rw [hP]; exact List.getElem_mem hiH
          rw [HHL.out, inT_own] at hPm
          obtain ⟨hPt, hPo⟩ := List.mem_filter.1 hPm
          have hPo2 : P.cell.state = 1 ∧ P.cell.owner = m := by simpa [ownB] using hPo
          have gP := TR.out.tiles.mem P hPt
          obtain ⟨a, hae⟩ : ∃ a, a = P.from_ := ⟨_, rfl⟩
          obtain ⟨c, hce⟩ : ∃ c, c = P.to - P.from_ + 1 := ⟨_, rfl⟩
          have hac : 1 ≤ a ∧ 1 ≤ c ∧ a + c - 1 ≤ 1000000 := by omega
          have SPP := hid (show ∀ n, a ≤ n → n ≤ a + c - 1 → valL t9.toList n = P.cell from fun n n1 n2 => by rw [HT9.out]; exact TR.out.tiles.val P hPt n (by omega) (by omega))
          obtain ⟨c0, c1, c2, c3, c4⟩ := FH.out wr kb9
          rw [← hce, ← hae] at FH
          rw [← hae] at c0
          rw [← hce] at c1
          have i64 : IntKind.i64.wrap ((i : Int) + 1) = (i : Int) + 1 := IntWalk.i64_in _ (by omega)
          have hls9 := RG9.out.ls
          have hbs : bH ≠ sB := by have := R4H.out; omega
          have lb9 : bH < wr.heap.size := Nat.lt_of_lt_of_le hbH4 hz
          have zz9 := hz
          have hn9 : vs9.length ≤ 1000 := by omega
          have hm1 : 1 ≤ m ∧ m ≤ 1000 := by omega
          have ho1 : 1 ≤ 1 + q ∧ 1 + q ≤ 1000 := by omega
          clear rg ht htl htn hbk kb9 hP hPm hPt hPo hae hce gP
          by_cases hh : P.cell.holder = 0
          · have f1 : (P.cell.holder != 0) = false := by simpa using hh
            have SS9 := hid (And.intro (show Sp t9 a c ⟨1, P.cell.lot, m, 0⟩ from fun n n1 n2 => by rw [SPP.out n n1 n2, ← hPo2.1, ← hPo2.2, ← hh]) (Off.refl t9 a c))
            rw [hh] at c4
            clear hh hPo2
            go_wp2_with fail
            refine (move_reg RG9.out hB9 hn9 LL9.out a c m (1 + q)).mono ?_
            rintro e w11 ⟨rfl, us11, uB11, rg11, tu11, _, g11⟩
            have z11 := move_zero TR9.out hac hm1 ho1 hmq SS9.out.1
            rw [z11] at g11 ⊢
            obtain ⟨u11, t11, e11, l11⟩ := g11 rfl
            have RR11 := hid rg11
            have EE11 := hid e11
            have TT11 := hid (rg11.tr (show t11 ∈ us11 by rw [e11]; simp))
            have LL11 := hid (show us11.getLast? = some t11 by rw [e11]; simp)
            have SS11 := hid (Sp.step TR9.out SS9.out.1 hac l11)
            have KB11 := hid (show w11.heap[bH]? = w4.heap[bH]? from (tu11.block bH lb9 hbs nb9).trans KB9.out)
            have zz11 : w4.heap.size ≤ w11.heap.size := Nat.le_trans zz9 tu11.size
            have nb11 : bH ≠ uB11 := by rcases u11 with h | h; (rw [h]; exact nb9); (exact fun e => by have := hbH4; omega)
            have ln11 : us11.length = vs9.length + 1 := by rw [e11, List.length_append]; rfl
            have lb11 : bH < w11.heap.size := Nat.lt_of_lt_of_le hbH4 zz11
            have hB11 : W0.heap.size ≤ w11.heap.size := rg11.below.size
            obtain ⟨c0, c1, c2, c3, c4⟩ := FH.out w11 KB11.out
            clear z11 rg11 tu11 g11 e11 l11 u11
            go_wp2_with fail
            refine (move_reg RR11.out hB11 (by omega) LL11.out a c (1 + q) m).mono ?_
            rintro e w12 ⟨rfl, us12, uB12, rg12, tu12, _, g12⟩
            have z12 := move_zero TT11.out hac ho1 hm1 (fun e => hmq e.symm) SS11.out.1
            rw [z12] at g12 ⊢
            obtain ⟨u12, t12, e12, l12⟩ := g12 rfl
            have RR12 := hid rg12
            have EE12 := hid e12
            have TT12 := hid (rg12.tr (show t12 ∈ us12 by rw [e12]; simp))
            have LL12 := hid (show us12.getLast? = some t12 by rw [e12]; simp)
            have SS12 := hid (Sp.step TT11.out SS11.out.1 hac l12)
            have KB12 := hid (show w12.heap[bH]? = w4.heap[bH]? from (tu12.block bH lb11 hbs nb11).trans KB11.out)
            have zz12 : w4.heap.size ≤ w12.heap.size := Nat.le_trans zz11 tu12.size
            have nb12 : bH ≠ uB12 := by rcases u12 with h | h; (rw [h]; exact nb11); (exact fun e => by have := hbH4; omega)
            have ln12 : us12.length = us11.length + 1 := by rw [e12, List.length_append]; rfl
            have lb12 : bH < w12.heap.size := Nat.lt_of_lt_of_le hbH4 zz12
            have hB12 : W0.heap.size ≤ w12.heap.size := rg12.below.size
            obtain ⟨c0, c1, c2, c3, c4⟩ := FH.out w12 KB12.out
            clear z12 rg12 tu12 g12 e12 l12 u12
            go_wp2_with fail
            refine (pledge_reg RR12.out hB12 (by omega) LL12.out a c m (1 + q)).mono ?_
            rintro e w13 ⟨rfl, us13, uB13, rg13, tu13, _, g13⟩
            have z13 := pledge_zero TT12.out hac hm1 ho1 SS12.out.1
            rw [z13] at g13 ⊢
            obtain ⟨u13, t13, e13, l13⟩ := g13 rfl
            have RR13 := hid rg13
            have EE13 := hid e13
            have TT13 := hid (rg13.tr (show t13 ∈ us13 by rw [e13]; simp))
            have LL13 := hid (show us13.getLast? = some t13 by rw [e13]; simp)
            have SS13 := hid (Sp.step TT12.out SS12.out.1 hac l13)
            have KB13 := hid (show w13.heap[bH]? = w4.heap[bH]? from (tu13.block bH lb12 hbs nb12).trans KB12.out)
            have zz13 : w4.heap.size ≤ w13.heap.size := Nat.le_trans zz12 tu13.size
            have nb13 : bH ≠ uB13 := by rcases u13 with h | h; (rw [h]; exact nb12); (exact fun e => by have := hbH4; omega)
            have ln13 : us13.length = us12.length + 1 := by rw [e13, List.length_append]; rfl
            have lb13 : bH < w13.heap.size := Nat.lt_of_lt_of_le hbH4 zz13
            have hB13 : W0.heap.size ≤ w13.heap.size := rg13.below.size
            obtain ⟨c0, c1, c2, c3, c4⟩ := FH.out w13 KB13.out
            clear z13 rg13 tu13 g13 e13 l13 u13
            go_wp2_with fail
            refine (release_reg RR13.out hB13 (by omega) LL13.out a c (1 + q)).mono ?_
            rintro e w14 ⟨rfl, us14, uB14, rg14, tu14, _, g14⟩
            have z14 := release_zero TT13.out hac ho1 SS13.out.1
            rw [z14] at g14 ⊢
            obtain ⟨u14, t14, e14, l14⟩ := g14 rfl
            have RR14 := hid rg14
            have EE14 := hid e14
            have TT14 := hid (rg14.tr (show t14 ∈ us14 by rw [e14]; simp))
            have LL14 := hid (show us14.getLast? = some t14 by rw [e14]; simp)
            have SS14 := hid (Sp.step TT13.out SS13.out.1 hac l14)
            have KB14 := hid (show w14.heap[bH]? = w4.heap[bH]? from (tu14.block bH lb13 hbs nb13).trans KB13.out)
            have zz14 : w4.heap.size ≤ w14.heap.size := Nat.le_trans zz13 tu14.size
            have nb14 : bH ≠ uB14 := by rcases u14 with h | h; (rw [h]; exact nb13); (exact fun e => by have := hbH4; omega)
            have ln14 : us14.length = us13.length + 1 := by rw [e14, List.length_append]; rfl
            have lb14 : bH < w14.heap.size := Nat.lt_of_lt_of_le hbH4 zz14
            have hB14 : W0.heap.size ≤ w14.heap.size := rg14.below.size
            obtain ⟨c0, c1, c2, c3, c4⟩ := FH.out w14 KB14.out
            clear z14 rg14 tu14 g14 e14 l14 u14

            obtain ⟨L, hL, hLt⟩ := RG9.out.short LL9.out
            obtain ⟨V, hV⟩ : ∃ V, V = L + 4 := ⟨_, rfl⟩
            obtain ⟨L3, hL3⟩ : ∃ L3, L3 = L + 3 := ⟨_, rfl⟩
            obtain ⟨L2, hL2⟩ : ∃ L2, L2 = L + 2 := ⟨_, rfl⟩
            obtain ⟨L1, hL1⟩ : ∃ L1, L1 = L + 1 := ⟨_, rfl⟩
            have APP := hid (show us14.length = V + 1 ∧ us14[L]? = some t9 ∧ us14[L1]? = some t11 ∧ us14[L2]? = some t12 ∧ us14[L3]? = some t13 ∧ us14[V]? = some t14 by
              have h := app4 (u := t11) (v := t12) (x := t13) (y := t14) hL hLt
              rw [EE14.out, EE13.out, EE12.out, EE11.out, hV, hL1, hL2, hL3]
              exact h)
            have KN14 := hid (show us14[N]? = some t by
              have h0 : N < vs9.length := (List.getElem?_eq_some_iff.1 HTN9.out).1
              rw [EE14.out, EE13.out, EE12.out, EE11.out]
              simp only [List.append_assoc, List.cons_append, List.nil_append]
              rw [List.getElem?_append_left h0]
              exact HTN9.out)
            have DFS := hid (round_diffs TR9.out TT11.out TT12.out TT13.out TT14.out hac hmq (by omega) SS9.out.1 SS11.out.1 SS12.out.1 SS13.out.1 SS14.out.1 SS11.out.2 SS12.out.2 SS13.out.2 SS14.out.2)
            have W4 : IntKind.i64.wrap ((V : Int) - 4) = (L : Int) := by rw [IntWalk.i64_in _ (by omega)]; omega
            have W3 : IntKind.i64.wrap ((V : Int) - 3) = (L1 : Int) := by rw [IntWalk.i64_in _ (by omega)]; omega
            have W2 : IntKind.i64.wrap ((V : Int) - 2) = (L2 : Int) := by rw [IntWalk.i64_in _ (by omega)]; omega
            have W1 : IntKind.i64.wrap ((V : Int) - 1) = (L3 : Int) := by rw [IntWalk.i64_in _ (by omega)]; omega
            have hV9 : V ≤ 999 := by omega
            have hn14 : us14.length ≤ 1000 := by omega
            have FVE := hid hV
            clear hL hV hL1 hL2 hL3 hLt EE11 EE12 EE13 EE14 SS9 SS11 SS12 SS13 SS14
            go_wp2_with fail
            refine (version_reg RR14.out APP.out.1 hV9).mono ?_
            rintro e w15 ⟨rfl, hb15⟩
            have RR15 := hid (RR14.out.after hB14 hb15)
            have zz15 := hb15.size
            have KB15 := hid (show w15.heap[bH]? = w4.heap[bH]? from (hb15.block bH lb14).trans KB14.out)
            have lb15 : bH < w15.heap.size := by omega
            have hB15 : W0.heap.size ≤ w15.heap.size := by omega
            clear hb15
            go_wp2_with fail
            refine (changed_ver RR15.out hn14 APP.out.2.1 APP.out.2.2.2.2.2).mono ?_
            rintro e w16 ⟨uA, rfl, ow16, hb16⟩
            rw [DFS.out.2.1] at ow16
            obtain ⟨pA, capA, rfl⟩ := spans_none ow16
            have RR16 := hid (RR15.out.after hB15 hb16)
            have zz16 := hb16.size
            have KB16 := hid (show w16.heap[bH]? = w4.heap[bH]? from (hb16.block bH lb15).trans KB15.out)
            have lb16 : bH < w16.heap.size := by omega
            have hB16 : W0.heap.size ≤ w16.heap.size := by omega
            clear hb16 ow16
            go_wp2_with fail
            refine (changed_ver RR16.out hn14 APP.out.2.1 APP.out.2.2.1).mono ?_
            rintro e w17 ⟨uB, rfl, ow17, hb17⟩
            rw [DFS.out.2.2.1] at ow17
            obtain ⟨gB, capB, rfl, gb1, gb2, gb3, gb4⟩ := spans_one ow17
            have RR17 := hid (RR16.out.after hB16 hb17)
            have zz17 := hb17.size
            have KB17 := hid (show w17.heap[bH]? = w4.heap[bH]? from (hb17.block bH lb16).trans KB16.out)
            have lb17 : bH < w17.heap.size := by omega
            have hB17 : W0.heap.size ≤ w17.heap.size := by omega
            clear hb17 ow17
            go_wp2_with fail
            refine (changed_ver RR17.out hn14 APP.out.2.2.2.2.1 APP.out.2.2.2.1).mono ?_
            rintro e w18 ⟨uC, rfl, ow18, hb18⟩
            rw [DFS.out.2.2.2] at ow18
            obtain ⟨gC, capC, rfl, gc1, gc2, gc3, gc4⟩ := spans_one ow18
            have RR18 := hid (RR17.out.after hB17 hb18)
            have zz18 := hb18.size
            have hB18 : W0.heap.size ≤ w18.heap.size := by omega
            have KB18 := hid (show w18.heap[bH]? = w4.heap[bH]? from (hb18.block bH lb17).trans KB17.out)
            have gb5 : w18.cell? ⟨gB, 0, none⟩ = some (.int .i64 a) := (hb18.cell (p := ⟨gB, 0, none⟩) gb2).trans gb3
            have gb6 : w18.cell? ⟨gB, 1, none⟩ = some (.int .i64 c) := (hb18.cell (p := ⟨gB, 1, none⟩) gb2).trans gb4
            have he : ∀ w, (Op.equalIn 10000 37 (.agg #[.int .i64 a, .int .i64 c]) (.agg #[.int .i64 a, .int .i64 c])).run Try.prog w = .ok true w := fun w => (run_eqSpan a c a c w).trans (by simp)
            obtain ⟨c0, c1, c2, c3, c4⟩ := FH.out w18 KB18.out
            clear hb18 ow18 gb3 gb4
            go_upto_block 7 with fail
            have n2 : (0 : Int) ≤ (i : Int) := by omega
            have n3 : (i : Int) < (nh : Int) := by omega
            go_big_quiet (fail)
            go_wp2
            go_roundg (gk - 1)
            case measure => omega
            case rel => exact ⟨i + 1, uB14, us14, t14, by omega, rfl, RR18.out.after hB18 (drewN_below (Below.refl _ _) nq), LL14.out, DFS.out.1.trans HT9.out, by omega, KN14.out, fun _ => ⟨nb14, KB18.out⟩, by rw [World.heap_drewN]; omega⟩
          · have f1 : (P.cell.holder != 0) = true := by simpa using hh
            clear hh hPo2
            go_wp2
            go_roundg (gk - 1)
            case measure => omega
            case rel => exact ⟨i + 1, vB9, vs9, t9, by omega, rfl, RG9.out, LL9.out, HT9.out, by omega, HTN9.out, HBK.out, hz⟩
        · have g1 : decide ((i : Int) < (nh : Int)) = false := by simpa using hi
          clear rg ht htl htn hbk
          go_wp2
          go_meet
          case rel => exact ⟨vB9, vs9, t9, RG9.out, LL9.out, HT9.out, by omega, HTN9.out⟩
    case rest =>
      obtain ⟨vB9, vs9, t9, rg, ht, htl, hvs9, htn⟩ := hcut
      have RG9 := hid rg
      have hB9 := rg.below.size
      obtain ⟨L, hL, hLt⟩ := rg.short ht
      have HLL := hid hL
      have HLT := hid hLt
      have HTN9 := hid htn
      have DD := hid (diff_same TR.out (rg.tr (List.mem_of_getLast? ht)) htl)
      have hn9 : vs9.length ≤ 1000 := by omega
      have hL9 : L ≤ 999 := by omega
      clear rg ht htl htn hL hLt
      go_wp2_with fail
      refine (version_reg RG9.out HLL.out hL9).mono ?_
      rintro e w21 ⟨rfl, hb21⟩
      have RG21 := hid (RG9.out.after hB9 hb21)
      have hz21 := hb21.size
      clear hb21
      go_wp2_with fail
      refine (changed_ver RG21.out hn9 HTN9.out HLT.out).mono ?_
      rintro e w22 ⟨u, rfl, ow22, hb22⟩
      rw [DD.out] at ow22
      obtain ⟨pA, capA, rfl⟩ := spans_none ow22
      have BW := hid ((BO.out.trans (RG21.out.below.mono BO.out.size)).trans (hb22.mono (by have := BO.out.size; omega)))
      clear hb22 ow22
      have g5 : decide ((0 : Int) = 0) = true := by simp
      go_wp2_with fail
      refine (awake_calls _).mono ?_
      rintro e w23 ⟨rfl, hb23⟩
      have BF := hid (BW.out.trans (hb23.mono BW.out.size))
      clear hb23
      go_wp2
      exact bodyPost_ret (v := .bool true) (by simp [results, Try.results11, go_sem]) rfl ⟨rfl, BF.out⟩
end Go.Proofs.Ytnnbdjfeagcbdaa
