/- TopMarkets: the walk. -/
import Derived.Test.YtepldjidkomclaaGreatJT2
import Derived.Test.YtepldjidkomclaaGreatJBNew
import Derived.Test.YtepldjidkomclaaGreatJCZnw
import Derived.Test.YtepldjidkomclaaGreatJCPr0
namespace Go.Proofs.YtepldjidkomclaaGreat
set_option linter.unusedSimpArgs false
set_option linter.unusedVariables false
open Go.RowKit
attribute [local go_sem] Oper.semAt_some
attribute [local go_sem ↓] Go.wp_at_zero Go.wp_at_succ
theorem clear50 {O : List Ca.Bd} (hl : O.length ≤ 4096) (hok : ∀ b ∈ O, b.ok) :
    (Ca.most O = 0 ∧ Ca.clearF O 50 2 = ⟨0, 0, 0, [], 30⟩) ∨ (Ca.most O ≠ 0 ∧ ∃ p v s, Ca.clearF O 50 2 = ⟨p, v, s, Ca.fillsL O (Ca.priceZ (Ca.zonesL O) 50) (min (Ca.dem O (Ca.priceZ (Ca.zonesL O) 50)) (Ca.sup O (Ca.priceZ (Ca.zonesL O) 50))) 2, 0⟩) := by
  have e := Ca.clearF_eq hl hok (x := 50) (rule := 2) (by omega) (.inr rfl)
  by_cases hm : Ca.most O = 0
  · exact .inl ⟨hm, by rw [e, if_pos (.inl (Ca.price_zero hok hl 50 hm))]⟩
  · obtain ⟨z, hz, _, h1, h2, h3⟩ := Ca.price_best hok hl 50 hm
    obtain ⟨z1, z2, z3, _⟩ := (Ca.zonesL_ok hl hok).1 z (Ca.keptF_sub _ (Ca.keptF_sub _ hz))
    refine .inr ⟨hm, Ca.priceZ (Ca.zonesL O) 50, min (Ca.dem O (Ca.priceZ (Ca.zonesL O) 50)) (Ca.sup O (Ca.priceZ (Ca.zonesL O) 50)), Ca.dem O (Ca.priceZ (Ca.zonesL O) 50) - Ca.sup O (Ca.priceZ (Ca.zonesL O) 50), ?_⟩
    rw [e, if_neg]
    rintro (q | q)
    · omega
    · unfold Ca.volX at h3; omega
theorem upd_two {L : List Int} {e : Bo.Ev} (h1 : e.w = 1) {i kx k : Nat} (h2 : e.o = (i : Int) + 1) (h3 : e.x = (kx : Int) + 1) (hk : k < L.length) : (updT L e).getD k 0 = L.getD k 0 + (if k = i then e.q else 0) + (if k = kx then e.q else 0) := by
  unfold updT
  rw [if_pos h1, addAt_get (by omega) (by rw [addAt_len]; exact hk), addAt_get (by omega) hk]
  have q1 : (e.o - 1 = (k : Int)) ↔ (k = i) := by omega
  have q2 : (e.x - 1 = (k : Int)) ↔ (k = kx) := by omega
  simp only [q1, q2]
/-- The board, the bids and the fills in memory. -/
structure TmC (w0 : World) (O : List Ca.Bd) (pO : Option Addr) (n cO b g : Nat) (N : Int) (col : Nat → Nat) (G : Bo.Mm) (last : Int) (f : Nat → Int) (wx : World) : Prop where
  bd : Bo.BdC col 0 wx b G N last []
  own : Ca.RowC w0.heap.size wx (.slice pO n cO) O
  ocol : ∀ k, (Value.slice pO n cO).ownBlock = some k → col k = 0 ∧ k ≠ g
  row : Ca.RowL wx g n f
  rcol : col g = 0
  below : Below w0.heap.size w0 wx
  low : ∀ k, k < w0.heap.size → col k = 0
  gge : w0.heap.size ≤ g
section
variable {w0 : World} {O : List Ca.Bd} {pO : Option Addr} {n cO b g : Nat} {N : Int} {col : Nat → Nat} {G : Bo.Mm} {last : Int} {f : Nat → Int} {wx wy : World}
theorem TmC.on (h : TmC w0 O pO n cO b g N col G last f wx) (hb : Below wx.heap.size wx wy) : TmC w0 O pO n cO b g N col G last f wy :=
  ⟨h.bd.step (C := fun _ => False) ⟨hb.os, hb.tape, hb.output, hb.size, fun k hk _ => ⟨hb.block k hk, rfl⟩, fun _ _ h => h.elim⟩ (fun _ _ => not_false), OwnE.below h.own hb, h.ocol, h.row.kept (Kept.of_below (X := fun _ => False) hb) id, h.rcol, h.below.trans (hb.mono h.below.size), h.low, h.gge⟩
theorem TmC.put (h : TmC w0 O pO n cO b g N col G last f wx) (j : Nat) (v : Int) : TmC w0 O pO n cO b g N col G last (fun k => if k = j then v else f k) (wx.setCell ⟨g, j, none⟩ (.int .i64 v)) := by
  have hk : Kept (fun c => c = g) wx (wx.setCell ⟨g, j, none⟩ (.int .i64 v)) := (Kept.refl (fun c => c = g) wx).set (C := g) rfl j _
  have st : Bo.Step (fun c => c = 0) col wx col (wx.setCell ⟨g, j, none⟩ (.int .i64 v)) := Bo.Step.set h.rcol j _
  have hg := h.gge
  exact ⟨h.bd.step st (fun x hx e => by have := hx.1; omega), OwnE.kept h.own hk (fun k hk e => (h.ocol k hk).2 e), h.ocol, h.row.set j v, h.rcol, h.below.trans (hk.below h.below.size (fun k e => by omega)), h.low, h.gge⟩
theorem TmC.move (h : TmC w0 O pO n cO b g N col G last f wx) {col' : Nat → Nat} {G' : Bo.Mm} {N' last' : Int} (st : Bo.Step (Bo.colB 0) col wx col' wy) (bd : Bo.BdC col' 0 wy b G' N' last' []) : TmC w0 O pO n cO b g N' col' G' last' f wy := by
  have n0 : ∀ k, col k = 0 → ¬ Bo.colB 0 (col k) := fun k e q => by rw [e] at q; exact absurd q.1 (by omega)
  obtain ⟨l1, l2⟩ := Step_low st h.below.size h.low
  refine ⟨bd, OwnE.kept h.own st.kept (fun k hk => n0 k (h.ocol k hk).1), fun k hk => ⟨?_, (h.ocol k hk).2⟩, h.row.kept st.kept (n0 g h.rcol), ?_, h.below.trans l1, l2, h.gge⟩
  · have hlt : k < wx.heap.size := by
      obtain ⟨p, cap, e, q⟩ := OwnE.form h.own
      injection e with e1 e2 e3
      subst e1
      rcases q with ⟨rfl, _⟩ | ⟨g', rfl, _, hlt⟩
      · cases hk
      · simp [Value.ownBlock] at hk; omega
    rw [(st.old k hlt (n0 k (h.ocol k hk).1)).2]; exact (h.ocol k hk).1
  · rw [(st.old g h.row.lt (n0 g h.rcol)).2]; exact h.rcol
/-- The cells of a bid. -/
theorem TmC.bid (h : TmC w0 O pO n cO b g N col G last f wx) {i : Nat} (hi : i < O.length) {bo : Nat} (hp : pO = some ⟨bo, 0, none⟩) : wx.cell? ⟨bo, i * 3, none⟩ = some (.int .i64 (Ca.bAt O i).s) ∧ wx.cell? ⟨bo, i * 3 + 1, none⟩ = some (.int .i64 (Ca.bAt O i).p) ∧ wx.cell? ⟨bo, i * 3 + 2, none⟩ = some (.int .i64 (Ca.bAt O i).q) := by
  have ho := h.own
  subst hp
  obtain ⟨_, _, _, hcell⟩ := OwnE.cellsAt Ca.encBd_len ho
  rw [Ca.bAt_get hi]
  have h0 := hcell i hi 0 (by omega)
  have h1 := hcell i hi 1 (by omega)
  have h2 := hcell i hi 2 (by omega)
  exact ⟨h0, h1, h2⟩
theorem TmC.point (h : TmC w0 O pO n cO b g N col G last f wx) (h0 : 0 < O.length) : ∃ bo, pO = some ⟨bo, 0, none⟩ := by
  obtain ⟨p, cap, e, q⟩ := OwnE.form h.own
  injection e with e1 e2 e3
  subst e1
  rcases q with ⟨_, e⟩ | ⟨g', e, _⟩
  · rw [e] at h0; simp at h0
  · exact ⟨g', e⟩
end

set_option maxRecDepth 100000 in
set_option maxHeartbeats 20000000 in
theorem markets_law (w : World) (v : Value) (l : List Ca.Bd) (hv : ReadsE Ca.encBd 3 w v l) :
    Calls Tryz.prog 3 #[v] w fun e w' => e = .returned (.bool true) ∧ Below w.heap.size w w' := by
  obtain ⟨R, hR⟩ : ∃ R : Ending → World → Prop, R = fun e w' => e = .returned (.bool true) ∧ Below w.heap.size w w' := ⟨_, rfl⟩
  rw [← hR]
  have FN := hid (show ∀ w', Below w.heap.size w w' → R (.returned (.bool true)) w' from fun w' h => by rw [hR]; exact ⟨rfl, h⟩)
  clear hR
  have BI := hid (bids_calls hv 20 (by omega))
  clear hv
  go_enter Tryz.func3, Tryz.ntmps3
  go_wp2_with fail
  refine BI.out.mono ?_
  rintro e w2 ⟨v2, O, rfl, hr2, hOl, hOk, hb2⟩
  obtain ⟨pO, cO, hvO, hhO⟩ := hr2.form
  obtain ⟨n, hn⟩ : ∃ n, n = O.length := ⟨_, rfl⟩
  rw [← hn] at hvO hOl
  subst hvO
  have HN := hid hn
  have HOK := hid hOk
  have B2 := hid hb2
  have R2 := hid hr2
  have HHO := hid hhO
  have NW := hid (Bo.new_calls (fun _ => 0) 0 w2)
  clear hn hOk hb2 hr2 hhO BI
  go_wp2_with fail
  refine NW.out.mono ?_
  rintro e w3 ⟨O1, b, G1, rfl, bd1, hG, hb3, hO1⟩
  have hmk := Ca.mk_i64 w3 n (by omega)
  obtain ⟨w4, hw4⟩ : ∃ w4, w4 = w3.alloc (.cells (madeCells #[.int .i64 0] n) 2) := ⟨_, rfl⟩
  have b4 : Below w3.heap.size w3 w4 := by rw [hw4]; exact (Below.refl _ _).alloc (Nat.le_refl _) _
  obtain ⟨g, hg⟩ : ∃ g, g = w3.heap.size := ⟨_, rfl⟩
  have T4 := hid (show TmC w O pO n cO b g ((0 : Nat) : Int) (Bo.grow O1 w3 0) G1 0 (fun _ => 0) w4 by
    have hs2 := B2.out.size
    have hs3 := hb3.size
    refine ⟨bd1.step (C := fun _ => False) ⟨b4.os, b4.tape, b4.output, b4.size, fun k hk _ => ⟨b4.block k hk, Bo.grow_old hk⟩, fun _ _ h => h.elim⟩ (fun _ _ => not_false), OwnE.below R2.out (hb3.trans (b4.mono hb3.size)), fun k hk => ?_, by rw [hg, hw4]; exact Ca.RowL.made w3 n, Bo.grow_new (by omega), B2.out.trans ((hb3.trans (b4.mono hb3.size)).mono B2.out.size), fun k hk => ?_, by omega⟩
    · have hlt : k < w2.heap.size := by
        rcases HHO.out with ⟨rfl, _⟩ | ⟨g', rfl, _, hlt⟩
        · cases hk
        · simp [Value.ownBlock] at hk; omega
      exact ⟨by rw [Bo.grow_old (by omega)]; exact hO1 k hlt, by omega⟩
    · rw [Bo.grow_old (by omega)]; exact hO1 k (by omega))
  have S4 := hid (show StT O 0 (G1.bd ((0 : Nat) : Int) 0) (List.replicate O.length 0) from StT.start bd1.ok (by rw [show ((0 : Nat) : Int) = 0 from rfl, hG]) (by rw [show ((0 : Nat) : Int) = 0 from rfl, hG]; rfl))
  have HW4 := hid hw4
  clear bd1 hG hb3 hO1 NW b4 hw4
  go_upto_region 6 with fail
  rw [← HW4.out, ← hg]
  clear hmk hg
  go_upto_region 7 with fail
  go_loopg [6] n (fun k s6 wx => ∃ (i : Nat) (col : Nat → Nat) (G : Bo.Mm) (last : Int) (f : Nat → Int) (L : List Int), i + k = n ∧ s6 = .int .i64 i ∧ TmC w O pO n cO b g (i : Int) col G last f wx ∧ StT O i (G.bd (i : Int) last) L ∧ ∀ k, k < n → f k = L.getD k 0)
  case atStart => exact ⟨0, _, _, _, _, _, by omega, rfl, T4.out, S4.out, fun k _ => by simp [List.getD_eq_getElem?_getD, List.getElem?_replicate]; split <;> rfl⟩
  case round =>
    obtain ⟨i, col, G, last, f, L, hik, rfl, tm, st, hf⟩ := hrel
    have HIK := hid hik
    have TM := hid tm
    have ST := hid st
    have HF := hid hf
    clear hik tm st hf T4 S4
    by_cases hin : i < n
    · have hil : i < O.length := by rw [← HN.out]; exact hin
      have hl9 : O.length ≤ 900 := by rw [← HN.out]; omega
      obtain ⟨bo, rfl⟩ := TM.out.point (by omega)
      have CE := hid (fun N' col' G' last' f' wx (h : TmC w O (some ⟨bo, 0, none⟩) n cO b g N' col' G' last' f' wx) => h.bid hil rfl)
      obtain ⟨c0, c1, c2⟩ := CE.out _ _ _ _ _ _ TM.out
      have stp := ST.out.step HOK.out hl9 hil
      obtain ⟨e0, ev1, st1⟩ := stp
      have E0 := hid e0
      have EV1 := hid ev1
      have ST1 := hid st1
      have PB := hid (fun j k hk => ST.out.part HOK.out hl9 hil j (k := k) hk)
      have hnums : (G.bd (i : Int) last).nums = i := ST.out.nums
      have EN := hid (fun wx (hb : Below wr.heap.size wr wx) => Bo.enter_calls (TM.out.on hb).bd (ordT O i) (by omega) (Bo.live_size ST.out.ok (N := i) (by rw [hnums]; omega) (by omega)))
      have gi : (i : Int) < (n : Int) := by omega
      have gi0 : (0 : Int) ≤ (i : Int) := by omega
      have ei : IntKind.i64.wrap ((i : Int) + 1) = (i : Int) + 1 := IntWalk.i64_in _ (by omega)
      have ei2 : IntKind.i64.wrap ((i : Int) + 1 - 1) = (i : Int) := by rw [show (i : Int) + 1 - 1 = (i : Int) by omega]; exact IntWalk.i64_in _ (by omega)
      obtain ⟨evs, hevs⟩ : ∃ evs, evs = (Bo.enterF (G.bd (i : Int) last) (ordT O i)).2 := ⟨_, rfl⟩
      obtain ⟨S1, hS1⟩ : ∃ S1, S1 = (Bo.enterF (G.bd (i : Int) last) (ordT O i)).1 := ⟨_, rfl⟩
      rw [← hevs] at EV1 ST1 PB
      rw [← hS1] at ST1
      have HEVS := hid hevs
      have HS1 := hid hS1
      have EN2 := hid (show ∀ wx, Below wr.heap.size wr wx → Calls Tryz.prog 7 #[Bo.pt b, .agg #[.int .i64 ((i : Int) + 1), .int .i64 (Ca.bAt O i).s, .int .i64 1, .int .i64 1, .int .i64 (Ca.bAt O i).p, .int .i64 0, .int .i64 (Ca.bAt O i).q, .int .i64 0]] wx fun e w' => ∃ pv cv col' G' last', e = .returned (.tuple #[.int .i64 ((i : Int) + 1), .slice pv evs.length cv, .int .i64 0]) ∧ TmC w O (some ⟨bo, 0, none⟩) n cO b g ((i : Int) + 1) col' G' last' f w' ∧ OwnE Bo.encEv 5 36 0 w' (.slice pv evs.length cv) evs ∧ (∀ k, (Value.slice pv evs.length cv).ownBlock = some k → k ≠ g) ∧ G'.bd ((i : Int) + 1) last' = S1 from fun wx hb => (EN.out wx hb).mono fun e w' h => by
        rcases h with ⟨h1, _⟩ | ⟨_, v', col', G', last', h2, h3, h4, h5, h6, h7⟩
        · exact absurd E0.out h1
        · have tm' := (TM.out.on hb).move h7 h5
          rw [← HEVS.out] at h3
          obtain ⟨pv, cv, hv', _⟩ := OwnE.form h3
          subst hv'
          refine ⟨pv, cv, col', G', last', h2, tm', h3, fun k hk e => ?_, h6.trans HS1.out.symm⟩
          have := h4 k hk
          rw [e, tm'.rcol] at this
          omega)
      have NEB := hid (show evs.length ≤ 4000000000000 by
        have h := (Bo.enterF_ok ST.out.ok (by omega) (ordT_ok HOK.out hl9 hil)).2.2.2.2
        have h2 := Bo.live_size ST.out.ok (N := i) (by rw [hnums]; omega) (by omega)
        rw [← hevs] at h
        omega)
      clear e0 ev1 st1 hevs hS1 EN hnums
      obtain ⟨si, hsi⟩ : ∃ y, y = (Ca.bAt O i).s := ⟨_, rfl⟩
      obtain ⟨pi, hpi⟩ : ∃ y, y = (Ca.bAt O i).p := ⟨_, rfl⟩
      obtain ⟨qi, hqi⟩ : ∃ y, y = (Ca.bAt O i).q := ⟨_, rfl⟩
      rw [← hsi, ← hpi, ← hqi] at CE EN2
      rw [← hsi] at c0
      rw [← hpi] at c1
      rw [← hqi] at c2
      clear hsi hpi hqi
      go_upto_region 9 with fail
      go_cut [7, 8, 9] (fun s7 s8 s9 wx => ∃ pv cv col' G' last', s7 = .int .i64 ((i : Int) + 1) ∧ s8 = .slice pv evs.length cv ∧ s9 = .int .i64 0 ∧ TmC w O (some ⟨bo, 0, none⟩) n cO b g ((i : Int) + 1) col' G' last' f wx ∧ OwnE Bo.encEv 5 36 0 wx (.slice pv evs.length cv) evs ∧ (∀ k, (Value.slice pv evs.length cv).ownBlock = some k → k ≠ g) ∧ G'.bd ((i : Int) + 1) last' = S1)
      case first =>
        have CW := hid (show ∀ wh, Below wr.heap.size wr wh → wh.cell? ⟨bo, i * 3, none⟩ = some (.int .i64 si) ∧ wh.cell? ⟨bo, i * 3 + 1, none⟩ = some (.int .i64 pi) ∧ wh.cell? ⟨bo, i * 3 + 2, none⟩ = some (.int .i64 qi) from fun wh hb => CE.out _ _ _ _ _ _ (TM.out.on hb))
        go_region_held3 (fun wh => wh.cell? ⟨bo, i * 3, none⟩ = some (.int .i64 si) ∧ wh.cell? ⟨bo, i * 3 + 1, none⟩ = some (.int .i64 pi) ∧ wh.cell? ⟨bo, i * 3 + 2, none⟩ = some (.int .i64 qi))
          (first | exact CE.out _ _ _ _ _ _ tm5 | exact CW.out _ (Below.refl _ _) | exact CW.out _ (Below.refl _ _).drew | assumption)
          (first
            | (go_at_call 7; (with_reducible refine (EN2.out _ (Below.refl _ _).drew).mono ?_); rintro e w5 ⟨pv, cv, col', G', last', rfl, tm5, ho5, hd5, hs5⟩)
            | fail)
        all_goals go_wp2
        all_goals (
          go_meet
          exact ⟨pv, cv, col', G', last', rfl, rfl, rfl, tm5, ho5, hd5, hs5⟩)
      case rest =>
      obtain ⟨pv, cv, col', G', last', rfl, rfl, rfl, tm5, ho5, hd5, hs5⟩ := hcut
      have TM5 := hid tm5
      have HO5 := hid ho5
      have HD5 := hid hd5
      have HS5 := hid hs5
      obtain ⟨ne, hne⟩ : ∃ ne, ne = evs.length := ⟨_, rfl⟩
      rw [← hne] at HO5 HD5 ⊢
      have HNE := hid hne
      clear tm5 ho5 hd5 hs5 hne EN2 c0 c1 c2
      obtain ⟨w5, rfl⟩ : ∃ w5 : World, w5 = wc := ⟨_, rfl⟩
      have eii : ((i : Int) + 1 == (i : Int) + 1) = true := by simp
      have eii2 : ((i : Int) + 1 != (i : Int) + 1) = false := by simp
      go_upto_region 13 with fail
      go_loopg [10] ne (fun k s10 wx => ∃ (j : Nat) (f' : Nat → Int), j + k = ne ∧ s10 = .int .i64 j ∧ TmC w O (some ⟨bo, 0, none⟩) n cO b g ((i : Int) + 1) col' G' last' f' wx ∧ OwnE Bo.encEv 5 36 0 wx (.slice pv ne cv) evs ∧ ∀ k, k < n → f' k = ((evs.take j).foldl updT L).getD k 0)
      case atStart => exact ⟨0, f, by omega, rfl, TM5.out, HO5.out, fun k hk => by rw [List.take_zero]; exact HF.out k hk⟩
      case round =>
        obtain ⟨j, f', hjk, rfl, tm, ho, hf⟩ := hrel
        have HJK := hid hjk
        have TM := hid tm
        have HO := hid ho
        have HF' := hid hf
        clear hjk tm ho hf TM5 HO5
        by_cases hjn : j < ne
        · have hjl : j < evs.length := by rw [← HNE.out]; exact hjn
          have hpt : ∃ be, pv = some ⟨be, 0, none⟩ := by
            obtain ⟨p, cap, e, q⟩ := OwnE.form HO.out
            injection e with e1 e2 e3
            subst e1
            rcases q with ⟨_, e⟩ | ⟨g', e, _⟩
            · rw [e] at hjl; simp at hjl
            · exact ⟨g', e⟩
          obtain ⟨be, rfl⟩ := hpt
          obtain ⟨hnn, hbe, _, hcell⟩ := OwnE.cellsAt Bo.encEv_len HO.out
          clear hnn
          have hc0 := hcell j hjl 0 (by omega)
          have hc1 := hcell j hjl 1 (by omega)
          have hc2 := hcell j hjl 2 (by omega)
          have hc3 := hcell j hjl 3 (by omega)
          have hc4 := hcell j hjl 4 (by omega)
          have TK : evs.take (j + 1) = evs.take j ++ [evs[j]] := by rw [List.take_add_one, List.getElem?_eq_getElem hjl]; rfl
          have he := EV1.out evs[j] (List.getElem_mem hjl)
          obtain ⟨e, hx⟩ : ∃ e, e = evs[j] := ⟨_, rfl⟩
          rw [← hx] at hc0 hc1 hc2 hc3 hc4 TK he
          simp [Bo.encEv] at hc0 hc1 hc2 hc3 hc4
          have gj : (j : Int) < (ne : Int) := by omega
          have gj0 : (0 : Int) ≤ (j : Int) := by omega
          have gnb : (ne : Int) ≤ 4000000000000 := by have := NEB.out; have := HNE.out; omega
          have ej : IntKind.i64.wrap ((j : Int) + 1) = (j : Int) + 1 := IntWalk.i64_in _ (by omega)
          obtain ⟨wb, hwb⟩ : ∃ wb, wb = wr.alloc (.cells #[.int .i64 e.w, .int .i64 e.o, .int .i64 e.x, .int .i64 e.p, .int .i64 e.q] 36) := ⟨_, rfl⟩
          have BB := hid (show Below wr.heap.size wr wb by rw [hwb]; exact (Below.refl _ _).alloc (Nat.le_refl _) _)
          have CB := hid (show Cells wb wr.heap.size #[.int .i64 e.w, .int .i64 e.o, .int .i64 e.x, .int .i64 e.p, .int .i64 e.q] 36 by rw [hwb]; exact Cells.new wr _ _)
          have TB := hid (TM.out.on BB.out)
          have OB := hid (OwnE.below HO.out BB.out)
          have HWB := hid hwb
          have PBJ := hid (fun k hk => PB.out (j + 1) k hk)
          have FOLD := hid (show ((evs.take (j + 1)).foldl updT L) = updT ((evs.take j).foldl updT L) e by rw [TK, List.foldl_append]; rfl)
          have LEN := hid (show ((evs.take j).foldl updT L).length = O.length by rw [fold_len]; exact ST.out.len)
          clear hcell TK hx hwb
          rcases he with ⟨t1, t2, t3, kx, t4, t5, _⟩ | t1
          · have hkx : kx < O.length := by omega
            have hkxn : kx < n := by rw [HN.out]; exact hkx
            have hi1 := PBJ.out i hil
            have hk1 := PBJ.out kx hkx
            rw [FOLD.out] at hi1 hk1
            have fi := HF'.out i hin
            have fk := HF'.out kx hkxn
            have UP := hid (show ∀ k, k < n → (updT ((evs.take j).foldl updT L) e).getD k 0 = f' k + (if k = i then e.q else 0) + (if k = kx then e.q else 0) from fun k hk => by
              have hkl : k < ((evs.take j).foldl updT L).length := by rw [LEN.out, ← HN.out]; exact hk
              rw [HF'.out k hk]
              exact upd_two t1 t2 t5 hkl)
            have ui := UP.out i hin
            have uk := UP.out kx hkxn
            rw [if_pos rfl, if_neg (by omega)] at ui
            rw [if_neg (by omega), if_pos rfl] at uk
            rw [ui] at hi1
            rw [uk] at hk1
            clear fi fk ui uk
            have y0 : wb.cell? ⟨wr.heap.size, 0, none⟩ = some (.int .i64 1) := by rw [CB.out.cell, ← t1]; rfl
            have y1 : wb.cell? ⟨wr.heap.size, 1, none⟩ = some (.int .i64 ((i : Int) + 1)) := by rw [CB.out.cell, ← t2]; rfl
            have y2 : wb.cell? ⟨wr.heap.size, 2, none⟩ = some (.int .i64 ((kx : Int) + 1)) := by rw [CB.out.cell, ← t5]; rfl
            have y4 : wb.cell? ⟨wr.heap.size, 4, none⟩ = some (.int .i64 e.q) := by rw [CB.out.cell]; rfl
            have KB := hid (show ∀ wx, Below wb.heap.size wb wx → wx.cell? ⟨wr.heap.size, 2, none⟩ = some (.int .i64 ((kx : Int) + 1)) ∧ wx.cell? ⟨wr.heap.size, 4, none⟩ = some (.int .i64 e.q) from fun wx hb => by
              have c := CB.out.below hb CB.out.lt
              exact ⟨by rw [c.cell, ← t5]; rfl, by rw [c.cell]; rfl⟩)
            obtain ⟨q, hq⟩ : ∃ q, q = e.q := ⟨_, rfl⟩
            rw [← hq] at hi1 hk1 UP KB y4
            obtain ⟨ui, hui⟩ : ∃ u, u = f' i := ⟨_, rfl⟩
            obtain ⟨uk, huk⟩ : ∃ u, u = f' kx := ⟨_, rfl⟩
            rw [← hui] at hi1
            rw [← huk] at hk1
            have m0 : wb.cell? ⟨g, i, none⟩ = some (.int .i64 ui) := by rw [hui]; exact TB.out.row.cell hin
            have f0 := TB.out.row.froz i
            have l0 := TB.out.row.lt
            have ew1 : IntKind.i64.wrap (ui + q) = ui + q := IntWalk.i64_in _ (by omega)
            have ew2 : IntKind.i64.wrap (uk + q) = uk + q := IntWalk.i64_in _ (by omega)
            have ek : IntKind.i64.wrap ((kx : Int) + 1 - 1) = (kx : Int) := by rw [show (kx : Int) + 1 - 1 = (kx : Int) by omega]; exact IntWalk.i64_in _ (by omega)
            have gk0 : (0 : Int) ≤ (kx : Int) := by omega
            have gk : (kx : Int) < (n : Int) := by omega
            have gk1 : ¬ (kx : Int) + 1 < 1 := by omega
            have gk2 : ¬ (i : Int) + 1 ≤ (kx : Int) + 1 := by omega
            have hne1 : wr.heap.size ≠ g := by have := TM.out.row.lt; omega
            have hki : kx ≠ i := by omega
            have W1 := hid (show ∀ wx, Below wb.heap.size wb wx → TmC w O (some ⟨bo, 0, none⟩) n cO b g ((i : Int) + 1) col' G' last' (fun k => if k = i then ui + q else f' k) (wx.setCell ⟨g, i, none⟩ (.int .i64 (ui + q))) ∧ (wx.setCell ⟨g, i, none⟩ (.int .i64 (ui + q))).cell? ⟨wr.heap.size, 2, none⟩ = some (.int .i64 ((kx : Int) + 1)) ∧ (wx.setCell ⟨g, i, none⟩ (.int .i64 (ui + q))).cell? ⟨wr.heap.size, 4, none⟩ = some (.int .i64 q) ∧ OwnE Bo.encEv 5 36 0 (wx.setCell ⟨g, i, none⟩ (.int .i64 (ui + q))) (.slice (some ⟨be, 0, none⟩) ne cv) evs from fun wx hb => by
              obtain ⟨k2, k4⟩ := KB.out wx hb
              refine ⟨(TB.out.on hb).put i (ui + q), ?_, ?_, ?_⟩
              · rw [World.cell?_setCell_far _ _ _ _ (show g ≠ wr.heap.size from fun e => hne1 e.symm)]; exact k2
              · rw [World.cell?_setCell_far _ _ _ _ (show g ≠ wr.heap.size from fun e => hne1 e.symm)]; exact k4
              · exact OwnE.kept (OwnE.below OB.out hb) ((Kept.refl (fun c => c = g) wx).set (C := g) rfl i _) (fun k hk e => HD5.out k hk e))
            have HUI := hid hui
            have HUK := hid huk
            clear t1 t2 t3 t4 t5 hq hui huk CB
            go_upto_region 16 with fail
            rw [← HWB.out]
            clear hc0 hc1 hc2 hc3 hc4
            go_upto_region 19 with fail
            go_cut [] (fun wx => TmC w O (some ⟨bo, 0, none⟩) n cO b g ((i : Int) + 1) col' G' last' (fun k => if k = i then ui + q else f' k) wx ∧ wx.cell? ⟨wr.heap.size, 2, none⟩ = some (.int .i64 ((kx : Int) + 1)) ∧ wx.cell? ⟨wr.heap.size, 4, none⟩ = some (.int .i64 q) ∧ OwnE Bo.encEv 5 36 0 wx (.slice (some ⟨be, 0, none⟩) ne cv) evs)
            case first =>
              go_region
              all_goals go_wp2
              all_goals (
                go_meet
                exact W1.out _ (Below.refl _ _).drew)
            case rest =>
            obtain ⟨tm6, k2, k4, ho6⟩ := hcut
            have TM6 := hid tm6
            have HO6 := hid ho6
            have m1 : wc.cell? ⟨g, kx, none⟩ = some (.int .i64 uk) := by
              have h := TM6.out.row.cell hkxn
              rw [if_neg hki, ← HUK.out] at h
              exact h
            have f1 := TM6.out.row.froz kx
            have l1 := TM6.out.row.lt
            have W2 := hid (show ∀ wx, Below wc.heap.size wc wx → TmC w O (some ⟨bo, 0, none⟩) n cO b g ((i : Int) + 1) col' G' last' (fun k => if k = kx then uk + q else if k = i then ui + q else f' k) (wx.setCell ⟨g, kx, none⟩ (.int .i64 (uk + q))) ∧ OwnE Bo.encEv 5 36 0 (wx.setCell ⟨g, kx, none⟩ (.int .i64 (uk + q))) (.slice (some ⟨be, 0, none⟩) ne cv) evs from fun wx hb =>
              ⟨(TM6.out.on hb).put kx (uk + q), OwnE.kept (OwnE.below HO6.out hb) ((Kept.refl (fun c => c = g) wx).set (C := g) rfl kx _) (fun k hk e => HD5.out k hk e)⟩)
            have FIN := hid (show ∀ k, k < n → (if k = kx then uk + q else if k = i then ui + q else f' k) = ((evs.take (j + 1)).foldl updT L).getD k 0 from fun k hk => by
              rw [FOLD.out, UP.out k hk]
              by_cases a : k = kx
              · subst a; rw [if_pos rfl, if_neg hki, if_pos rfl, HUK.out]; omega
              · rw [if_neg a, if_neg a]
                by_cases c : k = i
                · subst c; rw [if_pos rfl, if_pos rfl, HUI.out]; omega
                · rw [if_neg c, if_neg c]; omega)
            clear tm6 ho6 y0 y1 y2 y4 m0 f0 l0
            go_upto_region 20 with fail
            go_region
            all_goals go_wp2
            all_goals (
              go_roundg (ne - (j + 1))
              · obtain ⟨n1, n2⟩ := W2.out _ (Below.refl _ _).drew
                exact ⟨j + 1, _, by omega, by go_num, n1, n2, FIN.out⟩
              · have := HJK.out; omega)
          · have y0 : wb.cell? ⟨wr.heap.size, 0, none⟩ = some (.int .i64 2) := by rw [CB.out.cell, ← t1]; rfl
            have F2 := hid (show ∀ k, k < n → f' k = ((evs.take (j + 1)).foldl updT L).getD k 0 from fun k hk => by
              rw [FOLD.out, show updT ((evs.take j).foldl updT L) e = (evs.take j).foldl updT L by unfold updT; rw [if_neg (by omega)]]
              exact HF'.out k hk)
            clear t1
            go_upto_region 16 with fail
            rw [← HWB.out]
            clear hc0 hc1 hc2 hc3 hc4
            go_wp2
            go_roundg (ne - (j + 1))
            · exact ⟨j + 1, f', by omega, by go_num, TB.out, OB.out, F2.out⟩
            · have := HJK.out; omega
        · have hjn' : j = ne := by have := HJK.out; omega
          have NX := hid (show StT O (i + 1) (G'.bd ((i : Int) + 1) last') (evs.foldl updT L) by rw [HS5.out]; exact ST1.out)
          have F2 := hid (show ∀ k, k < n → f' k = (evs.foldl updT L).getD k 0 from fun k hk => by
            rw [HF'.out k hk, hjn', HNE.out, List.take_length])
          have gnn : ¬ (j : Int) < (ne : Int) := by omega
          clear hjn hjn'
          go_wp2
          go_roundg (n - (i + 1))
          · exact ⟨i + 1, col', G', last', f', _, by omega, by go_num, by push_cast; exact TM.out, by push_cast; exact NX.out, F2.out⟩
          · have := HIK.out; omega
    · have hin' : i = n := by have := HIK.out; omega
      have hl4 : O.length ≤ 4096 := by rw [← HN.out]; omega
      have STN := hid (show StT O O.length (G.bd (i : Int) last) L from by have h := ST.out; rw [show O.length = i by rw [hin']; exact HN.out.symm]; exact h)
      have RF := hid (show ReadsE Ca.encI 1 wr (.slice (some ⟨g, 0, none⟩) n n) L from OwnE.reads Ca.encI_len (TM.out.row.own (l := L) (by rw [STN.out.len]; exact HN.out.symm) (fun k hk => by rw [HF.out k (by rw [HN.out, ← STN.out.len]; exact hk)]; simp [hk]) TM.out.gge (by unfold maxLen; omega)) (by rw [STN.out.len]; omega))
      have GN := hid (Ca.gain_calls (OwnE.reads Ca.encBd_len TM.out.own (by omega)) RF.out)
      rw [Ca.gnF_ok hl4 HOK.out, if_pos (STN.out.fit HOK.out)] at GN
      have hg0 := STN.out.gain
      obtain ⟨gn, hgn⟩ : ∃ gn, gn = Ca.gsum O L := ⟨_, rfl⟩
      rw [← hgn] at GN hg0
      have HGN := hid hgn
      have gin : ¬ (i : Int) < (n : Int) := by omega
      have gn0 : ¬ gn < 0 := by omega
      have HL4 := hid hl4
      have HIN := hid hin'
      clear hgn hin hin' hl4
      go_wp2_with fail
      refine GN.out.mono ?_
      rintro e w6 ⟨rfl, hb6⟩
      have TM6 := hid (TM.out.on hb6)
      have CL := hid (Ca.clear_calls (OwnE.reads Ca.encBd_len TM6.out.own (by have := HL4.out; omega)) 50 2)
      clear hb6 GN gin RF
      rcases clear50 HL4.out HOK.out with ⟨hm, hc⟩ | ⟨hm, p5, v5, s5, hc⟩
      · rw [hc] at CL
        have hno := noT_of HOK.out hm
        have hgz := STN.out.zero hno
        rw [← HGN.out] at hgz
        subst hgz
        have SOME := hid (show 0 < n → (Bo.bestF (G.bd (i : Int) last).buy).2.2 = true ∨ (Bo.bestF (G.bd (i : Int) last).sell).2.2 = true from fun h0 => best_some STN.out.wait (STN.out.live HOK.out hno (by rw [← HN.out]; exact h0)))
        clear hc hm hno
        go_wp2_with fail
        refine CL.out.mono ?_
        rintro e w7 ⟨⟨vf, rfl, hr⟩, hb7⟩
        obtain ⟨pf, cf, rfl⟩ := Ca.own_empty hr
        obtain ⟨w8, hw8⟩ : ∃ w8, w8 = w7.alloc (.cells #[.int .i64 0, .int .i64 0, .int .i64 0, .slice pf 0 cf] 40) := ⟨_, rfl⟩
        have TM8 := hid (show TmC w O pO n cO b g (i : Int) col G last f w8 from (TM6.out.on hb7).on (by rw [hw8]; exact (Below.refl _ _).alloc (Nat.le_refl _) _))
        have BE1 := hid (Bo.best_side TM8.out.bd (s := 1) (.inl rfl))
        have e1 : (G.bd (i : Int) last).half 1 = (G.bd (i : Int) last).buy := rfl
        have e2 : (G.bd (i : Int) last).half 2 = (G.bd (i : Int) last).sell := rfl
        rw [e1] at BE1
        have HE2 := hid e2
        obtain ⟨x1, hx1⟩ : ∃ x, x = Bo.bestF (G.bd (i : Int) last).buy := ⟨_, rfl⟩
        obtain ⟨x2, hx2⟩ : ∃ x, x = Bo.bestF (G.bd (i : Int) last).sell := ⟨_, rfl⟩
        rw [← hx1] at BE1 SOME
        rw [← hx2] at SOME
        have HX2 := hid hx2
        have HW8 := hid hw8
        clear hr hb7 CL hw8 e1 e2 hx1 hx2
        go_upto_region 26 with fail
        rw [← HW8.out]
        go_wp2_with fail
        refine BE1.out.mono ?_
        rintro e w9 ⟨rfl, hb9⟩
        have TM9 := hid (TM8.out.on hb9)
        have BE2 := hid (Bo.best_side TM9.out.bd (s := 2) (.inr rfl))
        rw [HE2.out, ← HX2.out] at BE2
        clear hb9 BE1
        go_wp2_with fail
        refine BE2.out.mono ?_
        rintro e wa ⟨rfl, hba⟩
        have BA := hid (TM9.out.below.trans (hba.mono TM9.out.below.size))
        have TC := hid (three_calls wa)
        clear hba BE2
        obtain ⟨a1, a2, b1⟩ := x1
        obtain ⟨a3, a4, b2⟩ := x2
        by_cases h0 : 0 < n
        · have SM := SOME.out h0
          cases b1 with
          | true =>
            clear SM
            go_wp2_with fail
            refine TC.out.mono ?_
            rintro e wz ⟨rfl, hbz⟩
            have F := hid (FN.out _ (BA.out.trans (hbz.mono BA.out.size)))
            clear hbz
            go_wp2
            first | exact F.out | (go_ret; exact F.out)
          | false =>
            have e2 : b2 = true := by simpa using SM
            subst e2
            clear SM
            go_wp2_with fail
            refine TC.out.mono ?_
            rintro e wz ⟨rfl, hbz⟩
            have F := hid (FN.out _ (BA.out.trans (hbz.mono BA.out.size)))
            clear hbz
            go_wp2
            first | exact F.out | (go_ret; exact F.out)
        · have h00 : n = 0 := by omega
          subst h00
          clear SOME
          cases b1 <;> cases b2
          all_goals (
            go_wp2_with fail
            refine TC.out.mono ?_
            rintro e wz ⟨rfl, hbz⟩
            have F := hid (FN.out _ (BA.out.trans (hbz.mono BA.out.size)))
            clear hbz
            go_wp2
            first | exact F.out | (go_ret; exact F.out))
      · have hmo := STN.out.most HOK.out (by rw [← HN.out]; omega) 50 2 hm
        have hff := Ca.fills_fit HOK.out (x := Ca.priceZ (Ca.zonesL O) 50) (v := min (Ca.dem O (Ca.priceZ (Ca.zonesL O) 50)) (Ca.sup O (Ca.priceZ (Ca.zonesL O) 50))) (rule := 2)
        rw [hc] at CL
        obtain ⟨F, hF⟩ : ∃ F, F = Ca.fillsL O (Ca.priceZ (Ca.zonesL O) 50) (min (Ca.dem O (Ca.priceZ (Ca.zonesL O) 50)) (Ca.sup O (Ca.priceZ (Ca.zonesL O) 50))) 2 := ⟨_, rfl⟩
        rw [← hF] at CL hmo hff
        rw [← HGN.out] at hmo
        have hfl : F.length = n := by rw [hff.1]; exact HN.out.symm
        have HFL := hid hfl
        have HFF := hid hff
        clear hc hm hF hff hfl
        go_wp2_with fail
        refine CL.out.mono ?_
        rintro e w7 ⟨⟨vf, rfl, hr⟩, hb7⟩
        have hr : Ca.RowI w6.heap.size w7 vf F := hr
        obtain ⟨pf, cf, hvf, _⟩ := OwnE.form hr
        rw [HFL.out] at hvf
        subst hvf
        obtain ⟨w8, hw8⟩ : ∃ w8, w8 = w7.alloc (.cells #[.int .i64 p5, .int .i64 v5, .int .i64 s5, .slice pf n cf] 40) := ⟨_, rfl⟩
        have B8 := hid (show Below w7.heap.size w7 w8 by rw [hw8]; exact (Below.refl _ _).alloc (Nat.le_refl _) _)
        have C8 := hid (show Cells w8 w7.heap.size #[.int .i64 p5, .int .i64 v5, .int .i64 s5, .slice pf n cf] 40 by rw [hw8]; exact Cells.new w7 _ _)
        have TM8 := hid (show TmC w O pO n cO b g (i : Int) col G last f w8 from (TM6.out.on hb7).on B8.out)
        have GN := hid (Ca.gain_calls (OwnE.reads Ca.encBd_len TM8.out.own (by have := HL4.out; omega)) (OwnE.reads Ca.encI_len (OwnE.below hr B8.out) (by rw [HFL.out]; omega)))
        rw [Ca.gnF_ok HL4.out HOK.out, if_pos HFF.out] at GN
        obtain ⟨gm, hgm⟩ : ∃ gm, gm = Ca.gsum O F := ⟨_, rfl⟩
        rw [← hgm] at GN hmo
        have k3 : w8.cell? ⟨w7.heap.size, 3, none⟩ = some (.slice pf n cf) := by rw [C8.out.cell]; rfl
        have HW8 := hid hw8
        clear hr hb7 CL hw8 hgm
        go_upto_region 29 with fail
        rw [← HW8.out]
        go_wp2_with fail
        refine GN.out.mono ?_
        rintro e w9 ⟨rfl, hb9⟩
        have BA := hid (TM8.out.below.trans (hb9.mono TM8.out.below.size))
        have TC := hid (three_calls w9)
        clear hb9 GN
        go_wp2_with fail
        refine TC.out.mono ?_
        rintro e wz ⟨rfl, hbz⟩
        have F2 := hid (FN.out _ (BA.out.trans (hbz.mono BA.out.size)))
        clear hbz
        go_wp2
        first | exact F2.out | (go_ret; exact F2.out)
end Go.Proofs.YtepldjidkomclaaGreat
