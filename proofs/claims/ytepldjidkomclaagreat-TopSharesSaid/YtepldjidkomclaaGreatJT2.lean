/- three returns true. -/
import Derived.Test.YtepldjidkomclaaGreatJCLh0
import Derived.Test.YtepldjidkomclaaGreatJAMake2
import Derived.Test.YtepldjidkomclaaGreatJAStk2
import Derived.Test.YtepldjidkomclaaGreatJBNew
import Derived.Test.YtepldjidkomclaaGreatJCCd
namespace Go.Proofs.YtepldjidkomclaaGreat
set_option linter.unusedSimpArgs false
set_option linter.unusedVariables false
open Go.RowKit
attribute [local go_sem] Oper.semAt_some
attribute [local go_sem ↓] Go.wp_at_zero Go.wp_at_succ
def bidsT : List Ca.Bd := [⟨1, 5, 2⟩, ⟨2, 5, 1⟩]
theorem three_starts : Ca.starts bidsT = [1, 5, 6] := by
  obtain ⟨h1, h2⟩ := Ca.starts_spec bidsT
  refine Ca.inc_unique h1 (by decide) fun x => ?_
  rw [h2]
  simp [bidsT, Ca.cut]
  omega
theorem three_zones : Ca.zonesL bidsT = [⟨1, 4, 2, 0⟩, ⟨5, 5, 2, 1⟩, ⟨6, 1000000, 0, 1⟩] := by
  unfold Ca.zonesL
  rw [three_starts]
  decide
theorem three_price : Ca.priceZ (Ca.zonesL bidsT) 5 = 5 := by rw [three_zones]; decide
theorem three_clear : ∃ f, Ca.clearF bidsT 5 1 = ⟨5, 1, 1, f, 0⟩ := by
  unfold Ca.clearF
  rw [if_neg (by decide), if_pos ⟨by decide, .inl rfl⟩, three_price, if_neg (by decide)]
  unfold Ca.clrF
  have h1 : Ca.dem bidsT 5 = 2 := by decide
  have h2 : Ca.sup bidsT 5 = 1 := by decide
  rw [h1, h2, if_neg (by decide)]
  exact ⟨_, rfl⟩
theorem Turned_below {sB vB n : Nat} {w w' : World} (h : St.Turned sB vB w w') (h1 : n ≤ sB) (h2 : n ≤ vB) (h3 : n ≤ w.heap.size) : Below n w w' := ⟨h.os, h.tape, h.output, h.size, fun k hk => h.block k (by omega) (by omega) (by omega)⟩
theorem three_enter (t : St.T) (h : t.toList = [St.pc0]) (hf : St.Fine t) : St.enterR t 1 3 1 1 = 0 := by
  unfold St.enterR; rw [St.visL_eq _ _ _ hf.sorted, h]; decide
theorem Step_low {O O' : Nat → Nat} {q n : Nat} {w w' : World} (st : Bo.Step (Bo.colB q) O w O' w') (hn : n ≤ w.heap.size) (h : ∀ k, k < n → O k = 0) : Below n w w' ∧ ∀ k, k < n → O' k = 0 := by
  have key : ∀ k, k < n → w'.heap[k]? = w.heap[k]? ∧ O' k = O k := fun k hk => st.old k (by omega) (by rw [h k hk]; exact fun e => absurd e.1 (by omega))
  exact ⟨⟨st.os, st.tape, st.output, st.size, fun k hk => (key k hk).1⟩, fun k hk => by rw [(key k hk).2, h k hk]⟩
def ord3 : Bo.Od := ⟨1, 1, 1, 1, 5, 0, 2, 0⟩
set_option maxRecDepth 100000 in
set_option maxHeartbeats 8000000 in
theorem three_calls (w : World) : Calls Tryz.prog 11 #[] w fun e w' => e = .returned (.bool true) ∧ Below w.heap.size w w' := by
  obtain ⟨R, hR⟩ : ∃ R : Ending → World → Prop, R = fun e w' => e = .returned (.bool true) ∧ Below w.heap.size w w' := ⟨_, rfl⟩
  rw [← hR]
  have FN := hid (show ∀ w', Below w.heap.size w w' → R (.returned (.bool true)) w' from fun w' h => by rw [hR]; exact ⟨rfl, h⟩)
  clear hR
  have NW := hid (Bo.new_calls (fun _ => 0) 0 w)
  go_enter Tryz.func11, Tryz.ntmps11
  go_wp2_with fail
  refine NW.out.mono ?_
  rintro e w1 ⟨O1, b, G1, rfl, bd1, hG, hb1, hO1⟩
  have BD1 := hid bd1
  have HG := hid hG
  have B1 := hid hb1
  have L1 := hid (show ∀ k, k < w.heap.size → O1 k = 0 from hO1)
  clear bd1 hG hb1 hO1 NW
  go_wp2_with fail
  refine (St.New_calls w1).mono ?_
  rintro e w2 ⟨sB, vB, t, rfl, hst, htl, hfi, hls, hlv, hb2⟩
  have ST := hid hst
  have B2 := hid hb2
  have EN := hid (St.enter_calls w2 sB vB [t] t hst (by simp) rfl hfi 1 3 1 1)
  rw [three_enter t htl hfi] at EN
  have HLS := hid hls
  have HLV := hid hlv
  clear hst htl hfi hb2 hls hlv
  go_wp2_with fail
  refine EN.out.mono ?_
  rintro e w3 ⟨rfl, _, h3⟩
  obtain ⟨t1, uB, s1, _, _, _, tu1⟩ := h3 rfl
  have B3 := hid (Turned_below tu1 HLS.out HLV.out B2.out.size)
  have B13 := hid (B2.out.trans B3.out)
  obtain ⟨cap, ps, c3, _, _⟩ := s1.at_
  have C3 := hid c3
  have BD3 := hid (BD1.out.step (O' := Bo.grow O1 w1 0) (C := fun _ => False) ⟨B13.out.os, B13.out.tape, B13.out.output, B13.out.size, fun k hk _ => ⟨B13.out.block k hk, Bo.grow_old hk⟩, fun _ _ h => h.elim⟩ (fun _ _ => not_false))
  have L3 := hid (show ∀ k, k < w.heap.size → Bo.grow O1 w1 0 k = 0 from fun k hk => by rw [Bo.grow_old (Nat.lt_of_lt_of_le hk B1.out.size)]; exact L1.out k hk)
  have hs0 : Bo.grow O1 w1 0 sB = 0 := Bo.grow_new HLS.out
  have HS0 := hid hs0
  have E0 := hid (show Bo.enterE (G1.bd 0 0) ord3 = 0 by rw [HG.out]; decide)
  have SZ := hid (show Bo.sizeL (G1.bd 0 0).live ≤ 1000000000000 by rw [HG.out]; decide)
  have OE := hid (Bo.enter_calls BD3.out ord3 (by omega) SZ.out)
  unfold Bo.Od.vals ord3 at OE
  clear s1 tu1 h3 c3 EN hs0
  go_wp2_with fail
  refine OE.out.mono ?_
  rintro e w4 (⟨h1, _⟩ | ⟨_, v4, O4, G4, last4, rfl, _, _, _, _, st4⟩)
  · exact absurd E0.out h1
  obtain ⟨b4, l4⟩ := Step_low st4 (Nat.le_trans B1.out.size B13.out.size) L3.out
  have c4 : Cells w4 sB #[.slice (some ⟨uB, 0, none⟩) ([t] ++ [t1]).length cap] 100 := by
    have := (st4.old sB C3.out.lt (by rw [HS0.out]; exact fun e => absurd e.1 (by omega))).1
    exact this.trans C3.out
  have C4 := hid c4
  have B4 := hid ((B1.out.trans (B13.out.mono B1.out.size)).trans b4)
  obtain ⟨w5, hw5⟩ : ∃ w5, w5 = w4.alloc (.cells #[.int .i64 1, .int .i64 5, .int .i64 2, .int .i64 2, .int .i64 5, .int .i64 1] 32) := ⟨_, rfl⟩
  have c5 : Cells w5 w4.heap.size #[.int .i64 1, .int .i64 5, .int .i64 2, .int .i64 2, .int .i64 5, .int .i64 1] 32 := by rw [hw5]; exact Cells.new w4 _ _
  have b5 : Below w4.heap.size w4 w5 := by rw [hw5]; exact (Below.refl _ _).alloc (Nat.le_refl _) _
  have rd : ReadsE Ca.encBd 3 w5 (.slice (some ⟨w4.heap.size, 0, none⟩) 2 2) bidsT := by
    refine ⟨by decide, some ⟨w4.heap.size, 0, none⟩, 2, w4.heap.size, 0, rfl, fun _ => ⟨rfl, c5.lt⟩, fun k hk j hj => ?_⟩
    have hk2 : k < 2 := hk
    rw [c5.cell]
    rcases (show k = 0 ∨ k = 1 by omega) with rfl | rfl <;> rcases (show j = 0 ∨ j = 1 ∨ j = 2 by omega) with rfl | rfl | rfl <;> rfl
  have CL := hid (Ca.clear_calls rd 5 1)
  obtain ⟨f, hf⟩ := three_clear
  rw [hf] at CL
  have B5 := hid b5
  have HW5 := hid hw5
  clear hw5 c5 b5 rd hf c4 st4 b4 l4 OE
  go_upto_region 6 with fail
  go_wp2_with fail
  rw [← HW5.out]
  refine CL.out.mono ?_
  rintro e w6 ⟨⟨vf, rfl, hr⟩, hb6⟩
  have B6 := hid (B5.out.trans (hb6.mono B5.out.size))
  obtain ⟨p, c, hv, _⟩ := hr.form
  subst hv
  have c7 := (C4.out.below B6.out C4.out.lt).alloc (.cells #[.int .i64 5, .int .i64 1, .int .i64 1, .slice p f.length c] 40)
  have y7 : (w6.alloc (.cells #[.int .i64 5, .int .i64 1, .int .i64 1, .slice p f.length c] 40)).cell? ⟨sB, 0, none⟩ = some (.slice (some ⟨uB, 0, none⟩) 2 cap) := by rw [c7.cell]; rfl
  have B7 := hid (B4.out.trans ((B6.out.alloc B6.out.size (.cells #[.int .i64 5, .int .i64 1, .int .i64 1, .slice p f.length c] 40)).mono B4.out.size))
  have VS := hid (St.version_calls _ sB (.bool true) 2 cap _ (by omega) y7)
  have F := hid (FN.out _ B7.out)
  clear hr hb6 CL c7 y7
  go_wp2_with fail
  refine VS.out.mono ?_
  rintro e w8 ⟨rfl, rfl⟩
  go_wp2
  first | exact F.out | (go_ret; exact F.out)
end Go.Proofs.YtepldjidkomclaaGreat
