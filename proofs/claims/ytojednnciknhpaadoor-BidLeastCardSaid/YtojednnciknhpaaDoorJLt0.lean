/- BidLeast: the walk. -/
import Derived.Test.YtojednnciknhpaaDoorJLv1
import Derived.Test.YtojednnciknhpaaDoorJLv2
import Derived.Test.YtojednnciknhpaaDoorJLh1
namespace Go.Proofs.YtojednnciknhpaaDoor
set_option linter.unusedSimpArgs false
set_option linter.unusedVariables false
open Go.RowKit
attribute [local go_sem] Oper.semAt_some
attribute [local go_sem ↓] Go.wp_at_zero Go.wp_at_succ
set_option maxRecDepth 100000 in
set_option maxHeartbeats 8000000 in
theorem rhall_calls {w : World} {v : Value} {L : List (List Int)} {q : List Int} (hv : NestE encI 1 w v L) (hc : chkH L = 0) (ok : OkH L (cols L)) (hL : 1 ≤ L.length) (hq : LeastP L (cols L) q) :
    Calls Tryd.prog 26 #[v] w fun e w' => ∃ vl vp, e = .returned (.tuple #[vl, vp]) ∧ RowN 0 w' vl (hallF L q L []) ∧ RowI 0 w' vp q ∧ Below w.heap.size w w' := by
  have LC := hid (rleast_calls hv ok hL ok.rows ok.cols hq)
  have FH := hid (firstX_hall (by rw [hq.len]; exact ok) hc (arP_iff.2 ⟨hq.len, hq.ok⟩) (hq.hall ok))
  have FC := hid (fun (wx : World) (vp : Value) (hb : Below w.heap.size w wx) (hp : ReadsE encI 1 wx vp q) => rfirst_calls (by rw [hq.len]; exact ok) hq.ok hL L.length [] (vt := .slice none 0 0) (by simp) (hv.below hb) hp (OwnE.nil 0 wx))
  obtain ⟨R, hR⟩ : ∃ R : Ending → World → Prop, R = fun e w' => ∃ vl vp, e = .returned (.tuple #[vl, vp]) ∧ RowN 0 w' vl (hallF L q L []) ∧ RowI 0 w' vp q ∧ Below w.heap.size w w' := ⟨_, rfl⟩
  rw [← hR]
  rw [FH.out] at FC
  have FN := hid (show ∀ vl vp w', RowN 0 w' vl (hallF L q L []) → RowI 0 w' vp q → Below w.heap.size w w' → R (.returned (.tuple #[vl, vp])) w' from fun vl vp w' a b c => by rw [hR]; exact ⟨vl, vp, rfl, a, b, c⟩)
  have QL := hid (show q.length ≤ 100000 by rw [hq.len]; have := ok.cols; omega)
  obtain ⟨bb, off, cap, rfl, _⟩ := nest_open hv hL
  obtain ⟨m, hm⟩ : ∃ m, m = L.length := ⟨_, rfl⟩
  rw [← hm] at LC FC ⊢
  clear hR hv hc ok hL hq hm
  go_enter Tryd.func26, Tryd.ntmps26
  go_wp2_with fail
  refine LC.out.mono ?_
  rintro e w2 ⟨vp, rfl, hp, hb2⟩
  have B2 := hid hb2
  have P2 := hid hp
  obtain ⟨pp, cp, hvp, _⟩ := hp.form
  obtain ⟨np, hnp⟩ : ∃ np, np = q.length := ⟨_, rfl⟩
  rw [← hnp] at hvp
  subst hvp
  have F2 := hid (FC.out w2 _ hb2 (hp.reads encI_len (by have := QL.out; omega)))
  clear hb2 hp LC FC hnp
  go_wp2_with fail
  refine F2.out.mono ?_
  rintro e w3 ⟨vl, rfl, hl, hb3⟩
  have F := hid (FN.out vl _ w3 hl ((P2.out.below hb3).mono (Nat.zero_le _)) (B2.out.trans (hb3.mono B2.out.size)))
  clear hb3 hl FN F2
  go_wp2
  first | exact F.out | (go_ret; exact F.out)

set_option maxRecDepth 100000 in
set_option maxHeartbeats 8000000 in
theorem least_law (w : World) (hT : TabOk w) (v : Value) (L0 : List (List Int)) (h : NestA encI 1 w v L0) (_hq : ∀ l ∈ L0, ∀ x ∈ l, -9223372036854775808 ≤ x ∧ x ≤ 9223372036854775807) :
    Calls Tryd.prog 4 #[v] w fun e w' => e = .returned (.bool true) ∧ Below w.heap.size w w' := by
  have HC := hid (tidy_calls h 4 4 (by omega) (by omega))
  obtain ⟨R, hR⟩ : ∃ R : Ending → World → Prop, R = fun e w' => e = .returned (.bool true) ∧ Below w.heap.size w w' := ⟨_, rfl⟩
  rw [← hR]
  have FN := hid (show ∀ w', Below w.heap.size w w' → R (.returned (.bool true)) w' from fun w' h => by rw [hR]; exact ⟨rfl, h⟩)
  have TO := hid hT
  obtain ⟨L, hL⟩ : ∃ L, L = tidyF L0 4 4 := ⟨_, rfl⟩
  have CK := hid (show chkH L = 0 by rw [hL]; exact tidy_chk (by omega) (by omega))
  have LN := hid (show 1 ≤ L.length ∧ L.length ≤ 4 by rw [hL, tidyF_len]; unfold trows; omega)
  have LC := hid (show 1 ≤ cols L ∧ cols L ≤ 4 by rw [hL, tidyF_cols]; unfold tcols; omega)
  have OK := hid (show OkH L (cols L) by rw [hL, tidyF_cols]; exact tidy_okH (by omega) (by omega))
  rw [← hL] at HC
  obtain ⟨f, q, hf, hq⟩ := least_ex OK.out
  have HF := hid hf
  have Q := hid hq
  have FL := hid (hq.hall OK.out)
  have ql := hid hq.len
  clear hR hL hT hf hq
  obtain ⟨p, cap, rfl, _⟩ := h.open_
  obtain ⟨n0, hn0⟩ : ∃ n0, n0 = L0.length := ⟨_, rfl⟩
  rw [← hn0] at HC ⊢
  clear h hn0
  go_enter Tryd.func4, Tryd.ntmps4
  go_wp2_with fail
  refine HC.out.mono ?_
  rintro e w1 ⟨v1, rfl, ht, hb1⟩
  have B1 := hid hb1
  have N1 := hid (ht.nest encI_len (by have := LN.out.2; omega) (fun r hr => by have := OK.out.len r hr; have := LC.out.2; omega))
  have HH := hid (hall_calls N1.out CK.out HF.out)
  have RH := hid (fun (wx : World) (hb : Below w1.heap.size w1 wx) => rhall_calls (N1.out.below hb) CK.out OK.out LN.out.1 Q.out)
  obtain ⟨p1, c1, hv1⟩ := ht.form
  obtain ⟨n, hn⟩ : ∃ n, n = L.length := ⟨_, rfl⟩
  obtain ⟨N, hN⟩ : ∃ N, N = cols L := ⟨_, rfl⟩
  have HN := hid hn
  rw [← hn] at hv1
  rw [← hN] at HH ql LC
  subst hv1
  clear hb1 ht hn hN HC
  go_wp2_with fail
  refine HH.out.mono ?_
  rintro e w2 ⟨vl, gp, rfl, hrl, hrp, _, _, _, hb2⟩
  have B2 := hid (B1.out.trans (hb2.mono B1.out.size))
  have RL2 := hid hrl
  have RP2 := hid hrp
  have C2 := hid (RH.out w2 hb2)
  have HNL := hid (show (hallF L q L []).length ≤ 5000 by rw [FL.out.mem.len]; have := LN.out.2; omega)
  obtain ⟨pl, cl, hvl, _⟩ := hrl.form
  obtain ⟨nl, hnl⟩ : ∃ nl, nl = (hallF L q L []).length := ⟨_, rfl⟩
  rw [← hnl] at hvl
  subst hvl
  clear hrl hrp hb2 HH hnl RH
  go_wp2_with fail
  refine C2.out.mono ?_
  rintro e w3 ⟨vm, vq, rfl, hm, hq3, hb3⟩
  have B3 := hid (B2.out.trans (hb3.mono B2.out.size))
  have QR := hid hq3
  have PR := hid (show ∀ wx, Below w3.heap.size w3 wx → ReadsE encI 1 wx (.slice (some ⟨gp, 0, none⟩) N N) q from fun wx hb => by
    have := ((RP2.out.below' hb3).below' hb).reads (by rw [ql.out]; have := LC.out.2; omega) N
    rw [ql.out] at this
    exact this)
  have IC := hid (ints_calls ((RL2.out.below hb3).reads encI_len (by have := HNL.out; omega)) (hm.reads encI_len (by have := HNL.out; omega)))
  obtain ⟨pm, cm, hvm, _⟩ := hm.form
  obtain ⟨nm, hnm⟩ : ∃ nm, nm = (hallF L q L []).length := ⟨_, rfl⟩
  rw [← hnm] at hvm
  obtain ⟨pq, cq, hvq, _⟩ := hq3.form
  obtain ⟨nq, hnq⟩ : ∃ nq, nq = q.length := ⟨_, rfl⟩
  rw [← hnq] at hvq
  subst hvm hvq
  clear hm hq3 hb3 hnm hnq C2
  go_wp2_with fail
  refine IC.out.mono ?_
  rintro e w4 ⟨rfl, hb4⟩
  have B4 := hid (B3.out.trans (hb4.mono B3.out.size))
  have LO := hid (longs_calls (PR.out w4 hb4) ((QR.out.below hb4).reads encI_len (by rw [ql.out]; have := LC.out.2; omega)))
  clear hb4 IC PR
  go_wp2_with fail
  refine LO.out.mono ?_
  rintro e w5 ⟨rfl, hb5⟩
  have B5 := hid (B4.out.trans (hb5.mono B4.out.size))
  have AW := hid (awake_calls (TO.out.below B5.out))
  clear hb5 LO
  go_wp2_with fail
  refine AW.out.mono ?_
  rintro e w6 ⟨rfl, hb6⟩
  have F := hid (FN.out w6 (B5.out.trans (hb6.mono B5.out.size)))
  clear hb6 AW
  go_wp2
  first | exact F.out | (go_ret; exact F.out)
end Go.Proofs.YtojednnciknhpaaDoor
