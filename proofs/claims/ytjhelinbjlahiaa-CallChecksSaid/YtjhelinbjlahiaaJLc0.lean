/- CallChecks: the walk. -/
import Derived.Test.YtjhelinbjlahiaaJLh0
import Derived.Test.YtjhelinbjlahiaaJCd
namespace Go.Proofs.Ytjhelinbjlahiaa
set_option linter.unusedSimpArgs false
set_option linter.unusedVariables false
open Go.RowKit
attribute [local go_sem] Oper.semAt_some
attribute [local go_sem ↓] Go.wp_at_zero Go.wp_at_succ
/-- What a faulty list of bids gets. -/
theorem faulty {l : List Bd} {c : Int} (hc : c = chk l) (h : c ≠ 0) (x rule : Int) (f : List Int) : atF l x = (0, 0, c) ∧ bsF l = (0, 0, 0, c) ∧ prF l x = (0, c) ∧ clearF l x rule = ⟨0, 0, 0, [], c⟩ ∧ clearAtF l x rule = ⟨0, 0, 0, [], c⟩ ∧ gnF l f = (0, c) := by
  subst hc
  refine ⟨?_, ?_, ?_, ?_, ?_, ?_⟩
  · unfold atF; rw [if_pos h]
  · unfold bsF; rw [if_pos h]
  · unfold prF; rw [if_pos h]
  · unfold clearF; rw [if_pos h]
  · unfold clearAtF; rw [if_pos h]
  · unfold gnF; rw [if_pos h]
theorem OwnE.empty {α : Type} {enc : α → List Value} {sz : Nat} {e : TypeId} {B : Nat} {w : World} {v : Value} (h : OwnE enc sz e B w v ([] : List α)) : ∃ p c, v = .slice p 0 c := by
  obtain ⟨p, c, h1, _⟩ := h.form
  exact ⟨p, c, h1⟩

set_option maxRecDepth 100000 in
set_option maxHeartbeats 8000000 in
theorem checks_law (w : World) (v : Value) (l : List Bd) (hv : ArgE encBd 3 w v l) (x : Int) :
    Calls Try.prog 13 #[v, .int .i64 x] w fun e w' => e = .returned (.bool true) ∧ Below w.heap.size w w' := by
  obtain ⟨R, hR⟩ : ∃ R : Ending → World → Prop, R = fun e w' => e = .returned (.bool true) ∧ Below w.heap.size w w' := ⟨_, rfl⟩
  rw [← hR]
  have FN := hid (show ∀ w', Below w.heap.size w w' → R (.returned (.bool true)) w' from fun w' h => by rw [hR]; exact ⟨rfl, h⟩)
  clear hR
  have HV := hid hv
  have SRC := hid (hv.src encBd_len (by omega))
  have SM := hid (some_calls SRC.out 60 (by omega))
  obtain ⟨_, p, cap, bb, off, hvf, _, _⟩ := hv.reads
  subst hvf
  obtain ⟨n, hn⟩ : ∃ n, n = l.length := ⟨_, rfl⟩
  rw [← hn] at SM HV SRC ⊢
  have AW := hid awake_calls
  clear hv hn
  go_enter Try.func13, Try.ntmps13
  go_wp2_with fail
  refine SM.out.mono ?_
  rintro e w2 ⟨v2, rfl, hr2, hb2⟩
  have R2 := hid hr2
  have B2 := hid hb2
  clear hr2 hb2 SM
  go_upto_if 27 with fail
  go_cut [5] (fun s5 wx => ∃ L : List Bd, L.length ≤ 4097 ∧ RowR w.heap.size wx s5 L ∧ Below w.heap.size w wx)
  case first =>
    by_cases hbig : 4096 < n
    · have g1 : (4096 : Int) < (n : Int) := by omega
      have SM2 := hid (some_calls (w := w2) (v := .slice p n cap) (l := l) (by
        rcases SRC.out with q | ⟨a, c, q1, q2, q3⟩
        · exact .inl q
        · refine .inr ⟨a, c, q1, q2, fun j y hj => ?_⟩
          have := q3 j y hj
          have hlt := World.block_lt_of_cell? _ _ this
          rw [← this]
          exact B2.out.cell hlt) 4097 (by omega))
      clear hbig
      go_wp2_with fail
      refine SM2.out.mono ?_
      rintro e w3 ⟨v3, rfl, hr3, hb3⟩
      have NX := hid (show ∃ L : List Bd, L.length ≤ 4097 ∧ RowR w.heap.size w3 v3 L ∧ Below w.heap.size w w3 from ⟨_, by rw [List.length_take]; omega, hr3.mono B2.out.size, B2.out.trans (hb3.mono B2.out.size)⟩)
      clear hr3 hb3
      go_wp2
      go_meet
      exact NX.out
    · have g1 : ¬ (4096 : Int) < (n : Int) := by omega
      clear hbig
      go_wp2
      go_meet
      exact ⟨_, by rw [List.length_take]; omega, R2.out, B2.out⟩
  case rest =>
    obtain ⟨L, hL, hr3, hb3⟩ := hcut
    obtain ⟨p3, c3, hv3, _⟩ := hr3.form
    obtain ⟨m, hm⟩ : ∃ m, m = L.length := ⟨_, rfl⟩
    rw [← hm] at hv3
    subst hv3
    have R3 := hid hr3
    have B3 := hid hb3
    have RC := hid (rcheck_calls (OwnE.reads encBd_len hr3 (by omega)))
    have HM := hid hm
    clear hr3 hb3 R2 B2 SRC HV hm
    obtain ⟨ch, hch⟩ : ∃ ch, ch = chk L := ⟨_, rfl⟩
    rw [← hch] at RC
    have HCH := hid hch
    clear hch
    go_wp2_with fail
    refine RC.out.mono ?_
    rintro e w4 ⟨rfl, hb4⟩
    have B4 := hid (B3.out.trans (hb4.mono B3.out.size))
    have GV := hid (give_calls (OwnE.reads encBd_len (OwnE.below R3.out hb4) (by omega)) (by omega))
    clear hb4 RC
    go_wp2_with fail
    refine GV.out.mono ?_
    rintro e w5 ⟨v5, rfl, hr5, hb5⟩
    have B5 := hid (B4.out.trans (hb5.mono B4.out.size))
    obtain ⟨p5, c5, hv5, _⟩ := hr5.form
    rw [← HM.out] at hv5
    subst hv5
    have RD := hid (fun wx (hb : Below w5.heap.size w5 wx) => show ReadsE encBd 3 wx (.slice p5 m c5) L from (OwnE.reads encBd_len hr5 (by omega)).below hb)
    have CK := hid (check_calls (RD.out w5 (Below.refl _ _)))
    rw [← HCH.out] at CK
    clear hr5 hb5 GV
    go_wp2_with fail
    refine CK.out.mono ?_
    rintro e w6 ⟨rfl, hb6⟩
    have B6 := hid hb6
    have g2 : (ch != ch) = false := by simp
    clear hb6 CK
    by_cases hc0 : ch = 0
    · have g3 : (ch == 0) = true := by simpa using hc0
      clear hc0
      go_wp2_with fail
      refine (AW.out _).mono ?_
      rintro e w7 ⟨rfl, hb7⟩
      have F := hid (FN.out w7 (B5.out.trans ((B6.out.trans (hb7.mono B6.out.size)).mono B5.out.size)))
      clear hb7
      go_wp2
      first | exact F.out | (go_ret; exact F.out)
    · have g3 : (ch == 0) = false := by simpa using hc0
      have FA := hid (faulty HCH.out hc0 x 1 [])
      have FB := hid (faulty HCH.out hc0 x 2 [])
      clear hc0
      have g4 : (ch == ch) = true := by simp
      have AT := hid (at_calls (RD.out w6 B6.out) x)
      rw [FA.out.1] at AT
      go_wp2_with fail
      refine AT.out.mono ?_
      rintro e w7 ⟨rfl, hb7⟩
      have B7 := hid (B6.out.trans (hb7.mono B6.out.size))
      have BS := hid (best_calls (RD.out w7 B7.out))
      rw [FA.out.2.1] at BS
      clear hb7 AT
      go_wp2_with fail
      refine BS.out.mono ?_
      rintro e w8 ⟨rfl, hb8⟩
      have B8 := hid (B7.out.trans (hb8.mono B7.out.size))
      have PR := hid (pricef_calls (RD.out w8 B8.out) x)
      rw [FA.out.2.2.1] at PR
      clear hb8 BS
      go_wp2_with fail
      refine PR.out.mono ?_
      rintro e w9 ⟨rfl, hb9⟩
      have B9 := hid (B8.out.trans (hb9.mono B8.out.size))
      have CL := hid (clear_calls (RD.out w9 B9.out) x 1)
      rw [FA.out.2.2.2.1] at CL
      clear hb9 PR
      go_wp2_with fail
      refine CL.out.mono ?_
      rintro e w10 ⟨⟨vf, rfl, hr10⟩, hb10⟩
      obtain ⟨pf, cf, rfl⟩ := OwnE.empty hr10
      obtain ⟨wb, hwb⟩ : ∃ wb, wb = w10.alloc (.cells #[.int .i64 0, .int .i64 0, .int .i64 0, .slice pf 0 cf] 26) := ⟨_, rfl⟩
      have B10 := hid (show Below w5.heap.size w5 wb by rw [hwb]; exact (B9.out.trans (hb10.mono B9.out.size)).alloc (by have := B9.out.size; have := hb10.size; omega) _)
      have C10 := hid (show Cells wb w10.heap.size #[.int .i64 0, .int .i64 0, .int .i64 0, .slice pf 0 cf] 26 by rw [hwb]; exact Cells.new w10 _ _)
      have CA := hid (clearAt_calls (RD.out wb B10.out) x 2)
      rw [FB.out.2.2.2.2.1] at CA
      have HWB := hid hwb
      clear hb10 hr10 CL hwb
      go_upto_region 14 with fail
      rw [← HWB.out]
      go_wp2_with fail
      refine CA.out.mono ?_
      rintro e w11 ⟨⟨vg, rfl, hr11⟩, hb11⟩
      obtain ⟨pg, cg, rfl⟩ := OwnE.empty hr11
      obtain ⟨wc, hwc⟩ : ∃ wc, wc = w11.alloc (.cells #[.int .i64 0, .int .i64 0, .int .i64 0, .slice pg 0 cg] 26) := ⟨_, rfl⟩
      have B11 := hid (show Below wb.heap.size wb wc by rw [hwc]; exact hb11.alloc hb11.size _)
      have C11 := hid (show Cells wc w11.heap.size #[.int .i64 0, .int .i64 0, .int .i64 0, .slice pg 0 cg] 26 by rw [hwc]; exact Cells.new w11 _ _)
      have GN := hid (gain_calls (f := []) (RD.out wc (B10.out.trans (B11.out.mono B10.out.size))) (ReadsE.nil wc none 0))
      rw [FA.out.2.2.2.2.2] at GN
      have HWC := hid hwc
      clear hb11 hr11 CA hwc
      go_upto_region 15 with fail
      rw [← HWC.out]
      go_wp2_with fail
      refine GN.out.mono ?_
      rintro e w12 ⟨rfl, hb12⟩
      have B12 := hid (B11.out.trans (hb12.mono B11.out.size))
      have d1 := C10.out.below B12.out C10.out.lt
      have d2 := C11.out.below hb12 C11.out.lt
      have D1 := hid d1
      have D2 := hid d2
      have x0 : w12.cell? ⟨w10.heap.size, 0, none⟩ = some (.int .i64 0) := by rw [d1.cell]; rfl
      have x1 : w12.cell? ⟨w10.heap.size, 1, none⟩ = some (.int .i64 0) := by rw [d1.cell]; rfl
      have x2 : w12.cell? ⟨w10.heap.size, 2, none⟩ = some (.int .i64 0) := by rw [d1.cell]; rfl
      have x3 : w12.cell? ⟨w10.heap.size, 3, none⟩ = some (.slice pf 0 cf) := by rw [d1.cell]; rfl
      have NT := hid (nothing_calls pf cf w12)
      clear hb12 GN d1 d2
      go_wp2_with fail
      refine NT.out.mono ?_
      rintro e w13 ⟨rfl, hb13⟩
      have d2 := D2.out.below hb13 D2.out.lt
      have y0 : w13.cell? ⟨w11.heap.size, 0, none⟩ = some (.int .i64 0) := by rw [d2.cell]; rfl
      have y1 : w13.cell? ⟨w11.heap.size, 1, none⟩ = some (.int .i64 0) := by rw [d2.cell]; rfl
      have y2 : w13.cell? ⟨w11.heap.size, 2, none⟩ = some (.int .i64 0) := by rw [d2.cell]; rfl
      have y3 : w13.cell? ⟨w11.heap.size, 3, none⟩ = some (.slice pg 0 cg) := by rw [d2.cell]; rfl
      have NT2 := hid (nothing_calls pg cg w13)
      have B13 := hid (B12.out.trans (hb13.mono B12.out.size))
      clear hb13 d2 NT x0 x1 x2 x3
      go_wp2_with fail
      refine NT2.out.mono ?_
      rintro e w14 ⟨rfl, hb14⟩
      have B14 := hid (B13.out.trans (hb14.mono B13.out.size))
      clear hb14 NT2 y0 y1 y2 y3
      go_wp2_with fail
      refine (AW.out _).mono ?_
      rintro e w15 ⟨rfl, hb15⟩
      have F := hid (FN.out w15 (B5.out.trans ((B10.out.trans ((B14.out.trans (hb15.mono B14.out.size)).mono B10.out.size)).mono B5.out.size)))
      clear hb15
      go_wp2
      first | exact F.out | (go_ret; exact F.out)
end Go.Proofs.Ytjhelinbjlahiaa
