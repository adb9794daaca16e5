/- CallSplits: the walk. -/
import Derived.Test.YtjhelinbjlahiaaJLs0
namespace Go.Proofs.Ytjhelinbjlahiaa
set_option linter.unusedSimpArgs false
set_option linter.unusedVariables false
open Go.RowKit
attribute [local go_sem] Oper.semAt_some
attribute [local go_sem ↓] Go.wp_at_zero Go.wp_at_succ

/-- append(nil, a part of what is read ...). -/
theorem part_app {w : World} {p : Option Addr} {n c : Nat} {l : List Int} (hv : SrcX encI 1 w (.slice p n c) l) {k : Nat} (hk : k ≤ n) (hk2 : k ≤ 5000) (B : Nat) (hB : B ≤ w.heap.size) :
    ∃ v' w', (Builtin.append_ #[24, 24] 24 #[.slice none 0 0, .slice p k c]).run Try.prog w = .ok v' w' ∧ RowI B w' v' (l.take k) ∧ Below B w w' := by
  rcases hv.form with ⟨h1, h2⟩ | ⟨a, c', h1, h2⟩
  · injection h1 with e1 e2 e3
    subst e1 e2 e3 h2
    obtain rfl : k = 0 := by omega
    refine ⟨.slice none 0 0, w, ?_, by simpa using OwnE.nil _ _, Below.refl _ _⟩
    obtain ⟨i, h1, _, _, _⟩ := info_of infoI64
    exact run_append_owned_none (P := Try.prog) (w := w) 0 _ _ _ i 1 undI64 h1 _ 0 [] (OwnE.nil (enc := encI) 0 w)
  · injection h1 with e1 e2 e3
    subst e1
    exact ints_take hv rfl hk hk2 B hB

set_option maxRecDepth 100000 in
set_option maxHeartbeats 8000000 in
theorem splits_law (w : World) (t0 : Int) (vf : Value) (fl : List Int) (hvf : ArgE encI 1 w vf fl) :
    Calls Try.prog 7 #[.int .i64 t0, vf] w fun e w' => e = .returned (.bool true) ∧ Below w.heap.size w w' := by
  obtain ⟨R, hR⟩ : ∃ R : Ending → World → Prop, R = fun e w' => e = .returned (.bool true) ∧ Below w.heap.size w w' := ⟨_, rfl⟩
  rw [← hR]
  have FN := hid (show ∀ w', Below w.heap.size w w' → R (.returned (.bool true)) w' from fun w' h => by rw [hR]; exact ⟨rfl, h⟩)
  clear hR
  have SRC := hid (hvf.src encI_len (by omega))
  obtain ⟨_, pf, cf, bf, off, hvv, hp3, hc3⟩ := hvf.reads
  have FORM := hid hvf.form
  obtain ⟨nf, hnf⟩ : ∃ nf, nf = fl.length := ⟨_, rfl⟩
  rw [← hnf] at hvv
  subst hvv
  have HNF := hid hnf
  have AW := hid awake_calls
  clear hvf hnf hp3 hc3
  go_enter Try.func7, Try.ntmps7
  have hnc : nf ≤ cf := by
    rcases FORM.out with q | ⟨a, n, c, q, q1, _⟩
    · injection q with e1 e2 e3; omega
    · injection q with e1 e2 e3; omega
  obtain ⟨k0, hk0⟩ : ∃ k0, k0 = min nf 40 := ⟨_, rfl⟩
  have hk4 : k0 ≤ 40 ∧ k0 ≤ nf := by omega
  have ek : min (nf : Int) (40 : Int) = (k0 : Int) := by omega
  have ek1 : (k0 : Int) ≤ (cf : Int) := by omega
  have ek0 : (0 : Int) ≤ (k0 : Int) := by omega
  have SRC2 := hid (fun (k : Nat) (h1 : k ≤ nf) (h2 : k ≤ 5000) => part_app (l := fl) (p := pf) (n := nf) (c := cf) SRC.out (k := k) h1 h2 w.heap.size (Nat.le_refl _))
  clear hk0 SRC FORM
  go_upto_if 22 with fail
  go_cut [5] (fun s5 wx => ∃ k : Nat, s5 = .slice pf k cf ∧ k ≤ nf ∧ k ≤ 4097 ∧ wx = w)
  case first =>
    by_cases hbig : 4096 < nf
    · have g1 : (4096 : Int) < (nf : Int) := by omega
      have g2 : (4097 : Int) ≤ (cf : Int) := by omega
      have g3 : 4097 ≤ nf := by omega
      clear hbig
      go_wp2
      go_meet
      exact ⟨4097, rfl, g3, by omega, rfl⟩
    · have g1 : ¬ (4096 : Int) < (nf : Int) := by omega
      clear hbig
      go_wp2
      go_meet
      exact ⟨k0, rfl, hk4.2, by omega, rfl⟩
  case rest =>
    obtain ⟨k, rfl, hk1, hk2, rfl⟩ := hcut
    obtain ⟨w1, rfl⟩ : ∃ w1 : World, w1 = wc := ⟨_, rfl⟩
    obtain ⟨v2, w2, r1, r2, r3⟩ := SRC2.out k hk1 (by omega)
    have R1 := hid r1
    have R2 := hid r2
    have B2 := hid r3
    have hFl : (fl.take k).length ≤ 4097 := by rw [List.length_take]; omega
    clear r1 r2 r3 SRC2 ek ek1 ek0 hk4
    go_upto_region 7 with (at_builtin; refine wpList_append_run rfl (.tmp 25) (.tmp 26) 24 rfl _ _ v2 w2 rfl rfl R1.out ?_)
    go_loopg [0, 6, 7] 2 (fun k s0 s6 s7 wx => ∃ (i : Nat) (t : Int) (F : List Int), i + k = 2 ∧ s7 = .int .i64 i ∧ s0 = .int .i64 t ∧ RowI w1.heap.size wx s6 F ∧ F.length ≤ 4097 ∧ Below w1.heap.size w1 wx)
    case atStart => exact ⟨0, t0, _, rfl, rfl, rfl, R2.out, hFl, B2.out⟩
    case round =>
      obtain ⟨i, t, F, hik, rfl, rfl, hr3, hF3, hb3⟩ := hrel
      have HIK := hid hik
      have R3 := hid hr3
      have B3 := hid hb3
      clear hik hr3 hb3
      by_cases hi : i = 2
      · subst hi
        go_wp2_with fail
        refine (AW.out _).mono ?_
        rintro e w5 ⟨rfl, hb5⟩
        have F := hid (FN.out w5 (B3.out.trans (hb5.mono B3.out.size)))
        clear hb5
        go_wp2
        first | exact F.out | (go_ret; exact F.out)
      · have gi : (i : Int) < 2 := by have := HIK.out; omega
        have hi2 : i < 2 := by omega
        obtain ⟨p3, c3, hv3, hh3⟩ := R3.out.form
        obtain ⟨m, hm⟩ : ∃ m, m = F.length := ⟨_, rfl⟩
        rw [← hm] at hv3 hF3
        subst hv3
        have HM := hid hm
        have SP := hid (splitf_calls (OwnE.reads encI_len R3.out (by rw [← HM.out]; omega)) t)
        have HH3 := hid hh3
        clear hi hm hh3
        go_wp2_with fail
        refine SP.out.mono ?_
        rintro e w5 ⟨⟨va, rfl, hra⟩, hb5⟩
        obtain ⟨pa, ca, hva, _⟩ := hra.form
        obtain ⟨na, hna⟩ : ∃ na, na = (splF t F).1.length := ⟨_, rfl⟩
        rw [← hna] at hva
        subst hva
        have HNA := hid hna
        clear hna
        have RA := hid hra
        have B5 := hid (B3.out.trans (hb5.mono B3.out.size))
        have RSP := hid (rsplit_calls (OwnE.reads encI_len (OwnE.below R3.out hb5) (by rw [← HM.out]; omega)) t)
        have B35 := hid hb5
        clear hra hb5 SP
        go_wp2_with fail
        refine RSP.out.mono ?_
        rintro e w6 ⟨⟨vb, rfl, hrb⟩, hb6⟩
        have B6 := hid (B5.out.trans (hb6.mono B5.out.size))
        have B36 := hid (B35.out.trans (hb6.mono B35.out.size))
        have RA6 := hid (OwnE.below RA.out hb6)
        have ALL := hid (splF_facts t F)
        have hal := ALL.out.2.1
        rw [← HM.out] at hal
        have LG := hid (longs_calls (OwnE.reads encI_len RA6.out (by omega)) (OwnE.reads encI_len hrb (by omega)))
        obtain ⟨A, hA⟩ : ∃ A, A = (splF t F).1 := ⟨_, rfl⟩
        obtain ⟨er, her⟩ : ∃ er, er = (splF t F).2 := ⟨_, rfl⟩
        rw [← hA] at ALL RA6 hal HNA
        rw [← her] at ALL
        have HA := hid hA
        have HE := hid her
        have g2 : (er != er) = false := by simp
        clear hb6 RSP hrb hA her RA
        go_upto_region 11 with fail
        rw [← HE.out]
        go_wp2_with fail
        refine LG.out.mono ?_
        rintro e w7 ⟨rfl, hb7⟩
        have B7 := hid (B6.out.trans (hb7.mono B6.out.size))
        have B37 := hid (B36.out.trans (hb7.mono B36.out.size))
        have RA7 := hid (OwnE.below RA6.out hb7)
        clear hb7 LG
        have hna4 : na ≤ m := by rw [HNA.out]; exact hal
        obtain ⟨hcap, hcq, hcase⟩ := own_cap R3.out
        clear hcq
        have HCASE := hid hcase
        clear hal hcase RA6
        go_upto_region 15 with fail
        go_loopg [12, 13] na (fun k s12 s13 wx => ∃ j : Nat, j + k = na ∧ s13 = .int .i64 j ∧ s12 = .int .i64 (sumI (A.take j)) ∧ Below w7.heap.size w7 wx)
        case atStart => exact ⟨0, by omega, rfl, rfl, Below.refl _ _⟩
        case round =>
          obtain ⟨j, hjk, rfl, rfl, hbx⟩ := hrel
          have HJK := hid hjk
          have BX := hid hbx
          clear hjk hbx
          by_cases hjn : j < na
          · have hjA : j < A.length := by rw [← HNA.out]; exact hjn
            have hjF : j < F.length := by rw [← HM.out]; omega
            obtain ⟨q1, q2, q3⟩ := ALL.out.2.2.1 j hjA hjF
            obtain ⟨pq, cq, ga, hvq, hpq, hcq⟩ := OwnE.cells encI_len RA7.out
            injection hvq with z1 z2 z3
            subst z1 z3
            clear z2
            obtain ⟨rfl, hg1, hg2⟩ := hpq (by omega)
            have c0 := (BX.out.cell (p := ⟨ga, j * 1 + 0, none⟩) hg2).trans (hcq j hjA 0 (by omega))
            rcases HCASE.out with ⟨_, hz, _⟩ | ⟨go, rfl, hgo, hrk⟩
            · omega
            have hrk3 := (hrk.kept (Kept.of_below (X := fun _ => False) B37.out) id).kept (Kept.of_below (X := fun _ => False) BX.out) id
            have c1 := hrk3.cell (i := j) (by omega)
            have hFj : F.getD j 0 = F[j] := by simp [hjF]
            rw [hFj] at c1
            simp [encI] at c0
            have lgo := hrk3.lt
            have hga := Nat.lt_of_lt_of_le hg2 BX.out.size
            have SN := hid (show sumI (A.take (j + 1)) = sumI (A.take j) + A[j] by rw [take_snoc hjA, sumI_snoc])
            have hsb : 0 ≤ sumI (A.take j) ∧ sumI (A.take j) ≤ 5000000000000 := by
              have := sumI_bound (l := A.take j) (fun y hy => by
                obtain ⟨y', hy', rfl⟩ := List.getElem_of_mem hy
                simp only [List.length_take] at hy'
                simp only [List.getElem_take]
                have := ALL.out.2.2.1 y' (by omega) (by rw [← HM.out]; omega)
                omega)
              rw [List.length_take] at this
              omega
            obtain ⟨x, hx⟩ : ∃ x, x = A[j] := ⟨_, rfl⟩
            obtain ⟨y, hy⟩ : ∃ y, y = F[j] := ⟨_, rfl⟩
            obtain ⟨s, hs⟩ : ∃ s, s = sumI (A.take j) := ⟨_, rfl⟩
            rw [← hx] at c0 q1 q2 SN
            rw [← hy] at c1 q2 q3
            rw [← hs] at SN hsb ⊢
            have gj : (j : Int) < (na : Int) := by omega
            have gj0 : (0 : Int) ≤ (j : Int) := by omega
            have gjm : (j : Int) < (m : Int) := by omega
            have ew : IntKind.i64.wrap (s + x) = s + x := IntWalk.i64_in _ (by omega)
            have n1 : ¬ x < 0 := by omega
            have n2 : ¬ y < x := by omega
            clear hx hy hs hcq hrk hrk3 hFj
            go_upto_region 18 with fail
            go_region
            all_goals go_wp2
            all_goals (
              go_roundg (na - (j + 1))
              · exact ⟨j + 1, by omega, by go_num, by rw [SN.out], BX.out.drew⟩
              · have := HJK.out; omega)
          · have hjn2 : j = na := by have := HJK.out; omega
            subst hjn2
            have g3 : ¬ (j : Int) < (j : Int) := by omega
            have hlt : A.take j = A := by rw [HNA.out, List.take_length]
            rw [hlt]
            have hall := ALL.out.1
            obtain ⟨sA, hsA⟩ : ∃ sA, sA = sumI A := ⟨_, rfl⟩
            rw [← hsA] at hall ⊢
            have B8 := hid (B7.out.trans (BX.out.mono B7.out.size))
            have B38 := hid (B37.out.trans (BX.out.mono B37.out.size))
            clear hlt hsA BX B7 B37 RA7
            obtain ⟨w8, rfl⟩ : ∃ w8 : World, w8 = wr := ⟨_, rfl⟩
            go_upto_region 20 with fail
            go_cut [87] (fun s87 wx => s87 = .bool false ∧ wx = w8)
            case first =>
              by_cases he0 : er = 0
              · obtain ⟨e1, _, _⟩ := hall he0
                subst e1
                have g4 : (er == 0) = true := by simpa using he0
                have g5 : (sA != sA) = false := by simp
                clear he0 hall
                go_wp2
                go_meet
                exact ⟨rfl, rfl⟩
              · have g4 : (er == 0) = false := by simpa using he0
                clear he0 hall
                go_wp2
                go_meet
                exact ⟨rfl, rfl⟩
            case rest =>
              obtain ⟨rfl, rfl⟩ := hcut
              obtain ⟨k4, hk4⟩ : ∃ k4, k4 = min m 40 := ⟨_, rfl⟩
              have hk40 : k4 ≤ 40 ∧ k4 ≤ m := by omega
              have ek : min (m : Int) (40 : Int) = (k4 : Int) := by omega
              have ek1 : (k4 : Int) ≤ (c3 : Int) := by omega
              have ek0 : (0 : Int) ≤ (k4 : Int) := by omega
              have T0 := hid (show (p3 = none ∧ k4 = 0 ∧ c3 = 0) ∨ ∃ g, p3 = some ⟨g, 0, none⟩ ∧ w1.heap.size ≤ g ∧ RowK wc g c3 k4 (fun k => F.getD k 0) from by
                rcases HCASE.out with ⟨q1, q2, q3⟩ | ⟨g, q1, q2, q3⟩
                · exact .inl ⟨q1, by omega, q3⟩
                · exact .inr ⟨g, q1, q2, (q3.less hk40.2).kept (Kept.of_below (X := fun _ => False) B38.out) id⟩)
              clear hk4 hall HCASE B38
              go_upto_region 25 with fail
              go_loopg [12, 14] k4 (fun k s12 s14 wx => ∃ (j : Nat) (h : Nat → Int) (s : Int), j + k = k4 ∧ s14 = .int .i64 j ∧ s12 = .int .i64 s ∧ 0 ≤ s ∧ s ≤ 50 * (j : Int) ∧ ((p3 = none ∧ k4 = 0 ∧ c3 = 0) ∨ ∃ g, p3 = some ⟨g, 0, none⟩ ∧ w1.heap.size ≤ g ∧ RowK wx g c3 k4 h) ∧ Below w1.heap.size w1 wx)
              case atStart => exact ⟨0, _, 0, by omega, rfl, rfl, by omega, by omega, T0.out, B8.out⟩
              case round =>
                obtain ⟨j, h, s, hjk, rfl, rfl, hs0, hs1, hrow, hbx⟩ := hrel
                have HJK := hid hjk
                have ROW := hid hrow
                have BX := hid hbx
                clear hjk hrow hbx T0 B8
                by_cases hjn : j < k4
                · rcases ROW.out with ⟨_, hz, _⟩ | ⟨g, rfl, hg, hrk⟩
                  · omega
                  have c0 := hrk.cell hjn
                  have f0 := hrk.froz j
                  have l0 := hrk.lt
                  obtain ⟨y, hy⟩ : ∃ y, y = h j := ⟨_, rfl⟩
                  rw [← hy] at c0
                  have ur := um_range y (k := 50) (by omega)
                  have e1 := um_tmod y 50
                  have e2 : IntKind.i64.wrap (um y 50) = um y 50 := IntWalk.i64_in _ (by omega)
                  have RK2 := hrk.set j (um y 50)
                  have c1 := RK2.cell (i := j) hjn
                  rw [if_pos rfl] at c1
                  have RK3 := hid RK2
                  have BX2 := hid (BX.out.trans ((set_kept wr g j (.int .i64 (um y 50))).below BX.out.size (fun k hk => by omega)))
                  have ew : IntKind.i64.wrap (s + um y 50) = s + um y 50 := IntWalk.i64_in _ (by omega)
                  have gj : (j : Int) < (k4 : Int) := by omega
                  have gj0 : (0 : Int) ≤ (j : Int) := by omega
                  clear hy hrk RK2
                  go_wp2
                  go_roundg (k4 - (j + 1))
                  · exact ⟨j + 1, _, s + um y 50, by omega, by go_num, rfl, by omega, by omega, .inr ⟨g, rfl, hg, RK3.out⟩, BX2.out⟩
                  · have := HJK.out; omega
                · have hjn2 : j = k4 := by have := HJK.out; omega
                  subst hjn2
                  have g6 : ¬ (j : Int) < (j : Int) := by omega
                  have RF := hid (show RowI w1.heap.size wr (.slice p3 j c3) ((List.range j).map h) from by
                    rcases ROW.out with ⟨rfl, hz, rfl⟩ | ⟨g, rfl, hg, hrk⟩
                    · subst hz; exact OwnE.nil _ _
                    · exact hrk.own (by simp) (fun k hk => by simp) hg)
                  have e1 : IntKind.i64.wrap (s + 1) = s + 1 := IntWalk.i64_in _ (by omega)
                  have e2 : IntKind.u64.wrap (s + 1) = s + 1 := IntWalk.u64_in _ (by omega)
                  have e3 := um_tmod t (s + 1)
                  have ur := um_range t (k := s + 1) (by omega)
                  have e4 : IntKind.i64.wrap (um t (s + 1)) = um t (s + 1) := IntWalk.i64_in _ (by omega)
                  have e5 : ¬ (s + 1 = 0) := by omega
                  go_wp2
                  go_roundg (2 - (i + 1))
                  · exact ⟨i + 1, _, _, by omega, by go_num, rfl, RF.out, by simp; omega, BX.out⟩
                  · have := HIK.out; omega
end Go.Proofs.Ytjhelinbjlahiaa
