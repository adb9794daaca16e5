/- The reference's Queue: walked. The reference's Depth: walked. -/
import Derived.Test.YtdjhpldiifdifaaJRw0
import Derived.Test.YtdjhpldiifdifaaJRq0
namespace Go.Proofs.Ytdjhpldiifdifaa
set_option linter.unusedSimpArgs false
set_option linter.unusedVariables false
open Go.RowKit Go.Shelf
attribute [local go_sem] Oper.semAt_some
attribute [local go_sem ↓] Go.wp_at_zero Go.wp_at_succ

set_option maxRecDepth 100000 in
set_option maxHeartbeats 8000000 in
theorem queue_rcalls (w : World) {v : Value} {L : List Rn} (h : RowR 0 w v L) (hn : L.length ≤ 100000) (nums turn paid s p : Int) {Q : List Rn} (hQ : QueR s p L Q) (hQl : Q.length ≤ 100000) :
    Calls Try.prog 27 #[rbV v nums turn paid, .int .i64 s, .int .i64 p] w fun e w' => ∃ u, e = .returned u ∧ RowI w.heap.size w' u (Q.map Rn.n) ∧ Below w.heap.size w w' := by
  obtain ⟨pp, cap, g, rfl, hpp, hc⟩ := h.rows
  have HC := hid hc
  have HP := hid hpp
  have HQ := hid hQ
  obtain ⟨R, hR⟩ : ∃ R : Ending → World → Prop, R = fun e w' => ∃ u, e = .returned u ∧ RowI w.heap.size w' u (Q.map Rn.n) ∧ Below w.heap.size w w' := ⟨_, rfl⟩
  have FIN := hid (show ∀ (u : Value) (w' : World), RowI w.heap.size w' u (Q.map Rn.n) → Below w.heap.size w w' → R (.returned u) w' by intro u w' hi hb; rw [hR]; exact ⟨u, rfl, hi, hb⟩)
  rw [← hR]
  have L0 := hid (LpB.start w (.slice pp L.length cap) nums turn paid)
  obtain ⟨n, hnn⟩ : ∃ n, n = L.length := ⟨_, rfl⟩
  have HN := hid hnn
  rw [← hnn] at hn L0 ⊢
  unfold rbV
  obtain ⟨qn, hqn⟩ : ∃ qn, qn = Q.length := ⟨_, rfl⟩
  have HQN := hid hqn
  rw [← hqn] at hQl
  clear hR h hpp hc hnn hQ hqn
  go_enter Try.func27, Try.ntmps27
  go_wp2
  go_loopg [7, 8] (qn + 1) (fun k s7 s8 wr => ∃ (j : Nat) (vo : Value) (ta : Int), vo = s7 ∧ j + k = qn + 1 ∧ j ≤ qn ∧ s8 = .int .i64 ta ∧ ta = turnT Q j ∧ RowI w.heap.size wr vo ((Q.take j).map Rn.n) ∧ LpB w (.slice pp n cap) nums turn paid wr)
  case atStart => exact ⟨0, _, 0, rfl, by omega, by omega, rfl, rfl, OwnE.nil _ _, L0.out⟩
  case round =>
    obtain ⟨j, vo, ta, rfl, hjk, hjt, rfl, hta, ro, lp⟩ := hrel
    have LP := hid lp
    have RO := hid ro
    have HJK := hid hjk
    have NX := hid (queR_next HQ.out (j := j) (by rw [← HQN.out]; exact hjt))
    rw [← hta] at NX
    obtain ⟨C, hC⟩ : ∃ C, C = cQ s p ta := ⟨_, rfl⟩
    obtain ⟨P, hP⟩ : ∃ P, P = tR := ⟨_, rfl⟩
    rw [← hC, ← hP] at NX
    have HCR := hid hC
    have HPR := hid hP
    clear lp ro hjk hta hC hP
    obtain ⟨wo, rfl⟩ : ∃ wo : World, wo = wr := ⟨_, rfl⟩
    go_upto_block 2 with fail
    go_cut [9] (fun s9 wx => s9 = .int .i64 (optI (bestI C P L L.length)) ∧ RowI w.heap.size wx vo ((Q.take j).map Rn.n) ∧ LpB w (.slice pp n cap) nums turn paid wx)
    case first =>
      go_wp2_with fail
      go_loopg [9, 10] n (fun k s9 s10 wr => ∃ i : Nat, i + k = n ∧ s10 = .int .i64 i ∧ s9 = .int .i64 (optI (bestI C P L i)) ∧ RowI w.heap.size wr vo ((Q.take j).map Rn.n) ∧ LpB w (.slice pp n cap) nums turn paid wr)
      case atStart => exact ⟨0, by omega, rfl, rfl, RO.out, LP.out⟩
      case round =>
        obtain ⟨i, hik, rfl, rfl, ri, li⟩ := hrel
        have RI := hid ri
        have LI := hid li
        have HIK := hid hik
        obtain ⟨t0, _, _, _, hwl⟩ := li.cell
        clear ri li hik NX
        by_cases hin : i < n
        · have hil : i < L.length := by rw [← HN.out]; exact hin
          obtain ⟨rfl, hg⟩ := HP.out (by omega)
          obtain ⟨c0, c1, c2, c3, c4, c5, c6, c7, c8, c9, c10, c11, c12⟩ := HC.out wr LI.out.below i hil
          obtain ⟨x, hx⟩ : ∃ x, x = L[i] := ⟨_, rfl⟩
          rw [← hx] at c0 c1 c2 c3 c4 c5 c6 c7 c8 c9 c10 c11 c12
          have HX := hid hx
          have hgr : g < wr.heap.size := Nat.lt_of_lt_of_le hg LI.out.below.size
          have LA := hid (LI.out.alloc (.cells (encRn x).toArray 53))
          have RA := hid (OwnE.alloc RI.out (.cells (encRn x).toArray 53))
          have CA := hid (Cells.new wr (encRn x).toArray 53)
          unfold encRn at LA RA CA
          obtain ⟨wa, hwa⟩ : ∃ wa, wa = wr.alloc (.cells #[.int .i64 x.n, .int .i64 x.o.m, .int .i64 x.o.s, .int .i64 x.o.k, .int .i64 x.o.f, .int .i64 x.o.p, .int .i64 x.o.t, .int .i64 x.o.q, .int .i64 x.o.pk, .int .i64 x.l, .int .i64 x.h, .bool x.w, .int .i64 x.t] 53) := ⟨_, rfl⟩
          have HWA := hid hwa
          rw [← hwa] at LA RA CA
          have a1 : wa.cell? ⟨wr.heap.size, 2, none⟩ = some (.int .i64 x.o.s) := by rw [CA.out.cell]; rfl
          have a2 : wa.cell? ⟨wr.heap.size, 5, none⟩ = some (.int .i64 x.o.p) := by rw [CA.out.cell]; rfl
          have a3 : wa.cell? ⟨wr.heap.size, 12, none⟩ = some (.int .i64 x.t) := by rw [CA.out.cell]; rfl
          have a4 : wa.cell? ⟨wr.heap.size, 11, none⟩ = some (.bool x.w) := by rw [CA.out.cell]; rfl
          have al := CA.out.lt
          obtain ⟨t0', _, _, _, hwl'⟩ := LA.out.cell
          have gwa : g < wa.heap.size := Nat.lt_trans hgr al
          have CW := hid (HC.out wa LA.out.below)
          obtain ⟨D, hD⟩ : ∃ D, D = C x := ⟨_, rfl⟩
          obtain ⟨bz, hbz⟩ : ∃ bz, bz = optI (bestI C P L i) := ⟨_, rfl⟩
          rw [← hbz]
          have HBZ := hid hbz
          clear hbz
          have HD := hid hD
          rw [HCR.out] at hD
          unfold cQ cPr at hD
          clear hx hwa
          go_upto_region 8 with fail
          rw [← HWA.out]
          clear c0 c1 c2 c3 c4 c5 c6 c7 c8 c9 c10 c11 c12
          go_cut [61] (fun s61 wx => ∃ tv, s61 = .bool tv ∧ QT C P L i x tv ∧ RowI w.heap.size wx vo ((Q.take j).map Rn.n) ∧ LpB w (.slice (some ⟨g, 0, none⟩) n cap) nums turn paid wx)
          case first =>
            cases hw : x.w with
            | true =>
              rw [hw] at a4 hD
              obtain rfl : D = false := by rw [hD]; rfl
              clear hD
              go_big_quiet (fail)
              go_wp2
              go_meet
              exact ⟨_, rfl, .no HD.out.symm, RA.out.drewN _, LA.out.drewN _⟩
            | false =>
              rw [hw] at a4 hD
              by_cases h1 : x.o.s = s
              · have g1 : (x.o.s == s) = true := by simpa using h1
                by_cases h2 : x.o.p = p
                · have g2 : (x.o.p == p) = true := by simpa using h2
                  by_cases h3 : ta < x.t
                  · have g3 : decide (ta < x.t) = true := by simpa using h3
                    obtain rfl : D = true := by rw [hD]; simp [h1, h2, h3]
                    clear hD h1 h2 h3
                    cases hb : bestI C P L i with
                    | none =>
                      have HB := hid hb
                      have g4 : decide ((-1 : Int) < 0) = true := by decide
                      obtain rfl : bz = -1 := by rw [HBZ.out, hb]; rfl
                      clear hb
                      go_big_quiet (fail)
                      go_wp2
                      go_meet
                      exact ⟨_, rfl, .one HD.out.symm HB.out, RA.out.drewN _, LA.out.drewN _⟩
                    | some b =>
                      obtain ⟨hb1, hbl⟩ := bestI_lt hb
                      obtain ⟨_, _, _, _, _, _, _, _, _, _, _, _, d12⟩ := CW.out b hbl
                      obtain ⟨y, hy⟩ : ∃ y, y = L[b] := ⟨_, rfl⟩
                      rw [← hy] at d12
                      have HY := hid hy
                      have HB := hid hb
                      have g4 : decide ((b : Int) < 0) = false := by simp
                      have g5 : (0 : Int) ≤ (b : Int) := by omega
                      have g6 : (b : Int) < (n : Int) := by omega
                      have g7 : b < n := by omega
                      have gb : ((b : Int)).toNat = b := by omega
                      obtain rfl : bz = (b : Int) := by rw [HBZ.out, hb]; rfl
                      clear hb hy
                      obtain ⟨T, hT⟩ : ∃ T, T = P x y := ⟨_, rfl⟩
                      have HT := hid hT
                      rw [HPR.out] at hT
                      unfold tR at hT
                      subst hT
                      go_big_quiet (fail)
                      go_wp2
                      go_meet
                      exact ⟨_, rfl, by rw [HT.out, HY.out]; exact .two b hbl HD.out.symm HB.out, RA.out.drewN _, LA.out.drewN _⟩
                  · have g3 : decide (ta < x.t) = false := by simpa using h3
                    obtain rfl : D = false := by rw [hD]; simp [h3]
                    clear hD h1 h2 h3
                    go_big_quiet (fail)
                    go_wp2
                    go_meet
                    exact ⟨_, rfl, .no HD.out.symm, RA.out.drewN _, LA.out.drewN _⟩
                · have g2 : (x.o.p == p) = false := by simpa using h2
                  obtain rfl : D = false := by rw [hD]; simp [h2]
                  clear hD h1 h2
                  go_big_quiet (fail)
                  go_wp2
                  go_meet
                  exact ⟨_, rfl, .no HD.out.symm, RA.out.drewN _, LA.out.drewN _⟩
              · have g1 : (x.o.s == s) = false := by simpa using h1
                obtain rfl : D = false := by rw [hD]; simp [h1]
                clear hD h1
                go_big_quiet (fail)
                go_wp2
                go_meet
                exact ⟨_, rfl, .no HD.out.symm, RA.out.drewN _, LA.out.drewN _⟩
          case rest =>
            obtain ⟨tv, rfl, hq, r2, l2⟩ := hcut
            have R2 := hid r2
            have L2 := hid l2
            clear r2 l2 hD
            obtain ⟨be, hbe⟩ : ∃ be, be = optI (bestI C P L (i + 1)) := ⟨_, rfl⟩
            have key : (tv = false ∧ be = bz) ∨ (tv = true ∧ be = i) := by
              cases hq with
              | no h => exact .inl ⟨rfl, by rw [hbe, HBZ.out, best_skip hil (by rw [← HX.out]; exact h)]⟩
              | one h1 h2 => exact .inr ⟨rfl, by rw [hbe, best_first hil (by rw [← HX.out]; exact h1) h2]; rfl⟩
              | two b hb h1 h2 =>
                cases hT : P x L[b] with
                | false => exact .inl ⟨rfl, by rw [hbe, HBZ.out, best_keep hil (by rw [← HX.out]; exact h1) h2 hb (by rw [← HX.out]; exact hT), h2]⟩
                | true => exact .inr ⟨rfl, by rw [hbe, best_take hil (by rw [← HX.out]; exact h1) h2 hb (by rw [← HX.out]; exact hT)]; rfl⟩
            have HBE := hid hbe
            clear hq hbe
            rcases key with ⟨rfl, kb⟩ | ⟨rfl, kb⟩
            · have KB := hid kb
              clear kb
              go_wp2
              go_roundg (n - (i + 1))
              · exact ⟨i + 1, by omega, by go_num, by rw [← HBE.out, KB.out], R2.out, L2.out⟩
              · have := HIK.out; omega
            · have KB := hid kb
              clear kb
              go_wp2
              go_roundg (n - (i + 1))
              · exact ⟨i + 1, by omega, by go_num, by rw [← HBE.out, KB.out], R2.out, L2.out⟩
              · have := HIK.out; omega
        · have hin' : i = n := by have := HIK.out; omega
          subst hin'
          have g1 : decide ((i : Int) < (i : Int)) = false := by simp
          go_wp2
          go_meet
          exact ⟨by rw [← HN.out], RI.out, LI.out⟩
    case rest =>
      obtain ⟨rfl, ro2, lp2⟩ := hcut
      have RO2 := hid ro2
      have LP2 := hid lp2
      obtain ⟨t0, _, _, _, hwl⟩ := lp2.cell
      clear ro2 lp2
      obtain ⟨pv, cv, hvo, _⟩ := RO2.out.form
      generalize ((Q.take j).map Rn.n).length = mv at hvo
      subst hvo
      rcases NX.out with ⟨hjq, hbn⟩ | ⟨hjl, i, hi, hbn, hLi⟩
      · rw [hbn, show optI none = -1 from rfl]
        have g1 : decide ((-1 : Int) < 0) = true := by decide
        have HF := hid (show RowI w.heap.size wc (.slice pv mv cv) (Q.map Rn.n) by have := RO2.out; rw [hjq, List.take_length] at this; exact this)
        clear hbn hjq NX
        go_wp2
        exact FIN.out _ _ HF.out LP2.out.below
      · rw [hbn, show optI (some i) = (i : Int) from rfl]
        obtain ⟨rfl, hg⟩ := HP.out (by omega)
        obtain ⟨c0, _, _, _, _, _, _, _, _, _, _, _, c12⟩ := HC.out wc LP2.out.below i hi
        obtain ⟨x, hx⟩ : ∃ x, x = L[i] := ⟨_, rfl⟩
        rw [← hx] at c0 c12
        have HX := hid (show x = Q[j] by rw [hx, hLi])
        have hin : i < n := by rw [HN.out]; exact hi
        have hjq : j < qn := by rw [HQN.out]; exact hjl
        have g4 : decide ((i : Int) < 0) = false := by simp
        have g5 : (0 : Int) ≤ (i : Int) := by omega
        have g6 : (i : Int) < (n : Int) := by omega
        have gb : ((i : Int)).toNat = i := by omega
        have hgr : g < wc.heap.size := Nat.lt_of_lt_of_le hg LP2.out.below.size
        have e2 : (Q.take (j + 1)).map Rn.n = (Q.take j).map Rn.n ++ [x.n] := by rw [List.take_succ_eq_append_getElem hjl, List.map_append, HX.out]; rfl
        have e3 : turnT Q (j + 1) = x.t := by rw [turnT_succ hjl, HX.out]
        obtain ⟨v2, w2, r2, q2, k2, _⟩ := ri_append (OwnE.alloc RO2.out (.cells #[.int .i64 x.n] 3)) (Nat.le_trans LP2.out.below.size (by simp)) (SrcE.one (a := x.n) (enc := encI) (sz := 1) (Cells.new wc #[.int .i64 x.n] 3)) (by rw [List.length_map, List.length_take]; simp; omega) 60
        have lp3 : LpB w (.slice (some ⟨g, 0, none⟩) n cap) nums turn paid w2 := by
          have l1 := LP2.out.alloc (.cells #[.int .i64 x.n] 3)
          exact ⟨l1.below.trans (k2.below (B := w.heap.size) l1.below.size (fun k e => own_ge (OwnE.alloc RO2.out (.cells #[.int .i64 x.n] 3)) k e.symm)), l1.top.kept k2 (fun e => row_ne (OwnE.alloc RO2.out (.cells #[.int .i64 x.n] 3)) l1.top (by decide) _ e.symm rfl)⟩
        rw [← e2] at q2
        obtain ⟨p2, c2, hv2, _⟩ := q2.form
        generalize ((Q.take (j + 1)).map Rn.n).length = m2 at hv2
        subst hv2
        have R2 := hid r2
        have Q2 := hid q2
        have LP3 := hid lp3
        have E3 := hid e3
        obtain ⟨u0, _, _, _, hul⟩ := lp3.cell
        obtain ⟨_, _, _, _, _, _, _, _, _, _, _, _, d12⟩ := HC.out w2 LP3.out.below i hi
        rw [← hx] at d12
        have hg2 : g < w2.heap.size := Nat.lt_of_lt_of_le hg LP3.out.below.size
        clear r2 q2 k2 lp3 e2 e3 hbn hLi hx NX
        go_wp2_with (at_builtin; refine wpList_append_run rfl (.tmp 66) (.tmp 73) 60 rfl _ _ (.slice p2 m2 c2) w2 rfl rfl R2.out ?_)
        go_roundg (qn - j)
        · exact ⟨j + 1, _, _, rfl, by omega, by omega, rfl, E3.out.symm, Q2.out, LP3.out⟩
        · have := HJK.out; omega
end Go.Proofs.Ytdjhpldiifdifaa
namespace Go.Proofs.Ytdjhpldiifdifaa
set_option linter.unusedSimpArgs false
set_option linter.unusedVariables false
open Go.RowKit Go.Shelf
attribute [local go_sem] Oper.semAt_some
attribute [local go_sem ↓] Go.wp_at_zero Go.wp_at_succ

theorem infoLr : (Try.prog.info? 71).map (fun i => (i.zero, i.size, i.bytes)) = some (some (.agg #[.int .i64 0, .int .i64 0, .int .i64 0]), 3, 24) := by kernel_rfl
theorem undLr : Try.prog.underlying 66 = some (.slice 71) := by kernel_rfl
abbrev RowLr (B : Nat) (w : World) (v : Value) (l : List Lw) : Prop := OwnE encLw 3 71 B w v l
theorem lr_append {B : Nat} {w : World} {v : Value} {l : List Lw} (h : RowLr B w v l) (hB : B ≤ w.heap.size) {u : Value} {m : List Lw} (hu : SrcE encLw 3 w u m) (hn : l.length + m.length ≤ 1000000) (ty : TypeId) :
    ∃ v' w', (Builtin.append_ #[66, 66] ty #[v, u]).run Try.prog w = .ok v' w' ∧ RowLr B w' v' (l ++ m) ∧ Kept (fun k => some k = v.ownBlock) w w' ∧ (v'.ownBlock = v.ownBlock ∨ v'.ownBlock = some w.heap.size) :=
  own_append undLr infoLr rfl (by decide) (fun _ => rfl) encLw_one h hB hu (by unfold maxLen; omega) (by omega)

/-- The board, its copy, what is left in the copy, and what was found. -/
structure DpS (w : World) (V : Value) (nums turn paid : Int) (cb : Nat) (wr : World) (v' : Value) (L' : List Rn) (vo : Value) (T : List Lw) : Prop where
  lp : LpB w V nums turn paid wr
  lt : w.heap.size < cb
  c : Cells wr cb #[v', .int .i64 nums, .int .i64 turn, .int .i64 paid] 49
  row : RowR w.heap.size wr v' L'
  out : RowLr w.heap.size wr vo T
theorem DpS.after {w : World} {V : Value} {nums turn paid : Int} {cb : Nat} {wr w' : World} {v' : Value} {L' : List Rn} {vo : Value} {T : List Lw} (h : DpS w V nums turn paid cb wr v' L' vo T) (hb : Below wr.heap.size wr w') : DpS w V nums turn paid cb w' v' L' vo T :=
  ⟨h.lp.after hb, h.lt, h.c.below hb h.c.lt, OwnE.below h.row hb, OwnE.below h.out hb⟩
theorem DpS.put {w : World} {V : Value} {nums turn paid : Int} {cb : Nat} {wr : World} {v' v2 : Value} {L' L2 : List Rn} {vo : Value} {T : List Lw} (h : DpS w V nums turn paid cb wr v' L' vo T) (hr : RowR w.heap.size wr v2 L2) : DpS w V nums turn paid cb (wr.setCell ⟨cb, 0, none⟩ v2) v2 L2 vo T := by
  have hk : Kept (fun k => k = cb) wr (wr.setCell ⟨cb, 0, none⟩ v2) := (Kept.refl (fun k => k = cb) wr).set (C := cb) rfl 0 _
  have hlt := h.lt
  refine ⟨⟨h.lp.below.trans (hk.below (B := w.heap.size) h.lp.below.size (fun k e => by omega)), h.lp.top.kept hk (by omega)⟩, h.lt, ?_, OwnE.set hr h.c (by decide) 0 _, OwnE.set h.out h.c (by decide) 0 _⟩
  exact h.c.set 0 v2
theorem DpS.cell {w : World} {V : Value} {nums turn paid : Int} {cb : Nat} {wr : World} {v' : Value} {L' : List Rn} {vo : Value} {T : List Lw} (h : DpS w V nums turn paid cb wr v' L' vo T) : wr.cell? ⟨cb, 0, none⟩ = some v' ∧ wr.cell? ⟨cb, 1, none⟩ = some (.int .i64 nums) ∧ wr.cell? ⟨cb, 2, none⟩ = some (.int .i64 turn) ∧ wr.cell? ⟨cb, 3, none⟩ = some (.int .i64 paid) ∧ cb < wr.heap.size ∧ wr.frozen? ⟨cb, 0, none⟩ = false := by
  refine ⟨?_, ?_, ?_, ?_, h.c.lt, h.c.frozen 0⟩ <;> (rw [h.c.cell]; rfl)
/-- Within a level. -/
structure DpI (side N turn : Int) (C : List Rn) (p : Int) (hr : Half) (q : List En) (L' : List Rn) : Prop where
  sd : ∃ A, SdR side N turn C (consH p q hr) A L'
  len : L'.length ≤ 100000
theorem DpI.next {side N turn : Int} {C : List Rn} {p : Int} {hr : Half} {q : List En} {L' : List Rn} (d : DpI side N turn C p hr q L') (ho : ∀ y, frontH hr = some y → y.o.p ≠ p) (hq : ∀ e ∈ q, e.o.p = p) :
    (q = [] ∧ (frontR L' side = none ∨ ∃ (i : Nat) (hi : i < L'.length), frontR L' side = some i ∧ L'[i].o.p ≠ p)) ∨
    ∃ (y : En) (q' : List En) (i : Nat) (hi : i < L'.length), q = y :: q' ∧ frontR L' side = some i ∧ L'[i].o.p = p ∧ DpI side N turn C p hr q' (L'.eraseIdx i) := by
  obtain ⟨A, sd⟩ := d.sd
  cases q with
  | nil =>
    refine .inl ⟨rfl, ?_⟩
    have e : consH p [] hr = hr := rfl
    rw [e] at sd
    rcases sd.front with ⟨_, h2⟩ | ⟨r, A', i, hi, _, h2, h3, h4, _⟩
    · exact .inl h2
    · refine .inr ⟨i, hi, h2, ?_⟩
      rw [h3]
      exact ho r.en h4
  | cons y q' =>
    right
    rcases sd.front with ⟨h1, _⟩ | ⟨r, A', i, hi, _, h2, h3, h4, _, h6⟩
    · unfold consH at h1
      rw [if_neg (by simp)] at h1
      cases h1
    · rw [frontH_consH] at h4
      cases h4
      rw [popH_consH] at h6
      refine ⟨_, q', i, hi, rfl, h2, by rw [h3]; exact hq r.en List.mem_cons_self, ⟨A', h6⟩, ?_⟩
      have := d.len
      rw [List.length_eraseIdx]
      split <;> omega
theorem rel_h {S : Bd} {x : Rb} (hS : BdOk S) (hR : Rel S x) : ∀ e ∈ x.L, 0 ≤ e.h ∧ e.h ≤ 1000000000 := by
  intro e he
  have h1 := (hR.live.mem_iff (a := e.en)).1 (List.mem_map.2 ⟨e, he, rfl⟩)
  have key : ∀ {s : Int} {e : En}, EnOk s S.nums e → 0 ≤ e.h ∧ e.h ≤ 1000000000 := fun h => by
    have := okQ h.ok; have := h.l; have := h.h; omega
  unfold Bd.live at h1
  rcases List.mem_append.1 h1 with h | h
  · exact key (hS.buy.mem _ h)
  · rcases List.mem_append.1 h with h | h
    · exact key (hS.sell.mem _ h)
    · have k := hS.wait _ h
      have e1 : e.h = 0 := k.h
      omega
theorem half_len {side nums : Int} : ∀ {h : Half}, HOk side nums h → h.length ≤ h.all.length
  | [], _ => Nat.le_refl _
  | (p, q) :: r, hh => by
    have h1 := hh.full (p, q) List.mem_cons_self
    have h2 := half_len hh.tail
    rw [all_cons, List.length_append, List.length_cons]
    have : 0 < q.length := List.length_pos_iff.2 h1
    omega
theorem levsF_get {h : Half} {j : Nat} (hj : j < h.length) : (levsF h).take (j + 1) = (levsF h).take j ++ [(h[j].1, shownL h[j].2, h[j].2.length)] := by
  rw [List.take_succ_eq_append_getElem (by simpa [levsF] using hj)]
  simp [levsF]

set_option maxRecDepth 100000 in
set_option maxHeartbeats 20000000 in
theorem depth_rgen (w : World) {v : Value} {x : Rb} (hv : RowR 0 w v x.L) {side NN : Int} {h : Half} {A0 C : List Rn} (sd0 : SdR side NN x.turn C h A0 x.L) (shr : ∀ p q, (p, q) ∈ h → shS side p x.L = shownL q ∧ shC side p x.L = q.length) (hx : ∀ e ∈ x.L, 0 ≤ e.h ∧ e.h ≤ 1000000000) (hlen : x.L.length ≤ 4096) (most : Int) :
    Calls Try.prog 25 #[rbV v x.nums x.turn x.paid, .int .i64 side, .int .i64 most] w fun e w' => ∃ u, e = .returned u ∧ RowLr w.heap.size w' u ((levsF h).take most.toNat) ∧ Below w.heap.size w w' := by
  have SHR := hid shr
  have HX := hid hx
  have HOKH := hid sd0.ok
  have SD0 := hid sd0
  have HLEN := hid hlen
  have hhl : h.length ≤ 4096 := by
    have h1 := half_len HOKH.out
    have h2 := sd0.sr.en
    have h3 := sd0.pm.length_eq
    have h4 := congrArg List.length h2
    rw [List.length_map] at h4
    rw [List.length_append] at h3
    omega
  have HHL := hid hhl
  obtain ⟨p0, cap0, g0, hv0, hp0, hc0⟩ := hv.rows
  obtain ⟨T, hT⟩ : ∃ T, T = levsF h := ⟨_, rfl⟩
  have HTL := hid (show T.length = h.length by rw [hT]; simp [levsF])
  have HT := hid hT
  obtain ⟨R, hRR⟩ : ∃ R : Ending → World → Prop, R = fun e w' => ∃ u, e = .returned u ∧ RowLr w.heap.size w' u (T.take most.toNat) ∧ Below w.heap.size w w' := ⟨_, rfl⟩
  have FIN := hid (show ∀ (u : Value) (w' : World), RowLr w.heap.size w' u (T.take most.toNat) → Below w.heap.size w w' → R (.returned u) w' by intro u w' hi hb; rw [hRR]; exact ⟨u, rfl, hi, hb⟩)
  rw [← hT, ← hRR]
  obtain ⟨L, nums, turn, paid⟩ := x
  simp only at *
  have HV := hid hv
  have L0 := hid (LpB.start w v nums turn paid)
  have CP := hid (copy_rcalls (w.alloc (.cells #[v, .int .i64 nums, .int .i64 turn, .int .i64 paid] 49)) (OwnE.below hv L0.out.below) (by omega) nums turn paid)
  rw [hv0] at L0 CP HV ⊢
  obtain ⟨NL, hNL⟩ : ∃ NL, NL = L.length := ⟨_, rfl⟩
  rw [← hNL] at L0 CP HV ⊢
  unfold rbV at CP ⊢
  have HNL := hid hNL
  clear hRR hT hv hv0 hp0 hc0 shr hx sd0 hlen hhl hNL
  go_enter Try.func25, Try.ntmps25
  obtain ⟨t0, t1, t2, t3, tl⟩ := L0.out.cell
  obtain ⟨wb, hwb⟩ : ∃ wb, wb = w.alloc (.cells #[.slice p0 NL cap0, .int .i64 nums, .int .i64 turn, .int .i64 paid] 49) := ⟨_, rfl⟩
  have HWB := hid hwb
  rw [← hwb] at L0 CP t0 t1 t2 t3 tl
  clear hwb
  go_wp2_with fail
  rw [← HWB.out]
  refine CP.out.mono ?_
  rintro e w4 ⟨v1, rfl, hr4, hb4⟩
  obtain ⟨p1, cap1, _, rfl, _, _⟩ := hr4.rows
  rw [← HNL.out] at hr4 ⊢
  have L4 := hid (L0.out.after hb4)
  have hbs : wb.heap.size ≤ w4.heap.size := hb4.size
  have D0 := hid (show DpS w (.slice p0 NL cap0) nums turn paid w4.heap.size (w4.alloc (.cells #[.slice p1 NL cap1, .int .i64 nums, .int .i64 turn, .int .i64 paid] 49)) (.slice p1 NL cap1) L (.slice none 0 0) [] from
    ⟨L4.out.alloc _, by omega, Cells.new _ _ _, OwnE.alloc (hr4.mono (by omega)) _, OwnE.nil _ _⟩)
  obtain ⟨cb, hcb⟩ : ∃ cb, cb = w4.heap.size := ⟨_, rfl⟩
  rw [← hcb] at D0
  have HCB := hid hcb
  clear hr4 hb4 hbs t0 t1 t2 t3 tl CP L0 L4 hcb
  go_wp2_with fail
  rw [← HCB.out]
  go_loopg [7] (h.length + 1) (fun k s7 wr => ∃ (j : Nat) (vo v' : Value) (L' : List Rn) (A : List Rn), vo = s7 ∧ j + k = h.length + 1 ∧ j ≤ h.length ∧ j ≤ most.toNat ∧ DpS w (.slice p0 NL cap0) nums turn paid cb wr v' L' vo (T.take j) ∧ SdR side NN turn C (h.drop j) A L' ∧ L'.length ≤ 100000)
  case atStart => exact ⟨0, _, _, L, A0, rfl, by omega, by omega, by omega, D0.out, SD0.out, by have := HLEN.out; omega⟩
  case round =>
    obtain ⟨j, vo, v', L', A, rfl, hjk, hjh, hjm, ds, sd, hl'⟩ := hrel
    have DS := hid ds
    have SD := hid sd
    have HJK := hid hjk
    have HL := hid hl'
    have hTj : (T.take j).length = j := by rw [List.length_take, HTL.out]; omega
    have HTJ := hid hTj
    obtain ⟨pv, cv, hvo, _⟩ := ds.out.form
    rw [hTj] at hvo
    subst hvo
    obtain ⟨p', cap', g', rfl, hp', hc'⟩ := ds.row.rows
    obtain ⟨n', hn'⟩ : ∃ n', n' = L'.length := ⟨_, rfl⟩
    rw [← hn'] at DS hp'
    have HN := hid hn'
    have HP' := hid hp'
    have HC' := hid hc'
    have FR := hid (front_rcalls wr (ds.row.mono (Nat.zero_le _)) hl' nums turn paid side)
    rw [← hn'] at FR
    unfold rbV at FR
    obtain ⟨c0, c1, c2, c3, cl, _⟩ := DS.out.cell
    clear hjk ds sd hl' hTj hp' hc' hn'
    by_cases hjm2 : (j : Int) < most
    · go_wp2_with fail
      refine FR.out.mono ?_
      rintro e w5 ⟨rfl, hb5⟩
      have DS5 := hid (DS.out.after hb5)
      have HB5 := hid hb5
      rcases SD.out.front with ⟨h1, h2⟩ | ⟨r, A', i, hi, hA, h2, h3, h4, h5, h6⟩
      · rw [h2, show optI none = -1 from rfl]
        have g2 : decide ((-1 : Int) < 0) = true := by decide
        have FN := hid (FIN.out (.slice pv j cv) w5 (by
          have h7 := DS5.out.out
          have h8 := congrArg List.length h1
          rw [List.length_drop, List.length_nil] at h8
          rw [List.take_of_length_le (by rw [HTL.out]; omega)] at h7
          rw [List.take_of_length_le (by rw [HTL.out]; omega)]
          exact h7) DS5.out.lp.below)
        clear h1 h2 hb5
        go_wp2
        exact FN.out
      · rw [h2, show optI (some i) = (i : Int) from rfl]
        have g2 : decide ((i : Int) < 0) = false := by simp
        have g3 : decide (0 ≤ (i : Int)) = true := by simp
        have g4 : (0 : Int) ≤ (i : Int) := by omega
        have hin : i < n' := by rw [HN.out]; exact hi
        have g5 : (i : Int) < (n' : Int) := by omega
        have gb : ((i : Int)).toNat = i := by omega
        obtain ⟨rfl, hg⟩ := HP'.out (by omega)
        obtain ⟨_, _, _, _, _, k5, _⟩ := HC'.out w5 hb5 i hi
        rw [h3] at k5
        have hg5 : g' < w5.heap.size := Nat.lt_of_lt_of_le hg hb5.size
        obtain ⟨d0, d1, d2, d3, dl, df⟩ := DS5.out.cell
        have hjl : j < h.length := by
          refine Nat.not_le.1 fun hle => ?_
          rw [List.drop_of_length_le hle] at h4
          cases h4
        have hdr : h.drop j = h[j] :: h.drop (j + 1) := List.drop_eq_getElem_cons hjl
        obtain ⟨⟨p, q⟩, hpq⟩ : ∃ z, z = h[j] := ⟨_, rfl⟩
        rw [← hpq] at hdr
        have hok := SD.out.ok
        have hqp : ∀ e ∈ q, e.o.p = p := fun e he => hok.price (p, q) (by rw [hdr]; exact List.mem_cons_self) e he
        have hrp : r.o.p = p := by
          rw [hdr] at h4
          have : q.head? = some r.en := h4
          exact hqp r.en (List.mem_of_mem_head? this)
        have hcon := consH_full hok hdr
        have DI0 := hid (show DpI side NN turn C p (h.drop (j + 1)) q L' from ⟨⟨A, by have := SD.out; rw [hcon] at this; exact this⟩, HL.out⟩)
        have HO := hid (fun y hy => other_price hok hdr (y := y) hy)
        have HQP := hid hqp
        obtain ⟨e1, e2⟩ := SHR.out p q (by rw [hpq]; exact List.getElem_mem hjl)
        have SH := hid (fun (wx : World) (hb : Below w.heap.size w wx) => shown_rcalls wx (OwnE.below HV.out hb) (by have := HLEN.out; omega) nums turn paid side p HX.out)
        rw [e1, e2] at SH
        unfold rbV at SH
        have HT2 := hid (show T.take (j + 1) = T.take j ++ [(p, shownL q, q.length)] by rw [HT.out, levsF_get hjl, ← hpq])
        have HCON := hid hcon
        have HF2 := hid h2
        obtain ⟨sh, hsh⟩ : ∃ sh, sh = shownL q := ⟨_, rfl⟩
        obtain ⟨qn, hqn⟩ : ∃ qn, qn = q.length := ⟨_, rfl⟩
        rw [← hsh, ← hqn] at SH HT2
        have HQN := hid hqn
        rw [hrp] at k5
        obtain ⟨t0, t1, t2, t3, tl⟩ := DS5.out.lp.cell
        clear FR h2 h3 h4 h5 h6 hb5 hpq hdr hok hqp hrp hcon e1 e2 hsh hqn c0 c1 c2 c3 cl
        go_wp2_with fail
        refine (SH.out w5 DS5.out.lp.below).mono ?_
        rintro e w6 ⟨rfl, hb6⟩
        have DS6 := hid (DS5.out.after hb6)
        have da := hid (DS6.out.after ((Below.refl _ w6).alloc (Nat.le_refl _) (.cells (encLw (p, sh, qn)).toArray 71)))
        obtain ⟨v2, w7, r2, q2, k2, _⟩ := lr_append da.out.out da.out.lp.below.size (SrcE.one (a := (p, sh, qn)) (enc := encLw) (sz := 3) (Cells.new w6 (encLw (p, sh, qn)).toArray 71)) (by rw [HTJ.out]; simp; have := HHL.out; omega) 66
        rw [← HT2.out] at q2
        have DS7 := hid (show DpS w (.slice p0 NL cap0) nums turn paid cb w7 (.slice (some ⟨g', 0, none⟩) n' cap') L' v2 (T.take (j + 1)) from
          ⟨⟨da.out.lp.below.trans (k2.below (B := w.heap.size) da.out.lp.below.size (fun k e => own_ge da.out.out k e.symm)), da.out.lp.top.kept k2 (fun e => row_ne da.out.out da.out.lp.top (by decide) _ e.symm rfl)⟩, da.out.lt, da.out.c.kept k2 (fun e => row_ne da.out.out da.out.c (by decide) _ e.symm rfl), OwnE.kept da.out.row k2 (own_other da.out.row da.out.out (by decide)), q2⟩)
        obtain ⟨p2, c2, hv2, _⟩ := q2.form
        have HTJ2 := hid (show (T.take (j + 1)).length = j + 1 by rw [List.length_take, HTL.out]; omega)
        rw [HTJ2.out] at hv2
        subst hv2
        have R2 := hid r2
        unfold encLw at R2
        clear q2 k2 r2 hb6 da SH
        go_wp2_with (at_builtin; refine wpList_append_run rfl (.tmp 38) (.tmp 43) 66 rfl _ _ (.slice p2 (j + 1) c2) w7 rfl rfl R2.out ?_)
        go_loopg [9] qn (fun k s9 wq => ∃ (q' : List En) (v3 : Value) (L3 : List Rn), k = q'.length ∧ s9 = .int .i64 (optI (frontR L3 side)) ∧ DpS w (.slice p0 NL cap0) nums turn paid cb wq v3 L3 (.slice p2 (j + 1) c2) (T.take (j + 1)) ∧ DpI side NN turn C p (h.drop (j + 1)) q' L3 ∧ ∀ e ∈ q', e.o.p = p)
        case atStart => exact ⟨q, _, L', HQN.out, by rw [HF2.out]; rfl, DS7.out, DI0.out, HQP.out⟩
        case round =>
          obtain ⟨q', v3, L3, hk, rfl, ds, di, hqp⟩ := hrel
          obtain ⟨p3, cap3, g3, rfl, hp3, hc3⟩ := ds.row.rows
          have WO := hid (fun i3 (hi3 : i3 < L3.length) => without_rcalls wr (ds.row.mono (Nat.zero_le _)) di.len hi3)
          obtain ⟨n3, hn3⟩ : ∃ n3, n3 = L3.length := ⟨_, rfl⟩
          rw [← hn3] at ds hp3 WO
          have DS3 := hid ds
          have DI3 := hid di
          have HN3 := hid hn3
          have HK := hid hk
          have HP3 := hid hp3
          have HC3 := hid hc3
          obtain ⟨c0, c1, c2', c3, cl, cf⟩ := ds.cell
          obtain ⟨fi, hfi⟩ : ∃ fi, fi = optI (frontR L3 side) := ⟨_, rfl⟩
          rw [← hfi]
          have HFI := hid hfi
          have EX := hid (fun (hq0 : q' = []) => (show ∃ A3, SdR side NN turn C (h.drop (j + 1)) A3 L3 by
            obtain ⟨A3, sd3⟩ := DI3.out.sd
            rw [hq0] at sd3
            exact ⟨A3, sd3⟩))
          have NX := hid (di.next HO.out hqp)
          have HQP3 := hid hqp
          clear ds di hn3 hk hp3 hc3 hfi hqp
          rcases NX.out with ⟨hq0, hf | ⟨i3, hi3, hf, hne⟩⟩ | ⟨y, q'', i3, hi3, hq', hf, hpe, di2⟩
          · obtain rfl : fi = -1 := by rw [HFI.out, hf]; rfl
            obtain ⟨A3, sd3⟩ := EX.out hq0
            have SD3 := hid sd3
            have g2' : decide (0 ≤ (-1 : Int)) = false := by decide
            clear hf hq0 sd3
            go_wp2
            go_roundg (h.length + 1 - (j + 1))
            · exact ⟨j + 1, _, _, L3, A3, rfl, by omega, by omega, by omega, DS3.out, SD3.out, DI3.out.len⟩
            · have := HJK.out; omega
          · obtain rfl : fi = (i3 : Int) := by rw [HFI.out, hf]; rfl
            obtain ⟨A3, sd3⟩ := EX.out hq0
            have SD3 := hid sd3
            have hin3 : i3 < n3 := by rw [HN3.out]; exact hi3
            obtain ⟨rfl, hg3⟩ := HP3.out (by omega)
            obtain ⟨_, _, _, _, _, e5, _⟩ := HC3.out wr (Below.refl _ _) i3 hi3
            have g2' : decide (0 ≤ (i3 : Int)) = true := by simp
            have g4' : (0 : Int) ≤ (i3 : Int) := by omega
            have g5' : (i3 : Int) < (n3 : Int) := by omega
            have gb' : ((i3 : Int)).toNat = i3 := by omega
            obtain ⟨px, hpx⟩ : ∃ px, px = L3[i3].o.p := ⟨_, rfl⟩
            rw [← hpx] at e5 hne
            have gne : (px == p) = false := by simpa using hne
            clear hf hq0 sd3 hpx hne
            go_wp2
            go_roundg (h.length + 1 - (j + 1))
            · exact ⟨j + 1, _, _, L3, A3, rfl, by omega, by omega, by omega, DS3.out, SD3.out, DI3.out.len⟩
            · have := HJK.out; omega
          · obtain rfl : fi = (i3 : Int) := by rw [HFI.out, hf]; rfl
            have hin3 : i3 < n3 := by rw [HN3.out]; exact hi3
            obtain ⟨rfl, hg3⟩ := HP3.out (by omega)
            obtain ⟨_, _, _, _, _, e5, _⟩ := HC3.out wr (Below.refl _ _) i3 hi3
            have g2' : decide (0 ≤ (i3 : Int)) = true := by simp
            have g4' : (0 : Int) ≤ (i3 : Int) := by omega
            have g5' : (i3 : Int) < (n3 : Int) := by omega
            have gb' : ((i3 : Int)).toNat = i3 := by omega
            rw [hpe] at e5
            have DI4 := hid di2
            have HQ' := hid hq'
            have HQ4 := hid (show ∀ e ∈ q'', e.o.p = p from fun e he => HQP3.out e (by rw [HQ'.out]; exact List.mem_cons_of_mem _ he))
            have WI := hid (WO.out i3 hin3)
            clear hf hpe di2 hq' WO
            go_wp2_with fail
            refine WI.out.mono ?_
            rintro e w8 ⟨v4, rfl, hr4, hb8⟩
            have hle8 : w.heap.size ≤ wr.heap.size := DS3.out.lp.below.size
            have DS8 := hid ((DS3.out.after hb8).put (hr4.mono hle8))
            have d8 := (DS3.out.after hb8).cell
            have f8 := front_rcalls _ (DS8.out.row.mono (Nat.zero_le _)) DI4.out.len nums turn paid side
            obtain ⟨p4, cap4, _, rfl, _, _⟩ := hr4.rows
            obtain ⟨n4, hn4⟩ : ∃ n4, n4 = (L3.eraseIdx i3).length := ⟨_, rfl⟩
            rw [← hn4] at DS8 f8 ⊢
            obtain ⟨d0, d1, d2, d3, dl, df⟩ := d8
            unfold rbV at f8
            have F8 := hid f8
            obtain ⟨w9, hw9⟩ : ∃ w9, w9 = w8.setCell ⟨cb, 0, none⟩ (.slice p4 n4 cap4) := ⟨_, rfl⟩
            rw [← hw9] at DS8 F8
            have HW9 := hid hw9
            clear f8 hr4 hb8 hn4 hw9 c0 c1 c2' c3 cl cf e5
            go_upto_region 11 with fail
            rw [← HW9.out]
            clear d0 d1 d2 d3 dl df
            obtain ⟨d0, d1, d2, d3, dl, _⟩ := DS8.out.cell
            go_wp2_with fail
            refine F8.out.mono ?_
            rintro e w10 ⟨rfl, hb10⟩
            have DS10 := hid (DS8.out.after hb10)
            clear hb10 d0 d1 d2 d3 dl
            go_wp2
            go_roundg q''.length
            · exact ⟨q'', _, L3.eraseIdx i3, rfl, rfl, DS10.out, DI4.out, HQ4.out⟩
            · have h1 := HK.out; rw [HQ'.out] at h1; simp at h1; omega
    · have g1 : decide ((j : Int) < most) = false := by simpa using hjm2
      have FN := hid (FIN.out (.slice pv j cv) wr (by
        have e : most.toNat = j := by omega
        rw [e]; exact DS.out.out) DS.out.lp.below)
      go_wp2
      exact FN.out
theorem depth_rcalls (w : World) {v : Value} {x : Rb} (hv : RowR 0 w v x.L) {S : Bd} (hS : BdOk S) (hR : Rel S x) (hlen : x.L.length ≤ 4096) {side : Int} (hs : side = 1 ∨ side = 2) (most : Int) :
    Calls Try.prog 25 #[rbV v x.nums x.turn x.paid, .int .i64 side, .int .i64 most] w fun e w' => ∃ u, e = .returned u ∧ RowLr w.heap.size w' u ((levsF (S.half side)).take most.toNat) ∧ Below w.heap.size w w' := by
  obtain ⟨A0, C, sd0⟩ := SdR.start hS hR hs
  exact depth_rgen w hv sd0 (fun p q hm => shown_rel hS hR hs hm) (rel_h hS hR) hlen most
/-- No entry is of another side. -/
theorem side_none {S : Bd} {x : Rb} (hS : BdOk S) (hR : Rel S x) {s : Int} (hs : sideB s = false) : ∀ y ∈ x.L, cR s y = false := by
  intro y hy
  have h1 := (hR.live.mem_iff (a := y.en)).1 (List.mem_map.2 ⟨y, hy, rfl⟩)
  have h2 : y.o.s = 1 ∨ y.o.s = 2 := by
    unfold Bd.live at h1
    rcases List.mem_append.1 h1 with h | h
    · exact okS (hS.buy.mem _ h).ok
    · rcases List.mem_append.1 h with h | h
      · exact okS (hS.sell.mem _ h).ok
      · exact okS (hS.wait _ h).ok
  unfold cR
  rw [decide_eq_false, Bool.and_false]
  intro e
  rw [e] at h2
  have := sideB_iff.2 h2
  rw [hs] at this
  cases this
theorem depth_rnone (w : World) {v : Value} {x : Rb} (hv : RowR 0 w v x.L) {S : Bd} (hS : BdOk S) (hR : Rel S x) (hlen : x.L.length ≤ 4096) {side : Int} (hs : sideB side = false) (most : Int) :
    Calls Try.prog 25 #[rbV v x.nums x.turn x.paid, .int .i64 side, .int .i64 most] w fun e w' => ∃ u, e = .returned u ∧ RowLr w.heap.size w' u [] ∧ Below w.heap.size w w' := by
  have t0 : 0 ≤ x.turn := by
    obtain ⟨_, _, _, k⟩ := hR
    exact k.turn
  have sd : SdR side S.nums x.turn x.L [] [] x.L := ⟨HOk.nil _ _, SideR.nil _, by simp, side_none hS hR hs⟩
  refine (depth_rgen w hv sd (fun p q hm => by cases hm) (rel_h hS hR) hlen most).mono ?_
  rintro e w' ⟨u, rfl, h1, h2⟩
  exact ⟨u, rfl, by simpa [levsF] using h1, h2⟩
theorem front_none {S : Bd} {x : Rb} (hS : BdOk S) (hR : Rel S x) {s : Int} (hs : sideB s = false) : frontR x.L s = none := by
  rcases bestI_spec (c := cR s) (pR_wk s) (L := x.L) x.L.length (Nat.le_refl _) with ⟨h1, _⟩ | ⟨i, hi, _, _, h3, _⟩
  · exact h1
  · rw [side_none hS hR hs _ (List.getElem_mem hi)] at h3; cases h3
theorem queR_none {S : Bd} {x : Rb} (hS : BdOk S) (hR : Rel S x) {s : Int} (hs : sideB s = false) (p : Int) : QueR s p x.L [] := by
  refine ⟨List.Pairwise.nil, fun y => ⟨fun h => (by cases h), fun ⟨h1, h2⟩ => ?_⟩, fun y h => (by cases h)⟩
  have := (cR_cPr.1 h2).1
  rw [side_none hS hR hs y h1] at this
  cases this
end Go.Proofs.Ytdjhpldiifdifaa
