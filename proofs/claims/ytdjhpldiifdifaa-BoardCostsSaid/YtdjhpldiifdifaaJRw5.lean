/- The reference's Cost: walked. -/
import Derived.Test.YtdjhpldiifdifaaJRw2
import Derived.Test.YtdjhpldiifdifaaJCst
namespace Go.Proofs.Ytdjhpldiifdifaa
set_option linter.unusedSimpArgs false
set_option linter.unusedVariables false
open Go.RowKit Go.Shelf
attribute [local go_sem] Oper.semAt_some
attribute [local go_sem ↓] Go.wp_at_zero Go.wp_at_succ

/-- The search stands before what is left of the side. -/
structure CoR (side N turn qty : Int) (C : List Rn) (all h : List En) (hf : Half) (A L : List Rn) (f m : Int) : Prop where
  sd : SdR side N turn C hf A L
  hh : hf.all = h
  f0 : 0 ≤ f ∧ f ≤ qty
  m0 : 0 ≤ m ∧ m ≤ f * 1000000
  eq : costF qty h (f, m) = costF qty all (0, 0)
  len : L.length ≤ 100000
theorem CoR.done {side N turn qty : Int} {C : List Rn} {all h : List En} {hf : Half} {A L : List Rn} {f m : Int} (c : CoR side N turn qty C all h hf A L f m) (hd : ¬ f < qty ∨ frontR L side = none) : costF qty all (0, 0) = (f, m) := by
  rw [← c.eq]
  rcases hd with hd | hd
  · exact costF_done hd _
  · rcases c.sd.front with ⟨h1, _⟩ | ⟨_, _, _, _, _, h2, _⟩
    · have := c.hh
      rw [h1] at this
      rw [← this]
      rfl
    · rw [h2] at hd; cases hd
theorem CoR.next {side N turn qty : Int} {C : List Rn} {all h : List En} {hf : Half} {A L : List Rn} {f m : Int} (c : CoR side N turn qty C all h hf A L f m) (hq : f < qty) (hq2 : qty ≤ 1000000000) {i : Nat} (hi : i < L.length) (hfr : frontR L side = some i) :
    ∃ h' hf' A', 0 < h.length ∧ h'.length + 1 = h.length ∧ 1 ≤ L[i].l ∧ L[i].l ≤ 1000000000 ∧ 0 ≤ L[i].o.p ∧ L[i].o.p ≤ 1000000 ∧ 0 ≤ min (qty - f) L[i].l * L[i].o.p ∧ min (qty - f) L[i].l * L[i].o.p ≤ 1000000000000000 ∧ CoR side N turn qty C all h' hf' A' (L.eraseIdx i) (f + min (qty - f) L[i].l) (m + min (qty - f) L[i].l * L[i].o.p) := by
  rcases c.sd.front with ⟨h1, h2⟩ | ⟨r, A', j, hj, hA, h2, h3, h4, h5, h6⟩
  · rw [h2] at hfr; cases hfr
  · rw [h2] at hfr
    injection hfr with hfr
    subst hfr
    rw [h3]
    obtain ⟨hp, hall⟩ : HOk side N (popH hf) ∧ hf.all = r.en :: (popH hf).all := by
      rcases c.sd.ok.cases with ⟨e1, _⟩ | ⟨p, y, q, rr, e1, e2, _⟩
      · rw [e1] at h4; cases h4
      · rw [e1] at h4 ⊢
        have e3 : some y = some r.en := h4
        injection e3 with e3
        subst e3
        exact popH_ok (by rw [← e1]; exact c.sd.ok)
    have ok := h5
    have q1 := okQ ok.ok
    have l1 := ok.l
    have p1 := okP ok.ok ok.f
    have l2 : r.en.l = r.l := rfl
    have p2 : r.en.o = r.o := rfl
    rw [l2] at l1
    rw [p2] at l1 p1 q1
    have f0 := c.f0
    have m0 := c.m0
    obtain ⟨d, hd⟩ : ∃ d, d = min (qty - f) r.l := ⟨_, rfl⟩
    rw [← hd]
    have d1 : 1 ≤ d ∧ d ≤ qty - f := by omega
    have z0 : 0 ≤ d * r.o.p := Int.mul_nonneg (by omega) (by omega)
    have z1 : d * r.o.p ≤ d * 1000000 := Int.mul_le_mul_of_nonneg_left (by omega) (by omega)
    have hh : h = r.en :: (popH hf).all := by rw [← c.hh, hall]
    refine ⟨(popH hf).all, popH hf, A', by rw [hh]; simp, by rw [hh]; simp, by omega, by omega, by omega, by omega, z0, by omega, ⟨h6, rfl, by omega, ⟨by omega, by omega⟩, ?_, ?_⟩⟩
    · rw [← c.eq, hh, hd]
      show _ = if f < qty then _ else _
      rw [if_pos hq]
      rfl
    · have := c.len
      rw [List.length_eraseIdx]
      split <;> omega
theorem CoR.start {S : Bd} {x : Rb} (hS : BdOk S) (hR : Rel S x) {s : Int} (hs : s = 1 ∨ s = 2) {qty : Int} (hq : 1 ≤ qty) (hl : x.L.length ≤ 100000) : ∃ C A, CoR s S.nums x.turn qty C (S.half s).all (S.half s).all (S.half s) A x.L 0 0 := by
  obtain ⟨A, C, sd⟩ := SdR.start hS hR hs
  exact ⟨C, A, sd, rfl, by omega, by omega, rfl, hl⟩

set_option maxRecDepth 100000 in
set_option maxHeartbeats 20000000 in
theorem cost_rside (w : World) {v : Value} {x : Rb} (hv : RowR 0 w v x.L) {S : Bd} (hS : BdOk S) (hR : Rel S x) (hlen : x.L.length ≤ 4096) {s : Int} (hs : s = 1 ∨ s = 2) {qty : Int} (hq : 1 ≤ qty ∧ qty ≤ 1000000000) :
    Calls Try.prog 35 #[rbV v x.nums x.turn x.paid, .int .i64 s, .int .i64 qty] w fun e w' => e = .returned (.tuple #[.int .i64 (costF qty (S.half (3 - s)).all (0, 0)).1, .int .i64 (costF qty (S.half (3 - s)).all (0, 0)).2, .int .i64 0]) ∧ Below w.heap.size w w' := by
  obtain ⟨C, A0, co⟩ := CoR.start hS hR (other_side hs) hq.1 (by omega)
  have OT := hid (fun w => rother_calls hs w)
  obtain ⟨side, hside⟩ : ∃ side, side = 3 - s := ⟨_, rfl⟩
  rw [← hside] at co OT ⊢
  obtain ⟨all, hall⟩ : ∃ all, all = (S.half side).all := ⟨_, rfl⟩
  obtain ⟨hf0, hhf0⟩ : ∃ hf0, hf0 = S.half side := ⟨_, rfl⟩
  obtain ⟨NN, hNN⟩ : ∃ NN, NN = S.nums := ⟨_, rfl⟩
  rw [← hall, ← hhf0, ← hNN] at co
  rw [← hall]
  have CO0 := hid co
  obtain ⟨R, hRR⟩ : ∃ R : Ending → World → Prop, R = fun e w' => e = .returned (.tuple #[.int .i64 (costF qty all (0, 0)).1, .int .i64 (costF qty all (0, 0)).2, .int .i64 0]) ∧ Below w.heap.size w w' := ⟨_, rfl⟩
  have FIN := hid (show ∀ (f m : Int) (w' : World), costF qty all (0, 0) = (f, m) → Below w.heap.size w w' → R (.returned (.tuple #[.int .i64 f, .int .i64 m, .int .i64 0])) w' by intro f m w' hi hb; rw [hRR, hi]; exact ⟨rfl, hb⟩)
  rw [← hRR]
  have hsq : (s != 1 && s != 2) = false := by rcases hs with rfl | rfl <;> rfl
  have s12 : ((s != 1) = false ∧ (s == 1) = true) ∨ ((s != 1) = true ∧ (s != 2) = false) := by rcases hs with rfl | rfl <;> simp
  have q1 : decide (qty < 1) = false := by simp; omega
  have q2 : decide (1000000000 < qty) = false := by simp; omega
  obtain ⟨p0, cap0, g0, hv0, hp0, hc0⟩ := hv.rows
  obtain ⟨L, nums, turn, paid⟩ := x
  simp only at *
  have L0 := hid (LpB.start w v nums turn paid)
  have CP := hid (copy_rcalls (w.alloc (.cells #[v, .int .i64 nums, .int .i64 turn, .int .i64 paid] 49)) (OwnE.below hv L0.out.below) (by omega) nums turn paid)
  rw [hv0] at L0 CP ⊢
  obtain ⟨NL, hNL⟩ : ∃ NL, NL = L.length := ⟨_, rfl⟩
  rw [← hNL] at L0 CP ⊢
  have HNL := hid hNL
  have HQ := hid hq
  unfold rbV at CP ⊢
  clear hRR hv hv0 hp0 hc0 hS hR hlen hside hall hhf0 hNN co hNL hq hsq hs
  obtain ⟨t0, t1, t2, t3, tl⟩ := L0.out.cell
  obtain ⟨wb, hwb⟩ : ∃ wb, wb = w.alloc (.cells #[.slice p0 NL cap0, .int .i64 nums, .int .i64 turn, .int .i64 paid] 49) := ⟨_, rfl⟩
  have HWB := hid hwb
  rw [← hwb] at L0 CP t0 t1 t2 t3 tl
  clear hwb
  go_enter Try.func35, Try.ntmps35
  go_upto_region 1 with fail
  rw [← HWB.out]
  go_cut [27] (fun s27 wx => s27 = .bool false ∧ wx = wb)
  case first =>
    rcases s12 with ⟨s1, s2⟩ | ⟨s1, s2⟩
    · go_wp2
      go_meet
      exact ⟨rfl, rfl⟩
    · go_wp2
      go_meet
      exact ⟨rfl, rfl⟩
  case rest =>
    obtain ⟨rfl, rfl⟩ := hcut
    clear s12 q1 q2
    go_wp2_with fail
    refine CP.out.mono ?_
    rintro e w4 ⟨v1, rfl, hr4, hb4⟩
    obtain ⟨p1, cap1, _, rfl, _, _⟩ := hr4.rows
    rw [← HNL.out] at hr4 ⊢
    have L4 := hid (L0.out.after hb4)
    have hbs := hb4.size
    have D0 := hid (show DpS w (.slice p0 NL cap0) nums turn paid w4.heap.size (w4.alloc (.cells #[.slice p1 NL cap1, .int .i64 nums, .int .i64 turn, .int .i64 paid] 49)) (.slice p1 NL cap1) L (.slice none 0 0) [] from
      ⟨L4.out.alloc _, by omega, Cells.new _ _ _, OwnE.alloc (hr4.mono (by omega)) _, OwnE.nil _ _⟩)
    obtain ⟨cb, hcb⟩ : ∃ cb, cb = w4.heap.size := ⟨_, rfl⟩
    rw [← hcb] at D0
    have HCB := hid hcb
    clear hr4 hb4 hbs t0 t1 t2 t3 tl CP L0 L4 hcb
    go_wp2_with fail
    rw [← HCB.out]
    go_loopg [9, 10] (all.length + 1) (fun k s9 s10 wr => ∃ (f m : Int) (v' : Value) (L' A : List Rn) (h : List En) (hf : Half), k = h.length + 1 ∧ s9 = .int .i64 f ∧ s10 = .int .i64 m ∧ DpS w (.slice p0 NL cap0) nums turn paid cb wr v' L' (.slice none 0 0) [] ∧ CoR side NN turn qty C all h hf A L' f m)
    case atStart => exact ⟨0, 0, _, L, A0, all, hf0, rfl, rfl, rfl, D0.out, CO0.out⟩
    case round =>
      obtain ⟨f, m, v', L', A, h, hf, hk, rfl, rfl, ds, co⟩ := hrel
      have HK := hid hk
      obtain ⟨p', cap', g', rfl, hp', hc'⟩ := ds.row.rows
      have WO := hid (fun (wx : World) (hb : Below wr.heap.size wr wx) (i3 : Nat) (hi3 : i3 < L'.length) => without_rcalls wx ((OwnE.below ds.row hb).mono (Nat.zero_le _)) co.len hi3)
      have FR := hid (fun (wx : World) (hb : Below wr.heap.size wr wx) => front_rcalls wx ((OwnE.below ds.row hb).mono (Nat.zero_le _)) co.len nums turn paid side)
      obtain ⟨n', hn'⟩ : ∃ n', n' = L'.length := ⟨_, rfl⟩
      rw [← hn'] at ds hp' WO FR
      unfold rbV at FR
      have DS := hid ds
      have CO := hid co
      have HN := hid hn'
      have HP' := hid hp'
      have HC' := hid hc'
      obtain ⟨c0, c1, c2, c3, cl, _⟩ := ds.cell
      obtain ⟨m0, m1⟩ := co.m0
      obtain ⟨f0, f1⟩ := co.f0
      obtain ⟨q0, q1⟩ := HQ.out
      clear hk ds co hn' hp' hc'
      by_cases hfq : f < qty
      · have g1 : decide (f < qty) = true := by simpa using hfq
        go_upto_region 6 with fail
        go_cut [12] (fun s12 wx => s12 = .int .i64 (optI (frontR L' side)) ∧ Below wr.heap.size wr wx)
        case first =>
          go_region_with (first | (go_at_call 65; refine (OT.out _).mono ?_; rintro e w' ⟨rfl, rfl⟩) | (go_at_call 28; refine (FR.out _ (Below.refl _ _).drew).mono ?_; rintro e w' ⟨rfl, hb'⟩; have HB' := hid hb'; clear hb'))
          all_goals (
            go_wp2
            go_meet
            exact ⟨rfl, undrew HB'.out⟩)
        case rest =>
          obtain ⟨rfl, hb5⟩ := hcut
          have DS5 := hid (DS.out.after hb5)
          have HB5 := hid hb5
          obtain ⟨d0, d1, d2, d3, dl, df⟩ := DS5.out.cell
          clear c0 c1 c2 c3 cl FR OT
          cases hfr : frontR L' side with
          | none =>
            have FN := hid (FIN.out f m wc (CO.out.done (.inr hfr)) DS5.out.lp.below)
            have g2 : decide ((-1 : Int) < 0) = true := by decide
            clear hfr hb5
            rw [show optI none = -1 from rfl]
            go_wp2
            first | exact FN.out | (go_ret; exact FN.out) | (refine bodyPost_ret (v := .tuple #[.int .i64 f, .int .i64 m, .int .i64 0]) (by simp [results, Try.results35, go_sem]) rfl FN.out)
          | some i =>
            have hi : i < L'.length := (bestI_lt hfr).2
            obtain ⟨h', hf', A', hl0, hl1, l1, l2, p1, p2, z0, z1, co2⟩ := CO.out.next hfq HQ.out.2 hi hfr
            rw [show optI (some i) = (i : Int) from rfl]
            have hin : i < n' := by rw [HN.out]; exact hi
            obtain ⟨rfl, hg⟩ := HP'.out (by omega)
            obtain ⟨_, _, _, _, _, k5, _, _, _, k9, _⟩ := HC'.out wc hb5 i hi
            have hg5 : g' < wc.heap.size := Nat.lt_of_lt_of_le hg hb5.size
            obtain ⟨lx, hlx⟩ : ∃ lx, lx = L'[i].l := ⟨_, rfl⟩
            obtain ⟨px, hpx⟩ : ∃ px, px = L'[i].o.p := ⟨_, rfl⟩
            rw [← hlx] at l1 l2 z0 z1 co2 k9
            rw [← hpx] at p1 p2 z0 z1 co2 k5
            obtain ⟨d, hd⟩ : ∃ d, d = min (qty - f) lx := ⟨_, rfl⟩
            rw [← hd] at z0 z1 co2
            obtain ⟨z, hz⟩ : ∃ z, z = d * px := ⟨_, rfl⟩
            rw [← hz] at z0 z1 co2
            have g2 : decide ((i : Int) < 0) = false := by simp
            have g4 : (0 : Int) ≤ (i : Int) := by omega
            have g5 : (i : Int) < (n' : Int) := by omega
            have gb : ((i : Int)).toNat = i := by omega
            have CO2 := hid co2
            have HD := hid hd
            have HZ := hid hz
            have WI := hid (fun wx hb => WO.out wx hb i hin)
            have HFQ := hid hfq
            have HL1 := hid hl1
            have hd1 : d ≤ qty - f ∧ 0 ≤ d := by omega
            obtain ⟨hd2, hd3⟩ := hd1
            clear hfr hl0 hl1 hd hz hlx hpx co2 WO hfq hb5
            go_upto_region 8 with fail
            go_cut [13] (fun s13 wx => s13 = .int .i64 d ∧ wx = wc)
            case first =>
              have H2 := hid (And.intro hd2 hd3)
              clear z0 z1 hd2 hd3
              by_cases hle : qty - f ≤ lx
              · have e : d = qty - f := by have := HD.out; omega
                subst e
                go_wp2
                go_meet
                exact ⟨rfl, rfl⟩
              · have e : d = lx := by have := HD.out; omega
                subst e
                go_wp2
                all_goals go_meet
                all_goals first | exact ⟨rfl, rfl⟩ | (exfalso; omega)
            case rest =>
              obtain ⟨rfl, rfl⟩ := hcut
              have hzz : d * px = z := HZ.out.symm
              go_wp2_with fail
              refine (WI.out wc HB5.out).mono ?_
              rintro e w8 ⟨v4, rfl, hr4, hb8⟩
              have hle8 : w.heap.size ≤ wc.heap.size := DS5.out.lp.below.size
              have DS8 := hid ((DS5.out.after hb8).put (hr4.mono hle8))
              have d8 := (DS5.out.after hb8).cell
              obtain ⟨p4, cap4, _, rfl, _, _⟩ := hr4.rows
              obtain ⟨n4, hn4⟩ : ∃ n4, n4 = (L'.eraseIdx i).length := ⟨_, rfl⟩
              rw [← hn4] at DS8 ⊢
              clear d0 d1 d2 d3 dl df
              obtain ⟨d0, d1, d2, d3, dl, df⟩ := d8
              clear hr4 hb8 hn4 k5 k9 hzz
              go_wp2
              go_roundg (h'.length + 1)
              · exact ⟨f + d, m + z, _, L'.eraseIdx i, A', h', hf', rfl, by go_num, by go_num, DS8.out, CO2.out⟩
              · have := HK.out; have := HL1.out; omega
      · have g1 : decide (f < qty) = false := by simpa using hfq
        have FN := hid (FIN.out f m wr (CO.out.done (.inl hfq)) DS.out.lp.below)
        clear hfq
        go_wp2
        first | exact FN.out | (go_ret; exact FN.out) | (refine bodyPost_ret (v := .tuple #[.int .i64 f, .int .i64 m, .int .i64 0]) (by simp [results, Try.results35, go_sem]) rfl FN.out)

set_option maxRecDepth 100000 in
set_option maxHeartbeats 20000000 in
theorem cost_rarg (w : World) {v : Value} {L : List Rn} (hv : RowR 0 w v L) (nums turn paid : Int) {s qty : Int} (h : costE s qty = 1) :
    Calls Try.prog 35 #[rbV v nums turn paid, .int .i64 s, .int .i64 qty] w fun e w' => e = .returned (.tuple #[.int .i64 0, .int .i64 0, .int .i64 1]) ∧ Below w.heap.size w w' := by
  obtain ⟨p0, cap0, g0, rfl, _, _⟩ := hv.rows
  obtain ⟨NL, hNL⟩ : ∃ NL, NL = L.length := ⟨_, rfl⟩
  rw [← hNL]
  have B0 := hid (show Below w.heap.size w (w.alloc (.cells #[.slice p0 NL cap0, .int .i64 nums, .int .i64 turn, .int .i64 paid] 49)) from (Below.refl _ _).alloc (Nat.le_refl _) _)
  obtain ⟨R, hRR⟩ : ∃ R : Ending → World → Prop, R = fun e w' => e = .returned (.tuple #[.int .i64 0, .int .i64 0, .int .i64 1]) ∧ Below w.heap.size w w' := ⟨_, rfl⟩
  have FIN := hid (show ∀ (w' : World), Below w.heap.size w w' → R (.returned (.tuple #[.int .i64 0, .int .i64 0, .int .i64 1])) w' by intro w' hb; rw [hRR]; exact ⟨rfl, hb⟩)
  rw [← hRR]
  have key : ((s != 1) = true ∧ (s != 2) = true) ∨ (((s != 1) = false ∨ ((s != 1) = true ∧ (s != 2) = false)) ∧ (decide (qty < 1) = true ∨ (decide (qty < 1) = false ∧ decide (1000000000 < qty) = true))) := by
    unfold costE sideB inB2 at h
    by_cases h1 : s = 1 <;> by_cases h2 : s = 2 <;> by_cases h3 : 1 ≤ qty <;> by_cases h4 : qty ≤ 1000000000 <;> simp_all <;> omega
  unfold rbV
  clear hv hNL hRR h
  go_enter Try.func35, Try.ntmps35
  go_upto_region 1 with fail
  rcases key with ⟨k1, k2⟩ | ⟨k1 | ⟨k1, k2⟩, k3 | ⟨k3, k4⟩⟩
  all_goals (
    go_wp2
    first | exact FIN.out _ B0.out | (go_ret; exact FIN.out _ B0.out) | (refine bodyPost_ret (v := .tuple #[.int .i64 0, .int .i64 0, .int .i64 1]) (by simp [results, Try.results35, go_sem]) rfl (FIN.out _ B0.out)))
end Go.Proofs.Ytdjhpldiifdifaa
