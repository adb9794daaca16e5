/- The reference's stops: walked. -/
import Derived.Test.YtdjhpldiifdifaaJRm8
import Derived.Test.YtdjhpldiifdifaaJRm5
namespace Go.Proofs.Ytdjhpldiifdifaa
set_option linter.unusedSimpArgs false
set_option linter.unusedVariables false
open Go.RowKit Go.Shelf
attribute [local go_sem] Oper.semAt_some
attribute [local go_sem ↓] Go.wp_at_zero Go.wp_at_succ

/-- What stops comes to. -/
def StopsR (w : World) (ve0 : Value) (turn0 : Int) (R0 : Bd × List Ev) (e : Ending) (w' : World) : Prop :=
  ∃ v' x' ve, e = .returned (.tuple #[rbV v' x'.nums x'.turn x'.paid, ve]) ∧ RowR 0 w' v' x'.L ∧ RowE 0 w' ve R0.2 ∧ Rel R0.1 x' ∧ BdOk R0.1 ∧ x'.turn ≤ turn0 + R0.2.length ∧ Kept (fun k => some k = ve0.ownBlock) w w'
theorem orders_ok {S : Bd} {x : Rb} (hS : BdOk S) (hR : Rel S x) : ∀ y ∈ x.L, y.o.s = 1 ∨ y.o.s = 2 := fun y hy => by
  have h : y.en ∈ S.live := hR.live.mem_iff.1 (List.mem_map.2 ⟨y, hy, rfl⟩)
  unfold Bd.live at h
  rcases List.mem_append.1 h with h1 | h1
  · exact okS (hS.buy.mem _ h1).ok
  · rcases List.mem_append.1 h1 with h1 | h1
    · exact okS (hS.sell.mem _ h1).ok
    · exact okS (hS.wait _ h1).ok
set_option maxRecDepth 100000 in
set_option maxHeartbeats 20000000 in
theorem stops_rcalls (w : World) {v ve : Value} {x : Rb} (hv : RowR 0 w v x.L) {S : Bd} (hS : BdOk S) (hR : Rel S x) {evs : List Ev} (he : RowE 0 w ve evs) {turn0 : Int} (ht : x.turn ≤ turn0 + evs.length) (ht0 : turn0 ≤ 500000000000000) (hlen : x.L.length ≤ 5000) (hsz : evs.length + sizeL S.live + 2 * S.wait.length ≤ 1000000000000) :
    Calls Try.prog 86 #[rbV v x.nums x.turn x.paid, ve] w (StopsR w ve turn0 (stopsF S.wait.length S evs)) := by
  obtain ⟨R0, hR0⟩ : ∃ R0, R0 = stopsF S.wait.length S evs := ⟨_, rfl⟩
  rw [← hR0]
  obtain ⟨w2, hw2⟩ : ∃ w2, w2 = (w.alloc (.cells #[v, .int .i64 x.nums, .int .i64 x.turn, .int .i64 x.paid] 49)).alloc (.cells #[.slice none 0 0, .int .i64 0, .int .i64 0, .int .i64 0] 49) := ⟨_, rfl⟩
  have b2 : Below w.heap.size w w2 := by rw [hw2]; exact ((Below.refl _ _).alloc (Nat.le_refl _) _).alloc (by simp) _
  have ST := hid (show StS w ve w2 v x.L x.nums x.turn x.paid ve evs from by
    refine ⟨Kept.of_below b2, by rw [hw2]; exact (Cells.new w _ _).alloc _, OwnE.below hv b2, ?_, OwnE.below he b2, fun b hb _ => hb.symm⟩
    rw [hw2]
    have := Cells.new (w.alloc (.cells #[v, .int .i64 x.nums, .int .i64 x.turn, .int .i64 x.paid] 49)) #[.slice none 0 0, .int .i64 0, .int .i64 0, .int .i64 0] 49
    rwa [World.size_alloc] at this)
  have LP0 := hid (show LpT w ve turn0 R0 w2 S.wait.length S x v ve evs from ⟨hS, hR, ST.out, Nat.le_refl _, hR0.symm, hsz, ht, hlen⟩)
  have HW2 := hid hw2
  obtain ⟨R, hRR⟩ : ∃ R, R = StopsR w ve turn0 R0 := ⟨_, rfl⟩
  have HRR := hid hRR
  rw [← hRR]
  obtain ⟨ve0, hve0⟩ : ∃ ve0, ve0 = ve := ⟨_, rfl⟩
  rw [← hve0] at HRR
  have LP1 := hid (show LpT w ve0 turn0 R0 w2 S.wait.length S x v ve evs by rw [hve0]; exact LP0.out)
  obtain ⟨L, nums, turn, paid⟩ := x
  obtain ⟨kw, hkw⟩ : ∃ kw, kw = S.wait.length := ⟨_, rfl⟩
  rw [← hkw] at LP1
  have HT0 := hid ht0
  unfold rbV
  simp only at *
  clear hv hS hR he ht ht0 hlen hsz hR0 hw2 b2 ST LP0 hRR hve0 hkw
  go_enter Try.func86, Try.ntmps86
  go_wp2_with fail
  go_loopg [1] kw (fun k s1 wr => ∃ (S' : Bd) (x' : Rb) (v' ve' : Value) (evs' : List Ev), ve' = s1 ∧ LpT w ve0 turn0 R0 wr k S' x' v' ve' evs')
  case atStart =>
    exact ⟨S, ⟨L, nums, turn, paid⟩, v, ve, evs, rfl, by rw [← HW2.out]; exact LP1.out⟩
  case round =>
    obtain ⟨S', x', v', ve', evs', rfl, lp⟩ := hrel
    have LP := hid lp
    obtain ⟨L', nums', turn', paid'⟩ := x'
    obtain ⟨t0, t1, t2, t3, l0, tf⟩ := lp.st.cell
    simp only at t0 t1 t2 t3
    obtain ⟨p2, cap2, g2, hv2, hp2, _⟩ := lp.st.row.rows
    simp only at hv2 hp2
    subst hv2
    obtain ⟨N2, hN2⟩ : ∃ N2, N2 = L'.length := ⟨_, rfl⟩
    have HN2 := hid hN2
    have DU := hid (due_rcalls wr lp.st.row (by have := lp.few; simp only at this ⊢; omega) nums' turn' paid' (orders_ok lp.ok lp.rel))
    unfold rbV at DU
    simp only at DU
    rw [← hN2] at DU t0 hp2
    have HP2 := hid hp2
    clear lp hN2 tf hp2
    go_wp2_with fail
    refine DU.out.mono ?_
    rintro e w5 ⟨rfl, hb5⟩
    have S5 := hid (LP.out.st.after hb5)
    simp only at S5
    rw [← HN2.out] at S5
    clear hb5 t0 t1 t2 t3 l0 DU
    obtain ⟨t0, t1, t2, t3, l0, tf⟩ := S5.out.cell
    obtain ⟨y0, y1, y2, y3, yl, yf⟩ := S5.out.resc
    have yf0 := yf 0
    have yf1 := yf 1
    have yf2 := yf 2
    have yf3 := yf 3
    clear yf tf
    rcases due_spec LP.out.rel LP.out.ok with ⟨m1, m2⟩ | ⟨i, hi, m1, m2, m3, m4⟩
    · --
      --{A
      simp only at m2
      rw [m2]
      rw [show optI none = -1 from rfl]
      have e : R0 = (S', evs') := by rw [← LP.out.eq]; exact stopsF_none m1 _
      have HE := hid e
      have D5 := hid S5.out.fin
      obtain ⟨pe, ce, hve, _⟩ := S5.out.evr.form
      generalize evs'.length = M at hve
      subst hve
      have FIN := hid (show R (.returned (.tuple #[rbV (.slice p2 N2 cap2) nums' turn' paid', .slice pe M ce])) _ by
        rw [HRR.out]
        exact ⟨_, ⟨L', nums', turn', paid'⟩, _, rfl, D5.out.row, by rw [HE.out]; exact D5.out.evr, by rw [HE.out]; exact LP.out.rel, by rw [HE.out]; exact LP.out.ok, by rw [HE.out]; exact LP.out.turn, D5.out.kept⟩)
      clear m1 m2 e
      go_wp2
      exact bodyPost_ret (v := .tuple #[.agg #[.slice p2 N2 cap2, .int .i64 nums', .int .i64 turn', .int .i64 paid'], .slice pe M ce]) (by simp [results, Try.results86, go_sem, D5.out.res.cell]) rfl FIN.out
      --}A
    · simp only at m1 hi
      rw [m1]
      rw [show optI (some i) = (i : Int) from rfl]
      obtain ⟨S1, stp⟩ := stops_step LP.out.ok LP.out.rel hi m1
      simp only at stp
      obtain ⟨r, hr⟩ : ∃ r, r = L'[i] := ⟨_, rfl⟩
      rw [← hr] at stp
      obtain ⟨k', hk', nx⟩ := LP.out.next stp
      simp only at nx
      obtain ⟨p3, cap3, g3, hv3, hp3, hc3⟩ := S5.out.row.rows
      obtain ⟨e1, e2, e3⟩ : p2 = p3 ∧ N2 = L'.length ∧ cap2 = cap3 := by injection hv3 with a b c; exact ⟨a, b, c⟩
      subst e1 e3
      obtain ⟨rfl, hg⟩ := hp3 (by omega)
      obtain ⟨c0, c1, c2, c3, c4, c5, c6, c7, c8, c9, c10, c11, c12⟩ := hc3 w5 (Below.refl _ _) i hi
      rw [← hr] at c0 c1 c2 c3 c4 c5 c6 c7 c8 c9 c10 c11 c12
      have gi : (i : Int) < (N2 : Int) := by omega
      have gi2 : i < N2 := by omega
      have gi3 : ((i : Int)).toNat = i := by omega
      have gi4 : (0 : Int) ≤ (i : Int) := by omega
      have gi5 : decide ((i : Int) < 0) = false := by simp
      obtain ⟨XB, hXB⟩ : ∃ XB, XB = w5.heap.size := ⟨_, rfl⟩
      obtain ⟨wa, hwa⟩ : ∃ wa, wa = w5.alloc (.cells #[.int .i64 r.n, .int .i64 r.o.m, .int .i64 r.o.s, .int .i64 r.o.k, .int .i64 r.o.f, .int .i64 r.o.p, .int .i64 r.o.t, .int .i64 r.o.q, .int .i64 r.o.pk, .int .i64 r.l, .int .i64 r.h, .bool r.w, .int .i64 r.t] 53) := ⟨_, rfl⟩
      have ba : Below w5.heap.size w5 wa := by rw [hwa]; exact (Below.refl _ _).alloc (Nat.le_refl _) _
      have sa := S5.out.after ba
      have xa : Cells wa XB #[.int .i64 r.n, .int .i64 r.o.m, .int .i64 r.o.s, .int .i64 r.o.k, .int .i64 r.o.f, .int .i64 r.o.p, .int .i64 r.o.t, .int .i64 r.o.q, .int .i64 r.o.pk, .int .i64 r.l, .int .i64 r.h, .bool r.w, .int .i64 r.t] 53 := by rw [hwa, hXB]; exact Cells.new _ _ _
      have SA := hid sa
      have XA := hid xa
      have CP := hid (copy_rcalls wa sa.row (by have := LP.out.few; simp only at this; omega) nums' turn' paid')
      unfold rbV at CP
      have STP := hid stp
      have NX := hid nx
      have HK := hid hk'
      have HWA := hid hwa
      have HXB := hid hXB
      have HX1 : w.heap.size < XB ∧ w.heap.size + 1 < XB := by rw [hXB]; exact ⟨l0, yl⟩
      have E2 := hid e2
      have M1 := hid m1
      clear m1 m2 m3 m4 stp nx hr hk' hp3 hc3 hv3 e2 ba sa xa hwa hXB y0 y1 y2 y3 yl yf0 yf1 yf2 yf3 HP2
      go_wp2_with fail
      rw [← HWA.out, ← HXB.out]
      refine CP.out.mono ?_
      rintro e w6 ⟨v6, rfl, hr6, hb6⟩
      have s6 := SA.out.after hb6
      have x6 := XA.out.below hb6 XA.out.lt
      obtain ⟨u0, u1, u2, u3, ul, uf⟩ := s6.cell
      have uf0 := uf 0
      have uf1 := uf 1
      have uf2 := uf 2
      have uf3 := uf 3
      have s7 := s6.setAll (hr6.mono (Nat.zero_le _)) nums' turn' paid'
      have x7 := x6.kept (put_rb s6.bd rfl v6 (.int .i64 nums') (.int .i64 turn') (.int .i64 paid')).2 (by omega)
      obtain ⟨p6, cap6, g6, hv6, hp6, _⟩ := hr6.rows
      rw [← E2.out] at hv6 hp6
      subst hv6
      have WO := hid (without_rcalls _ s7.row (by have := LP.out.few; simp only at this; omega) hi)
      have S7 := hid s7
      have X7 := hid x7
      clear c0 c1 c2 c3 c4 c5 c6 c7 c8 c9 c10 c11 c12 t0 t1 t2 t3 l0 hg hr6 hb6 s6 x6 uf s7 x7 hp6 SA XA CP
      go_wp2_with fail
      refine WO.out.mono ?_
      rintro e w8 ⟨v8, rfl, hr8, hb8⟩
      have s8 := S7.out.after hb8
      have x8 := X7.out.below hb8 X7.out.lt
      obtain ⟨q0, q1, q2, q3, ql, qf⟩ := s8.cell
      have qf0 := qf 0
      have s9 := s8.setRow (hr8.mono (Nat.zero_le _))
      have x9 := x8.set_far (C := w.heap.size) 0 v8 (by omega)
      obtain ⟨p8, n8, hv8, _⟩ := hr8.form
      generalize hm8 : (L'.eraseIdx i).length = m8 at hv8
      subst hv8
      obtain ⟨w9, hw9⟩ : ∃ w9, w9 = w8.setCell ⟨w.heap.size, 0, none⟩ (.slice p8 m8 n8) := ⟨_, rfl⟩
      rw [← hw9] at s9 x9
      have S9 := hid s9
      have X9 := hid x9
      have HW9 := hid hw9
      clear u0 u1 u2 u3 ul uf0 uf1 uf2 uf3 hr8 hb8 s8 x8 qf s9 x9 hw9 S7 X7 WO hm8
      go_upto_region 7 with fail
      rw [← HW9.out]
      clear q0 q1 q2 q3 ql qf0
      have a0 : w9.cell? ⟨XB, 0, none⟩ = some (.int .i64 r.n) := by rw [X9.out.cell]; rfl
      have a7 : w9.cell? ⟨XB, 7, none⟩ = some (.int .i64 r.o.q) := by rw [X9.out.cell]; rfl
      have al := X9.out.lt
      obtain ⟨ve1, w10, r10, s10, k10⟩ := (S9.out.alloc (.cells (encEv ⟨7, r.n, 0, 0, r.o.q⟩).toArray 148)).tell (SrcE.one (a := (⟨7, r.n, 0, 0, r.o.q⟩ : Ev)) (enc := encEv) (sz := 5) (Cells.new w9 _ _)) (by have := LP.out.sz; simp; omega) 125
      have x10 := (X9.out.alloc (.cells (encEv ⟨7, r.n, 0, 0, r.o.q⟩).toArray 148)).kept k10 (fun e => row_ne S9.out.evr X9.out (by decide) _ e.symm rfl)
      obtain ⟨pe, ce, hve, _⟩ := s10.evr.form
      generalize hM : (evs' ++ [(⟨7, r.n, 0, 0, r.o.q⟩ : Ev)]).length = M at hve
      subst hve
      have R10 := hid r10
      have S10 := hid s10
      have X10 := hid x10
      unfold encEv at R10
      have t := STP.out
      have CI := hid (comeIn_rcalls w10 (x := ⟨L'.eraseIdx i, nums', turn', paid'⟩) s10.row t.ok t.rel t.n t.new t.ord (by have := LP.out.few; simp only at this ⊢; rw [List.length_eraseIdx]; split <;> omega) (by have h1 := LP.out.turn; have h2 := HT0.out; have h3 := LP.out.sz; simp only at h1 ⊢; omega) (by have h3 := LP.out.sz; have := t.size; omega))
      unfold rbV Od.vals at CI
      simp only at CI
      clear r10 s10 k10 x10 hM t
      go_upto_region 8 with (at_builtin; refine wpList_append_run rfl (.tmp 28) (.tmp 35) 125 rfl _ _ (.slice pe M ce) w10 rfl rfl R10.out ?_)
      clear a0 a7 al
      obtain ⟨q0, q1, q2, q3, ql, qf⟩ := S10.out.cell
      have b0 : w10.cell? ⟨XB, 0, none⟩ = some (.int .i64 r.n) := by rw [X10.out.cell]; rfl
      have b1 : w10.cell? ⟨XB, 1, none⟩ = some (.int .i64 r.o.m) := by rw [X10.out.cell]; rfl
      have b2 : w10.cell? ⟨XB, 2, none⟩ = some (.int .i64 r.o.s) := by rw [X10.out.cell]; rfl
      have b3 : w10.cell? ⟨XB, 3, none⟩ = some (.int .i64 r.o.k) := by rw [X10.out.cell]; rfl
      have b4 : w10.cell? ⟨XB, 4, none⟩ = some (.int .i64 r.o.f) := by rw [X10.out.cell]; rfl
      have b5 : w10.cell? ⟨XB, 5, none⟩ = some (.int .i64 r.o.p) := by rw [X10.out.cell]; rfl
      have b6 : w10.cell? ⟨XB, 6, none⟩ = some (.int .i64 r.o.t) := by rw [X10.out.cell]; rfl
      have b7 : w10.cell? ⟨XB, 7, none⟩ = some (.int .i64 r.o.q) := by rw [X10.out.cell]; rfl
      have b8 : w10.cell? ⟨XB, 8, none⟩ = some (.int .i64 r.o.pk) := by rw [X10.out.cell]; rfl
      have bl := X10.out.lt
      clear qf
      go_wp2_with fail
      refine CI.out.mono ?_
      rintro e w11 ⟨v11, x11, ve11, rfl, hr11, he11, rl11, ht11, hb11⟩
      unfold rbV
      obtain ⟨L11, nums11, turn11, paid11⟩ := x11
      have NXT := hid (fun w2 v2 ve2 => NX.out w2 ⟨L11, nums11, turn11, paid11⟩ v2 ve2 rl11 ht11)
      have s11 := S10.out.after hb11
      obtain ⟨w12, hw12⟩ : ∃ w12, w12 = w11.alloc (.cells #[v11, .int .i64 nums11, .int .i64 turn11, .int .i64 paid11] 49) := ⟨_, rfl⟩
      have s12 := s11.alloc (.cells #[v11, .int .i64 nums11, .int .i64 turn11, .int .i64 paid11] 49)
      rw [← hw12] at s12
      have c12 : Cells w12 w11.heap.size #[v11, .int .i64 nums11, .int .i64 turn11, .int .i64 paid11] 49 := by rw [hw12]; exact Cells.new _ _ _
      have hr12 : RowR 0 w12 v11 L11 := by rw [hw12]; exact (OwnE.mono hr11 (Nat.zero_le _)).alloc _
      have he12 : RowE 0 w12 ve11 (comeF S1 r.n r.o r.o.q []).2 := by rw [hw12]; exact (OwnE.mono he11 (Nat.zero_le _)).alloc _
      obtain ⟨p11, n11, hv11, _⟩ := hr12.form
      generalize hm11 : L11.length = m11 at hv11
      subst hv11
      obtain ⟨pf, cf, hvf, _⟩ := he12.form
      generalize hmf : (comeF S1 r.n r.o r.o.q []).2.length = mf at hvf
      subst hvf
      obtain ⟨q0', q1', q2', q3', ql', qf'⟩ := s12.cell
      have qf0 := qf' 0
      have qf1 := qf' 1
      have qf2 := qf' 2
      have qf3 := qf' 3
      have d0 : w12.cell? ⟨w11.heap.size, 0, none⟩ = some (.slice p11 m11 n11) := by rw [c12.cell]; rfl
      have d1 : w12.cell? ⟨w11.heap.size, 1, none⟩ = some (.int .i64 nums11) := by rw [c12.cell]; rfl
      have d2 : w12.cell? ⟨w11.heap.size, 2, none⟩ = some (.int .i64 turn11) := by rw [c12.cell]; rfl
      have d3 : w12.cell? ⟨w11.heap.size, 3, none⟩ = some (.int .i64 paid11) := by rw [c12.cell]; rfl
      have dl := c12.lt
      have s13 := s12.setAll hr12 nums11 turn11 paid11
      have he13 := OwnE.far (e := 148) he12 s12.bd (by decide) (put_rb s12.bd rfl (.slice p11 m11 n11) (.int .i64 nums11) (.int .i64 turn11) (.int .i64 paid11)).2
      obtain ⟨ve2, w14, r14, s14, _⟩ := s13.tell he13.src (by
        have h3 := LP.out.sz
        have hq := okQ STP.out.ord
        have C := comeF_ok STP.out.ok STP.out.ord STP.out.n STP.out.new (left := r.o.q) (by omega) (evs := []) (by simp)
        have h4 := C.size
        have h5 := STP.out.size
        simp only [List.length_append, List.length_cons, List.length_nil] at h4 ⊢
        omega) 125
      obtain ⟨pv, cv, hv2, _⟩ := s14.evr.form
      generalize ((evs' ++ [(⟨7, r.n, 0, 0, r.o.q⟩ : Ev)]) ++ (comeF S1 r.n r.o r.o.q []).2).length = mv at hv2
      subst hv2
      have R14 := hid r14
      have S14 := hid s14
      have HW12 := hid hw12
      clear hr11 he11 rl11 ht11 hb11 s11 hw12 s12 c12 hr12 he12 hm11 hmf s13 he13 r14 s14 qf'
      clear q0 q1 q2 q3 ql b0 b1 b2 b3 b4 b5 b6 b7 b8 bl
      go_upto_region 9 with fail
      rw [← HW12.out]
      go_wp2_with (at_builtin; refine wpList_append_run rfl (.tmp 47) (.tmp 48) 125 rfl _ _ (.slice pv mv cv) w14 rfl rfl R14.out ?_)
      go_roundg k'
      · exact ⟨_, _, _, _, _, rfl, NXT.out _ _ _ S14.out⟩
      · have := HK.out; omega
end Go.Proofs.Ytdjhpldiifdifaa
