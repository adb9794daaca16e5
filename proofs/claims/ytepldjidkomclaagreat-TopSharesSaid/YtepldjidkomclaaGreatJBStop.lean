/- board.stops. board.Enter. A new entry: memory. No function of the program in sight. board.Enter: an order that is taken. -/
import Derived.Test.YtepldjidkomclaaGreatJBBrd9
namespace Go.Proofs.YtepldjidkomclaaGreat.Bo
set_option linter.unusedSimpArgs false
set_option linter.unusedVariables false
open Go.RowKit Go.Shelf
attribute [local go_sem] Oper.semAt_some
attribute [local go_sem ↓] Go.wp_at_zero Go.wp_at_succ
def StopP (O : Nat → Nat) (q : Nat) (w : World) (b : Nat) (G : Mm) (nums last : Int) (evs : List Ev) (e : Ending) (w' : World) : Prop :=
  e = .returned (.tuple #[]) ∧ ∃ O' G' last', BdC O' q w' b G' nums last' (stopsF G.wt.length (G.bd nums last) evs).2 ∧ G'.bd nums last' = (stopsF G.wt.length (G.bd nums last) evs).1 ∧ G'.live.length ≤ G.live.length ∧ Step (colB q) O w O' w' ∧ ∀ D n, Trk O w G D n → Trk O' w' G' D n
structure StpC (O0 O : Nat → Nat) (q : Nat) (w0 w : World) (b : Nat) (G0 G : Mm) (nums last0 last : Int) (evs0 evs : List Ev) (k : Nat) : Prop where
  bd : BdC O q w b G nums last evs
  len : G.wt.length = k
  eq : stopsF k (G.bd nums last) evs = stopsF G0.wt.length (G0.bd nums last0) evs0
  ev : ∀ e ∈ evs, EvOk nums e
  size : evs.length + sizeL (G.bd nums last).live + 2 * k ≤ 2999999999980
  few : G.live.length ≤ G0.live.length
  step : Step (colB q) O0 w0 O w
  trk : ∀ D n, Trk O0 w0 G0 D n → Trk O w G D n
theorem idx_due {G : Mm} {nums last : Int} : (G.bd nums last).wait.findIdx (dueB last) = G.wt.findIdx (fun E => dueB last (G.en E)) := by
  show (G.wt.map G.en).findIdx (dueB last) = _
  rw [List.findIdx_map]
  rfl
theorem stopsF_none {S : Bd} {evs : List Ev} (h : S.wait.find? (dueB S.last) = none) : ∀ k, stopsF k S evs = (S, evs)
  | 0 => rfl
  | k + 1 => by unfold stopsF; rw [h]
theorem stopsF_some {S : Bd} {evs : List Ev} {x : En} (h : S.wait.find? (dueB S.last) = some x) {pre post : List En} (he : S.wait.eraseIdx (S.wait.findIdx (dueB S.last)) = pre ++ post) (k : Nat) : stopsF (k + 1) S evs = stopsF k (comeF { S with wait := pre ++ post } x.n x.o x.l (evs ++ [⟨7, x.n, 0, 0, x.l⟩])).1 (comeF { S with wait := pre ++ post } x.n x.o x.l (evs ++ [⟨7, x.n, 0, 0, x.l⟩])).2 := by
  rw [stopsF, h, he]
set_option maxRecDepth 100000 in
set_option maxHeartbeats 8000000 in
theorem stops_calls {O : Nat → Nat} {q : Nat} {w : World} {b : Nat} {G : Mm} {nums last : Int} {evs : List Ev} (h : BdC O q w b G nums last evs) (hev : ∀ e ∈ evs, EvOk nums e) (hlen : evs.length + sizeL (G.bd nums last).live + 2 * G.wt.length ≤ 2999999999980) :
    Calls Tryz.prog 25 #[pt b] w (StopP O q w b G nums last evs) := by
  have S0 := hid (⟨h, rfl, rfl, hev, hlen, Nat.le_refl _, Step.refl _ _ _, fun _ _ h => h⟩ : StpC O O q w w b G G nums last last evs evs G.wt.length)
  have few := h.few
  clear h hev hlen
  go_enter Tryz.func25, Tryz.ntmps25
  go_wp2_with fail
  go_loopg [2, 3] G.wt.length (fun k s2 s3 wr => ∃ K : Nat, K = k ∧ ∃ O' G' last' evs', StpC O O' q w wr b G G' nums last last' evs evs' K)
  case atStart => exact ⟨_, rfl, O, G, last, evs, S0.out⟩
  case round =>
    obtain ⟨k, rfl, O1, G1, l1, ev1, hs⟩ := hrel
    have H := hid hs
    clear hs S0
    obtain ⟨vw, c4, hown, hcol, hbl, f4⟩ := H.out.bd.parts.waits
    have hwl : G1.wt.length ≤ 1000000 := by have := H.out.bd.few; have : G1.wt.length ≤ G1.live.length := by { simp [Mm.live]; omega }; omega
    have due := idxF_calls hown hwl 60 #[pt b] #[] (enters_of Tryz.func60 (by kernel_rfl) rfl) (fun E => dueB l1 (G1.en E)) (fun E hE m => by
      have e : ((#[pt b] : Array Value).push (pt E) ++ #[]) = #[pt b, pt E] := by simp
      rw [e]
      obtain ⟨_, eE⟩ := H.out.bd.wait.ent E hE
      obtain ⟨_, _, _, _, g6⟩ := H.out.bd.top.half
      exact isDue_calls (b := b) (w := wr.drewN m) g6 hbl (EnC.kept eE (X := fun _ => False) ((Kept.refl _ _).drewN m) not_false))
    have DUE := hid due
    have HOWN := hid hown
    obtain ⟨p, cap, bw, rfl, hp, hrow⟩ := ptRow hown
    have HP := hid hp
    have HROW := hid hrow
    clear due hown hp hrow
    go_wp2_with fail
    refine DUE.out.mono ?_
    rintro e w2 ⟨rfl, m, hw2⟩
    have b2 : Below wr.heap.size wr w2 := by rw [hw2]; exact Below.of_drewN wr m
    have H2 := hid (H.out.bd.parts.below b2)
    have S2 := hid (H.out.step.trans (Step.of_below b2 (colB q)))
    have T2 := hid (show ∀ D n, Trk O w G D n → Trk O1 w2 G1 D n from fun D n hD => Trk.same (Step.of_below b2 (colB q)) (H.out.trk D n hD))
    have B2 := hid b2
    have c42 : w2.cell? ⟨b, 4, none⟩ = some (.slice p G1.wt.length cap) := by rw [hw2]; exact c4
    have hown2 : OwnE encPt 1 72 0 w2 (.slice p G1.wt.length cap) G1.wt := by rw [hw2]; exact HOWN.out.drewN m
    have hbl2 := Nat.lt_of_lt_of_le hbl b2.size
    have OWN2 := hid hown2
    have HW2 := hid hw2
    clear c4 hbl f4 hown2 hw2 b2 DUE HOWN
    cases hf : (G1.bd nums l1).wait.find? (dueB l1) with
    | none =>
      have hi : idxV G1.wt (fun E => dueB l1 (G1.en E)) = -1 := by
        have h1 : G1.wt.findIdx (fun E => dueB l1 (G1.en E)) = G1.wt.length := by
          refine List.findIdx_eq_length.2 fun E hE => ?_
          have := List.find?_eq_none.1 hf (G1.en E) (List.mem_map.2 ⟨E, hE, rfl⟩)
          simpa using this
        unfold idxV
        rw [h1, if_neg (by omega)]
      rw [hi]
      have fin : StopP O q w b G nums last evs (.returned (.tuple #[])) w2 := by
        have he := H.out.eq
        rw [stopsF_none hf] at he
        refine ⟨rfl, O1, G1, l1, ?_, by rw [← he], H.out.few, S2.out, T2.out⟩
        rw [← he]
        exact H2.out.board H.out.bd.ok H.out.bd.few
      have RR := hid fin
      clear fin hi hf
      generalize StopP O q w b G nums last evs = R at *
      go_wp2
      first | exact RR.out | (go_end0; exact RR.out)
    | some x =>
      obtain ⟨pre', post', hw, hidx, herase, hdue⟩ := find_split hf
      obtain ⟨pre, E, post, hwt, rfl, rfl, rfl⟩ := map_split (l := G1.wt) (en := G1.en) hw
      have hi : idxV G1.wt (fun E => dueB l1 (G1.en E)) = pre.length := by
        have h1 : G1.wt.findIdx (fun E => dueB l1 (G1.en E)) = pre.length := by
          rw [← idx_due (nums := nums)]
          exact hidx.trans (List.length_map _)
        unfold idxV
        rw [h1, if_pos (by rw [hwt]; simp)]
      rw [hi]
      have hk0 : ∃ k', k = k' + 1 := by
        have := H.out.len
        rw [hwt] at this
        simp at this
        exact ⟨pre.length + post.length, by omega⟩
      obtain ⟨k', hk'⟩ := hk0
      have hnd := H.out.bd.wait.nod
      rw [hwt] at hnd
      obtain ⟨n1, n2, n3⟩ := List.nodup_append.1 hnd
      obtain ⟨n4, n5⟩ := List.nodup_cons.1 n2
      have hEn : E ∉ pre ++ post := fun hm => by
        rcases List.mem_append.1 hm with hm | hm
        · exact n3 E hm E (by simp) rfl
        · exact n4 hm
      have hnd2 : (pre ++ post).Nodup := List.nodup_append.2 ⟨n1, n5, fun a ha b hb => n3 a ha b (List.mem_cons_of_mem _ hb)⟩
      have hsub : ∀ D ∈ pre ++ post, D ∈ G1.wt := fun D hD => by
        rw [hwt]
        rcases List.mem_append.1 hD with h | h
        · exact List.mem_append_left _ h
        · exact List.mem_append_right _ (List.mem_cons_of_mem _ h)
      have hown3 := OWN2.out
      rw [hwt] at hown3
      have dl := del_calls hown3 (by rw [← hwt]; exact hwl)
      rw [← hwt] at dl
      have hplt : pre.length < G1.wt.length := by rw [hwt]; simp
      have hpi : (pre.length : Int) < G1.wt.length := by omega
      obtain ⟨hpp, hbw⟩ := HP.out (by omega)
      have r1 : w2.cell? ⟨bw, pre.length, none⟩ = some (pt E) := by
        have := HROW.out pre.length hplt
        rw [HW2.out]
        refine this.trans ?_
        congr 2
        simp only [hwt]
        simp
      subst hpp
      have DL := hid dl
      have HWT := hid hwt
      have HK' := hid hk'
      have HEN := hid hEn
      have HND := hid hnd2
      have HSUB := hid hsub
      have HF := hid hf
      have HER := hid herase
      have hplen : pre.length ≤ 1000000 := by omega
      clear dl hwt hk' hEn hnd2 hsub hf herase hnd n1 n2 n3 n4 n5 hown3 hw hidx hdue hi HP HROW
      generalize hN : G1.wt.length = N at *
      generalize hI : pre.length = I at *
      have HI := hid hI
      have HN := hid hN
      clear hI hN
      have hbw2 : bw < w2.heap.size := by rw [HW2.out]; exact hbw
      go_wp2_with fail
      refine DL.out.mono ?_
      rintro e w3 ⟨v', rfl, o3, k3, b3⟩
      obtain ⟨⟨u4, d4⟩, d5, d6⟩ := H2.out.keptTop c42 k3
      obtain ⟨p4, s4, h4⟩ := H2.out.setWait c42 o3 k3 b3 HSUB.out HND.out
      obtain ⟨pp, cc, hv', _⟩ := o3.form
      obtain ⟨w4, hw4⟩ : ∃ w4, w4 = w3.setCell ⟨b, 4, none⟩ v' := ⟨_, rfl⟩
      rw [← hw4] at p4 s4 h4
      have e4 := h4 E (by rw [HWT.out]; simp)
      generalize (pre ++ post).length = n4 at hv'
      subst hv'
      have hx := H.out.bd.ok.wait (G1.en E) (List.mem_map.2 ⟨E, by rw [HWT.out]; simp, rfl⟩)
      have lv := Mm.wait_live G1 HWT.out
      obtain ⟨w5, r1, r2, r3⟩ := drop_pt (n := (G1.en E).n) (E := E) (m' := prs G1.en (G1.wait (pre ++ post)).live) (p4.below ((Below.refl _ w4).drew)) (prs_perm G1.en lv) 3
      have e5 := (e4.below ((Below.refl _ w4).drew)).step r3 (by omega)
      obtain ⟨g1, g2, g3⟩ := r2.grab e5 HEN.out
      obtain ⟨y0, _, _, _, _, _, _, hEl, _, _⟩ := e4.ent.cells
      obtain ⟨_, bm, _, _, hbl4, _, _⟩ := p4.cells (s := 1) (.inl rfl)
      have f11 := e5.ent.flag
      have hEl5 := e5.ent.lt
      obtain ⟨w6, hw6⟩ : ∃ w6, w6 = w5.setCell ⟨E, 11, none⟩ (.bool false) := ⟨_, rfl⟩
      rw [← hw6] at g1 g2 g3
      have y9 : w6.cell? ⟨E, 9, none⟩ = some (.int .i64 (G1.en E).l) := g2.ent.cells.2.2.2.2.2.1
      have hEl6 := g2.ent.lt
      have hsz := H.out.size
      have tl := tell_pt g1 (by omega) g2.ent 7 0 0 (G1.en E).l
      have S6 := hid ((((S2.out.trans (s4.B (by omega) (by omega))).trans (Step.of_below ((Below.refl _ w4).drew) (colB q))).trans (r3.B (by omega) (by omega))).trans g3)
      have STb := hid ((((s4.B (by omega) (by omega)).trans (Step.of_below ((Below.refl _ w4).drew) (colB q))).trans (r3.B (by omega) (by omega))).trans g3)
      have G2' := hid g2
      have TL := hid tl
      have R1 := hid r1
      have HX := hid hx
      have LV := hid lv
      obtain ⟨f11a, f11b⟩ := f11
      have HW4 := hid hw4
      have HW6 := hid hw6
      clear o3 k3 b3 p4 s4 h4 e4 hx lv r1 r2 r3 e5 g1 g2 g3 tl hsz c42 hw4 hw6
      go_wp2
      rw [← HW4.out]
      refine region_tail 8 (by kernel_rfl) (by kernel_rfl) ?_
      simp only [List.take_succ_cons, List.take_zero, List.drop_succ_cons, List.drop_zero]
      repeat still_step
      refine wpStill_nil ?_
      refine wpList_delete_run rfl (.tmp 34) (.tmp 38) 67 3 rfl _ _ w5 rfl rfl R1.out ?_
      have y9' : (w5.setCell ⟨E, 11, none⟩ (.bool false)).cell? ⟨E, 9, none⟩ = some (.int .i64 (G1.en E).l) := by rw [← HW6.out]; exact y9
      go_wp2_with fail
      rw [← HW6.out]
      refine TL.out.mono ?_
      rintro e w7 ⟨rfl, O7, p7, s7⟩
      have e7 := G2'.out.step s7 (by omega)
      have S7 := hid (S6.out.trans (s7.B (by omega) (by omega)))
      have ST2 := hid (STb.out.trans (s7.B (by omega) (by omega)))
      obtain ⟨kS, hperm⟩ := wait_off H.out.bd.ok (pre := pre.map G1.en) (post := post.map G1.en) (x := G1.en E) (by show G1.wt.map G1.en = _; rw [HWT.out]; simp)
      have hb2 : (G1.wait (pre ++ post)).bd nums l1 = { G1.bd nums l1 with wait := pre.map G1.en ++ post.map G1.en } := by rw [Mm.wait_bd, List.map_append]
      have lfew : (G1.wait (pre ++ post)).live.length + 1 = G1.live.length := by rw [LV.out.length_eq]; rfl
      have hq := okQ HX.out.ok
      have hxl := HX.out.l
      have sz := sizeL_perm hperm
      rw [sizeL_cons, ← hb2] at sz
      have hsz := H.out.size
      have hfew := H.out.bd.few
      have hnp := numsL_perm hperm
      have hnew : (G1.en E).n ∉ numsL ((G1.wait (pre ++ post)).bd nums l1).live := by
        rw [hb2]
        exact (List.nodup_cons.1 (hnp.nodup_iff.1 H.out.bd.ok.once)).1
      have hev : ∀ e ∈ ev1 ++ [⟨7, (G1.en E).n, 0, 0, (G1.en E).l⟩], EvOk nums e := fun e hm => by
        rcases List.mem_append.1 hm with hm | hm
        · exact H.out.ev e hm
        · simp only [List.mem_cons, List.not_mem_nil, or_false] at hm
          subst hm
          have h1 : 1 ≤ (G1.en E).n ∧ (G1.en E).n ≤ nums := HX.out.n
          exact ⟨h1, ⟨by simp only; omega, by simp only; omega⟩, by simp only; omega, by simp only; omega, fun h => by simp at h⟩
      have bd7 : BdC O7 q w7 b (G1.wait (pre ++ post)) nums l1 (ev1 ++ [⟨7, (G1.en E).n, 0, 0, (G1.en E).l⟩]) := p7.board (by rw [hb2]; exact kS) (by omega)
      have hlen7 : (ev1 ++ [(⟨7, (G1.en E).n, 0, 0, (G1.en E).l⟩ : Ev)]).length + sizeL ((G1.wait (pre ++ post)).bd nums l1).live ≤ 2999999999990 := by
        rw [List.length_append]
        simp only [List.length_cons, List.length_nil]
        omega
      have cc7 := come_calls bd7 e7 HX.out.ok HX.out.n hnew (by omega) (by omega) hev hlen7
      have ck := comeF_ok (left := (G1.en E).l) bd7.ok HX.out.ok HX.out.n hnew (by omega) hev
      have fin : ∀ e w', ComeP O7 q w7 b (G1.wait (pre ++ post)) nums l1 (ev1 ++ [⟨7, (G1.en E).n, 0, 0, (G1.en E).l⟩]) E (G1.en E) e w' → e = .returned (.tuple #[]) ∧ ∃ O' G' last' evs', StpC O O' q w w' b G G' nums last last' evs evs' k' := by
        rintro e w' ⟨r1, O', G', l', r2, r3, r4, r5, r6, r7⟩
        refine ⟨r1, O', G', l', _, r2, ?_, ?_, ck.evok, ?_, ?_, S7.out.trans r5, fun D n hD => ?_⟩
        · have hw := ck.wait
          rw [← r3, hb2] at hw
          have hw : G'.wt.map G'.en = pre.map G1.en ++ post.map G1.en := hw
          have hl := congrArg List.length hw
          rw [List.length_map, List.length_append, List.length_map, List.length_map] at hl
          have h0 := H.out.len
          rw [HWT.out, HK'.out] at h0
          simp at h0
          omega
        · rw [← H.out.eq, HK'.out, stopsF_some HF.out HER.out, ← hb2, r3]
        · have := ck.size
          rw [r3]
          have e3 := HK'.out
          rw [List.length_append] at this
          simp only [List.length_cons, List.length_nil] at this
          omega
        · have := H.out.few; omega
        · have tD := T2.out D n hD
          rcases tD with ⟨t1, t2⟩ | tD
          · have t3 := LV.out.mem_iff.1 t1
            rcases List.mem_cons.1 t3 with rfl | t3
            · rw [← t2]; exact r7
            · exact r6 D n (.inl ⟨t3, t2⟩)
          · refine r6 D n (.inr ?_)
            have t4 := Trk.same (G := G1) ST2.out (.inr tD : Trk O1 w2 G1 D n)
            rcases t4 with ⟨t5, t6⟩ | t4
            · exfalso
              have t7 := H2.out.live_col t5
              rw [tD.1] at t7
              exact absurd t7.1 (by omega)
            · exact t4
      have CC := hid (cc7.mono fin)
      clear fin ck cc7 hlen7 bd7 hev hnew hnp hfew hsz sz hxl hq lfew hb2 hperm kS e7 s7 p7 y9 y9' hEl6 f11a f11b hEl5 bm hbl4 y0 hEl
      go_wp2_with fail
      refine CC.out.mono ?_
      rintro e w8 ⟨rfl, O8, G8, l8, ev8, hs8⟩
      have HS8 := hid hs8
      clear hs8
      go_wp2
      go_roundg k'
      · exact ⟨_, rfl, O8, G8, l8, ev8, HS8.out⟩
      · have := HK'.out; omega
end Go.Proofs.YtepldjidkomclaaGreat.Bo
namespace Go.Proofs.YtepldjidkomclaaGreat.Bo
set_option linter.unusedSimpArgs false
set_option linter.unusedVariables false
open Go.RowKit Go.Shelf
attribute [local go_sem] Oper.semAt_some
attribute [local go_sem ↓] Go.wp_at_zero Go.wp_at_succ
theorem wpList_len_run {P : Program} {w : World} {ops : Array Oper} {rest : List Oper} {o : Oper} {a : Act} {Q : Exit → Act → World → Prop} (hgd : o.guard = none) (s : Operand) (t : TypeId)
    (ho : o.op = .call { callee := .builtin .len, args := #[s], argTypes := #[t] }) (sv v : Value) (hs : a.eval s = sv) (hrun : (Builtin.len_ #[t] o.type #[sv]).run P w = .ok v w) (h : wpList P ops Q rest (a.put o.dst v) w) :
    wpList P ops Q (o :: rest) a w := by
  refine wpList_plain hgd fun K hK => ?_
  unfold Oper.wp
  simp [execOp, ho, resolve, invoke, builtin, hs, hrun, Result.andThen]
  exact hK _ _ h
structure EntA (O : Nat → Nat) (q : Nat) (w W : World) (b : Nat) (G : Mm) (nums last : Int) (o : Od) : Prop where
  bd : BdC O q W b G nums last []
  box : Cells W w.heap.size #[.int .i64 o.m, .int .i64 o.s, .int .i64 o.k, .int .i64 o.f, .int .i64 o.p, .int .i64 o.t, .int .i64 o.q, .int .i64 o.pk] 34
  below : Below w.heap.size w W
theorem entA {O : Nat → Nat} {q : Nat} {w W : World} {b : Nat} {G : Mm} {nums last : Int} {o : Od} (h : BdC O q w b G nums last []) (hb : Below (w.alloc (.cells #[.int .i64 o.m, .int .i64 o.s, .int .i64 o.k, .int .i64 o.f, .int .i64 o.p, .int .i64 o.t, .int .i64 o.q, .int .i64 o.pk] 34)).heap.size (w.alloc (.cells #[.int .i64 o.m, .int .i64 o.s, .int .i64 o.k, .int .i64 o.f, .int .i64 o.p, .int .i64 o.t, .int .i64 o.q, .int .i64 o.pk] 34)) W) : EntA O q w W b G nums last o := by
  have hb2 : Below w.heap.size w W := ((Below.refl w.heap.size w).alloc (Nat.le_refl _) _).trans (hb.mono (by simp))
  exact ⟨h.step (Step.of_below hb2 (fun _ => False)) (fun _ _ => not_false), Cells.below (Cells.new w _ _) hb (by simp), hb2⟩
theorem EntA.next {O : Nat → Nat} {q : Nat} {w W W' : World} {b : Nat} {G : Mm} {nums last : Int} {o : Od} (h : EntA O q w W b G nums last o) (hb : Below W.heap.size W W') : EntA O q w W' b G nums last o :=
  ⟨h.bd.step (Step.of_below hb (fun _ => False)) (fun _ _ => not_false), h.box.below hb h.box.lt, h.below.trans (hb.mono h.below.size)⟩
theorem EntA.cells {O : Nat → Nat} {q : Nat} {w W : World} {b : Nat} {G : Mm} {nums last : Int} {o : Od} (h : EntA O q w W b G nums last o) : W.cell? ⟨w.heap.size, 0, none⟩ = some (.int .i64 o.m) ∧ W.cell? ⟨w.heap.size, 1, none⟩ = some (.int .i64 o.s) ∧ W.cell? ⟨w.heap.size, 2, none⟩ = some (.int .i64 o.k) ∧ W.cell? ⟨w.heap.size, 3, none⟩ = some (.int .i64 o.f) ∧ W.cell? ⟨w.heap.size, 4, none⟩ = some (.int .i64 o.p) ∧ W.cell? ⟨w.heap.size, 5, none⟩ = some (.int .i64 o.t) ∧ W.cell? ⟨w.heap.size, 6, none⟩ = some (.int .i64 o.q) ∧ W.cell? ⟨w.heap.size, 7, none⟩ = some (.int .i64 o.pk) ∧ w.heap.size < W.heap.size ∧
    W.cell? ⟨b, 3, none⟩ = some (.map (some G.mb)) ∧ W.cell? ⟨b, 5, none⟩ = some (.int .i64 nums) ∧ b < W.heap.size ∧ W.frozen? ⟨b, 5, none⟩ = false := by
  obtain ⟨_, p1, p2, _, p3, _, p4⟩ := h.bd.parts.cells (s := 1) (.inl rfl)
  refine ⟨?_, ?_, ?_, ?_, ?_, ?_, ?_, ?_, h.box.lt, p1, p2, p3, p4⟩ <;> (rw [h.box.cell]; rfl)
def EnterP (O : Nat → Nat) (q : Nat) (w : World) (b : Nat) (G : Mm) (nums last : Int) (o : Od) (e : Ending) (w' : World) : Prop :=
  (enterE (G.bd nums last) o ≠ 0 ∧ e = .returned (.tuple #[.int .i64 0, .slice none 0 0, .int .i64 (enterE (G.bd nums last) o)]) ∧ BdC O q w' b G nums last [] ∧ Step (colB q) O w O w') ∨
  (enterE (G.bd nums last) o = 0 ∧ ∃ v O' G' last', e = .returned (.tuple #[.int .i64 (nums + 1), v, .int .i64 0]) ∧ OwnE encEv 5 36 0 w' v (enterF (G.bd nums last) o).2 ∧ (∀ g, v.ownBlock = some g → O' g = q + 3) ∧ BdC O' q w' b G' (nums + 1) last' [] ∧ G'.bd (nums + 1) last' = (enterF (G.bd nums last) o).1 ∧ Step (colB q) O w O' w')
set_option maxRecDepth 100000 in
set_option maxHeartbeats 8000000 in
theorem enter_no {O : Nat → Nat} {q : Nat} {w : World} {b : Nat} {G : Mm} {nums last : Int} (h : BdC O q w b G nums last []) (o : Od) (hE : enterE (G.bd nums last) o ≠ 0) :
    Calls Tryz.prog 7 #[pt b, .agg o.vals] w (EnterP O q w b G nums last o) := by
  have HA := hid (fun W hb => entA (W := W) (o := o) h hb)
  have A0 := HA.out _ (Below.refl _ _)
  have va := valid_calls o (w.alloc (.cells #[.int .i64 o.m, .int .i64 o.s, .int .i64 o.k, .int .i64 o.f, .int .i64 o.p, .int .i64 o.t, .int .i64 o.q, .int .i64 o.pk] 34))
  have fin : ∀ W e, EntA O q w W b G nums last o → e = .returned (.tuple #[.int .i64 0, .slice none 0 0, .int .i64 (enterE (G.bd nums last) o)]) → EnterP O q w b G nums last o e W := fun W e hA he => .inl ⟨hE, he, hA.bd, Step.of_below hA.below _⟩
  have FIN := hid fin
  have hE' := hE
  unfold enterE at hE'
  unfold Od.vals at va ⊢
  clear A0 fin hE
  by_cases h1 : o.ok = false
  · have he : enterE (G.bd nums last) o = 1 := by unfold enterE; rw [if_pos h1]
    rw [h1] at va
    rw [he] at FIN
    have VA := hid va
    clear va h h1 hE' he
    generalize EnterP O q w b G nums last o = R at *
    go_enter Tryz.func7, Tryz.ntmps7
    go_wp2_with fail
    refine VA.out.mono ?_
    rintro e w1 ⟨rfl, hb⟩
    have fn := FIN.out w1 _ (HA.out w1 hb) rfl
    have FN := hid fn
    clear fn hb
    go_wp2
    exact bodyPost_ret (v := .tuple #[.int .i64 0, .slice none 0 0, .int .i64 1]) (by simp [results, Tryz.results7, go_sem]) rfl FN.out
  · have hok : o.ok = true := by simpa using h1
    have hs := okS hok
    rw [hok] at va
    have VA := hid va
    have ML := hid (fun W (A : EntA O q w W b G nums last o) ty => (show (Builtin.len_ #[67] ty #[.map (some G.mb)]).run Tryz.prog W = .ok (.int .i64 (G.live.length : Int)) W by have := A.bd.map.map.len ty; rw [show (prs G.en G.live).length = G.live.length by simp [prs]] at this; exact this))
    have hlive : (G.bd nums last).live.length = G.live.length := by rw [Mm.bd_live]; simp
    rw [hlive] at hE'
    by_cases h2 : 4096 ≤ G.live.length
    · have he : enterE (G.bd nums last) o = 6 := by unfold enterE; rw [if_neg h1, hlive, if_pos h2]
      rw [he] at FIN
      have h2I : (4096 : Int) ≤ (G.live.length : Int) := by omega
      clear va h h1 hE' he hlive hok
      generalize EnterP O q w b G nums last o = R at *
      go_enter Tryz.func7, Tryz.ntmps7
      go_wp2_with fail
      refine VA.out.mono ?_
      rintro e w1 ⟨rfl, hb⟩
      have A := HA.out w1 hb
      have fn := FIN.out w1 _ A rfl
      have FN := hid fn
      have MLW := hid (ML.out w1 A)
      obtain ⟨b0, b1, b2, b3, b4, b5, b6, b7, hwl, bm, b55, hbl, fb5⟩ := A.cells
      clear fn hb A ML
      go_wp2_with (refine wpList_len_run rfl (.tmp 16) 67 rfl _ _ rfl (MLW.out _) ?_)
      exact bodyPost_ret (v := .tuple #[.int .i64 0, .slice none 0 0, .int .i64 6]) (by simp [results, Tryz.results7, go_sem]) rfl FN.out
    · by_cases h3 : o.f = 4 ∧ o.t = 0 ∧ meetsH o ((G.bd nums last).half (3 - o.s)) = true
      · have he : enterE (G.bd nums last) o = 20 := by unfold enterE; rw [if_neg h1, hlive, if_neg h2, if_pos h3]
        rw [he] at FIN
        have h2I : (G.live.length : Int) < 4096 := by omega
        obtain ⟨f4, t0, hm⟩ := h3
        have e4 : (o.f == 4) = true := by simpa using f4
        have e5 : (o.t == 0) = true := by simpa using t0
        have me := fun W (A : EntA O q w W b G nums last o) => A.bd.meets o hs
        rw [hm] at me
        unfold Od.vals at me
        have ME := hid me
        clear va h h1 hE' he hlive hok f4 t0 hm me
        generalize EnterP O q w b G nums last o = R at *
        go_enter Tryz.func7, Tryz.ntmps7
        go_wp2_with fail
        refine VA.out.mono ?_
        rintro e w1 ⟨rfl, hb⟩
        have A := HA.out w1 hb
        have MLW := hid (ML.out w1 A)
        have MEW := hid (ME.out w1 A)
        obtain ⟨b0, b1, b2, b3, b4, b5, b6, b7, hwl, bm, b55, hbl, fb5⟩ := A.cells
        have AH := hid A
        clear hb A ML ME
        go_wp2_with (refine wpList_len_run rfl (.tmp 16) 67 rfl _ _ rfl (MLW.out _) ?_)
        refine MEW.out.mono ?_
        rintro e w2 ⟨rfl, hb2⟩
        have fn := FIN.out w2 _ (AH.out.next hb2) rfl
        have FN := hid fn
        clear fn hb2
        go_wp2
        exact bodyPost_ret (v := .tuple #[.int .i64 0, .slice none 0 0, .int .i64 20]) (by simp [results, Tryz.results7, go_sem]) rfl FN.out
      · exact absurd (by rw [if_neg h1, if_neg h2, if_neg h3]) hE'
end Go.Proofs.YtepldjidkomclaaGreat.Bo
namespace Go.Proofs.YtepldjidkomclaaGreat.Bo
set_option linter.unusedSimpArgs false
set_option linter.unusedVariables false
open Go.RowKit Go.Shelf
theorem PtC.setNums {O : Nat → Nat} {q : Nat} {w : World} {b : Nat} {G : Mm} {nums last : Int} {evs : List Ev} {m : List (Int × Nat)} (h : PtC O q w b G nums last evs m) (n : Int) : PtC O q (w.setCell ⟨b, 5, none⟩ (.int .i64 n)) b G n last evs m ∧ Step (fun c => c = q + 3) O w O (w.setCell ⟨b, 5, none⟩ (.int .i64 n)) := by
  have st : Step (fun c => c = q + 3) O w O (w.setCell ⟨b, 5, none⟩ (.int .i64 n)) := Step.set h.top.col 5 _
  exact ⟨⟨h.top.setNums n, h.buy.step st (by omega) (fun _ _ => rfl), h.sell.step st (by omega) (fun _ _ => rfl), h.map.step st (by omega), h.wait.step st (by omega) (fun _ _ => rfl)⟩, st⟩
theorem PtC.fresh {O : Nat → Nat} {q : Nat} {w : World} {b : Nat} {G : Mm} {nums last : Int} {evs : List Ev} {m : List (Int × Nat)} (h : PtC O q w b G nums last evs m) {w' : World} (hb : Below w.heap.size w w') (c : Nat) : PtC (grow O w c) q w' b G nums last evs m ∧ Step (colB q) O w (grow O w c) w' := by
  have st : Step (fun k => k = 0) O w (grow O w c) w' := Step.grow (Kept.of_below hb)
  refine ⟨h.step st (fun x hx _ e => by have := hx.1; omega), ⟨st.os, st.tape, st.output, st.size, fun k hk _ => ⟨hb.block k hk, grow_old hk⟩, fun k hk hc => .inl (by rw [grow_old hk]; exact hc)⟩⟩
theorem ent_append {w : World} {v : Value} {l : List Nat} (h : OwnE encPt 1 72 0 w v l) (hlen : l.length ≤ 1000000) (X : Nat) {B : Nat} (hB : Cells w B #[pt X] 72) (ty : TypeId) :
    ∃ v' w', (Builtin.append_ #[68, 68] ty #[v, .slice (some ⟨B, 0, none⟩) 1 1]).run Tryz.prog w = .ok v' w' ∧ OwnE encPt 1 72 0 w' v' (l ++ [X]) ∧ Kept (fun k => some k = v.ownBlock) w w' ∧ (v'.ownBlock = v.ownBlock ∨ v'.ownBlock = some w.heap.size) := by
  obtain ⟨i, h1, h2, h3, h4⟩ := info_ptr infoEnt
  obtain ⟨v', w', r1, r2, r3, _, r5⟩ := run_append_own_at w 0 68 ty 72 i _ 1 8 undEnt h1 h2 h3 h4 rfl (by omega) v l.length (flatE encPt l) h ⟨B, 0, none⟩ 1 1 [pt X] rfl
    (fun j u hu => news_of hB j u (by simpa using hu)) (by intro u hu; rw [List.mem_singleton] at hu; rw [hu]; rfl) (by unfold maxLen; omega) (by omega) (by omega)
  refine ⟨v', w', r1, ?_, Kept.of_grown r3, r5⟩
  unfold OwnE
  rw [flatE_snoc, List.length_append]
  exact r2
theorem PtC.addWait {O : Nat → Nat} {q : Nat} {w w1 : World} {b : Nat} {G : Mm} {nums last : Int} {evs : List Ev} {m : List (Int × Nat)} (h : PtC O q w b G nums last evs m) {vw v' : Value} (hc : w.cell? ⟨b, 4, none⟩ = some vw) {X : Nat} {x : En} (hX : HdC O (q + 4) w X x true) (hXn : X ∉ G.wt)
    (ho : OwnE encPt 1 72 0 w1 v' (G.wt ++ [X])) (hk : Kept (fun k => some k = vw.ownBlock) w w1) (hb : v'.ownBlock = vw.ownBlock ∨ v'.ownBlock = some w.heap.size) (hfar : ∀ s, s = 1 ∨ s = 2 → ∀ E ∈ ensL (G.L s), E ≠ X) :
    ∃ O', PtC O' q (w1.setCell ⟨b, 4, none⟩ v') b { G with wt := G.wt ++ [X], en := setEn G.en X x } nums last evs m ∧ Step (fun c => c = q + 3) O w O' (w1.setCell ⟨b, 4, none⟩ v') ∧ HdC O' (q + 4) (w1.setCell ⟨b, 4, none⟩ v') X x true := by
  obtain ⟨vw', ve, h1, h2, h3, h4, h5⟩ := h.top.cell
  have e : vw' = vw := by
    rw [h1.cell] at hc
    injection hc
  subst e
  have hbv : ∀ g, vw'.ownBlock = some g → g ≠ b := fun g hg => by obtain ⟨cs, hcs⟩ := own_lt h2 hg; exact hcs.ne h1 (by decide)
  have hB1 := h1.kept hk (fun e => hbv b e.symm rfl)
  have hve : OwnE encEv 5 36 0 w1 ve evs := OwnE.kept h3 hk (fun g hg e => by
    obtain ⟨cs, hcs⟩ := own_lt h3 hg
    obtain ⟨cs', hcs'⟩ := own_lt h2 e.symm
    exact hcs.ne hcs' (by decide) rfl)
  have k2 : Kept (fun k => O k = q + 3) w (w1.setCell ⟨b, 4, none⟩ v') := by
    have k1 : Kept (fun k => O k = q + 3) w w1 := hk.mono (fun k e => h4 k e.symm)
    exact k1.set (C := b) h.top.col 4 v'
  have st : Step (fun c => c = q + 3) O w (grow O w (q + 3)) (w1.setCell ⟨b, 4, none⟩ v') := Step.grow k2
  have hw := h.wait.step st (by omega) (fun _ _ => rfl)
  have hx2 := hX.step st (by omega)
  have enf : ∀ {s}, s = 1 ∨ s = 2 → ∀ E ∈ ensL (G.L s), setEn G.en X x E = G.en E := fun {s} hs E hE => setEn_far _ _ (hfar s hs E hE)
  refine ⟨_, ⟨⟨⟨v', ve, hB1.set 4 v', ho.set hB1 (by decide) 4 v', hve.set hB1 (by decide) 4 v', fun g hg => ?_, fun g hg => grow_same (h5 g hg)⟩, grow_same h.top.col⟩, ?_, ?_, h.map.step st (by omega), ⟨fun D hD => ?_, ?_⟩⟩, st, hx2⟩
  · rcases hb with hb | hb
    · rw [hb] at hg; exact grow_same (h4 g hg)
    · rw [hb] at hg
      injection hg with hg
      rw [← hg]
      exact grow_new (Nat.le_refl _)
  · exact h.buy.step st (by omega) (fun E hE => enf (.inl rfl) E hE)
  · exact h.sell.step st (by omega) (fun E hE => enf (.inr rfl) E hE)
  · rcases List.mem_append.1 hD with hD | hD
    · obtain ⟨d1, d2⟩ := hw.ent D hD
      refine ⟨d1, ?_⟩
      show EnC _ D (setEn G.en X x D) true none
      rw [setEn_far _ _ (fun e => hXn (by rw [← e]; exact hD))]
      exact d2
    · obtain rfl := List.mem_singleton.1 hD
      refine ⟨hx2.col, ?_⟩
      show EnC _ D (setEn G.en D x D) true none
      rw [setEn_self]
      exact hx2.ent
  · exact List.nodup_append.2 ⟨h.wait.nod, by simp, fun a ha c hc e => by
      rw [List.mem_singleton] at hc
      subst hc
      exact hXn (by rw [← e]; exact ha)⟩
theorem PtC.handWait {O : Nat → Nat} {q : Nat} {w : World} {b : Nat} {G : Mm} {nums last : Int} {evs : List Ev} {m : List (Int × Nat)} (h : PtC O q w b G nums last evs m) {X : Nat} {x : En} {wx : Bool} (hX : HdC O (q + 5) w X x wx) :
    PtC (paint O X (q + 4)) q w b G nums last evs m ∧ HdC (paint O X (q + 4)) (q + 4) w X x wx ∧ Step (colB q) O w (paint O X (q + 4)) w ∧ X ∉ G.wt ∧ ∀ s, s = 1 ∨ s = 2 → ∀ E ∈ ensL (G.L s), E ≠ X := by
  have st : Step (fun c => c = q + 5 ∨ c = q + 4) O w (paint O X (q + 4)) w := Step.paint O w (.inl hX.col) (.inl (.inr rfl))
  have nW : X ∉ G.wt := fun hm => by have := (h.wait.ent X hm).1; rw [hX.col] at this; omega
  refine ⟨⟨h.top.step st (by omega), h.buy.step st (by omega) (fun _ _ => rfl), h.sell.step st (by omega) (fun _ _ => rfl), h.map.step st (by omega), ⟨fun E hE => ?_, h.wait.nod⟩⟩, ⟨hX.ent, paint_self _ _ _⟩, st.wider (fun c hc => ?_), nW, fun s hs E hE e => ?_⟩
  · obtain ⟨d1, d2⟩ := h.wait.ent E hE
    exact ⟨by rw [paint_far O (fun e => nW (by rw [← e]; exact hE))]; exact d1, d2⟩
  · rcases hc with rfl | rfl <;> exact ⟨by omega, by omega⟩
  · have := ((h.side hs).entry hE).1
    rw [e, hX.col] at this
    have := (colS_ne q hs).2.2.2.1
    omega
theorem Mm.addWait_plain (G : Mm) {X : Nat} {x : En} (hW : X ∉ G.wt) (hf : ∀ s, s = 1 ∨ s = 2 → ∀ E ∈ ensL (G.L s), E ≠ X) (nums last : Int) : Mm.bd { G with wt := G.wt ++ [X], en := setEn G.en X x } nums last = { G.bd nums last with wait := (G.bd nums last).wait ++ [x] } ∧
    (Mm.live { G with wt := G.wt ++ [X], en := setEn G.en X x }).Perm (X :: G.live) ∧ ∀ E ∈ G.live, setEn G.en X x E = G.en E := by
  have far : ∀ E, E ≠ X → setEn G.en X x E = G.en E := fun E hE => setEn_far _ _ hE
  refine ⟨?_, ?_, fun E hE => far E ?_⟩
  · show Bd.mk (plainH G.lb (setEn G.en X x)) (plainH G.ls (setEn G.en X x)) ((G.wt ++ [X]).map (setEn G.en X x)) nums last = Bd.mk (plainH G.lb G.en) (plainH G.ls G.en) (G.wt.map G.en ++ [x]) nums last
    rw [plainH_congr (en := G.en) (ls := G.lb) (fun E hE => far E (hf 1 (.inl rfl) E hE)), plainH_congr (en := G.en) (ls := G.ls) (fun E hE => far E (hf 2 (.inr rfl) E hE)), List.map_append, List.map_singleton, setEn_self,
      List.map_congr_left (fun E hE => far E (fun e => hW (by rw [← e]; exact hE)))]
  · show (ensL G.lb ++ (ensL G.ls ++ (G.wt ++ [X]))).Perm (X :: (ensL G.lb ++ (ensL G.ls ++ G.wt)))
    have h1 : (G.wt ++ [X]).Perm (X :: G.wt) := List.perm_append_comm
    exact (((h1.append_left (ensL G.ls)).trans List.perm_middle).append_left (ensL G.lb)).trans List.perm_middle
  · have := (Mm.put_live (s := 1) (.inl rfl) G [] G.en).1.mem_iff.1 hE
    rcases List.mem_append.1 this with h1 | h1
    · exact hf 1 (.inl rfl) E h1
    · rcases List.mem_append.1 h1 with h1 | h1
      · exact hf 2 (.inr rfl) E h1
      · exact fun e => hW (by rw [← e]; exact h1)
theorem Trk.cell {O : Nat → Nat} {q : Nat} {w : World} {b : Nat} {G : Mm} {nums last : Int} {evs : List Ev} {m : List (Int × Nat)} (h : PtC O q w b G nums last evs m) {X : Nat} {n : Int} (ht : Trk O w G X n) : X < w.heap.size ∧ w.cell? ⟨X, 0, none⟩ = some (.int .i64 n) := by
  rcases ht with ⟨h1, rfl⟩ | ⟨_, h2, h3⟩
  · have := (Mm.put_live (s := 1) (.inl rfl) G [] G.en).1.mem_iff.1 h1
    have key : ∃ wx px, EnC w X (G.en X) wx px := by
      rcases List.mem_append.1 this with h2 | h2
      · obtain ⟨_, P, hP⟩ := (h.side (.inl rfl)).entry h2
        exact ⟨_, _, hP⟩
      · rcases List.mem_append.1 h2 with h2 | h2
        · obtain ⟨_, P, hP⟩ := (h.side (.inr rfl)).entry (en := G.en) h2
          exact ⟨_, _, hP⟩
        · exact ⟨_, _, (h.wait.ent X h2).2⟩
    obtain ⟨wx, px, hE⟩ := key
    exact ⟨hE.lt, hE.cells.1⟩
  · exact ⟨h2, h3⟩
end Go.Proofs.YtepldjidkomclaaGreat.Bo
namespace Go.Proofs.YtepldjidkomclaaGreat.Bo
set_option linter.unusedSimpArgs false
set_option linter.unusedVariables false
open Go.RowKit Go.Shelf
attribute [local go_sem] Oper.semAt_some
attribute [local go_sem ↓] Go.wp_at_zero Go.wp_at_succ
theorem bd_nums {S : Bd} (hS : BdOk S) (hn : S.nums < 1000000) : BdOk { S with nums := S.nums + 1 } := by
  have hN := hS.nums
  exact ⟨by simp only; omega, hS.last, hS.buy.mono (by simp only; omega), hS.sell.mono (by simp only; omega), fun e he => (hS.wait e he).mono (by simp only; omega), hS.rise, hS.once⟩
theorem bd_fresh {S : Bd} (hS : BdOk S) : S.nums + 1 ∉ numsL S.live := fun h => by
  obtain ⟨e, he, hen⟩ := List.mem_map.1 h
  have : 1 ≤ e.n ∧ e.n ≤ S.nums := by
    unfold Bd.live at he
    rcases List.mem_append.1 he with he | he
    · exact (hS.buy.mem e he).n
    · rcases List.mem_append.1 he with he | he
      · exact (hS.sell.mem e he).n
      · exact (hS.wait e he).n
  omega
theorem bd_wait {S : Bd} (hS : BdOk S) (hn : S.nums < 1000000) {o : Od} (ho : o.ok = true) (ht : o.t ≠ 0) : BdOk { S with nums := S.nums + 1, wait := S.wait ++ [⟨S.nums + 1, o, o.q, 0⟩] } ∧ (Bd.live { S with nums := S.nums + 1, wait := S.wait ++ [⟨S.nums + 1, o, o.q, 0⟩] }).Perm (⟨S.nums + 1, o, o.q, 0⟩ :: S.live) := by
  have hN := hS.nums
  have hq := okQ ho
  have hS1 := bd_nums hS hn
  have hnew := bd_fresh hS
  have hW : WOk (S.nums + 1) ⟨S.nums + 1, o, o.q, 0⟩ := ⟨by simp only; omega, ho, rfl, rfl, ht⟩
  have hp : (Bd.live { S with nums := S.nums + 1, wait := S.wait ++ [⟨S.nums + 1, o, o.q, 0⟩] }).Perm (⟨S.nums + 1, o, o.q, 0⟩ :: S.live) := by
    unfold Bd.live
    simp only
    have h1 : (S.wait ++ [(⟨S.nums + 1, o, o.q, 0⟩ : En)]).Perm (⟨S.nums + 1, o, o.q, 0⟩ :: S.wait) := List.perm_append_comm
    exact (((h1.append_left S.sell.all).trans List.perm_middle).append_left S.buy.all).trans List.perm_middle
  have hnp := numsL_perm hp
  refine ⟨⟨hS1.nums, hS1.last, hS1.buy, hS1.sell, fun e he => ?_, ?_, hnp.nodup_iff.2 (List.nodup_cons.2 ⟨hnew, hS.once⟩)⟩, hp⟩
  · rcases List.mem_append.1 he with he | he
    · exact hS1.wait e he
    · simp only [List.mem_cons, List.not_mem_nil, or_false] at he
      subst he; exact hW
  · refine List.pairwise_append.2 ⟨hS.rise, by simp, fun u hu v hv => ?_⟩
    simp only [List.mem_cons, List.not_mem_nil, or_false] at hv
    subst hv
    have := (hS.wait u hu).n
    simp only; omega
def entR (S : Bd) (o : Od) : Bd × List Ev := if o.t = 0 then comeF { S with nums := S.nums + 1 } (S.nums + 1) o o.q [] else ({ S with nums := S.nums + 1, wait := S.wait ++ [⟨S.nums + 1, o, o.q, 0⟩] }, [⟨8, S.nums + 1, 0, 0, o.q⟩])
theorem enterF_entR (S : Bd) (o : Od) : enterF S o = stopsF (entR S o).1.wait.length (entR S o).1 (entR S o).2 := rfl
structure EntB (O : Nat → Nat) (q : Nat) (w W : World) (b : Nat) (G : Mm) (nums last : Int) (o : Od) (X : Nat) (O1 : Nat → Nat) (G1 : Mm) (l1 : Int) : Prop where
  bd : BdC O1 q W b G1 (nums + 1) l1 (entR (G.bd nums last) o).2
  eq : G1.bd (nums + 1) l1 = (entR (G.bd nums last) o).1
  ev : ∀ e ∈ (entR (G.bd nums last) o).2, EvOk (nums + 1) e
  size : (entR (G.bd nums last) o).2.length + sizeL (entR (G.bd nums last) o).1.live ≤ 2000000000000
  step : Step (colB q) O w O1 W
  trk : Trk O1 W G1 X (nums + 1)
set_option maxRecDepth 100000 in
set_option maxHeartbeats 8000000 in
theorem enter_yes {O : Nat → Nat} {q : Nat} {w : World} {b : Nat} {G : Mm} {nums last : Int} (h : BdC O q w b G nums last []) (o : Od) (hE : enterE (G.bd nums last) o = 0) (hn : nums < 1000000) (hsz : sizeL (G.bd nums last).live ≤ 1000000000000) :
    Calls Tryz.prog 7 #[pt b, .agg o.vals] w (EnterP O q w b G nums last o) := by
  have HA := hid (fun W hb => entA (W := W) (o := o) h hb)
  have va := valid_calls o (w.alloc (.cells #[.int .i64 o.m, .int .i64 o.s, .int .i64 o.k, .int .i64 o.f, .int .i64 o.p, .int .i64 o.t, .int .i64 o.q, .int .i64 o.pk] 34))
  have hE' := hE
  unfold enterE at hE'
  have hlive : (G.bd nums last).live.length = G.live.length := by rw [Mm.bd_live]; simp
  rw [hlive] at hE'
  have h1 : ¬ o.ok = false := fun h1 => by rw [if_pos h1] at hE'; omega
  rw [if_neg h1] at hE'
  have h2 : ¬ 4096 ≤ G.live.length := fun h2 => by rw [if_pos h2] at hE'; omega
  rw [if_neg h2] at hE'
  have h3 : ¬ (o.f = 4 ∧ o.t = 0 ∧ meetsH o ((G.bd nums last).half (3 - o.s)) = true) := fun h3 => by rw [if_pos h3] at hE'; omega
  have hok : o.ok = true := by simpa using h1
  have hs := okS hok
  rw [hok] at va
  unfold Od.vals at va ⊢
  have VA := hid va
  have ML := hid (fun W (A : EntA O q w W b G nums last o) ty => (show (Builtin.len_ #[67] ty #[.map (some G.mb)]).run Tryz.prog W = .ok (.int .i64 (G.live.length : Int)) W by have := A.bd.map.map.len ty; rw [show (prs G.en G.live).length = G.live.length by simp [prs]] at this; exact this))
  have ME := hid (fun W (A : EntA O q w W b G nums last o) => A.bd.meets o hs)
  have h2I : (G.live.length : Int) < 4096 := by omega
  have HE := hid hE
  have HOK := hid hok
  have H3 := hid h3
  have HSZ := hid hsz
  have HB := hid h
  have hnum := h.ok.nums
  have hnn : (G.bd nums last).nums = nums := rfl
  rw [hnn] at hnum
  clear va h h1 hE' hE hlive hok h3 hsz hnn
  go_enter Tryz.func7, Tryz.ntmps7
  go_wp2_with fail
  refine VA.out.mono ?_
  rintro e w1 ⟨rfl, hb⟩
  have A := HA.out w1 hb
  have MLW := hid (ML.out w1 A)
  have MEW := hid (ME.out w1 A)
  unfold Od.vals at MEW
  obtain ⟨b0, b1, b2, b3, b4, b5, b6, b7, hwl, bm, b55, hbl, fb5⟩ := A.cells
  have AH := hid A
  clear hb A ML ME HA VA
  go_upto_region 7 with (refine wpList_len_run rfl (.tmp 16) 67 rfl _ _ rfl (MLW.out _) ?_)
  go_cut [31] (fun s31 wx => s31 = .bool false ∧ EntA O q w wx b G nums last o)
  case first =>
    by_cases f4 : o.f = 4
    · have e4 : (o.f == 4) = true := by simpa using f4
      by_cases t0 : o.t = 0
      · have e5 : (o.t == 0) = true := by simpa using t0
        have hmf : meetsH o ((G.bd nums last).half (3 - o.s)) = false := by
          cases hc : meetsH o ((G.bd nums last).half (3 - o.s)) with
          | false => rfl
          | true => exact absurd ⟨f4, t0, hc⟩ H3.out
        rw [hmf] at MEW
        clear f4 t0 hmf
        go_wp2_with fail
        refine MEW.out.mono ?_
        rintro e w2 ⟨rfl, hb2⟩
        have AN := hid (AH.out.next hb2)
        clear hb2
        go_wp2
        go_meet
        exact ⟨rfl, AN.out⟩
      · have e5 : (o.t == 0) = false := by simpa using t0
        clear f4 t0
        go_wp2
        go_meet
        exact ⟨rfl, AH.out⟩
    · have e4 : (o.f == 4) = false := by simpa using f4
      clear f4
      go_wp2
      go_meet
      exact ⟨rfl, AH.out⟩
  case rest =>
    obtain ⟨rfl, A⟩ := hcut
    obtain ⟨wa, hwa⟩ : ∃ wa : World, wa = wc := ⟨_, rfl⟩
    subst hwa
    clear b0 b1 b2 b3 b4 b5 b6 b7 hwl bm b55 hbl fb5 MLW MEW AH
    obtain ⟨b0, b1, b2, b3, b4, b5, b6, b7, hwl, bm, b55, hbl, fb5⟩ := A.cells
    obtain ⟨vw, ve, t1, _⟩ := A.bd.top.cell
    have hbx : b ≠ w.heap.size := t1.ne A.box (by decide)
    obtain ⟨p2, s2⟩ := A.bd.parts.setNums (nums + 1)
    have S2 := hid ((Step.of_below (O := O) A.below (colB q)).trans (s2.B (by omega) (by omega)))
    have P2 := hid p2
    have AH := hid A
    clear t1 p2 s2 A
    go_upto_region 10 with fail
    obtain ⟨w2, hw2⟩ : ∃ w2, w2 = wa.setCell ⟨b, 5, none⟩ (.int .i64 (nums + 1)) := ⟨_, rfl⟩
    have HW2 := hid hw2
    have sz2 : w2.heap.size = wa.heap.size := by rw [hw2, size_setCell]
    rw [← hw2] at P2 S2
    clear hw2
    go_cut [7] (fun s7 wx => s7 = pt wa.heap.size ∧ Cells wx wa.heap.size #[.int .i64 (nums + 1), .int .i64 o.m, .int .i64 o.s, .int .i64 o.k, .int .i64 o.f, .int .i64 o.p, .int .i64 o.t, .int .i64 o.q, .int .i64 o.pk, .int .i64 o.q, .int .i64 0, .bool false, .pointer none] 75 ∧ Below w2.heap.size w2 wx)
    case first =>
      go_region
      all_goals go_wp2
      all_goals go_meet
      all_goals (
        rw [← HW2.out]
        refine ⟨rfl, ?_, (Below.alloc (Below.refl _ w2) (Nat.le_refl _) _).drew⟩
        have e := (Cells.new w2 #[.int .i64 (nums + 1), .int .i64 o.m, .int .i64 o.s, .int .i64 o.k, .int .i64 o.f, .int .i64 o.p, .int .i64 o.t, .int .i64 o.q, .int .i64 o.pk, .int .i64 o.q, .int .i64 0, .bool false, .pointer none] 75).drew
        rw [sz2] at e
        exact e)
    case rest =>
      obtain ⟨rfl, cX, hbX⟩ := hcut
      obtain ⟨X, hXe⟩ : ∃ X, X = wa.heap.size := ⟨_, rfl⟩
      rw [← hXe] at cX sz2 ⊢
      have c5 : wc.cell? ⟨w.heap.size, 5, none⟩ = some (.int .i64 o.t) := by
        rw [hbX.cell (p := ⟨w.heap.size, 5, none⟩) (by show w.heap.size < w2.heap.size; rw [sz2, hXe]; exact hwl), HW2.out, World.cell?_setCell_other _ _ _ _ (fun e => hbx (congrArg Addr.block e))]
        exact b5
      have hwl5 : w.heap.size < wc.heap.size := by have := hbX.size; omega
      obtain ⟨pf, sf⟩ := P2.out.fresh hbX (q + 5)
      have hX : HdC (grow O w2 (q + 5)) (q + 5) wc X ⟨nums + 1, o, o.q, 0⟩ false := ⟨cX, grow_new (by rw [sz2]; exact Nat.le_refl _)⟩
      have PF := hid pf
      have HX := hid hX
      have SF := hid (S2.out.trans sf)
      have hf := AH.out.bd.few
      have hq := okQ HOK.out
      clear pf sf hX cX hbX b0 b1 b2 b3 b4 b5 b6 b7 hwl bm b55 hbl fb5 S2 P2 hbx HW2 sz2 hXe
      go_upto_if 50 with fail
      go_cut [] (fun wx => ∃ O1 G1 l1, EntB O q w wx b G nums last o X O1 G1 l1)
      case first =>
        by_cases t0 : o.t = 0
        · have e5 : (o.t == 0) = true := by simpa using t0
          have HT := hid t0
          clear t0
          have bd : BdC (grow O w2 (q + 5)) q wc b G (nums + 1) last [] := PF.out.board (bd_nums HB.out.ok hn) AH.out.bd.few
          have cm := come_calls bd HX.out HOK.out ⟨by simp only; omega, by simp only; omega⟩ (bd_fresh HB.out.ok) ⟨by simp only; omega, by simp only; omega⟩ (by omega) (by simp) (by simp only [List.length_nil]; have := HSZ.out; have e : sizeL (G.bd (nums + 1) last).live = sizeL (G.bd nums last).live := rfl; omega)
          have ck := comeF_ok (left := o.q) (n := nums + 1) bd.ok HOK.out ⟨by omega, by show nums + 1 ≤ nums + 1; omega⟩ (bd_fresh HB.out.ok) ⟨by omega, by omega⟩ (evs := []) (by simp)
          have he : entR (G.bd nums last) o = comeF (G.bd (nums + 1) last) (nums + 1) o o.q [] := by unfold entR; rw [if_pos HT.out]; rfl
          have fin : ∀ e w', ComeP (grow O w2 (q + 5)) q wc b G (nums + 1) last [] X ⟨nums + 1, o, o.q, 0⟩ e w' → e = .returned (.tuple #[]) ∧ ∃ O1 G1 l1, EntB O q w w' b G nums last o X O1 G1 l1 := by
            rintro e w' ⟨r1, O', G', l', r2, r3, r4, r5, r6, r7⟩
            refine ⟨r1, O', G', l', ⟨by rw [he]; exact r2, by rw [he]; exact r3, by rw [he]; exact ck.evok, ?_, SF.out.trans r5, r7⟩⟩
            rw [he]
            have := ck.size
            have := HSZ.out
            have e : sizeL (G.bd (nums + 1) last).live = sizeL (G.bd nums last).live := rfl
            simp only [List.length_nil] at *
            omega
          have CM := hid (cm.mono fin)
          clear fin cm ck bd he
          go_wp2_with fail
          refine CM.out.mono ?_
          rintro e w9 ⟨rfl, hr⟩
          have HR := hid hr
          clear hr
          go_wp2
          go_meet
          exact HR.out
        · have e5 : (o.t == 0) = false := by simpa using t0
          have HT := hid t0
          clear t0
          have hfl := HX.out.ent.flag
          obtain ⟨f11, f12⟩ := hfl
          have hXl := HX.out.ent.lt
          obtain ⟨w4, hw4⟩ : ∃ w4, w4 = wc.setCell ⟨X, 11, none⟩ (.bool true) := ⟨_, rfl⟩
          have s4 : Step (fun c => c = q + 5) (grow O w2 (q + 5)) wc (grow O w2 (q + 5)) w4 := by rw [hw4]; exact Step.set HX.out.col 11 _
          have p4 := PF.out.step s4 (fun c _ h5 e => h5 e)
          have x4 : HdC (grow O w2 (q + 5)) (q + 5) w4 X ⟨nums + 1, o, o.q, 0⟩ true := ⟨by rw [hw4]; exact Cells.set HX.out.ent 11 (.bool true), HX.out.col⟩
          obtain ⟨w5, r1, r2, r3⟩ := put_pt (n := nums + 1) (E := X) (p4.below ((Below.refl _ w4).drew)) (by simp [prs]; omega) (WalkArith.wf_i64 (by omega)) (by rw [prs_fst, ← Mm.bd_live G nums last]; exact bd_fresh HB.out.ok)
          have x5 := (x4.below ((Below.refl _ w4).drew)).step r3 (by omega)
          obtain ⟨w6, hw6⟩ : ∃ w6, w6 = w5.alloc (.cells #[pt X] 72) := ⟨_, rfl⟩
          have b6 : Below w5.heap.size w5 w6 := by rw [hw6]; exact (Below.refl _ w5).alloc (Nat.le_refl _) _
          obtain ⟨p6, x6, s6, n6, f6⟩ := (r2.below b6).handWait (x5.below b6)
          have cB : Cells w6 w5.heap.size #[pt X] 72 := by rw [hw6]; exact Cells.new _ _ _
          obtain ⟨vw, c4, hown, hcol, hbl, _⟩ := p6.waits
          have hwl2 : G.wt.length ≤ 1000000 := by have : G.wt.length ≤ G.live.length := by { simp [Mm.live]; omega }; omega
          obtain ⟨v', w7, q1, q2, q3, q4⟩ := ent_append hown hwl2 X cB 68
          obtain ⟨O8, p8, s8, x8⟩ := p6.addWait c4 x6 n6 q2 q3 q4 f6
          obtain ⟨⟨u7, d7⟩, d8, d9⟩ := p6.keptTop c4 q3
          obtain ⟨pl, pp, pe⟩ := G.addWait_plain (x := ⟨nums + 1, o, o.q, 0⟩) n6 f6 (nums + 1) last
          obtain ⟨p9, cp9, hv', _⟩ := q2.form
          obtain ⟨w8, hw8⟩ : ∃ w8, w8 = w7.setCell ⟨b, 4, none⟩ v' := ⟨_, rfl⟩
          rw [← hw8] at p8 s8 x8
          have tl := tell_pt p8 (by simp) x8.ent 8 0 0 o.q
          have hsw := bd_wait HB.out.ok hn HOK.out HT.out
          have he : entR (G.bd nums last) o = ({ G.bd nums last with nums := nums + 1, wait := (G.bd nums last).wait ++ [⟨nums + 1, o, o.q, 0⟩] }, [⟨8, nums + 1, 0, 0, o.q⟩]) := by unfold entR; rw [if_neg HT.out]; rfl
          have st8 := ((((SF.out.trans (s4.B (by omega) (by omega))).trans (Step.of_below ((Below.refl _ w4).drew) (colB q))).trans (r3.B (by omega) (by omega))).trans (Step.of_below b6 (colB q))).trans (s6.trans (s8.B (by omega) (by omega)))
          have fin : ∀ e w', ToldP O8 q w8 b { G with wt := G.wt ++ [X], en := setEn G.en X ⟨nums + 1, o, o.q, 0⟩ } (nums + 1) last ([] ++ [⟨8, nums + 1, 0, 0, o.q⟩]) ((nums + 1, X) :: prs G.en G.live) e w' → e = .returned (.tuple #[]) ∧ ∃ O1 G1 l1, EntB O q w w' b G nums last o X O1 G1 l1 := by
            rintro e w' ⟨g1, O', g2, g3⟩
            refine ⟨g1, O', _, last, ⟨?_, ?_, ?_, ?_, st8.trans (g3.B (by omega) (by omega)), .inl ⟨pp.mem_iff.2 List.mem_cons_self, by show (setEn G.en X _ X).n = _; rw [setEn_self]⟩⟩⟩
            · rw [he]
              refine (g2.perm ?_).board ?_ ?_
              · refine List.Perm.trans ?_ (prs_perm _ pp.symm)
                show List.Perm _ (((setEn G.en X ⟨nums + 1, o, o.q, 0⟩ X).n, X) :: prs (setEn G.en X ⟨nums + 1, o, o.q, 0⟩) G.live)
                rw [setEn_self]
                have := prs_congr (en := G.en) (en' := setEn G.en X ⟨nums + 1, o, o.q, 0⟩) (l := G.live) (fun E hE => by rw [pe E hE])
                rw [this]
              · rw [pl]; exact hsw.1
              · rw [pp.length_eq]; simp; omega
            · rw [he, pl]; rfl
            · rw [he]
              intro e hm
              simp only [List.mem_cons, List.not_mem_nil, or_false] at hm
              subst hm
              exact ⟨⟨by simp only; omega, by simp only; omega⟩, ⟨by simp only; omega, by simp only; omega⟩, by simp only; omega, by simp only; omega, fun h => by simp at h⟩
            · have k1 : sizeL (entR (G.bd nums last) o).1.live = o.q.toNat + 1 + sizeL (G.bd nums last).live := by
                rw [he]
                have c := sizeL_perm hsw.2
                rw [sizeL_cons] at c
                exact c
              have k2 : (entR (G.bd nums last) o).2.length = 1 := by rw [he]; rfl
              have := HSZ.out
              omega
          have TL := hid (tl.mono fin)
          have R1 := hid r1
          have Q1 := hid q1
          have y0 : w4.cell? ⟨X, 0, none⟩ = some (.int .i64 (nums + 1)) := x4.ent.cells.1
          have hXl4 := x4.ent.lt
          obtain ⟨_, bm, _, _, hbl4, _, _⟩ := p4.cells (s := 1) (.inl rfl)
          obtain ⟨vw5, c45, _, _, hbl5, _⟩ := r2.waits
          have hvw : vw5 = vw := by
            have e : w6.cell? ⟨b, 4, none⟩ = w5.cell? ⟨b, 4, none⟩ := b6.cell (p := ⟨b, 4, none⟩) hbl5
            rw [e, c45] at c4
            injection c4
          rw [hvw] at c45
          obtain ⟨pw, cw, hvf, _⟩ := hown.form
          have y9 : w8.cell? ⟨X, 9, none⟩ = some (.int .i64 o.q) := x8.ent.cells.2.2.2.2.2.1
          have hXl8 : X < w7.heap.size := by have e := x8.ent.lt; rw [hw8, size_setCell] at e; exact e
          have HW4 := hid hw4
          have HW6 := hid hw6
          have HW8 := hid hw8
          generalize (G.wt ++ [X]).length = n9 at hv'
          generalize G.wt.length = nw at hvf
          subst hv'
          subst hvf
          clear fin tl hsw he st8 r1 r2 r3 q1 q2 q3 q4 p4 s4 x4 x5 p6 x6 s6 n6 f6 cB c4 hown hcol p8 s8 x8 pl pp pe hvw b6 hw4 hw6 hw8
          go_wp2
          rw [← HW4.out]
          refine region_tail 9 (by kernel_rfl) (by kernel_rfl) ?_
          simp only [List.take_succ_cons, List.take_zero, List.drop_succ_cons, List.drop_zero]
          repeat still_step
          refine wpStill_nil ?_
          refine wpList_mapUpdate_run rfl (.tmp 60) (.tmp 64) (.tmp 65) _ rfl _ _ _ w5 rfl rfl rfl R1.out ?_
          rw [HW6.out] at Q1
          have y9' : (w7.setCell ⟨b, 4, none⟩ (.slice p9 n9 cp9)).cell? ⟨X, 9, none⟩ = some (.int .i64 o.q) := by rw [← HW8.out]; exact y9
          go_wp2_with (at_builtin; refine wpList_append_run rfl (.tmp 70) (.tmp 72) 68 rfl _ _ (.slice p9 n9 cp9) w7 rfl rfl Q1.out ?_)
          rw [← HW8.out]
          refine TL.out.mono ?_
          rintro e w9 ⟨rfl, hr⟩
          have HR := hid hr
          clear hr
          go_wp2
          go_meet
          exact HR.out
      case rest =>
        obtain ⟨O1, G1, l1, EB⟩ := hcut
        have hfw := EB.bd.few
        have hwl1 : G1.wt.length ≤ G1.live.length := by simp [Mm.live]; omega
        have hsz := EB.size
        rw [← EB.eq] at hsz
        have sp := stops_calls EB.bd EB.ev (by omega)
        have hwt : (entR (G.bd nums last) o).1.wait.length = G1.wt.length := by rw [← EB.eq]; exact List.length_map _
        have fin : ∀ e w', StopP O1 q wc b G1 (nums + 1) l1 (entR (G.bd nums last) o).2 e w' → e = .returned (.tuple #[]) ∧ ∃ O' G' last', BdC O' q w' b G' (nums + 1) last' (enterF (G.bd nums last) o).2 ∧ G'.bd (nums + 1) last' = (enterF (G.bd nums last) o).1 ∧ Step (colB q) O w O' w' ∧ Trk O' w' G' X (nums + 1) := by
          rintro e w' ⟨r1, O', G', l', r2, r3, r4, r5, r6⟩
          rw [EB.eq, ← hwt, ← enterF_entR] at r2 r3
          exact ⟨r1, O', G', l', r2, r3, EB.step.trans r5, r6 _ _ EB.trk⟩
        have SP := hid (sp.mono fin)
        clear fin sp hsz hwl1 hfw hwt EB c5 hwl5
        go_wp2_with fail
        refine SP.out.mono ?_
        rintro e w2' ⟨rfl, O2, G2, l2, h1, h2, h3, h4⟩
        obtain ⟨hXl, hX0⟩ := h4.cell h1.parts
        have dn := done_calls (h1.top.step (Step.of_below (Below.drew (Below.refl _ w2')) (fun _ => False)) not_false)
        have hd1 := h1.step (Step.of_below (Below.drew (Below.refl _ w2')) (fun _ => False)) (fun _ _ => not_false)
        have fin : ∀ e w', DoneR O2 (q + 3) w2'.drew b G2.hb G2.hs G2.mb G2.wt (nums + 1) l2 (enterF (G.bd nums last) o).2 e w' → ∃ pp nn cc, e = .returned (.slice pp nn cc) ∧ w'.cell? ⟨X, 0, none⟩ = some (.int .i64 (nums + 1)) ∧ X < w'.heap.size ∧ EnterP O q w b G nums last o (.returned (.tuple #[.int .i64 (nums + 1), .slice pp nn cc, .int .i64 0])) w' := by
          rintro e w' ⟨v, rfl, g2, g3, g4, g5⟩
          obtain ⟨pp, cc, hv, _⟩ := g2.form
          have st : Step (fun c => c = q + 3) O2 w2'.drew O2 w' := Step.of_kept0 g5 (fun k _ e => e)
          have hcX : O2 X ≠ q + 3 := by
            rcases h4 with ⟨t1, _⟩ | ⟨t1, _⟩
            · exact h1.parts.live_ne t1
            · rw [t1]; omega
          have hX' : w'.cell? ⟨X, 0, none⟩ = some (.int .i64 (nums + 1)) := by
            have := g5.block X (by exact hXl) hcX
            rw [← hX0]
            simp [World.cell?, World.cells?, this]
            rfl
          refine ⟨pp, _, cc, by rw [hv], hX', Nat.lt_of_lt_of_le hXl g5.size, .inr ⟨HE.out, v, O2, G2, l2, by rw [hv], g2, g3, ⟨g4, hd1.buy.step st (by omega) (fun _ _ => rfl), hd1.sell.step st (by omega) (fun _ _ => rfl), hd1.map.step st (by omega), hd1.wait.step st (by omega) (fun _ _ => rfl), hd1.ok, hd1.few⟩, h2, (h3.trans (Step.of_below (Below.drew (Below.refl _ w2')) (colB q))).trans (st.B (by omega) (by omega))⟩⟩
        have DN := hid (dn.mono fin)
        clear fin dn hd1 h1 h2 h3 h4
        generalize EnterP O q w b G nums last o = R at *
        go_wp2
        go_region_with (go_at_call 26; refine DN.out.mono ?_; rintro e w9 ⟨pp, nn, cc, rfl, k0, kl, hr⟩; have HR := hid hr; clear hr)
        all_goals go_wp2
        all_goals exact bodyPost_ret (v := .tuple #[.int .i64 (nums + 1), .slice pp nn cc, .int .i64 0]) (by simp [results, Tryz.results7, go_sem]) rfl HR.out
theorem enter_calls {O : Nat → Nat} {q : Nat} {w : World} {b : Nat} {G : Mm} {nums last : Int} (h : BdC O q w b G nums last []) (o : Od) (hn : nums < 1000000) (hsz : sizeL (G.bd nums last).live ≤ 1000000000000) :
    Calls Tryz.prog 7 #[pt b, .agg o.vals] w (EnterP O q w b G nums last o) := by
  by_cases hE : enterE (G.bd nums last) o = 0
  · exact enter_yes h o hE hn hsz
  · exact enter_no h o hE
end Go.Proofs.YtepldjidkomclaaGreat.Bo
