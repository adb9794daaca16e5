/- The reference's due. The reference's stops: plain lemmas and memory. The reference's stops: one waiting order comes in, in plain Lean. Within the reference's Enter, Cancel and Amend: memory. -/
import Derived.Test.YtdjhpldiifdifaaJRm1
import Derived.Test.YtdjhpldiifdifaaJRm6
namespace Go.Proofs.Ytdjhpldiifdifaa
set_option linter.unusedSimpArgs false
set_option linter.unusedVariables false
open Go.RowKit Go.Shelf
attribute [local go_sem] Oper.semAt_some
attribute [local go_sem ↓] Go.wp_at_zero Go.wp_at_succ

set_option maxRecDepth 100000 in
set_option maxHeartbeats 8000000 in
theorem due_rcalls (w : World) {v : Value} {L : List Rn} (h : RowR 0 w v L) (hn : L.length ≤ 100000) (nums turn paid : Int) (hok : ∀ x ∈ L, x.o.s = 1 ∨ x.o.s = 2) :
    Calls Try.prog 95 #[rbV v nums turn paid] w fun e w' => e = .returned (.int .i64 (optI (dueR L paid))) ∧ Below w.heap.size w w' := by
  obtain ⟨p, cap, g, rfl, hp, hc⟩ := h.rows
  have HC := hid hc
  have HP := hid hp
  have HOK := hid hok
  obtain ⟨R, hR⟩ : ∃ R : Ending → World → Prop, R = fun e w' => e = .returned (.int .i64 (optI (dueR L paid))) ∧ Below w.heap.size w w' := ⟨_, rfl⟩
  have FIN := hid (show ∀ (i : Int) (w' : World), i = optI (dueR L paid) → Below w.heap.size w w' → R (.returned (.int .i64 i)) w' by intro i w' hi hb; rw [hR, hi]; exact ⟨rfl, hb⟩)
  rw [← hR]
  have L0 := hid (LpB.start w (.slice p L.length cap) nums turn paid)
  obtain ⟨n, hnn⟩ : ∃ n, n = L.length := ⟨_, rfl⟩
  have HN := hid hnn
  rw [← hnn] at hn L0 ⊢
  unfold rbV
  obtain ⟨C, hC⟩ : ∃ C, C = dR paid := ⟨_, rfl⟩
  obtain ⟨P, hP⟩ : ∃ P, P = nR := ⟨_, rfl⟩
  have HCR := hid hC
  have HPR := hid hP
  clear hR h hp hc hnn hC hP hok
  go_enter Try.func95, Try.ntmps95
  go_wp2
  go_loopg [3, 4] n (fun k s5 s6 wr => ∃ i : Nat, i + k = n ∧ s6 = .int .i64 i ∧ s5 = .int .i64 (optI (bestI C P L i)) ∧ LpB w (.slice p n cap) nums turn paid wr)
  case atStart => exact ⟨0, by omega, rfl, rfl, L0.out⟩
  case round =>
    obtain ⟨i, hik, rfl, rfl, lp⟩ := hrel
    obtain ⟨t0, _, _, _, hwl⟩ := lp.cell
    have LP := hid lp
    have HIK := hid hik
    clear lp hik
    by_cases hin : i < n
    · have hil : i < L.length := by rw [← HN.out]; exact hin
      obtain ⟨rfl, hg⟩ := HP.out (by omega)
      obtain ⟨c0, c1, c2, c3, c4, c5, c6, c7, c8, c9, c10, c11, c12⟩ := HC.out wr LP.out.below i hil
      obtain ⟨x, hx⟩ : ∃ x, x = L[i] := ⟨_, rfl⟩
      rw [← hx] at c0 c1 c2 c3 c4 c5 c6 c7 c8 c9 c10 c11 c12
      have HX := hid hx
      have hgr : g < wr.heap.size := Nat.lt_of_lt_of_le hg LP.out.below.size
      have LA := hid (LP.out.alloc (.cells (encRn x).toArray 53))
      have hsz := LA.out.top.lt
      clear hx
      have hxs : x.o.s = 1 ∨ x.o.s = 2 := HOK.out x (by rw [HX.out]; exact List.getElem_mem hil)
      have LA' := hid (show LpB w (.slice (some ⟨g, 0, none⟩) n cap) nums turn paid _ from LA.out)
      unfold encRn at LA'
      obtain ⟨D, hD⟩ : ∃ D, D = dR paid x := ⟨_, rfl⟩
      have HD := hid hD
      unfold dR dueB Rn.en at hD
      simp only at hD
      obtain ⟨wa, hwa⟩ : ∃ wa, wa = wr.alloc (.cells #[.int .i64 x.n, .int .i64 x.o.m, .int .i64 x.o.s, .int .i64 x.o.k, .int .i64 x.o.f, .int .i64 x.o.p, .int .i64 x.o.t, .int .i64 x.o.q, .int .i64 x.o.pk, .int .i64 x.l, .int .i64 x.h, .bool x.w, .int .i64 x.t] 53) := ⟨_, rfl⟩
      have HWA := hid hwa
      have LW := hid (show LpB w (.slice (some ⟨g, 0, none⟩) n cap) nums turn paid wa by rw [hwa]; exact LA'.out)
      have ca0 : wa.cell? ⟨wr.heap.size, 0, none⟩ = some (.int .i64 x.n) := by
        rw [hwa, (Cells.new wr _ _).cell]; rfl
      have lwa : wr.heap.size < wa.heap.size := by rw [hwa]; exact (Cells.new wr _ _).lt
      have gwa : g < wa.heap.size := Nat.lt_trans hgr lwa
      have CW := hid (HC.out wa LW.out.below)
      obtain ⟨t0', _, _, _, hwl'⟩ := LW.out.cell
      clear LA hwa
      go_upto_region 6 with fail
      go_cut [53, 5] (fun s53 s5 wx => s53 = .bool (!D) ∧ s5 = pt wr.heap.size ∧ wx = wa)
      case first =>
        cases hw : x.w with
        | false =>
          have e : D = false := by rw [hD, hw]; rfl
          rw [hw] at c11
          subst e
          clear hD
          go_wp2
          go_meet
          exact ⟨rfl, rfl, by rw [HWA.out, hw]⟩
        | true =>
          rw [hw] at hD c11
          by_cases hp0 : paid = 0
          · have g1 : (paid == 0) = true := by simpa using hp0
            have e : D = false := by rw [hD, if_pos hp0]; rfl
            subst e
            clear hD hp0
            go_wp2
            go_meet
            exact ⟨rfl, rfl, by rw [HWA.out, hw]⟩
          · have g1 : (paid == 0) = false := by simpa using hp0
            rw [if_neg hp0] at hD
            rcases hxs with hs | hs
            · have g2 : (x.o.s == 1) = true := by simpa using hs
              have g3 : (x.o.s == 2) = false := by simp [hs]
              rw [if_pos hs] at hD
              by_cases hl : paid < x.o.t
              · have g4 : decide (paid < x.o.t) = true := by simpa using hl
                have e : D = false := by rw [hD]; simp; omega
                subst e
                clear hD hp0 hs hl
                go_wp2
                go_meet
                exact ⟨rfl, rfl, by rw [HWA.out, hw]⟩
              · have g4 : decide (paid < x.o.t) = false := by simpa using hl
                have e : D = true := by rw [hD]; simp; omega
                subst e
                clear hD hp0 hs hl
                go_wp2
                go_meet
                exact ⟨rfl, rfl, by rw [HWA.out, hw]⟩
            · have g2 : (x.o.s == 1) = false := by simp [hs]
              have g3 : (x.o.s == 2) = true := by simp [hs]
              rw [if_neg (by omega)] at hD
              by_cases hl : x.o.t < paid
              · have g4 : decide (x.o.t < paid) = true := by simpa using hl
                have e : D = false := by rw [hD]; simp; omega
                subst e
                clear hD hp0 hs hl
                go_wp2
                go_meet
                exact ⟨rfl, rfl, by rw [HWA.out, hw]⟩
              · have g4 : decide (x.o.t < paid) = false := by simpa using hl
                have e : D = true := by rw [hD]; simp; omega
                subst e
                clear hD hp0 hs hl
                go_wp2
                go_meet
                exact ⟨rfl, rfl, by rw [HWA.out, hw]⟩
      case rest =>
        obtain ⟨rfl, rfl, rfl⟩ := hcut
        clear hD
        cases D with
        | false =>
          have HS := hid (show bestI C P L (i + 1) = bestI C P L i from best_skip hil (by rw [← HX.out, HCR.out, ← HD.out]))
          go_wp2
          go_roundg (n - (i + 1))
          · exact ⟨i + 1, by omega, by go_num, by rw [HS.out], LW.out⟩
          · have := HIK.out; omega
        | true =>
          have CX := hid (show C L[i] = true by rw [← HX.out, HCR.out, ← HD.out])
          cases hb : bestI C P L i with
          | none =>
            have HS := hid (best_first hil CX.out hb)
            have HB := hid hb
            have g2 : decide ((-1 : Int) < 0) = true := by decide
            clear hb
            rw [show optI none = -1 from rfl]
            go_upto_region 7 with fail
            go_cut [66] (fun s66 wx => s66 = .bool true ∧ LpB w (.slice (some ⟨g, 0, none⟩) n cap) nums turn paid wx)
            case first =>
              go_big_quiet (fail)
              go_wp2
              go_meet
              exact ⟨rfl, LW.out.drewN _⟩
            case rest =>
              obtain ⟨rfl, lq⟩ := hcut
              have LQ := hid lq
              clear lq
              go_wp2
              go_roundg (n - (i + 1))
              · exact ⟨i + 1, by omega, by go_num, by rw [HS.out]; rfl, LQ.out⟩
              · have := HIK.out; omega
          | some b =>
            obtain ⟨hb1, hbl⟩ := bestI_lt hb
            obtain ⟨d0, _⟩ := CW.out b hbl
            obtain ⟨y, hy⟩ : ∃ y, y = L[b] := ⟨_, rfl⟩
            rw [← hy] at d0
            have HY := hid hy
            have HB := hid hb
            have g2 : decide ((b : Int) < 0) = false := by simp
            have g3 : (0 : Int) ≤ (b : Int) := by omega
            have g4 : (b : Int) < (n : Int) := by omega
            have g5 : b < n := by omega
            have gb : ((b : Int)).toNat = b := by omega
            clear hb hy
            rw [show optI (some b) = (b : Int) from rfl]
            obtain ⟨T, hT⟩ : ∃ T, T = P x y := ⟨_, rfl⟩
            have HT := hid hT
            rw [HPR.out] at hT
            unfold nR at hT
            go_upto_region 7 with fail
            go_cut [66] (fun s66 wx => s66 = .bool T ∧ LpB w (.slice (some ⟨g, 0, none⟩) n cap) nums turn paid wx)
            case first =>
              subst hT
              go_big_quiet (fail)
              go_wp2
              go_meet
              exact ⟨rfl, LW.out.drewN _⟩
            case rest =>
              obtain ⟨rfl, lq⟩ := hcut
              have LQ := hid lq
              clear lq hT
              cases T with
              | true =>
                have HS := hid (best_take hil CX.out HB.out hbl (by rw [← HX.out, ← HY.out]; exact HT.out.symm))
                go_wp2
                go_roundg (n - (i + 1))
                · exact ⟨i + 1, by omega, by go_num, by rw [HS.out]; rfl, LQ.out⟩
                · have := HIK.out; omega
              | false =>
                have HS := hid (best_keep hil CX.out HB.out hbl (by rw [← HX.out, ← HY.out]; exact HT.out.symm))
                go_wp2
                go_roundg (n - (i + 1))
                · exact ⟨i + 1, by omega, by go_num, by rw [HS.out]; rfl, LQ.out⟩
                · have := HIK.out; omega
    · have hin' : i = n := by have := HIK.out; omega
      subst hin'
      have g1 : decide ((i : Int) < (i : Int)) = false := by simp
      go_wp2
      exact FIN.out _ _ (by unfold dueR; rw [← HN.out, HCR.out, HPR.out]) LP.out.below
end Go.Proofs.Ytdjhpldiifdifaa
namespace Go.Proofs.Ytdjhpldiifdifaa
set_option linter.unusedSimpArgs false
set_option linter.unusedVariables false
open Go.RowKit Go.Shelf

theorem meetF_evs (o : Od) (n side : Int) (evs : List Ev) : ∀ (k : Nat) (s : Mt), meetF o n side k { s with evs := evs ++ s.evs } = { meetF o n side k s with evs := evs ++ (meetF o n side k s).evs }
  | 0, s => rfl
  | k + 1, s => by
    unfold meetF
    simp only
    split
    · split
      · rfl
      · rename_i y hy
        split
        · have e : meet1 o n side y { s with evs := evs ++ s.evs } = { meet1 o n side y s with evs := evs ++ (meet1 o n side y s).evs } := by
            unfold meet1
            simp only
            split <;> simp
          rw [e]
          exact meetF_evs o n side evs k (meet1 o n side y s)
        · rfl
    · rfl
theorem comeF_evs (S : Bd) (n : Int) (o : Od) (left : Int) (evs : List Ev) : comeF S n o left evs = ((comeF S n o left []).1, evs ++ (comeF S n o left []).2) := by
  have h := meetF_evs o n (3 - o.s) evs (sizeH (S.half (3 - o.s))) ⟨left, S.half (3 - o.s), S.last, []⟩
  simp only [List.append_nil] at h
  unfold comeF
  split
  · simp
  · split
    · simp
    · rw [h]
      simp only
      split
      · rfl
      · split <;> simp
/-- Within the reference's stops: the board, the result, the events. -/
structure StS (w : World) (ve0 : Value) (wr : World) (v : Value) (L : List Rn) (nums turn paid : Int) (ve : Value) (evs : List Ev) : Prop where
  kept : Kept (fun k => some k = ve0.ownBlock) w wr
  bd : Cells wr w.heap.size #[v, .int .i64 nums, .int .i64 turn, .int .i64 paid] 49
  row : RowR 0 wr v L
  res : Cells wr (w.heap.size + 1) #[.slice none 0 0, .int .i64 0, .int .i64 0, .int .i64 0] 49
  evr : RowE 0 wr ve evs
  own : ∀ b, ve.ownBlock = some b → b < w.heap.size → some b = ve0.ownBlock
section
variable {w wr : World} {ve0 v : Value} {L : List Rn} {nums turn paid : Int} {ve : Value} {evs : List Ev}
theorem StS.after (h : StS w ve0 wr v L nums turn paid ve evs) {w' : World} (hb : Below wr.heap.size wr w') : StS w ve0 w' v L nums turn paid ve evs :=
  ⟨h.kept.trans (Kept.of_below (X := fun k => some k = ve0.ownBlock) hb) (fun _ _ h => h), h.bd.below hb h.bd.lt, OwnE.below h.row hb, h.res.below hb h.res.lt, OwnE.below h.evr hb, h.own⟩
theorem StS.alloc (h : StS w ve0 wr v L nums turn paid ve evs) (b : Obj) : StS w ve0 (wr.alloc b) v L nums turn paid ve evs := h.after ((Below.refl _ _).alloc (Nat.le_refl _) _)
theorem StS.cell (h : StS w ve0 wr v L nums turn paid ve evs) : wr.cell? ⟨w.heap.size, 0, none⟩ = some v ∧ wr.cell? ⟨w.heap.size, 1, none⟩ = some (.int .i64 nums) ∧ wr.cell? ⟨w.heap.size, 2, none⟩ = some (.int .i64 turn) ∧ wr.cell? ⟨w.heap.size, 3, none⟩ = some (.int .i64 paid) ∧ w.heap.size < wr.heap.size ∧ (∀ j, wr.frozen? ⟨w.heap.size, j, none⟩ = false) := by
  refine ⟨?_, ?_, ?_, ?_, h.bd.lt, h.bd.frozen⟩ <;> (rw [h.bd.cell]; rfl)
theorem StS.resc (h : StS w ve0 wr v L nums turn paid ve evs) : wr.cell? ⟨w.heap.size + 1, 0, none⟩ = some (.slice none 0 0) ∧ wr.cell? ⟨w.heap.size + 1, 1, none⟩ = some (.int .i64 0) ∧ wr.cell? ⟨w.heap.size + 1, 2, none⟩ = some (.int .i64 0) ∧ wr.cell? ⟨w.heap.size + 1, 3, none⟩ = some (.int .i64 0) ∧ w.heap.size + 1 < wr.heap.size ∧ (∀ j, wr.frozen? ⟨w.heap.size + 1, j, none⟩ = false) := by
  refine ⟨?_, ?_, ?_, ?_, h.res.lt, h.res.frozen⟩ <;> (rw [h.res.cell]; rfl)
theorem StS.board (h : StS w ve0 wr v L nums turn paid ve evs) {w' : World} (hk : Kept (fun k => k = w.heap.size) wr w') {v' : Value} {L' : List Rn} {nums' turn' paid' : Int} (hc : Cells w' w.heap.size #[v', .int .i64 nums', .int .i64 turn', .int .i64 paid'] 49) (hr : RowR 0 w' v' L') : StS w ve0 w' v' L' nums' turn' paid' ve evs :=
  ⟨h.kept.trans hk (fun k hlt e => by omega), hc, hr, h.res.kept hk (by omega), OwnE.far h.evr h.bd (by decide) hk, h.own⟩
theorem StS.setRow (h : StS w ve0 wr v L nums turn paid ve evs) {v' : Value} {L' : List Rn} (hr : RowR 0 wr v' L') : StS w ve0 (wr.setCell ⟨w.heap.size, 0, none⟩ v') v' L' nums turn paid ve evs :=
  h.board ((Kept.refl (fun k => k = w.heap.size) wr).set (C := w.heap.size) rfl 0 v') (h.bd.set 0 v') (hr.set h.bd (by decide) 0 v')
theorem StS.setAll (h : StS w ve0 wr v L nums turn paid ve evs) {v' : Value} {L' : List Rn} (hr : RowR 0 wr v' L') (a b c : Int) :
    StS w ve0 ((((wr.setCell ⟨w.heap.size, 0, none⟩ v').setCell ⟨w.heap.size, 1, none⟩ (.int .i64 a)).setCell ⟨w.heap.size, 2, none⟩ (.int .i64 b)).setCell ⟨w.heap.size, 3, none⟩ (.int .i64 c)) v' L' a b c ve evs := by
  obtain ⟨q1, q2⟩ := put_rb h.bd rfl v' (.int .i64 a) (.int .i64 b) (.int .i64 c)
  have q3 : RowR 0 _ v' L' := OwnE.far hr h.bd (by decide) q2
  exact h.board q2 q1 q3
/-- Events come to the events. -/
theorem StS.tell (h : StS w ve0 wr v L nums turn paid ve evs) {u : Value} {m : List Ev} (hu : SrcE encEv 5 wr u m) (hlen : evs.length + m.length ≤ 3500000000000) (ty : TypeId) :
    ∃ ve' w', (Builtin.append_ #[125, 125] ty #[ve, u]).run Try.prog wr = .ok ve' w' ∧ StS w ve0 w' v L nums turn paid ve' (evs ++ m) ∧ Kept (fun k => some k = ve.ownBlock) wr w' := by
  obtain ⟨ve', w', r1, r2, r3, r4⟩ := re_append h.evr (Nat.zero_le _) hu hlen ty
  refine ⟨ve', w', r1, ⟨h.kept.trans r3 (fun k hlt e => h.own k e.symm hlt), h.bd.kept r3 (fun e => row_ne h.evr h.bd (by decide) _ e.symm rfl), OwnE.kept h.row r3 (own_other h.row h.evr (by decide)), h.res.kept r3 (fun e => row_ne h.evr h.res (by decide) _ e.symm rfl), r2, fun b hb hlt => ?_⟩, r3⟩
  rcases r4 with r4 | r4
  · rw [r4] at hb; exact h.own b hb hlt
  · rw [r4] at hb; simp only [Option.some.injEq] at hb; have := h.kept.size; omega
/-- What stops comes to. -/
structure StD (w w' : World) (ve0 : Value) (v : Value) (L : List Rn) (nums turn paid : Int) (ve : Value) (evs : List Ev) : Prop where
  kept : Kept (fun k => some k = ve0.ownBlock) w w'
  res : Cells w' (w.heap.size + 1) #[v, .int .i64 nums, .int .i64 turn, .int .i64 paid] 49
  row : RowR 0 w' v L
  evr : RowE 0 w' ve evs
theorem StS.fin (h : StS w ve0 wr v L nums turn paid ve evs) : StD w ((((wr.setCell ⟨w.heap.size + 1, 0, none⟩ v).setCell ⟨w.heap.size + 1, 1, none⟩ (.int .i64 nums)).setCell ⟨w.heap.size + 1, 2, none⟩ (.int .i64 turn)).setCell ⟨w.heap.size + 1, 3, none⟩ (.int .i64 paid)) ve0 v L nums turn paid ve evs := by
  obtain ⟨q1, q2⟩ := put_rb h.res rfl v (.int .i64 nums) (.int .i64 turn) (.int .i64 paid)
  exact ⟨h.kept.trans q2 (fun k hlt e => by omega), q1, OwnE.far h.row h.res (by decide) q2, OwnE.far h.evr h.res (by decide) q2⟩
end
end Go.Proofs.Ytdjhpldiifdifaa
namespace Go.Proofs.Ytdjhpldiifdifaa
set_option linter.unusedSimpArgs false
set_option linter.unusedVariables false
open Go.RowKit Go.Shelf

/-- A waiting order that is due. -/
structure StepT (S : Bd) (x : Rb) (r : Rn) (L1 : List Rn) (S1 : Bd) : Prop where
  ok : BdOk S1
  rel : Rel S1 ⟨L1, x.nums, x.turn, x.paid⟩
  ord : r.o.ok = true
  n : 1 ≤ r.n ∧ r.n ≤ S1.nums
  new : r.n ∉ numsL S1.live
  nums : S1.nums = S.nums
  len : S1.wait.length + 1 = S.wait.length
  size : sizeL S1.live + r.o.q.toNat + 1 = sizeL S.live
  few : S1.live.length + 1 = S.live.length
  eq : ∀ k evs, stopsF (k + 1) S evs = stopsF k (comeF S1 r.n r.o r.o.q []).1 ((evs ++ [⟨7, r.n, 0, 0, r.o.q⟩]) ++ (comeF S1 r.n r.o r.o.q []).2)
theorem stops_step {S : Bd} {x : Rb} (hS : BdOk S) (hR : Rel S x) {i : Nat} (hi : i < x.L.length) (hd : dueR x.L x.paid = some i) : ∃ S1, StepT S x x.L[i] (x.L.eraseIdx i) S1 := by
  rcases due_spec hR hS with ⟨_, h⟩ | ⟨j, hj, h1, h2, h3, h4⟩
  · rw [h] at hd; cases hd
  · rw [h1] at hd
    injection hd with hd
    subst hd
    obtain ⟨pre, post, hw, hidx, herase, hdue⟩ := find_split h3
    obtain ⟨hS1, hperm⟩ := wait_off hS hw
    have hx : WOk S.nums x.L[j].en := hS.wait _ (by rw [hw]; simp)
    have hl : x.L[j].l = x.L[j].o.q := hx.l
    have hnp := numsL_perm hperm
    have hnew : x.L[j].en.n ∉ numsL (Bd.live { S with wait := pre ++ post }) := (List.nodup_cons.1 (hnp.nodup_iff.1 hS.once)).1
    rw [herase] at h4
    refine ⟨{ S with wait := pre ++ post }, hS1, h4, hx.ok, hx.n, hnew, rfl, ?_, ?_, ?_, fun k evs => ?_⟩
    · rw [hw]; simp; omega
    · have := sizeL_perm hperm
      rw [sizeL_cons] at this
      have e : x.L[j].en.l = x.L[j].o.q := hl
      rw [e] at this
      omega
    · have := hperm.length_eq
      simpa using this.symm
    · rw [stopsF, h3]
      simp only
      rw [herase]
      have e : x.L[j].en.l = x.L[j].o.q := hl
      have e2 : x.L[j].en.n = x.L[j].n := rfl
      have e3 : x.L[j].en.o = x.L[j].o := rfl
      rw [e, e2, e3, comeF_evs]
/-- Within the loop of stops. -/
structure LpT (w : World) (ve0 : Value) (turn0 : Int) (R0 : Bd × List Ev) (wr : World) (k : Nat) (S : Bd) (x : Rb) (v ve : Value) (evs : List Ev) : Prop where
  ok : BdOk S
  rel : Rel S x
  st : StS w ve0 wr v x.L x.nums x.turn x.paid ve evs
  fuel : S.wait.length ≤ k
  eq : stopsF k S evs = R0
  sz : evs.length + sizeL S.live + 2 * k ≤ 1000000000000
  turn : x.turn ≤ turn0 + evs.length
  few : x.L.length ≤ 5000
theorem LpT.next {w : World} {ve0 : Value} {turn0 : Int} {R0 : Bd × List Ev} {wr : World} {k : Nat} {S : Bd} {x : Rb} {v ve : Value} {evs : List Ev} (h : LpT w ve0 turn0 R0 wr k S x v ve evs) {r : Rn} {L1 : List Rn} {S1 : Bd} (t : StepT S x r L1 S1) :
    ∃ k', k = k' + 1 ∧ ∀ (w2 : World) (x2 : Rb) (v2 ve2 : Value), Rel (comeF S1 r.n r.o r.o.q []).1 x2 → x2.turn ≤ x.turn + (comeF S1 r.n r.o r.o.q []).2.length → StS w ve0 w2 v2 x2.L x2.nums x2.turn x2.paid ve2 ((evs ++ [⟨7, r.n, 0, 0, r.o.q⟩]) ++ (comeF S1 r.n r.o r.o.q []).2) →
      LpT w ve0 turn0 R0 w2 k' (comeF S1 r.n r.o r.o.q []).1 x2 v2 ve2 ((evs ++ [⟨7, r.n, 0, 0, r.o.q⟩]) ++ (comeF S1 r.n r.o r.o.q []).2) := by
  have hk : 1 ≤ k := by have := h.fuel; have := t.len; omega
  obtain ⟨k', rfl⟩ : ∃ k', k = k' + 1 := ⟨k - 1, by omega⟩
  have hq := okQ t.ord
  have C := comeF_ok t.ok t.ord t.n t.new (left := r.o.q) (by omega) (evs := []) (by simp)
  refine ⟨k', rfl, fun w2 x2 v2 ve2 a b c => ⟨C.ok, a, c, ?_, by rw [← t.eq, h.eq], ?_, ?_, ?_⟩⟩
  · rw [C.wait]; have := h.fuel; have := t.len; omega
  · have h1 := C.size
    have h2 := h.sz
    have h3 := t.size
    simp only [List.length_append, List.length_cons, List.length_nil] at h1 ⊢
    omega
  · have := h.turn
    simp only [List.length_append, List.length_cons, List.length_nil]
    omega
  · have h1 := C.sub.len
    have h2 := a.len
    have h3 := h.rel.len
    have h4 := t.few
    have h5 := h.few
    simp only [numsL, List.length_map, List.length_cons] at h1
    omega
end Go.Proofs.Ytdjhpldiifdifaa
namespace Go.Proofs.Ytdjhpldiifdifaa
set_option linter.unusedSimpArgs false
set_option linter.unusedVariables false
open Go.RowKit Go.Shelf

/-- The board and the result within a call: the result's block is r. -/
structure EnS (w : World) (r : Nat) (wr : World) (v : Value) (L : List Rn) (nums turn paid : Int) : Prop where
  below : Below w.heap.size w wr
  bd : Cells wr w.heap.size #[v, .int .i64 nums, .int .i64 turn, .int .i64 paid] 49
  row : RowR 0 wr v L
  rlo : w.heap.size < r
  res : Cells wr r #[.slice none 0 0, .int .i64 0, .int .i64 0, .int .i64 0] 49
section
variable {w wr : World} {r : Nat} {v : Value} {L : List Rn} {nums turn paid : Int}
theorem EnS.after (h : EnS w r wr v L nums turn paid) {w' : World} (hb : Below wr.heap.size wr w') : EnS w r w' v L nums turn paid :=
  ⟨h.below.trans (hb.mono h.below.size), h.bd.below hb h.bd.lt, OwnE.below h.row hb, h.rlo, h.res.below hb h.res.lt⟩
theorem EnS.alloc (h : EnS w r wr v L nums turn paid) (b : Obj) : EnS w r (wr.alloc b) v L nums turn paid := h.after ((Below.refl _ _).alloc (Nat.le_refl _) _)
theorem EnS.drewN (h : EnS w r wr v L nums turn paid) (k : Nat) : EnS w r (wr.drewN k) v L nums turn paid := h.after (drewN_below (Below.refl _ _) k)
theorem EnS.cell (h : EnS w r wr v L nums turn paid) : wr.cell? ⟨w.heap.size, 0, none⟩ = some v ∧ wr.cell? ⟨w.heap.size, 1, none⟩ = some (.int .i64 nums) ∧ wr.cell? ⟨w.heap.size, 2, none⟩ = some (.int .i64 turn) ∧ wr.cell? ⟨w.heap.size, 3, none⟩ = some (.int .i64 paid) ∧ w.heap.size < wr.heap.size ∧ (wr.frozen? ⟨w.heap.size, 0, none⟩ = false ∧ wr.frozen? ⟨w.heap.size, 1, none⟩ = false ∧ wr.frozen? ⟨w.heap.size, 2, none⟩ = false ∧ wr.frozen? ⟨w.heap.size, 3, none⟩ = false) := by
  refine ⟨?_, ?_, ?_, ?_, h.bd.lt, h.bd.frozen 0, h.bd.frozen 1, h.bd.frozen 2, h.bd.frozen 3⟩ <;> (rw [h.bd.cell]; rfl)
theorem EnS.resc (h : EnS w r wr v L nums turn paid) : wr.cell? ⟨r, 0, none⟩ = some (.slice none 0 0) ∧ wr.cell? ⟨r, 1, none⟩ = some (.int .i64 0) ∧ wr.cell? ⟨r, 2, none⟩ = some (.int .i64 0) ∧ wr.cell? ⟨r, 3, none⟩ = some (.int .i64 0) ∧ r < wr.heap.size ∧ (wr.frozen? ⟨r, 0, none⟩ = false ∧ wr.frozen? ⟨r, 1, none⟩ = false ∧ wr.frozen? ⟨r, 2, none⟩ = false ∧ wr.frozen? ⟨r, 3, none⟩ = false) := by
  refine ⟨?_, ?_, ?_, ?_, h.res.lt, h.res.frozen 0, h.res.frozen 1, h.res.frozen 2, h.res.frozen 3⟩ <;> (rw [h.res.cell]; rfl)
theorem EnS.board (h : EnS w r wr v L nums turn paid) {w' : World} (hk : Kept (fun k => k = w.heap.size) wr w') {v' : Value} {L' : List Rn} {nums' turn' paid' : Int} (hc : Cells w' w.heap.size #[v', .int .i64 nums', .int .i64 turn', .int .i64 paid'] 49) (hr : RowR 0 w' v' L') : EnS w r w' v' L' nums' turn' paid' :=
  ⟨h.below.trans (hk.below (B := w.heap.size) h.below.size (fun k hx => by omega)), hc, hr, h.rlo, h.res.kept hk (by have := h.rlo; omega)⟩
theorem EnS.setRow (h : EnS w r wr v L nums turn paid) {v' : Value} {L' : List Rn} (hr : RowR 0 wr v' L') : EnS w r (wr.setCell ⟨w.heap.size, 0, none⟩ v') v' L' nums turn paid :=
  h.board ((Kept.refl (fun k => k = w.heap.size) wr).set (C := w.heap.size) rfl 0 v') (h.bd.set 0 v') (hr.set h.bd (by decide) 0 v')
theorem EnS.setNums (h : EnS w r wr v L nums turn paid) (t : Int) : EnS w r (wr.setCell ⟨w.heap.size, 1, none⟩ (.int .i64 t)) v L t turn paid :=
  h.board ((Kept.refl (fun k => k = w.heap.size) wr).set (C := w.heap.size) rfl 1 _) (h.bd.set 1 _) (h.row.set h.bd (by decide) 1 _)
theorem EnS.setAll (h : EnS w r wr v L nums turn paid) {v' : Value} {L' : List Rn} (hr : RowR 0 wr v' L') (a b c : Int) :
    EnS w r ((((wr.setCell ⟨w.heap.size, 0, none⟩ v').setCell ⟨w.heap.size, 1, none⟩ (.int .i64 a)).setCell ⟨w.heap.size, 2, none⟩ (.int .i64 b)).setCell ⟨w.heap.size, 3, none⟩ (.int .i64 c)) v' L' a b c := by
  obtain ⟨q1, q2⟩ := put_rb h.bd rfl v' (.int .i64 a) (.int .i64 b) (.int .i64 c)
  have q3 : RowR 0 _ v' L' := OwnE.far hr h.bd (by decide) q2
  exact h.board q2 q1 q3
/-- What changes a block behind the result's. -/
theorem EnS.far (h : EnS w r wr v L nums turn paid) {X : Nat → Prop} {w' : World} (hk : Kept X wr w') (hX : ∀ k, X k → w.heap.size ≤ k ∧ k ≠ w.heap.size ∧ k ≠ r) {L' : List Rn} (hr : RowR 0 w' v L') : EnS w r w' v L' nums turn paid :=
  ⟨h.below.trans (hk.below (B := w.heap.size) h.below.size (fun k hx => (hX k hx).1)), h.bd.kept hk (fun e => (hX _ e).2.1 rfl), hr, h.rlo, h.res.kept hk (fun e => (hX _ e).2.2 rfl)⟩
/-- What a call comes to: the result's block, and the events. -/
structure EnD (w : World) (r : Nat) (w' : World) (v : Value) (L : List Rn) (nums turn paid : Int) (ve : Value) (evs : List Ev) : Prop where
  below : Below w.heap.size w w'
  res : Cells w' r #[v, .int .i64 nums, .int .i64 turn, .int .i64 paid] 49
  row : RowR 0 w' v L
  evr : RowE 0 w' ve evs
theorem EnS.done (h : EnS w r wr v L nums turn paid) {v' : Value} {L' : List Rn} (hr : RowR 0 wr v' L') (a b c : Int) {ve : Value} {evs : List Ev} (he : RowE 0 wr ve evs) :
    EnD w r ((((wr.setCell ⟨r, 0, none⟩ v').setCell ⟨r, 1, none⟩ (.int .i64 a)).setCell ⟨r, 2, none⟩ (.int .i64 b)).setCell ⟨r, 3, none⟩ (.int .i64 c)) v' L' a b c ve evs := by
  obtain ⟨q1, q2⟩ := put_rb h.res rfl v' (.int .i64 a) (.int .i64 b) (.int .i64 c)
  have q3 : RowR 0 _ v' L' := OwnE.far hr h.res (by decide) q2
  have q4 : RowE 0 _ ve evs := OwnE.far he h.res (by decide) q2
  exact ⟨h.below.trans (q2.below (B := w.heap.size) h.below.size (fun k hk => by have := h.rlo; omega)), q1, q3, q4⟩
/-- An entry comes to the row. -/
theorem EnS.addrow (h : EnS w r wr v L nums turn paid) (hv : RowR w.heap.size wr v L) (z : Rn) {B : Nat} (hB : Cells wr B (encRn z).toArray 53) (hlen : L.length ≤ 500000) (ty : TypeId) :
    ∃ v2 w2, (Builtin.append_ #[47, 47] ty #[v, .slice (some ⟨B, 0, none⟩) 1 1]).run Try.prog wr = .ok v2 w2 ∧ EnS w r (w2.setCell ⟨w.heap.size, 0, none⟩ v2) v2 (L ++ [z]) nums turn paid ∧ (∃ u, w2.cell? ⟨w.heap.size, 0, none⟩ = some u) ∧ w2.frozen? ⟨w.heap.size, 0, none⟩ = false ∧ w.heap.size < w2.heap.size ∧ RowR w.heap.size w2 v2 (L ++ [z]) ∧ Kept (fun k => some k = v.ownBlock) wr w2 := by
  obtain ⟨v2, w2, r1, r2, r3, r4⟩ := rn_append hv h.below.size (SrcE.one hB) (by simp; omega) ty
  have d := h.bd.kept r3 (fun e => row_ne hv h.bd (by decide) _ e.symm rfl)
  have k2 : Kept (fun k => k = w.heap.size) w2 (w2.setCell ⟨w.heap.size, 0, none⟩ v2) := (Kept.refl (fun k => k = w.heap.size) w2).set (C := w.heap.size) rfl 0 v2
  refine ⟨v2, w2, r1, ⟨(h.below.trans (r3.below (B := w.heap.size) h.below.size (fun k e => own_ge hv k e.symm))).trans (k2.below (B := w.heap.size) (Nat.le_of_lt d.lt) (fun k e => by omega)), d.set 0 v2, (OwnE.mono r2 (Nat.zero_le _)).far d (by decide) k2, h.rlo, (h.res.kept r3 (fun e => row_ne hv h.res (by decide) _ e.symm rfl)).kept k2 (by have := h.rlo; omega)⟩, ⟨_, by rw [d.cell]; rfl⟩, d.frozen 0, d.lt, r2, r3⟩
end
theorem ord_cells {W : World} {b : Nat} {o : Od} (h : Cells W b #[.int .i64 o.m, .int .i64 o.s, .int .i64 o.k, .int .i64 o.f, .int .i64 o.p, .int .i64 o.t, .int .i64 o.q, .int .i64 o.pk] 27) : W.cell? ⟨b, 0, none⟩ = some (.int .i64 o.m) ∧ W.cell? ⟨b, 1, none⟩ = some (.int .i64 o.s) ∧ W.cell? ⟨b, 2, none⟩ = some (.int .i64 o.k) ∧ W.cell? ⟨b, 3, none⟩ = some (.int .i64 o.f) ∧ W.cell? ⟨b, 4, none⟩ = some (.int .i64 o.p) ∧ W.cell? ⟨b, 5, none⟩ = some (.int .i64 o.t) ∧ W.cell? ⟨b, 6, none⟩ = some (.int .i64 o.q) ∧ W.cell? ⟨b, 7, none⟩ = some (.int .i64 o.pk) ∧ b < W.heap.size := by
  refine ⟨?_, ?_, ?_, ?_, ?_, ?_, ?_, ?_, h.lt⟩ <;> (rw [h.cell]; rfl)
/-- One event in a block of its own is a row. -/
theorem row_one {w : World} {B : Nat} {ev : Ev} (h : Cells w B (encEv ev).toArray 148) : RowE 0 w (.slice (some ⟨B, 0, none⟩) 1 1) [ev] := by
  refine ⟨rfl, .inr ⟨B, 1, _, rfl, Nat.zero_le _, h, Nat.le_refl _, by unfold maxLen; omega, rfl, ?_⟩⟩
  simp [flatE, encEv]
/-- The board and the events behind an order, refused or not. -/
def enterB (S : Bd) (o : Od) : Bd × List Ev := if enterE S o = 0 then enterF S o else (S, [])
def enterN (S : Bd) (o : Od) : Int := if enterE S o = 0 then S.nums + 1 else 0
/-- What the reference's Enter comes to. -/
def EnterR (w : World) (S : Bd) (x : Rb) (o : Od) (e : Ending) (w' : World) : Prop :=
  ∃ v' x' ve, e = .returned (.tuple #[rbV v' x'.nums x'.turn x'.paid, .int .i64 (enterN S o), ve, .int .i64 (enterE S o)]) ∧ RowR 0 w' v' x'.L ∧ RowE 0 w' ve (enterB S o).2 ∧ Rel (enterB S o).1 x' ∧ x'.turn ≤ x.turn + (enterB S o).2.length ∧ Below w.heap.size w w'
theorem EnterR.mk {w : World} {S : Bd} {x : Rb} {o : Od} {w' : World} {r : Nat} {v : Value} {L : List Rn} {nums turn paid : Int} {ve : Value} {B : Bd × List Ev} {n e : Int} (hn : n = enterN S o) (he : e = enterE S o) (hB : enterB S o = B) (hd : EnD w r w' v L nums turn paid ve B.2) (hr : Rel B.1 ⟨L, nums, turn, paid⟩) (ht : turn ≤ x.turn + B.2.length) :
    EnterR w S x o (.returned (.tuple #[rbV v nums turn paid, .int .i64 n, ve, .int .i64 e])) w' := by
  subst hn he hB
  exact ⟨v, ⟨L, nums, turn, paid⟩, ve, rfl, hd.row, hd.evr, hr, ht, hd.below⟩
end Go.Proofs.Ytdjhpldiifdifaa
