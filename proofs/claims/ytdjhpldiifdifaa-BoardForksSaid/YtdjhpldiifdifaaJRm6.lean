/- The reference's enough. Within the reference's comeIn: memory. An entry of the reference is stored in its row. No function of the program in sight. -/
import Derived.Test.YtdjhpldiifdifaaJRm1
namespace Go.Proofs.Ytdjhpldiifdifaa
set_option linter.unusedSimpArgs false
set_option linter.unusedVariables false
open Go.RowKit Go.Shelf
attribute [local go_sem] Oper.semAt_some
attribute [local go_sem ↓] Go.wp_at_zero Go.wp_at_succ

theorem undrew {B : Nat} {w w' : World} (h : Below B w.drew w') : Below B w w' := ⟨h.os, h.tape, h.output, h.size, h.block⟩
theorem sumE_snoc (o : Od) {L : List Rn} {i : Nat} (hi : i < L.length) : sumE o (L.take (i + 1)) = sumE o (L.take i) + (if eB o L[i] = true then L[i].l else 0) := by
  rw [List.take_succ_eq_append_getElem hi, sumE_append]
  simp [sumE]
set_option maxRecDepth 100000 in
set_option maxHeartbeats 8000000 in
theorem enough_rcalls (w : World) {v : Value} {L : List Rn} (h : RowR 0 w v L) (hn : L.length ≤ 100000) (nums turn paid : Int) (o : Od) (hos : o.s = 1 ∨ o.s = 2) (hok : ∀ x ∈ L, 0 ≤ x.l ∧ x.l ≤ 1000000000) :
    Calls Try.prog 96 #[rbV v nums turn paid, .agg o.vals] w fun e w' => e = .returned (.bool (decide (o.q ≤ sumE o L))) ∧ Below w.heap.size w w' := by
  obtain ⟨p, cap, g, rfl, hp, hc⟩ := h.rows
  have HC := hid hc
  have HP := hid hp
  have HOK := hid hok
  obtain ⟨R, hR⟩ : ∃ R : Ending → World → Prop, R = fun e w' => e = .returned (.bool (decide (o.q ≤ sumE o L))) ∧ Below w.heap.size w w' := ⟨_, rfl⟩
  have FIN := hid (show ∀ (i : Bool) (w' : World), i = decide (o.q ≤ sumE o L) → Below w.heap.size w w' → R (.returned (.bool i)) w' by intro i w' hi hb; rw [hR, hi]; exact ⟨rfl, hb⟩)
  rw [← hR]
  have L0 := hid ((LpB.start w (.slice p L.length cap) nums turn paid).alloc (.cells o.vals 27))
  have O0 := hid (Cells.new (w.alloc (.cells #[.slice p L.length cap, .int .i64 nums, .int .i64 turn, .int .i64 paid] 49)) o.vals 27)
  rw [World.size_alloc] at O0
  obtain ⟨n, hnn⟩ : ∃ n, n = L.length := ⟨_, rfl⟩
  have HN := hid hnn
  rw [← hnn] at hn L0 O0 ⊢
  unfold rbV
  unfold Od.vals at L0 O0 ⊢
  have GD := hid (fun price w => rgood_calls o hos price w)
  unfold Od.vals at GD
  have OT := hid (fun w => rother_calls hos w)
  clear hR h hp hc hnn hok
  go_enter Try.func96, Try.ntmps96
  go_wp2
  go_loopg [5, 6] n (fun k s5 s6 wr => ∃ i : Nat, i + k = n ∧ s6 = .int .i64 i ∧ s5 = .int .i64 (sumE o (L.take i)) ∧ LpB w (.slice p n cap) nums turn paid wr ∧ Cells wr (w.heap.size + 1) #[.int .i64 o.m, .int .i64 o.s, .int .i64 o.k, .int .i64 o.f, .int .i64 o.p, .int .i64 o.t, .int .i64 o.q, .int .i64 o.pk] 27)
  case atStart => exact ⟨0, by omega, rfl, rfl, L0.out, O0.out⟩
  case round =>
    obtain ⟨i, hik, rfl, rfl, lp, oc⟩ := hrel
    obtain ⟨t0, _, _, _, hwl⟩ := lp.cell
    have LP := hid lp
    have HIK := hid hik
    have OC := hid oc
    have ocl := oc.lt
    clear lp hik oc
    by_cases hin : i < n
    · have hil : i < L.length := by rw [← HN.out]; exact hin
      obtain ⟨rfl, hg⟩ := HP.out (by omega)
      obtain ⟨c0, c1, c2, c3, c4, c5, c6, c7, c8, c9, c10, c11, c12⟩ := HC.out wr LP.out.below i hil
      obtain ⟨x, hx⟩ : ∃ x, x = L[i] := ⟨_, rfl⟩
      rw [← hx] at c0 c1 c2 c3 c4 c5 c6 c7 c8 c9 c10 c11 c12
      have HX := hid hx
      have hgr : g < wr.heap.size := Nat.lt_of_lt_of_le hg LP.out.below.size
      have LA := hid (LP.out.alloc (.cells (encRn x).toArray 53))
      have OA := hid (OC.out.alloc (.cells (encRn x).toArray 53))
      have CA := hid (Cells.new wr (encRn x).toArray 53)
      have hsz := LA.out.top.lt
      have SN := hid (sumE_snoc o hil)
      rw [← hx] at SN
      have xl := HOK.out x (by rw [HX.out]; exact List.getElem_mem hil)
      have s1 := sumE_nonneg (o := o) (l := L.take i) (fun y hy => (HOK.out y (List.mem_of_mem_take hy)).1)
      have s2 := sumE_le (o := o) (M := 1000000000) (by decide) (l := L.take i) (fun y hy => (HOK.out y (List.mem_of_mem_take hy)).2)
      have s3 : sumE o (L.take i) ≤ 100000000000000 := by
        rw [List.length_take] at s2
        have : ((min i L.length : Nat) : Int) ≤ 100000 := by omega
        omega
      obtain ⟨SM, hSM⟩ : ∃ SM, SM = sumE o (L.take i) := ⟨_, rfl⟩
      rw [← hSM] at s1 s3 SN ⊢
      obtain ⟨E, hE⟩ : ∃ E, E = eB o x := ⟨_, rfl⟩
      rw [← hE] at SN
      unfold eB at hE
      obtain ⟨wa, hwa⟩ : ∃ wa, wa = wr.alloc (.cells #[.int .i64 x.n, .int .i64 x.o.m, .int .i64 x.o.s, .int .i64 x.o.k, .int .i64 x.o.f, .int .i64 x.o.p, .int .i64 x.o.t, .int .i64 x.o.q, .int .i64 x.o.pk, .int .i64 x.l, .int .i64 x.h, .bool x.w, .int .i64 x.t] 53) := ⟨_, rfl⟩
      have HWA := hid hwa
      unfold encRn at LA OA CA
      rw [← hwa] at LA OA CA
      have a0 : wa.cell? ⟨wr.heap.size, 9, none⟩ = some (.int .i64 x.l) := by rw [CA.out.cell]; rfl
      have ol := OA.out.lt
      have al := CA.out.lt
      have b0 : wa.cell? ⟨w.heap.size + 1, 6, none⟩ = some (.int .i64 o.q) := by rw [OA.out.cell]; rfl
      clear hx hwa s2 hSM
      go_upto_region 6 with fail
      go_cut [46, 7] (fun s46 s7 wx => s46 = .bool E ∧ s7 = pt wr.heap.size ∧ LpB w (.slice (some ⟨g, 0, none⟩) n cap) nums turn paid wx ∧ Cells wx (w.heap.size + 1) #[.int .i64 o.m, .int .i64 o.s, .int .i64 o.k, .int .i64 o.f, .int .i64 o.p, .int .i64 o.t, .int .i64 o.q, .int .i64 o.pk] 27 ∧ wx.cell? ⟨wr.heap.size, 9, none⟩ = some (.int .i64 x.l) ∧ wr.heap.size < wx.heap.size)
      case first =>
        have fin : ∀ wx, Below wa.heap.size wa wx → LpB w (.slice (some ⟨g, 0, none⟩) n cap) nums turn paid wx ∧ Cells wx (w.heap.size + 1) #[.int .i64 o.m, .int .i64 o.s, .int .i64 o.k, .int .i64 o.f, .int .i64 o.p, .int .i64 o.t, .int .i64 o.q, .int .i64 o.pk] 27 ∧ wx.cell? ⟨wr.heap.size, 9, none⟩ = some (.int .i64 x.l) ∧ wr.heap.size < wx.heap.size := fun wx hb =>
          ⟨LA.out.after hb, OA.out.below hb OA.out.lt, by rw [(CA.out.below hb CA.out.lt).cell]; rfl, Nat.lt_of_lt_of_le CA.out.lt hb.size⟩
        have FN := hid fin
        have o0 : wa.cell? ⟨w.heap.size + 1, 0, none⟩ = some (.int .i64 o.m) := by rw [OA.out.cell]; rfl
        have o1 : wa.cell? ⟨w.heap.size + 1, 1, none⟩ = some (.int .i64 o.s) := by rw [OA.out.cell]; rfl
        have o2 : wa.cell? ⟨w.heap.size + 1, 2, none⟩ = some (.int .i64 o.k) := by rw [OA.out.cell]; rfl
        have o3 : wa.cell? ⟨w.heap.size + 1, 3, none⟩ = some (.int .i64 o.f) := by rw [OA.out.cell]; rfl
        have o4 : wa.cell? ⟨w.heap.size + 1, 4, none⟩ = some (.int .i64 o.p) := by rw [OA.out.cell]; rfl
        have o5 : wa.cell? ⟨w.heap.size + 1, 5, none⟩ = some (.int .i64 o.t) := by rw [OA.out.cell]; rfl
        have o7 : wa.cell? ⟨w.heap.size + 1, 7, none⟩ = some (.int .i64 o.pk) := by rw [OA.out.cell]; rfl
        have m1 : wa.cell? ⟨wr.heap.size, 1, none⟩ = some (.int .i64 x.o.m) := by rw [CA.out.cell]; rfl
        have m2 : wa.cell? ⟨wr.heap.size, 2, none⟩ = some (.int .i64 x.o.s) := by rw [CA.out.cell]; rfl
        have m5 : wa.cell? ⟨wr.heap.size, 5, none⟩ = some (.int .i64 x.o.p) := by rw [CA.out.cell]; rfl
        have m11 : wa.cell? ⟨wr.heap.size, 11, none⟩ = some (.bool x.w) := by rw [CA.out.cell]; rfl
        clear c0 c1 c2 c3 c4 c5 c6 c7 c8 c9 c10 c11 c12 fin
        rw [← HWA.out]
        cases hw : x.w with
        | true =>
          rw [hw] at m11
          have e : E = false := by rw [hE, hw]; rfl
          subst e
          clear hE
          go_big_quiet (fail)
          go_wp2
          go_meet
          exact ⟨rfl, rfl, FN.out _ (drewN_below (Below.refl _ _) _)⟩
        | false =>
          rw [hw] at m11 hE
          by_cases hs : x.o.s = 3 - o.s
          · have g1 : (x.o.s == 3 - o.s) = true := by simpa using hs
            by_cases hm : x.o.m = o.m
            · have g2 : (x.o.m != o.m) = false := by simpa using hm
              have e : E = false := by rw [hE]; simp [hm]
              subst e
              clear hE hs hm
              go_big_quiet ((go_at_call 65; exact Calls.quiet_of_same (OT.out _)))
              go_wp2
              go_meet
              exact ⟨rfl, rfl, FN.out _ (drewN_below (Below.refl _ _) _)⟩
            · have g2 : (x.o.m != o.m) = true := by simpa using hm
              have e : E = o.good x.o.p := by rw [hE]; simp [hm, hs]
              have HE := hid e
              clear hE hs hm e
              go_region_with (first | (go_at_call 65; refine (OT.out _).mono ?_; rintro e w' ⟨rfl, rfl⟩) | (go_at_call 85; refine (GD.out x.o.p _).mono ?_; rintro e w' ⟨rfl, hb'⟩; have HB' := hid hb'; clear hb'))
              all_goals (
                go_wp2
                go_meet
                exact ⟨by rw [HE.out], rfl, FN.out _ (undrew HB'.out)⟩)
          · have g1 : (x.o.s == 3 - o.s) = false := by simpa using hs
            have e : E = false := by rw [hE]; simp [hs]
            subst e
            clear hE hs
            go_big_quiet ((go_at_call 65; exact Calls.quiet_of_same (OT.out _)))
            go_wp2
            go_meet
            exact ⟨rfl, rfl, FN.out _ (drewN_below (Below.refl _ _) _)⟩
      case rest =>
        obtain ⟨rfl, rfl, lq, oq, xq, xs⟩ := hcut
        have LQ := hid lq
        have OQ := hid oq
        clear lq oq hE
        cases E with
        | true =>
          rw [if_pos rfl] at SN
          go_wp2
          go_roundg (n - (i + 1))
          · exact ⟨i + 1, by omega, by go_num, by rw [SN.out], LQ.out, OQ.out⟩
          · have := HIK.out; omega
        | false =>
          rw [if_neg (by decide), Int.add_zero] at SN
          go_wp2
          go_roundg (n - (i + 1))
          · exact ⟨i + 1, by omega, by go_num, by rw [SN.out], LQ.out, OQ.out⟩
          · have := HIK.out; omega
    · have hin' : i = n := by have := HIK.out; omega
      subst hin'
      have g1 : decide ((i : Int) < (i : Int)) = false := by simp
      have b0 : wr.cell? ⟨w.heap.size + 1, 6, none⟩ = some (.int .i64 o.q) := by rw [OC.out.cell]; rfl
      obtain ⟨SM, hSM⟩ : ∃ SM, SM = sumE o (L.take i) := ⟨_, rfl⟩
      rw [← hSM]
      have HS := hid (show SM = sumE o L by rw [hSM, HN.out, List.take_length])
      clear hSM
      go_wp2
      exact FIN.out _ _ (by rw [HS.out]) LP.out.below
end Go.Proofs.Ytdjhpldiifdifaa
namespace Go.Proofs.Ytdjhpldiifdifaa
set_option linter.unusedSimpArgs false
set_option linter.unusedVariables false
open Go.RowKit Go.Shelf

theorem zc (N : Nat) : N + 1 + 1 = N + 2 := rfl
/-- Within comeIn: the board, the order, the result, the events. -/
structure CmS (w : World) (o : Od) (wr : World) (v : Value) (L : List Rn) (nums turn paid : Int) (ve : Value) (evs : List Ev) : Prop where
  below : Below w.heap.size w wr
  bd : Cells wr w.heap.size #[v, .int .i64 nums, .int .i64 turn, .int .i64 paid] 49
  row : RowR w.heap.size wr v L
  od : Cells wr (w.heap.size + 1) #[.int .i64 o.m, .int .i64 o.s, .int .i64 o.k, .int .i64 o.f, .int .i64 o.p, .int .i64 o.t, .int .i64 o.q, .int .i64 o.pk] 27
  res : Cells wr (w.heap.size + 1 + 1) #[.slice none 0 0, .int .i64 0, .int .i64 0, .int .i64 0] 49
  evr : RowE w.heap.size wr ve evs
section
variable {w wr : World} {o : Od} {v : Value} {L : List Rn} {nums turn paid : Int} {ve : Value} {evs : List Ev}
theorem CmS.after (h : CmS w o wr v L nums turn paid ve evs) {w' : World} (hb : Below wr.heap.size wr w') : CmS w o w' v L nums turn paid ve evs :=
  ⟨h.below.trans (hb.mono h.below.size), h.bd.below hb h.bd.lt, OwnE.below h.row hb, h.od.below hb h.od.lt, h.res.below hb h.res.lt, OwnE.below h.evr hb⟩
theorem CmS.alloc (h : CmS w o wr v L nums turn paid ve evs) (b : Obj) : CmS w o (wr.alloc b) v L nums turn paid ve evs := h.after ((Below.refl _ _).alloc (Nat.le_refl _) _)
theorem CmS.drewN (h : CmS w o wr v L nums turn paid ve evs) (k : Nat) : CmS w o (wr.drewN k) v L nums turn paid ve evs := h.after (drewN_below (Below.refl _ _) k)
theorem CmS.drew (h : CmS w o wr v L nums turn paid ve evs) : CmS w o wr.drew v L nums turn paid ve evs := h.after (Below.refl _ _).drew
theorem CmS.cell (h : CmS w o wr v L nums turn paid ve evs) : wr.cell? ⟨w.heap.size, 0, none⟩ = some v ∧ wr.cell? ⟨w.heap.size, 1, none⟩ = some (.int .i64 nums) ∧ wr.cell? ⟨w.heap.size, 2, none⟩ = some (.int .i64 turn) ∧ wr.cell? ⟨w.heap.size, 3, none⟩ = some (.int .i64 paid) ∧ w.heap.size < wr.heap.size ∧ w.heap.size + 1 < wr.heap.size ∧ w.heap.size + 1 + 1 < wr.heap.size := by
  refine ⟨?_, ?_, ?_, ?_, h.bd.lt, h.od.lt, h.res.lt⟩ <;> (rw [h.bd.cell]; rfl)
theorem CmS.froz (h : CmS w o wr v L nums turn paid ve evs) : ∀ j, wr.frozen? ⟨w.heap.size, j, none⟩ = false := h.bd.frozen
theorem CmS.ord (h : CmS w o wr v L nums turn paid ve evs) : wr.cell? ⟨w.heap.size + 1, 0, none⟩ = some (.int .i64 o.m) ∧ wr.cell? ⟨w.heap.size + 1, 1, none⟩ = some (.int .i64 o.s) ∧ wr.cell? ⟨w.heap.size + 1, 2, none⟩ = some (.int .i64 o.k) ∧ wr.cell? ⟨w.heap.size + 1, 3, none⟩ = some (.int .i64 o.f) ∧ wr.cell? ⟨w.heap.size + 1, 4, none⟩ = some (.int .i64 o.p) ∧ wr.cell? ⟨w.heap.size + 1, 5, none⟩ = some (.int .i64 o.t) ∧ wr.cell? ⟨w.heap.size + 1, 6, none⟩ = some (.int .i64 o.q) ∧ wr.cell? ⟨w.heap.size + 1, 7, none⟩ = some (.int .i64 o.pk) := by
  refine ⟨?_, ?_, ?_, ?_, ?_, ?_, ?_, ?_⟩ <;> (rw [h.od.cell]; rfl)
theorem CmS.resc (h : CmS w o wr v L nums turn paid ve evs) : wr.cell? ⟨w.heap.size + 1 + 1, 0, none⟩ = some (.slice none 0 0) ∧ wr.cell? ⟨w.heap.size + 1 + 1, 1, none⟩ = some (.int .i64 0) ∧ wr.cell? ⟨w.heap.size + 1 + 1, 2, none⟩ = some (.int .i64 0) ∧ wr.cell? ⟨w.heap.size + 1 + 1, 3, none⟩ = some (.int .i64 0) ∧ (∀ j, wr.frozen? ⟨w.heap.size + 1 + 1, j, none⟩ = false) := by
  refine ⟨?_, ?_, ?_, ?_, h.res.frozen⟩ <;> (rw [h.res.cell]; rfl)
/-- A block that is none of a row's own. -/
theorem row_ne {α : Type} {enc : α → List Value} {sz : Nat} {e ty : TypeId} {B r : Nat} {w : World} {u : Value} {l : List α} {cs : Array Value} (h : OwnE enc sz e B w u l) (hr : Cells w r cs ty) (ht : e ≠ ty) : ∀ b, u.ownBlock = some b → b ≠ r := fun b hb => by
  obtain ⟨cs', hcs⟩ := own_lt h hb
  exact hcs.ne hr ht
/-- What changes other blocks of the call's own. -/
theorem CmS.kept (h : CmS w o wr v L nums turn paid ve evs) {X : Nat → Prop} {w' : World} (hk : Kept X wr w') (hX : ∀ k, X k → w.heap.size ≤ k ∧ k ≠ w.heap.size ∧ k ≠ w.heap.size + 1 ∧ k ≠ w.heap.size + 1 + 1) {L' : List Rn} (hr : RowR w.heap.size w' v L') {ve' : Value} {evs' : List Ev} (he : RowE w.heap.size w' ve' evs') : CmS w o w' v L' nums turn paid ve' evs' :=
  ⟨h.below.trans (hk.below (B := w.heap.size) h.below.size (fun k hx => (hX k hx).1)), h.bd.kept hk (fun e => (hX _ e).2.1 rfl), hr, h.od.kept hk (fun e => (hX _ e).2.2.1 rfl), h.res.kept hk (fun e => (hX _ e).2.2.2 rfl), he⟩
theorem own_ge {α : Type} {enc : α → List Value} {sz : Nat} {e : TypeId} {B : Nat} {w : World} {u : Value} {l : List α} (h : OwnE enc sz e B w u l) : ∀ b, u.ownBlock = some b → B ≤ b := fun b hb => by
  rcases h.2 with ⟨rfl, _⟩ | ⟨g, cap, cur, rfl, h1, _⟩
  · cases hb
  · injection hb with hb; subst hb; exact h1
theorem CmS.evb (h : CmS w o wr v L nums turn paid ve evs) : ∀ k, some k = ve.ownBlock → w.heap.size ≤ k ∧ k ≠ w.heap.size ∧ k ≠ w.heap.size + 1 ∧ k ≠ w.heap.size + 1 + 1 := fun k hk =>
  ⟨own_ge h.evr k hk.symm, row_ne h.evr h.bd (by decide) k hk.symm, row_ne h.evr h.od (by decide) k hk.symm, row_ne h.evr h.res (by decide) k hk.symm⟩
theorem CmS.rowb (h : CmS w o wr v L nums turn paid ve evs) : ∀ k, some k = v.ownBlock → w.heap.size ≤ k ∧ k ≠ w.heap.size ∧ k ≠ w.heap.size + 1 ∧ k ≠ w.heap.size + 1 + 1 := fun k hk =>
  ⟨own_ge h.row k hk.symm, row_ne h.row h.bd (by decide) k hk.symm, row_ne h.row h.od (by decide) k hk.symm, row_ne h.row h.res (by decide) k hk.symm⟩
theorem own_other {α β : Type} {enc : α → List Value} {enc' : β → List Value} {sz sz' : Nat} {e e' : TypeId} {B B' : Nat} {w : World} {u u' : Value} {l : List α} {l' : List β} (h : OwnE enc sz e B w u l) (h' : OwnE enc' sz' e' B' w u' l') (ht : e ≠ e') : ∀ b, u.ownBlock = some b → ¬ some b = u'.ownBlock := fun b hb e2 => by
  obtain ⟨cs, hcs⟩ := own_lt h hb
  obtain ⟨cs', hcs'⟩ := own_lt h' e2.symm
  exact hcs.ne hcs' ht rfl
/-- A cell of the board is written. -/
theorem CmS.board (h : CmS w o wr v L nums turn paid ve evs) {w' : World} (hk : Kept (fun k => k = w.heap.size) wr w') {v' : Value} {L' : List Rn} {nums' turn' paid' : Int} (hc : Cells w' w.heap.size #[v', .int .i64 nums', .int .i64 turn', .int .i64 paid'] 49) (hr : RowR w.heap.size w' v' L') : CmS w o w' v' L' nums' turn' paid' ve evs :=
  ⟨h.below.trans (hk.below (B := w.heap.size) h.below.size (fun k hx => by omega)), hc, hr, h.od.kept hk (by omega), h.res.kept hk (by omega), OwnE.far h.evr h.bd (by decide) hk⟩
theorem CmS.setRow (h : CmS w o wr v L nums turn paid ve evs) {v' : Value} {L' : List Rn} (hr : RowR w.heap.size wr v' L') : CmS w o (wr.setCell ⟨w.heap.size, 0, none⟩ v') v' L' nums turn paid ve evs :=
  h.board ((Kept.refl (fun k => k = w.heap.size) wr).set (C := w.heap.size) rfl 0 v') (h.bd.set 0 v') (hr.set h.bd (by decide) 0 v')
theorem CmS.setTurn (h : CmS w o wr v L nums turn paid ve evs) (t : Int) : CmS w o (wr.setCell ⟨w.heap.size, 2, none⟩ (.int .i64 t)) v L nums t paid ve evs :=
  h.board ((Kept.refl (fun k => k = w.heap.size) wr).set (C := w.heap.size) rfl 2 _) (h.bd.set 2 _) (h.row.set h.bd (by decide) 2 _)
theorem CmS.setPaid (h : CmS w o wr v L nums turn paid ve evs) (t : Int) : CmS w o (wr.setCell ⟨w.heap.size, 3, none⟩ (.int .i64 t)) v L nums turn t ve evs :=
  h.board ((Kept.refl (fun k => k = w.heap.size) wr).set (C := w.heap.size) rfl 3 _) (h.bd.set 3 _) (h.row.set h.bd (by decide) 3 _)
/-- The board's value is stored over the board. -/
theorem CmS.setAll (h : CmS w o wr v L nums turn paid ve evs) {v' : Value} {L' : List Rn} (hr : RowR w.heap.size wr v' L') (a b c : Int) :
    CmS w o ((((wr.setCell ⟨w.heap.size, 0, none⟩ v').setCell ⟨w.heap.size, 1, none⟩ (.int .i64 a)).setCell ⟨w.heap.size, 2, none⟩ (.int .i64 b)).setCell ⟨w.heap.size, 3, none⟩ (.int .i64 c)) v' L' a b c ve evs := by
  obtain ⟨q1, q2⟩ := put_rb h.bd rfl v' (.int .i64 a) (.int .i64 b) (.int .i64 c)
  exact h.board q2 q1 (OwnE.far hr h.bd (by decide) q2)
/-- An event comes to the events. -/
theorem CmS.tell (h : CmS w o wr v L nums turn paid ve evs) (ev : Ev) {B : Nat} (hB : Cells wr B (encEv ev).toArray 148) (hlen : evs.length ≤ 3400000000000) (ty : TypeId) :
    ∃ ve' w', (Builtin.append_ #[125, 125] ty #[ve, .slice (some ⟨B, 0, none⟩) 1 1]).run Try.prog wr = .ok ve' w' ∧ CmS w o w' v L nums turn paid ve' (evs ++ [ev]) ∧ Kept (fun k => some k = ve.ownBlock) wr w' := by
  obtain ⟨ve', w', r1, r2, r3, r4⟩ := re_append h.evr h.below.size (SrcE.one hB) (by simp; omega) ty
  exact ⟨ve', w', r1, h.kept r3 h.evb (OwnE.kept h.row r3 (own_other h.row h.evr (by decide))) r2, r3⟩
/-- The result is stored. -/
theorem CmS.done (h : CmS w o wr v L nums turn paid ve evs) : ∃ w', w' = ((((wr.setCell ⟨w.heap.size + 1 + 1, 0, none⟩ v).setCell ⟨w.heap.size + 1 + 1, 1, none⟩ (.int .i64 nums)).setCell ⟨w.heap.size + 1 + 1, 2, none⟩ (.int .i64 turn)).setCell ⟨w.heap.size + 1 + 1, 3, none⟩ (.int .i64 paid)) ∧
    Below w.heap.size w w' ∧ Cells w' (w.heap.size + 1 + 1) #[v, .int .i64 nums, .int .i64 turn, .int .i64 paid] 49 ∧ RowR w.heap.size w' v L ∧ RowE w.heap.size w' ve evs := by
  obtain ⟨q1, q2⟩ := put_rb h.res rfl v (.int .i64 nums) (.int .i64 turn) (.int .i64 paid)
  exact ⟨_, rfl, h.below.trans (q2.below (B := w.heap.size) h.below.size (fun k hk => by omega)), q1, OwnE.far h.row h.res (by decide) q2, OwnE.far h.evr h.res (by decide) q2⟩
/-- What comeIn comes to. -/
structure CmD (w w' : World) (v : Value) (L : List Rn) (nums turn paid : Int) (ve : Value) (evs : List Ev) : Prop where
  below : Below w.heap.size w w'
  res : Cells w' (w.heap.size + 1 + 1) #[v, .int .i64 nums, .int .i64 turn, .int .i64 paid] 49
  row : RowR w.heap.size w' v L
  evr : RowE w.heap.size w' ve evs
theorem CmS.fin (h : CmS w o wr v L nums turn paid ve evs) : CmD w ((((wr.setCell ⟨w.heap.size + 1 + 1, 0, none⟩ v).setCell ⟨w.heap.size + 1 + 1, 1, none⟩ (.int .i64 nums)).setCell ⟨w.heap.size + 1 + 1, 2, none⟩ (.int .i64 turn)).setCell ⟨w.heap.size + 1 + 1, 3, none⟩ (.int .i64 paid)) v L nums turn paid ve evs := by
  obtain ⟨w', rfl, h1, h2, h3, h4⟩ := h.done
  exact ⟨h1, h2, h3, h4⟩
/-- An event comes behind the result. -/
theorem CmD.tell {w wr : World} (h : CmD w wr v L nums turn paid ve evs) (ev : Ev) {B : Nat} (hB : Cells wr B (encEv ev).toArray 148) (hlen : evs.length ≤ 3400000000000) (ty : TypeId) :
    ∃ ve' w', (Builtin.append_ #[125, 125] ty #[ve, .slice (some ⟨B, 0, none⟩) 1 1]).run Try.prog wr = .ok ve' w' ∧ CmD w w' v L nums turn paid ve' (evs ++ [ev]) := by
  obtain ⟨ve', w', r1, r2, r3, r4⟩ := re_append h.evr h.below.size (SrcE.one hB) (by simp; omega) ty
  refine ⟨ve', w', r1, h.below.trans (r3.below (B := w.heap.size) h.below.size (fun k hk => own_ge h.evr k hk.symm)), h.res.kept r3 (fun e => row_ne h.evr h.res (by decide) _ e.symm rfl), OwnE.kept h.row r3 (own_other h.row h.evr (by decide)), r2⟩
theorem CmD.after {w wr w' : World} (h : CmD w wr v L nums turn paid ve evs) (hb : Below wr.heap.size wr w') : CmD w w' v L nums turn paid ve evs :=
  ⟨h.below.trans (hb.mono h.below.size), h.res.below hb h.res.lt, OwnE.below h.row hb, OwnE.below h.evr hb⟩
/-- The ways in which `return b, append(out, ev)` may go. -/
theorem CmS.ways (h : CmS w o wr v L nums turn paid ve evs) (ev : Ev) (hlen : evs.length ≤ 3400000000000) (ty : TypeId) :
    (∃ ve' w', (Builtin.append_ #[125, 125] ty #[ve, .slice (some ⟨wr.heap.size, 0, none⟩) 1 1]).run Try.prog (wr.alloc (.cells (encEv ev).toArray 148)) = .ok ve' w' ∧ CmS w o w' v L nums turn paid ve' (evs ++ [ev]) ∧
      CmD w ((((w'.setCell ⟨w.heap.size + 1 + 1, 0, none⟩ v).setCell ⟨w.heap.size + 1 + 1, 1, none⟩ (.int .i64 nums)).setCell ⟨w.heap.size + 1 + 1, 2, none⟩ (.int .i64 turn)).setCell ⟨w.heap.size + 1 + 1, 3, none⟩ (.int .i64 paid)) v L nums turn paid ve' (evs ++ [ev])) ∧
    (∃ ve' w', (Builtin.append_ #[125, 125] ty #[ve, .slice (some ⟨wr.heap.size, 0, none⟩) 1 1]).run Try.prog (((((wr.setCell ⟨w.heap.size + 1 + 1, 0, none⟩ v).setCell ⟨w.heap.size + 1 + 1, 1, none⟩ (.int .i64 nums)).setCell ⟨w.heap.size + 1 + 1, 2, none⟩ (.int .i64 turn)).setCell ⟨w.heap.size + 1 + 1, 3, none⟩ (.int .i64 paid)).alloc (.cells (encEv ev).toArray 148)) = .ok ve' w' ∧
      CmD w w' v L nums turn paid ve' (evs ++ [ev])) ∧
    (∃ ve' w', (Builtin.append_ #[125, 125] ty #[ve, .slice (some ⟨wr.heap.size, 0, none⟩) 1 1]).run Try.prog (((((wr.alloc (.cells (encEv ev).toArray 148)).setCell ⟨w.heap.size + 1 + 1, 0, none⟩ v).setCell ⟨w.heap.size + 1 + 1, 1, none⟩ (.int .i64 nums)).setCell ⟨w.heap.size + 1 + 1, 2, none⟩ (.int .i64 turn)).setCell ⟨w.heap.size + 1 + 1, 3, none⟩ (.int .i64 paid)) = .ok ve' w' ∧
      CmD w w' v L nums turn paid ve' (evs ++ [ev])) := by
  refine ⟨?_, ?_, ?_⟩
  · obtain ⟨ve', w', r1, r2, _⟩ := (h.alloc (.cells (encEv ev).toArray 148)).tell ev (Cells.new wr _ _) hlen ty
    exact ⟨ve', w', r1, r2, r2.fin⟩
  · have d := h.fin
    have hsz : ((((wr.setCell ⟨w.heap.size + 1 + 1, 0, none⟩ v).setCell ⟨w.heap.size + 1 + 1, 1, none⟩ (.int .i64 nums)).setCell ⟨w.heap.size + 1 + 1, 2, none⟩ (.int .i64 turn)).setCell ⟨w.heap.size + 1 + 1, 3, none⟩ (.int .i64 paid)).heap.size = wr.heap.size := by
      rw [size_setCell, size_setCell, size_setCell, size_setCell]
    obtain ⟨ve', w', r1, r2⟩ := (d.after ((Below.refl _ _).alloc (Nat.le_refl _) (.cells (encEv ev).toArray 148))).tell ev (Cells.new _ _ _) hlen ty
    rw [hsz] at r1
    exact ⟨ve', w', r1, r2⟩
  · have d := (h.alloc (.cells (encEv ev).toArray 148)).fin
    have hB := Cells.new wr (encEv ev).toArray 148
    have q := (put_rb (h.alloc (.cells (encEv ev).toArray 148)).res rfl v (.int .i64 nums) (.int .i64 turn) (.int .i64 paid)).2
    obtain ⟨ve', w', r1, r2⟩ := d.tell ev (hB.kept q (by have := h.res.lt; omega)) hlen ty
    exact ⟨ve', w', r1, r2⟩
end
end Go.Proofs.Ytdjhpldiifdifaa
namespace Go.Proofs.Ytdjhpldiifdifaa
set_option linter.unusedSimpArgs false
set_option linter.unusedVariables false
open Go.RowKit Go.Shelf

/-- The entry's cells, stored. -/
@[reducible] def putRn (w : World) (g a : Nat) (z : Rn) : World :=
  (((((((((((((w.setCell ⟨g, a, none⟩ (.int .i64 z.n)).setCell ⟨g, a + 1, none⟩ (.int .i64 z.o.m)).setCell ⟨g, a + 2, none⟩ (.int .i64 z.o.s)).setCell ⟨g, a + 3, none⟩ (.int .i64 z.o.k)).setCell ⟨g, a + 4, none⟩ (.int .i64 z.o.f)).setCell ⟨g, a + 5, none⟩ (.int .i64 z.o.p)).setCell ⟨g, a + 6, none⟩ (.int .i64 z.o.t)).setCell ⟨g, a + 7, none⟩ (.int .i64 z.o.q)).setCell ⟨g, a + 8, none⟩ (.int .i64 z.o.pk)).setCell ⟨g, a + 9, none⟩ (.int .i64 z.l)).setCell ⟨g, a + 10, none⟩ (.int .i64 z.h)).setCell ⟨g, a + 11, none⟩ (.bool z.w)).setCell ⟨g, a + 12, none⟩ (.int .i64 z.t))
theorem putRn_cells {w : World} {g a : Nat} {z : Rn} {cur : Array Value} {ty : TypeId} (h : Cells w g cur ty) : ∃ cur', Cells (putRn w g a z) g cur' ty ∧ cur'.size = cur.size ∧ (∀ j, j < 13 → a + 13 ≤ cur.size → cur'[a + j]? = (encRn z)[j]?) ∧ (∀ q, q < a ∨ a + 13 ≤ q → cur'[q]? = cur[q]?) ∧ Kept (fun k => k = g) w (putRn w g a z) := by
  unfold putRn
  refine ⟨_, (((((((((((((h.set (a) _).set (a + 1) _).set (a + 2) _).set (a + 3) _).set (a + 4) _).set (a + 5) _).set (a + 6) _).set (a + 7) _).set (a + 8) _).set (a + 9) _).set (a + 10) _).set (a + 11) _).set (a + 12) _), ?_, fun j hj ha => ?_, fun q hq => ?_, Kept.refl (fun k => k = g) w |>.set (C := g) rfl (a) _ |>.set (C := g) rfl (a + 1) _ |>.set (C := g) rfl (a + 2) _ |>.set (C := g) rfl (a + 3) _ |>.set (C := g) rfl (a + 4) _ |>.set (C := g) rfl (a + 5) _ |>.set (C := g) rfl (a + 6) _ |>.set (C := g) rfl (a + 7) _ |>.set (C := g) rfl (a + 8) _ |>.set (C := g) rfl (a + 9) _ |>.set (C := g) rfl (a + 10) _ |>.set (C := g) rfl (a + 11) _ |>.set (C := g) rfl (a + 12) _⟩
  · simp only [Array.size_setIfInBounds]
  · have hc : j = 0 ∨ j = 1 ∨ j = 2 ∨ j = 3 ∨ j = 4 ∨ j = 5 ∨ j = 6 ∨ j = 7 ∨ j = 8 ∨ j = 9 ∨ j = 10 ∨ j = 11 ∨ j = 12 := by omega
    rcases hc with rfl | rfl | rfl | rfl | rfl | rfl | rfl | rfl | rfl | rfl | rfl | rfl | rfl
    all_goals (
      simp only [Array.getElem?_setIfInBounds, Array.size_setIfInBounds]
      simp [encRn]
      try omega)
  · simp only [Array.getElem?_setIfInBounds]
    repeat (rw [if_neg (by omega)])
/-- b.L[i] = z -/
theorem row_set {B : Nat} {w : World} {g cap : Nat} {L : List Rn} (h : RowR B w (.slice (some ⟨g, 0, none⟩) L.length cap) L) {i : Nat} (hi : i < L.length) (z : Rn) : RowR B (putRn w g (i * 13) z) (.slice (some ⟨g, 0, none⟩) L.length cap) (L.set i z) ∧ Kept (fun k => k = g) w (putRn w g (i * 13) z) := by
  rcases h.2 with ⟨e, _⟩ | ⟨g', cap', cur, e, hB, hg, h1, h2, h3, h4⟩
  · cases e
  · obtain ⟨rfl, rfl⟩ : g' = g ∧ cap' = cap := by injection e with a1 a2 a3; injection a1 with a1; injection a1 with a1; exact ⟨a1.symm, a3.symm⟩
    obtain ⟨cur', c1, c2, c3, c4, c5⟩ := putRn_cells (w := w) (g := g') (a := i * 13) (z := z) hg
    have hsz : i * 13 + 13 ≤ cur.size := by rw [h3]; omega
    refine ⟨⟨by rw [flatE_length encRn_len, List.length_set], .inr ⟨g', cap', cur', by rw [List.length_set], hB, c1, by rw [List.length_set]; exact h1, h2, by rw [c2, h3], ?_⟩⟩, c5⟩
    rw [List.length_set]
    have old : ∀ q, q < L.length * 13 → cur[q]? = (flatE encRn L)[q]? := fun q hq => by
      have := congrArg (fun l => l[q]?) h4
      simp only [List.getElem?_take, if_pos hq, Array.getElem?_toList] at this
      exact this
    apply List.ext_getElem?
    intro q
    rw [List.getElem?_take, Array.getElem?_toList]
    by_cases hq : q < L.length * 13
    · rw [if_pos hq]
      have hd : q = q / 13 * 13 + q % 13 := by omega
      have hm : q % 13 < 13 := by omega
      have hk : q / 13 < L.length := by omega
      rw [hd, flatE_get encRn_len (L.set i z) (q / 13) (by rw [List.length_set]; exact hk) (q % 13) hm]
      by_cases e : q / 13 = i
      · have e2 : (L.set i z)[q / 13]'(by rw [List.length_set]; exact hk) = z := by simp [e]
        rw [e2, e]
        exact c3 _ hm hsz
      · have e2 : (L.set i z)[q / 13]'(by rw [List.length_set]; exact hk) = L[q / 13] := by rw [List.getElem_set, if_neg (fun h => e h.symm)]
        rw [e2, ← hd, c4 q (by omega), old q hq]
        conv => lhs; rw [hd]
        exact flatE_get encRn_len L (q / 13) hk (q % 13) hm
    · rw [if_neg hq, List.getElem?_eq_none (by rw [flatE_length encRn_len, List.length_set]; omega)]
section
variable {w W : World} {o : Od} {g N2 cap2 : Nat} {L2 : List Rn} {nums turn2 paid2 : Int} {ve : Value} {evs : List Ev}
/-- The entry in hand is written. -/
theorem CmS.xset (c : CmS w o W (.slice (some ⟨g, 0, none⟩) N2 cap2) L2 nums turn2 paid2 ve evs) {X : Nat} {cs : Array Value} (hx : Cells W X cs 53) (hX : w.heap.size + 1 + 1 < X) (hg : g ≠ X) (j : Nat) (u : Value) : CmS w o (W.setCell ⟨X, j, none⟩ u) (.slice (some ⟨g, 0, none⟩) N2 cap2) L2 nums turn2 paid2 ve evs := by
  have kx : Kept (fun k => k = X) W (W.setCell ⟨X, j, none⟩ u) := (Kept.refl (fun k => k = X) _).set (C := X) rfl j u
  exact c.kept kx (fun k e => by subst e; exact ⟨by omega, by omega, by omega, by omega⟩) (OwnE.kept c.row kx (fun b hb e => hg (by injection hb with hb; rw [← e]; exact hb))) (OwnE.far c.evr hx (by decide) kx)
/-- The entry in the row is written. -/
theorem CmS.rowset (c : CmS w o W (.slice (some ⟨g, 0, none⟩) N2 cap2) L2 nums turn2 paid2 ve evs) (hN : N2 = L2.length) {i : Nat} (hi : i < L2.length) (z : Rn) : CmS w o (putRn W g (i * 13) z) (.slice (some ⟨g, 0, none⟩) N2 cap2) (L2.set i z) nums turn2 paid2 ve evs := by
  subst hN
  obtain ⟨r1, r2⟩ := row_set c.row hi z
  refine c.kept r2 (fun k e => by subst e; exact c.rowb _ rfl) r1 (OwnE.kept c.evr r2 (fun b hb e => ?_))
  exact own_other c.evr c.row (by decide) b hb (by rw [show b = g from e]; rfl)
/-- The cells of the row's entry. -/
theorem CmS.entry (c : CmS w o W (.slice (some ⟨g, 0, none⟩) N2 cap2) L2 nums turn2 paid2 ve evs) {i : Nat} (hi : i < L2.length) : (W.cell? ⟨g, i * 13, none⟩ = some (Value.int .i64 L2[i].n) ∧ W.cell? ⟨g, i * 13 + 1, none⟩ = some (Value.int .i64 L2[i].o.m) ∧ W.cell? ⟨g, i * 13 + 2, none⟩ = some (Value.int .i64 L2[i].o.s) ∧ W.cell? ⟨g, i * 13 + 3, none⟩ = some (Value.int .i64 L2[i].o.k) ∧ W.cell? ⟨g, i * 13 + 4, none⟩ = some (Value.int .i64 L2[i].o.f) ∧ W.cell? ⟨g, i * 13 + 5, none⟩ = some (Value.int .i64 L2[i].o.p) ∧ W.cell? ⟨g, i * 13 + 6, none⟩ = some (Value.int .i64 L2[i].o.t) ∧ W.cell? ⟨g, i * 13 + 7, none⟩ = some (Value.int .i64 L2[i].o.q) ∧ W.cell? ⟨g, i * 13 + 8, none⟩ = some (Value.int .i64 L2[i].o.pk) ∧ W.cell? ⟨g, i * 13 + 9, none⟩ = some (Value.int .i64 L2[i].l) ∧ W.cell? ⟨g, i * 13 + 10, none⟩ = some (Value.int .i64 L2[i].h) ∧ W.cell? ⟨g, i * 13 + 11, none⟩ = some (Value.bool L2[i].w) ∧ W.cell? ⟨g, i * 13 + 12, none⟩ = some (Value.int .i64 L2[i].t)) ∧ (∀ j, W.frozen? ⟨g, j, none⟩ = false) ∧ g < W.heap.size := by
  obtain ⟨p3, cap3, g3, hv3, hp3, hc3⟩ := c.row.rows
  obtain ⟨rfl, hg⟩ := hp3 (by omega)
  obtain rfl : g = g3 := by injection hv3 with a; injection a with a; injection a
  have h := hc3 W (Below.refl _ _) i hi
  obtain ⟨cs, hcs⟩ := own_lt c.row (x := g) rfl
  exact ⟨h, hcs.frozen, hg⟩
end
theorem meet_bdok {S : Bd} (hS : BdOk S) {side : Int} (hso : side = 1 ∨ side = 2) {xn : Int} (hn : 1 ≤ xn ∧ xn ≤ S.nums) (o : Od) {left : Int} (hl : 0 ≤ left ∧ left ≤ 1000000000) (k : Nat) {r : Mt} (hr : r = meetF o xn side k ⟨left, S.half side, S.last, []⟩) : BdOk { S.put side r.h with last := r.last } := by
  have hm0 : MtOk side S.nums xn ⟨left, S.half side, S.last, []⟩ := ⟨hl, hS.half hso, hS.last, by simp⟩
  obtain ⟨g1, g2, g3, g4, g5⟩ := meetF_ok (o := o) hn k _ hm0
  rw [← hr] at g1 g3
  have hsub := put_sub (S := S) hso g3
  have hB1 : BdOk (S.put side r.h) := put_ok hS hso g1.ok (hsub.nodup hS.once)
  exact ⟨hB1.nums, g1.last, hB1.buy, hB1.sell, hB1.wait, hB1.rise, hB1.once⟩
/-- An entry comes to the row. -/
theorem CmS.addrow {w wr : World} {o : Od} {v : Value} {L : List Rn} {nums turn paid : Int} {ve : Value} {evs : List Ev} (h : CmS w o wr v L nums turn paid ve evs) (z : Rn) {B : Nat} (hB : Cells wr B (encRn z).toArray 53) (hlen : L.length ≤ 500000) (ty : TypeId) :
    ∃ v2 w2, (Builtin.append_ #[47, 47] ty #[v, .slice (some ⟨B, 0, none⟩) 1 1]).run Try.prog wr = .ok v2 w2 ∧ CmS w o (w2.setCell ⟨w.heap.size, 0, none⟩ v2) v2 (L ++ [z]) nums turn paid ve evs ∧ (∃ u, w2.cell? ⟨w.heap.size, 0, none⟩ = some u) ∧ w2.frozen? ⟨w.heap.size, 0, none⟩ = false ∧ w.heap.size < w2.heap.size ∧ RowR w.heap.size w2 v2 (L ++ [z]) := by
  obtain ⟨v2, w2, r1, r2, r3, r4⟩ := rn_append h.row h.below.size (SrcE.one hB) (by simp; omega) ty
  have d := h.bd.kept r3 (fun e => (h.rowb _ e).2.1 rfl)
  have k2 : Kept (fun k => k = w.heap.size) w2 (w2.setCell ⟨w.heap.size, 0, none⟩ v2) := (Kept.refl (fun k => k = w.heap.size) w2).set (C := w.heap.size) rfl 0 v2
  refine ⟨v2, w2, r1, ⟨(h.below.trans (r3.below (B := w.heap.size) h.below.size (fun k e => (h.rowb _ e).1))).trans (k2.below (B := w.heap.size) (Nat.le_of_lt d.lt) (fun k e => by omega)), d.set 0 v2, r2.far d (by decide) k2, (h.od.kept r3 (fun e => (h.rowb _ e).2.2.1 rfl)).kept k2 (by omega), (h.res.kept r3 (fun e => (h.rowb _ e).2.2.2 rfl)).kept k2 (by omega), ?_⟩, ⟨_, by rw [d.cell]; rfl⟩, d.frozen 0, d.lt, r2⟩
  exact (OwnE.kept h.evr r3 (own_other h.evr h.row (by decide))).far d (by decide) k2
theorem tradeR_a {r : Rn} {q t : Int} (h : 0 < r.h - q) : tradeR r q t = { r with l := r.l - q, h := r.h - q } ∧ turnR r q t = t := by
  unfold tradeR turnR
  rw [if_neg (by omega), if_neg (by omega)]
  exact ⟨rfl, rfl⟩
theorem tradeR_c {r : Rn} {q t : Int} (h1 : r.h - q = 0) (h2 : 0 < r.l - q) : tradeR r q t = { r with l := r.l - q, h := min r.o.pk (r.l - q), t := t + 1 } ∧ turnR r q t = t + 1 := by
  unfold tradeR turnR
  rw [if_pos ⟨h1, h2⟩, if_pos ⟨h1, h2⟩]
  exact ⟨rfl, rfl⟩
end Go.Proofs.Ytdjhpldiifdifaa
