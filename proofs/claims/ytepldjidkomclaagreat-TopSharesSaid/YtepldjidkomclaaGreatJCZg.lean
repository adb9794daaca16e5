/- slices.DeleteFunc at zones, with a predicate by contract. slices.Clone at zones; the closure of kept. call.lean. call.kept. The closures of call.price and call.Best. The third closure of call.price. -/
import Derived.Test.YtepldjidkomclaaGreatJCSp5
import Derived.Test.YtepldjidkomclaaGreatJCCl0
namespace Go.Proofs.YtepldjidkomclaaGreat.Ca
set_option linter.unusedSimpArgs false
set_option linter.unusedVariables false
open Go.RowKit
attribute [local go_sem] Oper.semAt_some
attribute [local go_sem ↓] Go.wp_at_zero Go.wp_at_succ
def kp (P : Zn → Bool) (l : List Zn) (j : Nat) : List Zn := (l.take j).filter fun z => !P z
def DelP (B g : Nat) (l : List Zn) (P : Zn → Bool) (X : Nat → Prop) (I : World → Prop) (w : World) (e : Ending) (w' : World) : Prop :=
  ∃ v', e = .returned v' ∧ RowZ B w' v' (l.filter fun z => !P z) ∧ v'.ownBlock = some g ∧ I w' ∧ Kept (fun k => X k ∨ k = g) w w'
theorem kp_none {P : Zn → Bool} {l : List Zn} {i : Nat} (h : ∀ k (hk : k < l.length), k < i → P l[k] = false) : kp P l i = l.take i := by
  unfold kp
  refine List.filter_eq_self.2 fun z hz => ?_
  obtain ⟨k, hk, rfl⟩ := List.getElem_of_mem hz
  rw [List.length_take] at hk
  rw [List.getElem_take, h k (by omega) (by omega)]; rfl
theorem kp_succ {P : Zn → Bool} {l : List Zn} {j : Nat} (h : j < l.length) : kp P l (j + 1) = kp P l j ++ if P l[j] then [] else [l[j]] := by
  unfold kp
  rw [take_snoc h, List.filter_append]
  congr 1
  cases hp : P l[j] <;> simp [hp]
structure DlS (g cap : Nat) (l : List Zn) (P : Zn → Bool) (X : Nat → Prop) (I : World → Prop) (w0 : World) (j : Nat) (h : Nat → Zn) (w : World) : Prop where
  row : RowS w g cap l.length h
  lo : ∀ k (hk : k < (kp P l j).length), h k = (kp P l j)[k]
  hi : ∀ k (hk : k < l.length), j ≤ k → h k = l[k]
  inv : I w
  kept : Kept (fun k => X k ∨ k = g) w0 w
set_option maxRecDepth 100000 in
set_option maxHeartbeats 8000000 in
theorem del_calls {B : Nat} {w : World} {g cap n : Nat} {l : List Zn} (h : RowZ B w (.slice (some ⟨g, 0, none⟩) n cap) l) (hn : l.length ≤ 5000) {fid : Nat} {cb : Array Value} {P : Zn → Bool} {X Y : Nat → Prop} {I : World → Prop} {dom : Zn → Prop} (hf : FnC Value.bool fid cb P X Y I dom) (hI : I w) (hd : ∀ z ∈ l, dom z) (hg : Y g) (hY : ∀ k, w.heap.size ≤ k → Y k) :
    Calls Tryz.prog 96 #[.slice (some ⟨g, 0, none⟩) n cap, .func (.func fid) #[] cb] w (DelP B g l P X I w) := by
  obtain ⟨R, hR⟩ : ∃ R, R = DelP B g l P X I w := ⟨_, rfl⟩
  rw [← hR]
  have HR := hid hR
  have r0 := RowS.of h
  obtain ⟨hnl, _, hBg, _⟩ := OwnE.cellsAt encZn_len h
  have hgl := r0.lt
  obtain ⟨f, hfe⟩ : ∃ f : Nat → Zn, f = fun k => l.getD k ⟨0, 0, 0, 0⟩ := ⟨_, rfl⟩
  rw [← hfe, ← hnl] at r0
  have FG := hid (show ∀ k (hk : k < l.length), f k = l[k] from fun k hk => by rw [hfe]; simp [hk])
  have H := hid h
  have HF := hid hf
  have HD := hid hd
  have hxg : ¬ X g := fun hx => hf.apart g hx hg
  have XY := hid (show ∀ k, w.heap.size ≤ k → ¬ X k from fun k hk hx => hf.apart k hx (hY k hk))
  have eg := hf.eg
  have IX := hid (idx_calls r0 (by omega) hf hI (fun k hk => by rw [FG.out k (by omega)]; exact hd _ (List.getElem_mem _)) hg)
  have R0 := hid r0
  have HNL := hid hnl
  have HYg := hid hg
  rw [← hnl] at hn
  clear hR r0 h hf hI hd hfe hnl hY
  go_enter Tryz.func96, Tryz.ntmps96
  go_wp2_with fail
  refine IX.out.mono ?_
  rintro e w1 ⟨hi1, hk1, hh⟩
  have I1 := hid hi1
  have K1 := hid hk1
  clear hi1 hk1 IX
  rcases hh with ⟨i0, hi0, hp, hno, rfl⟩ | ⟨hno, rfl⟩
  · have HNO := hid hno
    have HP := hid hp
    clear hno hp
    have hl0 : i0 < l.length := by rw [← HNL.out]; exact hi0
    have KP0 := hid (show kp P l (i0 + 1) = l.take i0 by
      rw [kp_succ hl0, ← FG.out i0 hl0, HP.out, kp_none (fun k hk hki => by rw [← FG.out k hk]; exact HNO.out k hki)]
      simp)
    have S0 := hid (show DlS g cap l P X I w (i0 + 1) f w1 from ⟨by rw [← HNL.out]; exact R0.out.kept K1.out hxg, fun k hk => by
      have hk' := hk
      rw [KP0.out, List.length_take] at hk'
      rw [FG.out k (by omega)]
      simp only [KP0.out, List.getElem_take], fun k hk _ => FG.out k hk, I1.out, K1.out.mono (fun k hk => .inl hk)⟩)
    have L0 := hid (show (kp P l (i0 + 1)).length = i0 by rw [KP0.out, List.length_take]; omega)
    have e1 : ((i0 : Int) == -1) = false := by simp
    have ei : IntKind.i64.wrap ((i0 : Int) + 1) = ((i0 + 1 : Nat) : Int) := IntWalk.i64_in _ (by omega)
    clear hl0
    go_wp2_with fail
    go_loopg [5, 6, 7] (n - (i0 + 1)) (fun k s5 s6 s7 wr => ∃ (i j : Nat) (h : Nat → Zn), s5 = .int .i64 i ∧ s6 = .int .i64 j ∧ i = (kp P l j).length ∧ i < j ∧ j ≤ n ∧ k = n - j ∧ DlS g cap l P X I w j h wr)
    case atStart => exact ⟨i0, i0 + 1, f, rfl, by go_num, L0.out.symm, by omega, by omega, rfl, S0.out⟩
    case round =>
      obtain ⟨i, j, h, rfl, rfl, hil, hij, hjn, hjk, ss⟩ := hrel
      have HIL := hid hil
      have HJK := hid hjk
      have SS := hid ss
      have hwz := ss.kept.size
      clear hil hjk ss
      by_cases hlt : j < n
      · have hjl : j < l.length := by rw [← HNL.out]; exact hlt
        obtain ⟨z, hz⟩ : ∃ z, z = l[j] := ⟨_, rfl⟩
        obtain ⟨c0, c1, c2, c3⟩ := SS.out.row.cell hjl
        rw [SS.out.hi j hjl (Nat.le_refl _), ← hz] at c0 c1 c2 c3
        have hgl2 := SS.out.row.lt
        have gj : (j : Int) < (n : Int) := by omega
        have gj0 : (0 : Int) ≤ (j : Int) := by omega
        have gi : (i : Int) < (n : Int) := by omega
        have gi0 : (0 : Int) ≤ (i : Int) := by omega
        have HZ := hid hz
        obtain ⟨wb, hwb⟩ : ∃ wb, wb = wr.alloc (.cells #[.int .i64 z.f, .int .i64 z.t, .int .i64 z.d, .int .i64 z.s] 132) := ⟨_, rfl⟩
        have kb : Kept (fun k => X k ∨ k = g) w wb := by rw [hwb]; exact SS.out.kept.alloc _
        have ib : I wb := by rw [hwb]; exact HF.out.stay _ _ SS.out.inv ((Kept.refl _ _).alloc _)
        have cb' : Cells wb wr.heap.size #[.int .i64 z.f, .int .i64 z.t, .int .i64 z.d, .int .i64 z.s] 132 := by rw [hwb]; exact Cells.new wr _ _
        have rb : RowS wb g cap l.length h := by rw [hwb]; exact SS.out.row.kept (X := fun _ => False) ((Kept.refl _ _).alloc _) (fun h => h)
        have k0 : wb.cell? ⟨wr.heap.size, 0, none⟩ = some (.int .i64 z.f) := by rw [cb'.cell]; rfl
        have k1 : wb.cell? ⟨wr.heap.size, 1, none⟩ = some (.int .i64 z.t) := by rw [cb'.cell]; rfl
        have k2 : wb.cell? ⟨wr.heap.size, 2, none⟩ = some (.int .i64 z.d) := by rw [cb'.cell]; rfl
        have k3 : wb.cell? ⟨wr.heap.size, 3, none⟩ = some (.int .i64 z.s) := by rw [cb'.cell]; rfl
        have CL := hid (HF.out.call wb z ib (HD.out z (by rw [hz]; exact List.getElem_mem _)))
        have lb := cb'.lt
        have HWB := hid hwb
        have KB := hid kb
        have CB := hid cb'
        have RB := hid rb
        obtain ⟨b, hb⟩ : ∃ b, b = P z := ⟨_, rfl⟩
        rw [← hb] at CL
        have HB := hid hb
        have KS := hid (show kp P l (j + 1) = kp P l j ++ if b then [] else [z] by rw [kp_succ hjl, ← hz, ← hb])
        clear hz hwb kb cb' rb hb ib
        go_upto_region 8 with fail
        rw [← HWB.out]
        go_wp2_with fail
        refine CL.out.mono ?_
        rintro e w2 ⟨rfl, hi2, hk2⟩
        have I2 := hid hi2
        have K2 := hid (KB.out.trans hk2 (fun _ _ e => .inl e))
        have R2 := hid (RB.out.kept hk2 hxg)
        have cb2 := CB.out.kept hk2 (XY.out _ hwz)
        clear hi2 hk2
        cases b with
        | true =>
          have KS2 := hid (show kp P l (j + 1) = kp P l j by rw [KS.out]; simp)
          have S2 := hid (show DlS g cap l P X I w (j + 1) h w2 from ⟨R2.out, fun k hk => by
            have hk' := hk
            rw [KS2.out] at hk'
            rw [SS.out.lo k hk']
            simp only [KS2.out], fun k hk hjk => SS.out.hi k hk (by omega), I2.out, K2.out⟩)
          go_wp2
          go_roundg (n - (j + 1))
          · exact ⟨i, j + 1, h, rfl, by go_num, by rw [KS2.out]; exact HIL.out, by omega, by omega, rfl, S2.out⟩
          · have := HJK.out; omega
        | false =>
          have KS2 := hid (show kp P l (j + 1) = kp P l j ++ [z] by rw [KS.out]; simp)
          have m0 : w2.cell? ⟨wr.heap.size, 0, none⟩ = some (.int .i64 z.f) := by rw [cb2.cell]; rfl
          have m1 : w2.cell? ⟨wr.heap.size, 1, none⟩ = some (.int .i64 z.t) := by rw [cb2.cell]; rfl
          have m2 : w2.cell? ⟨wr.heap.size, 2, none⟩ = some (.int .i64 z.d) := by rw [cb2.cell]; rfl
          have m3 : w2.cell? ⟨wr.heap.size, 3, none⟩ = some (.int .i64 z.s) := by rw [cb2.cell]; rfl
          have lb2 := cb2.lt
          have hil2 : i < l.length := by omega
          obtain ⟨q0, q1, q2, q3⟩ := R2.out.cell hil2
          have f0 := R2.out.froz (i * 4)
          have f1 := R2.out.froz (i * 4 + 1)
          have f2 := R2.out.froz (i * 4 + 2)
          have f3 := R2.out.froz (i * 4 + 3)
          have hgl3 := R2.out.lt
          have S2 := hid (show ∀ wx, wx = (((w2.setCell ⟨g, i * 4, none⟩ (.int .i64 z.f)).setCell ⟨g, i * 4 + 1, none⟩ (.int .i64 z.t)).setCell ⟨g, i * 4 + 2, none⟩ (.int .i64 z.d)).setCell ⟨g, i * 4 + 3, none⟩ (.int .i64 z.s) → DlS g cap l P X I w (j + 1) (fun k => if k = i then z else h k) wx by
            rintro wx rfl
            have ks : Kept (fun k => k = g) w2 ((((w2.setCell ⟨g, i * 4, none⟩ (.int .i64 z.f)).setCell ⟨g, i * 4 + 1, none⟩ (.int .i64 z.t)).setCell ⟨g, i * 4 + 2, none⟩ (.int .i64 z.d)).setCell ⟨g, i * 4 + 3, none⟩ (.int .i64 z.s)) :=
              ((((Kept.refl (fun k => k = g) w2).set (C := g) rfl _ _).set (C := g) rfl _ _).set (C := g) rfl _ _).set (C := g) rfl _ _
            refine ⟨R2.out.set hil2 z, fun k hk => ?_, fun k hk hjk => ?_, HF.out.stay _ _ I2.out (ks.mono (fun k hk => by rw [hk]; exact HYg.out)), K2.out.trans ks (fun k _ e => .inr e)⟩
            · have hk' := hk
              rw [KS2.out, List.length_append, List.length_singleton, ← HIL.out] at hk'
              simp only [KS2.out]
              by_cases hki : k = i
              · rw [if_pos hki, List.getElem_append_right (by rw [← HIL.out]; omega)]
                simp
              · rw [if_neg hki, List.getElem_append_left (by rw [← HIL.out]; omega)]
                exact SS.out.lo k (by rw [← HIL.out]; omega)
            · show (if k = i then z else h k) = l[k]
              rw [if_neg (by omega)]
              exact SS.out.hi k hk (by omega))
          clear cb2
          go_wp2
          go_roundg (n - (j + 1))
          · refine ⟨i + 1, j + 1, _, by go_num, by go_num, by rw [KS2.out, List.length_append, List.length_singleton, ← HIL.out], by omega, by omega, rfl, S2.out _ ?_⟩
            rfl
          · have := HJK.out; omega
      · have hjn2 : j = n := by omega
        subst hjn2
        have hic : i ≤ cap := by
          obtain ⟨cs, _, _, h4, _⟩ := SS.out.row
          have := HNL.out
          omega
        have CLd := hid (fun ty => clear_zones wr g (i * 4) (j - i) (cap - i) (by omega) (fun q hq => by
          obtain ⟨cs, hcs, hsz, h4, _⟩ := SS.out.row
          have := HNL.out
          rw [hcs.cell, Array.getElem?_eq_getElem (by omega)]; rfl) (fun q hq => SS.out.row.froz _) ty)
        have FIN := hid (show R (.returned (.slice (some ⟨g, 0, none⟩) i cap)) (wr.setCells g (i * 4) (List.replicate ((j - i) * 4) (.int .i64 0))) by
          rw [HR.out]
          obtain ⟨cs, hcs, hsz, h4, h5, h6⟩ := SS.out.row
          obtain ⟨cs', d1, d2, d3, d4⟩ := cells_setCells (w := wr) (List.replicate ((j - i) * 4) (.int .i64 0)) (i * 4) wr cs hcs
          have hkp : kp P l j = l.filter fun z => !P z := by unfold kp; rw [HNL.out, List.take_length]
          have hll := HIL.out
          have hnll := HNL.out
          rw [hkp] at hll
          have r9 : RowS (wr.setCells g (i * 4) (List.replicate ((j - i) * 4) (.int .i64 0))) g cap i h := ⟨cs', d1, by rw [d2, hsz], hic, h5, fun k hk c hc => by rw [d3 _ (by omega)]; exact h6 k (by omega) c hc⟩
          refine ⟨_, rfl, ?_, rfl, HF.out.stay _ _ SS.out.inv (d4.mono (fun k hk => by rw [hk]; exact HYg.out)), SS.out.kept.trans d4 (fun k _ e => .inr e)⟩
          have := r9.own (l := l.filter fun z => !P z) (by omega) (fun k hk => by
            have h1 := SS.out.lo k (by rw [hkp]; exact hk)
            rw [h1]
            simp only [hkp]) hBg
          rw [← hll] at this
          exact this)
        have gjj : ¬ (j : Int) < (j : Int) := by omega
        have hcc : (cap = i) = False := by
          have : i < cap := by
            obtain ⟨cs, _, _, h4, _⟩ := SS.out.row
            have := HNL.out
            omega
          simp; omega
        have hin : i ≤ j := by omega
        have hinI : (i : Int) ≤ (j : Int) := by omega
        have hi00 : (0 : Int) ≤ (i : Int) := by omega
        go_wp2_with (refine wpList_clear_run rfl (.tmp 38) 129 rfl _ _ rfl (CLd.out _) ?_)
        first | exact FIN.out | (go_ret; exact FIN.out)
  · have FIN := hid (show R (.returned (.slice (some ⟨g, 0, none⟩) n cap)) w1 by
      rw [HR.out]
      have e1 : l.filter (fun z => !P z) = l := by
        have := kp_none (P := P) (l := l) (i := l.length) (fun k hk _ => by rw [← FG.out k hk]; exact hno k (by rw [HNL.out]; exact hk))
        unfold kp at this
        rwa [List.take_length] at this
      refine ⟨_, rfl, ?_, rfl, I1.out, K1.out.mono (fun k hk => .inl hk)⟩
      rw [e1]
      exact OwnE.kept H.out K1.out (fun b hb hx => hxg (by injection hb with hb; have h : g = b := hb; subst h; exact hx)))
    clear hno
    go_wp2
    first | exact FIN.out | (go_ret; exact FIN.out)
end Go.Proofs.YtepldjidkomclaaGreat.Ca
namespace Go.Proofs.YtepldjidkomclaaGreat.Ca
set_option linter.unusedSimpArgs false
set_option linter.unusedVariables false
open Go.RowKit Go.Shelf
attribute [local go_sem] Oper.semAt_some
attribute [local go_sem ↓] Go.wp_at_zero Go.wp_at_succ
theorem cell_set_other {w : World} {g j b o : Nat} {v u : Value} (hne : g ≠ b) (h : w.cell? ⟨g, j, none⟩ = some v) : (w.setCell ⟨b, o, none⟩ u).cell? ⟨g, j, none⟩ = some v := by
  rw [← h]
  simp only [World.cell?, World.cells?, Below.heap_setCell w ⟨b, o, none⟩ u g hne]
theorem kept_cell {X : Nat → Prop} {w w' : World} (h : Kept X w w') {g : Nat} (hg : g < w.heap.size) (hx : ¬ X g) (j : Nat) : w'.cell? ⟨g, j, none⟩ = w.cell? ⟨g, j, none⟩ := by
  simp only [World.cell?, World.cells?, h.block g hg hx]
theorem clone_calls {B : Nat} {w : World} {g n cap : Nat} {Z : List Zn} (h : RowZ B w (.slice (some ⟨g, 0, none⟩) n cap) Z) (hn : Z.length ≤ 5000) :
    Calls Tryz.prog 97 #[.slice (some ⟨g, 0, none⟩) n cap] w fun e w' => ∃ v', e = .returned v' ∧ RowZ w.heap.size w' v' Z ∧ v' ≠ .slice none 0 0 ∧ Below w.heap.size w w' := by
  obtain ⟨i, h1, h2, h3, h4⟩ := info_of infoZn
  obtain ⟨hnl, hg, _, hcell⟩ := OwnE.cellsAt encZn_len h
  subst hnl
  refine (AnyE.slices_Clone Tryz.cloneA i _ 4 32 h1 h2 h3 h4 rfl (by omega) (fun w => by kernel_rfl) g 0 Z.length cap (flatE encZn Z) w (flatE_length encZn_len Z) (by unfold maxLen; omega) (by omega) (fun j u hj => ?_) (fun u hu => by obtain ⟨a, _, ha⟩ := List.mem_flatMap.1 hu; exact encZn_one a u ha)).mono ?_
  · have hj' : j < Z.length * 4 := by rw [← flatE_length encZn_len Z]; exact (List.getElem?_eq_some_iff.1 hj).1
    have h5 := flatE_get encZn_len Z (j / 4) (by omega) (j % 4) (by omega)
    have h6 := hcell (j / 4) (by omega) (j % 4) (by omega)
    rw [show j / 4 * 4 + j % 4 = j by omega] at h5 h6
    rw [Nat.zero_add, h6, ← h5]
    exact hj
  · rintro e w' ⟨v', rfl, h5, h6, h7⟩
    exact ⟨v', rfl, h5, h6, h7⟩
set_option maxRecDepth 100000 in
set_option maxHeartbeats 4000000 in
theorem keptc_calls {w : World} {A L : Nat} {fid : Nat} {cb : Array Value} {F : Zn → Int} {X Y : Nat → Prop} {I : World → Prop} {dom : Zn → Prop} (hf : FnC (Value.int .i64) fid cb F X Y I dom) {m : Int} (hA : Cells w A #[.func (.func fid) #[] cb] 134) (hL : Cells w L #[.int .i64 m] 2) (hI : I w) (hYA : Y A) (hYL : Y L) (hYw : Y w.heap.size) (z : Zn) (hz : dom z) :
    Calls Tryz.prog 98 #[.agg #[.int .i64 z.f, .int .i64 z.t, .int .i64 z.d, .int .i64 z.s], .pointer (some ⟨A, 0, none⟩), .pointer (some ⟨L, 0, none⟩)] w fun e w' => e = .returned (.bool (decide (F z ≠ m))) ∧ (I w' ∧ Cells w' A #[.func (.func fid) #[] cb] 134 ∧ Cells w' L #[.int .i64 m] 2) ∧ Kept X w w' := by
  obtain ⟨R, hR⟩ : ∃ R : Ending → World → Prop, R = fun e w' => e = .returned (.bool (decide (F z ≠ m))) ∧ (I w' ∧ Cells w' A #[.func (.func fid) #[] cb] 134 ∧ Cells w' L #[.int .i64 m] 2) ∧ Kept X w w' := ⟨_, rfl⟩
  rw [← hR]
  have HR := hid hR
  have hxA : ¬ X A := fun hx => hf.apart _ hx hYA
  have hxL : ¬ X L := fun hx => hf.apart _ hx hYL
  have hxZ : ¬ X w.heap.size := fun hx => hf.apart _ hx hYw
  obtain ⟨wb, hwb⟩ : ∃ wb, wb = w.alloc (.cells #[.int .i64 z.f, .int .i64 z.t, .int .i64 z.d, .int .i64 z.s] 132) := ⟨_, rfl⟩
  have kb : Kept X w wb := by rw [hwb]; exact (Kept.refl _ _).alloc _
  have ib : I wb := by rw [hwb]; exact hf.stay _ _ hI ((Kept.refl _ _).alloc _)
  have cbz : Cells wb w.heap.size #[.int .i64 z.f, .int .i64 z.t, .int .i64 z.d, .int .i64 z.s] 132 := by rw [hwb]; exact Cells.new w _ _
  have clb : Cells wb L #[.int .i64 m] 2 := by rw [hwb]; exact hL.alloc _
  have cfb : Cells wb A #[.func (.func fid) #[] cb] 134 := by rw [hwb]; exact hA.alloc _
  have k0 : wb.cell? ⟨w.heap.size, 0, none⟩ = some (.int .i64 z.f) := by rw [cbz.cell]; rfl
  have k1 : wb.cell? ⟨w.heap.size, 1, none⟩ = some (.int .i64 z.t) := by rw [cbz.cell]; rfl
  have k2 : wb.cell? ⟨w.heap.size, 2, none⟩ = some (.int .i64 z.d) := by rw [cbz.cell]; rfl
  have k3 : wb.cell? ⟨w.heap.size, 3, none⟩ = some (.int .i64 z.s) := by rw [cbz.cell]; rfl
  have kL : wb.cell? ⟨L, 0, none⟩ = some (.int .i64 m) := by rw [clb.cell]; rfl
  have kF : wb.cell? ⟨A, 0, none⟩ = some (.func (.func fid) #[] cb) := by rw [cfb.cell]; rfl
  have lZ := cbz.lt
  have lL := clb.lt
  have lF := cfb.lt
  have CL := hid (hf.call wb.drew z (hf.stay _ _ ib (Kept.refl _ _).drew) hz)
  have CC := hid (show ∀ w', Kept X wb.drew w' → w'.cell? ⟨w.heap.size, 0, none⟩ = some (.int .i64 z.f) ∧ w'.cell? ⟨w.heap.size, 1, none⟩ = some (.int .i64 z.t) ∧ w'.cell? ⟨w.heap.size, 2, none⟩ = some (.int .i64 z.d) ∧ w'.cell? ⟨w.heap.size, 3, none⟩ = some (.int .i64 z.s) ∧ w'.cell? ⟨L, 0, none⟩ = some (.int .i64 m) ∧ w'.cell? ⟨A, 0, none⟩ = some (.func (.func fid) #[] cb) from fun w' hk =>
    ⟨(kept_cell hk lZ hxZ 0).trans k0, (kept_cell hk lZ hxZ 1).trans k1, (kept_cell hk lZ hxZ 2).trans k2, (kept_cell hk lZ hxZ 3).trans k3, (kept_cell hk lL hxL 0).trans kL, (kept_cell hk lF hxA 0).trans kF⟩)
  have FIN := hid (show ∀ b w5, b = decide (F z ≠ m) → I w5 → Kept X wb.drew w5 → R (.returned (.bool b)) w5 from fun b w5 hb hi hk => by
    rw [HR.out, hb]
    exact ⟨rfl, ⟨hi, cfb.drew.kept hk hxA, clb.drew.kept hk hxL⟩, kb.drew.trans hk (fun _ _ e => e)⟩)
  have eg := hf.eg
  have HWB := hid hwb
  clear hR hf hA hL hI hYA hYL hYw hz kb ib cbz clb cfb hwb
  go_enter Tryz.func98, Tryz.ntmps98
  go_upto_region 1 with fail
  rw [← HWB.out]
  go_region_held3 (fun wh => wh.cell? ⟨w.heap.size, 0, none⟩ = some (.int .i64 z.f) ∧ wh.cell? ⟨w.heap.size, 1, none⟩ = some (.int .i64 z.t) ∧ wh.cell? ⟨w.heap.size, 2, none⟩ = some (.int .i64 z.d) ∧ wh.cell? ⟨w.heap.size, 3, none⟩ = some (.int .i64 z.s) ∧ wh.cell? ⟨L, 0, none⟩ = some (.int .i64 m) ∧ wh.cell? ⟨A, 0, none⟩ = some (.func (.func fid) #[] cb))
    (exact ⟨k0, k1, k2, k3, kL, kF⟩)
    (first | ((with_reducible refine CL.out.mono ?_); rintro e w5 ⟨rfl, hi5, hk5⟩; obtain ⟨k0, k1, k2, k3, kL, kF⟩ := CC.out _ hk5))
  all_goals (
    have FN := hid (FIN.out (F z != m) _ (by by_cases h : F z = m <;> simp [h]) hi5 hk5)
    clear hi5 hk5
    go_wp2
    first | exact FN.out | (go_ret; exact FN.out))
end Go.Proofs.YtepldjidkomclaaGreat.Ca
namespace Go.Proofs.YtepldjidkomclaaGreat.Ca
set_option linter.unusedSimpArgs false
set_option linter.unusedVariables false
open Go.RowKit
attribute [local go_sem] Oper.semAt_some
attribute [local go_sem ↓] Go.wp_at_zero Go.wp_at_succ
def allOver (Z : List Zn) : Bool := Z.all fun z => decide (0 < z.sur)
def allUnder (Z : List Zn) : Bool := Z.all fun z => decide (z.sur < 0)
def leanF (Z : List Zn) : Int := if allOver Z then 1 else if allUnder Z then -1 else 0
set_option maxRecDepth 100000 in
set_option maxHeartbeats 4000000 in
theorem lean_calls {w : World} {v : Value} {Z : List Zn} (hv : ReadsE encZn 4 w v Z) (hl : Z.length ≤ 5000) (hok : ∀ z ∈ Z, z.ok) :
    Calls Tryz.prog 69 #[v] w fun e w' => e = .returned (.int .i64 (leanF Z)) ∧ Below w.heap.size w w' := by
  obtain ⟨hm, p, cap, bb, off, rfl, hp, hc⟩ := hv
  obtain ⟨n, hn⟩ : ∃ n, n = Z.length := ⟨_, rfl⟩
  rw [← hn] at hp hm hl ⊢
  have HN := hid hn
  have HP := hid hp
  have HC := hid hc
  have HOK := hid hok
  obtain ⟨R, hR⟩ : ∃ R : Ending → World → Prop, R = fun e w' => e = .returned (.int .i64 (leanF Z)) ∧ Below w.heap.size w w' := ⟨_, rfl⟩
  have HR := hid hR
  rw [← hR]
  clear hR hn hp hc hok
  go_enter Tryz.func69, Tryz.ntmps69
  go_upto_region 3 with fail
  go_loopg [9, 3, 4] n (fun k s9 s3 s4 wr => ∃ i : Nat, i + k = n ∧ s9 = .int .i64 i ∧ s3 = .bool (allOver (Z.take i)) ∧ s4 = .bool (allUnder (Z.take i)) ∧ Below w.heap.size w wr)
  case atStart => exact ⟨0, by omega, rfl, rfl, rfl, Below.refl _ _⟩
  case round =>
    obtain ⟨i, hik, rfl, rfl, rfl, hb⟩ := hrel
    have HIK := hid hik
    have HB := hid hb
    clear hik hb
    by_cases hin : i < n
    · have hil : i < Z.length := by rw [← HN.out]; exact hin
      obtain ⟨rfl, hbb⟩ := HP.out (by omega)
      have c0 := (HB.out.cell (p := ⟨bb, off + i * 4 + 0, none⟩) hbb).trans (HC.out i hil 0 (by omega))
      have c1 := (HB.out.cell (p := ⟨bb, off + i * 4 + 1, none⟩) hbb).trans (HC.out i hil 1 (by omega))
      have c2 := (HB.out.cell (p := ⟨bb, off + i * 4 + 2, none⟩) hbb).trans (HC.out i hil 2 (by omega))
      have c3 := (HB.out.cell (p := ⟨bb, off + i * 4 + 3, none⟩) hbb).trans (HC.out i hil 3 (by omega))
      simp [encZn] at c0 c1 c2 c3
      have gi : (i : Int) < (n : Int) := by omega
      have gi4 : (0 : Int) ≤ (i : Int) := by omega
      obtain ⟨z, hx⟩ : ∃ z, z = Z[i] := ⟨_, rfl⟩
      rw [← hx] at c0 c1 c2 c3
      have okz := HOK.out z (by rw [hx]; exact List.getElem_mem _)
      have ht : Z.take (i + 1) = Z.take i ++ [z] := by rw [hx]; exact take_snoc hil
      have OV := hid (show allOver (Z.take (i + 1)) = (allOver (Z.take i) && decide (0 < z.sur)) by rw [ht]; simp [allOver])
      have UN := hid (show allUnder (Z.take (i + 1)) = (allUnder (Z.take i) && decide (z.sur < 0)) by rw [ht]; simp [allUnder])
      obtain ⟨o, ho⟩ : ∃ o, o = allOver (Z.take i) := ⟨_, rfl⟩
      obtain ⟨u, hu⟩ : ∃ u, u = allUnder (Z.take i) := ⟨_, rfl⟩
      rw [← ho] at OV ⊢
      rw [← hu] at UN ⊢
      have SC := hid (fun wx => surplus_calls z okz wx)
      unfold Zn.val at SC
      obtain ⟨x, hxs⟩ : ∃ x, x = z.sur := ⟨_, rfl⟩
      rw [← hxs] at SC OV UN
      clear hx ht ho hu okz hxs
      go_upto_region 5 with fail
      go_cut [3] (fun s3 wx => s3 = .bool (o && decide (0 < x)) ∧ Cells wx wr.heap.size #[.int .i64 z.f, .int .i64 z.t, .int .i64 z.d, .int .i64 z.s] 132 ∧ Below w.heap.size w wx)
      case first =>
        have CB := hid (Cells.new wr #[.int .i64 z.f, .int .i64 z.t, .int .i64 z.d, .int .i64 z.s] 132)
        have BB := hid (HB.out.trans (((Below.refl wr.heap.size wr).alloc (Nat.le_refl _) (.cells #[.int .i64 z.f, .int .i64 z.t, .int .i64 z.d, .int .i64 z.s] 132)).mono HB.out.size))
        cases o with
        | false =>
          go_wp2
          go_meet
          exact ⟨rfl, CB.out, BB.out⟩
        | true =>
          go_wp2_with fail
          refine (SC.out _).mono ?_
          rintro e w2 ⟨rfl, hb2⟩
          have CB2 := hid (CB.out.below hb2 CB.out.lt)
          have BB2 := hid (BB.out.trans (hb2.mono BB.out.size))
          clear hb2
          go_wp2
          go_meet
          exact ⟨by simp, CB2.out, BB2.out⟩
      case rest =>
        obtain ⟨rfl, hcb, hbb2⟩ := hcut
        have CB := hid hcb
        have BB := hid hbb2
        have hl := hcb.lt
        have k0 : wc.cell? ⟨wr.heap.size, 0, none⟩ = some (.int .i64 z.f) := by rw [hcb.cell]; rfl
        have k1 : wc.cell? ⟨wr.heap.size, 1, none⟩ = some (.int .i64 z.t) := by rw [hcb.cell]; rfl
        have k2 : wc.cell? ⟨wr.heap.size, 2, none⟩ = some (.int .i64 z.d) := by rw [hcb.cell]; rfl
        have k3 : wc.cell? ⟨wr.heap.size, 3, none⟩ = some (.int .i64 z.s) := by rw [hcb.cell]; rfl
        clear hcb hbb2
        cases u with
        | false =>
          go_wp2
          go_roundg (n - (i + 1))
          · exact ⟨i + 1, by omega, by go_num, by rw [OV.out], by rw [UN.out]; rfl, BB.out⟩
          · have := HIK.out; omega
        | true =>
          go_wp2_with fail
          refine (SC.out _).mono ?_
          rintro e w2 ⟨rfl, hb2⟩
          have BB2 := hid (BB.out.trans (hb2.mono BB.out.size))
          clear hb2
          go_wp2
          go_roundg (n - (i + 1))
          · exact ⟨i + 1, by omega, by go_num, by rw [OV.out], by rw [UN.out]; simp, BB2.out⟩
          · have := HIK.out; omega
    · have hin' : i = n := by have := HIK.out; omega
      subst hin'
      have g1 : decide ((i : Int) < (i : Int)) = false := by simp
      have FIN := hid (show ∀ x, x = leanF (Z.take i) → R (.returned (.int .i64 x)) wr by rintro x rfl; rw [HR.out, HN.out, List.take_length]; exact ⟨rfl, HB.out⟩)
      unfold leanF at FIN
      obtain ⟨o, ho⟩ : ∃ o, o = allOver (Z.take i) := ⟨_, rfl⟩
      obtain ⟨u, hu⟩ : ∃ u, u = allUnder (Z.take i) := ⟨_, rfl⟩
      rw [← ho, ← hu] at FIN
      rw [← ho, ← hu]
      clear ho hu
      cases o with
      | true =>
        go_wp2
        first | exact FIN.out _ rfl | (go_ret; exact FIN.out _ rfl)
      | false =>
        cases u with
        | true =>
          go_wp2
          first | exact FIN.out _ rfl | (go_ret; exact FIN.out _ rfl)
        | false =>
          go_wp2
          first | exact FIN.out _ rfl | (go_ret; exact FIN.out _ rfl)
end Go.Proofs.YtepldjidkomclaaGreat.Ca
namespace Go.Proofs.YtepldjidkomclaaGreat.Ca
set_option linter.unusedSimpArgs false
set_option linter.unusedVariables false
open Go.RowKit Go.Shelf
attribute [local go_sem] Oper.semAt_some
attribute [local go_sem ↓] Go.wp_at_zero Go.wp_at_succ
def minTo (F : Zn → Int) (Z : List Zn) (a : Int) : Int := Z.foldl (fun a z => min a (F z)) a
def leastF (F : Zn → Int) (Z : List Zn) : Int := minTo F Z (F (Z.getD 0 ⟨0, 0, 0, 0⟩))
def keptF (F : Zn → Int) (Z : List Zn) : List Zn := Z.filter fun z => decide (F z = leastF F Z)
def KpP (F : Zn → Int) (Z : List Zn) (X : Nat → Prop) (I : World → Prop) (w : World) (e : Ending) (w' : World) : Prop :=
  ∃ v', e = .returned v' ∧ RowZ w.heap.size w' v' (keptF F Z) ∧ I w' ∧ Kept X w w'
structure KpS (g A L : Nat) (fv : Value) (Z : List Zn) (F : Zn → Int) (X : Nat → Prop) (I : World → Prop) (w0 : World) (i : Nat) (w : World) : Prop where
  least : Cells w L #[.int .i64 (minTo F (Z.take i) (F (Z.getD 0 ⟨0, 0, 0, 0⟩)))] 2
  box : Cells w A #[fv] 134
  inv : I w
  kept : Kept X w0 w
theorem minTo_snoc (F : Zn → Int) (l : List Zn) (z : Zn) (a : Int) : minTo F (l ++ [z]) a = min (minTo F l a) (F z) := by unfold minTo; rw [List.foldl_append]; rfl
set_option maxRecDepth 100000 in
set_option maxHeartbeats 8000000 in
theorem kept_calls {B : Nat} {w : World} {v : Value} {Z : List Zn} (h : RowZ B w v Z) (hn : Z.length ≤ 5000) (hne : Z ≠ []) {fid : Nat} {cb : Array Value} {F : Zn → Int} {X Y : Nat → Prop} {I0 I : World → Prop} {dom : Zn → Prop} (hf : FnC (Value.int .i64) fid cb F X Y I dom) (h1st : ∀ w z, I0 w → dom z → Calls Tryz.prog fid (#[.agg #[.int .i64 z.f, .int .i64 z.t, .int .i64 z.d, .int .i64 z.s]] ++ cb) w fun e w' => e = .returned (.int .i64 (F z)) ∧ I w' ∧ Kept X w w') (hst0 : ∀ w w', I0 w → Kept Y w w' → I0 w') (hI : I0 w) (hd : ∀ z ∈ Z, dom z) (hY : ∀ k, w.heap.size ≤ k → Y k) (hx : ∀ g, v.ownBlock = some g → ¬ X g) :
    Calls Tryz.prog 71 #[v, .func (.func fid) #[] cb] w (KpP F Z X I w) := by
  obtain ⟨R, hR⟩ : ∃ R, R = KpP F Z X I w := ⟨_, rfl⟩
  rw [← hR]
  have HR := hid hR
  obtain ⟨p, cap, hv, hh⟩ := OwnE.form h
  obtain ⟨n, hn2⟩ : ∃ n, n = Z.length := ⟨_, rfl⟩
  have HN := hid hn2
  rw [← hn2] at hv hn
  rcases hh with ⟨_, h0⟩ | ⟨g, rfl, hBg, hgl⟩
  · exact absurd h0 hne
  subst hv
  have h0n : 0 < n := by rw [hn2]; exact List.length_pos_iff.2 hne
  have hxg : ¬ X g := hx g rfl
  have H := hid h
  have HF := hid hf
  have H1 := hid h1st
  have HS0 := hid hst0
  have HD := hid hd
  have HY := hid hY
  have HI := hid hI
  have eg := hf.eg
  clear hR h hf hd hY hI hn2 hx h1st hst0
  go_enter Tryz.func71, Tryz.ntmps71
  go_upto_region 1 with fail
  obtain ⟨w1, hw1⟩ : ∃ w1, w1 = w.alloc (.cells #[.func (.func fid) #[] cb] 134) := ⟨_, rfl⟩
  rw [← hw1]
  have k1 : Kept X w w1 := by rw [hw1]; exact (Kept.refl _ _).alloc _
  have cb1 : Cells w1 w.heap.size #[.func (.func fid) #[] cb] 134 := by rw [hw1]; exact Cells.new w _ _
  have sz1 : w1.heap.size = w.heap.size + 1 := by rw [hw1]; simp
  have r1 : RowZ B w1 (.slice (some ⟨g, 0, none⟩) n cap) Z := by rw [hw1]; exact OwnE.alloc H.out _
  have i1 : I0 w1 := HS0.out _ _ HI.out (by rw [hw1]; exact (Kept.refl _ _).alloc _)
  obtain ⟨hnq, _, _, hcell⟩ := OwnE.cellsAt encZn_len r1
  obtain ⟨z, hz⟩ : ∃ z, z = Z.getD 0 ⟨0, 0, 0, 0⟩ := ⟨_, rfl⟩
  have hz0 : z = Z[0]'(by omega) := by rw [hz]; simp [show 0 < Z.length by omega]
  have c0 := hcell 0 (by omega) 0 (by omega)
  have c1 := hcell 0 (by omega) 1 (by omega)
  have c2 := hcell 0 (by omega) 2 (by omega)
  have c3 := hcell 0 (by omega) 3 (by omega)
  simp [encZn] at c0 c1 c2 c3
  rw [← hz0] at c0 c1 c2 c3
  have CL := hid (H1.out w1.drew z (HS0.out _ _ i1 (Kept.refl _ _).drew) (by rw [hz0]; exact HD.out _ (List.getElem_mem _)))
  have CL2 := hid (H1.out (w1.alloc (.cells #[.int .i64 0] 2)).drew z (HS0.out _ _ i1 ((Kept.refl _ _).alloc _).drew) (by rw [hz0]; exact HD.out _ (List.getElem_mem _)))
  have CBX := hid cb1
  have kf : w1.cell? ⟨w.heap.size, 0, none⟩ = some (.func (.func fid) #[] cb) := by rw [cb1.cell]; rfl
  have lf := cb1.lt
  have lg : g < w1.heap.size := by omega
  have hgL : g ≠ w.heap.size + 1 := by omega
  have hbL : w.heap.size ≠ w.heap.size + 1 := by omega
  have hxb : ¬ X w.heap.size := fun hx => HF.out.apart _ hx (HY.out _ (Nat.le_refl _))
  have K1 := hid k1
  have I1 := hid i1
  have R1 := hid r1
  have p00 : (0 : Int) < (n : Int) := by omega
  have CC := hid (show ∀ w', Kept X w1.drew w' → w'.cell? ⟨g, 0, none⟩ = some (.int .i64 z.f) ∧ w'.cell? ⟨g, 1, none⟩ = some (.int .i64 z.t) ∧ w'.cell? ⟨g, 2, none⟩ = some (.int .i64 z.d) ∧ w'.cell? ⟨g, 3, none⟩ = some (.int .i64 z.s) ∧ w'.cell? ⟨w.heap.size, 0, none⟩ = some (.func (.func fid) #[] cb) from fun w' hk =>
    ⟨(kept_cell hk lg hxg 0).trans c0, (kept_cell hk lg hxg 1).trans c1, (kept_cell hk lg hxg 2).trans c2, (kept_cell hk lg hxg 3).trans c3, (kept_cell hk lf hxb 0).trans kf⟩)
  have CC2 := hid (show ∀ w', Kept X (w1.alloc (.cells #[.int .i64 0] 2)).drew w' → w'.cell? ⟨g, 0, none⟩ = some (.int .i64 z.f) ∧ w'.cell? ⟨g, 1, none⟩ = some (.int .i64 z.t) ∧ w'.cell? ⟨g, 2, none⟩ = some (.int .i64 z.d) ∧ w'.cell? ⟨g, 3, none⟩ = some (.int .i64 z.s) ∧ w'.cell? ⟨w.heap.size, 0, none⟩ = some (.func (.func fid) #[] cb) from fun w' hk =>
    by
      have h := (((Kept.refl X w1).alloc (.cells #[.int .i64 0] 2)).drew).trans hk (fun _ _ e => e)
      exact CC.out w' ⟨h.os, h.tape, h.output, h.size, h.block⟩)
  have CB2 := hid (show ∀ w', Kept X (w1.alloc (.cells #[.int .i64 0] 2)).drew w' → Cells w' (w.heap.size + 1) #[.int .i64 0] 2 from fun w' hk => by
      have h1 := Cells.new w1 #[.int .i64 0] 2
      rw [sz1] at h1
      exact (h1.drew).kept hk (fun hx => HF.out.apart _ hx (HY.out _ (by omega))))
  clear hw1 k1 cb1 r1 i1 hnq hcell hz0
  have HZ0 := hid hz
  clear hz
  go_cut [5] (fun s5 wx => ∃ L, s5 = .pointer (some ⟨L, 0, none⟩) ∧ Cells wx L #[.int .i64 (F z)] 2 ∧ w.heap.size < L ∧ Cells wx w.heap.size #[.func (.func fid) #[] cb] 134 ∧ I wx ∧ Kept X w wx)
  case first =>
    go_region_held3 (fun wh => wh.cell? ⟨g, 0, none⟩ = some (.int .i64 z.f) ∧ wh.cell? ⟨g, 1, none⟩ = some (.int .i64 z.t) ∧ wh.cell? ⟨g, 2, none⟩ = some (.int .i64 z.d) ∧ wh.cell? ⟨g, 3, none⟩ = some (.int .i64 z.s) ∧ wh.cell? ⟨w.heap.size, 0, none⟩ = some (.func (.func fid) #[] cb))
      (first | exact ⟨c0, c1, c2, c3, kf⟩ | exact ⟨Lib.cell?_alloc_some _ c0, Lib.cell?_alloc_some _ c1, Lib.cell?_alloc_some _ c2, Lib.cell?_alloc_some _ c3, Lib.cell?_alloc_some _ kf⟩ | exact ⟨cell_set_other hgL c0, cell_set_other hgL c1, cell_set_other hgL c2, cell_set_other hgL c3, cell_set_other hbL kf⟩)
      (first | ((with_reducible refine CL.out.mono ?_); rintro e w5 ⟨rfl, hi5, hk5⟩; obtain ⟨c0, c1, c2, c3, kf⟩ := CC.out _ hk5) | ((with_reducible refine CL2.out.mono ?_); rintro e w5 ⟨rfl, hi5, hk5⟩; obtain ⟨c0, c1, c2, c3, kf⟩ := CC2.out _ hk5; have cL := CB2.out _ hk5; have lL := cL.lt; have fL := cL.frozen 0; have mL : w5.cell? ⟨w.heap.size + 1, 0, none⟩ = some (.int .i64 0) := (cL.cell 0).trans rfl; have CLL := hid cL; clear cL))
    · have fin := hid (show Kept X w (w5.alloc (.cells #[.int .i64 (F z)] 2)) from ((K1.out.drew).trans hk5 (fun _ _ e => e)).alloc _)
      have sz5 : w.heap.size < w5.heap.size := by have := hk5.size; have h : w1.drew.heap.size = w1.heap.size := rfl; omega
      have cx := hid ((CBX.out.drew.kept hk5 hxb).alloc (.cells #[.int .i64 (F z)] 2))
      have ix := hid (HF.out.stay _ _ hi5 ((Kept.refl Y w5).alloc (.cells #[.int .i64 (F z)] 2)))
      clear hi5 hk5
      go_wp2
      go_meet
      exact ⟨_, rfl, Cells.new w5 _ _, sz5, cx.out, ix.out, fin.out⟩
    · have ks : Kept (fun k => k = w.heap.size + 1) w5 (w5.setCell ⟨w.heap.size + 1, 0, none⟩ (.int .i64 (F z))) := (Kept.refl (fun k => k = w.heap.size + 1) w5).set (C := w.heap.size + 1) rfl _ _
      have kk := K1.out.trans (((Kept.refl X w1).alloc (.cells #[.int .i64 0] 2)).drew.trans hk5 (fun _ _ e => e)) (fun _ _ e => e)
      have fin := hid (show Kept X w (w5.setCell ⟨w.heap.size + 1, 0, none⟩ (.int .i64 (F z))) from kk.trans ks (fun k hk e => by omega))
      have cx := hid ((((CBX.out.alloc (.cells #[.int .i64 0] 2)).drew).kept hk5 hxb).kept ks (by omega))
      have ix := hid (HF.out.stay _ _ hi5 (ks.mono (fun k hk => by rw [hk]; exact HY.out _ (by omega))))
      have cl := hid (CLL.out.set 0 (.int .i64 (F z)))
      clear hi5 hk5 ks kk
      go_wp2
      go_meet
      exact ⟨_, rfl, cl.out, by omega, cx.out, ix.out, fin.out⟩
  case rest =>
    obtain ⟨L, rfl, hcl, hwL, hcb, hi, hk⟩ := hcut
    have KC := hid hk
    have S0 := hid (show KpS g w.heap.size L (.func (.func fid) #[] cb) Z F X I w 0 wc from ⟨by unfold minTo; simp only [List.take_zero, List.foldl_nil]; rw [← HZ0.out]; exact hcl, hcb, hi, hk⟩)
    clear hcl hcb hi hk CC CC2 CB2 CBX K1 I1 R1 CL CL2 c0 c1 c2 c3 kf
    go_upto_region 3 with fail
    go_loopg [15] n (fun k s15 wr => ∃ i : Nat, i + k = n ∧ s15 = .int .i64 i ∧ KpS g w.heap.size L (.func (.func fid) #[] cb) Z F X I w i wr)
    case atStart => exact ⟨0, by omega, rfl, S0.out⟩
    case round =>
      obtain ⟨i, hik, rfl, ss⟩ := hrel
      have HIK := hid hik
      have SS := hid ss
      clear hik ss S0
      by_cases hin : i < n
      · have hil : i < Z.length := by rw [← HN.out]; exact hin
        have rg : RowZ B wr (.slice (some ⟨g, 0, none⟩) n cap) Z := OwnE.kept H.out SS.out.kept (fun b hb hx => hxg (by injection hb with hb; have h : g = b := hb; subst h; exact hx))
        obtain ⟨hnq, lgr, _, hcell⟩ := OwnE.cellsAt encZn_len rg
        clear hnq
        obtain ⟨y, hy⟩ : ∃ y, y = Z[i] := ⟨_, rfl⟩
        have c0 := hcell i hil 0 (by omega)
        have c1 := hcell i hil 1 (by omega)
        have c2 := hcell i hil 2 (by omega)
        have c3 := hcell i hil 3 (by omega)
        simp [encZn] at c0 c1 c2 c3
        rw [← hy] at c0 c1 c2 c3
        have gi : (i : Int) < (n : Int) := by omega
        have gi0 : (0 : Int) ≤ (i : Int) := by omega
        obtain ⟨a, ha⟩ : ∃ a, a = minTo F (Z.take i) (F (Z.getD 0 ⟨0, 0, 0, 0⟩)) := ⟨_, rfl⟩
        have MN := hid (show minTo F (Z.take (i + 1)) (F (Z.getD 0 ⟨0, 0, 0, 0⟩)) = min a (F y) by rw [take_snoc hil, minTo_snoc, ← ha, ← hy])
        have cl := SS.out.least
        rw [← ha] at cl
        have hLr := cl.lt
        have hAr := SS.out.box.lt
        obtain ⟨wb, hwb⟩ : ∃ wb, wb = wr.alloc (.cells #[.int .i64 y.f, .int .i64 y.t, .int .i64 y.d, .int .i64 y.s] 132) := ⟨_, rfl⟩
        have kb : Kept X wr wb := by rw [hwb]; exact (Kept.refl _ _).alloc _
        have szb : wb.heap.size = wr.heap.size + 1 := by rw [hwb]; simp
        have ib : I wb := by rw [hwb]; exact HF.out.stay _ _ SS.out.inv ((Kept.refl _ _).alloc _)
        have cbz : Cells wb wr.heap.size #[.int .i64 y.f, .int .i64 y.t, .int .i64 y.d, .int .i64 y.s] 132 := by rw [hwb]; exact Cells.new wr _ _
        have clb : Cells wb L #[.int .i64 a] 2 := by rw [hwb]; exact cl.alloc _
        have cfb : Cells wb w.heap.size #[.func (.func fid) #[] cb] 134 := by rw [hwb]; exact SS.out.box.alloc _
        have hxL : ¬ X L := fun hx => HF.out.apart _ hx (HY.out _ (by omega))
        have hxB : ¬ X w.heap.size := fun hx => HF.out.apart _ hx (HY.out _ (by omega))
        have hsz := SS.out.kept.size
        have hxZ : ¬ X wr.heap.size := fun hx => HF.out.apart _ hx (HY.out _ hsz)
        have k0 : wb.cell? ⟨wr.heap.size, 0, none⟩ = some (.int .i64 y.f) := by rw [cbz.cell]; rfl
        have k1 : wb.cell? ⟨wr.heap.size, 1, none⟩ = some (.int .i64 y.t) := by rw [cbz.cell]; rfl
        have k2 : wb.cell? ⟨wr.heap.size, 2, none⟩ = some (.int .i64 y.d) := by rw [cbz.cell]; rfl
        have k3 : wb.cell? ⟨wr.heap.size, 3, none⟩ = some (.int .i64 y.s) := by rw [cbz.cell]; rfl
        have kL : wb.cell? ⟨L, 0, none⟩ = some (.int .i64 a) := by rw [clb.cell]; rfl
        have kF : wb.cell? ⟨w.heap.size, 0, none⟩ = some (.func (.func fid) #[] cb) := by rw [cfb.cell]; rfl
        have lZ := cbz.lt
        have lL := clb.lt
        have lF := cfb.lt
        have CL := hid (HF.out.call wb.drew y (HF.out.stay _ _ ib (Kept.refl _ _).drew) (by rw [hy]; exact HD.out _ (List.getElem_mem _)))
        have CC := hid (show ∀ w', Kept X wb.drew w' → (w'.cell? ⟨wr.heap.size, 0, none⟩ = some (.int .i64 y.f) ∧ w'.cell? ⟨wr.heap.size, 1, none⟩ = some (.int .i64 y.t) ∧ w'.cell? ⟨wr.heap.size, 2, none⟩ = some (.int .i64 y.d) ∧ w'.cell? ⟨wr.heap.size, 3, none⟩ = some (.int .i64 y.s) ∧ w'.cell? ⟨L, 0, none⟩ = some (.int .i64 a) ∧ w'.cell? ⟨w.heap.size, 0, none⟩ = some (.func (.func fid) #[] cb)) ∧ w'.frozen? ⟨L, 0, none⟩ = false ∧ L < w'.heap.size from fun w' hk =>
          ⟨⟨(kept_cell hk lZ hxZ 0).trans k0, (kept_cell hk lZ hxZ 1).trans k1, (kept_cell hk lZ hxZ 2).trans k2, (kept_cell hk lZ hxZ 3).trans k3, (kept_cell hk lL hxL 0).trans kL, (kept_cell hk lF hxB 0).trans kF⟩, (clb.drew.kept hk hxL).frozen 0, (clb.drew.kept hk hxL).lt⟩)
        have NX := hid (show ∀ w5, I w5 → Kept X wb.drew w5 → KpS g w.heap.size L (.func (.func fid) #[] cb) Z F X I w (i + 1) (w5.setCell ⟨L, 0, none⟩ (.int .i64 (min a (F y)))) from fun w5 hi5 hk5 => by
          have ks : Kept (fun k => k = L) w5 (w5.setCell ⟨L, 0, none⟩ (.int .i64 (min a (F y)))) := (Kept.refl (fun k => k = L) w5).set (C := L) rfl _ _
          refine ⟨?_, ((cfb.drew.kept hk5 hxB).kept ks (by omega)), HF.out.stay _ _ hi5 (ks.mono (fun k hk => by rw [hk]; exact HY.out _ (by omega))), ((SS.out.kept.trans (kb.drew.trans hk5 (fun _ _ e => e)) (fun _ _ e => e))).trans ks (fun k hk e => by omega)⟩
          rw [MN.out]
          exact (clb.drew.kept hk5 hxL).set 0 _)
        have HWB := hid hwb
        have hZL : wr.heap.size ≠ L := by omega
        have hFL : w.heap.size ≠ L := by omega
        clear hy ha hwb kb ib cbz clb cfb cl rg hcell
        go_upto_region 5 with fail
        rw [← HWB.out]
        go_region_with (first | ((with_reducible refine CL.out.mono ?_); rintro e w5 ⟨rfl, hi5, hk5⟩; obtain ⟨⟨k0, k1, k2, k3, kL, kF⟩, fL, lL⟩ := CC.out _ hk5))
        all_goals (
          have NS := hid (NX.out _ hi5 hk5)
          clear hi5 hk5
          go_wp2
          go_roundg (n - (i + 1))
          · exact ⟨i + 1, by omega, by go_num, NS.out⟩
          · have := HIK.out; omega)
      · have hin' : i = n := by have := HIK.out; omega
        subst hin'
        have g1 : decide ((i : Int) < (i : Int)) = false := by simp
        have hl2 : Z.take i = Z := by rw [HN.out]; exact List.take_length
        have r7 : RowZ B wr (.slice (some ⟨g, 0, none⟩) i cap) Z := OwnE.kept H.out SS.out.kept (fun b hb hx => hxg (by injection hb with hb; have h : g = b := hb; subst h; exact hx))
        have cl7 := SS.out.least
        rw [hl2] at cl7
        have hsz := SS.out.kept.size
        have CLN := hid (clone_calls r7 (by rw [← HN.out]; exact hn))
        have CL7 := hid cl7
        have lL7 := cl7.lt
        have lA7 := SS.out.box.lt
        clear r7 cl7 hl2 g1
        go_wp2_with fail
        refine CLN.out.mono ?_
        rintro e w3 ⟨v3, rfl, r3, hne3, hb3⟩
        obtain ⟨p3, cap3, rfl, hh3⟩ := r3.form
        rcases hh3 with ⟨rfl, h0⟩ | ⟨g3, rfl, hg3, hgl3⟩
        · exact absurd h0 hne
        have s3 := hb3.size
        have YS := hid (show ∀ k, (k = g3 ∨ w3.heap.size ≤ k) → Y k from fun k hk => HY.out k (by omega))
        have PF : FnC Value.bool 98 #[.pointer (some ⟨w.heap.size, 0, none⟩), .pointer (some ⟨L, 0, none⟩)] (fun z => decide (F z ≠ leastF F Z)) X (fun k => k = g3 ∨ w3.heap.size ≤ k) (fun w' => w3.heap.size ≤ w'.heap.size ∧ I w' ∧ Cells w' w.heap.size #[.func (.func fid) #[] cb] 134 ∧ Cells w' L #[.int .i64 (leastF F Z)] 2) dom := {
          eg := enters_of Tryz.func98 (by kernel_rfl) rfl
          call := fun w' z ⟨h1, h2, h3, h4⟩ hz => (keptc_calls HF.out h3 h4 h2 (HY.out _ (Nat.le_refl _)) (HY.out _ (by omega)) (HY.out _ (by omega)) z hz).mono (by
            rintro e w9 ⟨rfl, ⟨q1, q2, q3⟩, q4⟩
            exact ⟨rfl, ⟨Nat.le_trans h1 q4.size, q1, q2, q3⟩, q4⟩)
          stay := fun w' w9 ⟨h1, h2, h3, h4⟩ hk => ⟨Nat.le_trans h1 hk.size, HF.out.stay _ _ h2 (hk.mono YS.out), h3.kept hk (by omega), h4.kept hk (by omega)⟩
          apart := fun k hx hy => HF.out.apart k hx (YS.out k hy) }
        have DC := hid (del_calls (r3.mono hsz) (by rw [← HN.out]; exact hn) PF ⟨Nat.le_refl _, HF.out.stay _ _ SS.out.inv (Kept.of_below hb3), SS.out.box.below hb3 lA7, CL7.out.below hb3 lL7⟩ HD.out (.inl rfl) (fun k hk => .inr hk))
        have K3 := hid (SS.out.kept.trans (Kept.of_below (X := X) hb3) (fun _ _ e => e))
        clear PF r3 hne3 hb3 CLN
        go_wp2_with fail
        refine DC.out.mono ?_
        rintro e w5 ⟨v5, rfl, r5, ho5, ⟨_, i5, _, _⟩, hk5⟩
        have FIN := hid (show R (.returned v5) w5 by
          rw [HR.out]
          refine ⟨v5, rfl, ?_, i5, K3.out.trans hk5 (fun k hk hx => hx.resolve_right (by omega))⟩
          have e1 : Z.filter (fun z => !decide (F z ≠ leastF F Z)) = keptF F Z := by
            unfold keptF
            refine List.filter_congr fun z _ => ?_
            by_cases h : F z = leastF F Z <;> simp [h]
          rw [e1] at r5
          exact r5)
        clear r5 ho5 i5 hk5 DC
        go_wp2
        first | exact FIN.out | (go_ret; exact FIN.out)
end Go.Proofs.YtepldjidkomclaaGreat.Ca
namespace Go.Proofs.YtepldjidkomclaaGreat.Ca
set_option linter.unusedSimpArgs false
set_option linter.unusedVariables false
open Go.RowKit Go.Shelf
attribute [local go_sem] Oper.semAt_some
attribute [local go_sem ↓] Go.wp_at_zero Go.wp_at_succ
theorem Zn.ok.vol {z : Zn} (h : z.ok) : 0 ≤ z.vol ∧ z.vol ≤ 5000000000000 := by
  obtain ⟨h1, h2, h3, h4, h5, h6, h7⟩ := h
  unfold Zn.vol; omega
theorem Zn.ok.sur {z : Zn} (h : z.ok) : -5000000000000 ≤ z.sur ∧ z.sur ≤ 5000000000000 := by
  obtain ⟨h1, h2, h3, h4, h5, h6, h7⟩ := h
  unfold Zn.sur; omega
def F1 (z : Zn) : Int := -z.vol
def F2 (z : Zn) : Int := siz z.sur
def F3 (way ref : Int) (z : Zn) : Int := if way = 0 then siz (z.pk 0 ref - ref) else -way * z.t
theorem price1_calls (z : Zn) (hz : z.ok) (w : World) : Calls Tryz.prog 63 #[.agg #[.int .i64 z.f, .int .i64 z.t, .int .i64 z.d, .int .i64 z.s]] w fun e w' => e = .returned (.int .i64 (F1 z)) ∧ Below w.heap.size w w' := by
  have VC := hid (fun wx => volume_calls z wx)
  unfold Zn.val at VC
  unfold F1
  have hv := hz.vol
  obtain ⟨x, hx⟩ : ∃ x, x = z.vol := ⟨_, rfl⟩
  rw [← hx] at VC hv ⊢
  have e1 : IntKind.i64.wrap (-x) = -x := IntWalk.i64_in _ (by omega)
  have B0 := hid (show Below w.heap.size w (w.alloc (.cells #[.int .i64 z.f, .int .i64 z.t, .int .i64 z.d, .int .i64 z.s] 132)) from (Below.refl _ _).alloc (Nat.le_refl _) _)
  clear hx hz
  go_enter Tryz.func63, Tryz.ntmps63
  go_wp2_with fail
  refine (VC.out _).mono ?_
  rintro e w2 ⟨rfl, hb2⟩
  have B2 := hid (B0.out.trans (hb2.mono B0.out.size))
  clear hb2
  go_wp2
  go_ret
  exact ⟨rfl, B2.out⟩
theorem price2_calls (z : Zn) (hz : z.ok) (w : World) : Calls Tryz.prog 65 #[.agg #[.int .i64 z.f, .int .i64 z.t, .int .i64 z.d, .int .i64 z.s]] w fun e w' => e = .returned (.int .i64 (F2 z)) ∧ Below w.heap.size w w' := by
  have VC := hid (fun wx => surplus_calls z hz wx)
  unfold Zn.val at VC
  unfold F2
  have hv := hz.sur
  obtain ⟨x, hx⟩ : ∃ x, x = z.sur := ⟨_, rfl⟩
  rw [← hx] at VC hv ⊢
  have SC := hid (fun wx => sized_calls x (by omega) wx)
  have B0 := hid (show Below w.heap.size w (w.alloc (.cells #[.int .i64 z.f, .int .i64 z.t, .int .i64 z.d, .int .i64 z.s] 132)) from (Below.refl _ _).alloc (Nat.le_refl _) _)
  clear hx hz hv
  go_enter Tryz.func65, Tryz.ntmps65
  go_wp2_with fail
  refine (VC.out _).mono ?_
  rintro e w2 ⟨rfl, hb2⟩
  have B2 := hid (B0.out.trans (hb2.mono B0.out.size))
  clear hb2
  go_wp2_with fail
  refine (SC.out _).mono ?_
  rintro e w3 ⟨rfl, rfl⟩
  go_wp2
  go_ret
  exact ⟨rfl, B2.out⟩
theorem fnc_price1 (I : World → Prop) (Y : Nat → Prop) (hst : ∀ w w', I w → Kept Y w w' → I w') : FnC (Value.int .i64) 63 #[] F1 (fun _ => False) Y I Zn.ok := {
  eg := enters_of Tryz.func63 (by kernel_rfl) rfl
  call := fun w z hi hz => (price1_calls z hz w).mono (by rintro e w' ⟨rfl, hb⟩; exact ⟨rfl, hst _ _ hi (Kept.of_below hb), Kept.of_below hb⟩)
  stay := hst
  apart := fun _ h _ => h }
theorem fnc_price2 (I : World → Prop) (Y : Nat → Prop) (hst : ∀ w w', I w → Kept Y w w' → I w') : FnC (Value.int .i64) 65 #[] F2 (fun _ => False) Y I Zn.ok := {
  eg := enters_of Tryz.func65 (by kernel_rfl) rfl
  call := fun w z hi hz => (price2_calls z hz w).mono (by rintro e w' ⟨rfl, hb⟩; exact ⟨rfl, hst _ _ hi (Kept.of_below hb), Kept.of_below hb⟩)
  stay := hst
  apart := fun _ h _ => h }
end Go.Proofs.YtepldjidkomclaaGreat.Ca
namespace Go.Proofs.YtepldjidkomclaaGreat.Ca
set_option linter.unusedSimpArgs false
set_option linter.unusedVariables false
open Go.RowKit Go.Shelf
attribute [local go_sem] Oper.semAt_some
attribute [local go_sem ↓] Go.wp_at_zero Go.wp_at_succ
structure P3 (LB WB RB : Nat) (v : Value) (Z : List Zn) (ref : Int) (w : World) : Prop where
  left : Cells w LB #[v] 129
  row : RowZ 0 w v Z
  refc : Cells w RB #[.int .i64 ref] 2
  way : ∃ x, Cells w WB #[.int .i64 x] 3
structure P3J (LB WB RB : Nat) (v : Value) (Z : List Zn) (ref : Int) (w : World) : Prop where
  p3 : P3 LB WB RB v Z ref w
  way : Cells w WB #[.int .i64 (leanF Z)] 3
theorem leanF_val (Z : List Zn) : leanF Z = 1 ∨ leanF Z = -1 ∨ leanF Z = 0 := by
  unfold leanF
  split
  · exact .inl rfl
  · split
    · exact .inr (.inl rfl)
    · exact .inr (.inr rfl)
theorem P3.kept {X : Nat → Prop} {LB WB RB : Nat} {v : Value} {Z : List Zn} {ref : Int} {w w' : World} (h : P3 LB WB RB v Z ref w) (hk : Kept X w w') (h1 : ¬ X LB) (h2 : ¬ X RB) (h3 : ¬ X WB) (h4 : ∀ g, v.ownBlock = some g → ¬ X g) : P3 LB WB RB v Z ref w' := by
  obtain ⟨x, hx⟩ := h.way
  exact ⟨h.left.kept hk h1, OwnE.kept h.row hk h4, h.refc.kept hk h2, x, hx.kept hk h3⟩
theorem P3.below {LB WB RB : Nat} {v : Value} {Z : List Zn} {ref : Int} {w w' : World} (h : P3 LB WB RB v Z ref w) (hb : Below w.heap.size w w') : P3 LB WB RB v Z ref w' := h.kept (X := fun _ => False) (Kept.of_below hb) (fun h => h) (fun h => h) (fun h => h) (fun _ _ h => h)
theorem pk_bound {z : Zn} (hz : z.ok) {ref : Int} (way : Int) : 1 ≤ z.pk way ref ∧ z.pk way ref ≤ 1000000 := by
  obtain ⟨h1, h2, h3, _⟩ := hz
  unfold Zn.pk
  split
  · omega
  · split <;> omega
set_option maxRecDepth 100000 in
set_option maxHeartbeats 4000000 in
theorem p3_calls {w : World} {LB WB RB : Nat} {v : Value} {Z : List Zn} {ref : Int} (h : P3 LB WB RB v Z ref w) (hr : 1 ≤ ref ∧ ref ≤ 1000000) (hn : Z.length ≤ 5000) (hok : ∀ y ∈ Z, y.ok) (z : Zn) (hz : z.ok) :
    Calls Tryz.prog 68 #[.agg #[.int .i64 z.f, .int .i64 z.t, .int .i64 z.d, .int .i64 z.s], .pointer (some ⟨LB, 0, none⟩), .pointer (some ⟨WB, 0, none⟩), .pointer (some ⟨RB, 0, none⟩)] w fun e w' => e = .returned (.int .i64 (F3 (leanF Z) ref z)) ∧ P3J LB WB RB v Z ref w' ∧ Kept (fun k => k = WB) w w' := by
  obtain ⟨R, hR⟩ : ∃ R : Ending → World → Prop, R = fun e w' => e = .returned (.int .i64 (F3 (leanF Z) ref z)) ∧ P3J LB WB RB v Z ref w' ∧ Kept (fun k => k = WB) w w' := ⟨_, rfl⟩
  rw [← hR]
  have HR := hid hR
  obtain ⟨x0, hw0⟩ := h.way
  have hWL : WB ≠ LB := hw0.ne h.left (by decide)
  have hWR : WB ≠ RB := hw0.ne h.refc (by decide)
  have hWv : ∀ g, v.ownBlock = some g → ¬ g = WB := fun g hg e => by
    obtain ⟨cs, hcs⟩ := own_lt h.row hg
    exact hcs.ne hw0 (by decide) e
  obtain ⟨wb, hwb⟩ : ∃ wb, wb = w.alloc (.cells #[.int .i64 z.f, .int .i64 z.t, .int .i64 z.d, .int .i64 z.s] 132) := ⟨_, rfl⟩
  have b1 : Below w.heap.size w wb := by rw [hwb]; exact (Below.refl _ _).alloc (Nat.le_refl _) _
  have cz : Cells wb w.heap.size #[.int .i64 z.f, .int .i64 z.t, .int .i64 z.d, .int .i64 z.s] 132 := by rw [hwb]; exact Cells.new w _ _
  have pb := h.below b1
  have kl : wb.cell? ⟨LB, 0, none⟩ = some v := by rw [pb.left.cell]; rfl
  have ll := pb.left.lt
  have LN := hid (lean_calls (OwnE.reads encZn_len pb.row (by omega)) hn hok)
  have PB := hid pb
  have CZ := hid cz
  have lz := cz.lt
  have HW0 := hid (hw0.below b1 hw0.lt)
  have B1 := hid b1
  have HWB := hid hwb
  have HV := hid hWv
  have HOKZ := hid hz
  have HOK := hid hok
  have lW : WB < wb.heap.size := HW0.out.lt
  clear hR h hw0 hWv b1 cz pb hwb hok
  go_enter Tryz.func68, Tryz.ntmps68
  go_upto_region 1 with fail
  rw [← HWB.out]
  go_wp2_with fail
  refine LN.out.mono ?_
  rintro e w2 ⟨rfl, hb2⟩
  have P2 := hid (PB.out.below hb2)
  have C2 := hid (CZ.out.below hb2 lz)
  have W2 := hid (HW0.out.below hb2 lW)
  have B2 := hid hb2
  have lW2 := W2.out.lt
  have fW2 := W2.out.frozen 0
  have kW2 : w2.cell? ⟨WB, 0, none⟩ = some (.int .i64 x0) := by rw [W2.out.cell]; rfl
  clear hb2
  obtain ⟨y, hy⟩ : ∃ y, y = leanF Z := ⟨_, rfl⟩
  have HY := hid hy
  have hyv := leanF_val Z
  rw [← hy] at hyv ⊢
  obtain ⟨w3, hw3⟩ : ∃ w3, w3 = w2.setCell ⟨WB, 0, none⟩ (.int .i64 y) := ⟨_, rfl⟩
  have ks : Kept (fun k => k = WB) w2 w3 := by rw [hw3]; exact (Kept.refl (fun k => k = WB) w2).set (C := WB) rfl _ _
  have W3 : Cells w3 WB #[.int .i64 y] 3 := by rw [hw3]; exact W2.out.set 0 _
  have P3' : P3J LB WB RB v Z ref w3 := ⟨⟨P2.out.left.kept ks (Ne.symm hWL), OwnE.kept P2.out.row ks HV.out, P2.out.refc.kept ks (Ne.symm hWR), _, W3⟩, by rw [← hy]; exact W3⟩
  have hzW : w.heap.size ≠ WB := by
    intro e
    have h1 := C2.out
    rw [e] at h1
    exact absurd (cells_type h1 W2.out) (by decide)
  have C3 : Cells w3 w.heap.size #[.int .i64 z.f, .int .i64 z.t, .int .i64 z.d, .int .i64 z.s] 132 := C2.out.kept ks hzW
  have KK := hid (show Kept (fun k => k = WB) w w3 from ((Kept.of_below B1.out).trans (Kept.of_below (X := fun k => k = WB) B2.out) (fun _ _ e => e)).trans ks (fun _ _ e => e))
  have m0 : w3.cell? ⟨w.heap.size, 0, none⟩ = some (.int .i64 z.f) := by rw [C3.cell]; rfl
  have m1 : w3.cell? ⟨w.heap.size, 1, none⟩ = some (.int .i64 z.t) := by rw [C3.cell]; rfl
  have m2 : w3.cell? ⟨w.heap.size, 2, none⟩ = some (.int .i64 z.d) := by rw [C3.cell]; rfl
  have m3 : w3.cell? ⟨w.heap.size, 3, none⟩ = some (.int .i64 z.s) := by rw [C3.cell]; rfl
  have mW : w3.cell? ⟨WB, 0, none⟩ = some (.int .i64 y) := by rw [W3.cell]; rfl
  have mR : w3.cell? ⟨RB, 0, none⟩ = some (.int .i64 ref) := by rw [P3'.p3.refc.cell]; rfl
  have l1 := C3.lt
  have l2 := W3.lt
  have l3 := P3'.p3.refc.lt
  have HW3 := hid hw3
  have PJ := hid P3'
  clear hy hw3 ks W3 P3' C3
  go_upto_region 2 with fail
  rw [← HW3.out]
  by_cases hy0 : y = 0
  · subst hy0
    have hpk := pk_bound hz (ref := ref) 0
    obtain ⟨p, hp⟩ : ∃ p, p = z.pk 0 ref := ⟨_, rfl⟩
    have ew : IntKind.i64.wrap (p - ref) = p - ref := IntWalk.i64_in _ (by omega)
    have PK := hid (show ∀ wx, Calls Tryz.prog 70 #[.agg #[.int .i64 z.f, .int .i64 z.t, .int .i64 z.d, .int .i64 z.s], .int .i64 0, .int .i64 ref] wx fun e w' => e = .returned (.int .i64 p) ∧ Below wx.heap.size wx w' from fun wx => by rw [hp]; exact pick_calls z 0 ref wx)
    have SZ := hid (fun wx => sized_calls (p - ref) (by omega) wx)
    have FIN := hid (show ∀ w5, Below w3.heap.size w3 w5 → R (.returned (.int .i64 (siz (p - ref)))) w5 from fun w5 hb => by
      rw [HR.out]
      refine ⟨by unfold F3; rw [← HY.out, if_pos rfl, hp], ⟨PJ.out.p3.below hb, PJ.out.way.below hb l2⟩, KK.out.trans (Kept.of_below (X := fun k => k = WB) hb) (fun _ _ e => e)⟩)
    have CC := hid (show ∀ w', Below w3.drew.heap.size w3.drew w' → w'.cell? ⟨w.heap.size, 0, none⟩ = some (.int .i64 z.f) ∧ w'.cell? ⟨w.heap.size, 1, none⟩ = some (.int .i64 z.t) ∧ w'.cell? ⟨w.heap.size, 2, none⟩ = some (.int .i64 z.d) ∧ w'.cell? ⟨w.heap.size, 3, none⟩ = some (.int .i64 z.s) ∧ w'.cell? ⟨WB, 0, none⟩ = some (.int .i64 0) ∧ w'.cell? ⟨RB, 0, none⟩ = some (.int .i64 ref) from fun w' hk =>
      ⟨(hk.cell (p := ⟨w.heap.size, 0, none⟩) l1).trans m0, (hk.cell (p := ⟨w.heap.size, 1, none⟩) l1).trans m1, (hk.cell (p := ⟨w.heap.size, 2, none⟩) l1).trans m2, (hk.cell (p := ⟨w.heap.size, 3, none⟩) l1).trans m3, (hk.cell (p := ⟨WB, 0, none⟩) l2).trans mW, (hk.cell (p := ⟨RB, 0, none⟩) l3).trans mR⟩)
    clear hp hpk hyv
    go_upto_region 3 with fail
    go_region_held3 (fun wh => wh.cell? ⟨w.heap.size, 0, none⟩ = some (.int .i64 z.f) ∧ wh.cell? ⟨w.heap.size, 1, none⟩ = some (.int .i64 z.t) ∧ wh.cell? ⟨w.heap.size, 2, none⟩ = some (.int .i64 z.d) ∧ wh.cell? ⟨w.heap.size, 3, none⟩ = some (.int .i64 z.s) ∧ wh.cell? ⟨WB, 0, none⟩ = some (.int .i64 0) ∧ wh.cell? ⟨RB, 0, none⟩ = some (.int .i64 ref))
      (exact ⟨m0, m1, m2, m3, mW, mR⟩)
      (first | (go_at_call 70; (with_reducible refine (PK.out _).mono ?_); rintro e w5 ⟨rfl, hb5⟩; obtain ⟨m0, m1, m2, m3, mW, mR⟩ := CC.out _ hb5) | (go_at_call 66; (with_reducible refine (SZ.out _).mono ?_); rintro e w6 ⟨rfl, rfl⟩))
    all_goals (
      have FN := hid (FIN.out _ ((Below.refl w3.heap.size w3).drew.trans (hb5.mono (Below.refl w3.heap.size w3).drew.size)))
      clear hb5
      go_wp2
      first | exact FN.out | (go_ret; exact FN.out))
  · have e1 : (y == 0) = false := by simpa using hy0
    have ht : 1 ≤ z.t ∧ z.t ≤ 1000000 := by obtain ⟨a1, a2, a3, _⟩ := hz; omega
    have e2 : IntKind.i64.wrap (-y) = -y := IntWalk.i64_in _ (by omega)
    have e3 : IntKind.i64.wrap (-y * z.t) = -y * z.t := by
      refine IntWalk.i64_in _ ?_
      rcases hyv with h | h | h
      · subst h; omega
      · subst h; omega
      · exact absurd h hy0
    have FIN := hid (show R (.returned (.int .i64 (-y * z.t))) w3 by
      rw [HR.out]
      exact ⟨by unfold F3; rw [← HY.out, if_neg hy0], PJ.out, KK.out⟩)
    clear hyv hy0 ht
    go_wp2
    first | exact FIN.out | (go_ret; exact FIN.out)
end Go.Proofs.YtepldjidkomclaaGreat.Ca
