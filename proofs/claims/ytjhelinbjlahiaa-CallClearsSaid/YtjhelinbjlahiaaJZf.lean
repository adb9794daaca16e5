/- slices.IndexFunc at zones, with a predicate by contract. slices.DeleteFunc at zones, with a predicate by contract. -/
import Derived.Test.YtjhelinbjlahiaaJZn1
import Derived.Test.YtjhelinbjlahiaaJCl1
namespace Go.Proofs.Ytjhelinbjlahiaa
set_option linter.unusedSimpArgs false
set_option linter.unusedVariables false
open Go.RowKit
attribute [local go_sem] Oper.semAt_some
attribute [local go_sem ↓] Go.wp_at_zero Go.wp_at_succ
/-- The contract of a function value over zones: it may change blocks of X and allocate; it stands on I, which changes of blocks of Y leave alone. -/
structure FnC {ρ : Type} (en : ρ → Value) (fid : Nat) (cb : Array Value) (F : Zn → ρ) (X Y : Nat → Prop) (I : World → Prop) (dom : Zn → Prop) : Prop where
  eg : ∀ args w, (callFunc fid args).run Try.prog w = .ok (.enter fid args) w
  call : ∀ w z, I w → dom z → Calls Try.prog fid (#[.agg #[.int .i64 z.f, .int .i64 z.t, .int .i64 z.d, .int .i64 z.s]] ++ cb) w fun e w' => e = .returned (en (F z)) ∧ I w' ∧ Kept X w w'
  stay : ∀ w w', I w → Kept Y w w' → I w'
  apart : ∀ k, X k → ¬ Y k
def IdxP (n : Nat) (f : Nat → Zn) (P : Zn → Bool) (X : Nat → Prop) (I : World → Prop) (w : World) (e : Ending) (w' : World) : Prop :=
  I w' ∧ Kept X w w' ∧ ((∃ i : Nat, i < n ∧ P (f i) = true ∧ (∀ k, k < i → P (f k) = false) ∧ e = .returned (.int .i64 i)) ∨ ((∀ k, k < n → P (f k) = false) ∧ e = .returned (.int .i64 (-1))))
theorem wpList_clear_run {P : Program} {w : World} {ops : Array Oper} {rest : List Oper} {o : Oper} {a : Act} {Q : Exit → Act → World → Prop} (hgd : o.guard = none) (s : Operand) (t : TypeId)
    (ho : o.op = .call { callee := .builtin .clear, args := #[s], argTypes := #[t] }) (sv : Value) (w' : World) (hs : a.eval s = sv) (hrun : (Builtin.clear_ #[t] o.type #[sv]).run P w = .ok (.tuple #[]) w') (h : wpList P ops Q rest (a.put o.dst (.tuple #[])) w') :
    wpList P ops Q (o :: rest) a w := by
  refine wpList_plain hgd fun K hK => ?_
  unfold Oper.wp
  simp [execOp, ho, resolve, invoke, builtin, hs, hrun, Result.andThen]
  exact hK _ _ h

set_option maxRecDepth 100000 in
set_option maxHeartbeats 4000000 in
theorem idx_calls {w : World} {g cap n : Nat} {f : Nat → Zn} (h : RowS w g cap n f) (hn : n ≤ 5000) {fid : Nat} {cb : Array Value} {P : Zn → Bool} {X Y : Nat → Prop} {I : World → Prop} {dom : Zn → Prop} (hf : FnC Value.bool fid cb P X Y I dom) (hI : I w) (hd : ∀ k, k < n → dom (f k)) (hg : Y g) :
    Calls Try.prog 76 #[.slice (some ⟨g, 0, none⟩) n cap, .func (.func fid) #[] cb] w (IdxP n f P X I w) := by
  obtain ⟨R, hR⟩ : ∃ R, R = IdxP n f P X I w := ⟨_, rfl⟩
  rw [← hR]
  have HR := hid hR
  have H := hid h
  have HF := hid hf
  have HI := hid hI
  have HD := hid hd
  have eg := hf.eg
  have hxg : ¬ X g := fun hx => hf.apart g hx hg
  clear hR h hf hI hd
  go_enter Try.func76, Try.ntmps76
  go_upto_region 2 with fail
  go_loopg [8] n (fun k s8 wr => ∃ i : Nat, i + k = n ∧ s8 = .int .i64 i ∧ (∀ k, k < i → P (f k) = false) ∧ I wr ∧ Kept X w wr)
  case atStart => exact ⟨0, by omega, rfl, fun k hk => by omega, HI.out, Kept.refl _ _⟩
  case round =>
    obtain ⟨i, hik, rfl, hno, hi, hk⟩ := hrel
    have HIK := hid hik
    have HNO := hid hno
    have HI2 := hid hi
    have HK := hid hk
    clear hik hno hi hk
    by_cases hin : i < n
    · have rw2 := H.out.kept HK.out hxg
      obtain ⟨c0, c1, c2, c3⟩ := rw2.cell hin
      have hl := rw2.lt
      have gi : (i : Int) < (n : Int) := by omega
      have gi4 : (0 : Int) ≤ (i : Int) := by omega
      obtain ⟨z, hz⟩ : ∃ z, z = f i := ⟨_, rfl⟩
      rw [← hz] at c0 c1 c2 c3
      have CL := hid (HF.out.call wr z HI2.out (by rw [hz]; exact HD.out i hin))
      have HZ := hid hz
      obtain ⟨b, hb⟩ : ∃ b, b = P z := ⟨_, rfl⟩
      rw [← hb] at CL
      have HB := hid hb
      clear hz hb rw2
      go_wp2_with fail
      refine CL.out.mono ?_
      rintro e w2 ⟨rfl, hi2, hk2⟩
      have I3 := hid hi2
      have K3 := hid (HK.out.trans hk2 (fun _ _ e => e))
      clear hi2 hk2
      cases b with
      | true =>
        have FIN := hid (show R (.returned (.int .i64 i)) w2 by rw [HR.out]; exact ⟨I3.out, K3.out, .inl ⟨i, hin, by rw [← HZ.out]; exact HB.out.symm, HNO.out, rfl⟩⟩)
        go_wp2
        first | exact FIN.out | (go_ret; exact FIN.out)
      | false =>
        have NN := hid (show ∀ k, k < i + 1 → P (f k) = false from fun k hk => by
          rcases Nat.lt_or_ge k i with q | q
          · exact HNO.out k q
          · obtain rfl : k = i := by omega
            rw [← HZ.out]; exact HB.out.symm)
        go_wp2
        go_roundg (n - (i + 1))
        · exact ⟨i + 1, by omega, by go_num, NN.out, I3.out, K3.out⟩
        · have := HIK.out; omega
    · have hin' : i = n := by have := HIK.out; omega
      subst hin'
      have g1 : decide ((i : Int) < (i : Int)) = false := by simp
      have FIN := hid (show R (.returned (.int .i64 (-1))) wr by rw [HR.out]; exact ⟨HI2.out, HK.out, .inr ⟨HNO.out, rfl⟩⟩)
      go_wp2
      first | exact FIN.out | (go_ret; exact FIN.out)
end Go.Proofs.Ytjhelinbjlahiaa
namespace Go.Proofs.Ytjhelinbjlahiaa
set_option linter.unusedSimpArgs false
set_option linter.unusedVariables false
open Go.RowKit
attribute [local go_sem] Oper.semAt_some
attribute [local go_sem ↓] Go.wp_at_zero Go.wp_at_succ
def kp (P : Zn → Bool) (l : List Zn) (j : Nat) : List Zn := (l.take j).filter fun z => !P z
def DelP (B g : Nat) (l : List Zn) (P : Zn → Bool) (X : Nat → Prop) (I : World → Prop) (w : World) (e : Ending) (w' : World) : Prop :=
  ∃ v', e = .returned v' ∧ RowZ B w' v' (l.filter fun z => !P z) ∧ v'.ownBlock = some g ∧ I w' ∧ Kept (fun k => X k ∨ k = g) w w'
theorem kp_len (P : Zn → Bool) (l : List Zn) (j : Nat) : (kp P l j).length ≤ j := by
  unfold kp
  exact Nat.le_trans (List.length_filter_le _ _) (by rw [List.length_take]; omega)
theorem kp_none {P : Zn → Bool} {l : List Zn} {i : Nat} (h : ∀ k (hk : k < l.length), k < i → P l[k] = false) : kp P l i = l.take i := by
  unfold kp
  refine List.filter_eq_self.2 fun z hz => ?_
  obtain ⟨k, hk, rfl⟩ := List.getElem_of_mem hz
  rw [List.length_take] at hk
  rw [List.getElem_take, h k (by omega) (by omega)]; rfl
theorem kp_succ {P : Zn → Bool} {l : List Zn} {j : Nat} (h : j < l.length) : kp P l (j + 1) = kp P l j ++ if P l[j] then [] else [l[j]] := by
  unfold kp
  rw [take_snoc h, List.filter_append]
  congr 1
  cases hp : P l[j] <;> simp [hp]
/-- The state at a round's head. -/
structure DlS (g cap : Nat) (l : List Zn) (P : Zn → Bool) (X : Nat → Prop) (I : World → Prop) (w0 : World) (j : Nat) (h : Nat → Zn) (w : World) : Prop where
  row : RowS w g cap l.length h
  lo : ∀ k (hk : k < (kp P l j).length), h k = (kp P l j)[k]
  hi : ∀ k (hk : k < l.length), j ≤ k → h k = l[k]
  inv : I w
  kept : Kept (fun k => X k ∨ k = g) w0 w

set_option maxRecDepth 100000 in
set_option maxHeartbeats 8000000 in
theorem del_calls {B : Nat} {w : World} {g cap n : Nat} {l : List Zn} (h : RowZ B w (.slice (some ⟨g, 0, none⟩) n cap) l) (hn : l.length ≤ 5000) {fid : Nat} {cb : Array Value} {P : Zn → Bool} {X Y : Nat → Prop} {I : World → Prop} {dom : Zn → Prop} (hf : FnC Value.bool fid cb P X Y I dom) (hI : I w) (hd : ∀ z ∈ l, dom z) (hg : Y g) (hY : ∀ k, w.heap.size ≤ k → Y k) :
    Calls Try.prog 67 #[.slice (some ⟨g, 0, none⟩) n cap, .func (.func fid) #[] cb] w (DelP B g l P X I w) := by
  obtain ⟨R, hR⟩ : ∃ R, R = DelP B g l P X I w := ⟨_, rfl⟩
  rw [← hR]
  have HR := hid hR
  have r0 := RowS.of h
  obtain ⟨hnl, _, hBg, _⟩ := OwnE.cellsAt encZn_len h
  have hgl := r0.lt
  obtain ⟨f, hfe⟩ : ∃ f : Nat → Zn, f = fun k => l.getD k ⟨0, 0, 0, 0⟩ := ⟨_, rfl⟩
  rw [← hfe, ← hnl] at r0
  have FG := hid (show ∀ k (hk : k < l.length), f k = l[k] from fun k hk => by rw [hfe]; simp [hk])
  have H := hid h
  have HF := hid hf
  have HD := hid hd
  have hxg : ¬ X g := fun hx => hf.apart g hx hg
  have XY := hid (show ∀ k, w.heap.size ≤ k → ¬ X k from fun k hk hx => hf.apart k hx (hY k hk))
  have eg := hf.eg
  have IX := hid (idx_calls r0 (by omega) hf hI (fun k hk => by rw [FG.out k (by omega)]; exact hd _ (List.getElem_mem _)) hg)
  have R0 := hid r0
  have HNL := hid hnl
  have HYg := hid hg
  rw [← hnl] at hn
  clear hR r0 h hf hI hd hfe hnl hY
  go_enter Try.func67, Try.ntmps67
  go_wp2_with fail
  refine IX.out.mono ?_
  rintro e w1 ⟨hi1, hk1, hh⟩
  have I1 := hid hi1
  have K1 := hid hk1
  clear hi1 hk1 IX
  rcases hh with ⟨i0, hi0, hp, hno, rfl⟩ | ⟨hno, rfl⟩
  · have HNO := hid hno
    have HP := hid hp
    clear hno hp
    have hl0 : i0 < l.length := by rw [← HNL.out]; exact hi0
    have KP0 := hid (show kp P l (i0 + 1) = l.take i0 by
      rw [kp_succ hl0, ← FG.out i0 hl0, HP.out, kp_none (fun k hk hki => by rw [← FG.out k hk]; exact HNO.out k hki)]
      simp)
    have S0 := hid (show DlS g cap l P X I w (i0 + 1) f w1 from ⟨by rw [← HNL.out]; exact R0.out.kept K1.out hxg, fun k hk => by
      have hk' := hk
      rw [KP0.out, List.length_take] at hk'
      rw [FG.out k (by omega)]
      simp only [KP0.out, List.getElem_take], fun k hk _ => FG.out k hk, I1.out, K1.out.mono (fun k hk => .inl hk)⟩)
    have L0 := hid (show (kp P l (i0 + 1)).length = i0 by rw [KP0.out, List.length_take]; omega)
    have e1 : ((i0 : Int) == -1) = false := by simp
    have ei : IntKind.i64.wrap ((i0 : Int) + 1) = ((i0 + 1 : Nat) : Int) := IntWalk.i64_in _ (by omega)
    clear hl0
    go_wp2_with fail
    go_loopg [5, 6, 7] (n - (i0 + 1)) (fun k s5 s6 s7 wr => ∃ (i j : Nat) (h : Nat → Zn), s5 = .int .i64 i ∧ s6 = .int .i64 j ∧ i = (kp P l j).length ∧ i < j ∧ j ≤ n ∧ k = n - j ∧ DlS g cap l P X I w j h wr)
    case atStart => exact ⟨i0, i0 + 1, f, rfl, by go_num, L0.out.symm, by omega, by omega, rfl, S0.out⟩
    case round =>
      obtain ⟨i, j, h, rfl, rfl, hil, hij, hjn, hjk, ss⟩ := hrel
      have HIL := hid hil
      have HJK := hid hjk
      have SS := hid ss
      have hwz := ss.kept.size
      clear hil hjk ss
      by_cases hlt : j < n
      · have hjl : j < l.length := by rw [← HNL.out]; exact hlt
        obtain ⟨z, hz⟩ : ∃ z, z = l[j] := ⟨_, rfl⟩
        obtain ⟨c0, c1, c2, c3⟩ := SS.out.row.cell hjl
        rw [SS.out.hi j hjl (Nat.le_refl _), ← hz] at c0 c1 c2 c3
        have hgl2 := SS.out.row.lt
        have gj : (j : Int) < (n : Int) := by omega
        have gj0 : (0 : Int) ≤ (j : Int) := by omega
        have gi : (i : Int) < (n : Int) := by omega
        have gi0 : (0 : Int) ≤ (i : Int) := by omega
        have HZ := hid hz
        obtain ⟨wb, hwb⟩ : ∃ wb, wb = wr.alloc (.cells #[.int .i64 z.f, .int .i64 z.t, .int .i64 z.d, .int .i64 z.s] 85) := ⟨_, rfl⟩
        have kb : Kept (fun k => X k ∨ k = g) w wb := by rw [hwb]; exact SS.out.kept.alloc _
        have ib : I wb := by rw [hwb]; exact HF.out.stay _ _ SS.out.inv ((Kept.refl _ _).alloc _)
        have cb' : Cells wb wr.heap.size #[.int .i64 z.f, .int .i64 z.t, .int .i64 z.d, .int .i64 z.s] 85 := by rw [hwb]; exact Cells.new wr _ _
        have rb : RowS wb g cap l.length h := by rw [hwb]; exact SS.out.row.kept (X := fun _ => False) ((Kept.refl _ _).alloc _) (fun h => h)
        have k0 : wb.cell? ⟨wr.heap.size, 0, none⟩ = some (.int .i64 z.f) := by rw [cb'.cell]; rfl
        have k1 : wb.cell? ⟨wr.heap.size, 1, none⟩ = some (.int .i64 z.t) := by rw [cb'.cell]; rfl
        have k2 : wb.cell? ⟨wr.heap.size, 2, none⟩ = some (.int .i64 z.d) := by rw [cb'.cell]; rfl
        have k3 : wb.cell? ⟨wr.heap.size, 3, none⟩ = some (.int .i64 z.s) := by rw [cb'.cell]; rfl
        have CL := hid (HF.out.call wb z ib (HD.out z (by rw [hz]; exact List.getElem_mem _)))
        have lb := cb'.lt
        have HWB := hid hwb
        have KB := hid kb
        have CB := hid cb'
        have RB := hid rb
        obtain ⟨b, hb⟩ : ∃ b, b = P z := ⟨_, rfl⟩
        rw [← hb] at CL
        have HB := hid hb
        have KS := hid (show kp P l (j + 1) = kp P l j ++ if b then [] else [z] by rw [kp_succ hjl, ← hz, ← hb])
        clear hz hwb kb cb' rb hb ib
        go_upto_region 8 with fail
        rw [← HWB.out]
        go_wp2_with fail
        refine CL.out.mono ?_
        rintro e w2 ⟨rfl, hi2, hk2⟩
        have I2 := hid hi2
        have K2 := hid (KB.out.trans hk2 (fun _ _ e => .inl e))
        have R2 := hid (RB.out.kept hk2 hxg)
        have cb2 := CB.out.kept hk2 (XY.out _ hwz)
        clear hi2 hk2
        cases b with
        | true =>
          have KS2 := hid (show kp P l (j + 1) = kp P l j by rw [KS.out]; simp)
          have S2 := hid (show DlS g cap l P X I w (j + 1) h w2 from ⟨R2.out, fun k hk => by
            have hk' := hk
            rw [KS2.out] at hk'
            rw [SS.out.lo k hk']
            simp only [KS2.out], fun k hk hjk => SS.out.hi k hk (by omega), I2.out, K2.out⟩)
          go_wp2
          go_roundg (n - (j + 1))
          · exact ⟨i, j + 1, h, rfl, by go_num, by rw [KS2.out]; exact HIL.out, by omega, by omega, rfl, S2.out⟩
          · have := HJK.out; omega
        | false =>
          have KS2 := hid (show kp P l (j + 1) = kp P l j ++ [z] by rw [KS.out]; simp)
          have m0 : w2.cell? ⟨wr.heap.size, 0, none⟩ = some (.int .i64 z.f) := by rw [cb2.cell]; rfl
          have m1 : w2.cell? ⟨wr.heap.size, 1, none⟩ = some (.int .i64 z.t) := by rw [cb2.cell]; rfl
          have m2 : w2.cell? ⟨wr.heap.size, 2, none⟩ = some (.int .i64 z.d) := by rw [cb2.cell]; rfl
          have m3 : w2.cell? ⟨wr.heap.size, 3, none⟩ = some (.int .i64 z.s) := by rw [cb2.cell]; rfl
          have lb2 := cb2.lt
          have hil2 : i < l.length := by omega
          obtain ⟨q0, q1, q2, q3⟩ := R2.out.cell hil2
          have f0 := R2.out.froz (i * 4)
          have f1 := R2.out.froz (i * 4 + 1)
          have f2 := R2.out.froz (i * 4 + 2)
          have f3 := R2.out.froz (i * 4 + 3)
          have hgl3 := R2.out.lt
          have S2 := hid (show ∀ wx, wx = (((w2.setCell ⟨g, i * 4, none⟩ (.int .i64 z.f)).setCell ⟨g, i * 4 + 1, none⟩ (.int .i64 z.t)).setCell ⟨g, i * 4 + 2, none⟩ (.int .i64 z.d)).setCell ⟨g, i * 4 + 3, none⟩ (.int .i64 z.s) → DlS g cap l P X I w (j + 1) (fun k => if k = i then z else h k) wx by
            rintro wx rfl
            have ks : Kept (fun k => k = g) w2 ((((w2.setCell ⟨g, i * 4, none⟩ (.int .i64 z.f)).setCell ⟨g, i * 4 + 1, none⟩ (.int .i64 z.t)).setCell ⟨g, i * 4 + 2, none⟩ (.int .i64 z.d)).setCell ⟨g, i * 4 + 3, none⟩ (.int .i64 z.s)) :=
              ((((Kept.refl (fun k => k = g) w2).set (C := g) rfl _ _).set (C := g) rfl _ _).set (C := g) rfl _ _).set (C := g) rfl _ _
            refine ⟨R2.out.set hil2 z, fun k hk => ?_, fun k hk hjk => ?_, HF.out.stay _ _ I2.out (ks.mono (fun k hk => by rw [hk]; exact HYg.out)), K2.out.trans ks (fun k _ e => .inr e)⟩
            · have hk' := hk
              rw [KS2.out, List.length_append, List.length_singleton, ← HIL.out] at hk'
              simp only [KS2.out]
              by_cases hki : k = i
              · rw [if_pos hki, List.getElem_append_right (by rw [← HIL.out]; omega)]
                simp
              · rw [if_neg hki, List.getElem_append_left (by rw [← HIL.out]; omega)]
                exact SS.out.lo k (by rw [← HIL.out]; omega)
            · show (if k = i then z else h k) = l[k]
              rw [if_neg (by omega)]
              exact SS.out.hi k hk (by omega))
          clear cb2
          go_wp2
          go_roundg (n - (j + 1))
          · refine ⟨i + 1, j + 1, _, by go_num, by go_num, by rw [KS2.out, List.length_append, List.length_singleton, ← HIL.out], by omega, by omega, rfl, S2.out _ ?_⟩
            rfl
          · have := HJK.out; omega
      · have hjn2 : j = n := by omega
        subst hjn2
        have hic : i ≤ cap := by
          obtain ⟨cs, _, _, h4, _⟩ := SS.out.row
          have := HNL.out
          omega
        have CLd := hid (fun ty => clear_zones wr g (i * 4) (j - i) (cap - i) (by omega) (fun q hq => by
          obtain ⟨cs, hcs, hsz, h4, _⟩ := SS.out.row
          have := HNL.out
          rw [hcs.cell, Array.getElem?_eq_getElem (by omega)]; rfl) (fun q hq => SS.out.row.froz _) ty)
        have FIN := hid (show R (.returned (.slice (some ⟨g, 0, none⟩) i cap)) (wr.setCells g (i * 4) (List.replicate ((j - i) * 4) (.int .i64 0))) by
          rw [HR.out]
          obtain ⟨cs, hcs, hsz, h4, h5, h6⟩ := SS.out.row
          obtain ⟨cs', d1, d2, d3, d4⟩ := cells_setCells (w := wr) (List.replicate ((j - i) * 4) (.int .i64 0)) (i * 4) wr cs hcs
          have hkp : kp P l j = l.filter fun z => !P z := by unfold kp; rw [HNL.out, List.take_length]
          have hll := HIL.out
          have hnll := HNL.out
          rw [hkp] at hll
          have r9 : RowS (wr.setCells g (i * 4) (List.replicate ((j - i) * 4) (.int .i64 0))) g cap i h := ⟨cs', d1, by rw [d2, hsz], hic, h5, fun k hk c hc => by rw [d3 _ (by omega)]; exact h6 k (by omega) c hc⟩
          refine ⟨_, rfl, ?_, rfl, HF.out.stay _ _ SS.out.inv (d4.mono (fun k hk => by rw [hk]; exact HYg.out)), SS.out.kept.trans d4 (fun k _ e => .inr e)⟩
          have := r9.own (l := l.filter fun z => !P z) (by omega) (fun k hk => by
            have h1 := SS.out.lo k (by rw [hkp]; exact hk)
            rw [h1]
            simp only [hkp]) hBg
          rw [← hll] at this
          exact this)
        have gjj : ¬ (j : Int) < (j : Int) := by omega
        have hcc : (cap = i) = False := by
          have : i < cap := by
            obtain ⟨cs, _, _, h4, _⟩ := SS.out.row
            have := HNL.out
            omega
          simp; omega
        have hin : i ≤ j := by omega
        have hinI : (i : Int) ≤ (j : Int) := by omega
        have hi00 : (0 : Int) ≤ (i : Int) := by omega
        go_wp2_with (refine wpList_clear_run rfl (.tmp 38) 81 rfl _ _ rfl (CLd.out _) ?_)
        first | exact FIN.out | (go_ret; exact FIN.out)
  · have FIN := hid (show R (.returned (.slice (some ⟨g, 0, none⟩) n cap)) w1 by
      rw [HR.out]
      have e1 : l.filter (fun z => !P z) = l := by
        have := kp_none (P := P) (l := l) (i := l.length) (fun k hk _ => by rw [← FG.out k hk]; exact hno k (by rw [HNL.out]; exact hk))
        unfold kp at this
        rwa [List.take_length] at this
      refine ⟨_, rfl, ?_, rfl, I1.out, K1.out.mono (fun k hk => .inl hk)⟩
      rw [e1]
      exact OwnE.kept H.out K1.out (fun b hb hx => hxg (by injection hb with hb; have h : g = b := hb; subst h; exact hx)))
    clear hno
    go_wp2
    first | exact FIN.out | (go_ret; exact FIN.out)
end Go.Proofs.Ytjhelinbjlahiaa
