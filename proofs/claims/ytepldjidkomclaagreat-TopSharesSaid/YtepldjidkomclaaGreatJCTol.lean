/- Tools for walks. No function of the program in sight. insertionSortCmpFunc. symMergeCmpFunc: one element ahead. symMergeCmpFunc: one element behind. -/
import Derived.StillTailTactics
import Derived.BigRegion
import Derived.Deep.RegionLaw
import Derived.Deep.RegionHeld3
import Derived.Test.YtepldjidkomclaaGreatJMem
namespace Go.Proofs.YtepldjidkomclaaGreat.Ca
set_option linter.unusedSimpArgs false
set_option linter.unusedVariables false
open Go.RowKit
theorem region_tail {P : Program} {id : Nat} {Q : Exit → Act → World → Prop} {a : Act} {w : World} {l : List Oper} (n : Nat) (hm : P.follows .mixedOrders = true) (hB : Region.lexTailB .any l.toArray n = true)
    (h : wpStill P l.toArray w.drew (fun a' => wpList P l.toArray Q (l.drop n) a' w.drew) (l.take n) a) : (Code.region id l.toArray true).wp P Q a w := wp_region_still_tail n hm hB h
theorem step_append_run {P : Program} {ops : Array Oper} {o : Oper} {a : Act} {w : World} {K : Act → World → Prop} {Q : Exit → Act → World → Prop} {E : Prop} (hgd : o.guard = none) (s x : Operand) (t : TypeId)
    (ho : o.op = .call { callee := .builtin .append, args := #[s, x], argTypes := #[t, t] }) (sv xv v : Value) (w' : World) (hs : a.eval s = sv) (hx : a.eval x = xv) (hrun : (Builtin.append_ #[t, t] o.type #[sv, xv]).run P w = .ok v w') (hK : K (a.put o.dst v) w') :
    if Region.wanted o (yielded ops a.tmps) = true then Oper.wp P o a w K Q else E := by
  have hw : Region.wanted o (yielded ops a.tmps) = true := by simp [Region.wanted, hgd]
  rw [if_pos hw]
  unfold Oper.wp
  simp [execOp, ho, resolve, invoke, builtin, hs, hx, hrun, Result.andThen]
  exact hK
theorem wpList_append_run {P : Program} {w : World} {ops : Array Oper} {rest : List Oper} {o : Oper} {a : Act} {Q : Exit → Act → World → Prop} (hgd : o.guard = none) (s x : Operand) (t : TypeId)
    (ho : o.op = .call { callee := .builtin .append, args := #[s, x], argTypes := #[t, t] }) (sv xv v : Value) (w' : World) (hs : a.eval s = sv) (hx : a.eval x = xv) (hrun : (Builtin.append_ #[t, t] o.type #[sv, xv]).run P w = .ok v w') (h : wpList P ops Q rest (a.put o.dst v) w') :
    wpList P ops Q (o :: rest) a w := by
  refine wpList_plain hgd fun K hK => ?_
  unfold Oper.wp
  simp [execOp, ho, resolve, invoke, builtin, hs, hx, hrun, Result.andThen]
  exact hK _ _ h
end Go.Proofs.YtepldjidkomclaaGreat.Ca
namespace Go.Proofs.YtepldjidkomclaaGreat.Ca
set_option linter.unusedSimpArgs false
set_option linter.unusedVariables false
open Go.RowKit
attribute [local go_sem] Oper.semAt_some
attribute [local go_sem ↓] Go.wp_at_zero Go.wp_at_succ
structure CmpF (fid : Nat) (cb : Array Value) (cf : Int → Int → Int) (dom : Int → Prop) (g : Nat) (w0 : World) : Prop where
  eg : ∀ args w, (callFunc fid args).run Tryz.prog w = .ok (.enter fid args) w
  call : ∀ w, Kept (fun k => k = g) w0 w → ∀ x y, dom x → dom y → Calls Tryz.prog fid (#[.int .i64 x, .int .i64 y] ++ cb) w fun e w' => e = .returned (.int .i64 (cf x y)) ∧ Below w.heap.size w w'
theorem CmpF.at {fid : Nat} {cb : Array Value} {cf : Int → Int → Int} {dom : Int → Prop} {g : Nat} {w0 w : World} (h : CmpF fid cb cf dom g w0) (hk : Kept (fun k => k = g) w0 w) : CmpF fid cb cf dom g w := ⟨h.eg, fun w' hk' x y hx hy => h.call w' (hk.trans hk' (fun _ _ e => e)) x y hx hy⟩
theorem Below.of_drewN (w : World) (m : Nat) : Below w.heap.size w (w.drewN m) := ⟨rfl, rfl, rfl, Nat.le_refl _, fun _ _ => rfl⟩
def ltC (cf : Int → Int → Int) (x y : Int) : Bool := decide (cf x y < 0)
structure SoS (g L : Nat) (f h : Nat → Int) (w0 w : World) : Prop where
  row : Row w g L h
  kept : Kept (fun k => k = g) w0 w
theorem SoS.after {g L : Nat} {f h : Nat → Int} {w0 w w' : World} (s : SoS g L f h w0 w) (hb : Below w.heap.size w w') : SoS g L f h w0 w' := ⟨s.row.below hb, s.kept.trans (Kept.of_below hb) (fun _ _ e => e)⟩
set_option maxRecDepth 100000 in
set_option maxHeartbeats 4000000 in
theorem insertion_calls {w : World} {g L : Nat} {f : Nat → Int} (h : Row w g L f) (hL : L ≤ 1000000) {a b : Nat} (hab : a ≤ b) (hb : b ≤ L) (cap : Nat) {fid : Nat} {cb : Array Value} {cf : Int → Int → Int} {dom : Int → Prop} (hc : CmpF fid cb cf dom g w) (hlt : Swo (ltC cf)) (hdom : ∀ k, a ≤ k → k < b → dom (f k)) (hinc : ∀ i j, a ≤ i → i < j → j < b → f i < f j) :
    Calls Tryz.prog 113 #[.slice (some ⟨g, 0, none⟩) L cap, .int .i64 a, .int .i64 b, .func (.func fid) #[] cb] w fun e w' => e = .returned (.tuple #[]) ∧ ∃ f', Row w' g L f' ∧ (∀ k, k < a ∨ b ≤ k → f' k = f k) ∧ (seg f' a b).Perm (seg f a b) ∧ Srt (ltC cf) f' a b ∧ Kept (fun k => k = g) w w' := by
  obtain ⟨R, hR⟩ : ∃ R : Ending → World → Prop, R = fun e w' => e = .returned (.tuple #[]) ∧ ∃ f', Row w' g L f' ∧ (∀ k, k < a ∨ b ≤ k → f' k = f k) ∧ (seg f' a b).Perm (seg f a b) ∧ Srt (ltC cf) f' a b ∧ Kept (fun k => k = g) w w' := ⟨_, rfl⟩
  have HR := hid hR
  rw [← hR]
  have H := hid h
  have HC := hid hc
  have HLT := hid hlt
  have HDOM := hid hdom
  have HINC := hid hinc
  have HB := hid hb
  obtain ⟨a1, ha1⟩ : ∃ a1, a1 = a + 1 := ⟨_, rfl⟩
  have HA1 := hid ha1
  have haL : a ≤ 1000000 := by omega
  · have ea : IntKind.i64.wrap ((a : Int) + 1) = (a1 : Int) := by rw [show (a : Int) + 1 = (a1 : Int) by omega]; exact IntWalk.i64_in _ (by omega)
    have HAB := hid hab
    clear hR h hc hlt hdom hinc ha1 hb hab
    go_enter Tryz.func113, Tryz.ntmps113
    go_wp2_with fail
    go_loopg [8] (b - a) (fun k s8 wr => ∃ (i : Nat) (h : Nat → Int), s8 = .int .i64 i ∧ a1 ≤ i ∧ (i ≤ b ∨ (i = a1 ∧ h = f)) ∧ k = b - (i - 1) ∧ SoS g L f h w wr ∧ (∀ k, k < a ∨ i ≤ k → h k = f k) ∧ (seg h a i).Perm (seg f a i) ∧ Srt (ltC cf) h a i)
    case atStart =>
      have := HA1.out
      exact ⟨a1, f, by go_num, by omega, .inr ⟨rfl, rfl⟩, by omega, ⟨H.out, Kept.refl _ _⟩, fun _ _ => rfl, List.Perm.refl _, by rw [this]; exact Srt.one f a⟩
    case round =>
      obtain ⟨i, h, rfl, hai, hib, hk, ss, hfar, hperm, hsrt⟩ := hrel
      have HK := hid hk
      have SS := hid ss
      have HFAR := hid hfar
      have HPERM := hid hperm
      have HSRT := hid hsrt
      have HAI := hid hai
      clear hk ss hfar hperm hsrt
      by_cases hin : i < b
      · have gi : (i : Int) < (b : Int) := by omega
        have hbL := HB.out
        obtain ⟨y, hy⟩ : ∃ y, y = h i := ⟨_, rfl⟩
        have hyf : y = f i := by rw [hy]; exact HFAR.out i (.inr (Nat.le_refl _))
        have IJ0 := hid (show InsJ (ltC cf) h h a i i y by
          have := HA1.out
          rw [hy]
          refine InsJ.start (by omega) HSRT.out (fun k h1 h2 => ?_)
          obtain ⟨m, m1, m2, e⟩ := mem_seg.1 (HPERM.out.mem_iff.1 (mem_seg.2 ⟨k, h1, h2, rfl⟩))
          rw [e, ← hy, hyf]
          exact HINC.out m i m1 m2 hin)
        have DOMH := hid (show ∀ k, a ≤ k → k ≤ i → dom (h k) from fun k h1 h2 => by
          by_cases e : k = i
          · subst e; rw [← hy, hyf]; exact HDOM.out _ h1 hin
          · obtain ⟨m, m1, m2, e⟩ := mem_seg.1 (HPERM.out.mem_iff.1 (mem_seg.2 ⟨k, h1, (by omega : k < i), rfl⟩))
            rw [e]; exact HDOM.out m m1 (by omega))
        have HY := hid hy
        have hai : a + 1 ≤ i := by have := HA1.out; omega
        clear hy hyf hib
        go_wp2_with fail
        go_loopg [9] (i - a) (fun k s9 wq => ∃ (j : Nat) (hh : Nat → Int), s9 = .int .i64 j ∧ k = j - a ∧ SoS g L f hh w wq ∧ InsJ (ltC cf) h hh a i j y)
        case atStart => exact ⟨i, h, rfl, rfl, SS.out, IJ0.out⟩
        case round =>
          obtain ⟨j, hh, rfl, hk2, s2, ij⟩ := hrel
          obtain ⟨w4, rfl⟩ : ∃ w4 : World, w4 = wr := ⟨_, rfl⟩
          have HK2 := hid hk2
          have S2 := hid s2
          have IJ := hid ij
          have hja := ij.ja
          have hji := ij.ji
          clear hk2 s2 ij
          by_cases hjg : a < j
          · have gj : decide ((a : Int) < (j : Int)) = true := by simp; omega
            obtain ⟨j1, hj1⟩ : ∃ j1, j = j1 + 1 := ⟨j - 1, by omega⟩
            have ej : IntKind.i64.wrap ((j : Int) - 1) = (j1 : Int) := by rw [show (j : Int) - 1 = (j1 : Int) by omega]; exact IntWalk.i64_in _ (by omega)
            have c1 := S2.out.row.cell (i := j) (by omega)
            have c2 := S2.out.row.cell (i := j1) (by omega)
            rw [IJ.out.at'] at c1
            obtain ⟨z, hz⟩ : ∃ z, z = hh j1 := ⟨_, rfl⟩
            rw [← hz] at c2
            have hl := S2.out.row.lt
            have p0 : (0 : Int) ≤ (j : Int) := by omega
            have q0 : (0 : Int) ≤ (j1 : Int) := by omega
            have pL : (j : Int) < (L : Int) := by omega
            have qL : (j1 : Int) < (L : Int) := by omega
            have CM := hid (HC.out.call w4.drew (S2.out.kept.drew) y z (by have := DOMH.out i (by omega) (Nat.le_refl _); rwa [← HY.out] at this) (by
              obtain ⟨m, m1, m2, e⟩ := mem_seg.1 (IJ.out.perm.mem_iff.1 (mem_seg.2 ⟨j1, by omega, by omega, hz⟩))
              rw [e]; exact DOMH.out m m1 (by omega)))
            have HZ := hid hz
            have eg := HC.out.eg
            clear hz
            obtain ⟨c, hcc⟩ : ∃ c, c = cf y z := ⟨_, rfl⟩
            rw [← hcc] at CM
            have HCC := hid hcc
            have HJ1 := hid hj1
            have hne : j1 ≠ j := by omega
            have CC := hid (show ∀ w', Below w4.drew.heap.size w4.drew w' → w'.cell? ⟨g, j, none⟩ = some (.int .i64 y) ∧ w'.cell? ⟨g, j1, none⟩ = some (.int .i64 z) from fun w' hb => ⟨(hb.cell (p := ⟨g, j, none⟩) hl).trans c1, (hb.cell (p := ⟨g, j1, none⟩) hl).trans c2⟩)
            clear hcc hj1
            go_upto_region 4 with fail
            go_cut [34] (fun s34 wx => s34 = .bool (decide (c < 0)) ∧ Below w4.heap.size w4 wx)
            case first =>
              go_region_held3 (fun wh => wh.cell? ⟨g, j, none⟩ = some (.int .i64 y) ∧ wh.cell? ⟨g, j1, none⟩ = some (.int .i64 z))
                (exact ⟨c1, c2⟩)
                (first | ((with_reducible refine CM.out.mono ?_); rintro e w5 ⟨rfl, hb5⟩; obtain ⟨c1, c2⟩ := CC.out _ hb5))
              all_goals (
                have B5 := hid ((Below.refl w4.heap.size w4).drew.trans (hb5.mono (Below.refl w4.heap.size w4).drew.size))
                clear hb5
                go_wp2
                go_meet
                exact ⟨rfl, B5.out⟩)
            case rest =>
            obtain ⟨rfl, hb5⟩ := hcut
            obtain ⟨w5, rfl⟩ : ∃ w5 : World, w5 = wc := ⟨_, rfl⟩
            have hj1 := HJ1.out
            have S5 := hid (S2.out.after hb5)
            have c1 := S5.out.row.cell (i := j) (by omega)
            have c2 := S5.out.row.cell (i := j1) (by omega)
            rw [IJ.out.at'] at c1
            rw [← HZ.out] at c2
            have f1 := S5.out.row.froz j
            have f2 := S5.out.row.froz j1
            have hl := S5.out.row.lt
            clear hb5
            by_cases hneg : c < 0
            · have gc : decide (c < 0) = true := by simpa using hneg
              have IJN := hid (InsJ.step (j := j1) (by rw [← hj1]; exact IJ.out) (by omega) (show ltC cf y (hh j1) = true by rw [← HZ.out]; unfold ltC; rw [← HCC.out]; simpa using hneg))
              have NX := hid (show ∀ wx, wx = (w5.setCell ⟨g, j, none⟩ (.int .i64 z)).setCell ⟨g, j1, none⟩ (.int .i64 y) → SoS g L f (swp1 hh j j1) w wx.drew by
                rintro wx rfl
                have h1 := S5.out.row.swap j j1
                rw [IJ.out.at', ← HZ.out] at h1
                exact ⟨h1.drew, ((S5.out.kept.set (C := g) rfl _ _).set (C := g) rfl _ _).drew⟩)
              clear hj1
              go_upto_region 6 with fail
              go_region
              all_goals go_wp2
              all_goals (
                have hj1 := HJ1.out
                go_roundg (j1 - a)
                · refine ⟨j1, _, by go_num, rfl, NX.out _ rfl, ?_⟩
                  have := IJN.out
                  rwa [← HJ1.out] at this
                · have := HK2.out; omega)
            · have gc : decide (c < 0) = false := by simpa using hneg
              have DN := hid (IJ.out.done HLT.out (.inr (show ltC cf y (hh (j - 1)) = false by rw [show j - 1 = j1 by omega, ← HZ.out]; unfold ltC; rw [← HCC.out]; simpa using hneg)))
              clear hj1
              go_wp2
              go_roundg (b - (i + 1 - 1))
              · exact ⟨i + 1, hh, by go_num, by have := HAI.out; omega, .inl hin, rfl, S5.out, fun k hk => by rw [IJ.out.far k (by omega)]; exact HFAR.out k (by omega), by
                  have h1 := IJ.out.perm
                  rw [seg_snoc h (by omega)] at h1
                  rw [seg_snoc f (by omega), ← HFAR.out i (.inr (Nat.le_refl _))]
                  exact h1.trans (HPERM.out.append_right _), DN.out⟩
              · have := HK.out; omega
          · have DN := hid (IJ.out.done HLT.out (.inl (by omega)))
            have hja2 : j = a := by omega
            subst hja2
            have gj : decide ((j : Int) < (j : Int)) = false := by simp
            clear hjg
            go_upto_region 4 with fail
            go_big_quiet (fail)
            go_wp2
            go_roundg (b - (i + 1 - 1))
            · exact ⟨i + 1, hh, by go_num, by have := HAI.out; omega, .inl hin, rfl, S2.out.after (Below.of_drewN w4 _), fun k hk => by rw [IJ.out.far k (by omega)]; exact HFAR.out k (by omega), by
                have h1 := IJ.out.perm
                rw [seg_snoc h (by omega)] at h1
                rw [seg_snoc f (by omega), ← HFAR.out i (.inr (Nat.le_refl _))]
                exact h1.trans (HPERM.out.append_right _), DN.out⟩
            · have := HK.out; omega
      · have g1 : ¬ (i : Int) < (b : Int) := by omega
        have FN := hid (show R (.returned (.tuple #[])) wr by
          have h1 := HA1.out
          have h2 := HAB.out
          rw [HR.out]
          rcases hib with e | ⟨e, e2⟩
          · have e3 : i = b := by omega
            subst e3
            exact ⟨rfl, h, SS.out.row, HFAR.out, HPERM.out, HSRT.out, SS.out.kept⟩
          · subst e2
            exact ⟨rfl, h, SS.out.row, fun _ _ => rfl, List.Perm.refl _, fun p q i1 i2 i3 => HSRT.out p q i1 i2 (by omega), SS.out.kept⟩)
        go_wp2
        first | exact FN.out | (go_end0; exact FN.out)
end Go.Proofs.YtepldjidkomclaaGreat.Ca
namespace Go.Proofs.YtepldjidkomclaaGreat.Ca
set_option linter.unusedSimpArgs false
set_option linter.unusedVariables false
open Go.RowKit
attribute [local go_sem] Oper.semAt_some
attribute [local go_sem ↓] Go.wp_at_zero Go.wp_at_succ
def MrgP (g L : Nat) (f : Nat → Int) (a b : Nat) (cf : Int → Int → Int) (w : World) (e : Ending) (w' : World) : Prop :=
  e = .returned (.tuple #[]) ∧ ∃ f', Row w' g L f' ∧ MrgR (ltC cf) f f' a b ∧ Kept (fun k => k = g) w w'
theorem half_of {i j L : Nat} (hi : i ≤ L) (hj : j ≤ L) (hL : L ≤ 1000000) : IntKind.i64.wrap ((i : Int) + (j : Int)) = (i : Int) + (j : Int) ∧ IntKind.u64.wrap ((i : Int) + (j : Int)) = (i : Int) + (j : Int) := ⟨IntWalk.i64_in _ (by omega), IntWalk.u64_in _ (by omega)⟩
set_option maxRecDepth 100000 in
set_option maxHeartbeats 4000000 in
theorem symA_calls {w : World} {g L : Nat} {f : Nat → Int} (h : Row w g L f) (hL : L ≤ 1000000) {a m b : Nat} (hma : m = a + 1) (hmb : m < b) (hb : b ≤ L) (cap : Nat) {fid : Nat} {cb : Array Value} {cf : Int → Int → Int} {dom : Int → Prop} (hc : CmpF fid cb cf dom g w) (hlt : Swo (ltC cf)) (hdom : ∀ k, a ≤ k → k < b → dom (f k)) (hs : Srt (ltC cf) f m b) (he : ∀ k, m ≤ k → k < b → f a < f k) :
    Calls Tryz.prog 114 #[.slice (some ⟨g, 0, none⟩) L cap, .int .i64 a, .int .i64 m, .int .i64 b, .func (.func fid) #[] cb] w (MrgP g L f a b cf w) := by
  obtain ⟨R, hR⟩ : ∃ R, R = MrgP g L f a b cf w := ⟨_, rfl⟩
  have HR := hid hR
  rw [← hR]
  have S0 := hid (show SoS g L f f w w from ⟨h, Kept.refl _ _⟩)
  have HC := hid hc
  have HLT := hid hlt
  have HDOM := hid hdom
  have HS := hid hs
  have HE := hid he
  have HMA := hid hma
  have em : IntKind.i64.wrap ((m : Int) - (a : Int)) = 1 := by rw [show (m : Int) - (a : Int) = 1 by omega]; rfl
  have ha6 : a ≤ 1000000 := by omega
  have ham : a < m := by omega
  have hm6 : m ≤ 1000000 := by omega
  obtain ⟨x, hx⟩ : ∃ x, x = f a := ⟨_, rfl⟩
  have HX := hid hx
  clear hR h hc hlt hdom hs he hma hx
  go_enter Tryz.func114, Tryz.ntmps114
  go_wp2_with fail
  go_loopg [10, 11] (b - m) (fun k s10 s11 wr => ∃ i j : Nat, s10 = .int .i64 i ∧ s11 = .int .i64 j ∧ k = j - i ∧ m ≤ i ∧ i ≤ j ∧ j ≤ b ∧ (∀ k, a < k → k < i → ltC cf (f k) x = true) ∧ (∀ k, j ≤ k → k < b → ltC cf (f k) x = false) ∧ SoS g L f f w wr)
  case atStart => exact ⟨m, b, rfl, rfl, rfl, by omega, by omega, by omega, fun k h1 h2 => by have := HMA.out; omega, fun k h1 h2 => by omega, S0.out⟩
  case round =>
    obtain ⟨i, j, rfl, rfl, hk, hmi, hij, hjb, hlo, hhi, ss⟩ := hrel
    have HK := hid hk
    have HLO := hid hlo
    have HHI := hid hhi
    have SS := hid ss
    clear hk hlo hhi ss
    by_cases hlt : i < j
    · have gi : (i : Int) < (j : Int) := by omega
      obtain ⟨e1, e2⟩ := half_of (i := i) (j := j) (by omega) (by omega) hL
      obtain ⟨c, hcd⟩ : ∃ c, c = (i + j) / 2 := ⟨_, rfl⟩
      have eh : ((i : Int) + (j : Int)) / 2 = (c : Int) := by omega
      have hci : i ≤ c := by omega
      have hcj : c < j := by omega
      have c1 := SS.out.row.cell (i := c) (by omega)
      have c2 := SS.out.row.cell (i := a) (by omega)
      rw [← HX.out] at c2
      obtain ⟨z, hz⟩ : ∃ z, z = f c := ⟨_, rfl⟩
      rw [← hz] at c1
      have hl := SS.out.row.lt
      have p0 : (0 : Int) ≤ (c : Int) := by omega
      have q0 : (0 : Int) ≤ (a : Int) := by omega
      have pL : (c : Int) < (L : Int) := by omega
      have qL : (a : Int) < (L : Int) := by omega
      have CM := hid (HC.out.call wr.drew (SS.out.kept.drew) z x (by rw [hz]; exact HDOM.out c (by have := HMA.out; omega) (by omega)) (by rw [HX.out]; exact HDOM.out a (Nat.le_refl _) (by have := HMA.out; omega)))
      have HZ := hid hz
      have eg := HC.out.eg
      obtain ⟨v, hv⟩ : ∃ v, v = cf z x := ⟨_, rfl⟩
      rw [← hv] at CM
      have HV := hid hv
      have CC := hid (show ∀ w', Below wr.drew.heap.size wr.drew w' → w'.cell? ⟨g, c, none⟩ = some (.int .i64 z) ∧ w'.cell? ⟨g, a, none⟩ = some (.int .i64 x) from fun w' hb => ⟨(hb.cell (p := ⟨g, c, none⟩) hl).trans c1, (hb.cell (p := ⟨g, a, none⟩) hl).trans c2⟩)
      have HIJ := hid hlt
      clear hcd hz hv hlt
      go_upto_region 5 with fail
      go_cut [50] (fun s50 wx => s50 = .bool (decide (v < 0)) ∧ Below wr.heap.size wr wx)
      case first =>
        go_region_held3 (fun wh => wh.cell? ⟨g, c, none⟩ = some (.int .i64 z) ∧ wh.cell? ⟨g, a, none⟩ = some (.int .i64 x))
          (exact ⟨c1, c2⟩)
          (first | ((with_reducible refine CM.out.mono ?_); rintro e w5 ⟨rfl, hb5⟩; obtain ⟨c1, c2⟩ := CC.out _ hb5))
        all_goals (
          have B5 := hid ((Below.refl wr.heap.size wr).drew.trans (hb5.mono (Below.refl wr.heap.size wr).drew.size))
          clear hb5
          go_wp2
          go_meet
          exact ⟨rfl, B5.out⟩)
      case rest =>
        obtain ⟨rfl, hb5⟩ := hcut
        have S5 := hid (SS.out.after hb5)
        clear hb5 c1 c2
        by_cases hneg : v < 0
        · have L1 := hid (show ltC cf (f c) x = true by rw [← HZ.out]; unfold ltC; rw [← HV.out]; simpa using hneg)
          have c1i : IntKind.i64.wrap ((c : Int) + 1) = ((c + 1 : Nat) : Int) := by rw [show (c : Int) + 1 = ((c + 1 : Nat) : Int) by omega]; exact IntWalk.i64_in _ (by omega)
          go_wp2
          go_roundg (j - (c + 1))
          · exact ⟨c + 1, j, by go_num, rfl, rfl, by omega, by omega, hjb, fun k h1 h2 => by
              have h4 := HMA.out
              exact mono_late HLT.out HS.out (fun k h5 h6 => by rw [HX.out]; exact HE.out k h5 h6) (by omega) (show k ≤ c by omega) (by omega) L1.out, HHI.out, S5.out⟩
          · have := HK.out; omega
        · have L1 := hid (show ltC cf (f c) x = false by rw [← HZ.out]; unfold ltC; rw [← HV.out]; simpa using hneg)
          have HH2 := hid (show ∀ k, c ≤ k → k < b → ltC cf (f k) x = false from fun k h1 h2 => by
            cases hk : ltC cf (f k) x with
            | false => rfl
            | true =>
              have := mono_late HLT.out HS.out (fun k h5 h6 => by rw [HX.out]; exact HE.out k h5 h6) (show m ≤ c by omega) h1 h2 hk
              rw [L1.out] at this
              cases this)
          go_wp2
          go_roundg (c - i)
          · exact ⟨i, c, rfl, rfl, rfl, hmi, hci, by omega, HLO.out, HH2.out, S5.out⟩
          · have := HK.out; omega
    · have hij2 : i = j := by omega
      subst hij2
      have g1 : ¬ (i : Int) < (i : Int) := by omega
      obtain ⟨i1, hi1⟩ : ∃ i1, i1 = i - 1 := ⟨_, rfl⟩
      have ei : IntKind.i64.wrap ((i : Int) - 1) = (i1 : Int) := by rw [show (i : Int) - 1 = (i1 : Int) by omega]; exact IntWalk.i64_in _ (by omega)
      have hai1 : a ≤ i1 := by have := HMA.out; omega
      have hi1L : i1 < L := by omega
      have MR := hid (show MrgR (ltC cf) f (movR f a i1) a b by
        have h4 := HMA.out
        rw [hi1]
        refine mrg_one HLT.out (by omega) hjb (by rw [← h4]; exact HS.out) (fun k k1 k2 => HE.out k (by omega) k2) (fun k k1 k2 => by rw [← HX.out]; exact HLO.out k k1 k2) (fun k k1 k2 => by rw [← HX.out]; exact HHI.out k k1 k2))
      clear hlt hi1
      have R0 := hid (show SoS g L f (movR f a a) w wr by rw [movR_self]; exact SS.out)
      clear SS
      go_wp2_with fail
      go_loopg [13] (i1 - a) (fun k s13 wq => ∃ p : Nat, s13 = .int .i64 p ∧ a ≤ p ∧ p ≤ i1 ∧ k = i1 - p ∧ SoS g L f (movR f a p) w wq)
      case atStart => exact ⟨a, rfl, by omega, hai1, rfl, R0.out⟩
      case round =>
        obtain ⟨p, rfl, hap, hpi, hk, ss⟩ := hrel
        have HK := hid hk
        have SS := hid ss
        clear hk ss R0
        by_cases hp : p < i1
        · have gp : (p : Int) < (i1 : Int) := by omega
          obtain ⟨q, hq⟩ : ∃ q, q = p + 1 := ⟨_, rfl⟩
          have eq : IntKind.i64.wrap ((p : Int) + 1) = (q : Int) := by rw [show (p : Int) + 1 = (q : Int) by omega]; exact IntWalk.i64_in _ (by omega)
          obtain ⟨u, hu⟩ : ∃ u, u = movR f a p p := ⟨_, rfl⟩
          obtain ⟨v, hv⟩ : ∃ v, v = movR f a p q := ⟨_, rfl⟩
          have c1 := SS.out.row.cell (i := p) (by omega)
          have c2 := SS.out.row.cell (i := q) (by omega)
          rw [← hu] at c1
          rw [← hv] at c2
          have f1 := SS.out.row.froz p
          have f2 := SS.out.row.froz q
          have hl := SS.out.row.lt
          have p0 : (0 : Int) ≤ (p : Int) := by omega
          have q0 : (0 : Int) ≤ (q : Int) := by omega
          have pL : (p : Int) < (L : Int) := by omega
          have qL : (q : Int) < (L : Int) := by omega
          have hne : p ≠ q := by omega
          have hpq : p < q := by omega
          have hq1 : q ≤ i1 := by omega
          have NX := hid (show ∀ wx, wx = (wr.setCell ⟨g, p, none⟩ (.int .i64 v)).setCell ⟨g, q, none⟩ (.int .i64 u) → SoS g L f (movR f a q) w wx.drew by
            rintro wx rfl
            have h1 := SS.out.row.swap p q
            rw [← hu, ← hv, hq, movR_succ f hap, ← hq] at h1
            exact ⟨h1.drew, ((SS.out.kept.set (C := g) rfl _ _).set (C := g) rfl _ _).drew⟩)
          clear hu hv hq
          go_upto_region 11 with fail
          go_region
          all_goals go_wp2
          all_goals (
            go_roundg (i1 - q)
            · exact ⟨q, rfl, by omega, hq1, rfl, NX.out _ rfl⟩
            · have := HK.out; omega)
        · have hp2 : p = i1 := by omega
          subst hp2
          have gp : ¬ (p : Int) < (p : Int) := by omega
          have FN := hid (show R (.returned (.tuple #[])) wr by rw [HR.out]; exact ⟨rfl, _, SS.out.row, MR.out, SS.out.kept⟩)
          go_wp2
          first | exact FN.out | (go_end0; exact FN.out)
end Go.Proofs.YtepldjidkomclaaGreat.Ca
namespace Go.Proofs.YtepldjidkomclaaGreat.Ca
set_option linter.unusedSimpArgs false
set_option linter.unusedVariables false
open Go.RowKit
attribute [local go_sem] Oper.semAt_some
attribute [local go_sem ↓] Go.wp_at_zero Go.wp_at_succ
set_option maxRecDepth 100000 in
set_option maxHeartbeats 4000000 in
theorem symB_calls {w : World} {g L : Nat} {f : Nat → Int} (h : Row w g L f) (hL : L ≤ 1000000) {a m b : Nat} (ham : a + 1 < m) (hbm : b = m + 1) (hb : b ≤ L) (cap : Nat) {fid : Nat} {cb : Array Value} {cf : Int → Int → Int} {dom : Int → Prop} (hc : CmpF fid cb cf dom g w) (hlt : Swo (ltC cf)) (hdom : ∀ k, a ≤ k → k < b → dom (f k)) (hs : Srt (ltC cf) f a m) (he : ∀ k, a ≤ k → k < m → f k < f m) :
    Calls Tryz.prog 114 #[.slice (some ⟨g, 0, none⟩) L cap, .int .i64 a, .int .i64 m, .int .i64 b, .func (.func fid) #[] cb] w (MrgP g L f a b cf w) := by
  obtain ⟨R, hR⟩ : ∃ R, R = MrgP g L f a b cf w := ⟨_, rfl⟩
  have HR := hid hR
  rw [← hR]
  have S0 := hid (show SoS g L f f w w from ⟨h, Kept.refl _ _⟩)
  have HC := hid hc
  have HLT := hid hlt
  have HDOM := hid hdom
  have HS := hid hs
  have HE := hid he
  have HBM := hid hbm
  have em : IntKind.i64.wrap ((b : Int) - (m : Int)) = 1 := by rw [show (b : Int) - (m : Int) = 1 by omega]; rfl
  have em2 : IntKind.i64.wrap ((m : Int) - (a : Int)) = (m : Int) - (a : Int) := IntWalk.i64_in _ (by omega)
  have em3 : ((m : Int) - (a : Int) == 1) = false := by simp; omega
  have ha6 : a ≤ 1000000 := by omega
  have hm6 : m ≤ 1000000 := by omega
  obtain ⟨x, hx⟩ : ∃ x, x = f m := ⟨_, rfl⟩
  have HX := hid hx
  have hmL : m < L := by omega
  have hmb : m < b := by omega
  clear hR h hc hlt hdom hs he hbm hx
  go_enter Tryz.func114, Tryz.ntmps114
  go_wp2_with fail
  go_loopg [14, 15] (m - a) (fun k s14 s15 wr => ∃ i j : Nat, s14 = .int .i64 i ∧ s15 = .int .i64 j ∧ k = j - i ∧ a ≤ i ∧ i ≤ j ∧ j ≤ m ∧ (∀ k, a ≤ k → k < i → ltC cf x (f k) = false) ∧ (∀ k, j ≤ k → k < m → ltC cf x (f k) = true) ∧ SoS g L f f w wr)
  case atStart => exact ⟨a, m, rfl, rfl, rfl, by omega, by omega, by omega, fun k h1 h2 => by omega, fun k h1 h2 => by omega, S0.out⟩
  case round =>
    obtain ⟨i, j, rfl, rfl, hk, hai, hij, hjm, hlo, hhi, ss⟩ := hrel
    have HK := hid hk
    have HLO := hid hlo
    have HHI := hid hhi
    have SS := hid ss
    clear hk hlo hhi ss
    by_cases hlt : i < j
    · have gi : (i : Int) < (j : Int) := by omega
      obtain ⟨e1, e2⟩ := half_of (i := i) (j := j) (by omega) (by omega) hL
      obtain ⟨c, hcd⟩ : ∃ c, c = (i + j) / 2 := ⟨_, rfl⟩
      have eh : ((i : Int) + (j : Int)) / 2 = (c : Int) := by omega
      have hci : i ≤ c := by omega
      have hcj : c < j := by omega
      have c1 := SS.out.row.cell (i := c) (by omega)
      have c2 := SS.out.row.cell (i := m) (by omega)
      rw [← HX.out] at c2
      obtain ⟨z, hz⟩ : ∃ z, z = f c := ⟨_, rfl⟩
      rw [← hz] at c1
      have hl := SS.out.row.lt
      have p0 : (0 : Int) ≤ (c : Int) := by omega
      have q0 : (0 : Int) ≤ (m : Int) := by omega
      have pL : (c : Int) < (L : Int) := by omega
      have qL : (m : Int) < (L : Int) := by omega
      have CM := hid (HC.out.call wr.drew (SS.out.kept.drew) x z (by rw [HX.out]; exact HDOM.out m (by omega) hmb) (by rw [hz]; exact HDOM.out c (by omega) (by omega)))
      have HZ := hid hz
      have eg := HC.out.eg
      obtain ⟨v, hv⟩ : ∃ v, v = cf x z := ⟨_, rfl⟩
      rw [← hv] at CM
      have HV := hid hv
      have CC := hid (show ∀ w', Below wr.drew.heap.size wr.drew w' → w'.cell? ⟨g, c, none⟩ = some (.int .i64 z) ∧ w'.cell? ⟨g, m, none⟩ = some (.int .i64 x) from fun w' hb => ⟨(hb.cell (p := ⟨g, c, none⟩) hl).trans c1, (hb.cell (p := ⟨g, m, none⟩) hl).trans c2⟩)
      have HIJ := hid hlt
      clear hcd hz hv hlt
      go_upto_region 17 with fail
      go_cut [103] (fun s103 wx => ∃ t, s103 = .bool t ∧ (t = true ↔ ¬ v < 0) ∧ Below wr.heap.size wr wx)
      case first =>
        go_region_held3 (fun wh => wh.cell? ⟨g, c, none⟩ = some (.int .i64 z) ∧ wh.cell? ⟨g, m, none⟩ = some (.int .i64 x))
          (exact ⟨c1, c2⟩)
          (first | ((with_reducible refine CM.out.mono ?_); rintro e w5 ⟨rfl, hb5⟩; obtain ⟨c1, c2⟩ := CC.out _ hb5))
        all_goals (
          have B5 := hid ((Below.refl wr.heap.size wr).drew.trans (hb5.mono (Below.refl wr.heap.size wr).drew.size))
          clear hb5
          go_wp2
          go_meet
          exact ⟨_, rfl, by simp, B5.out⟩)
      case rest =>
        obtain ⟨t, rfl, ht, hb5⟩ := hcut
        have S5 := hid (SS.out.after hb5)
        clear hb5 c1 c2
        by_cases hneg : v < 0
        · obtain rfl : t = false := by cases t with | false => rfl | true => exact absurd hneg (ht.1 rfl)
          clear ht
          have L1 := hid (show ltC cf x (f c) = true by rw [← HZ.out]; unfold ltC; rw [← HV.out]; simpa using hneg)
          go_wp2
          go_roundg (c - i)
          · exact ⟨i, c, rfl, rfl, rfl, hai, hci, by omega, HLO.out, fun k h1 h2 => mono_early HLT.out HS.out (fun k h5 h6 => by rw [HX.out]; exact HE.out k h5 h6) (show a ≤ c by omega) h1 h2 L1.out, S5.out⟩
          · have := HK.out; omega
        · obtain rfl : t = true := ht.2 hneg
          clear ht
          have L1 := hid (show ltC cf x (f c) = false by rw [← HZ.out]; unfold ltC; rw [← HV.out]; simpa using hneg)
          have LO2 := hid (show ∀ k, a ≤ k → k < c + 1 → ltC cf x (f k) = false from fun k h1 h2 => by
            cases hk : ltC cf x (f k) with
            | false => rfl
            | true =>
              have := mono_early HLT.out HS.out (fun k h5 h6 => by rw [HX.out]; exact HE.out k h5 h6) h1 (show k ≤ c by omega) (by omega) hk
              rw [L1.out] at this
              cases this)
          go_wp2
          go_roundg (j - (c + 1))
          · exact ⟨c + 1, j, by go_num, rfl, rfl, by omega, by omega, hjm, LO2.out, HHI.out, S5.out⟩
          · have := HK.out; omega
    · have hij2 : i = j := by omega
      subst hij2
      have g1 : ¬ (i : Int) < (i : Int) := by omega
      have MR := hid (show MrgR (ltC cf) f (movL f m i) a b by
        rw [HBM.out]
        exact mrg_last HLT.out hai hjm HS.out HE.out (fun k k1 k2 => by rw [← HX.out]; exact HLO.out k k1 k2) (fun k k1 k2 => by rw [← HX.out]; exact HHI.out k k1 k2))
      have R0 := hid (show SoS g L f (movL f m m) w wr by rw [movL_self]; exact SS.out)
      clear SS hlt
      go_wp2_with fail
      go_loopg [17] (m - i) (fun k s17 wq => ∃ p : Nat, s17 = .int .i64 p ∧ i ≤ p ∧ p ≤ m ∧ k = p - i ∧ SoS g L f (movL f m p) w wq)
      case atStart => exact ⟨m, rfl, hjm, Nat.le_refl _, rfl, R0.out⟩
      case round =>
        obtain ⟨p, rfl, hip, hpm, hk, ss⟩ := hrel
        have HK := hid hk
        have SS := hid ss
        clear hk ss R0
        by_cases hp : i < p
        · have gp : (i : Int) < (p : Int) := by omega
          obtain ⟨q, hq⟩ : ∃ q, q = p - 1 := ⟨_, rfl⟩
          have eq : IntKind.i64.wrap ((p : Int) - 1) = (q : Int) := by rw [show (p : Int) - 1 = (q : Int) by omega]; exact IntWalk.i64_in _ (by omega)
          obtain ⟨u, hu⟩ : ∃ u, u = movL f m p p := ⟨_, rfl⟩
          obtain ⟨v, hv⟩ : ∃ v, v = movL f m p q := ⟨_, rfl⟩
          have c1 := SS.out.row.cell (i := p) (by omega)
          have c2 := SS.out.row.cell (i := q) (by omega)
          rw [← hu] at c1
          rw [← hv] at c2
          have f1 := SS.out.row.froz p
          have f2 := SS.out.row.froz q
          have hl := SS.out.row.lt
          have p0 : (0 : Int) ≤ (p : Int) := by omega
          have q0 : (0 : Int) ≤ (q : Int) := by omega
          have pL : (p : Int) < (L : Int) := by omega
          have qL : (q : Int) < (L : Int) := by omega
          have hne : q ≠ p := by omega
          have hpq : q < p := by omega
          have hq1 : i ≤ q := by omega
          have hqm : q < m := by omega
          have NX := hid (show ∀ wx, wx = (wr.setCell ⟨g, p, none⟩ (.int .i64 v)).setCell ⟨g, q, none⟩ (.int .i64 u) → SoS g L f (movL f m q) w wx.drew by
            rintro wx rfl
            have h1 := SS.out.row.swap p q
            have hp1 : p = q + 1 := by omega
            rw [← hu, ← hv, hp1, movL_pred f hqm] at h1
            rw [hp1]
            exact ⟨h1.drew, ((SS.out.kept.set (C := g) rfl _ _).set (C := g) rfl _ _).drew⟩)
          clear hu hv hq
          go_upto_region 23 with fail
          go_region
          all_goals go_wp2
          all_goals (
            go_roundg (q - i)
            · exact ⟨q, rfl, hq1, by omega, rfl, NX.out _ rfl⟩
            · have := HK.out; omega)
        · have hp2 : i = p := by omega
          subst hp2
          have gp : ¬ (i : Int) < (i : Int) := by omega
          have FN := hid (show R (.returned (.tuple #[])) wr by rw [HR.out]; exact ⟨rfl, _, SS.out.row, MR.out, SS.out.kept⟩)
          go_wp2
          first | exact FN.out | (go_end0; exact FN.out)
end Go.Proofs.YtepldjidkomclaaGreat.Ca
