/- call.zones: walked. call.price. call.price: walked. call.price: the walk. call.At, call.Price, call.Best. call.Gain. serve in plain Lean: who gets how much. No program in sight. -/
import Derived.Test.YtepldjidkomclaaGreatJCZmap
import Derived.Test.YtepldjidkomclaaGreatJCZg
import Derived.Test.YtepldjidkomclaaGreatJCCl0
import Derived.Test.YtepldjidkomclaaGreatJCSp5
namespace Go.Proofs.YtepldjidkomclaaGreat.Ca
set_option linter.unusedSimpArgs false
set_option linter.unusedVariables false
open Go.RowKit Go.Maps
attribute [local go_sem] Oper.semAt_some
attribute [local go_sem ↓] Go.wp_at_zero Go.wp_at_succ
def ZonesP (w : World) (l : List Bd) (e : Ending) (w' : World) : Prop := ∃ v, e = .returned v ∧ RowZ w.heap.size w' v (zonesL l) ∧ Below w.heap.size w w'
set_option maxRecDepth 100000 in
set_option maxHeartbeats 8000000 in
theorem zones_calls {w : World} {v : Value} {l : List Bd} (hv : ReadsE encBd 3 w v l) (hl : l.length ≤ 4096) (hok : ∀ b ∈ l, b.ok) :
    Calls Tryz.prog 62 #[v] w (ZonesP w l) := by
  obtain ⟨hm, p, cap, bb, off, rfl, hp, hc⟩ := hv
  obtain ⟨R, hR⟩ : ∃ R, R = ZonesP w l := ⟨_, rfl⟩
  obtain ⟨n, hn⟩ : ∃ n, n = l.length := ⟨_, rfl⟩
  rw [← hn] at hp hm hl ⊢
  rw [← hR]
  have HR := hid hR
  have HN := hid hn
  have HP := hid hp
  have HC := hid hc
  have HOK := hid hok
  have Z0 := hid (show ∀ wx, wx = ((w.alloc (.cells #[.int .i64 1] 2)).alloc (.map #[] 0)).alloc (.map #[] 0) → Z1 w (w.heap.size + 1) (w.heap.size + 1 + 1) l 0 wx (.slice (some ⟨w.heap.size, 0, none⟩) 1 1) by
    rintro wx rfl
    have b1 : Below w.heap.size w (w.alloc (.cells #[.int .i64 1] 2)) := (Below.refl _ _).alloc (Nat.le_refl _) _
    have r1 : RowI w.heap.size (w.alloc (.cells #[.int .i64 1] 2)) (.slice (some ⟨w.heap.size, 0, none⟩) 1 1) [1] := OwnE.new w (Nat.le_refl _) 1 rfl _ rfl
    have m1 := MapF.new (w.alloc (.cells #[.int .i64 1] 2))
    have m2 := MapF.new ((w.alloc (.cells #[.int .i64 1] 2)).alloc (.map #[] 0))
    rw [World.size_alloc] at m1
    rw [World.size_alloc, World.size_alloc] at m2
    refine ⟨(r1.alloc _).alloc _, m2.congr fun k => rfl, (m1.below ((Below.refl _ _).alloc (Nat.le_refl _) _)).congr fun k => rfl, (b1.alloc (by simp) _).alloc (by simp; omega) _, by omega, by omega, by omega⟩)
  clear hR hn hp hc hok
  have hmm := @run_makeMap Tryz.prog
  go_enter Tryz.func62, Tryz.ntmps62
  go_upto_region 5 with fail
  have Z00 := hid (Z0.out _ rfl)
  clear Z0 hmm
  go_loopg [19, 3, 6] n (fun k s19 s3 s6 wr => ∃ i : Nat, i + k = n ∧ s19 = .int .i64 i ∧ s6 = .int .i64 (sumQ (fun b => decide (b.s = 1)) (l.take i)) ∧ Z1 w (w.heap.size + 1) (w.heap.size + 1 + 1) l i wr s3)
  case atStart => exact ⟨0, by omega, rfl, rfl, Z00.out⟩
  case round =>
    obtain ⟨i, hik, rfl, rfl, hz⟩ := hrel
    have HIK := hid hik
    have HZ := hid hz
    clear hik hz Z00
    by_cases hin : i < n
    · have hil : i < l.length := by rw [← HN.out]; exact hin
      obtain ⟨rfl, hbb⟩ := HP.out (by omega)
      have c0 := (HZ.out.below.cell (p := ⟨bb, off + i * 3 + 0, none⟩) hbb).trans (HC.out i hil 0 (by omega))
      have c1 := (HZ.out.below.cell (p := ⟨bb, off + i * 3 + 1, none⟩) hbb).trans (HC.out i hil 1 (by omega))
      have c2 := (HZ.out.below.cell (p := ⟨bb, off + i * 3 + 2, none⟩) hbb).trans (HC.out i hil 2 (by omega))
      simp [encBd] at c0 c1 c2
      have gi : (i : Int) < (n : Int) := by omega
      have gi4 : (0 : Int) ≤ (i : Int) := by omega
      have okl := HOK.out l[i] (List.getElem_mem _)
      have dsn := sumQ_snoc (fun b => decide (b.s = 1)) (l.take i) l[i]
      rw [← take_snoc hil] at dsn
      have dbd := sumQ_bound (fun b => decide (b.s = 1)) (l := l.take i) (fun y hy => HOK.out y (List.mem_of_mem_take hy))
      have dnb := sumQ_bound (fun b => decide (b.s = 1 ∧ b.p + 1 = l[i].p + 1)) (l := l.take i) (fun y hy => HOK.out y (List.mem_of_mem_take hy))
      have upb := sumQ_bound (fun b => decide (b.s ≠ 1 ∧ b.p = l[i].p)) (l := l.take i) (fun y hy => HOK.out y (List.mem_of_mem_take hy))
      rw [List.length_take] at dbd dnb upb
      have hmin : min i l.length ≤ 4096 := by omega
      obtain ⟨d, hd⟩ : ∃ d, d = sumQ (fun b => decide (b.s = 1)) (l.take i) := ⟨_, rfl⟩
      rw [← hd] at dsn dbd ⊢
      obtain ⟨b, hx⟩ : ∃ b, b = l[i] := ⟨_, rfl⟩
      obtain ⟨dv, hdv⟩ : ∃ dv, dv = downF (l.take i) (b.p + 1) := ⟨_, rfl⟩
      obtain ⟨uv, huv⟩ : ∃ uv, uv = upF (l.take i) b.p := ⟨_, rfl⟩
      have dnb' : 0 ≤ dv ∧ dv ≤ 4096000000000 := by rw [hdv, hx]; unfold downF; omega
      have upb' : 0 ≤ uv ∧ uv ≤ 4096000000000 := by rw [huv, hx]; unfold upF; omega
      rw [← hx] at c0 c1 c2 okl dsn
      have HX := hid hx
      obtain ⟨ok1, ok2, ok3, ok4, ok5⟩ := okl
      have ed : IntKind.i64.wrap (d + b.q) = d + b.q := IntWalk.i64_in _ (by omega)
      have ep : IntKind.i64.wrap (b.p + 1) = b.p + 1 := IntWalk.i64_in _ (by omega)
      have edv : IntKind.i64.wrap (dv + b.q) = dv + b.q := IntWalk.i64_in _ (by omega)
      have euv : IntKind.i64.wrap (uv + b.q) = uv + b.q := IntWalk.i64_in _ (by omega)
      obtain ⟨wb, hwb⟩ : ∃ wb, wb = wr.alloc (.cells #[.int .i64 b.s, .int .i64 b.p, .int .i64 b.q] 32) := ⟨_, rfl⟩
      have ZB := HZ.out.alloc (.cells #[.int .i64 b.s, .int .i64 b.p, .int .i64 b.q] 32)
      rw [← hwb] at ZB
      have cb : Cells wb wr.heap.size #[.int .i64 b.s, .int .i64 b.p, .int .i64 b.q] 32 := by rw [hwb]; exact Cells.new wr _ _
      have hlb := cb.lt
      have w1 : (Lit.int .i64 (b.p + 1)).wf = true := WalkArith.wf_i64 (by omega)
      have w2 : (Lit.int .i64 b.p).wf = true := WalkArith.wf_i64 (by omega)
      have hdl := HZ.out.dn.lt
      have hul := HZ.out.up.lt
      have k0 : wb.cell? ⟨wr.heap.size, 0, none⟩ = some (.int .i64 b.s) := by rw [cb.cell]; rfl
      have k1 : wb.cell? ⟨wr.heap.size, 1, none⟩ = some (.int .i64 b.p) := by rw [cb.cell]; rfl
      have k2 : wb.cell? ⟨wr.heap.size, 2, none⟩ = some (.int .i64 b.q) := by rw [cb.cell]; rfl
      have lkd := ZB.dn.look w1
      have lku := ZB.up.look w2
      have HWB := hid hwb
      rw [← hdv] at lkd
      rw [← huv] at lku
      by_cases hs : b.s = 1
      · have e1 : (b.s == 1) = true := by simpa using hs
        obtain ⟨w4, r1, v5, w5, r2, z5, kd5, kk5⟩ := ZB.buy hil (by rw [← HN.out]; exact hl) hx hs w1 26
        rw [← hdv] at r1
        have cb4 := cb.kept kk5 (by omega)
        have l4 := cb4.lt
        have m1 : w4.cell? ⟨wr.heap.size, 1, none⟩ = some (.int .i64 b.p) := by rw [cb4.cell]; rfl
        have Z5 := hid z5
        have R2 := hid r2
        have DSN := hid (show sumQ (fun b => decide (b.s = 1)) (l.take (i + 1)) = d + b.q by rw [dsn]; simp [hs])
        clear hd hdv huv hx hwb hs r2 z5 kd5 kk5 cb4 cb ZB dsn dbd dnb upb
        go_upto_region 7 with fail
        rw [← HWB.out]
        go_wp2_with (at_builtin; refine wpList_append_run rfl (.tmp 38) (.tmp 42) 26 rfl _ _ v5 w5 rfl rfl R2.out ?_)
        go_roundg (n - (i + 1))
        · exact ⟨i + 1, by omega, by go_num, by rw [DSN.out], Z5.out⟩
        · have := HIK.out; omega
      · have e1 : (b.s == 1) = false := by simpa using hs
        obtain ⟨w4, r1, v5, w5, r2, z5, kd5, kk5⟩ := ZB.sell hil (by rw [← HN.out]; exact hl) hx hs w2 26
        rw [← huv] at r1
        have cb4 := cb.kept kk5 (by omega)
        have l4 := cb4.lt
        have m1 : w4.cell? ⟨wr.heap.size, 1, none⟩ = some (.int .i64 b.p) := by rw [cb4.cell]; rfl
        have Z5 := hid z5
        have R2 := hid r2
        have DSN := hid (show sumQ (fun b => decide (b.s = 1)) (l.take (i + 1)) = d by rw [dsn]; simp [hs])
        clear hd hdv huv hx hwb hs r2 z5 kd5 kk5 cb4 cb ZB dsn dbd dnb upb
        go_upto_region 7 with fail
        rw [← HWB.out]
        go_wp2_with (at_builtin; refine wpList_append_run rfl (.tmp 51) (.tmp 54) 26 rfl _ _ v5 w5 rfl rfl R2.out ?_)
        go_roundg (n - (i + 1))
        · exact ⟨i + 1, by omega, by go_num, by rw [DSN.out], Z5.out⟩
        · have := HIK.out; omega
    · have hin' : i = n := by have := HIK.out; omega
      subst hin'
      have g1 : decide ((i : Int) < (i : Int)) = false := by simp
      have SW := hid (sort_calls HZ.out.row (by simp; omega))
      go_wp2_with fail
      refine SW.out.mono ?_
      rintro e w2 ⟨rfl, hr2, hk2⟩
      have CS := hid (compact_calls hr2 (by rw [List.length_mergeSort]; first | (simp; done) | (simp; omega)) (fun h => by have := congrArg List.length h; rw [List.length_mergeSort] at this; simp at this))
      have K2 := hid hk2
      clear hr2 hk2 SW
      go_wp2_with fail
      refine CS.out.mono ?_
      rintro e w3 ⟨v3, rfl, hr3, ho3, hk3⟩
      have hll : l.length ≤ 4096 := by rw [← HN.out]; exact hl
      have S0 := hid (Z2.of HZ.out HN.out hll K2.out hk3 hr3)
      have DM := hid (show sumQ (fun b => decide (b.s = 1)) (l.take i) = dmd l (starts l) 0 by rw [dmd_zero, HN.out, List.take_length])
      clear hr3 ho3 hk3 CS K2 HZ
      obtain ⟨pS, cS, gS, hvS, hpS, hcS⟩ := OwnE.cells (enc := encI) (sz := 1) (fun _ => rfl) S0.out.row
      obtain ⟨rfl, hgS, hgl⟩ := hpS (starts_ne l)
      obtain ⟨N, hN2⟩ : ∃ N, N = (starts l).length := ⟨_, rfl⟩
      have HN2 := hid hN2
      rw [← hN2] at hvS
      subst hvS
      have hN6 : N ≤ 4097 := by have h1 := starts_len l; have h2 := HN2.out; omega
      rw [DM.out]
      clear hcS hN2
      obtain ⟨i0, hi0⟩ : ∃ i0 : Int, i0 = (i : Int) := ⟨_, rfl⟩
      rw [← hi0]
      clear hi0 g1
      go_upto_region 19 with fail
      go_loopg [63, 6, 9, 10] N (fun k s63 s6 s9 s10 wr => ∃ (j : Nat) (vo : Value), j + k = N ∧ vo = s10 ∧ s63 = .int .i64 j ∧ s6 = .int .i64 (dmd l (starts l) j) ∧ s9 = .int .i64 (spl l (starts l) j) ∧ Z2 w (w.heap.size + 1) (w.heap.size + 1 + 1) l (.slice (some ⟨gS, 0, none⟩) N cS) j wr vo)
      case atStart => exact ⟨0, _, by omega, rfl, rfl, rfl, by rw [spl_zero], S0.out⟩
      case round =>
        obtain ⟨j, vo, hjk, rfl, rfl, rfl, rfl, hz2⟩ := hrel
        have HJK := hid hjk
        have HZ2 := hid hz2
        clear hjk hz2
        by_cases hjn : j < N
        · have hjl : j < (starts l).length := by rw [← HN2.out]; exact hjn
          obtain ⟨hq, hgl2, _, hcS⟩ := OwnE.cellsAt (enc := encI) (sz := 1) (fun _ => rfl) HZ2.out.row
          clear hq
          have hc0 := hcS j hjl 0 (by omega)
          simp [encI] at hc0
          obtain ⟨x, hx⟩ : ∃ x, x = (starts l).getD j 0 := ⟨_, rfl⟩
          have hxe : x = (starts l)[j] := by rw [hx]; simp [hjl]
          rw [← hxe] at hc0
          have hxb := starts_bound HOK.out (x := x) (by rw [hxe]; exact List.getElem_mem _)
          have hwx : (Lit.int .i64 x).wf = true := WalkArith.wf_i64 (by omega)
          have lkd := HZ2.out.dn.look hwx
          have lku := HZ2.out.up.look hwx
          have D1 := dmd_step (l := l) (starts_spec l).1 hjl
          have U1 := spl_step (l := l) (starts_spec l).1 hjl
          have D2 := dmd_at (l := l) hjl
          have U2 := spl_at (l := l) hjl
          rw [← hx] at D1 U1 D2 U2
          have bD := sumQ_bound (buyT x) HOK.out
          have bU := sumQ_bound (selT x) HOK.out
          obtain ⟨dj, hdj⟩ : ∃ dj, dj = dmd l (starts l) j := ⟨_, rfl⟩
          obtain ⟨uj, huj⟩ : ∃ uj, uj = spl l (starts l) j := ⟨_, rfl⟩
          obtain ⟨dx, hdx⟩ : ∃ dx, dx = downF l x := ⟨_, rfl⟩
          obtain ⟨ux, hux⟩ : ∃ ux, ux = upF l x := ⟨_, rfl⟩
          obtain ⟨dk, hdk⟩ : ∃ dk, dk = dmd l (starts l) (j + 1) := ⟨_, rfl⟩
          obtain ⟨uk, huk⟩ : ∃ uk, uk = spl l (starts l) (j + 1) := ⟨_, rfl⟩
          rw [← hdx] at lkd
          rw [← hux] at lku
          rw [← hdj, ← hdx, ← hdk] at D1
          rw [← huj, ← hux, ← huk] at U1
          rw [← hdk] at D2
          rw [← huk] at U2
          have hll : l.length ≤ 4096 := by rw [← HN.out]; omega
          have ed : IntKind.i64.wrap (dj - dx) = dk := by rw [← D1]; refine IntWalk.i64_in _ ?_; rw [D2]; unfold dem; omega
          have eu : IntKind.i64.wrap (uj + ux) = uk := by rw [← U1]; refine IntWalk.i64_in _ ?_; rw [U2]; unfold sup; omega
          rw [← hdj, ← huj]
          have HDK := hid hdk
          have HUK := hid huk
          have HX := hid hx
          have HD2 := hid D2
          have HU2 := hid U2
          have gj : (j : Int) < (N : Int) := by omega
          have gj0 : (0 : Int) ≤ (j : Int) := by omega
          have ej : IntKind.i64.wrap ((j : Int) + 1) = ((j + 1 : Nat) : Int) := IntWalk.i64_in _ (by omega)
          have ZAT := hid (show zAt l (starts l) j = if x ≤ 1000000 then [⟨x, if j + 1 < N then (starts l).getD (j + 1) 0 - 1 else 1000000, dk, uk⟩] else [] by unfold zAt; rw [← hx, ← HN2.out, D2, U2])
          by_cases hjn2 : j + 1 < N
          · have hjl2 : j + 1 < (starts l).length := by rw [← HN2.out]; exact hjn2
            have hc1 := hcS (j + 1) hjl2 0 (by omega)
            simp [encI] at hc1
            obtain ⟨y, hy⟩ : ∃ y, y = (starts l).getD (j + 1) 0 := ⟨_, rfl⟩
            have hye : y = (starts l)[j + 1] := by rw [hy]; simp [hjl2]
            rw [← hye] at hc1
            have hyb := starts_bound HOK.out (x := y) (by rw [hye]; exact List.getElem_mem _)
            have ey : IntKind.i64.wrap (y - 1) = y - 1 := IntWalk.i64_in _ (by omega)
            have gj2 : ((j + 1 : Nat) : Int) < (N : Int) := by omega
            have gj3 : (0 : Int) ≤ ((j + 1 : Nat) : Int) := by omega
            have ZA2 := hid (show zAt l (starts l) j = if x ≤ 1000000 then [⟨x, y - 1, dk, uk⟩] else [] by rw [ZAT.out, if_pos hjn2, ← hy])
            clear hx hxe hdj huj hdx hux hdk huk D1 U1 D2 U2 bD bU hy hye hcS ZAT
            by_cases hxm : x ≤ 1000000
            · have ZA3 := hid (show zAt l (starts l) j = [⟨x, y - 1, dk, uk⟩] by rw [ZA2.out, if_pos hxm])
              obtain ⟨v5, w5, r5, z5⟩ := HZ2.out.app (by omega) ZA3.out 129
              have R5 := hid r5
              have Z5 := hid z5
              clear r5 z5
              go_wp2_with (at_builtin; refine wpList_append_run rfl (.tmp 91) (.tmp 97) 129 rfl _ _ v5 w5 rfl rfl R5.out ?_)
              go_roundg (N - (j + 1))
              · exact ⟨j + 1, _, by omega, rfl, by go_num, by rw [HDK.out], by rw [HUK.out], Z5.out⟩
              · have := HJK.out; omega
            · have ZA3 := hid (show zAt l (starts l) j = [] by rw [ZA2.out, if_neg hxm])
              go_wp2
              go_roundg (N - (j + 1))
              · exact ⟨j + 1, _, by omega, rfl, by go_num, by rw [HDK.out], by rw [HUK.out], HZ2.out.same ZA3.out⟩
              · have := HJK.out; omega
          · have gj2 : ¬ ((j + 1 : Nat) : Int) < (N : Int) := by omega
            have ZA2 := hid (show zAt l (starts l) j = if x ≤ 1000000 then [⟨x, 1000000, dk, uk⟩] else [] by rw [ZAT.out, if_neg hjn2])
            clear hx hxe hdj huj hdx hux hdk huk D1 U1 D2 U2 bD bU hcS ZAT
            by_cases hxm : x ≤ 1000000
            · have ZA3 := hid (show zAt l (starts l) j = [⟨x, 1000000, dk, uk⟩] by rw [ZA2.out, if_pos hxm])
              obtain ⟨v5, w5, r5, z5⟩ := HZ2.out.app (by omega) ZA3.out 129
              have R5 := hid r5
              have Z5 := hid z5
              clear r5 z5
              go_wp2_with (at_builtin; refine wpList_append_run rfl (.tmp 91) (.tmp 97) 129 rfl _ _ v5 w5 rfl rfl R5.out ?_)
              go_roundg (N - (j + 1))
              · exact ⟨j + 1, _, by omega, rfl, by go_num, by rw [HDK.out], by rw [HUK.out], Z5.out⟩
              · have := HJK.out; omega
            · have ZA3 := hid (show zAt l (starts l) j = [] by rw [ZA2.out, if_neg hxm])
              go_wp2
              go_roundg (N - (j + 1))
              · exact ⟨j + 1, _, by omega, rfl, by go_num, by rw [HDK.out], by rw [HUK.out], HZ2.out.same ZA3.out⟩
              · have := HJK.out; omega
        · have hj' : j = N := by have := HJK.out; omega
          subst hj'
          have g1 : decide ((j : Int) < (j : Int)) = false := by simp
          have FIN := hid (show R (.returned vo) wr by rw [HR.out]; exact ⟨_, rfl, by have := HZ2.out.out; unfold zonesL; rw [← HN2.out]; exact this, HZ2.out.below⟩)
          go_wp2
          first | exact FIN.out | (go_ret; exact FIN.out)
end Go.Proofs.YtepldjidkomclaaGreat.Ca
namespace Go.Proofs.YtepldjidkomclaaGreat.Ca
set_option linter.unusedSimpArgs false
set_option linter.unusedVariables false
open Go.RowKit Go.Shelf
attribute [local go_sem] Oper.semAt_some
attribute [local go_sem ↓] Go.wp_at_zero Go.wp_at_succ
def priceZ (Z : List Zn) (ref : Int) : Int :=
  let Z2 := keptF F2 (keptF F1 Z)
  let way := leanF Z2
  let z := (keptF (F3 way ref) Z2).getD 0 ⟨0, 0, 0, 0⟩
  if z.vol = 0 then 0 else z.pk way ref
theorem leastF_mem (F : Zn → Int) {Z : List Zn} (hne : Z ≠ []) : ∃ z ∈ Z, F z = leastF F Z := by
  have key : ∀ (l : List Zn) (a : Int), (∃ z ∈ l, F z = minTo F l a) ∨ minTo F l a = a := by
    intro l
    induction l with
    | nil => exact fun a => .inr rfl
    | cons y l ih =>
      intro a
      have h1 : minTo F (y :: l) a = minTo F l (min a (F y)) := rfl
      rw [h1]
      rcases ih (min a (F y)) with ⟨z, hz, e⟩ | e
      · exact .inl ⟨z, List.mem_cons_of_mem _ hz, e⟩
      · rw [e]
        by_cases h2 : a ≤ F y
        · right; omega
        · left; exact ⟨y, List.mem_cons_self, by omega⟩
  unfold leastF
  cases Z with
  | nil => exact absurd rfl hne
  | cons y l =>
    rcases key (y :: l) (F ((y :: l).getD 0 ⟨0, 0, 0, 0⟩)) with ⟨z, hz, e⟩ | e
    · exact ⟨z, hz, e⟩
    · exact ⟨y, List.mem_cons_self, by rw [e]; rfl⟩
theorem keptF_ne (F : Zn → Int) {Z : List Zn} (hne : Z ≠ []) : keptF F Z ≠ [] := by
  obtain ⟨z, hz, e⟩ := leastF_mem F hne
  intro h
  have : z ∈ keptF F Z := by unfold keptF; exact List.mem_filter.2 ⟨hz, by simpa using e⟩
  rw [h] at this
  cases this
theorem keptF_sub (F : Zn → Int) {Z : List Zn} {z : Zn} (h : z ∈ keptF F Z) : z ∈ Z := (List.mem_filter.1 h).1
theorem keptF_len (F : Zn → Int) (Z : List Zn) : (keptF F Z).length ≤ Z.length := List.length_filter_le _ _
theorem zonesL_ok {l : List Bd} (hl : l.length ≤ 4096) (hok : ∀ b ∈ l, b.ok) : (∀ z ∈ zonesL l, z.ok) ∧ (zonesL l).length ≤ 4097 := by
  refine ⟨fun z hz => ?_, ?_⟩
  · unfold zonesL zTo at hz
    obtain ⟨i, hi, hz⟩ := List.mem_flatMap.1 hz
    rw [List.mem_range] at hi
    unfold zAt at hz
    split at hz
    · rename_i hle
      rw [List.mem_singleton] at hz
      subst hz
      have hb : ∀ x, 0 ≤ dem l x ∧ dem l x ≤ 5000000000000 ∧ 0 ≤ sup l x ∧ sup l x ≤ 5000000000000 := fun x => by
        have h1 := sumQ_bound (buyT x) hok
        have h2 := sumQ_bound (selT x) hok
        unfold dem sup
        omega
      have hx := starts_bound hok (x := (starts l).getD i 0) (by simp [hi])
      obtain ⟨q1, q2, q3, q4⟩ := hb ((starts l).getD i 0)
      refine ⟨hx.1, ?_, ?_, q1, q2, q3, q4⟩
      · show (starts l).getD i 0 ≤ if i + 1 < (starts l).length then (starts l).getD (i + 1) 0 - 1 else 1000000
        split
        · rename_i h1
          have := List.pairwise_iff_getElem.1 (starts_spec l).1 i (i + 1) hi h1 (by omega)
          simp [hi, h1]
          omega
        · exact hle
      · show (if i + 1 < (starts l).length then (starts l).getD (i + 1) 0 - 1 else 1000000) ≤ 1000000
        split
        · rename_i h1
          have := starts_bound hok (x := (starts l).getD (i + 1) 0) (by simp [h1])
          omega
        · omega
    · cases hz
  · have h1 := zTo_len l (starts l) (starts l).length
    have h2 := starts_len l
    unfold zonesL
    omega
theorem zonesL_ne {l : List Bd} (hok : ∀ b ∈ l, b.ok) : zonesL l ≠ [] := by
  have h0 := starts_ne l
  have h1 : (starts l).getD 0 0 = 1 := by
    have hm : (1 : Int) ∈ starts l := ((starts_spec l).2 1).2 (.inl rfl)
    obtain ⟨j, hj, e⟩ := List.getElem_of_mem hm
    have hb := starts_bound hok (x := (starts l)[0]) (List.getElem_mem _)
    rcases Nat.eq_zero_or_pos j with q | q
    · subst q
      simp [h0, e]
    · have := List.pairwise_iff_getElem.1 (starts_spec l).1 0 j h0 hj q
      omega
  intro h
  have : zAt l (starts l) 0 = [] := by
    refine List.eq_nil_iff_forall_not_mem.2 fun z hz => ?_
    have : z ∈ zonesL l := by unfold zonesL zTo; exact List.mem_flatMap.2 ⟨0, by simpa using h0, hz⟩
    rw [h] at this
    cases this
  unfold zAt at this
  rw [h1] at this
  simp at this
end Go.Proofs.YtepldjidkomclaaGreat.Ca
namespace Go.Proofs.YtepldjidkomclaaGreat.Ca
set_option linter.unusedSimpArgs false
set_option linter.unusedVariables false
open Go.RowKit Go.Shelf
attribute [local go_sem] Oper.semAt_some
attribute [local go_sem ↓] Go.wp_at_zero Go.wp_at_succ
def Zi (ref : Int) (Z : List Zn) : Nat → List Zn
  | 0 => Z
  | 1 => keptF F1 Z
  | 2 => keptF F2 (keptF F1 Z)
  | _ => keptF (F3 (leanF (keptF F2 (keptF F1 Z))) ref) (keptF F2 (keptF F1 Z))
structure PrS (w0 : World) (LB WB RB FB : Nat) (ref : Int) (Z : List Zn) (i : Nat) (w : World) : Prop where
  left : ∃ v, Cells w LB #[v] 129 ∧ RowZ w0.heap.size w v (Zi ref Z i)
  way : Cells w WB #[.int .i64 (if i = 3 then leanF (Zi ref Z 2) else 0)] 3
  refc : Cells w RB #[.int .i64 ref] 2
  fns : Cells w FB #[.func (.func 63) #[] #[], .func (.func 65) #[] #[], .func (.func 68) #[] #[.pointer (some ⟨LB, 0, none⟩), .pointer (some ⟨WB, 0, none⟩), .pointer (some ⟨RB, 0, none⟩)]] 134
  below : Below w0.heap.size w0 w
  ge : w0.heap.size ≤ LB ∧ w0.heap.size ≤ WB
theorem PrS.next {w0 : World} {LB WB RB FB : Nat} {ref : Int} {Z : List Zn} {i : Nat} {w w9 : World} {v' : Value} (h : PrS w0 LB WB RB FB ref Z i w) (hr : RowZ w.heap.size w9 v' (Zi ref Z (i + 1))) (hk : Kept (fun k => k = WB) w w9) (hw : Cells w9 WB #[.int .i64 (if i + 1 = 3 then leanF (Zi ref Z 2) else 0)] 3) :
    PrS w0 LB WB RB FB ref Z (i + 1) (w9.setCell ⟨LB, 0, none⟩ v') := by
  obtain ⟨v, hl, _⟩ := h.left
  have hWL : LB ≠ WB := hl.ne h.way (by decide)
  have hWR : RB ≠ WB := h.refc.ne h.way (by decide)
  have hWF : FB ≠ WB := h.fns.ne h.way (by decide)
  have l9 := hl.kept hk hWL
  have hs : Kept (fun k => k = LB) w9 (w9.setCell ⟨LB, 0, none⟩ v') := (Kept.refl (fun k => k = LB) w9).set (C := LB) rfl _ _
  refine ⟨⟨v', l9.set 0 _, ?_⟩, hw.kept hs (Ne.symm hWL), (h.refc.kept hk hWR).kept hs (h.refc.ne hl (by decide)), (h.fns.kept hk hWF).kept hs (h.fns.ne hl (by decide)), h.below.trans (((hk.mono (Y := fun k => w0.heap.size ≤ k) (fun k e => by rw [e]; exact h.ge.2)).trans hs (fun k _ e => by rw [e]; exact h.ge.1)).below h.below.size (fun k hk => hk)), h.ge⟩
  refine OwnE.kept (hr.mono h.below.size) hs fun b hb e => ?_
  obtain ⟨cs, hcs⟩ := own_lt hr hb
  exact hcs.ne l9 (by decide) e
theorem Zi_ok {l : List Bd} (hl : l.length ≤ 4096) (hok : ∀ b ∈ l, b.ok) (ref : Int) (i : Nat) : (∀ z ∈ Zi ref (zonesL l) i, z.ok) ∧ (Zi ref (zonesL l) i).length ≤ 4097 ∧ Zi ref (zonesL l) i ≠ [] := by
  obtain ⟨h1, h2⟩ := zonesL_ok hl hok
  have h3 := zonesL_ne hok
  have k1 : (∀ z ∈ keptF F1 (zonesL l), z.ok) ∧ (keptF F1 (zonesL l)).length ≤ 4097 ∧ keptF F1 (zonesL l) ≠ [] := ⟨fun z hz => h1 z (keptF_sub _ hz), Nat.le_trans (keptF_len _ _) h2, keptF_ne _ h3⟩
  have k2 : (∀ z ∈ keptF F2 (keptF F1 (zonesL l)), z.ok) ∧ (keptF F2 (keptF F1 (zonesL l))).length ≤ 4097 ∧ keptF F2 (keptF F1 (zonesL l)) ≠ [] := ⟨fun z hz => k1.1 z (keptF_sub _ hz), Nat.le_trans (keptF_len _ _) k1.2.1, keptF_ne _ k1.2.2⟩
  match i with
  | 0 => exact ⟨h1, h2, h3⟩
  | 1 => exact k1
  | 2 => exact k2
  | i + 3 => exact ⟨fun z hz => k2.1 z (keptF_sub _ hz), Nat.le_trans (keptF_len _ _) k2.2.1, keptF_ne _ k2.2.2⟩
theorem PrS.round {w0 : World} {LB WB RB FB : Nat} {ref : Int} {l : List Bd} (hl : l.length ≤ 4096) (hok : ∀ b ∈ l, b.ok) (hr : 1 ≤ ref ∧ ref ≤ 1000000) {i : Nat} (hi : i < 3) {w : World} (h : PrS w0 LB WB RB FB ref (zonesL l) i w) :
    ∃ v fv, w.cell? ⟨LB, 0, none⟩ = some v ∧ w.cell? ⟨FB, i, none⟩ = some fv ∧ Calls Tryz.prog 71 #[v, fv] w fun e w' => ∃ v', e = .returned v' ∧ PrS w0 LB WB RB FB ref (zonesL l) (i + 1) (w'.setCell ⟨LB, 0, none⟩ v') ∧ (∃ p m c, v' = .slice p m c) ∧ (∃ u, w'.cell? ⟨LB, 0, none⟩ = some u) ∧ w'.frozen? ⟨LB, 0, none⟩ = false ∧ LB < w'.heap.size := by
  obtain ⟨v, hlc, hrow⟩ := h.left
  obtain ⟨zok, zlen, zne⟩ := Zi_ok hl hok ref i
  have hWL : LB ≠ WB := hlc.ne h.way (by decide)
  have hWR : RB ≠ WB := h.refc.ne h.way (by decide)
  have sform : ∀ {w' : World} {v' : Value} {L : List Zn}, RowZ w.heap.size w' v' L → ∃ p m c, v' = .slice p m c := fun h => by
    obtain ⟨p, c, h1, _⟩ := OwnE.form h
    exact ⟨p, _, c, h1⟩
  have tail : ∀ {w' : World}, Kept (fun k => k = WB) w w' → (∃ u, w'.cell? ⟨LB, 0, none⟩ = some u) ∧ w'.frozen? ⟨LB, 0, none⟩ = false ∧ LB < w'.heap.size := fun hk => by
    have l9 := hlc.kept hk hWL
    exact ⟨⟨v, by rw [l9.cell]; rfl⟩, l9.frozen 0, l9.lt⟩
  rcases (show i = 0 ∨ i = 1 ∨ i = 2 by omega) with rfl | rfl | rfl
  · refine ⟨v, _, by rw [hlc.cell]; rfl, by rw [h.fns.cell]; rfl, ?_⟩
    have fc := fnc_price1 (fun _ => True) (fun _ => True) (fun _ _ _ _ => trivial)
    refine (kept_calls hrow (by omega) zne fc (fun w z hi hz => fc.call w z hi hz) (fun _ _ _ _ => trivial) trivial zok (fun _ _ => trivial) (fun _ _ h => h)).mono ?_
    rintro e w' ⟨v', rfl, r', _, k'⟩
    have k2 := k'.mono (Y := fun k => k = WB) (fun _ h => h.elim)
    exact ⟨v', rfl, h.next r' k2 (h.way.kept k' (fun h => h)), sform r', tail k2⟩
  · refine ⟨v, _, by rw [hlc.cell]; rfl, by rw [h.fns.cell]; rfl, ?_⟩
    have fc := fnc_price2 (fun _ => True) (fun _ => True) (fun _ _ _ _ => trivial)
    refine (kept_calls hrow (by omega) zne fc (fun w z hi hz => fc.call w z hi hz) (fun _ _ _ _ => trivial) trivial zok (fun _ _ => trivial) (fun _ _ h => h)).mono ?_
    rintro e w' ⟨v', rfl, r', _, k'⟩
    have k2 := k'.mono (Y := fun k => k = WB) (fun _ h => h.elim)
    exact ⟨v', rfl, h.next r' k2 (h.way.kept k' (fun h => h)), sform r', tail k2⟩
  · refine ⟨v, _, by rw [hlc.cell]; rfl, by rw [h.fns.cell]; rfl, ?_⟩
    have p0 : P3 LB WB RB v (Zi ref (zonesL l) 2) ref w := ⟨hlc, hrow.mono (Nat.zero_le _), h.refc, _, h.way⟩
    have hlt : ∀ k, w.heap.size ≤ k → k ≠ LB ∧ k ≠ RB ∧ k ≠ WB ∧ ∀ g, v.ownBlock = some g → k ≠ g := fun k hk => ⟨by have := hlc.lt; omega, by have := h.refc.lt; omega, by have := h.way.lt; omega, fun g hg => by obtain ⟨cs, hcs⟩ := own_lt hrow hg; have := hcs.lt; omega⟩
    have st : ∀ w w' : World, P3 LB WB RB v (Zi ref (zonesL l) 2) ref w → Kept (fun k => k ≠ LB ∧ k ≠ RB ∧ k ≠ WB ∧ ∀ g, v.ownBlock = some g → k ≠ g) w w' → P3 LB WB RB v (Zi ref (zonesL l) 2) ref w' := fun w w' h hk => h.kept hk (fun h => h.1 rfl) (fun h => h.2.1 rfl) (fun h => h.2.2.1 rfl) (fun g hg h => h.2.2.2 g hg rfl)
    have fc : FnC (Value.int .i64) 68 #[.pointer (some ⟨LB, 0, none⟩), .pointer (some ⟨WB, 0, none⟩), .pointer (some ⟨RB, 0, none⟩)] (F3 (leanF (Zi ref (zonesL l) 2)) ref) (fun k => k = WB) (fun k => k ≠ LB ∧ k ≠ RB ∧ k ≠ WB ∧ ∀ g, v.ownBlock = some g → k ≠ g) (P3J LB WB RB v (Zi ref (zonesL l) 2) ref) Zn.ok := {
      eg := enters_of Tryz.func68 (by kernel_rfl) rfl
      call := fun w z hi hz => p3_calls hi.p3 hr (by omega) zok z hz
      stay := fun w w' hi hk => ⟨st w w' hi.p3 hk, hi.way.kept hk (fun h => h.2.2.1 rfl)⟩
      apart := fun k e h => h.2.2.1 e }
    refine (kept_calls hrow (by omega) zne fc (fun w z hi hz => p3_calls hi hr (by omega) zok z hz) st p0 zok hlt (fun g hg e => ?_)).mono ?_
    · obtain ⟨cs, hcs⟩ := own_lt hrow hg
      exact hcs.ne h.way (by decide) e
    · rintro e w' ⟨v', rfl, r', j', k'⟩
      exact ⟨v', rfl, h.next r' k' j'.way, sform r', tail k'⟩
end Go.Proofs.YtepldjidkomclaaGreat.Ca
namespace Go.Proofs.YtepldjidkomclaaGreat.Ca
set_option linter.unusedSimpArgs false
set_option linter.unusedVariables false
open Go.RowKit Go.Shelf
attribute [local go_sem] Oper.semAt_some
attribute [local go_sem ↓] Go.wp_at_zero Go.wp_at_succ
set_option maxRecDepth 100000 in
set_option maxHeartbeats 8000000 in
theorem price_calls {w : World} {v : Value} {l : List Bd} (hv : ReadsE encBd 3 w v l) (hl : l.length ≤ 4096) (hok : ∀ b ∈ l, b.ok) {ref : Int} (hr : 1 ≤ ref ∧ ref ≤ 1000000) :
    Calls Tryz.prog 29 #[v, .int .i64 ref] w fun e w' => e = .returned (.int .i64 (priceZ (zonesL l) ref)) ∧ Below w.heap.size w w' := by
  obtain ⟨R, hR⟩ : ∃ R : Ending → World → Prop, R = fun e w' => e = .returned (.int .i64 (priceZ (zonesL l) ref)) ∧ Below w.heap.size w w' := ⟨_, rfl⟩
  rw [← hR]
  have HR := hid hR
  obtain ⟨wb, hwb⟩ : ∃ wb, wb = w.alloc (.cells #[.int .i64 ref] 2) := ⟨_, rfl⟩
  have b1 : Below w.heap.size w wb := by rw [hwb]; exact (Below.refl _ _).alloc (Nat.le_refl _) _
  have cr : Cells wb w.heap.size #[.int .i64 ref] 2 := by rw [hwb]; exact Cells.new w _ _
  have ZC := hid (zones_calls (hv.below b1) hl hok)
  have ZO := hid (Zi_ok hl hok ref)
  have RD := hid (fun (LB WB RB FB i : Nat) (hi : i < 3) (wx : World) (h : PrS w LB WB RB FB ref (zonesL l) i wx) => h.round hl hok hr hi)
  have B1 := hid b1
  have CR := hid cr
  have lR := cr.lt
  have HWB := hid hwb
  have HRR := hid hr
  clear hR b1 cr hwb hok hv hr
  go_enter Tryz.func29, Tryz.ntmps29
  go_upto_region 1 with fail
  rw [← HWB.out]
  go_wp2_with fail
  refine ZC.out.mono ?_
  rintro e w2 ⟨v2, rfl, hz2, hb2⟩
  have B2 := hid hb2
  have Z2 := hid hz2
  have szb := hb2.size
  obtain ⟨p2, c2, hv2, _⟩ := hz2.form
  obtain ⟨n2, hn2⟩ : ∃ n2, n2 = (zonesL l).length := ⟨_, rfl⟩
  rw [← hn2] at hv2
  subst hv2
  clear hb2 hz2 hn2
  go_upto_region 3 with fail
  obtain ⟨w3, hw3⟩ : ∃ w3, w3 = (((w2.alloc (.cells #[.slice p2 n2 c2] 129)).alloc (.cells #[.int .i64 0] 3)).alloc (.cells #[.func (.func 63) #[] #[], .func (.func 65) #[] #[], .func (.func 68) #[] #[.pointer (some ⟨w2.heap.size, 0, none⟩), .pointer (some ⟨w2.heap.size + 1, 0, none⟩), .pointer (some ⟨w.heap.size, 0, none⟩)]] 134)) := ⟨_, rfl⟩
  have b3 : Below w2.heap.size w2 w3 := by rw [hw3]; exact (((Below.refl _ _).alloc (Nat.le_refl _) _).alloc (by simp) _).alloc (by simp; omega) _
  have a1 : Cells (w2.alloc (.cells #[.slice p2 n2 c2] 129)) w2.heap.size #[.slice p2 n2 c2] 129 := Cells.new w2 _ _
  have a2 := Cells.new (w2.alloc (.cells #[.slice p2 n2 c2] 129)) #[.int .i64 0] 3
  have a3 := Cells.new ((w2.alloc (.cells #[.slice p2 n2 c2] 129)).alloc (.cells #[.int .i64 0] 3)) #[.func (.func 63) #[] #[], .func (.func 65) #[] #[], .func (.func 68) #[] #[.pointer (some ⟨w2.heap.size, 0, none⟩), .pointer (some ⟨w2.heap.size + 1, 0, none⟩), .pointer (some ⟨w.heap.size, 0, none⟩)]] 134
  rw [World.size_alloc] at a2
  rw [World.size_alloc, World.size_alloc] at a3
  have S0 := hid (show PrS w w2.heap.size (w2.heap.size + 1) w.heap.size (w2.heap.size + 1 + 1) ref (zonesL l) 0 w3 by
    refine ⟨⟨_, by rw [hw3]; exact (a1.alloc _).alloc _, ?_⟩, by rw [hw3]; exact a2.alloc _, (CR.out.below B2.out lR).below b3 (by have := (CR.out.below B2.out lR).lt; omega), by rw [hw3]; exact a3, B1.out.trans ((B2.out.mono B1.out.size).trans (b3.mono (by have := B1.out.size; omega))), by have := B1.out.size; omega⟩
    exact (OwnE.below Z2.out b3).mono B1.out.size)
  rw [← hw3]
  have sz3 : w3.heap.size = w2.heap.size + 3 := by rw [hw3]; simp
  obtain ⟨LB, hLB⟩ : ∃ LB, LB = w2.heap.size := ⟨_, rfl⟩
  rw [← hLB] at S0 ⊢
  clear hw3 b3 a1 a2 a3 B2 Z2 CR hLB HWB B1 ZC
  go_upto_region 4 with fail
  go_loopg [16] 3 (fun k s16 wr => ∃ i : Nat, i + k = 3 ∧ s16 = .int .i64 i ∧ PrS w LB (LB + 1) w.heap.size (LB + 1 + 1) ref (zonesL l) i wr)
  case atStart => exact ⟨0, by omega, rfl, S0.out⟩
  case round =>
    obtain ⟨i, hik, rfl, ss⟩ := hrel
    have HIK := hid hik
    have SS := hid ss
    clear hik ss S0
    by_cases hin : i < 3
    · obtain ⟨v, fv, hc1, hc2, hcall⟩ := RD.out _ _ _ _ i hin wr SS.out
      have CALL := hid hcall
      obtain ⟨vv, hvc, _⟩ := SS.out.left
      have l1 := hvc.lt
      have l2 := SS.out.fns.lt
      have gi : (i : Int) < 3 := by omega
      have gi0 : (0 : Int) ≤ (i : Int) := by omega
      clear hcall hvc
      go_wp2_with fail
      refine CALL.out.mono ?_
      rintro e w5 ⟨v', rfl, ps, ⟨p5, m5, c5, rfl⟩, ⟨u5, hu5⟩, hf5, hl5⟩
      have PS := hid ps
      clear ps
      go_wp2
      go_roundg (3 - (i + 1))
      · exact ⟨i + 1, by omega, by go_num, PS.out⟩
      · have := HIK.out; omega
    · have hi3 : i = 3 := by have := HIK.out; omega
      subst hi3
      obtain ⟨v, hlc, hrow⟩ := SS.out.left
      obtain ⟨zok, zlen, zne⟩ := ZO.out 3
      obtain ⟨p6, cap6, hv6, hh6⟩ := hrow.form
      obtain ⟨n6, hn6⟩ : ∃ n6, n6 = (Zi ref (zonesL l) 3).length := ⟨_, rfl⟩
      rw [← hn6] at hv6
      rcases hh6 with ⟨_, h0⟩ | ⟨g, rfl, hgB, hgl⟩
      · exact absurd h0 zne
      subst hv6
      have hpos : 0 < (Zi ref (zonesL l) 3).length := List.length_pos_iff.2 zne
      obtain ⟨hnn6, _, _, hcell⟩ := OwnE.cellsAt encZn_len hrow
      obtain ⟨z, hz⟩ : ∃ z, z = (Zi ref (zonesL l) 3).getD 0 ⟨0, 0, 0, 0⟩ := ⟨_, rfl⟩
      have hz0 : z = (Zi ref (zonesL l) 3)[0] := by rw [hz]; simp [hpos]
      have zk : z.ok := by rw [hz0]; exact zok _ (List.getElem_mem _)
      have c0 := hcell 0 hpos 0 (by omega)
      have c1 := hcell 0 hpos 1 (by omega)
      have c2' := hcell 0 hpos 2 (by omega)
      have c3 := hcell 0 hpos 3 (by omega)
      simp [encZn] at c0 c1 c2' c3
      rw [← hz0] at c0 c1 c2' c3
      have p00 : (0 : Int) < (n6 : Int) := by omega
      have p01 : 0 < n6 := by omega
      have cw := SS.out.way
      rw [if_pos rfl] at cw
      obtain ⟨wy, hwy⟩ : ∃ wy, wy = leanF (Zi ref (zonesL l) 2) := ⟨_, rfl⟩
      rw [← hwy] at cw
      have m0 : wr.cell? ⟨LB, 0, none⟩ = some (.slice (some ⟨g, 0, none⟩) n6 cap6) := by rw [hlc.cell]; rfl
      have mW : wr.cell? ⟨LB + 1, 0, none⟩ = some (.int .i64 wy) := by rw [cw.cell]; rfl
      have mR : wr.cell? ⟨w.heap.size, 0, none⟩ = some (.int .i64 ref) := by rw [SS.out.refc.cell]; rfl
      have lL := hlc.lt
      have lW := cw.lt
      have lR3 := SS.out.refc.lt
      have VC := hid (fun wx => volume_calls z wx)
      unfold Zn.val at VC
      have PRI := hid (show priceZ (zonesL l) ref = if z.vol = 0 then 0 else z.pk wy ref by rw [hz, hwy]; rfl)
      have BB := hid SS.out.below
      obtain ⟨vo, hvo⟩ : ∃ vo, vo = z.vol := ⟨_, rfl⟩
      rw [← hvo] at VC PRI
      have CC := hid (show ∀ w', Below wr.heap.size wr w' → w'.cell? ⟨g, 0, none⟩ = some (.int .i64 z.f) ∧ w'.cell? ⟨g, 1, none⟩ = some (.int .i64 z.t) ∧ w'.cell? ⟨g, 2, none⟩ = some (.int .i64 z.d) ∧ w'.cell? ⟨g, 3, none⟩ = some (.int .i64 z.s) ∧ w'.cell? ⟨LB, 0, none⟩ = some (.slice (some ⟨g, 0, none⟩) n6 cap6) ∧ w'.cell? ⟨LB + 1, 0, none⟩ = some (.int .i64 wy) ∧ w'.cell? ⟨w.heap.size, 0, none⟩ = some (.int .i64 ref) from fun w' hk =>
        ⟨(hk.cell (p := ⟨g, 0, none⟩) hgl).trans c0, (hk.cell (p := ⟨g, 1, none⟩) hgl).trans c1, (hk.cell (p := ⟨g, 2, none⟩) hgl).trans c2', (hk.cell (p := ⟨g, 3, none⟩) hgl).trans c3, (hk.cell (p := ⟨LB, 0, none⟩) lL).trans m0, (hk.cell (p := ⟨LB + 1, 0, none⟩) lW).trans mW, (hk.cell (p := ⟨w.heap.size, 0, none⟩) lR3).trans mR⟩)
      clear hz hz0 hwy cw hlc hrow hcell zok hn6 hnn6 hpos hvo zk zlen
      go_upto_region 8 with fail
      go_wp2_with fail
      refine (VC.out _).mono ?_
      rintro e w5 ⟨rfl, hb5⟩
      obtain ⟨c0, c1, c2', c3, m0, mW, mR⟩ := CC.out _ hb5
      have B5 := hid hb5
      have s5 := hb5.size
      have hgl5 : g < w5.heap.size := by omega
      have lL5 : LB < w5.heap.size := by omega
      have lW5 : LB + 1 < w5.heap.size := by omega
      have lR5 : w.heap.size < w5.heap.size := by omega
      clear hb5
      by_cases hv0 : vo = 0
      · have e1 : (vo == 0) = true := by simpa using hv0
        have FIN := hid (show R (.returned (.int .i64 0)) w5 by
          rw [HR.out, PRI.out, if_pos hv0]
          exact ⟨rfl, BB.out.trans (B5.out.mono BB.out.size)⟩)
        clear hv0
        go_wp2
        first | exact FIN.out | (go_ret; exact FIN.out)
      · have e1 : (vo == 0) = false := by simpa using hv0
        have PK := hid (fun wx => pick_calls z wy ref wx)
        unfold Zn.val at PK
        have FIN := hid (show ∀ w6, Below w5.heap.size w5 w6 → R (.returned (.int .i64 (z.pk wy ref))) w6 from fun w6 hb => by
          rw [HR.out, PRI.out, if_neg hv0]
          exact ⟨rfl, BB.out.trans ((B5.out.mono BB.out.size).trans (hb.mono (Nat.le_trans BB.out.size B5.out.size)))⟩)
        have CC6 := hid (show ∀ w', Below w5.drew.heap.size w5.drew w' → w'.cell? ⟨g, 0, none⟩ = some (.int .i64 z.f) ∧ w'.cell? ⟨g, 1, none⟩ = some (.int .i64 z.t) ∧ w'.cell? ⟨g, 2, none⟩ = some (.int .i64 z.d) ∧ w'.cell? ⟨g, 3, none⟩ = some (.int .i64 z.s) ∧ w'.cell? ⟨LB, 0, none⟩ = some (.slice (some ⟨g, 0, none⟩) n6 cap6) ∧ w'.cell? ⟨LB + 1, 0, none⟩ = some (.int .i64 wy) ∧ w'.cell? ⟨w.heap.size, 0, none⟩ = some (.int .i64 ref) from fun w' hk =>
          ⟨(hk.cell (p := ⟨g, 0, none⟩) hgl5).trans c0, (hk.cell (p := ⟨g, 1, none⟩) hgl5).trans c1, (hk.cell (p := ⟨g, 2, none⟩) hgl5).trans c2', (hk.cell (p := ⟨g, 3, none⟩) hgl5).trans c3, (hk.cell (p := ⟨LB, 0, none⟩) lL5).trans m0, (hk.cell (p := ⟨LB + 1, 0, none⟩) lW5).trans mW, (hk.cell (p := ⟨w.heap.size, 0, none⟩) lR5).trans mR⟩)
        go_upto_region 10 with fail
        refine region_tail 5 (by kernel_rfl) (by kernel_rfl) ?_
        simp only [List.take_succ_cons, List.take_zero, List.drop_succ_cons, List.drop_zero]
        repeat still_step
        refine wpStill_nil ?_
        go_wp2_with fail
        refine (PK.out _).mono ?_
        rintro e w6 ⟨rfl, hb6⟩
        have FN := hid (show R (.returned (.int .i64 (z.pk wy ref))) w6 by
          first | exact FIN.out _ hb6 | exact FIN.out _ ((Below.refl w5.heap.size w5).drew.trans (hb6.mono (Below.refl w5.heap.size w5).drew.size)))
        clear hb6
        go_wp2
        first | exact FN.out | (go_ret; exact FN.out)
end Go.Proofs.YtepldjidkomclaaGreat.Ca
namespace Go.Proofs.YtepldjidkomclaaGreat.Ca
set_option linter.unusedSimpArgs false
set_option linter.unusedVariables false
open Go.RowKit Go.Shelf
attribute [local go_sem] Oper.semAt_some
attribute [local go_sem ↓] Go.wp_at_zero Go.wp_at_succ
theorem chk_zero {l : List Bd} (h : chk l = 0) : l.length ≤ 4096 ∧ ∀ b ∈ l, b.ok := by
  unfold chk at h
  split at h
  · cases h
  · split at h
    · rename_i h1 h2
      exact ⟨by omega, h2⟩
    · cases h
theorem inC_true {x : Int} (h : inC x 1 1000000 = true) : 1 ≤ x ∧ x ≤ 1000000 := by unfold inC at h; simpa using h
end Go.Proofs.YtepldjidkomclaaGreat.Ca
namespace Go.Proofs.YtepldjidkomclaaGreat.Ca
set_option linter.unusedSimpArgs false
set_option linter.unusedVariables false
open Go.RowKit
attribute [local go_sem] Oper.semAt_some
attribute [local go_sem ↓] Go.wp_at_zero Go.wp_at_succ
def fitF : List Bd → List Int → Prop
  | b :: l, x :: f => (0 ≤ x ∧ x ≤ b.q) ∧ fitF l f
  | _, _ => True
instance decFit : ∀ (l : List Bd) (f : List Int), Decidable (fitF l f)
  | b :: l, x :: f => by unfold fitF; exact @instDecidableAnd _ _ _ (decFit l f)
  | [], _ => by unfold fitF; infer_instance
  | _ :: _, [] => by unfold fitF; infer_instance
end Go.Proofs.YtepldjidkomclaaGreat.Ca
namespace Go.Proofs.YtepldjidkomclaaGreat.Ca
set_option linter.unusedSimpArgs false
set_option linter.unusedVariables false
open Go.RowKit
def bdZ : Bd := ⟨0, 0, 0⟩
def bAt (l : List Bd) (i : Int) : Bd := l.getD i.toNat bdZ
def pI (l : List Bd) (i : Int) : Int := (bAt l i).p
def qI (l : List Bd) (i : Int) : Int := (bAt l i).q
def part (sd x : Int) (b : Bd) : Bool := decide (b.s = sd) && b.takes x
def idsTo (l : List Bd) (sd x : Int) (n : Nat) : List Int := ((List.range n).map fun (k : Nat) => (k : Int)).filter fun k => part sd x (bAt l k)
def ids (l : List Bd) (sd x : Int) : List Int := idsTo l sd x l.length
theorem idsTo_succ (l : List Bd) (sd x : Int) (n : Nat) : idsTo l sd x (n + 1) = idsTo l sd x n ++ if part sd x (bAt l n) then [(n : Int)] else [] := by
  unfold idsTo
  rw [List.range_succ, List.map_append, List.filter_append]
  congr 1
  by_cases h : part sd x (bAt l n) = true
  · rw [if_pos h]; simp [h]
  · rw [if_neg h]; simp [h]
theorem mem_idsTo {l : List Bd} {sd x : Int} {n : Nat} {i : Int} : i ∈ idsTo l sd x n ↔ 0 ≤ i ∧ i < n ∧ part sd x (bAt l i) = true := by
  unfold idsTo
  rw [List.mem_filter]
  constructor
  · rintro ⟨h, h2⟩
    obtain ⟨k, hk, rfl⟩ := List.mem_map.1 h
    have := List.mem_range.1 hk
    exact ⟨by omega, by omega, h2⟩
  · rintro ⟨h1, h2, h3⟩
    exact ⟨List.mem_map.2 ⟨i.toNat, List.mem_range.2 (by omega), by omega⟩, h3⟩
theorem idsTo_len (l : List Bd) (sd x : Int) (n : Nat) : (idsTo l sd x n).length ≤ n := by
  unfold idsTo
  refine Nat.le_trans (List.length_filter_le _ _) (by simp)
theorem range_inc (n : Nat) : ((List.range n).map fun (k : Nat) => (k : Int)).Pairwise (· < ·) := by
  rw [List.pairwise_map]
  exact List.pairwise_lt_range.imp (by omega)
theorem ids_inc (l : List Bd) (sd x : Int) (n : Nat) : (idsTo l sd x n).Pairwise (· < ·) := (range_inc n).sublist List.filter_sublist
theorem inc_unique : ∀ {l m : List Int}, l.Pairwise (· < ·) → m.Pairwise (· < ·) → (∀ x, x ∈ l ↔ x ∈ m) → l = m
  | [], [], _, _, _ => rfl
  | [], y :: m, _, _, h => absurd ((h y).2 List.mem_cons_self) (by simp)
  | x :: l, [], _, _, h => absurd ((h x).1 List.mem_cons_self) (by simp)
  | x :: l, y :: m, hl, hm, h => by
    obtain ⟨l1, l2⟩ := List.pairwise_cons.1 hl
    obtain ⟨m1, m2⟩ := List.pairwise_cons.1 hm
    have e : x = y := by
      rcases List.mem_cons.1 ((h x).1 List.mem_cons_self) with q | q
      · exact q
      · rcases List.mem_cons.1 ((h y).2 List.mem_cons_self) with r | r
        · exact r.symm
        · have := m1 x q
          have := l1 y r
          omega
    subst e
    rw [inc_unique l2 m2 fun z => ⟨fun hz => by
      rcases List.mem_cons.1 ((h z).1 (List.mem_cons_of_mem _ hz)) with q | q
      · have := l1 z hz; omega
      · exact q, fun hz => by
      rcases List.mem_cons.1 ((h z).2 (List.mem_cons_of_mem _ hz)) with q | q
      · have := m1 z hz; omega
      · exact q⟩]
theorem sumI_app (l m : List Int) : sumI (l ++ m) = sumI l + sumI m := by
  induction l with
  | nil => simp [sumI]
  | cons y l ih => simp only [List.cons_append, sumI, ih]; omega
theorem sumI_perm {l m : List Int} (h : l.Perm m) : sumI l = sumI m := by
  induction h with
  | nil => rfl
  | cons x _ ih => simp only [sumI, ih]
  | swap x y l => simp only [sumI]; omega
  | trans _ _ i1 i2 => rw [i1, i2]
theorem sumI_nonneg {l : List Int} (h : ∀ x ∈ l, 0 ≤ x) : 0 ≤ sumI l := by
  induction l with
  | nil => simp [sumI]
  | cons x l ih =>
    have := ih fun y hy => h y (List.mem_cons_of_mem _ hy)
    have := h x List.mem_cons_self
    simp only [sumI]; omega
def cfS (l : List Bd) (sd : Int) (i j : Int) : Int := if sd = 1 then pI l j - pI l i else pI l i - pI l j
def bet (sd p p' : Int) : Prop := if sd = 1 then p' < p else p < p'
instance (sd p p' : Int) : Decidable (bet sd p p') := by unfold bet; infer_instance
theorem ltS (l : List Bd) (sd i j : Int) : ltC (cfS l sd) i j = decide (bet sd (pI l i) (pI l j)) := by
  unfold ltC
  rw [decide_eq_decide]
  unfold cfS bet
  split <;> omega
theorem bet.irr {sd p : Int} : ¬ bet sd p p := by unfold bet; split <;> omega
theorem bet.trans {sd a b c : Int} (h : bet sd a b) (g : bet sd b c) : bet sd a c := by unfold bet at *; by_cases hs : sd = 1 <;> simp only [if_pos, if_neg, hs, not_false_eq_true] at * <;> omega
theorem bet.asym {sd a b : Int} (h : bet sd a b) : ¬ bet sd b a := fun g => bet.irr (h.trans g)
theorem bet.tri {sd a b : Int} (h : ¬ bet sd a b) (hn : a ≠ b) : bet sd b a := by unfold bet at *; by_cases hs : sd = 1 <;> simp only [if_pos, if_neg, hs, not_false_eq_true] at * <;> omega
theorem bet.late {sd a b c : Int} (h : bet sd a b) (g : ¬ bet sd c b) : bet sd a c := by unfold bet at *; by_cases hs : sd = 1 <;> simp only [if_pos, if_neg, hs, not_false_eq_true] at * <;> omega
theorem bet.soon {sd a b c : Int} (g : ¬ bet sd b a) (h : bet sd b c) : bet sd a c := by unfold bet at *; by_cases hs : sd = 1 <;> simp only [if_pos, if_neg, hs, not_false_eq_true] at * <;> omega
theorem swoS (l : List Bd) (sd : Int) : Swo (ltC (cfS l sd)) := by
  refine ⟨fun a b h => ?_, fun a b c h => ?_⟩
  · rw [ltS] at h ⊢
    simpa using (of_decide_eq_true h).asym
  · rw [ltS] at h
    rw [ltS, ltS]
    have h := of_decide_eq_true h
    by_cases g : bet sd (pI l a) (pI l c)
    · exact .inl (by simpa using g)
    · refine .inr ?_
      simp only [decide_eq_true_eq]
      unfold bet at *
      by_cases hs : sd = 1 <;> simp only [if_pos, if_neg, hs, not_false_eq_true] at * <;> omega
def grp (l : List Bd) (sd x P : Int) : List Int := (ids l sd x).filter fun i => decide (pI l i = P)
def fore (l : List Bd) (sd x P : Int) : List Int := (ids l sd x).filter fun i => decide (bet sd (pI l i) P)
def qs (l : List Bd) (m : List Int) : List Int := m.map (qI l)
def gotG (l : List Bd) (sd x v P : Int) : Int := min (sumI (qs l (grp l sd x P))) (max 0 (v - sumI (qs l (fore l sd x P))))
def dealt (rule t : Int) (W : List Int) : List Int := if rule = 2 then splitL t W else byTimeF t W
theorem dealt_len (rule t : Int) (W : List Int) : (dealt rule t W).length = W.length := by
  unfold dealt; split
  · exact splitL_len _ _
  · exact byTimeF_len _ _
def fillF (l : List Bd) (sd x v rule i : Int) : Int := (dealt rule (gotG l sd x v (pI l i)) (qs l (grp l sd x (pI l i)))).getD ((grp l sd x (pI l i)).idxOf i) 0
structure Ord (l : List Bd) (sd x : Int) (f : Nat → Int) (L : Nat) : Prop where
  len : L = (ids l sd x).length
  good : Good (ltC (cfS l sd)) (fun k => (ids l sd x).getD k 0) f 0 L
namespace Ord
variable {l : List Bd} {sd x : Int} {f : Nat → Int} {L : Nat}
theorem perm (h : Ord l sd x f L) : (seg f 0 L).Perm (ids l sd x) := by
  refine h.good.perm.trans (List.Perm.of_eq ?_)
  apply List.ext_getElem
  · rw [seg_len, Nat.sub_zero, h.len]
  · intro i h1 h2
    rw [seg_get]; simp [h2]
theorem mem (h : Ord l sd x f L) {i : Int} : i ∈ ids l sd x ↔ ∃ k, k < L ∧ f k = i := by
  rw [← h.perm.mem_iff, mem_seg]
  exact ⟨fun ⟨k, _, k2, e⟩ => ⟨k, k2, e.symm⟩, fun ⟨k, k2, e⟩ => ⟨k, Nat.zero_le _, k2, e.symm⟩⟩
theorem at_ (h : Ord l sd x f L) {k : Nat} (hk : k < L) : 0 ≤ f k ∧ f k < l.length ∧ part sd x (bAt l (f k)) = true := mem_idsTo.1 (h.mem.2 ⟨k, hk, rfl⟩)
theorem le (h : Ord l sd x f L) {i j : Nat} (hij : i < j) (hj : j < L) : ¬ bet sd (pI l (f j)) (pI l (f i)) := by
  rcases h.good.srt i j (Nat.zero_le _) hij hj with q | ⟨q, _⟩
  · rw [ltS] at q
    exact (of_decide_eq_true q).asym
  · rw [ltS] at q
    exact of_decide_eq_false q
theorem early (h : Ord l sd x f L) {i j : Nat} (hij : i < j) (hj : j < L) (e : pI l (f i) = pI l (f j)) : f i < f j := by
  rcases h.good.srt i j (Nat.zero_le _) hij hj with q | ⟨_, q⟩
  · rw [ltS, e] at q
    exact absurd (of_decide_eq_true q) bet.irr
  · exact q
theorem inj (h : Ord l sd x f L) {i j : Nat} (hi : i < L) (hj : j < L) (e : f i = f j) : i = j := by
  rcases Nat.lt_trichotomy i j with q | q | q
  · have := h.early q hj (by rw [e]); omega
  · exact q
  · have := h.early q hi (by rw [e]); omega
def Edge (l : List Bd) (f : Nat → Int) (L a : Nat) : Prop := a = 0 ∨ a = L ∨ pI l (f (a - 1)) ≠ pI l (f a)
theorem ahead (h : Ord l sd x f L) {a k j : Nat} (ha : Edge l f L a) (hk : k < a) (hj : a ≤ j) (hjL : j < L) : bet sd (pI l (f k)) (pI l (f j)) := by
  rcases ha with q | q | q
  · omega
  · omega
  · have h1 : bet sd (pI l (f (a - 1))) (pI l (f a)) := bet.tri (h.le (by omega) (by omega)) (fun e => q e.symm)
    have h2 : bet sd (pI l (f (a - 1))) (pI l (f j)) := by
      rcases Nat.lt_or_ge a j with r | r
      · exact h1.late (h.le r hjL)
      · rw [show j = a by omega]; exact h1
    rcases Nat.lt_or_ge k (a - 1) with r | r
    · exact bet.soon (h.le r (by omega)) h2
    · rw [show k = a - 1 by omega]; exact h2
theorem parts (h : Ord l sd x f L) {a n : Nat} (hn : 0 < n) (hL : a + n ≤ L) (ha : Edge l f L a) (hb : Edge l f L (a + n)) (hsame : ∀ k, k < n → pI l (f (a + k)) = pI l (f a)) :
    seg f a (a + n) = grp l sd x (pI l (f a)) ∧ (fore l sd x (pI l (f a))).Perm (seg f 0 a) := by
  have hs : ∀ {k}, a ≤ k → k < a + n → pI l (f k) = pI l (f a) := fun {k} h1 h2 => by
    have := hsame (k - a) (by omega)
    rwa [show a + (k - a) = k by omega] at this
  have e0 : seg f 0 L = seg f 0 a ++ (seg f a (a + n) ++ seg f (a + n) L) := by
    rw [← seg_split f (show a ≤ a + n by omega) hL, ← seg_split f (Nat.zero_le a) (by omega)]
  constructor
  · refine inc_unique ?_ ((ids_inc l sd x _).sublist List.filter_sublist) fun i => ?_
    · unfold seg
      rw [List.pairwise_map]
      refine List.pairwise_iff_getElem.2 fun i j hi hj hij => ?_
      simp only [List.getElem_range]
      simp only [List.length_range] at hi hj
      exact h.early (by omega) (by omega) (by rw [hsame i (by omega), hsame j (by omega)])
    · unfold grp
      rw [mem_seg, List.mem_filter, h.mem]
      simp only [decide_eq_true_eq]
      constructor
      · rintro ⟨k, k1, k2, rfl⟩
        exact ⟨⟨k, by omega, rfl⟩, hs k1 k2⟩
      · rintro ⟨⟨k, k1, rfl⟩, e⟩
        refine ⟨k, ?_, ?_, rfl⟩
        · rcases Nat.lt_or_ge k a with q | q
          · have := h.ahead ha q (Nat.le_refl a) (by omega)
            rw [e] at this
            exact absurd this bet.irr
          · exact q
        · rcases Nat.lt_or_ge k (a + n) with q | q
          · exact q
          · have := h.ahead hb (k := a) (j := k) (by omega) q k1
            rw [e] at this
            exact absurd this bet.irr
  · unfold fore
    refine (h.perm.filter _).symm.trans (List.Perm.of_eq ?_)
    rw [e0, List.filter_append]
    have f1 : (seg f 0 a).filter (fun i => decide (bet sd (pI l i) (pI l (f a)))) = seg f 0 a := List.filter_eq_self.2 fun i hi => by
      obtain ⟨k, _, k2, rfl⟩ := mem_seg.1 hi
      simpa using h.ahead ha k2 (Nat.le_refl a) (by omega)
    have f2 : (seg f a (a + n) ++ seg f (a + n) L).filter (fun i => decide (bet sd (pI l i) (pI l (f a)))) = [] := List.filter_eq_nil_iff.2 fun i hi => by
      have : ∃ k, a ≤ k ∧ k < L ∧ i = f k := by
        rcases List.mem_append.1 hi with q | q
        · obtain ⟨k, k1, k2, e⟩ := mem_seg.1 q; exact ⟨k, k1, by omega, e⟩
        · obtain ⟨k, k1, k2, e⟩ := mem_seg.1 q; exact ⟨k, by omega, k2, e⟩
      obtain ⟨k, k1, k2, rfl⟩ := this
      simp only [decide_eq_true_eq]
      rcases Nat.lt_or_ge a k with q | q
      · exact h.le q k2
      · rw [show k = a by omega]; exact bet.irr
    rw [f1, f2, List.append_nil]
end Ord
theorem qs_len (l : List Bd) (m : List Int) : (qs l m).length = m.length := by simp [qs]
theorem qs_app (l : List Bd) (m m' : List Int) : qs l (m ++ m') = qs l m ++ qs l m' := by simp [qs]
def volF (l : List Bd) (f : Nat → Int) (v : Int) (a : Nat) : Int := max 0 (v - sumI (qs l (seg f 0 a)))
structure Served (l : List Bd) (sd x v rule : Int) (f : Nat → Int) (c : Nat) (h0 h : Nat → Int) : Prop where
  on : ∀ k, k < c → h (f k).toNat = fillF l sd x v rule (f k)
  off : ∀ i : Nat, (∀ k, k < c → f k ≠ (i : Int)) → h i = h0 i
theorem Served.start {l : List Bd} {sd x v rule : Int} {f : Nat → Int} (h0 : Nat → Int) : Served l sd x v rule f 0 h0 h0 := ⟨fun k hk => absurd hk (Nat.not_lt_zero k), fun _ _ => rfl⟩
theorem Served.next {l : List Bd} {sd x v rule : Int} {f : Nat → Int} {c L : Nat} {h0 h : Nat → Int} (o : Ord l sd x f L) (s : Served l sd x v rule f c h0 h) (hc : c < L) {m : Nat} (hm : f c = (m : Int)) {u : Int} (hu : u = fillF l sd x v rule (f c)) : Served l sd x v rule f (c + 1) h0 (fun k => if k = m then u else h k) := by
  refine ⟨fun k hk => ?_, fun i hi => ?_⟩
  · by_cases e : k = c
    · subst e
      rw [hm, Int.toNat_natCast, if_pos rfl, hu, hm]
    · have hne : (f k).toNat ≠ m := fun q => by
        have h1 := o.at_ (show k < L by omega)
        exact e (o.inj (by omega) hc (by omega))
      rw [if_neg hne]
      exact s.on k (by omega)
  · have : i ≠ m := fun e => hi c (Nat.lt_succ_self c) (by rw [hm, e])
    rw [if_neg this]
    exact s.off i fun k hk => hi k (by omega)
theorem fill_at {l : List Bd} {sd x v rule : Int} {f : Nat → Int} {L a n : Nat} (o : Ord l sd x f L) (hn : 0 < n) (hL : a + n ≤ L) (hs : seg f a (a + n) = grp l sd x (pI l (f a))) (hsame : ∀ k, k < n → pI l (f (a + k)) = pI l (f a)) {k : Nat} (hk : k < n) :
    fillF l sd x v rule (f (a + k)) = (dealt rule (gotG l sd x v (pI l (f a))) (qs l (seg f a (a + n)))).getD k 0 := by
  unfold fillF
  rw [hsame k hk, ← hs]
  congr 1
  have hlen : k < (seg f a (a + n)).length := by rw [seg_len]; omega
  have : f (a + k) = (seg f a (a + n))[k] := by rw [seg_get]
  rw [this]
  refine List.Nodup.idxOf_getElem ?_ k hlen
  rw [hs]
  exact (((ids_inc l sd x _).sublist List.filter_sublist).imp (fun h e => by omega))
theorem byTimeF_zero {W : List Int} (h : ∀ x ∈ W, 0 ≤ x) (k : Nat) : (byTimeF 0 W).getD k 0 = 0 := by
  induction W generalizing k with
  | nil => simp [byTimeF]
  | cons x W ih =>
    have hx := h x List.mem_cons_self
    have e : min x 0 = 0 := by omega
    simp only [byTimeF, e, Int.sub_zero]
    cases k with
    | zero => simp
    | succ k => simpa using ih (fun y hy => h y (List.mem_cons_of_mem _ hy)) k
theorem sumI_zeros {α : Type} (l : List α) : sumI (l.map fun _ => (0 : Int)) = 0 := by
  induction l with
  | nil => rfl
  | cons x l ih => simp only [List.map_cons, sumI, ih]; omega
theorem splitL_none (W : List Int) (k : Nat) : (splitL 0 W).getD k 0 = 0 := by
  by_cases hk : k < (splitL 0 W).length
  · have : (splitL 0 W).getD k 0 = (splitL 0 W)[k] := by simp [hk]
    rw [this, splitL_get]
    unfold shareF
    have e : (W.map fun x => 0 * x / sumI W) = W.map fun _ => (0 : Int) := by simp
    rw [e, sumI_zeros]
    split
    · rfl
    · simp
  · simp [Nat.le_of_not_lt hk]
theorem dealt_none {rule : Int} {W : List Int} (h : ∀ x ∈ W, 0 ≤ x) (k : Nat) : (dealt rule 0 W).getD k 0 = 0 := by
  unfold dealt; split
  · exact splitL_none W k
  · exact byTimeF_zero h k
theorem q_nonneg {l : List Bd} (hok : ∀ b ∈ l, b.ok) (i : Int) : 0 ≤ qI l i ∧ qI l i ≤ 1000000000 := by
  unfold qI bAt
  by_cases h : i.toNat < l.length
  · have := hok _ (List.getElem_mem h)
    have e : l.getD i.toNat bdZ = l[i.toNat] := by simp [h]
    rw [e]
    obtain ⟨_, _, _, h1, h2⟩ := this
    omega
  · have e : l.getD i.toNat bdZ = bdZ := by simp [Nat.le_of_not_lt h]
    rw [e]; simp [bdZ]
theorem qs_nonneg {l : List Bd} (hok : ∀ b ∈ l, b.ok) (m : List Int) : ∀ y ∈ qs l m, 0 ≤ y ∧ y ≤ 1000000000 := fun y hy => by
  obtain ⟨i, _, rfl⟩ := List.mem_map.1 hy
  exact q_nonneg hok i
theorem sum_sublist {l : List Bd} (hok : ∀ b ∈ l, b.ok) {m m' : List Int} (h : m.Sublist m') : sumI (qs l m) ≤ sumI (qs l m') := by
  induction h with
  | slnil => exact Int.le_refl _
  | cons a _ ih =>
    have := (q_nonneg hok a).1
    simp only [qs, List.map_cons, sumI] at ih ⊢; omega
  | cons_cons a _ ih => simp only [qs, List.map_cons, sumI] at ih ⊢; omega
theorem fill_none {l : List Bd} (hok : ∀ b ∈ l, b.ok) {sd x v rule : Int} {f : Nat → Int} {L a k : Nat} (o : Ord l sd x f L) (ha : Ord.Edge l f L a) (hv : v ≤ sumI (qs l (seg f 0 a))) (hk : a ≤ k) (hkL : k < L) : fillF l sd x v rule (f k) = 0 := by
  unfold fillF
  have hle : sumI (qs l (seg f 0 a)) ≤ sumI (qs l (fore l sd x (pI l (f k)))) := by
    have hp : (fore l sd x (pI l (f k))).Perm ((seg f 0 L).filter fun i => decide (bet sd (pI l i) (pI l (f k)))) := (o.perm.filter _).symm
    have hq : sumI (qs l (fore l sd x (pI l (f k)))) = sumI (qs l ((seg f 0 L).filter fun i => decide (bet sd (pI l i) (pI l (f k))))) := sumI_perm (hp.map _)
    rw [hq]
    refine sum_sublist hok ?_
    rw [seg_split f (Nat.zero_le a) (show a ≤ L by omega), List.filter_append]
    have f1 : (seg f 0 a).filter (fun i => decide (bet sd (pI l i) (pI l (f k)))) = seg f 0 a := List.filter_eq_self.2 fun i hi => by
      obtain ⟨j, _, j2, rfl⟩ := mem_seg.1 hi
      simpa using o.ahead ha j2 hk hkL
    rw [f1]
    exact List.sublist_append_left _ _
  have hS : 0 ≤ sumI (qs l (grp l sd x (pI l (f k)))) := sumI_nonneg fun y hy => (qs_nonneg hok _ y hy).1
  have hg : gotG l sd x v (pI l (f k)) = 0 := by unfold gotG; omega
  rw [hg]
  exact dealt_none (fun y hy => (qs_nonneg hok _ y hy).1) _
def servedF (l : List Bd) (sd x v rule : Int) (h0 : Nat → Int) : Nat → Int := fun i => if part sd x (bAt l i) = true then fillF l sd x v rule i else h0 i
theorem served_end {l : List Bd} (hok : ∀ b ∈ l, b.ok) {sd x v rule : Int} {f : Nat → Int} {L a : Nat} {h0 h : Nat → Int} (o : Ord l sd x f L) (ha : Ord.Edge l f L a) (haL : a ≤ L) (s : Served l sd x v rule f a h0 h) (hz : ∀ i : Nat, i < l.length → part sd x (bAt l i) = true → h0 i = 0) (hend : a = L ∨ v ≤ sumI (qs l (seg f 0 a))) (i : Nat) (hi : i < l.length) : h i = servedF l sd x v rule h0 i := by
  unfold servedF
  by_cases hp : part sd x (bAt l i) = true
  · rw [if_pos hp]
    obtain ⟨k, hk, e⟩ := o.mem.1 (mem_idsTo.2 ⟨by omega, by omega, hp⟩ : (i : Int) ∈ ids l sd x)
    rcases Nat.lt_or_ge k a with q | q
    · have := s.on k q
      rw [e] at this
      simpa using this
    · rw [s.off i fun j hj e2 => by have := o.inj (show j < L by omega) hk (by rw [e2, e]); omega, hz i hi hp]
      rcases hend with r | r
      · omega
      · rw [← e]
        exact (fill_none hok o ha r q hk).symm
  · rw [if_neg hp]
    exact s.off i fun k hk e => hp (by have := (o.at_ (show k < L by omega)).2.2; rwa [e] at this)
end Go.Proofs.YtepldjidkomclaaGreat.Ca
