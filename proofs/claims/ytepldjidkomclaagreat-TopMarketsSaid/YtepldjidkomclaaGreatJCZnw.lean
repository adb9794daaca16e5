/- call.zones: walked. call.price. call.price: walked. call.price: the walk. call.At, call.Price, call.Best. call.Gain. -/
import Derived.Test.YtepldjidkomclaaGreatJCZmap
import Derived.Test.YtepldjidkomclaaGreatJCZg
import Derived.Test.YtepldjidkomclaaGreatJCSo5
import Derived.Test.YtepldjidkomclaaGreatJCSv2
namespace Go.Proofs.YtepldjidkomclaaGreat.Ca
set_option linter.unusedSimpArgs false
set_option linter.unusedVariables false
open Go.RowKit Go.Maps
attribute [local go_sem] Oper.semAt_some
attribute [local go_sem ↓] Go.wp_at_zero Go.wp_at_succ
def ZonesP (w : World) (l : List Bd) (e : Ending) (w' : World) : Prop := ∃ v, e = .returned v ∧ RowZ w.heap.size w' v (zonesL l) ∧ Below w.heap.size w w'

set_option maxRecDepth 100000 in
set_option maxHeartbeats 8000000 in
theorem zones_calls {w : World} {v : Value} {l : List Bd} (hv : ReadsE encBd 3 w v l) (hl : l.length ≤ 4096) (hok : ∀ b ∈ l, b.ok) :
    Calls Tryz.prog 62 #[v] w (ZonesP w l) := by
  obtain ⟨hm, p, cap, bb, off, rfl, hp, hc⟩ := hv
  obtain ⟨R, hR⟩ : ∃ R, R = ZonesP w l := ⟨_, rfl⟩
  obtain ⟨n, hn⟩ : ∃ n, n = l.length := ⟨_, rfl⟩
  rw [← hn] at hp hm hl ⊢
  rw [← hR]
  have HR := hid hR
  have HN := hid hn
  have HP := hid hp
  have HC := hid hc
  have HOK := hid hok
  have Z0 := hid (show ∀ wx, wx = ((w.alloc (.cells #[.int .i64 1] 2)).alloc (.map #[] 0)).alloc (.map #[] 0) → Z1 w (w.heap.size + 1) (w.heap.size + 1 + 1) l 0 wx (.slice (some ⟨w.heap.size, 0, none⟩) 1 1) by
    rintro wx rfl
    have b1 : Below w.heap.size w (w.alloc (.cells #[.int .i64 1] 2)) := (Below.refl _ _).alloc (Nat.le_refl _) _
    have r1 : RowI w.heap.size (w.alloc (.cells #[.int .i64 1] 2)) (.slice (some ⟨w.heap.size, 0, none⟩) 1 1) [1] := OwnE.new w (Nat.le_refl _) 1 rfl _ rfl
    have m1 := MapF.new (w.alloc (.cells #[.int .i64 1] 2))
    have m2 := MapF.new ((w.alloc (.cells #[.int .i64 1] 2)).alloc (.map #[] 0))
    rw [World.size_alloc] at m1
    rw [World.size_alloc, World.size_alloc] at m2
    refine ⟨(r1.alloc _).alloc _, m2.congr fun k => rfl, (m1.below ((Below.refl _ _).alloc (Nat.le_refl _) _)).congr fun k => rfl, (b1.alloc (by simp) _).alloc (by simp; omega) _, by omega, by omega, by omega⟩)
  clear hR hn hp hc hok
  have hmm := @run_makeMap Tryz.prog
  go_enter Tryz.func62, Tryz.ntmps62
  go_upto_region 5 with fail
  have Z00 := hid (Z0.out _ rfl)
  clear Z0 hmm
  go_loopg [19, 3, 6] n (fun k s19 s3 s6 wr => ∃ i : Nat, i + k = n ∧ s19 = .int .i64 i ∧ s6 = .int .i64 (sumQ (fun b => decide (b.s = 1)) (l.take i)) ∧ Z1 w (w.heap.size + 1) (w.heap.size + 1 + 1) l i wr s3)
  case atStart => exact ⟨0, by omega, rfl, rfl, Z00.out⟩
  case round =>
    obtain ⟨i, hik, rfl, rfl, hz⟩ := hrel
    have HIK := hid hik
    have HZ := hid hz
    clear hik hz Z00
    by_cases hin : i < n
    · have hil : i < l.length := by rw [← HN.out]; exact hin
      obtain ⟨rfl, hbb⟩ := HP.out (by omega)
      have c0 := (HZ.out.below.cell (p := ⟨bb, off + i * 3 + 0, none⟩) hbb).trans (HC.out i hil 0 (by omega))
      have c1 := (HZ.out.below.cell (p := ⟨bb, off + i * 3 + 1, none⟩) hbb).trans (HC.out i hil 1 (by omega))
      have c2 := (HZ.out.below.cell (p := ⟨bb, off + i * 3 + 2, none⟩) hbb).trans (HC.out i hil 2 (by omega))
      simp [encBd] at c0 c1 c2
      have gi : (i : Int) < (n : Int) := by omega
      have gi4 : (0 : Int) ≤ (i : Int) := by omega
      have okl := HOK.out l[i] (List.getElem_mem _)
      have dsn := sumQ_snoc (fun b => decide (b.s = 1)) (l.take i) l[i]
      rw [← take_snoc hil] at dsn
      have dbd := sumQ_bound (fun b => decide (b.s = 1)) (l := l.take i) (fun y hy => HOK.out y (List.mem_of_mem_take hy))
      have dnb := sumQ_bound (fun b => decide (b.s = 1 ∧ b.p + 1 = l[i].p + 1)) (l := l.take i) (fun y hy => HOK.out y (List.mem_of_mem_take hy))
      have upb := sumQ_bound (fun b => decide (b.s ≠ 1 ∧ b.p = l[i].p)) (l := l.take i) (fun y hy => HOK.out y (List.mem_of_mem_take hy))
      rw [List.length_take] at dbd dnb upb
      have hmin : min i l.length ≤ 4096 := by omega
      obtain ⟨d, hd⟩ : ∃ d, d = sumQ (fun b => decide (b.s = 1)) (l.take i) := ⟨_, rfl⟩
      rw [← hd] at dsn dbd ⊢
      obtain ⟨b, hx⟩ : ∃ b, b = l[i] := ⟨_, rfl⟩
      obtain ⟨dv, hdv⟩ : ∃ dv, dv = downF (l.take i) (b.p + 1) := ⟨_, rfl⟩
      obtain ⟨uv, huv⟩ : ∃ uv, uv = upF (l.take i) b.p := ⟨_, rfl⟩
      have dnb' : 0 ≤ dv ∧ dv ≤ 4096000000000 := by rw [hdv, hx]; unfold downF; omega
      have upb' : 0 ≤ uv ∧ uv ≤ 4096000000000 := by rw [huv, hx]; unfold upF; omega
      rw [← hx] at c0 c1 c2 okl dsn
      have HX := hid hx
      obtain ⟨ok1, ok2, ok3, ok4, ok5⟩ := okl
      have ed : IntKind.i64.wrap (d + b.q) = d + b.q := IntWalk.i64_in _ (by omega)
      have ep : IntKind.i64.wrap (b.p + 1) = b.p + 1 := IntWalk.i64_in _ (by omega)
      have edv : IntKind.i64.wrap (dv + b.q) = dv + b.q := IntWalk.i64_in _ (by omega)
      have euv : IntKind.i64.wrap (uv + b.q) = uv + b.q := IntWalk.i64_in _ (by omega)
      obtain ⟨wb, hwb⟩ : ∃ wb, wb = wr.alloc (.cells #[.int .i64 b.s, .int .i64 b.p, .int .i64 b.q] 32) := ⟨_, rfl⟩
      have ZB := HZ.out.alloc (.cells #[.int .i64 b.s, .int .i64 b.p, .int .i64 b.q] 32)
      rw [← hwb] at ZB
      have cb : Cells wb wr.heap.size #[.int .i64 b.s, .int .i64 b.p, .int .i64 b.q] 32 := by rw [hwb]; exact Cells.new wr _ _
      have hlb := cb.lt
      have w1 : (Lit.int .i64 (b.p + 1)).wf = true := WalkArith.wf_i64 (by omega)
      have w2 : (Lit.int .i64 b.p).wf = true := WalkArith.wf_i64 (by omega)
      have hdl := HZ.out.dn.lt
      have hul := HZ.out.up.lt
      have k0 : wb.cell? ⟨wr.heap.size, 0, none⟩ = some (.int .i64 b.s) := by rw [cb.cell]; rfl
      have k1 : wb.cell? ⟨wr.heap.size, 1, none⟩ = some (.int .i64 b.p) := by rw [cb.cell]; rfl
      have k2 : wb.cell? ⟨wr.heap.size, 2, none⟩ = some (.int .i64 b.q) := by rw [cb.cell]; rfl
      have lkd := ZB.dn.look w1
      have lku := ZB.up.look w2
      have HWB := hid hwb
      rw [← hdv] at lkd
      rw [← huv] at lku
      by_cases hs : b.s = 1
      · have e1 : (b.s == 1) = true := by simpa using hs
        obtain ⟨w4, r1, v5, w5, r2, z5, kd5, kk5⟩ := ZB.buy hil (by rw [← HN.out]; exact hl) hx hs w1 26
        rw [← hdv] at r1
        have cb4 := cb.kept kk5 (by omega)
        have l4 := cb4.lt
        have m1 : w4.cell? ⟨wr.heap.size, 1, none⟩ = some (.int .i64 b.p) := by rw [cb4.cell]; rfl
        have Z5 := hid z5
        have R2 := hid r2
        have DSN := hid (show sumQ (fun b => decide (b.s = 1)) (l.take (i + 1)) = d + b.q by rw [dsn]; simp [hs])
        clear hd hdv huv hx hwb hs r2 z5 kd5 kk5 cb4 cb ZB dsn dbd dnb upb
        go_upto_region 7 with fail
        rw [← HWB.out]
        go_wp2_with (at_builtin; refine wpList_append_run rfl (.tmp 38) (.tmp 42) 26 rfl _ _ v5 w5 rfl rfl R2.out ?_)
        go_roundg (n - (i + 1))
        · exact ⟨i + 1, by omega, by go_num, by rw [DSN.out], Z5.out⟩
        · have := HIK.out; omega
      · have e1 : (b.s == 1) = false := by simpa using hs
        obtain ⟨w4, r1, v5, w5, r2, z5, kd5, kk5⟩ := ZB.sell hil (by rw [← HN.out]; exact hl) hx hs w2 26
        rw [← huv] at r1
        have cb4 := cb.kept kk5 (by omega)
        have l4 := cb4.lt
        have m1 : w4.cell? ⟨wr.heap.size, 1, none⟩ = some (.int .i64 b.p) := by rw [cb4.cell]; rfl
        have Z5 := hid z5
        have R2 := hid r2
        have DSN := hid (show sumQ (fun b => decide (b.s = 1)) (l.take (i + 1)) = d by rw [dsn]; simp [hs])
        clear hd hdv huv hx hwb hs r2 z5 kd5 kk5 cb4 cb ZB dsn dbd dnb upb
        go_upto_region 7 with fail
        rw [← HWB.out]
        go_wp2_with (at_builtin; refine wpList_append_run rfl (.tmp 51) (.tmp 54) 26 rfl _ _ v5 w5 rfl rfl R2.out ?_)
        go_roundg (n - (i + 1))
        · exact ⟨i + 1, by omega, by go_num, by rw [DSN.out], Z5.out⟩
        · have := HIK.out; omega
    · have hin' : i = n := by have := HIK.out; omega
      subst hin'
      have g1 : decide ((i : Int) < (i : Int)) = false := by simp
      have SW := hid (sort_calls HZ.out.row (by simp; omega))
      go_wp2_with fail
      refine SW.out.mono ?_
      rintro e w2 ⟨rfl, hr2, hk2⟩
      have CS := hid (compact_calls hr2 (by rw [List.length_mergeSort]; first | (simp; done) | (simp; omega)) (fun h => by have := congrArg List.length h; rw [List.length_mergeSort] at this; simp at this))
      have K2 := hid hk2
      clear hr2 hk2 SW
      go_wp2_with fail
      refine CS.out.mono ?_
      rintro e w3 ⟨v3, rfl, hr3, ho3, hk3⟩
      have hll : l.length ≤ 4096 := by rw [← HN.out]; exact hl
      have S0 := hid (Z2.of HZ.out HN.out hll K2.out hk3 hr3)
      have DM := hid (show sumQ (fun b => decide (b.s = 1)) (l.take i) = dmd l (starts l) 0 by rw [dmd_zero, HN.out, List.take_length])
      clear hr3 ho3 hk3 CS K2 HZ
      obtain ⟨pS, cS, gS, hvS, hpS, hcS⟩ := OwnE.cells (enc := encI) (sz := 1) (fun _ => rfl) S0.out.row
      obtain ⟨rfl, hgS, hgl⟩ := hpS (starts_ne l)
      obtain ⟨N, hN2⟩ : ∃ N, N = (starts l).length := ⟨_, rfl⟩
      have HN2 := hid hN2
      rw [← hN2] at hvS
      subst hvS
      have hN6 : N ≤ 4097 := by have h1 := starts_len l; have h2 := HN2.out; omega
      rw [DM.out]
      clear hcS hN2
      obtain ⟨i0, hi0⟩ : ∃ i0 : Int, i0 = (i : Int) := ⟨_, rfl⟩
      rw [← hi0]
      clear hi0 g1
      go_upto_region 19 with fail
      go_loopg [63, 6, 9, 10] N (fun k s63 s6 s9 s10 wr => ∃ (j : Nat) (vo : Value), j + k = N ∧ vo = s10 ∧ s63 = .int .i64 j ∧ s6 = .int .i64 (dmd l (starts l) j) ∧ s9 = .int .i64 (spl l (starts l) j) ∧ Z2 w (w.heap.size + 1) (w.heap.size + 1 + 1) l (.slice (some ⟨gS, 0, none⟩) N cS) j wr vo)
      case atStart => exact ⟨0, _, by omega, rfl, rfl, rfl, by rw [spl_zero], S0.out⟩
      case round =>
        obtain ⟨j, vo, hjk, rfl, rfl, rfl, rfl, hz2⟩ := hrel
        have HJK := hid hjk
        have HZ2 := hid hz2
        clear hjk hz2
        by_cases hjn : j < N
        · have hjl : j < (starts l).length := by rw [← HN2.out]; exact hjn
          obtain ⟨hq, hgl2, _, hcS⟩ := OwnE.cellsAt (enc := encI) (sz := 1) (fun _ => rfl) HZ2.out.row
          clear hq
          have hc0 := hcS j hjl 0 (by omega)
          simp [encI] at hc0
          obtain ⟨x, hx⟩ : ∃ x, x = (starts l).getD j 0 := ⟨_, rfl⟩
          have hxe : x = (starts l)[j] := by rw [hx]; simp [hjl]
          rw [← hxe] at hc0
          have hxb := starts_bound HOK.out (x := x) (by rw [hxe]; exact List.getElem_mem _)
          have hwx : (Lit.int .i64 x).wf = true := WalkArith.wf_i64 (by omega)
          have lkd := HZ2.out.dn.look hwx
          have lku := HZ2.out.up.look hwx
          have D1 := dmd_step (l := l) (starts_spec l).1 hjl
          have U1 := spl_step (l := l) (starts_spec l).1 hjl
          have D2 := dmd_at (l := l) hjl
          have U2 := spl_at (l := l) hjl
          rw [← hx] at D1 U1 D2 U2
          have bD := sumQ_bound (buyT x) HOK.out
          have bU := sumQ_bound (selT x) HOK.out
          obtain ⟨dj, hdj⟩ : ∃ dj, dj = dmd l (starts l) j := ⟨_, rfl⟩
          obtain ⟨uj, huj⟩ : ∃ uj, uj = spl l (starts l) j := ⟨_, rfl⟩
          obtain ⟨dx, hdx⟩ : ∃ dx, dx = downF l x := ⟨_, rfl⟩
          obtain ⟨ux, hux⟩ : ∃ ux, ux = upF l x := ⟨_, rfl⟩
          obtain ⟨dk, hdk⟩ : ∃ dk, dk = dmd l (starts l) (j + 1) := ⟨_, rfl⟩
          obtain ⟨uk, huk⟩ : ∃ uk, uk = spl l (starts l) (j + 1) := ⟨_, rfl⟩
          rw [← hdx] at lkd
          rw [← hux] at lku
          rw [← hdj, ← hdx, ← hdk] at D1
          rw [← huj, ← hux, ← huk] at U1
          rw [← hdk] at D2
          rw [← huk] at U2
          have hll : l.length ≤ 4096 := by rw [← HN.out]; omega
          have ed : IntKind.i64.wrap (dj - dx) = dk := by rw [← D1]; refine IntWalk.i64_in _ ?_; rw [D2]; unfold dem; omega
          have eu : IntKind.i64.wrap (uj + ux) = uk := by rw [← U1]; refine IntWalk.i64_in _ ?_; rw [U2]; unfold sup; omega
          rw [← hdj, ← huj]
          have HDK := hid hdk
          have HUK := hid huk
          have HX := hid hx
          have HD2 := hid D2
          have HU2 := hid U2
          have gj : (j : Int) < (N : Int) := by omega
          have gj0 : (0 : Int) ≤ (j : Int) := by omega
          have ej : IntKind.i64.wrap ((j : Int) + 1) = ((j + 1 : Nat) : Int) := IntWalk.i64_in _ (by omega)
          have ZAT := hid (show zAt l (starts l) j = if x ≤ 1000000 then [⟨x, if j + 1 < N then (starts l).getD (j + 1) 0 - 1 else 1000000, dk, uk⟩] else [] by unfold zAt; rw [← hx, ← HN2.out, D2, U2])
          by_cases hjn2 : j + 1 < N
          · have hjl2 : j + 1 < (starts l).length := by rw [← HN2.out]; exact hjn2
            have hc1 := hcS (j + 1) hjl2 0 (by omega)
            simp [encI] at hc1
            obtain ⟨y, hy⟩ : ∃ y, y = (starts l).getD (j + 1) 0 := ⟨_, rfl⟩
            have hye : y = (starts l)[j + 1] := by rw [hy]; simp [hjl2]
            rw [← hye] at hc1
            have hyb := starts_bound HOK.out (x := y) (by rw [hye]; exact List.getElem_mem _)
            have ey : IntKind.i64.wrap (y - 1) = y - 1 := IntWalk.i64_in _ (by omega)
            have gj2 : ((j + 1 : Nat) : Int) < (N : Int) := by omega
            have gj3 : (0 : Int) ≤ ((j + 1 : Nat) : Int) := by omega
            have ZA2 := hid (show zAt l (starts l) j = if x ≤ 1000000 then [⟨x, y - 1, dk, uk⟩] else [] by rw [ZAT.out, if_pos hjn2, ← hy])
            clear hx hxe hdj huj hdx hux hdk huk D1 U1 D2 U2 bD bU hy hye hcS ZAT
            by_cases hxm : x ≤ 1000000
            · have ZA3 := hid (show zAt l (starts l) j = [⟨x, y - 1, dk, uk⟩] by rw [ZA2.out, if_pos hxm])
              obtain ⟨v5, w5, r5, z5⟩ := HZ2.out.app (by omega) ZA3.out 129
              have R5 := hid r5
              have Z5 := hid z5
              clear r5 z5
              go_wp2_with (at_builtin; refine wpList_append_run rfl (.tmp 91) (.tmp 97) 129 rfl _ _ v5 w5 rfl rfl R5.out ?_)
              go_roundg (N - (j + 1))
              · exact ⟨j + 1, _, by omega, rfl, by go_num, by rw [HDK.out], by rw [HUK.out], Z5.out⟩
              · have := HJK.out; omega
            · have ZA3 := hid (show zAt l (starts l) j = [] by rw [ZA2.out, if_neg hxm])
              go_wp2
              go_roundg (N - (j + 1))
              · exact ⟨j + 1, _, by omega, rfl, by go_num, by rw [HDK.out], by rw [HUK.out], HZ2.out.same ZA3.out⟩
              · have := HJK.out; omega
          · have gj2 : ¬ ((j + 1 : Nat) : Int) < (N : Int) := by omega
            have ZA2 := hid (show zAt l (starts l) j = if x ≤ 1000000 then [⟨x, 1000000, dk, uk⟩] else [] by rw [ZAT.out, if_neg hjn2])
            clear hx hxe hdj huj hdx hux hdk huk D1 U1 D2 U2 bD bU hcS ZAT
            by_cases hxm : x ≤ 1000000
            · have ZA3 := hid (show zAt l (starts l) j = [⟨x, 1000000, dk, uk⟩] by rw [ZA2.out, if_pos hxm])
              obtain ⟨v5, w5, r5, z5⟩ := HZ2.out.app (by omega) ZA3.out 129
              have R5 := hid r5
              have Z5 := hid z5
              clear r5 z5
              go_wp2_with (at_builtin; refine wpList_append_run rfl (.tmp 91) (.tmp 97) 129 rfl _ _ v5 w5 rfl rfl R5.out ?_)
              go_roundg (N - (j + 1))
              · exact ⟨j + 1, _, by omega, rfl, by go_num, by rw [HDK.out], by rw [HUK.out], Z5.out⟩
              · have := HJK.out; omega
            · have ZA3 := hid (show zAt l (starts l) j = [] by rw [ZA2.out, if_neg hxm])
              go_wp2
              go_roundg (N - (j + 1))
              · exact ⟨j + 1, _, by omega, rfl, by go_num, by rw [HDK.out], by rw [HUK.out], HZ2.out.same ZA3.out⟩
              · have := HJK.out; omega
        · have hj' : j = N := by have := HJK.out; omega
          subst hj'
          have g1 : decide ((j : Int) < (j : Int)) = false := by simp
          have FIN := hid (show R (.returned vo) wr by rw [HR.out]; exact ⟨_, rfl, by have := HZ2.out.out; unfold zonesL; rw [← HN2.out]; exact this, HZ2.out.below⟩)
          go_wp2
          first | exact FIN.out | (go_ret; exact FIN.out)
end Go.Proofs.YtepldjidkomclaaGreat.Ca
namespace Go.Proofs.YtepldjidkomclaaGreat.Ca
set_option linter.unusedSimpArgs false
set_option linter.unusedVariables false
open Go.RowKit Go.Shelf
attribute [local go_sem] Oper.semAt_some
attribute [local go_sem ↓] Go.wp_at_zero Go.wp_at_succ
/-- The price of an auction over its zones; 0: there is none. -/
def priceZ (Z : List Zn) (ref : Int) : Int :=
  let Z2 := keptF F2 (keptF F1 Z)
  let way := leanF Z2
  let z := (keptF (F3 way ref) Z2).getD 0 ⟨0, 0, 0, 0⟩
  if z.vol = 0 then 0 else z.pk way ref
theorem leastF_mem (F : Zn → Int) {Z : List Zn} (hne : Z ≠ []) : ∃ z ∈ Z, F z = leastF F Z := by
  have key : ∀ (l : List Zn) (a : Int), (∃ z ∈ l, F z = minTo F l a) ∨ minTo F l a = a := by
    intro l
    induction l with
    | nil => exact fun a => .inr rfl
    | cons y l ih =>
      intro a
      have h1 : minTo F (y :: l) a = minTo F l (min a (F y)) := rfl
      rw [h1]
      rcases ih (min a (F y)) with ⟨z, hz, e⟩ | e
      · exact .inl ⟨z, List.mem_cons_of_mem _ hz, e⟩
      · rw [e]
        by_cases h2 : a ≤ F y
        · right; omega
        · left; exact ⟨y, List.mem_cons_self, by omega⟩
  unfold leastF
  cases Z with
  | nil => exact absurd rfl hne
  | cons y l =>
    rcases key (y :: l) (F ((y :: l).getD 0 ⟨0, 0, 0, 0⟩)) with ⟨z, hz, e⟩ | e
    · exact ⟨z, hz, e⟩
    · exact ⟨y, List.mem_cons_self, by rw [e]; rfl⟩
theorem keptF_ne (F : Zn → Int) {Z : List Zn} (hne : Z ≠ []) : keptF F Z ≠ [] := by
  obtain ⟨z, hz, e⟩ := leastF_mem F hne
  intro h
  have : z ∈ keptF F Z := by unfold keptF; exact List.mem_filter.2 ⟨hz, by simpa using e⟩
  rw [h] at this
  cases this
theorem keptF_sub (F : Zn → Int) {Z : List Zn} {z : Zn} (h : z ∈ keptF F Z) : z ∈ Z := (List.mem_filter.1 h).1
theorem keptF_len (F : Zn → Int) (Z : List Zn) : (keptF F Z).length ≤ Z.length := List.length_filter_le _ _
theorem zonesL_ok {l : List Bd} (hl : l.length ≤ 4096) (hok : ∀ b ∈ l, b.ok) : (∀ z ∈ zonesL l, z.ok) ∧ (zonesL l).length ≤ 4097 := by
  refine ⟨fun z hz => ?_, ?_⟩
  · unfold zonesL zTo at hz
    obtain ⟨i, hi, hz⟩ := List.mem_flatMap.1 hz
    rw [List.mem_range] at hi
    unfold zAt at hz
    split at hz
    · rename_i hle
      rw [List.mem_singleton] at hz
      subst hz
      have hb : ∀ x, 0 ≤ dem l x ∧ dem l x ≤ 5000000000000 ∧ 0 ≤ sup l x ∧ sup l x ≤ 5000000000000 := fun x => by
        have h1 := sumQ_bound (buyT x) hok
        have h2 := sumQ_bound (selT x) hok
        unfold dem sup
        omega
      have hx := starts_bound hok (x := (starts l).getD i 0) (by simp [hi])
      obtain ⟨q1, q2, q3, q4⟩ := hb ((starts l).getD i 0)
      refine ⟨hx.1, ?_, ?_, q1, q2, q3, q4⟩
      · show (starts l).getD i 0 ≤ if i + 1 < (starts l).length then (starts l).getD (i + 1) 0 - 1 else 1000000
        split
        · rename_i h1
          have := List.pairwise_iff_getElem.1 (starts_spec l).1 i (i + 1) hi h1 (by omega)
          simp [hi, h1]
          omega
        · exact hle
      · show (if i + 1 < (starts l).length then (starts l).getD (i + 1) 0 - 1 else 1000000) ≤ 1000000
        split
        · rename_i h1
          have := starts_bound hok (x := (starts l).getD (i + 1) 0) (by simp [h1])
          omega
        · omega
    · cases hz
  · have h1 := zTo_len l (starts l) (starts l).length
    have h2 := starts_len l
    unfold zonesL
    omega
theorem zonesL_ne {l : List Bd} (hok : ∀ b ∈ l, b.ok) : zonesL l ≠ [] := by
  have h0 := starts_ne l
  have h1 : (starts l).getD 0 0 = 1 := by
    have hm : (1 : Int) ∈ starts l := ((starts_spec l).2 1).2 (.inl rfl)
    obtain ⟨j, hj, e⟩ := List.getElem_of_mem hm
    have hb := starts_bound hok (x := (starts l)[0]) (List.getElem_mem _)
    rcases Nat.eq_zero_or_pos j with q | q
    · subst q
      simp [h0, e]
    · have := List.pairwise_iff_getElem.1 (starts_spec l).1 0 j h0 hj q
      omega
  intro h
  have : zAt l (starts l) 0 = [] := by
    refine List.eq_nil_iff_forall_not_mem.2 fun z hz => ?_
    have : z ∈ zonesL l := by unfold zonesL zTo; exact List.mem_flatMap.2 ⟨0, by simpa using h0, hz⟩
    rw [h] at this
    cases this
  unfold zAt at this
  rw [h1] at this
  simp at this
end Go.Proofs.YtepldjidkomclaaGreat.Ca
namespace Go.Proofs.YtepldjidkomclaaGreat.Ca
set_option linter.unusedSimpArgs false
set_option linter.unusedVariables false
open Go.RowKit Go.Shelf
attribute [local go_sem] Oper.semAt_some
attribute [local go_sem ↓] Go.wp_at_zero Go.wp_at_succ
/-- The zones that are left behind i steps. -/
def Zi (ref : Int) (Z : List Zn) : Nat → List Zn
  | 0 => Z
  | 1 => keptF F1 Z
  | 2 => keptF F2 (keptF F1 Z)
  | _ => keptF (F3 (leanF (keptF F2 (keptF F1 Z))) ref) (keptF F2 (keptF F1 Z))
structure PrS (w0 : World) (LB WB RB FB : Nat) (ref : Int) (Z : List Zn) (i : Nat) (w : World) : Prop where
  left : ∃ v, Cells w LB #[v] 129 ∧ RowZ w0.heap.size w v (Zi ref Z i)
  way : Cells w WB #[.int .i64 (if i = 3 then leanF (Zi ref Z 2) else 0)] 3
  refc : Cells w RB #[.int .i64 ref] 2
  fns : Cells w FB #[.func (.func 63) #[] #[], .func (.func 65) #[] #[], .func (.func 68) #[] #[.pointer (some ⟨LB, 0, none⟩), .pointer (some ⟨WB, 0, none⟩), .pointer (some ⟨RB, 0, none⟩)]] 134
  below : Below w0.heap.size w0 w
  ge : w0.heap.size ≤ LB ∧ w0.heap.size ≤ WB
theorem PrS.next {w0 : World} {LB WB RB FB : Nat} {ref : Int} {Z : List Zn} {i : Nat} {w w9 : World} {v' : Value} (h : PrS w0 LB WB RB FB ref Z i w) (hr : RowZ w.heap.size w9 v' (Zi ref Z (i + 1))) (hk : Kept (fun k => k = WB) w w9) (hw : Cells w9 WB #[.int .i64 (if i + 1 = 3 then leanF (Zi ref Z 2) else 0)] 3) :
    PrS w0 LB WB RB FB ref Z (i + 1) (w9.setCell ⟨LB, 0, none⟩ v') := by
  obtain ⟨v, hl, _⟩ := h.left
  have hWL : LB ≠ WB := hl.ne h.way (by decide)
  have hWR : RB ≠ WB := h.refc.ne h.way (by decide)
  have hWF : FB ≠ WB := h.fns.ne h.way (by decide)
  have l9 := hl.kept hk hWL
  have hs : Kept (fun k => k = LB) w9 (w9.setCell ⟨LB, 0, none⟩ v') := (Kept.refl (fun k => k = LB) w9).set (C := LB) rfl _ _
  refine ⟨⟨v', l9.set 0 _, ?_⟩, hw.kept hs (Ne.symm hWL), (h.refc.kept hk hWR).kept hs (h.refc.ne hl (by decide)), (h.fns.kept hk hWF).kept hs (h.fns.ne hl (by decide)), h.below.trans (((hk.mono (Y := fun k => w0.heap.size ≤ k) (fun k e => by rw [e]; exact h.ge.2)).trans hs (fun k _ e => by rw [e]; exact h.ge.1)).below h.below.size (fun k hk => hk)), h.ge⟩
  refine OwnE.kept (hr.mono h.below.size) hs fun b hb e => ?_
  obtain ⟨cs, hcs⟩ := own_lt hr hb
  exact hcs.ne l9 (by decide) e
theorem Zi_ok {l : List Bd} (hl : l.length ≤ 4096) (hok : ∀ b ∈ l, b.ok) (ref : Int) (i : Nat) : (∀ z ∈ Zi ref (zonesL l) i, z.ok) ∧ (Zi ref (zonesL l) i).length ≤ 4097 ∧ Zi ref (zonesL l) i ≠ [] := by
  obtain ⟨h1, h2⟩ := zonesL_ok hl hok
  have h3 := zonesL_ne hok
  have k1 : (∀ z ∈ keptF F1 (zonesL l), z.ok) ∧ (keptF F1 (zonesL l)).length ≤ 4097 ∧ keptF F1 (zonesL l) ≠ [] := ⟨fun z hz => h1 z (keptF_sub _ hz), Nat.le_trans (keptF_len _ _) h2, keptF_ne _ h3⟩
  have k2 : (∀ z ∈ keptF F2 (keptF F1 (zonesL l)), z.ok) ∧ (keptF F2 (keptF F1 (zonesL l))).length ≤ 4097 ∧ keptF F2 (keptF F1 (zonesL l)) ≠ [] := ⟨fun z hz => k1.1 z (keptF_sub _ hz), Nat.le_trans (keptF_len _ _) k1.2.1, keptF_ne _ k1.2.2⟩
  match i with
  | 0 => exact ⟨h1, h2, h3⟩
  | 1 => exact k1
  | 2 => exact k2
  | i + 3 => exact ⟨fun z hz => k2.1 z (keptF_sub _ hz), Nat.le_trans (keptF_len _ _) k2.2.1, keptF_ne _ k2.2.2⟩
/-- One round. -/
theorem PrS.round {w0 : World} {LB WB RB FB : Nat} {ref : Int} {l : List Bd} (hl : l.length ≤ 4096) (hok : ∀ b ∈ l, b.ok) (hr : 1 ≤ ref ∧ ref ≤ 1000000) {i : Nat} (hi : i < 3) {w : World} (h : PrS w0 LB WB RB FB ref (zonesL l) i w) :
    ∃ v fv, w.cell? ⟨LB, 0, none⟩ = some v ∧ w.cell? ⟨FB, i, none⟩ = some fv ∧ Calls Tryz.prog 71 #[v, fv] w fun e w' => ∃ v', e = .returned v' ∧ PrS w0 LB WB RB FB ref (zonesL l) (i + 1) (w'.setCell ⟨LB, 0, none⟩ v') ∧ (∃ p m c, v' = .slice p m c) ∧ (∃ u, w'.cell? ⟨LB, 0, none⟩ = some u) ∧ w'.frozen? ⟨LB, 0, none⟩ = false ∧ LB < w'.heap.size := by
  obtain ⟨v, hlc, hrow⟩ := h.left
  obtain ⟨zok, zlen, zne⟩ := Zi_ok hl hok ref i
  have hWL : LB ≠ WB := hlc.ne h.way (by decide)
  have hWR : RB ≠ WB := h.refc.ne h.way (by decide)
  have sform : ∀ {w' : World} {v' : Value} {L : List Zn}, RowZ w.heap.size w' v' L → ∃ p m c, v' = .slice p m c := fun h => by
    obtain ⟨p, c, h1, _⟩ := OwnE.form h
    exact ⟨p, _, c, h1⟩
  have tail : ∀ {w' : World}, Kept (fun k => k = WB) w w' → (∃ u, w'.cell? ⟨LB, 0, none⟩ = some u) ∧ w'.frozen? ⟨LB, 0, none⟩ = false ∧ LB < w'.heap.size := fun hk => by
    have l9 := hlc.kept hk hWL
    exact ⟨⟨v, by rw [l9.cell]; rfl⟩, l9.frozen 0, l9.lt⟩
  rcases (show i = 0 ∨ i = 1 ∨ i = 2 by omega) with rfl | rfl | rfl
  · refine ⟨v, _, by rw [hlc.cell]; rfl, by rw [h.fns.cell]; rfl, ?_⟩
    have fc := fnc_price1 (fun _ => True) (fun _ => True) (fun _ _ _ _ => trivial)
    refine (kept_calls hrow (by omega) zne fc (fun w z hi hz => fc.call w z hi hz) (fun _ _ _ _ => trivial) trivial zok (fun _ _ => trivial) (fun _ _ h => h)).mono ?_
    rintro e w' ⟨v', rfl, r', _, k'⟩
    have k2 := k'.mono (Y := fun k => k = WB) (fun _ h => h.elim)
    exact ⟨v', rfl, h.next r' k2 (h.way.kept k' (fun h => h)), sform r', tail k2⟩
  · refine ⟨v, _, by rw [hlc.cell]; rfl, by rw [h.fns.cell]; rfl, ?_⟩
    have fc := fnc_price2 (fun _ => True) (fun _ => True) (fun _ _ _ _ => trivial)
    refine (kept_calls hrow (by omega) zne fc (fun w z hi hz => fc.call w z hi hz) (fun _ _ _ _ => trivial) trivial zok (fun _ _ => trivial) (fun _ _ h => h)).mono ?_
    rintro e w' ⟨v', rfl, r', _, k'⟩
    have k2 := k'.mono (Y := fun k => k = WB) (fun _ h => h.elim)
    exact ⟨v', rfl, h.next r' k2 (h.way.kept k' (fun h => h)), sform r', tail k2⟩
  · refine ⟨v, _, by rw [hlc.cell]; rfl, by rw [h.fns.cell]; rfl, ?_⟩
    have p0 : P3 LB WB RB v (Zi ref (zonesL l) 2) ref w := ⟨hlc, hrow.mono (Nat.zero_le _), h.refc, _, h.way⟩
    have hlt : ∀ k, w.heap.size ≤ k → k ≠ LB ∧ k ≠ RB ∧ k ≠ WB ∧ ∀ g, v.ownBlock = some g → k ≠ g := fun k hk => ⟨by have := hlc.lt; omega, by have := h.refc.lt; omega, by have := h.way.lt; omega, fun g hg => by obtain ⟨cs, hcs⟩ := own_lt hrow hg; have := hcs.lt; omega⟩
    have st : ∀ w w' : World, P3 LB WB RB v (Zi ref (zonesL l) 2) ref w → Kept (fun k => k ≠ LB ∧ k ≠ RB ∧ k ≠ WB ∧ ∀ g, v.ownBlock = some g → k ≠ g) w w' → P3 LB WB RB v (Zi ref (zonesL l) 2) ref w' := fun w w' h hk => h.kept hk (fun h => h.1 rfl) (fun h => h.2.1 rfl) (fun h => h.2.2.1 rfl) (fun g hg h => h.2.2.2 g hg rfl)
    have fc : FnC (Value.int .i64) 68 #[.pointer (some ⟨LB, 0, none⟩), .pointer (some ⟨WB, 0, none⟩), .pointer (some ⟨RB, 0, none⟩)] (F3 (leanF (Zi ref (zonesL l) 2)) ref) (fun k => k = WB) (fun k => k ≠ LB ∧ k ≠ RB ∧ k ≠ WB ∧ ∀ g, v.ownBlock = some g → k ≠ g) (P3J LB WB RB v (Zi ref (zonesL l) 2) ref) Zn.ok := {
      eg := enters_of Tryz.func68 (by kernel_rfl) rfl
      call := fun w z hi hz => p3_calls hi.p3 hr (by omega) zok z hz
      stay := fun w w' hi hk => ⟨st w w' hi.p3 hk, hi.way.kept hk (fun h => h.2.2.1 rfl)⟩
      apart := fun k e h => h.2.2.1 e }
    refine (kept_calls hrow (by omega) zne fc (fun w z hi hz => p3_calls hi hr (by omega) zok z hz) st p0 zok hlt (fun g hg e => ?_)).mono ?_
    · obtain ⟨cs, hcs⟩ := own_lt hrow hg
      exact hcs.ne h.way (by decide) e
    · rintro e w' ⟨v', rfl, r', j', k'⟩
      exact ⟨v', rfl, h.next r' k' j'.way, sform r', tail k'⟩
end Go.Proofs.YtepldjidkomclaaGreat.Ca
namespace Go.Proofs.YtepldjidkomclaaGreat.Ca
set_option linter.unusedSimpArgs false
set_option linter.unusedVariables false
open Go.RowKit Go.Shelf
attribute [local go_sem] Oper.semAt_some
attribute [local go_sem ↓] Go.wp_at_zero Go.wp_at_succ
theorem _root_.Go.Proofs.YtepldjidkomclaaGreat.ReadsE.below' {α : Type} {enc : α → List Value} {sz : Nat} {w w' : World} {v : Value} {l : List α} (h : ReadsE enc sz w v l) (hb : Below w.heap.size w w') : ReadsE enc sz w' v l := h.below hb

set_option maxRecDepth 100000 in
set_option maxHeartbeats 8000000 in
theorem price_calls {w : World} {v : Value} {l : List Bd} (hv : ReadsE encBd 3 w v l) (hl : l.length ≤ 4096) (hok : ∀ b ∈ l, b.ok) {ref : Int} (hr : 1 ≤ ref ∧ ref ≤ 1000000) :
    Calls Tryz.prog 29 #[v, .int .i64 ref] w fun e w' => e = .returned (.int .i64 (priceZ (zonesL l) ref)) ∧ Below w.heap.size w w' := by
  obtain ⟨R, hR⟩ : ∃ R : Ending → World → Prop, R = fun e w' => e = .returned (.int .i64 (priceZ (zonesL l) ref)) ∧ Below w.heap.size w w' := ⟨_, rfl⟩
  rw [← hR]
  have HR := hid hR
  obtain ⟨wb, hwb⟩ : ∃ wb, wb = w.alloc (.cells #[.int .i64 ref] 2) := ⟨_, rfl⟩
  have b1 : Below w.heap.size w wb := by rw [hwb]; exact (Below.refl _ _).alloc (Nat.le_refl _) _
  have cr : Cells wb w.heap.size #[.int .i64 ref] 2 := by rw [hwb]; exact Cells.new w _ _
  have ZC := hid (zones_calls (hv.below b1) hl hok)
  have ZO := hid (Zi_ok hl hok ref)
  have RD := hid (fun (LB WB RB FB i : Nat) (hi : i < 3) (wx : World) (h : PrS w LB WB RB FB ref (zonesL l) i wx) => h.round hl hok hr hi)
  have B1 := hid b1
  have CR := hid cr
  have lR := cr.lt
  have HWB := hid hwb
  have HRR := hid hr
  clear hR b1 cr hwb hok hv hr
  go_enter Tryz.func29, Tryz.ntmps29
  go_upto_region 1 with fail
  rw [← HWB.out]
  go_wp2_with fail
  refine ZC.out.mono ?_
  rintro e w2 ⟨v2, rfl, hz2, hb2⟩
  have B2 := hid hb2
  have Z2 := hid hz2
  have szb := hb2.size
  obtain ⟨p2, c2, hv2, _⟩ := hz2.form
  obtain ⟨n2, hn2⟩ : ∃ n2, n2 = (zonesL l).length := ⟨_, rfl⟩
  rw [← hn2] at hv2
  subst hv2
  clear hb2 hz2 hn2
  go_upto_region 3 with fail
  obtain ⟨w3, hw3⟩ : ∃ w3, w3 = (((w2.alloc (.cells #[.slice p2 n2 c2] 129)).alloc (.cells #[.int .i64 0] 3)).alloc (.cells #[.func (.func 63) #[] #[], .func (.func 65) #[] #[], .func (.func 68) #[] #[.pointer (some ⟨w2.heap.size, 0, none⟩), .pointer (some ⟨w2.heap.size + 1, 0, none⟩), .pointer (some ⟨w.heap.size, 0, none⟩)]] 134)) := ⟨_, rfl⟩
  have b3 : Below w2.heap.size w2 w3 := by rw [hw3]; exact (((Below.refl _ _).alloc (Nat.le_refl _) _).alloc (by simp) _).alloc (by simp; omega) _
  have a1 : Cells (w2.alloc (.cells #[.slice p2 n2 c2] 129)) w2.heap.size #[.slice p2 n2 c2] 129 := Cells.new w2 _ _
  have a2 := Cells.new (w2.alloc (.cells #[.slice p2 n2 c2] 129)) #[.int .i64 0] 3
  have a3 := Cells.new ((w2.alloc (.cells #[.slice p2 n2 c2] 129)).alloc (.cells #[.int .i64 0] 3)) #[.func (.func 63) #[] #[], .func (.func 65) #[] #[], .func (.func 68) #[] #[.pointer (some ⟨w2.heap.size, 0, none⟩), .pointer (some ⟨w2.heap.size + 1, 0, none⟩), .pointer (some ⟨w.heap.size, 0, none⟩)]] 134
  rw [World.size_alloc] at a2
  rw [World.size_alloc, World.size_alloc] at a3
  have S0 := hid (show PrS w w2.heap.size (w2.heap.size + 1) w.heap.size (w2.heap.size + 1 + 1) ref (zonesL l) 0 w3 by
    refine ⟨⟨_, by rw [hw3]; exact (a1.alloc _).alloc _, ?_⟩, by rw [hw3]; exact a2.alloc _, (CR.out.below B2.out lR).below b3 (by have := (CR.out.below B2.out lR).lt; omega), by rw [hw3]; exact a3, B1.out.trans ((B2.out.mono B1.out.size).trans (b3.mono (by have := B1.out.size; omega))), by have := B1.out.size; omega⟩
    exact (OwnE.below Z2.out b3).mono B1.out.size)
  rw [← hw3]
  have sz3 : w3.heap.size = w2.heap.size + 3 := by rw [hw3]; simp
  obtain ⟨LB, hLB⟩ : ∃ LB, LB = w2.heap.size := ⟨_, rfl⟩
  rw [← hLB] at S0 ⊢
  clear hw3 b3 a1 a2 a3 B2 Z2 CR hLB HWB B1 ZC
  go_upto_region 4 with fail
  go_loopg [16] 3 (fun k s16 wr => ∃ i : Nat, i + k = 3 ∧ s16 = .int .i64 i ∧ PrS w LB (LB + 1) w.heap.size (LB + 1 + 1) ref (zonesL l) i wr)
  case atStart => exact ⟨0, by omega, rfl, S0.out⟩
  case round =>
    obtain ⟨i, hik, rfl, ss⟩ := hrel
    have HIK := hid hik
    have SS := hid ss
    clear hik ss S0
    by_cases hin : i < 3
    · obtain ⟨v, fv, hc1, hc2, hcall⟩ := RD.out _ _ _ _ i hin wr SS.out
      have CALL := hid hcall
      obtain ⟨vv, hvc, _⟩ := SS.out.left
      have l1 := hvc.lt
      have l2 := SS.out.fns.lt
      have gi : (i : Int) < 3 := by omega
      have gi0 : (0 : Int) ≤ (i : Int) := by omega
      clear hcall hvc
      go_wp2_with fail
      refine CALL.out.mono ?_
      rintro e w5 ⟨v', rfl, ps, ⟨p5, m5, c5, rfl⟩, ⟨u5, hu5⟩, hf5, hl5⟩
      have PS := hid ps
      clear ps
      go_wp2
      go_roundg (3 - (i + 1))
      · exact ⟨i + 1, by omega, by go_num, PS.out⟩
      · have := HIK.out; omega
    · have hi3 : i = 3 := by have := HIK.out; omega
      subst hi3
      obtain ⟨v, hlc, hrow⟩ := SS.out.left
      obtain ⟨zok, zlen, zne⟩ := ZO.out 3
      obtain ⟨p6, cap6, hv6, hh6⟩ := hrow.form
      obtain ⟨n6, hn6⟩ : ∃ n6, n6 = (Zi ref (zonesL l) 3).length := ⟨_, rfl⟩
      rw [← hn6] at hv6
      rcases hh6 with ⟨_, h0⟩ | ⟨g, rfl, hgB, hgl⟩
      · exact absurd h0 zne
      subst hv6
      have hpos : 0 < (Zi ref (zonesL l) 3).length := List.length_pos_iff.2 zne
      obtain ⟨hnn6, _, _, hcell⟩ := OwnE.cellsAt encZn_len hrow
      obtain ⟨z, hz⟩ : ∃ z, z = (Zi ref (zonesL l) 3).getD 0 ⟨0, 0, 0, 0⟩ := ⟨_, rfl⟩
      have hz0 : z = (Zi ref (zonesL l) 3)[0] := by rw [hz]; simp [hpos]
      have zk : z.ok := by rw [hz0]; exact zok _ (List.getElem_mem _)
      have c0 := hcell 0 hpos 0 (by omega)
      have c1 := hcell 0 hpos 1 (by omega)
      have c2' := hcell 0 hpos 2 (by omega)
      have c3 := hcell 0 hpos 3 (by omega)
      simp [encZn] at c0 c1 c2' c3
      rw [← hz0] at c0 c1 c2' c3
      have p00 : (0 : Int) < (n6 : Int) := by omega
      have p01 : 0 < n6 := by omega
      have cw := SS.out.way
      rw [if_pos rfl] at cw
      obtain ⟨wy, hwy⟩ : ∃ wy, wy = leanF (Zi ref (zonesL l) 2) := ⟨_, rfl⟩
      rw [← hwy] at cw
      have m0 : wr.cell? ⟨LB, 0, none⟩ = some (.slice (some ⟨g, 0, none⟩) n6 cap6) := by rw [hlc.cell]; rfl
      have mW : wr.cell? ⟨LB + 1, 0, none⟩ = some (.int .i64 wy) := by rw [cw.cell]; rfl
      have mR : wr.cell? ⟨w.heap.size, 0, none⟩ = some (.int .i64 ref) := by rw [SS.out.refc.cell]; rfl
      have lL := hlc.lt
      have lW := cw.lt
      have lR3 := SS.out.refc.lt
      have VC := hid (fun wx => volume_calls z wx)
      unfold Zn.val at VC
      have PRI := hid (show priceZ (zonesL l) ref = if z.vol = 0 then 0 else z.pk wy ref by rw [hz, hwy]; rfl)
      have BB := hid SS.out.below
      obtain ⟨vo, hvo⟩ : ∃ vo, vo = z.vol := ⟨_, rfl⟩
      rw [← hvo] at VC PRI
      have CC := hid (show ∀ w', Below wr.heap.size wr w' → w'.cell? ⟨g, 0, none⟩ = some (.int .i64 z.f) ∧ w'.cell? ⟨g, 1, none⟩ = some (.int .i64 z.t) ∧ w'.cell? ⟨g, 2, none⟩ = some (.int .i64 z.d) ∧ w'.cell? ⟨g, 3, none⟩ = some (.int .i64 z.s) ∧ w'.cell? ⟨LB, 0, none⟩ = some (.slice (some ⟨g, 0, none⟩) n6 cap6) ∧ w'.cell? ⟨LB + 1, 0, none⟩ = some (.int .i64 wy) ∧ w'.cell? ⟨w.heap.size, 0, none⟩ = some (.int .i64 ref) from fun w' hk =>
        ⟨(hk.cell (p := ⟨g, 0, none⟩) hgl).trans c0, (hk.cell (p := ⟨g, 1, none⟩) hgl).trans c1, (hk.cell (p := ⟨g, 2, none⟩) hgl).trans c2', (hk.cell (p := ⟨g, 3, none⟩) hgl).trans c3, (hk.cell (p := ⟨LB, 0, none⟩) lL).trans m0, (hk.cell (p := ⟨LB + 1, 0, none⟩) lW).trans mW, (hk.cell (p := ⟨w.heap.size, 0, none⟩) lR3).trans mR⟩)
      clear hz hz0 hwy cw hlc hrow hcell zok hn6 hnn6 hpos hvo zk zlen
      go_upto_region 8 with fail
      go_wp2_with fail
      refine (VC.out _).mono ?_
      rintro e w5 ⟨rfl, hb5⟩
      obtain ⟨c0, c1, c2', c3, m0, mW, mR⟩ := CC.out _ hb5
      have B5 := hid hb5
      have s5 := hb5.size
      have hgl5 : g < w5.heap.size := by omega
      have lL5 : LB < w5.heap.size := by omega
      have lW5 : LB + 1 < w5.heap.size := by omega
      have lR5 : w.heap.size < w5.heap.size := by omega
      clear hb5
      by_cases hv0 : vo = 0
      · have e1 : (vo == 0) = true := by simpa using hv0
        have FIN := hid (show R (.returned (.int .i64 0)) w5 by
          rw [HR.out, PRI.out, if_pos hv0]
          exact ⟨rfl, BB.out.trans (B5.out.mono BB.out.size)⟩)
        clear hv0
        go_wp2
        first | exact FIN.out | (go_ret; exact FIN.out)
      · have e1 : (vo == 0) = false := by simpa using hv0
        have PK := hid (fun wx => pick_calls z wy ref wx)
        unfold Zn.val at PK
        have FIN := hid (show ∀ w6, Below w5.heap.size w5 w6 → R (.returned (.int .i64 (z.pk wy ref))) w6 from fun w6 hb => by
          rw [HR.out, PRI.out, if_neg hv0]
          exact ⟨rfl, BB.out.trans ((B5.out.mono BB.out.size).trans (hb.mono (Nat.le_trans BB.out.size B5.out.size)))⟩)
        have CC6 := hid (show ∀ w', Below w5.drew.heap.size w5.drew w' → w'.cell? ⟨g, 0, none⟩ = some (.int .i64 z.f) ∧ w'.cell? ⟨g, 1, none⟩ = some (.int .i64 z.t) ∧ w'.cell? ⟨g, 2, none⟩ = some (.int .i64 z.d) ∧ w'.cell? ⟨g, 3, none⟩ = some (.int .i64 z.s) ∧ w'.cell? ⟨LB, 0, none⟩ = some (.slice (some ⟨g, 0, none⟩) n6 cap6) ∧ w'.cell? ⟨LB + 1, 0, none⟩ = some (.int .i64 wy) ∧ w'.cell? ⟨w.heap.size, 0, none⟩ = some (.int .i64 ref) from fun w' hk =>
          ⟨(hk.cell (p := ⟨g, 0, none⟩) hgl5).trans c0, (hk.cell (p := ⟨g, 1, none⟩) hgl5).trans c1, (hk.cell (p := ⟨g, 2, none⟩) hgl5).trans c2', (hk.cell (p := ⟨g, 3, none⟩) hgl5).trans c3, (hk.cell (p := ⟨LB, 0, none⟩) lL5).trans m0, (hk.cell (p := ⟨LB + 1, 0, none⟩) lW5).trans mW, (hk.cell (p := ⟨w.heap.size, 0, none⟩) lR5).trans mR⟩)
        go_upto_region 10 with fail
        refine region_tail 5 (by kernel_rfl) (by kernel_rfl) ?_
        simp only [List.take_succ_cons, List.take_zero, List.drop_succ_cons, List.drop_zero]
        repeat still_step
        refine wpStill_nil ?_
        go_wp2_with fail
        refine (PK.out _).mono ?_
        rintro e w6 ⟨rfl, hb6⟩
        have FN := hid (show R (.returned (.int .i64 (z.pk wy ref))) w6 by
          first | exact FIN.out _ hb6 | exact FIN.out _ ((Below.refl w5.heap.size w5).drew.trans (hb6.mono (Below.refl w5.heap.size w5).drew.size)))
        clear hb6
        go_wp2
        first | exact FN.out | (go_ret; exact FN.out)
end Go.Proofs.YtepldjidkomclaaGreat.Ca
namespace Go.Proofs.YtepldjidkomclaaGreat.Ca
set_option linter.unusedSimpArgs false
set_option linter.unusedVariables false
open Go.RowKit Go.Shelf
attribute [local go_sem] Oper.semAt_some
attribute [local go_sem ↓] Go.wp_at_zero Go.wp_at_succ
theorem chk_zero {l : List Bd} (h : chk l = 0) : l.length ≤ 4096 ∧ ∀ b ∈ l, b.ok := by
  unfold chk at h
  split at h
  · cases h
  · split at h
    · rename_i h1 h2
      exact ⟨by omega, h2⟩
    · cases h
theorem below_two {w w2 w3 : World} (h : Below w.heap.size w w2) (g : Below w2.heap.size w2 w3) : Below w.heap.size w w3 := h.trans (g.mono h.size)
/-- What At answers. -/
def atF (l : List Bd) (x : Int) : Int × Int × Int := if chk l ≠ 0 then (0, 0, chk l) else if inC x 1 1000000 then (dem l x, sup l x, 0) else (0, 0, 1)

/-- What Price answers. -/
def prF (l : List Bd) (x : Int) : Int × Int := if chk l ≠ 0 then (0, chk l) else if inC x 1 1000000 then (if priceZ (zonesL l) x = 0 then (0, 30) else (priceZ (zonesL l) x, 0)) else (0, 1)
theorem inC_true {x : Int} (h : inC x 1 1000000 = true) : 1 ≤ x ∧ x ≤ 1000000 := by unfold inC at h; simpa using h

end Go.Proofs.YtepldjidkomclaaGreat.Ca
namespace Go.Proofs.YtepldjidkomclaaGreat.Ca
set_option linter.unusedSimpArgs false
set_option linter.unusedVariables false
open Go.RowKit
attribute [local go_sem] Oper.semAt_some
attribute [local go_sem ↓] Go.wp_at_zero Go.wp_at_succ
/-- What a bid's fill brings. -/
def gT (b : Bd) (x : Int) : Int := if b.s = 1 then b.p * x else -(b.p * x)
def gsum : List Bd → List Int → Int
  | b :: l, x :: f => gT b x + gsum l f
  | _, _ => 0
theorem gsum_snoc : ∀ {l : List Bd} {f : List Int} (b : Bd) (x : Int), l.length = f.length → gsum (l ++ [b]) (f ++ [x]) = gsum l f + gT b x
  | [], [], b, x, _ => by simp [gsum]
  | c :: l, y :: f, b, x, h => by
    simp only [List.cons_append, gsum]
    rw [gsum_snoc b x (by simpa using h)]; omega
/-- A fill for each bid, from 0 to its quantity. -/
def fitF : List Bd → List Int → Prop
  | b :: l, x :: f => (0 ≤ x ∧ x ≤ b.q) ∧ fitF l f
  | _, _ => True
instance decFit : ∀ (l : List Bd) (f : List Int), Decidable (fitF l f)
  | b :: l, x :: f => by unfold fitF; exact @instDecidableAnd _ _ _ (decFit l f)
  | [], _ => by unfold fitF; infer_instance
  | _ :: _, [] => by unfold fitF; infer_instance
theorem fitF_iff : ∀ {l : List Bd} {f : List Int}, l.length = f.length → (fitF l f ↔ ∀ (i : Nat) (h1 : i < l.length) (h2 : i < f.length), 0 ≤ f[i] ∧ f[i] ≤ l[i].q)
  | [], [], _ => by simp [fitF]
  | b :: l, x :: f, h => by
    simp only [fitF]
    rw [fitF_iff (by simpa using h)]
    constructor
    · rintro ⟨q1, q2⟩ i h1 h2
      cases i with
      | zero => exact q1
      | succ i => exact q2 i (by simpa using h1) (by simpa using h2)
    · intro q
      exact ⟨q 0 (by simp) (by simp), fun i h1 h2 => q (i + 1) (by simpa using h1) (by simpa using h2)⟩
theorem prod_bound {a b A B : Int} (h1 : 0 ≤ a ∧ a ≤ A) (h2 : 0 ≤ b ∧ b ≤ B) : 0 ≤ a * b ∧ a * b ≤ A * B :=
  ⟨Int.mul_nonneg h1.1 h2.1, Int.mul_le_mul h1.2 h2.2 h2.1 (by omega)⟩
theorem gT_bound {b : Bd} (hb : b.ok) {x : Int} (h : 0 ≤ x ∧ x ≤ b.q) : -1000000000000000 ≤ gT b x ∧ gT b x ≤ 1000000000000000 := by
  obtain ⟨_, h1, h2, h3, h4⟩ := hb
  have := prod_bound (a := b.p) (b := x) (A := 1000000) (B := 1000000000) (by omega) (by omega)
  unfold gT; split <;> omega
theorem gsum_bound : ∀ {l : List Bd} {f : List Int}, (∀ b ∈ l, b.ok) → fitF l f → -1000000000000000 * (l.length : Int) ≤ gsum l f ∧ gsum l f ≤ 1000000000000000 * (l.length : Int)
  | [], _, _, _ => by simp [gsum]
  | b :: l, [], _, _ => by simp only [gsum, List.length_cons]; omega
  | b :: l, x :: f, h, g => by
    obtain ⟨g1, g2⟩ := g
    have := gsum_bound (fun c hc => h c (List.mem_cons_of_mem _ hc)) g2
    have := gT_bound (h b List.mem_cons_self) g1
    simp only [gsum, List.length_cons]; omega
theorem fitF_take {l : List Bd} {f : List Int} : ∀ {i : Nat}, l.length = f.length → (fitF l f → fitF (l.take i) (f.take i)) := fun {i} h g => by
  rw [fitF_iff h] at g
  rw [fitF_iff (by simp [h])]
  intro k h1 h2
  simp at h1 h2
  simpa using g k (by omega) (by omega)
/-- What Gain answers. -/
def gnF (l : List Bd) (f : List Int) : Int × Int := if chk l ≠ 0 then (0, chk l) else if f.length = l.length ∧ fitF l f then (gsum l f, 0) else (0, 1)

set_option maxRecDepth 100000 in
set_option maxHeartbeats 8000000 in
theorem gain_calls {w : World} {v vf : Value} {l : List Bd} {f : List Int} (hv : ReadsE encBd 3 w v l) (hf : ReadsE encI 1 w vf f) :
    Calls Tryz.prog 8 #[v, vf] w fun e w' => e = .returned (.tuple #[.int .i64 (gnF l f).1, .int .i64 (gnF l f).2]) ∧ Below w.heap.size w w' := by
  obtain ⟨R, hR⟩ : ∃ R : Ending → World → Prop, R = fun e w' => e = .returned (.tuple #[.int .i64 (gnF l f).1, .int .i64 (gnF l f).2]) ∧ Below w.heap.size w w' := ⟨_, rfl⟩
  rw [← hR]
  have FM := hid (show ∀ (a b : Int) w', gnF l f = (a, b) → Below w.heap.size w w' → R (.returned (.tuple #[.int .i64 a, .int .i64 b])) w' from fun a b w' h1 h2 => by rw [hR, h1]; exact ⟨rfl, h2⟩)
  clear hR
  have CH := hid (check_calls hv)
  have IN := hid (fun x lo hi wx => in_calls x lo hi wx)
  obtain ⟨hm, p, cap, bb, off, rfl, hp, hc⟩ := hv
  obtain ⟨hm2, p2, cap2, b2, off2, rfl, hp2, hc2⟩ := hf
  unfold gnF at FM
  obtain ⟨c, hch⟩ : ∃ c, c = chk l := ⟨_, rfl⟩
  rw [← hch] at CH FM
  have HCH := hid hch
  clear hch
  obtain ⟨n, hn⟩ : ∃ n, n = l.length := ⟨_, rfl⟩
  obtain ⟨m, hmm⟩ : ∃ m, m = f.length := ⟨_, rfl⟩
  rw [← hn, ← hmm] at FM
  rw [← hn] at hp hm CH ⊢
  rw [← hmm] at hp2 hm2 ⊢
  have HN := hid hn
  have HP := hid hp
  have HC := hid hc
  have HM := hid hmm
  have HP2 := hid hp2
  have HC2 := hid hc2
  clear hn hp hc hmm hp2 hc2
  by_cases hc0 : c = 0
  · subst hc0
    rw [if_neg (fun h => h rfl)] at FM
    have hll := (chk_zero HCH.out.symm).1
    rw [← HN.out] at hll
    have HOK := hid (chk_zero HCH.out.symm).2
    by_cases hmn : m = n
    · subst hmn
      have g1 : ((m : Int) != (m : Int)) = false := by simp
      have HLF := hid (show l.length = f.length by rw [← HN.out, ← HM.out])
      have BAD := hid (show ∀ w' i (h1 : i < l.length) (h2 : i < f.length), inC f[i] 0 l[i].q = false → Below w.heap.size w w' → R (.returned (.tuple #[.int .i64 0, .int .i64 1])) w' from fun w' i h1 h2 h hb => by
        refine FM.out _ _ w' (if_neg fun q => ?_) hb
        have := (fitF_iff HLF.out).1 q.2 i h1 h2
        rw [inC_of] at h
        exact of_decide_eq_false h this)
      have GOOD := hid (show fitF l f → ∀ w', Below w.heap.size w w' → R (.returned (.tuple #[.int .i64 (gsum l f), .int .i64 0])) w' from fun q w' hb => FM.out _ _ w' (if_pos ⟨rfl, q⟩) hb)
      clear FM
      go_enter Tryz.func8, Tryz.ntmps8
      go_wp2_with fail
      refine CH.out.mono ?_
      rintro e w2 ⟨rfl, hb2⟩
      have B2 := hid hb2
      clear hb2 CH
      go_upto_region 8 with fail
      go_loopg [22, 7] m (fun k s22 s7 wr => ∃ i : Nat, i + k = m ∧ s22 = .int .i64 i ∧ s7 = .int .i64 (gsum (l.take i) (f.take i)) ∧ fitF (l.take i) (f.take i) ∧ Below w.heap.size w wr)
      case atStart => exact ⟨0, by omega, rfl, rfl, by simp [fitF], B2.out⟩
      case round =>
        obtain ⟨i, hik, rfl, rfl, hfit, hb⟩ := hrel
        have HIK := hid hik
        have FIT := hid hfit
        have B := hid hb
        have hgb := gsum_bound (l := l.take i) (fun b hb => HOK.out b (List.mem_of_mem_take hb)) hfit
        rw [List.length_take] at hgb
        clear hik hfit hb B2
        by_cases hin : i < m
        · have hil : i < l.length := by rw [← HN.out]; exact hin
          have hif : i < f.length := by rw [← HM.out]; exact hin
          obtain ⟨rfl, hbb⟩ := HP.out (by omega)
          obtain ⟨rfl, hbb2⟩ := HP2.out (by omega)
          have c0 := (B.out.cell (p := ⟨bb, off + i * 3 + 0, none⟩) hbb).trans (HC.out i hil 0 (by omega))
          have c1 := (B.out.cell (p := ⟨bb, off + i * 3 + 1, none⟩) hbb).trans (HC.out i hil 1 (by omega))
          have c2 := (B.out.cell (p := ⟨bb, off + i * 3 + 2, none⟩) hbb).trans (HC.out i hil 2 (by omega))
          have c3 := (B.out.cell (p := ⟨b2, off2 + i * 1 + 0, none⟩) hbb2).trans (HC2.out i hif 0 (by omega))
          simp [encBd] at c0 c1 c2
          simp [encI] at c3
          have gi : (i : Int) < (m : Int) := by omega
          have gi4 : (0 : Int) ≤ (i : Int) := by omega
          obtain ⟨b, hx⟩ : ∃ b, b = l[i] := ⟨_, rfl⟩
          obtain ⟨x, hy⟩ : ∃ x, x = f[i] := ⟨_, rfl⟩
          have okb := HOK.out l[i] (List.getElem_mem _)
          rw [← hx] at c0 c1 c2 okb
          rw [← hy] at c3
          have BX := hid (fun w' => BAD.out w' i hil hif)
          rw [← hx, ← hy] at BX
          have SN := hid (show gsum (l.take (i + 1)) (f.take (i + 1)) = gsum (l.take i) (f.take i) + gT b x by rw [take_snoc hil, take_snoc hif, gsum_snoc _ _ (by simp; omega), ← hx, ← hy])
          have FN2 := hid (show inC x 0 b.q = true → fitF (l.take (i + 1)) (f.take (i + 1)) from fun h => by
            rw [inC_of] at h
            have h := of_decide_eq_true h
            rw [fitF_iff (by simp; omega)]
            intro k h1 h2
            simp at h1 h2
            by_cases e : k = i
            · subst e
              simp only [List.getElem_take]
              rw [← hx, ← hy]; exact h
            · have := (fitF_iff (l := l.take i) (f := f.take i) (by simp; omega)).1 FIT.out k (by simp; omega) (by simp; omega)
              simpa using this)
          have IX := hid (fun wx => IN.out x 0 b.q wx)
          obtain ⟨a, ha⟩ : ∃ a, a = gsum (l.take i) (f.take i) := ⟨_, rfl⟩
          rw [← ha] at SN hgb ⊢
          obtain ⟨t, ht⟩ : ∃ t, t = inC x 0 b.q := ⟨_, rfl⟩
          rw [← ht] at IX BX FN2
          have HT := hid ht
          have HX := hid hx
          obtain ⟨wb, hwb⟩ : ∃ wb, wb = wr.alloc (.cells #[.int .i64 b.s, .int .i64 b.p, .int .i64 b.q] 32) := ⟨_, rfl⟩
          have BB := hid (show Below w.heap.size w wb by rw [hwb]; exact B.out.alloc B.out.size _)
          have cb : Cells wb wr.heap.size #[.int .i64 b.s, .int .i64 b.p, .int .i64 b.q] 32 := by rw [hwb]; exact Cells.new wr _ _
          have hlb := cb.lt
          have k0 : wb.cell? ⟨wr.heap.size, 0, none⟩ = some (.int .i64 b.s) := by rw [cb.cell]; rfl
          have k1 : wb.cell? ⟨wr.heap.size, 1, none⟩ = some (.int .i64 b.p) := by rw [cb.cell]; rfl
          have k2 : wb.cell? ⟨wr.heap.size, 2, none⟩ = some (.int .i64 b.q) := by rw [cb.cell]; rfl
          have k3 : wb.cell? ⟨b2, off2 + i, none⟩ = some (.int .i64 x) := by
            rw [hwb]
            exact (((Below.refl wr.heap.size wr).alloc (Nat.le_refl _) _).cell (p := ⟨b2, off2 + i, none⟩) (Nat.lt_of_lt_of_le hbb2 B.out.size)).trans c3
          have hb2l : b2 < wb.heap.size := Nat.lt_of_lt_of_le hbb2 BB.out.size
          have HWB := hid hwb
          clear ha ht hx hy hwb cb c3
          cases t with
          | true =>
            have hxb : 0 ≤ x ∧ x ≤ b.q := by have := HT.out; rw [inC_of] at this; exact of_decide_eq_true this.symm
            have hgt := gT_bound okb hxb
            have F2 := hid (FN2.out rfl)
            have hpb := prod_bound (a := b.p) (b := x) (A := 1000000) (B := 1000000000) ⟨by have := okb.2.1; omega, okb.2.2.1⟩ ⟨hxb.1, by have := okb.2.2.2.2; omega⟩
            unfold gT at SN hgt
            have em : IntKind.i64.wrap (b.p * x) = b.p * x := IntWalk.i64_in _ (by omega)
            obtain ⟨u, hu⟩ : ∃ u, u = b.p * x := ⟨_, rfl⟩
            rw [← hu] at SN em hpb
            have em2 : IntKind.i64.wrap (b.p * x) = u := by rw [← hu] ; exact em
            have HU := hid hu
            clear hu em FN2 BX
            by_cases hs : b.s = 1
            · have e1 : (b.s == 1) = true := by simpa using hs
              rw [if_pos hs] at SN
              have ew : IntKind.i64.wrap (a + u) = a + u := IntWalk.i64_in _ (by omega)
              clear hs hgt
              go_upto_region 10 with fail
              rw [← HWB.out]
              go_region_held3 (fun wh => wh.cell? ⟨wr.heap.size, 2, none⟩ = some (.int .i64 b.q) ∧ wh.cell? ⟨b2, off2 + i, none⟩ = some (.int .i64 x))
                (exact ⟨k2, k3⟩)
                (first | (go_at_call 28; (with_reducible refine (IX.out _).mono ?_); rintro e w3 ⟨rfl, hw3⟩; subst hw3))
              all_goals (
                go_upto_region 13 with fail
                go_region
                all_goals go_wp2
                all_goals (
                  go_roundg (m - (i + 1))
                  · exact ⟨i + 1, by omega, by go_num, by rw [SN.out], F2.out, BB.out.drew.drew⟩
                  · have := HIK.out; omega))
            · have e1 : (b.s == 1) = false := by simpa using hs
              rw [if_neg hs] at SN
              have ew : IntKind.i64.wrap (a - u) = a + -u := by rw [show a + -u = a - u by omega]; exact IntWalk.i64_in _ (by omega)
              clear hs hgt
              go_upto_region 10 with fail
              rw [← HWB.out]
              go_region_held3 (fun wh => wh.cell? ⟨wr.heap.size, 2, none⟩ = some (.int .i64 b.q) ∧ wh.cell? ⟨b2, off2 + i, none⟩ = some (.int .i64 x))
                (exact ⟨k2, k3⟩)
                (first | (go_at_call 28; (with_reducible refine (IX.out _).mono ?_); rintro e w3 ⟨rfl, hw3⟩; subst hw3))
              all_goals (
                go_upto_region 14 with fail
                go_region
                all_goals go_wp2
                all_goals (
                  go_roundg (m - (i + 1))
                  · exact ⟨i + 1, by omega, by go_num, by rw [SN.out], F2.out, BB.out.drew.drew⟩
                  · have := HIK.out; omega))
          | false =>
            have FN := hid (fun w' hb => BX.out w' rfl hb)
            go_upto_region 10 with fail
            rw [← HWB.out]
            go_region_held3 (fun wh => wh.cell? ⟨wr.heap.size, 2, none⟩ = some (.int .i64 b.q) ∧ wh.cell? ⟨b2, off2 + i, none⟩ = some (.int .i64 x))
              (exact ⟨k2, k3⟩)
              (first | (go_at_call 28; (with_reducible refine (IX.out _).mono ?_); rintro e w3 ⟨rfl, hw3⟩; subst hw3))
            all_goals (
              go_wp2
              first | exact FN.out _ BB.out.drew | exact bodyPost_ret (by simp [results, Tryz.results8, go_sem]) rfl (FN.out _ BB.out.drew))
        · have hin' : i = m := by have := HIK.out; omega
          subst hin'
          have g2 : decide ((i : Int) < (i : Int)) = false := by simp
          have hlt : l.take i = l := by rw [HN.out, List.take_length]
          have hlt2 : f.take i = f := by rw [HM.out, List.take_length]
          have FN := hid (GOOD.out (by have := FIT.out; rwa [hlt, hlt2] at this) wr B.out)
          rw [hlt, hlt2]
          clear hlt hlt2
          go_wp2
          first | exact FN.out | exact bodyPost_ret (by simp [results, Tryz.results8, go_sem]) rfl FN.out
    · have g1 : ((m : Int) != (n : Int)) = true := by simp; omega
      have FN := hid (show ∀ w', Below w.heap.size w w' → R (.returned (.tuple #[.int .i64 0, .int .i64 1])) w' from fun w' hb => FM.out _ _ w' (if_neg fun q => hmn q.1) hb)
      clear FM hmn
      go_enter Tryz.func8, Tryz.ntmps8
      go_wp2_with fail
      refine CH.out.mono ?_
      rintro e w2 ⟨rfl, hb2⟩
      have B2 := hid hb2
      clear hb2 CH
      go_wp2
      first | exact FN.out _ B2.out | exact bodyPost_ret (by simp [results, Tryz.results8, go_sem]) rfl (FN.out _ B2.out)
  · rw [if_pos hc0] at FM
    have e1 : (c != 0) = true := by simpa using hc0
    go_enter Tryz.func8, Tryz.ntmps8
    go_wp2_with fail
    refine CH.out.mono ?_
    rintro e w2 ⟨rfl, hb2⟩
    have B2 := hid hb2
    clear hb2 hc0
    go_wp2
    first | exact FM.out _ _ _ rfl B2.out | exact bodyPost_ret (by simp [results, Tryz.results8, go_sem]) rfl (FM.out _ _ _ rfl B2.out)
end Go.Proofs.YtepldjidkomclaaGreat.Ca
