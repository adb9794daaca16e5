/- call.zones: walked. -/
import Derived.Test.YtjhelinbjlahiaaJZn1
namespace Go.Proofs.Ytjhelinbjlahiaa
set_option linter.unusedSimpArgs false
set_option linter.unusedVariables false
open Go.RowKit Go.Maps
attribute [local go_sem] Oper.semAt_some
attribute [local go_sem ↓] Go.wp_at_zero Go.wp_at_succ
def ZonesP (w : World) (l : List Bd) (e : Ending) (w' : World) : Prop := ∃ v, e = .returned v ∧ RowZ w.heap.size w' v (zonesL l) ∧ Below w.heap.size w w'

set_option maxRecDepth 100000 in
set_option maxHeartbeats 8000000 in
theorem zones_calls {w : World} {v : Value} {l : List Bd} (hv : ReadsE encBd 3 w v l) (hl : l.length ≤ 4096) (hok : ∀ b ∈ l, b.ok) :
    Calls Try.prog 49 #[v] w (ZonesP w l) := by
  obtain ⟨hm, p, cap, bb, off, rfl, hp, hc⟩ := hv
  obtain ⟨R, hR⟩ : ∃ R, R = ZonesP w l := ⟨_, rfl⟩
  obtain ⟨n, hn⟩ : ∃ n, n = l.length := ⟨_, rfl⟩
  rw [← hn] at hp hm hl ⊢
  rw [← hR]
  have HR := hid hR
  have HN := hid hn
  have HP := hid hp
  have HC := hid hc
  have HOK := hid hok
  have Z0 := hid (show ∀ wx, wx = ((w.alloc (.cells #[.int .i64 1] 2)).alloc (.map #[] 0)).alloc (.map #[] 0) → Z1 w (w.heap.size + 1) (w.heap.size + 1 + 1) l 0 wx (.slice (some ⟨w.heap.size, 0, none⟩) 1 1) by
    rintro wx rfl
    have b1 : Below w.heap.size w (w.alloc (.cells #[.int .i64 1] 2)) := (Below.refl _ _).alloc (Nat.le_refl _) _
    have r1 : RowI w.heap.size (w.alloc (.cells #[.int .i64 1] 2)) (.slice (some ⟨w.heap.size, 0, none⟩) 1 1) [1] := OwnE.new w (Nat.le_refl _) 1 rfl _ rfl
    have m1 := MapF.new (w.alloc (.cells #[.int .i64 1] 2))
    have m2 := MapF.new ((w.alloc (.cells #[.int .i64 1] 2)).alloc (.map #[] 0))
    rw [World.size_alloc] at m1
    rw [World.size_alloc, World.size_alloc] at m2
    refine ⟨(r1.alloc _).alloc _, m2.congr fun k => rfl, (m1.below ((Below.refl _ _).alloc (Nat.le_refl _) _)).congr fun k => rfl, (b1.alloc (by simp) _).alloc (by simp; omega) _, by omega, by omega, by omega⟩)
  clear hR hn hp hc hok
  have hmm := @run_makeMap Try.prog
  go_enter Try.func49, Try.ntmps49
  go_upto_region 5 with fail
  have Z00 := hid (Z0.out _ rfl)
  clear Z0 hmm
  go_loopg [19, 3, 6] n (fun k s19 s3 s6 wr => ∃ i : Nat, i + k = n ∧ s19 = .int .i64 i ∧ s6 = .int .i64 (sumQ (fun b => decide (b.s = 1)) (l.take i)) ∧ Z1 w (w.heap.size + 1) (w.heap.size + 1 + 1) l i wr s3)
  case atStart => exact ⟨0, by omega, rfl, rfl, Z00.out⟩
  case round =>
    obtain ⟨i, hik, rfl, rfl, hz⟩ := hrel
    have HIK := hid hik
    have HZ := hid hz
    clear hik hz Z00
    by_cases hin : i < n
    · have hil : i < l.length := by rw [← HN.out]; exact hin
      obtain ⟨rfl, hbb⟩ := HP.out (by omega)
      have c0 := (HZ.out.below.cell (p := ⟨bb, off + i * 3 + 0, none⟩) hbb).trans (HC.out i hil 0 (by omega))
      have c1 := (HZ.out.below.cell (p := ⟨bb, off + i * 3 + 1, none⟩) hbb).trans (HC.out i hil 1 (by omega))
      have c2 := (HZ.out.below.cell (p := ⟨bb, off + i * 3 + 2, none⟩) hbb).trans (HC.out i hil 2 (by omega))
      simp [encBd] at c0 c1 c2
      have gi : (i : Int) < (n : Int) := by omega
      have gi4 : (0 : Int) ≤ (i : Int) := by omega
      have okl := HOK.out l[i] (List.getElem_mem _)
      have dsn := sumQ_snoc (fun b => decide (b.s = 1)) (l.take i) l[i]
      rw [← take_snoc hil] at dsn
      have dbd := sumQ_bound (fun b => decide (b.s = 1)) (l := l.take i) (fun y hy => HOK.out y (List.mem_of_mem_take hy))
      have dnb := sumQ_bound (fun b => decide (b.s = 1 ∧ b.p + 1 = l[i].p + 1)) (l := l.take i) (fun y hy => HOK.out y (List.mem_of_mem_take hy))
      have upb := sumQ_bound (fun b => decide (b.s ≠ 1 ∧ b.p = l[i].p)) (l := l.take i) (fun y hy => HOK.out y (List.mem_of_mem_take hy))
      rw [List.length_take] at dbd dnb upb
      have hmin : min i l.length ≤ 4096 := by omega
      obtain ⟨d, hd⟩ : ∃ d, d = sumQ (fun b => decide (b.s = 1)) (l.take i) := ⟨_, rfl⟩
      rw [← hd] at dsn dbd ⊢
      obtain ⟨b, hx⟩ : ∃ b, b = l[i] := ⟨_, rfl⟩
      obtain ⟨dv, hdv⟩ : ∃ dv, dv = downF (l.take i) (b.p + 1) := ⟨_, rfl⟩
      obtain ⟨uv, huv⟩ : ∃ uv, uv = upF (l.take i) b.p := ⟨_, rfl⟩
      have dnb' : 0 ≤ dv ∧ dv ≤ 4096000000000 := by rw [hdv, hx]; unfold downF; omega
      have upb' : 0 ≤ uv ∧ uv ≤ 4096000000000 := by rw [huv, hx]; unfold upF; omega
      rw [← hx] at c0 c1 c2 okl dsn
      have HX := hid hx
      obtain ⟨ok1, ok2, ok3, ok4, ok5⟩ := okl
      have ed : IntKind.i64.wrap (d + b.q) = d + b.q := IntWalk.i64_in _ (by omega)
      have ep : IntKind.i64.wrap (b.p + 1) = b.p + 1 := IntWalk.i64_in _ (by omega)
      have edv : IntKind.i64.wrap (dv + b.q) = dv + b.q := IntWalk.i64_in _ (by omega)
      have euv : IntKind.i64.wrap (uv + b.q) = uv + b.q := IntWalk.i64_in _ (by omega)
      obtain ⟨wb, hwb⟩ : ∃ wb, wb = wr.alloc (.cells #[.int .i64 b.s, .int .i64 b.p, .int .i64 b.q] 77) := ⟨_, rfl⟩
      have ZB := HZ.out.alloc (.cells #[.int .i64 b.s, .int .i64 b.p, .int .i64 b.q] 77)
      rw [← hwb] at ZB
      have cb : Cells wb wr.heap.size #[.int .i64 b.s, .int .i64 b.p, .int .i64 b.q] 77 := by rw [hwb]; exact Cells.new wr _ _
      have hlb := cb.lt
      have w1 : (Lit.int .i64 (b.p + 1)).wf = true := WalkArith.wf_i64 (by omega)
      have w2 : (Lit.int .i64 b.p).wf = true := WalkArith.wf_i64 (by omega)
      have hdl := HZ.out.dn.lt
      have hul := HZ.out.up.lt
      have k0 : wb.cell? ⟨wr.heap.size, 0, none⟩ = some (.int .i64 b.s) := by rw [cb.cell]; rfl
      have k1 : wb.cell? ⟨wr.heap.size, 1, none⟩ = some (.int .i64 b.p) := by rw [cb.cell]; rfl
      have k2 : wb.cell? ⟨wr.heap.size, 2, none⟩ = some (.int .i64 b.q) := by rw [cb.cell]; rfl
      have lkd := ZB.dn.look w1
      have lku := ZB.up.look w2
      have HWB := hid hwb
      rw [← hdv] at lkd
      rw [← huv] at lku
      by_cases hs : b.s = 1
      · have e1 : (b.s == 1) = true := by simpa using hs
        obtain ⟨w4, r1, v5, w5, r2, z5, kd5, kk5⟩ := ZB.buy hil (by rw [← HN.out]; exact hl) hx hs w1 24
        rw [← hdv] at r1
        have cb4 := cb.kept kk5 (by omega)
        have l4 := cb4.lt
        have m1 : w4.cell? ⟨wr.heap.size, 1, none⟩ = some (.int .i64 b.p) := by rw [cb4.cell]; rfl
        have Z5 := hid z5
        have R2 := hid r2
        have DSN := hid (show sumQ (fun b => decide (b.s = 1)) (l.take (i + 1)) = d + b.q by rw [dsn]; simp [hs])
        clear hd hdv huv hx hwb hs r2 z5 kd5 kk5 cb4 cb ZB dsn dbd dnb upb
        go_upto_region 7 with fail
        rw [← HWB.out]
        go_wp2_with (at_builtin; refine wpList_append_run rfl (.tmp 38) (.tmp 42) 24 rfl _ _ v5 w5 rfl rfl R2.out ?_)
        go_roundg (n - (i + 1))
        · exact ⟨i + 1, by omega, by go_num, by rw [DSN.out], Z5.out⟩
        · have := HIK.out; omega
      · have e1 : (b.s == 1) = false := by simpa using hs
        obtain ⟨w4, r1, v5, w5, r2, z5, kd5, kk5⟩ := ZB.sell hil (by rw [← HN.out]; exact hl) hx hs w2 24
        rw [← huv] at r1
        have cb4 := cb.kept kk5 (by omega)
        have l4 := cb4.lt
        have m1 : w4.cell? ⟨wr.heap.size, 1, none⟩ = some (.int .i64 b.p) := by rw [cb4.cell]; rfl
        have Z5 := hid z5
        have R2 := hid r2
        have DSN := hid (show sumQ (fun b => decide (b.s = 1)) (l.take (i + 1)) = d by rw [dsn]; simp [hs])
        clear hd hdv huv hx hwb hs r2 z5 kd5 kk5 cb4 cb ZB dsn dbd dnb upb
        go_upto_region 7 with fail
        rw [← HWB.out]
        go_wp2_with (at_builtin; refine wpList_append_run rfl (.tmp 51) (.tmp 54) 24 rfl _ _ v5 w5 rfl rfl R2.out ?_)
        go_roundg (n - (i + 1))
        · exact ⟨i + 1, by omega, by go_num, by rw [DSN.out], Z5.out⟩
        · have := HIK.out; omega
    · have hin' : i = n := by have := HIK.out; omega
      subst hin'
      have g1 : decide ((i : Int) < (i : Int)) = false := by simp
      have SW := hid (sort_calls HZ.out.row (by simp; omega))
      go_wp2_with fail
      refine SW.out.mono ?_
      rintro e w2 ⟨rfl, hr2, hk2⟩
      have CS := hid (compact_calls hr2 (by rw [List.length_mergeSort]; first | (simp; done) | (simp; omega)) (fun h => by have := congrArg List.length h; rw [List.length_mergeSort] at this; simp at this))
      have K2 := hid hk2
      clear hr2 hk2 SW
      go_wp2_with fail
      refine CS.out.mono ?_
      rintro e w3 ⟨v3, rfl, hr3, ho3, hk3⟩
      have hll : l.length ≤ 4096 := by rw [← HN.out]; exact hl
      have S0 := hid (Z2.of HZ.out HN.out hll K2.out hk3 hr3)
      have DM := hid (show sumQ (fun b => decide (b.s = 1)) (l.take i) = dmd l (starts l) 0 by rw [dmd_zero, HN.out, List.take_length])
      clear hr3 ho3 hk3 CS K2 HZ
      obtain ⟨pS, cS, gS, hvS, hpS, hcS⟩ := OwnE.cells (enc := encI) (sz := 1) (fun _ => rfl) S0.out.row
      obtain ⟨rfl, hgS, hgl⟩ := hpS (starts_ne l)
      obtain ⟨N, hN2⟩ : ∃ N, N = (starts l).length := ⟨_, rfl⟩
      have HN2 := hid hN2
      rw [← hN2] at hvS
      subst hvS
      have hN6 : N ≤ 4097 := by have h1 := starts_len l; have h2 := HN2.out; omega
      rw [DM.out]
      clear hcS hN2
      obtain ⟨i0, hi0⟩ : ∃ i0 : Int, i0 = (i : Int) := ⟨_, rfl⟩
      rw [← hi0]
      clear hi0 g1
      go_upto_region 19 with fail
      go_loopg [63, 6, 9, 10] N (fun k s63 s6 s9 s10 wr => ∃ (j : Nat) (vo : Value), j + k = N ∧ vo = s10 ∧ s63 = .int .i64 j ∧ s6 = .int .i64 (dmd l (starts l) j) ∧ s9 = .int .i64 (spl l (starts l) j) ∧ Z2 w (w.heap.size + 1) (w.heap.size + 1 + 1) l (.slice (some ⟨gS, 0, none⟩) N cS) j wr vo)
      case atStart => exact ⟨0, _, by omega, rfl, rfl, rfl, by rw [spl_zero], S0.out⟩
      case round =>
        obtain ⟨j, vo, hjk, rfl, rfl, rfl, rfl, hz2⟩ := hrel
        have HJK := hid hjk
        have HZ2 := hid hz2
        clear hjk hz2
        by_cases hjn : j < N
        · have hjl : j < (starts l).length := by rw [← HN2.out]; exact hjn
          obtain ⟨hq, hgl2, _, hcS⟩ := OwnE.cellsAt (enc := encI) (sz := 1) (fun _ => rfl) HZ2.out.row
          clear hq
          have hc0 := hcS j hjl 0 (by omega)
          simp [encI] at hc0
          obtain ⟨x, hx⟩ : ∃ x, x = (starts l).getD j 0 := ⟨_, rfl⟩
          have hxe : x = (starts l)[j] := by rw [hx]; simp [hjl]
          rw [← hxe] at hc0
          have hxb := starts_bound HOK.out (x := x) (by rw [hxe]; exact List.getElem_mem _)
          have hwx : (Lit.int .i64 x).wf = true := WalkArith.wf_i64 (by omega)
          have lkd := HZ2.out.dn.look hwx
          have lku := HZ2.out.up.look hwx
          have D1 := dmd_step (l := l) (starts_spec l).1 hjl
          have U1 := spl_step (l := l) (starts_spec l).1 hjl
          have D2 := dmd_at (l := l) hjl
          have U2 := spl_at (l := l) hjl
          rw [← hx] at D1 U1 D2 U2
          have bD := sumQ_bound (buyT x) HOK.out
          have bU := sumQ_bound (selT x) HOK.out
          obtain ⟨dj, hdj⟩ : ∃ dj, dj = dmd l (starts l) j := ⟨_, rfl⟩
          obtain ⟨uj, huj⟩ : ∃ uj, uj = spl l (starts l) j := ⟨_, rfl⟩
          obtain ⟨dx, hdx⟩ : ∃ dx, dx = downF l x := ⟨_, rfl⟩
          obtain ⟨ux, hux⟩ : ∃ ux, ux = upF l x := ⟨_, rfl⟩
          obtain ⟨dk, hdk⟩ : ∃ dk, dk = dmd l (starts l) (j + 1) := ⟨_, rfl⟩
          obtain ⟨uk, huk⟩ : ∃ uk, uk = spl l (starts l) (j + 1) := ⟨_, rfl⟩
          rw [← hdx] at lkd
          rw [← hux] at lku
          rw [← hdj, ← hdx, ← hdk] at D1
          rw [← huj, ← hux, ← huk] at U1
          rw [← hdk] at D2
          rw [← huk] at U2
          have hll : l.length ≤ 4096 := by rw [← HN.out]; omega
          have ed : IntKind.i64.wrap (dj - dx) = dk := by rw [← D1]; refine IntWalk.i64_in _ ?_; rw [D2]; unfold dem; omega
          have eu : IntKind.i64.wrap (uj + ux) = uk := by rw [← U1]; refine IntWalk.i64_in _ ?_; rw [U2]; unfold sup; omega
          rw [← hdj, ← huj]
          have HDK := hid hdk
          have HUK := hid huk
          have HX := hid hx
          have HD2 := hid D2
          have HU2 := hid U2
          have gj : (j : Int) < (N : Int) := by omega
          have gj0 : (0 : Int) ≤ (j : Int) := by omega
          have ej : IntKind.i64.wrap ((j : Int) + 1) = ((j + 1 : Nat) : Int) := IntWalk.i64_in _ (by omega)
          have ZAT := hid (show zAt l (starts l) j = if x ≤ 1000000 then [⟨x, if j + 1 < N then (starts l).getD (j + 1) 0 - 1 else 1000000, dk, uk⟩] else [] by unfold zAt; rw [← hx, ← HN2.out, D2, U2])
          by_cases hjn2 : j + 1 < N
          · have hjl2 : j + 1 < (starts l).length := by rw [← HN2.out]; exact hjn2
            have hc1 := hcS (j + 1) hjl2 0 (by omega)
            simp [encI] at hc1
            obtain ⟨y, hy⟩ : ∃ y, y = (starts l).getD (j + 1) 0 := ⟨_, rfl⟩
            have hye : y = (starts l)[j + 1] := by rw [hy]; simp [hjl2]
            rw [← hye] at hc1
            have hyb := starts_bound HOK.out (x := y) (by rw [hye]; exact List.getElem_mem _)
            have ey : IntKind.i64.wrap (y - 1) = y - 1 := IntWalk.i64_in _ (by omega)
            have gj2 : ((j + 1 : Nat) : Int) < (N : Int) := by omega
            have gj3 : (0 : Int) ≤ ((j + 1 : Nat) : Int) := by omega
            have ZA2 := hid (show zAt l (starts l) j = if x ≤ 1000000 then [⟨x, y - 1, dk, uk⟩] else [] by rw [ZAT.out, if_pos hjn2, ← hy])
            clear hx hxe hdj huj hdx hux hdk huk D1 U1 D2 U2 bD bU hy hye hcS ZAT
            by_cases hxm : x ≤ 1000000
            · have ZA3 := hid (show zAt l (starts l) j = [⟨x, y - 1, dk, uk⟩] by rw [ZA2.out, if_pos hxm])
              obtain ⟨v5, w5, r5, z5⟩ := HZ2.out.app (by omega) ZA3.out 81
              have R5 := hid r5
              have Z5 := hid z5
              clear r5 z5
              go_wp2_with (at_builtin; refine wpList_append_run rfl (.tmp 91) (.tmp 97) 81 rfl _ _ v5 w5 rfl rfl R5.out ?_)
              go_roundg (N - (j + 1))
              · exact ⟨j + 1, _, by omega, rfl, by go_num, by rw [HDK.out], by rw [HUK.out], Z5.out⟩
              · have := HJK.out; omega
            · have ZA3 := hid (show zAt l (starts l) j = [] by rw [ZA2.out, if_neg hxm])
              go_wp2
              go_roundg (N - (j + 1))
              · exact ⟨j + 1, _, by omega, rfl, by go_num, by rw [HDK.out], by rw [HUK.out], HZ2.out.same ZA3.out⟩
              · have := HJK.out; omega
          · have gj2 : ¬ ((j + 1 : Nat) : Int) < (N : Int) := by omega
            have ZA2 := hid (show zAt l (starts l) j = if x ≤ 1000000 then [⟨x, 1000000, dk, uk⟩] else [] by rw [ZAT.out, if_neg hjn2])
            clear hx hxe hdj huj hdx hux hdk huk D1 U1 D2 U2 bD bU hcS ZAT
            by_cases hxm : x ≤ 1000000
            · have ZA3 := hid (show zAt l (starts l) j = [⟨x, 1000000, dk, uk⟩] by rw [ZA2.out, if_pos hxm])
              obtain ⟨v5, w5, r5, z5⟩ := HZ2.out.app (by omega) ZA3.out 81
              have R5 := hid r5
              have Z5 := hid z5
              clear r5 z5
              go_wp2_with (at_builtin; refine wpList_append_run rfl (.tmp 91) (.tmp 97) 81 rfl _ _ v5 w5 rfl rfl R5.out ?_)
              go_roundg (N - (j + 1))
              · exact ⟨j + 1, _, by omega, rfl, by go_num, by rw [HDK.out], by rw [HUK.out], Z5.out⟩
              · have := HJK.out; omega
            · have ZA3 := hid (show zAt l (starts l) j = [] by rw [ZA2.out, if_neg hxm])
              go_wp2
              go_roundg (N - (j + 1))
              · exact ⟨j + 1, _, by omega, rfl, by go_num, by rw [HDK.out], by rw [HUK.out], HZ2.out.same ZA3.out⟩
              · have := HJK.out; omega
        · have hj' : j = N := by have := HJK.out; omega
          subst hj'
          have g1 : decide ((j : Int) < (j : Int)) = false := by simp
          have FIN := hid (show R (.returned vo) wr by rw [HR.out]; exact ⟨_, rfl, by have := HZ2.out.out; unfold zonesL; rw [← HN2.out]; exact this, HZ2.out.below⟩)
          go_wp2
          first | exact FIN.out | (go_ret; exact FIN.out)
end Go.Proofs.Ytjhelinbjlahiaa
