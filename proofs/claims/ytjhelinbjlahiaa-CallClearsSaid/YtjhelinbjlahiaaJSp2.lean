/- split: the walk. -/
import Derived.Test.YtjhelinbjlahiaaJSp0
namespace Go.Proofs.Ytjhelinbjlahiaa
set_option linter.unusedSimpArgs false
set_option linter.unusedVariables false
open Go.RowKit
attribute [local go_sem] Oper.semAt_some
attribute [local go_sem ↓] Go.wp_at_zero Go.wp_at_succ
theorem infoU64 : (Try.prog.info? 32).map (fun i => (i.zero, i.size, i.bytes)) = some (some (.int .u64 0), 1, 8) := by kernel_rfl
theorem undU64 : Try.prog.underlying 94 = some (.slice 32) := by kernel_rfl
theorem infoIn : (Try.prog.info? 3).map (fun i => (i.zero, i.size, i.bytes)) = some (some (.int .i64 0), 1, 8) := by kernel_rfl
theorem undIn : Try.prog.underlying 91 = some (.slice 3) := by kernel_rfl
theorem mk_u64 (w : World) (n : Nat) (hn : n ≤ 5000) : (Instr.makeSlice 94 (.int .i64 n) (.int .i64 n)).run Try.prog w = .ok (.slice (some ⟨w.heap.size, 0, none⟩) n n) (w.alloc (.cells (madeCells #[.int .u64 0] n) 32)) := by
  obtain ⟨i, h1, h2, h3, h4⟩ := info_of infoU64
  have := run_makeSlice (w := w) 94 32 i _ undU64 h1 h2 .i64 .i64 (n : Int) (n : Int) (by omega) (Int.le_refl _) (by rw [h3]; simp; omega) (by rw [h4]; omega) (by omega)
  rw [h3] at this
  simpa [Value.cells] using this
theorem mk_int (w : World) (n : Nat) (hn : n ≤ 5000) : (Instr.makeSlice 91 (.int .i64 n) (.int .i64 n)).run Try.prog w = .ok (.slice (some ⟨w.heap.size, 0, none⟩) n n) (w.alloc (.cells (madeCells #[.int .i64 0] n) 3)) := by
  obtain ⟨i, h1, h2, h3, h4⟩ := info_of infoIn
  have := run_makeSlice (w := w) 91 3 i _ undIn h1 h2 .i64 .i64 (n : Int) (n : Int) (by omega) (Int.le_refl _) (by rw [h3]; simp; omega) (by rw [h4]; omega) (by omega)
  rw [h3] at this
  simpa [Value.cells] using this

theorem sumI_bound {l : List Int} (h : ∀ x ∈ l, 0 ≤ x ∧ x ≤ 1000000000) : 0 ≤ sumI l ∧ sumI l ≤ 1000000000 * (l.length : Int) := by
  induction l with
  | nil => simp [sumI]
  | cons y l ih =>
    obtain ⟨h1, h2⟩ := ih fun x hx => h x (List.mem_cons_of_mem _ hx)
    have := h y List.mem_cons_self
    simp only [sumI, List.length_cons]
    omega
theorem RowL.made (w : World) (n : Nat) : RowL (w.alloc (.cells (madeCells #[.int .i64 0] n) 2)) w.heap.size n (fun _ => 0) :=
  RowL.new w n _ (size_madeCells _ _) (fun i hi => by rw [← Array.getElem?_toList, toList_madeCells_one]; simp [hi])
theorem RowU.made (w : World) (n : Nat) : RowU (w.alloc (.cells (madeCells #[.int .u64 0] n) 32)) w.heap.size n (fun _ => 0) :=
  ⟨_, Cells.new w _ _, size_madeCells _ _, fun i hi => by rw [← Array.getElem?_toList, toList_madeCells_one]; simp [hi]⟩
theorem Row.made (w : World) (n : Nat) : Row (w.alloc (.cells (madeCells #[.int .i64 0] n) 3)) w.heap.size n (fun _ => 0) :=
  ⟨_, Cells.new w _ _, fun i hi => by rw [← Array.getElem?_toList, toList_madeCells_one]; simp [hi]⟩

theorem plus_bound {f q : Nat → Int} {a m : Nat} (h : 0 ≤ q m ∧ q m ≤ 1000000000) : -1000 ≤ plusOne f q a m ∧ plusOne f q a m ≤ 9000000000000000 := by
  unfold plusOne; split <;> omega
theorem quota_b {t x S : Int} (ht : 0 ≤ t ∧ t ≤ S) (hx : 0 ≤ x ∧ x ≤ 1000000000) (hS : 0 < S) : 0 ≤ t * x / S ∧ t * x / S ≤ 1000000000 := by
  have g1 : 0 ≤ t * x / S := Int.ediv_nonneg (Int.mul_nonneg (by omega) (by omega)) (by omega)
  have g2 : t * x / S ≤ x := Int.ediv_le_of_le_mul (by omega) (by rw [Int.mul_comm x S]; exact Int.mul_le_mul_of_nonneg_right (by omega) (by omega))
  omega

set_option maxRecDepth 100000 in
set_option maxHeartbeats 8000000 in
theorem split_calls {w : World} {v : Value} {l : List Int} (hv : ReadsE encI 1 w v l) (hl : l.length ≤ 4096) (hok : ∀ x ∈ l, 0 ≤ x ∧ x ≤ 1000000000) {t : Int} (ht : 0 ≤ t ∧ t ≤ sumI l) :
    Calls Try.prog 46 #[.int .i64 t, v] w fun e w' => ∃ v', e = .returned v' ∧ RowI w.heap.size w' v' (splitL t l) ∧ Below w.heap.size w w' := by
  obtain ⟨hm, p, cap, bb, off, rfl, hp, hc⟩ := hv
  obtain ⟨n, hn⟩ : ∃ n, n = l.length := ⟨_, rfl⟩
  rw [← hn] at hp hm hl ⊢
  have HN := hid hn
  have HP := hid hp
  have HC := hid hc
  have HOK := hid hok
  have HT := hid ht
  obtain ⟨R, hR⟩ : ∃ R : Ending → World → Prop, R = fun e w' => ∃ v', e = .returned v' ∧ RowI w.heap.size w' v' (splitL t l) ∧ Below w.heap.size w w' := ⟨_, rfl⟩
  have HR := hid hR
  rw [← hR]
  have hn0 : (0 : Int) ≤ (n : Int) := by omega
  clear hR hn hp hc hok ht
  go_enter Try.func46, Try.ntmps46
  go_upto_region 3 with fail
  go_loopg [23, 5] n (fun k s23 s5 wr => ∃ i : Nat, i + k = n ∧ s23 = .int .i64 i ∧ s5 = .int .i64 (sumI (l.take i)) ∧ wr = w)
  case atStart => exact ⟨0, by omega, rfl, rfl, rfl⟩
  case round =>
    obtain ⟨i, hik, rfl, rfl, rfl⟩ := hrel
    have HIK := hid hik
    clear hik
    by_cases hin : i < n
    · have hil : i < l.length := by rw [← HN.out]; exact hin
      obtain ⟨rfl, hbb⟩ := HP.out (by omega)
      have c0 := HC.out i hil 0 (by omega)
      simp [encI] at c0
      obtain ⟨x, hx⟩ : ∃ x, x = l[i] := ⟨_, rfl⟩
      rw [← hx] at c0
      have gi : (i : Int) < (n : Int) := by omega
      have gi0 : (0 : Int) ≤ (i : Int) := by omega
      have hxb := HOK.out x (by rw [hx]; exact List.getElem_mem _)
      have hsb : 0 ≤ sumI (l.take i) ∧ sumI (l.take i) ≤ 5000000000000 := by
        have := sumI_bound (l := l.take i) (fun y hy => HOK.out y (List.mem_of_mem_take hy))
        rw [List.length_take] at this
        omega
      have SN := hid (show sumI (l.take (i + 1)) = sumI (l.take i) + x by rw [take_snoc hil, sumI_snoc, ← hx])
      obtain ⟨a, ha⟩ : ∃ a, a = sumI (l.take i) := ⟨_, rfl⟩
      rw [← ha] at hsb SN ⊢
      have ew : IntKind.i64.wrap (a + x) = a + x := IntWalk.i64_in _ (by omega)
      clear hx ha
      go_wp2
      go_roundg (n - (i + 1))
      · exact ⟨i + 1, by omega, by go_num, by rw [SN.out], rfl⟩
      · have := HIK.out; omega
    · have hin' : i = n := by have := HIK.out; omega
      subst hin'
      have g1 : decide ((i : Int) < (i : Int)) = false := by simp
      have hlt : l.take i = l := by rw [HN.out, List.take_length]
      rw [hlt]
      have hmk := mk_i64 wr i (by omega)
      have hsb := sumI_bound (l := l) HOK.out
      have HT2 := HT.out
      obtain ⟨S, hS⟩ : ∃ S, S = sumI l := ⟨_, rfl⟩
      rw [← hS] at hsb HT2 ⊢
      have HS := hid hS
      clear hS hlt
      by_cases hS0 : S = 0
      · have e1 : (S == 0) = true := by simpa using hS0
        have FIN := hid (show R (.returned (.slice (some ⟨wr.heap.size, 0, none⟩) i i)) (wr.alloc (.cells (madeCells #[.int .i64 0] i) 2)) by
          rw [HR.out]
          refine ⟨_, rfl, ?_, (Below.refl _ _).alloc (Nat.le_refl _) _⟩
          rw [splitL_zero (by rw [← HS.out]; exact hS0), ← HN.out]
          exact (RowL.made wr i).own (by simp) (fun k hk => by simp) (Nat.le_refl _) (by unfold maxLen; omega))
        go_wp2
        first | exact FIN.out | (go_ret; exact FIN.out)
      · have e1 : (S == 0) = false := by simpa using hS0
        have hmu := mk_u64 (wr.alloc (.cells (madeCells #[.int .i64 0] i) 2)) i (by omega)
        obtain ⟨w4, hw4⟩ : ∃ w4, w4 = ((((wr.alloc (.cells (madeCells #[.int .i64 0] i) 2)).alloc (.cells (madeCells #[.int .u64 0] i) 32)).alloc (.cells #[.slice (some ⟨wr.heap.size + 1, 0, none⟩) i i] 94)).alloc (.cells (madeCells #[.int .i64 0] i) 3)) := ⟨_, rfl⟩
        have hmi := mk_int (((wr.alloc (.cells (madeCells #[.int .i64 0] i) 2)).alloc (.cells (madeCells #[.int .u64 0] i) 32)).alloc (.cells #[.slice (some ⟨wr.heap.size + 1, 0, none⟩) i i] 94)) i (by omega)
        rw [← hw4] at hmi
        have S0 := hid (show SpS wr i l t S 0 w4 by
          have a1 := RowL.made wr i
          have a2 := RowU.made (wr.alloc (.cells (madeCells #[.int .i64 0] i) 2)) i
          have a3 := Cells.new ((wr.alloc (.cells (madeCells #[.int .i64 0] i) 2)).alloc (.cells (madeCells #[.int .u64 0] i) 32)) #[.slice (some ⟨wr.heap.size + 1, 0, none⟩) i i] 94
          have a4 := Row.made (((wr.alloc (.cells (madeCells #[.int .i64 0] i) 2)).alloc (.cells (madeCells #[.int .u64 0] i) 32)).alloc (.cells #[.slice (some ⟨wr.heap.size + 1, 0, none⟩) i i] 94)) i
          simp only [World.size_alloc] at a2 a3 a4
          have ka : ∀ (w : World) (o : Obj), Kept (fun _ => False) w (w.alloc o) := fun w o => (Kept.refl _ _).alloc _
          refine ⟨fun _ => 0, fun _ => 0, fun _ => 0, ⟨?_, ?_, ?_, ?_, ?_⟩, fun k hk h => absurd h (Nat.not_lt_zero k)⟩
          · rw [hw4]; exact ((a1.kept (ka _ _) id).kept (ka _ _) id).kept (ka _ _) id
          · rw [hw4]; exact (a2.kept (ka _ _) id).kept (ka _ _) id
          · rw [hw4]; exact a4
          · rw [hw4]; exact a3.alloc _
          · rw [hw4]; exact ((((Below.refl _ _).alloc (Nat.le_refl _) _).alloc (by simp) _).alloc (by simp; omega) _).alloc (by simp; omega) _)
        have HW4 := hid hw4
        clear hw4
        obtain ⟨w0, rfl⟩ : ∃ w0 : World, w0 = wr := ⟨_, rfl⟩
        go_upto_region 14 with fail
        go_loopg [46, 11] i (fun k s46 s11 wr => ∃ j : Nat, j + k = i ∧ s46 = .int .i64 j ∧ s11 = .int .i64 (t - sumI ((l.take j).map fun x => t * x / S)) ∧ SpS w0 i l t S j wr)
        case atStart => exact ⟨0, by omega, rfl, by simp [sumI], S0.out⟩
        case round =>
          obtain ⟨j, hjk, rfl, rfl, ss⟩ := hrel
          have HJK := hid hjk
          have SS := hid ss
          clear hjk ss S0 hmi hmu hmk
          by_cases hjn : j < i
          · have hjl : j < l.length := by rw [← HN.out]; exact hjn
            obtain ⟨q, r, o, sr, hlo⟩ := SS.out
            have SR := hid sr
            have HLO := hid hlo
            clear sr hlo
            obtain ⟨rfl, hbb⟩ := HP.out (by omega)
            have c0 := (SR.out.below.cell (p := ⟨bb, off + j * 1 + 0, none⟩) hbb).trans (HC.out j hjl 0 (by omega))
            simp [encI] at c0
            obtain ⟨x, hx⟩ : ∃ x, x = l[j] := ⟨_, rfl⟩
            rw [← hx] at c0
            have hxb := HOK.out x (by rw [hx]; exact List.getElem_mem _)
            have gj : (j : Int) < (i : Int) := by omega
            have gj0 : (0 : Int) ≤ (j : Int) := by omega
            have hS6 : S ≤ 5000000000000 := by have := HN.out; omega
            have SN := hid (show sumI ((l.take (j + 1)).map fun x => t * x / S) = sumI ((l.take j).map fun x => t * x / S) + t * x / S by rw [take_snoc hjl, List.map_append, List.map_singleton, sumI_snoc, ← hx])
            have HX := hid hx
            have qn := quota_nat (t := t.toNat) (x := x.toNat) (S := S.toNat) (by omega) (by omega) (by omega)
            have hLm := Nat.mod_lt (t.toNat * x.toNat) (show 18446744073709551616 > 0 by omega)
            have hmul := fun wx => Try.bits_Mul64 t.toNat x.toNat (by omega) (by omega) wx
            obtain ⟨H, hH⟩ : ∃ H, H = t.toNat * x.toNat / 18446744073709551616 := ⟨_, rfl⟩
            obtain ⟨L, hL⟩ : ∃ L, L = t.toNat * x.toNat % 18446744073709551616 := ⟨_, rfl⟩
            rw [← hH, ← hL] at qn
            rw [← hL] at hLm
            rw [← hH, ← hL, Int.toNat_of_nonneg (show 0 ≤ t by omega), Int.toNat_of_nonneg (show 0 ≤ x by omega)] at hmul
            have MU := hid hmul
            have DV := hid (show ∀ wx, Calls Try.prog 63 #[.int .u64 (H : Int), .int .u64 (L : Int), .int .u64 S] wx fun e w' => e = .returned (.tuple #[.int .u64 (t * x / S), .int .u64 (t * x % S)]) ∧ ∃ k, w' = wx.drewN k from fun wx => by
              have := div64_calls H L S.toNat qn.1 hLm (by omega) wx
              rw [qn.2, Int.natCast_ediv, Int.natCast_emod, Int.natCast_mul, Int.toNat_of_nonneg (show 0 ≤ t by omega), Int.toNat_of_nonneg (show 0 ≤ x by omega), Int.toNat_of_nonneg (show 0 ≤ S by omega)] at this
              exact this)
            obtain ⟨sm, hsm⟩ : ∃ sm, sm = sumI ((l.take j).map fun x => t * x / S) := ⟨_, rfl⟩
            rw [← hsm] at SN ⊢
            have hsmb : 0 ≤ sm ∧ sm ≤ 5000000000000 := by
              have := sumI_bound (l := (l.take j).map fun x => t * x / S) (fun y hy => by
                obtain ⟨x', hx', rfl⟩ := List.mem_map.1 hy
                have hxb' := HOK.out x' (List.mem_of_mem_take hx')
                have g1 : 0 ≤ t * x' / S := Int.ediv_nonneg (Int.mul_nonneg (by omega) (by omega)) (by omega)
                have g2 : t * x' / S ≤ x' := Int.ediv_le_of_le_mul (by omega) (by rw [Int.mul_comm x' S]; exact Int.mul_le_mul_of_nonneg_right (by omega) (by omega))
                omega)
              rw [List.length_map, List.length_take] at this
              omega
            have hQ0 : 0 ≤ t * x / S := Int.ediv_nonneg (Int.mul_nonneg (by omega) (by omega)) (by omega)
            have hQ1 : t * x / S ≤ x := Int.ediv_le_of_le_mul (by omega) (by rw [Int.mul_comm x S]; exact Int.mul_le_mul_of_nonneg_right (by omega) (by omega))
            have eu1 : IntKind.u64.wrap t = t := IntWalk.u64_in _ (by omega)
            have eu2 : IntKind.u64.wrap x = x := IntWalk.u64_in _ (by omega)
            have eu3 : IntKind.u64.wrap S = S := IntWalk.u64_in _ (by omega)
            obtain ⟨Q, hQe⟩ : ∃ Q, Q = t * x / S := ⟨_, rfl⟩
            obtain ⟨U, hUe⟩ : ∃ U, U = t * x % S := ⟨_, rfl⟩
            rw [← hQe] at hQ0 hQ1 SN
            rw [← hQe, ← hUe] at DV
            have ei : IntKind.i64.wrap Q = Q := IntWalk.i64_in _ (by omega)
            have HQ := hid hQe
            have HU := hid hUe
            clear hsm hx hQe hUe qn hLm hmul hH hL
            go_upto_region 16 with fail
            go_wp2_with fail
            refine (MU.out _).mono ?_
            rintro e w5 ⟨rfl, rfl⟩
            go_wp2_with fail
            refine (DV.out _).mono ?_
            rintro e w6 ⟨rfl, kk, rfl⟩
            go_upto_region 18 with fail
            have sr6 : SpR w0 i q r o (w5.drewN kk) := ⟨SR.out.out, SR.out.rst, SR.out.ord, SR.out.box, drewN_below SR.out.below kk⟩
            obtain ⟨w6, hw6⟩ : ∃ w6, w6 = w5.drewN kk := ⟨_, rfl⟩
            rw [← hw6] at sr6 ⊢
            have m1 := sr6.out.cell hjn
            have m2 := sr6.rst.cell hjn
            have m3 := sr6.ord.cell hjn
            have mb : w6.cell? ⟨w0.heap.size + 2, 0, none⟩ = some (.slice (some ⟨w0.heap.size + 1, 0, none⟩) i i) := by rw [sr6.box.cell]; rfl
            have f1 := sr6.out.froz j
            have f2 := sr6.rst.froz j
            have f3 := sr6.ord.froz j
            have l1 := sr6.out.lt
            have l2 := sr6.rst.lt
            have l3 := sr6.ord.lt
            have l4 := sr6.box.lt
            have SR6 := hid sr6
            clear sr6 hw6
            have ev : IntKind.i64.wrap (t - sm - Q) = t - sm - Q := IntWalk.i64_in _ (by omega)
            have LE := hid (show t - sumI ((l.take (j + 1)).map fun x => t * x / S) = t - sm - Q by have h1 := SN.out; have h2 := HQ.out; omega)
            go_region
            all_goals go_wp2
            all_goals (
              go_roundg (i - (j + 1))
              · refine ⟨j + 1, by omega, by go_num, by rw [LE.out], SpS.next HLO.out hjl HX.out ?_⟩
                rw [← HQ.out, ← HU.out]
                first
                  | exact (((SR6.out.setQ j Q).setR j U).setO j j)
                  | exact (((SR6.out.setQ j Q).setR j U).setO j j).drew
                  | exact (((SR6.out.setQ j Q).setO j j).setR j U)
                  | exact (((SR6.out.setQ j Q).setO j j).setR j U).drew
                  | exact (((SR6.out.setR j U).setQ j Q).setO j j)
                  | exact (((SR6.out.setR j U).setQ j Q).setO j j).drew
                  | exact (((SR6.out.setR j U).setO j j).setQ j Q)
                  | exact (((SR6.out.setR j U).setO j j).setQ j Q).drew
                  | exact (((SR6.out.setO j j).setQ j Q).setR j U)
                  | exact (((SR6.out.setO j j).setQ j Q).setR j U).drew
                  | exact (((SR6.out.setO j j).setR j U).setQ j Q)
                  | exact (((SR6.out.setO j j).setR j U).setQ j Q).drew
                  | exact (((SR6.out.drew.setQ j Q).setR j U).setO j j)
                  | exact (((SR6.out.drew.setQ j Q).setR j U).setO j j).drew
                  | exact (((SR6.out.drew.setQ j Q).setO j j).setR j U)
                  | exact (((SR6.out.drew.setQ j Q).setO j j).setR j U).drew
                  | exact (((SR6.out.drew.setR j U).setQ j Q).setO j j)
                  | exact (((SR6.out.drew.setR j U).setQ j Q).setO j j).drew
                  | exact (((SR6.out.drew.setR j U).setO j j).setQ j Q)
                  | exact (((SR6.out.drew.setR j U).setO j j).setQ j Q).drew
                  | exact (((SR6.out.drew.setO j j).setQ j Q).setR j U)
                  | exact (((SR6.out.drew.setO j j).setQ j Q).setR j U).drew
                  | exact (((SR6.out.drew.setO j j).setR j U).setQ j Q)
                  | exact (((SR6.out.drew.setO j j).setR j U).setQ j Q).drew
              · have := HJK.out; omega)
          · have hj' : j = i := by have := HJK.out; omega
            subst hj'
            obtain ⟨q, r, o, sr, hlo⟩ := SS.out
            have hnl := HN.out
            have ro : Row wr (w0.heap.size + 3) j (fun k => (k : Int)) := sr.ord.congr fun k hk => (hlo k (by omega) hk).2.2.symm
            have CM := cmp_split sr.rst sr.box (g := w0.heap.size + 3) (by omega) (by omega) (by omega)
            have ST := hid (sortStable_calls ro (by omega) j CM (swoR r) (fun k hk => ⟨by omega, by omega⟩) (fun a b h1 h2 => by omega))
            have SR := hid sr
            have HLO := hid hlo
            have g1 : decide ((j : Int) < (j : Int)) = false := by simp
            clear hnl ro CM sr hlo
            go_wp2_with fail
            refine ST.out.mono ?_
            rintro e w7 ⟨rfl, f7, hr7, hg7, hk7⟩
            have hlt : l.take j = l := by rw [HN.out, List.take_length]
            have OF := hid (order_facts hg7)
            have HG := hid hg7
            have QB := hid (show ∀ m, m < j → 0 ≤ q m ∧ q m ≤ 1000000000 from fun m hm => by
              have hml : m < l.length := by rw [← HN.out]; exact hm
              rw [(HLO.out m hml hm).1]
              exact quota_b (by omega) (HOK.out _ (List.getElem_mem hml)) (by omega))
            have LB := hid (left_bound (t := t) (l := l) (by rw [← HS.out]; omega))
            have rq := SR.out.out.kept hk7 (by omega)
            have B7 := hid (SR.out.below.trans (hk7.below SR.out.below.size (fun k hk => by omega)))
            have R7 := hid hr7
            have RQ := hid rq
            clear hr7 hg7 hk7 rq ST
            rw [hlt]
            obtain ⟨lf, hlf⟩ : ∃ lf : Nat, t - sumI (l.map fun x => t * x / S) = lf := ⟨(t - sumI (l.map fun x => t * x / S)).toNat, by have := LB.out.1; rw [← HS.out] at this; omega⟩
            rw [hlf]
            have hlj : lf ≤ j := by have := LB.out.2; rw [← HS.out, hlf] at this; have := HN.out; omega
            have HLF := hid hlf
            have hlj0 : (0 : Int) ≤ (lf : Int) := by omega
            have hlj1 : (lf : Int) ≤ (j : Int) := by omega
            clear hlf hlt
            go_upto_region 23 with fail
            go_loopg [92] lf (fun k s92 wx => ∃ a : Nat, a + k = lf ∧ s92 = .int .i64 a ∧ RowL wx w0.heap.size j (plusOne f7 q a) ∧ Row wx (w0.heap.size + 3) j f7 ∧ Below w0.heap.size w0 wx)
            case atStart => exact ⟨0, by omega, rfl, by
              have : plusOne f7 q 0 = q := funext fun m => by unfold plusOne; simp
              rw [this]; exact RQ.out, R7.out, B7.out⟩
            case round =>
              obtain ⟨a, hak, rfl, hra, hro, hba⟩ := hrel
              have HAK := hid hak
              have RA := hid hra
              have RO := hid hro
              have BA := hid hba
              clear hak hra hro hba
              by_cases hal : a < lf
              · have haj : a < j := by omega
                obtain ⟨m, hm⟩ : ∃ m : Nat, f7 a = m := ⟨(f7 a).toNat, by have := OF.out.1 a haj; omega⟩
                have hmj : m < j := by have := OF.out.1 a haj; omega
                have c1 := RO.out.cell haj
                rw [hm] at c1
                have c2 := RA.out.cell hmj
                have f2 := RA.out.froz m
                have l2 := RA.out.lt
                have l1 := RO.out.lt
                have hub : -1000 ≤ plusOne f7 q a m ∧ plusOne f7 q a m ≤ 9000000000000000 := plus_bound (QB.out m hmj)
                have HM := hid hm
                obtain ⟨u, hu⟩ : ∃ u, u = plusOne f7 q a m := ⟨_, rfl⟩
                rw [← hu] at c2 hub
                have HU := hid hu
                have eu : IntKind.i64.wrap (u + 1) = u + 1 := IntWalk.i64_in _ (by omega)
                have ga : (a : Int) < (lf : Int) := by omega
                have ga0 : (0 : Int) ≤ (a : Int) := by omega
                have gm : (m : Int) < (j : Int) := by omega
                have gm0 : (0 : Int) ≤ (m : Int) := by omega
                clear hu hm
                go_wp2
                go_roundg (lf - (a + 1))
                · refine ⟨a + 1, by omega, by go_num, ?_, RO.out.kept (set_kept _ _ _ _) (by omega), BA.out.trans ((set_kept _ _ _ _).below BA.out.size (fun k hk => by omega))⟩
                  have := RA.out.set m (u + 1)
                  have e : plusOne f7 q (a + 1) = fun k => if k = m then u + 1 else plusOne f7 q a k := funext fun k => by
                    rw [plus_step OF.out.2 haj k, HM.out]
                    by_cases e : k = m
                    · subst e; rw [if_pos rfl, if_pos rfl, HU.out]
                    · rw [if_neg (by omega), if_neg e]
                  rw [e]
                  exact this
                · have := HAK.out; omega
              · have hal' : a = lf := by have := HAK.out; omega
                subst hal'
                have g1 : decide ((a : Int) < (a : Int)) = false := by simp
                have FIN := hid (show R (.returned (.slice (some ⟨w0.heap.size, 0, none⟩) j j)) wr by
                  rw [HR.out]
                  refine ⟨_, rfl, ?_, BA.out⟩
                  refine RA.out.own (by rw [splitL_len]; exact HN.out.symm) (fun k hk => ?_) (Nat.le_refl _) (by unfold maxLen; omega)
                  have hlo := HLO.out
                  have hs := HS.out
                  subst hs
                  exact split_end HN.out hS0 (fun k hk hkj => ⟨(hlo k hk hkj).1, (hlo k hk hkj).2.1⟩) HG.out HLF.out hlj k hk)
                go_wp2
                first | exact FIN.out | (go_ret; exact FIN.out)
end Go.Proofs.Ytjhelinbjlahiaa
