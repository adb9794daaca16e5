/- The reference: Least. -/
import Derived.Test.YtojednnciknhpaaDoorJLv0
import Derived.Test.YtojednnciknhpaaDoorJLh1
namespace Go.Proofs.YtojednnciknhpaaDoor
set_option linter.unusedSimpArgs false
set_option linter.unusedVariables false
open Go.RowKit
attribute [local go_sem] Oper.semAt_some
attribute [local go_sem ↓] Go.wp_at_zero Go.wp_at_succ
/-- A number comes behind an own row; blocks of other types stay. -/
theorem rowi_app' {B : Nat} {w : World} {v : Value} {l : List Int} (h : RowI B w v l) (hB : B ≤ w.heap.size) (x : Int) (hl : l.length ≤ 1000000) :
    ∃ v' w', (Builtin.append_ #[22, 22] 22 #[v, .slice (some ⟨w.heap.size, 0, none⟩) 1 1]).run Tryd.prog (w.alloc (.cells #[.int .i64 x] 2)) = .ok v' w' ∧ RowI B w' v' (l ++ [x]) ∧ Below B w w' ∧ ∀ g cs ty', Cells w g cs ty' → ty' ≠ 2 → Cells w' g cs ty' := by
  have ha := (Below.refl w.heap.size w).alloc (Nat.le_refl _) (.cells #[.int .i64 x] 2)
  obtain ⟨v', w', r1, r2, r3, _⟩ := own_append (ty := 22) undI infoI rfl (by omega) encI_len encI_one (h.below ha) (by simp; omega) (SrcE.one (a := x) (Cells.new w #[.int .i64 x] 2)) (by unfold maxLen; simp; omega) (by simp; omega)
  refine ⟨v', w', r1, r2, (ha.mono hB).trans (kept_own (h.below ha) (by simp; omega) r3), fun g cs ty' hg ht => (hg.alloc _).kept r3 fun hx => ?_⟩
  obtain ⟨cs', hcs'⟩ := own_lt (h.below ha) hx.symm
  exact ht (cells_type (hg.alloc _) hcs')
theorem ones_set {n i : Nat} (hi : i < n) : (List.replicate i 1 ++ List.replicate (n - i) 0).set i 1 = List.replicate (i + 1) (1 : Nat) ++ List.replicate (n - (i + 1)) 0 := by
  rw [List.set_append_right _ _ (by simp), List.length_replicate, Nat.sub_self, show n - i = (n - (i + 1)) + 1 by omega, List.replicate_succ, List.set_cons_zero, List.replicate_succ' (n := i), List.append_assoc]
  rfl
theorem ones_back {n k : Nat} : ((List.replicate n 1).set k 2).set k 1 = List.replicate n (1 : Nat) := by
  rw [List.set_set]
  refine List.ext_getElem (by simp) fun j h1 h2 => ?_
  simp [List.getElem_set]

set_option maxRecDepth 100000 in
set_option maxHeartbeats 8000000 in
theorem rleast_calls {w : World} {v : Value} {L : List (List Int)} {q : List Int} (hv : NestE encI 1 w v L) (ok : OkH L (cols L)) (hL : 1 ≤ L.length) (hL2 : L.length ≤ 64) (hn : cols L ≤ 64) (hq : LeastP L (cols L) q) :
    Calls Tryd.prog 67 #[v] w fun e w' => ∃ vo, e = .returned vo ∧ RowI w.heap.size w' vo q ∧ Below w.heap.size w w' := by
  obtain ⟨R, hR⟩ : ∃ R : Ending → World → Prop, R = fun e w' => ∃ vo, e = .returned vo ∧ RowI w.heap.size w' vo q ∧ Below w.heap.size w w' := ⟨_, rfl⟩
  rw [← hR]
  have FN := hid (show ∀ vo w', RowI w.heap.size w' vo q → Below w.heap.size w w' → R (.returned vo) w' from fun vo w' a b => by rw [hR]; exact ⟨vo, rfl, a, b⟩)
  obtain ⟨n, hN⟩ : ∃ n, n = cols L := ⟨_, rfl⟩
  rw [← hN] at ok hn hq
  have ql := hid hq.len
  have SEC := hid (show ∀ k, k < n → valC L ((List.replicate n 1).set k 2) = valC L (List.replicate n 1) + q.getD k 0 from fun k hk => by
    have h1 := hq.second ok hk
    have h2 := (hq.hall ok).mem.val (by rw [hq.len]; exact ok) hq.ok.nn
    rw [hq.len] at h2
    rw [h1, h2])
  have VB := hid (show ∀ c, 0 ≤ valC L c ∧ valC L c ≤ 64000000000 from fun c => by
    have := valC_bound L c ok.ok
    omega)
  have QB := hid (show ∀ k, k < n → 0 ≤ q.getD k 0 ∧ q.getD k 0 ≤ 1000000000 from fun k hk => by
    have hk' : k < q.length := by rw [hq.len]; exact hk
    have := hq.ok q[k] (List.getElem_mem hk')
    simpa [hk'] using this)
  have VC := hid (fun (wx : World) (c : List Nat) (h1 : Below w.heap.size w wx) (h2 : RN wx w.heap.size (zl c)) (h3 : c.length = n) (h4 : ∀ x ∈ c, x ≤ 1000) => rvalue_calls hv ok hL hL2 hn (Nat.le_refl _) L 0 (by simp) (by simp) h1 h2 h3 h4)
  rw [show ((0 : Nat) : Int) = 0 from rfl] at VC
  obtain ⟨bb, off, cap, p0, c0, hve, hcf, _⟩ := nest_first hv hL
  rw [← hN] at hcf
  have HCF := hid hcf
  obtain ⟨m, hm⟩ : ∃ m, m = L.length := ⟨_, rfl⟩
  rw [← hm] at hve hL
  subst hve
  have kc := HCF.out w (Below.refl _ _)
  have gm : (0 : Int) < (m : Int) := by omega
  have hkN := mk_N w n (by omega)
  have gn0 : (0 : Int) ≤ (n : Int) := by omega
  obtain ⟨V, hV⟩ : ∃ V, V = valC L := ⟨_, rfl⟩
  rw [← hV] at SEC VB VC
  clear hR hN hv ok hq hcf hm hV
  go_enter Tryd.func67, Tryd.ntmps67
  go_upto_region 4 with fail
  have made : RN (w.alloc (.cells (madeCells #[.int .i64 0] n) 3)) w.heap.size (List.replicate n 0) := RowX.made w n 0 _ rfl
  have S0 := hid (show RN (w.alloc (.cells (madeCells #[.int .i64 0] n) 3)) w.heap.size (zl (List.replicate 0 1 ++ List.replicate (n - 0) 0)) by
    have e : zl (List.replicate 0 1 ++ List.replicate (n - 0) 0) = List.replicate n 0 := by simp [zl]
    rw [e]; exact made)
  have B0 := hid (show Below w.heap.size w (w.alloc (.cells (madeCells #[.int .i64 0] n) 3)) from (Below.refl _ _).alloc (Nat.le_refl _) _)
  clear made hkN
  go_loopg [5] n (fun k s5 wr => ∃ i : Nat, i + k = n ∧ s5 = .int .i64 i ∧ RN wr w.heap.size (zl (List.replicate i 1 ++ List.replicate (n - i) 0)) ∧ Below w.heap.size w wr)
  case atStart => exact ⟨0, by omega, rfl, S0.out, B0.out⟩
  case round =>
  obtain ⟨i, hik, rfl, hr, hb⟩ := hrel
  have HIK := hid hik
  have RR := hid hr
  have BB := hid hb
  clear hik hr hb S0 B0
  by_cases hin : i < n
  · have k0 := RR.out.cellD (i := i) (by rw [zl_len]; simp; omega) 0
    have f0 := RR.out.froz i
    have gi : (i : Int) < (n : Int) := by omega
    have gi0 : (0 : Int) ≤ (i : Int) := by omega
    have R2 := hid (show RN (wr.setCell ⟨w.heap.size, i, none⟩ (.int .i64 1)) w.heap.size (zl (List.replicate (i + 1) 1 ++ List.replicate (n - (i + 1)) 0)) by
      have := RR.out.set i ((1 : Nat) : Int)
      rw [zl_set, ones_set hin] at this
      exact this)
    have B2 := hid (show Below w.heap.size w (wr.setCell ⟨w.heap.size, i, none⟩ (.int .i64 1)) from BB.out.trans (Kept.below ((Kept.refl (fun k => k = w.heap.size) wr).set rfl _ _) BB.out.size fun k hk => by rw [hk]; exact Nat.le_refl _))
    go_wp2
    go_roundg (n - (i + 1))
    · exact ⟨i + 1, by omega, by go_num, R2.out, B2.out⟩
    · have := HIK.out; omega
  obtain rfl : i = n := by have := HIK.out; omega
  have g2 : decide ((i : Int) < (i : Int)) = false := by simp
  have R1 := hid (show RN wr w.heap.size (zl (List.replicate i 1)) by have := RR.out; simpa using this)
  have V1 := hid (VC.out wr _ BB.out R1.out (by simp) (fun x hx => by rw [(List.mem_replicate.1 hx).2]; omega))
  obtain ⟨base, hbase⟩ : ∃ base, base = V (List.replicate i 1) := ⟨_, rfl⟩
  have vb := VB.out (List.replicate i 1)
  rw [← hbase] at V1 SEC vb
  clear RR hbase
  go_wp2_with fail
  refine V1.out.mono ?_
  rintro e w3 ⟨rfl, h3, k3⟩
  have R3 := hid h3
  have B3 := hid (BB.out.trans (k3.below BB.out.size fun k hk => by rw [hk]; exact Nat.le_refl _))
  clear h3 k3 V1 R1 BB kc
  go_upto_region 10 with fail
  go_loopg [8, 7] i (fun k s8 s7 wr => ∃ (j : Nat) (vo : Value), j + k = i ∧ s8 = .int .i64 j ∧ vo = s7 ∧ RowI w.heap.size wr vo (q.take j) ∧ RN wr w.heap.size (zl (List.replicate i 1)) ∧ Below w.heap.size w wr)
  case atStart => exact ⟨0, _, by omega, rfl, rfl, OwnE.nil _ _, R3.out, B3.out⟩
  case round =>
  obtain ⟨j, vo, hjk, rfl, rfl, hro, hr, hb⟩ := hrel
  have HJK := hid hjk
  have RO := hid hro
  have RR := hid hr
  have BB := hid hb
  clear hjk hro hr hb R3 B3
  by_cases hji : j < i
  · have k0 := RR.out.cellD (i := j) (by rw [zl_len]; simp; omega) 0
    have f0 := RR.out.froz j
    have gj : (j : Int) < (i : Int) := by omega
    have gj0 : (0 : Int) ≤ (j : Int) := by omega
    obtain ⟨wA, hwA⟩ : ∃ wA, wA = wr.setCell ⟨w.heap.size, j, none⟩ (.int .i64 2) := ⟨_, rfl⟩
    have HWA := hid hwA
    have RA := hid (show RN wA w.heap.size (zl ((List.replicate i 1).set j 2)) by
      have := RR.out.set j ((2 : Nat) : Int)
      rw [zl_set] at this
      rw [hwA]
      exact this)
    have kA : Kept (fun k => k = w.heap.size) wr wA := by rw [hwA]; exact (Kept.refl (fun k => k = w.heap.size) wr).set rfl _ _
    have BA := hid (BB.out.trans (kA.below BB.out.size fun k hk => by rw [hk]; exact Nat.le_refl _))
    have ROA := hid (RO.out.far RR.out (by decide) kA)
    have V2 := hid (VC.out wA _ BA.out RA.out (by simp) (fun x hx => by
      rcases List.mem_or_eq_of_mem_set hx with h | h
      · rw [(List.mem_replicate.1 h).2]; omega
      · omega))
    rw [SEC.out j hji] at V2
    have qb := QB.out j hji
    have et : q.take (j + 1) = q.take j ++ [q.getD j 0] := by
      have hjq : j < q.length := by rw [ql.out]; exact hji
      rw [List.take_add_one, List.getElem?_eq_getElem hjq]
      simp [hjq]
    obtain ⟨x, hx⟩ : ∃ x, x = q.getD j 0 := ⟨_, rfl⟩
    rw [← hx] at V2 qb et
    have ET := hid et
    have ew : IntKind.i64.wrap (base + x - base) = x := by rw [show base + x - base = x by omega]; exact IntWalk.i64_in _ (by omega)
    have ew' : base + x - base = x := by omega
    clear hwA kA hx et
    go_upto_region 13 with fail
    rw [← HWA.out]
    clear k0 f0
    go_wp2_with fail
    refine V2.out.mono ?_
    rintro e w4 ⟨rfl, h4, k4⟩
    have R4 := hid h4
    have RO4 := hid (ROA.out.far RA.out (by decide) k4)
    have B4 := hid (BA.out.trans (k4.below BA.out.size fun k hk => by rw [hk]; exact Nat.le_refl _))
    clear h4 k4 V2
    obtain ⟨po, co, hvo, _⟩ := RO4.out.form
    obtain ⟨no, hno⟩ : ∃ no, no = (q.take j).length := ⟨_, rfl⟩
    rw [← hno] at hvo
    subst hvo
    obtain ⟨v', w5, r1, r2, r3, r4⟩ := rowi_app' RO4.out B4.out.size x (by rw [List.length_take]; omega)
    rw [← ET.out] at r2
    have R5 := hid (show RN w5 w.heap.size (zl ((List.replicate i 1).set j 2)) from r4 _ _ _ R4.out (by decide))
    have Q1 := hid r1
    have Q2 := hid r2
    have B5 := hid (B4.out.trans r3)
    have l0 := R5.out.cellD (i := j) (by rw [zl_len]; simp; omega) 0
    have e0 := R5.out.froz j
    have R6 := hid (show RN (w5.setCell ⟨w.heap.size, j, none⟩ (.int .i64 1)) w.heap.size (zl (List.replicate i 1)) by
      have := R5.out.set j ((1 : Nat) : Int)
      rw [zl_set, ones_back] at this
      exact this)
    have k6 : Kept (fun k => k = w.heap.size) w5 (w5.setCell ⟨w.heap.size, j, none⟩ (.int .i64 1)) := (Kept.refl (fun k => k = w.heap.size) w5).set rfl _ _
    have B6 := hid (B5.out.trans (k6.below B5.out.size fun k hk => by rw [hk]; exact Nat.le_refl _))
    have Q6 := hid (Q2.out.far R5.out (by decide) k6)
    clear r1 r2 r3 r4 k6 hno
    go_wp2_with (at_builtin; refine wpList_append_run rfl (.tmp 34) (.tmp 40) 22 rfl _ _ v' w5 rfl rfl Q1.out ?_)
    go_roundg (i - (j + 1))
    · exact ⟨j + 1, _, by omega, by go_num, rfl, Q6.out, R6.out, B6.out⟩
    · have := HJK.out; omega
  obtain rfl : j = i := by have := HJK.out; omega
  have g3 : decide ((j : Int) < (j : Int)) = false := by simp
  have F := hid (FN.out vo wr (by have := RO.out; rwa [List.take_of_length_le (by rw [ql.out]; exact Nat.le_refl _)] at this) BB.out)
  clear FN
  go_wp2
  first | exact F.out | (go_ret; exact F.out)
end Go.Proofs.YtojednnciknhpaaDoor
