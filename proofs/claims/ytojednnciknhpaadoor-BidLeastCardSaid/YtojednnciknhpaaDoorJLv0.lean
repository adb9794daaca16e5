/- The reference: value, by all choices. -/
import Derived.Test.YtojednnciknhpaaDoorJLr1
import Derived.Test.YtojednnciknhpaaDoorJPm5
namespace Go.Proofs.YtojednnciknhpaaDoor
set_option linter.unusedSimpArgs false
set_option linter.unusedVariables false
open Go.RowKit
attribute [local go_sem] Oper.semAt_some
attribute [local go_sem ↓] Go.wp_at_zero Go.wp_at_succ
theorem valC_bound : ∀ (r : List (List Int)) (c : List Nat), (∀ x ∈ r, okW x) → 0 ≤ valC r c ∧ valC r c ≤ (r.length : Int) * 1000000000
  | [], _, _ => by simp [valC]
  | row :: r, c, h => by
    have ih := fun c => valC_bound r c fun x hx => h x (List.mem_cons_of_mem _ hx)
    have hrow := h row List.mem_cons_self
    have hx : ∀ k, 0 ≤ row.getD k 0 ∧ row.getD k 0 ≤ 1000000000 := fun k => by
      by_cases q : k < row.length
      · have := hrow row[k] (List.getElem_mem q)
        simpa [q] using this
      · simp [q]
    have e : ((row :: r).length : Int) * 1000000000 = (r.length : Int) * 1000000000 + 1000000000 := by
      rw [List.length_cons]; omega
    rw [valC, e]
    refine ⟨?_, pickC_le _ _ _ _ _ _ (by have := (ih c).2; omega) fun k _ _ => ?_⟩
    · have := (pickC_ge row (valC r) c (List.range c.length) (valC r c)).1
      have := (ih c).1
      omega
    · have := (ih (c.set k (c.getD k 0 - 1))).2
      have := (hx k).2
      omega
theorem zl_set (c : List Nat) (i x : Nat) : (zl c).set i (x : Int) = zl (c.set i x) := by
  unfold zl
  rw [List.map_set]
theorem zl_length (c : List Nat) : (zl c).length = c.length := by simp [zl]
theorem set_back {c : List Nat} {i x : Nat} (h : c.getD i 0 = x) : (c.set i (x - 1)).set i x = c := by
  rw [List.set_set]
  by_cases hi : i < c.length
  · have : c[i] = x := by simpa [hi] using h
    rw [← this, List.set_getElem_self]
  · rw [List.set_eq_of_length_le (by omega)]
abbrev ValX (gc : Nat) (k : Nat) : Prop := k = gc
def ValP (w : World) (gc : Nat) (c : List Nat) (z : Int) (e : Ending) (w' : World) : Prop := e = .returned (.int .i64 z) ∧ RN w' gc (zl c) ∧ Kept (ValX gc) w w'

set_option maxRecDepth 100000 in
set_option maxHeartbeats 8000000 in
theorem rvalue_calls {w0 : World} {v : Value} {L : List (List Int)} {n : Nat} {gc : Nat} (hv : NestE encI 1 w0 v L) (ok : OkH L n) (hL : 1 ≤ L.length) (hL2 : L.length ≤ 64) (hn : n ≤ 64) (hg : w0.heap.size ≤ gc) : ∀ (r : List (List Int)) (b : Nat) {w : World} {c : List Nat} (_ : r = L.drop b) (_ : b + r.length = L.length) (_ : Below w0.heap.size w0 w) (_ : RN w gc (zl c)) (_ : c.length = n) (_ : ∀ x ∈ c, x ≤ 1000),
    Calls Tryd.prog 106 #[v, .int .i64 b, .slice (some ⟨gc, 0, none⟩) n n] w (ValP w gc c (valC r c))
  | [], b, w, c, _, hb, hb0, hc, hcl, _ => by
    obtain ⟨R, hR⟩ : ∃ R : Ending → World → Prop, R = ValP w gc c (valC [] c) := ⟨_, rfl⟩
    rw [← hR]
    have FN := hid (show R (.returned (.int .i64 0)) w by rw [hR]; exact ⟨rfl, hc, Kept.refl _ _⟩)
    obtain ⟨bb, off, cap, rfl, _⟩ := nest_open hv hL
    obtain ⟨m, hm⟩ : ∃ m, m = L.length := ⟨_, rfl⟩
    have hbm : b = m := by rw [hm]; simpa using hb
    subst hbm
    rw [← hm]
    have g1 : ((b : Int) == (b : Int)) = true := by simp
    clear hR hv hm hb hc hb0
    go_enter Tryd.func106, Tryd.ntmps106
    have F := FN.out
    clear FN
    go_wp2
    first | exact F | (go_ret; exact F)
  | row :: r, b, w, c, hr, hb, hb0, hc, hcl, hcx => by
    have hr' : r = L.drop (b + 1) := by
      have := congrArg List.tail hr
      rw [List.tail_drop] at this
      exact this
    have hb' : b + 1 + r.length = L.length := by rw [List.length_cons] at hb; omega
    have hbl : b < L.length := by omega
    have hrow : row = L[b] := by
      have h1 : (row :: r)[0]? = (L.drop b)[0]? := by rw [hr]
      rw [List.getElem?_drop, Nat.add_zero, List.getElem?_eq_getElem hbl] at h1
      simpa using h1
    have IH := hid (fun (wx : World) (cx : List Nat) (h1 : Below w0.heap.size w0 wx) (h2 : RN wx gc (zl cx)) (h3 : cx.length = n) (h4 : ∀ x ∈ cx, x ≤ 1000) => rvalue_calls hv ok hL hL2 hn hg r (b + 1) hr' hb' h1 h2 h3 h4)
    obtain ⟨R, hR⟩ : ∃ R : Ending → World → Prop, R = ValP w gc c (valC (row :: r) c) := ⟨_, rfl⟩
    rw [← hR]
    obtain ⟨V, hV⟩ : ∃ V, V = valC r := ⟨_, rfl⟩
    have FN := hid (show ∀ z w', pickC row V c [] z = pickC row V c (List.range n) (V c) → RN w' gc (zl c) → Kept (ValX gc) w w' → R (.returned (.int .i64 z)) w' from fun z w' h1 h2 h3 => by
      rw [hR, valC, hcl, ← hV, ← h1]
      exact ⟨rfl, h2, h3⟩)
    have VB := hid (show ∀ cx, 0 ≤ V cx ∧ V cx ≤ 64000000000 from fun cx => by
      have := valC_bound r cx fun x hx => ok.ok x (by rw [hr'] at hx; exact List.mem_of_mem_drop hx)
      rw [hV]
      omega)
    have OR := hid (show okW row by rw [hrow]; exact ok.ok _ (List.getElem_mem hbl))
    have RL := hid (show row.length = n by rw [hrow]; exact ok.len _ (List.getElem_mem hbl))
    have HC := hid hc
    have HB0 := hid hb0
    have HCX := hid hcx
    have HCL := hid hcl
    have KB := hid (show ∀ wx, Kept (ValX gc) w wx → Below w0.heap.size w0 wx from fun wx hk => hb0.trans (hk.below hb0.size fun k hk => by rw [hk]; exact hg))
    obtain ⟨bb, off, cap, rfl, hrw⟩ := nest_open hv hL
    obtain ⟨u, hu1, hu2⟩ := hrw b hbl
    obtain ⟨pu, cu, rfl, hua⟩ := reads_at hu1
    have eL : (L[b]).length = n := by rw [← hrow]; exact RL.out
    rw [eL] at hu2
    have KT := hid (fun wx (hk : Kept (ValX gc) w wx) => hu2 wx (KB.out wx hk))
    have UA := hid (show ∀ i (hi : i < row.length), ∃ b0 o0, pu = some ⟨b0, o0, none⟩ ∧ ∀ wx, Below w0.heap.size w0 wx → wx.cell? ⟨b0, o0 + i, none⟩ = some (.int .i64 row[i]) by subst hrow; exact hua)
    obtain ⟨m, hm⟩ : ∃ m, m = L.length := ⟨_, rfl⟩
    rw [← hm] at hbl hL2 IH ⊢
    rw [← hV] at IH
    have C1 := hid (IH.out w c HB0.out HC.out HCL.out HCX.out)
    have g1 : ((b : Int) == (m : Int)) = false := by simp; omega
    have gb1 : ((b + 1 : Nat) : Int) = (b : Int) + 1 := by omega
    have gb : (b : Int) < (m : Int) := by omega
    have gb0 : (0 : Int) ≤ (b : Int) := by omega
    rw [gb1] at C1
    clear hR hv ok hL hr hb hb0 hc hcl hcx hr' hb' hrow hV hrw hu1 hu2 hua eL hm
    go_enter Tryd.func106, Tryd.ntmps106
    go_wp2_with fail
    refine C1.out.mono ?_
    rintro e w1 ⟨rfl, hc1, hk1⟩
    have RC1 := hid hc1
    have K1 := hid hk1
    obtain ⟨z1, hz1⟩ : ∃ z1, z1 = V c := ⟨_, rfl⟩
    have HZ1 := hid hz1
    rw [← hz1]
    clear hc1 hk1 hz1 C1
    go_upto_region 5 with fail
    go_loopg [8, 7] n (fun k s8 s7 wr => ∃ (i : Nat) (z : Int), i + k = n ∧ s8 = .int .i64 i ∧ s7 = .int .i64 z ∧ pickC row V c ((List.range n).drop i) z = pickC row V c (List.range n) (V c) ∧ RN wr gc (zl c) ∧ Kept (ValX gc) w wr)
    case atStart => exact ⟨0, z1, by omega, rfl, rfl, by rw [HZ1.out]; rfl, RC1.out, K1.out⟩
    case round =>
    obtain ⟨i, z, hik, rfl, rfl, hz, hcr, hk⟩ := hrel
    have HIK := hid hik
    have RC := hid hcr
    have KR := hid hk
    have EZ := hid hz
    clear hik hz hcr hk RC1 K1
    by_cases hin : i < n
    · have hic : i < c.length := by rw [HCL.out]; exact hin
      have k0 := RC.out.cellD (i := i) (by rw [zl_len]; exact hic) 0
      have f0 := RC.out.froz i
      have ez : (zl c).getD i 0 = (c.getD i 0 : Int) := by unfold zl; simp [hic]
      rw [ez] at k0
      obtain ⟨x, hx⟩ : ∃ x, x = c.getD i 0 := ⟨_, rfl⟩
      rw [← hx] at k0
      have HX := hid hx
      have x1000 : x ≤ 1000 := by rw [hx]; simp only [List.getD_eq_getElem?_getD, List.getElem?_eq_getElem hic, Option.getD_some]; exact HCX.out _ (List.getElem_mem hic)
      have gi : (i : Int) < (n : Int) := by omega
      have gi0 : (0 : Int) ≤ (i : Int) := by omega
      have edrop : (List.range n).drop i = i :: (List.range n).drop (i + 1) := by
        rw [List.drop_eq_getElem_cons (by simpa using hin)]
        simp
      have EZ2 := hid (show pickC row V c ((List.range n).drop (i + 1)) (if x = 0 then z else max z (row.getD i 0 + V (c.set i (x - 1)))) = pickC row V c (List.range n) (V c) by
        rw [← EZ.out, edrop, pickC, hx])
      clear hx ez edrop EZ
      by_cases hx0 : x = 0
      · subst hx0
        replace EZ2 := hid (EZ2.out)
        rw [if_pos rfl] at EZ2
        go_wp2
        go_roundg (n - (i + 1))
        · exact ⟨i + 1, z, by omega, by go_num, rfl, EZ2.out, RC.out, KR.out⟩
        · have := HIK.out; omega
      · rw [if_neg hx0] at EZ2
        obtain ⟨c', hc'⟩ : ∃ c', c' = c.set i (x - 1) := ⟨_, rfl⟩
        rw [← hc'] at EZ2
        obtain ⟨zc, hzc⟩ : ∃ zc, zc = V c' := ⟨_, rfl⟩
        have hvb := VB.out c'
        rw [← hzc] at EZ2 hvb
        have hir : i < row.length := by rw [RL.out]; exact hin
        obtain ⟨b0, o0, rfl, hua⟩ := UA.out i hir
        have er : row.getD i 0 = row[i] := by simp [hir]
        have hy := OR.out _ (List.getElem_mem hir)
        obtain ⟨y, hyy⟩ : ∃ y, y = row[i] := ⟨_, rfl⟩
        rw [er, ← hyy] at EZ2
        rw [← hyy] at hy
        have UY := hid (fun wx (hk : Kept (ValX gc) w wx) => hua wx (KB.out wx hk))
        rw [← hyy] at UY
        obtain ⟨wA, hwA⟩ : ∃ wA, wA = wr.setCell ⟨gc, i, none⟩ (.int .i64 ((x : Int) - 1)) := ⟨_, rfl⟩
        have CA := hid (show RN wA gc (zl c') by
          have := RC.out.set i ((x - 1 : Nat) : Int)
          rw [zl_set, ← hc'] at this
          rw [hwA, show ((x : Int) - 1) = ((x - 1 : Nat) : Int) by omega]
          exact this)
        have hcur : Kept (ValX gc) w wA := by rw [hwA]; exact KR.out.set rfl _ _
        have C2 := hid (fun wx (h1 : Kept (ValX gc) w wx) (h2 : RN wx gc (zl c')) => IH.out wx c' (KB.out wx h1) h2 (by rw [hc', List.length_set]; exact HCL.out) (fun y hy => by
          rw [hc'] at hy
          rcases List.mem_or_eq_of_mem_set hy with h | h
          · exact HCX.out y h
          · omega))
        rw [← hzc] at C2
        have BK := hid (show ∀ wx, RN wx gc (zl c') → RN (wx.setCell ⟨gc, i, none⟩ (.int .i64 (x : Int))) gc (zl c) ∧ wx.cell? ⟨gc, i, none⟩ = some (.int .i64 ((x : Int) - 1)) ∧ wx.frozen? ⟨gc, i, none⟩ = false from fun wx h => by
          have e1 : c = c'.set i x := by
            rw [hc', List.set_set, HX.out]
            simp [hic]
          have e2 : c'.getD i 0 = x - 1 := by rw [hc']; simp [hic]
          refine ⟨?_, ?_, h.froz i⟩
          · have := h.set i (x : Int)
            rw [zl_set, ← e1] at this
            exact this
          · have hic' : i < c'.length := by rw [hc', List.length_set]; exact hic
            rw [h.cellD (by rw [zl_len]; exact hic') 0]
            have : (zl c').getD i 0 = (c'.getD i 0 : Int) := by unfold zl; simp [hic']
            rw [this, e2]
            simp
            omega)
        have HWA := hid hwA
        have ew1 : IntKind.i64.wrap ((x : Int) - 1) = (x : Int) - 1 := IntWalk.i64_in _ (by omega)
        have ew2 : IntKind.i64.wrap (y + zc) = y + zc := IntWalk.i64_in _ (by omega)
        have ew3 : (x : Int) - 1 + 1 = (x : Int) := by omega
        obtain ⟨M, hM⟩ : ∃ M, M = max z (y + zc) := ⟨_, rfl⟩
        rw [← hM] at EZ2
        have em : max z (y + zc) = M := hM.symm
        have hd : ((x : Int) == 0) = false := by simpa using hx0
        clear hc' hzc hvb er hy hyy hwA hua hM hx0
        go_upto_region 9 with fail
        rw [← HWA.out]
        have KS := hid (show ∀ wx, Kept (ValX gc) w wx → wx.cell? ⟨bb, off + b, none⟩ = some (.slice (some ⟨b0, o0, none⟩) n cu) ∧ wx.cell? ⟨b0, o0 + i, none⟩ = some (.int .i64 y) from fun wx hk => ⟨KT.out wx hk, UY.out wx hk⟩)
        clear k0 f0
        have eb : IntKind.i64.wrap ((b : Int) + 1) = (b : Int) + 1 := IntWalk.i64_in _ (by omega)
        go_region_held3 (fun wh => wh.cell? ⟨bb, off + b, none⟩ = some (.slice (some ⟨b0, o0, none⟩) n cu) ∧ wh.cell? ⟨b0, o0 + i, none⟩ = some (.int .i64 y))
          (first | exact KS.out _ hcur | exact KS.out _ hcur.drew | assumption)
          (first
            | (go_at_call 106; refine (C2.out _ ?_ ?_).mono ?_; (first | exact hcur | exact hcur.drew); (first | exact CA.out | exact CA.out.drewN 1); rintro e w8 ⟨rfl, h8, k8⟩; have R8 := hid h8; (first | (replace hcur := hcur.trans k8 (fun k _ hk => hk)) | (replace hcur := hcur.drew.trans k8 (fun k _ hk => hk))); clear h8 k8)
            | fail)
        all_goals (
          obtain ⟨r1, r2, r3⟩ := BK.out _ (by first | exact R8.out | exact R8.out.drewN 1)
          have Q1 := hid r1
          have kx := hcur.set (C := gc) rfl i (.int .i64 (x : Int))
          have kx2 := hcur.drew.set (C := gc) rfl i (.int .i64 (x : Int))
          clear r1
          go_wp2
          go_roundg (n - (i + 1))
          · exact ⟨i + 1, _, by omega, by go_num, rfl, EZ2.out, Q1.out, by first | exact kx | exact kx2⟩
          · have := HIK.out; omega)
    obtain rfl : i = n := by have := HIK.out; omega
    have g2 : decide ((i : Int) < (i : Int)) = false := by simp
    have F := hid (FN.out z wr (by have := EZ.out; rwa [List.drop_of_length_le (by simp)] at this) RC.out KR.out)
    clear FN
    go_wp2
    first | exact F.out | (go_ret; exact F.out)
end Go.Proofs.YtojednnciknhpaaDoor
