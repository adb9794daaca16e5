/- StockChanges: its walk. -/
import Derived.Test.YtnnbdjfeagcbdaaJVrs
import Derived.Test.YtnnbdjfeagcbdaaJRunL
namespace Go.Proofs.Ytnnbdjfeagcbdaa
set_option linter.unusedSimpArgs false
set_option linter.unusedVariables false
open Go.RowKit Go.Shelf
attribute [local go_sem] Oper.semAt_some

theorem RefAt.setT {w : World} {v : Value} {xs : List (List Pc)} (h : RefAt w v xs) {B : Nat} {cs : Array Value} {e : TypeId} (hc : Cells w B cs e) (h1 : e ≠ 63) (h2 : e ≠ 90) (j : Nat) (u : Value) : RefAt (w.setCell ⟨B, j, none⟩ u) v xs :=
  h.keep (fun b cs hh => Below.heap_setCell w ⟨B, j, none⟩ u b (fun e => by have e' : b = B := e; subst e'; exact h1 (cells_type hc hh)))
    (fun b cs hh => Below.heap_setCell w ⟨B, j, none⟩ u b (fun e => by have e' : b = B := e; subst e'; exact h2 (cells_type hc hh)))
theorem Lk.setT {B : Nat} {W w : World} {sB vB : Nat} {vs : List T} {v : Value} (h : Lk B W w sB vB vs v) {C : Nat} {cs : Array Value} {e : TypeId} (hc : Cells w C cs e) (he : e ≠ 63 ∧ e ≠ 90 ∧ e ≠ 158) (h1 : C ≠ sB) (h2 : C ≠ vB) (hB : B ≤ C) (j : Nat) (u : Value) : Lk B W (w.setCell ⟨C, j, none⟩ u) sB vB vs v :=
  ⟨h.reg.set hc h1 h2 he.2.2 hB j u, h.ref.setT hc he.1 he.2.1 j u, h.bc⟩

/-- Are both versions there? -/
def bothB (n : Nat) (a b : Int) : Bool := verB n a && verB n b
def diffV (vs : List T) (a b : Int) : List (Int × Int) := if bothB vs.length a b = true then (match vs[a.toNat]?, vs[b.toNat]? with | some ta, some tb => diffT ta tb | _, _ => []) else []
theorem verB_get {vs : List T} {a : Int} (h : verB vs.length a = true) : ∃ t, vs[a.toNat]? = some t ∧ ((a.toNat : Nat) : Int) = a := by
  unfold verB at h
  simp only [Bool.and_eq_true, decide_eq_true_eq] at h
  exact ⟨vs[a.toNat]'(by omega), List.getElem?_eq_getElem _, by omega⟩
theorem changed_any {B : Nat} {W w : World} {sB vB : Nat} {vs : List T} (h : Reg B W w sB vB vs) (hn : vs.length ≤ 1000) (a b : Int) :
    Calls Try.prog 42 #[.pointer (some ⟨sB, 0, none⟩), .int .i64 a, .int .i64 b] w fun e w' => ∃ u, e = .returned (.tuple #[u, .int .i64 (if bothB vs.length a b = true then 0 else 4)]) ∧ OwnE encS 2 37 w.heap.size w' u (diffV vs a b) ∧ Below w.heap.size w w' := by
  cases ha : verB vs.length a
  · have hb : bothB vs.length a b = false := by unfold bothB; rw [ha]; rfl
    refine (changed_bad h hn (a := a) (b := b) (.inl ha)).mono ?_
    rintro e w' ⟨he, hw⟩
    refine ⟨_, by rw [he, hb]; rfl, ?_, hw⟩
    unfold diffV
    rw [hb]
    exact OwnE.nil _ _
  · cases hb1 : verB vs.length b
    · have hb : bothB vs.length a b = false := by unfold bothB; rw [ha, hb1]; rfl
      refine (changed_bad h hn (a := a) (b := b) (.inr ⟨ha, hb1⟩)).mono ?_
      rintro e w' ⟨he, hw⟩
      refine ⟨_, by rw [he, hb]; rfl, ?_, hw⟩
      unfold diffV
      rw [hb]
      exact OwnE.nil _ _
    · have hb : bothB vs.length a b = true := by unfold bothB; rw [ha, hb1]; rfl
      obtain ⟨ta, hta, hea⟩ := verB_get ha
      obtain ⟨tb, htb, heb⟩ := verB_get hb1
      have := changed_ver h hn hta htb
      rw [hea, heb] at this
      refine this.mono ?_
      rintro e w' ⟨u, he, ho, hw⟩
      refine ⟨u, by rw [he, hb]; rfl, ?_, hw⟩
      unfold diffV
      rw [hb, hta, htb]
      exact ho
/-- What the reference finds is the same. -/
theorem diffV_ref {B : Nat} {W w : World} {sB vB : Nat} {vs : List T} (h : Reg B W w sB vB vs) {a b : Int} (hab : bothB vs.length a b = true) : ∃ la lb, (vs.map inT)[a.toNat]?.getD [] = la ∧ (vs.map inT)[b.toNat]?.getD [] = lb ∧ RunsP la ∧ RunsP lb ∧ la.length ≤ 1000000 ∧ lb.length ≤ 1000000 ∧
    ∀ R, (Runs R 1 1000000 ∧ ∀ n, inS R n ↔ 1 ≤ n ∧ n ≤ 1000000 ∧ valL la n ≠ valL lb n) → R = diffV vs a b := by
  have h2 := hab
  unfold bothB at h2
  simp only [Bool.and_eq_true] at h2
  obtain ⟨ta, hta, _⟩ := verB_get h2.1
  obtain ⟨tb, htb, _⟩ := verB_get h2.2
  have tra := h.tr (List.mem_of_getElem? hta)
  have trb := h.tr (List.mem_of_getElem? htb)
  refine ⟨inT ta, inT tb, by rw [List.getElem?_map, hta]; rfl, by rw [List.getElem?_map, htb]; rfl, tra.runs, trb.runs, tra.short, trb.short, fun R hR => ?_⟩
  unfold diffV
  rw [hab, hta, htb, if_pos rfl]
  have d := diff_in tra trb
  exact runs_unique hR.1 d.1 (fun n => by rw [hR.2, d.2, tra.val, trb.val])
theorem diffV_len {B : Nat} {W w : World} {sB vB : Nat} {vs : List T} (h : Reg B W w sB vB vs) (a b : Int) : (diffV vs a b).length ≤ 1000000 ∧ (bothB vs.length a b = false → (diffV vs a b).length = 0) := by
  constructor
  · unfold diffV
    split
    · rename_i hab
      unfold bothB at hab
      simp only [Bool.and_eq_true] at hab
      obtain ⟨ta, hta, _⟩ := verB_get hab.1
      obtain ⟨tb, htb, _⟩ := verB_get hab.2
      rw [hta, htb]
      have := runs_len (diff_in (h.tr (List.mem_of_getElem? hta)) (h.tr (List.mem_of_getElem? htb))).1 (by decide)
      simp only
      omega
    · simp
  · intro hb
    unfold diffV
    rw [hb]
    rfl
/-- A number is brought among the versions. -/
theorem mod_i64 {n : Nat} (x : Int) (hn : 0 < n) (hn2 : n ≤ 1000) : ∃ r : Int, (IntKind.u64.wrap x).tmod (n : Int) = r ∧ IntKind.i64.wrap r = r ∧ wrap64 r = r ∧ IntKind.u64.wrap r = r ∧ 0 ≤ r ∧ r < (n : Int) := by
  have h1 := Int.emod_nonneg (IntKind.u64.wrap x) (by omega : (n : Int) ≠ 0)
  have h2 := Int.emod_lt_of_pos (IntKind.u64.wrap x) (by omega : (0 : Int) < (n : Int))
  refine ⟨_, rfl, ?_⟩
  rw [rem_mod]
  have h3 : IntKind.i64.wrap (IntKind.u64.wrap x % (n : Int)) = IntKind.u64.wrap x % (n : Int) := IntWalk.i64_in _ (by omega)
  exact ⟨h3, by unfold wrap64; rw [← IntKind.wrap_i64]; exact h3, IntWalk.u64_in _ (by omega), h1, h2⟩

theorem chg_end {B : Nat} {W w : World} {sB vB : Nat} {vs : List T} {v xv : Value} {O X : Nat} {a b : Int} (h : Lk B W w sB vB vs v) (hB : B ≤ w.heap.size) (hO1 : O ≠ sB) (hO2 : O ≠ vB) (hO : B ≤ O) (hX : X ≠ O) (cx : Cells w X #[xv] 58) (co : Cells w O #[.int .i64 a, .int .i64 b] 92) (r1 r2 : Int) :
    Lk B W ((w.setCell ⟨O, 0, none⟩ (.int .i64 r1)).setCell ⟨O, 1, none⟩ (.int .i64 r2)).drew sB vB vs v ∧ Cells ((w.setCell ⟨O, 0, none⟩ (.int .i64 r1)).setCell ⟨O, 1, none⟩ (.int .i64 r2)).drew X #[xv] 58 ∧ Cells ((w.setCell ⟨O, 0, none⟩ (.int .i64 r1)).setCell ⟨O, 1, none⟩ (.int .i64 r2)).drew O #[.int .i64 r1, .int .i64 r2] 92 := by
  have c1 := co.set 0 (.int .i64 r1)
  have c2 := c1.set 1 (.int .i64 r2)
  have l1 := h.setT co (by decide) hO1 hO2 hO 0 (.int .i64 r1)
  have l2 := l1.setT c1 (by decide) hO1 hO2 hO 1 (.int .i64 r2)
  refine ⟨l2.after (by simpa [World.setCell] using hB) (Below.refl _ _).drew, ((cx.set_far 0 _ hX).set_far 1 _ hX).drew, ?_⟩
  have c3 := c2.drew
  simpa using c3

set_option maxRecDepth 100000 in
set_option maxHeartbeats 8000000 in
theorem changes_calls (w : World) (v : Value) (l : List Ac) (hv : ReadsE encA 6 w v l) (oa ob : Int) :
    Calls Try.prog 9 #[v, .agg #[.int .i64 oa, .int .i64 ob]] w fun e w' => e = .returned (.bool true) ∧ Below w.heap.size w w' := by
  obtain ⟨W0, hW0⟩ : ∃ W0, W0 = w.alloc (.cells #[.int .i64 oa, .int .i64 ob] 92) := ⟨_, rfl⟩
  have CO := hid (show Cells W0 w.heap.size #[.int .i64 oa, .int .i64 ob] 92 by rw [hW0]; exact Cells.new _ _ _)
  have BO := hid (show Below w.heap.size w W0 by rw [hW0]; exact (Below.refl _ _).alloc (Nat.le_refl _) _)
  have hz0 : W0.heap.size = w.heap.size + 1 := by rw [hW0]; simp
  have HV := hid (hv.below BO.out)
  have HW0 := hid hW0
  clear hW0 hv
  go_enter Try.func9, Try.ntmps9
  go_wp2_with fail
  rw [← HW0.out]
  refine (run_calls W0 v l HV.out 25 (by omega)).mono ?_
  rintro e w1 ⟨sB, vB, vs, v1, rfl, lk1, hvs⟩
  obtain ⟨bs, ns, cs, rfl⟩ := lk1.ref.agg
  obtain ⟨m, t, hml, _, _, _, _⟩ := lk1.last
  have hns : ns = m + 1 := by have := lk1.ref.len; simp at this; omega
  subst hns
  have hz1 := lk1.reg.below.size
  have hO1 : w.heap.size ≠ sB := by have := lk1.reg.ls; omega
  have hO2 : w.heap.size ≠ vB := by have := lk1.reg.lv; omega
  have hl1 := lk1.reg.st.lt
  obtain ⟨W1, hW1⟩ : ∃ W1, W1 = w1.alloc (.cells #[.slice (some ⟨bs, 0, none⟩) (m + 1) cs] 58) := ⟨_, rfl⟩
  have B11 := hid (show Below w1.heap.size w1 W1 by rw [hW1]; exact (Below.refl _ _).alloc (Nat.le_refl _) _)
  have LA := hid (show Lk w.heap.size w W1 sB vB vs (.agg #[.slice (some ⟨bs, 0, none⟩) (m + 1) cs]) from (lk1.after hz1 B11.out).base (by omega) BO.out)
  obtain ⟨X, hX⟩ : ∃ X, X = w1.heap.size := ⟨_, rfl⟩
  have CX := hid (show Cells W1 X #[.slice (some ⟨bs, 0, none⟩) (m + 1) cs] 58 by rw [hX, hW1]; exact Cells.new _ _ _)
  have CA := hid (show Cells W1 w.heap.size #[.int .i64 oa, .int .i64 ob] 92 from (CO.out.below lk1.reg.below (by omega)).below B11.out (by omega))
  have HW1 := hid hW1
  have HX := hid hX
  have HML := hid hml
  have hX2 : X ≠ w.heap.size := by omega
  have hvn : vs.length ≤ 1000 := by omega
  have hm30 : m ≤ 30 := by omega
  obtain ⟨O, hO⟩ : ∃ O, O = w.heap.size := ⟨_, rfl⟩
  have HO := hid hO
  rw [← hO] at hO1 hO2 hX2 CA
  have m0 : ((m : Int) + 1 == 0) = false := by simp; omega
  have m1 : IntKind.u64.wrap ((m : Int) + 1) = (m : Int) + 1 := IntWalk.u64_in _ (by omega)
  clear lk1 hW1 hX hml hz1 hl1 hz0
  go_wp2_with fail
  rw [← HW1.out, ← HX.out]
  rw [← hO]
  clear hO
  go_loopg [7] 2 (fun k s7 wr => ∃ (i : Nat) (a b : Int), i + k = 2 ∧ s7 = .int .i64 i ∧ Lk w.heap.size w wr sB vB vs (.agg #[.slice (some ⟨bs, 0, none⟩) (m + 1) cs]) ∧ Cells wr X #[.slice (some ⟨bs, 0, none⟩) (m + 1) cs] 58 ∧ Cells wr O #[.int .i64 a, .int .i64 b] 92)
  case atStart => exact ⟨0, oa, ob, by omega, rfl, LA.out, CX.out, CA.out⟩
  case round =>
    obtain ⟨i, a, b, hik, rfl, lk, cx, co⟩ := hrel
    have LK := hid lk
    have HCX := hid cx
    have HCO := hid co
    have x0 := cell_one cx
    have lX := cx.lt
    have o0 : wr.cell? ⟨O, 0, none⟩ = some (.int .i64 a) := by simp [co.cell]
    have o1 : wr.cell? ⟨O, 1, none⟩ = some (.int .i64 b) := by simp [co.cell]
    have lO := co.lt
    have hzw : w.heap.size ≤ wr.heap.size := lk.reg.below.size
    clear lk cx co
    by_cases hi : i < 2
    · have g1 : decide ((i : Int) < 2) = true := by simp; omega
      have i64 : IntKind.i64.wrap ((i : Int) + 1) = (i : Int) + 1 := IntWalk.i64_in _ (by omega)
      go_wp2_with fail
      refine (changed_any LK.out.reg hvn a b).mono ?_
      rintro e w3 ⟨u3, rfl, ow3, hb3⟩
      obtain ⟨p3, c3, rfl, _⟩ := ow3.form
      obtain ⟨E, hE⟩ : ∃ E : Int, E = if bothB vs.length a b = true then 0 else 4 := ⟨_, rfl⟩
      obtain ⟨len, hlen⟩ : ∃ len, len = (diffV vs a b).length := ⟨_, rfl⟩
      rw [← hE, ← hlen]
      rw [← hlen] at ow3
      have HE := hid hE
      have HLEN := hid hlen
      clear hE hlen
      have OW3 := hid ow3
      have L3 := hid (LK.out.after hzw hb3)
      have cx3 := HCX.out.below hb3 lX
      have co3 := HCO.out.below hb3 lO
      have CX3 := hid cx3
      have CO3 := hid co3
      have x3 := cell_one cx3
      have lX3 := cx3.lt
      have o30 : w3.cell? ⟨O, 0, none⟩ = some (.int .i64 a) := by simp [co3.cell]
      have o31 : w3.cell? ⟨O, 1, none⟩ = some (.int .i64 b) := by simp [co3.cell]
      have lO3 := co3.lt
      have hzw3 : w.heap.size ≤ w3.heap.size := Nat.le_trans hzw hb3.size
      have hz3 := hb3.size
      clear ow3 hb3 cx3 co3 x0 o0 o1 lX lO
      go_wp2_with fail
      refine (version_rcalls w3 _ _ L3.out.ref (by rw [List.length_map]; exact hvn) a).mono ?_
      rintro e w4 ⟨u4, rfl, hr4, hb4⟩
      rw [List.length_map] at hr4 ⊢
      obtain ⟨e1, he1⟩ : ∃ e1, e1 = verB vs.length a := ⟨_, rfl⟩
      rw [← he1] at hr4 ⊢
      have HE1 := hid he1
      clear he1
      have HR4 := hid hr4
      have B4 := hid hb4
      have cx4 := CX3.out.below hb4 lX3
      have co4 := CO3.out.below hb4 lO3
      have L4 := hid (L3.out.after hzw3 hb4)
      have CX4 := hid cx4
      have CO4 := hid co4
      have x4 := cell_one cx4
      have lX4 := cx4.lt
      have o41 : w4.cell? ⟨O, 1, none⟩ = some (.int .i64 b) := by simp [co4.cell]
      have lO4 := co4.lt
      have hzw4 : w.heap.size ≤ w4.heap.size := Nat.le_trans hzw3 hb4.size
      have hz4 := hb4.size
      clear hr4 hb4 cx4 co4 x3 o30 o31 lX3 lO3
      go_wp2_with fail
      refine (version_rcalls w4 _ _ L4.out.ref (by rw [List.length_map]; exact hvn) b).mono ?_
      rintro e w5 ⟨u5, rfl, hr5, hb5⟩
      rw [List.length_map] at hr5 ⊢
      obtain ⟨e2, he2⟩ : ∃ e2, e2 = verB vs.length b := ⟨_, rfl⟩
      rw [← he2] at hr5 ⊢
      have HE2 := hid he2
      clear he2
      have HR5 := hid hr5
      have B5 := hid hb5
      have cx5 := CX4.out.below hb5 lX4
      have co5 := CO4.out.below hb5 lO4
      have L5 := hid (L4.out.after hzw4 hb5)
      have CX5 := hid cx5
      have CO5 := hid co5
      have hzw5 : w.heap.size ≤ w5.heap.size := Nat.le_trans hzw4 hb5.size
      have hz5 := hb5.size
      have DL := hid (diffV_len LK.out.reg a b)
      obtain ⟨r1, q1, q2, q3, q4, q5, q6⟩ := mod_i64 (n := m + 1) a (by omega) (by omega)
      obtain ⟨r2, z1, z2, z3, z4, z5, z6⟩ := mod_i64 (n := m + 1) b (by omega) (by omega)
      have q1 : (IntKind.u64.wrap a).tmod ((m : Int) + 1) = r1 := q1
      have z1 : (IntKind.u64.wrap b).tmod ((m : Int) + 1) = r2 := z1
      clear hr5 hb5 x4 o41 lX4 lO4
      have HBB := hid (show bothB vs.length a b = (e1 && e2) by rw [HE1.out, HE2.out]; rfl)
      cases e1
      · obtain rfl : E = 4 := by rw [HE.out, HBB.out]; rfl
        obtain rfl : len = 0 := by rw [HLEN.out]; exact DL.out.2 HBB.out
        have x5 := cell_one CX5.out
        have lX5 := CX5.out.lt
        have o50 : w5.cell? ⟨O, 0, none⟩ = some (.int .i64 a) := by simp [CO5.out.cell]
        have o51 : w5.cell? ⟨O, 1, none⟩ = some (.int .i64 b) := by simp [CO5.out.cell]
        have f50 := CO5.out.frozen 0
        have f51 := CO5.out.frozen 1
        have lO5 := CO5.out.lt
        go_upto_region 16 with fail
        go_region
        all_goals (
          go_wp2
          go_roundg (gk - 1)
          case rel => exact ⟨i + 1, r1, r2, by omega, rfl, chg_end L5.out hzw5 hO1 hO2 (by rw [HO.out]; exact Nat.le_refl _) hX2 CX5.out CO5.out r1 r2⟩
          case measure => omega)
      · cases e2
        · obtain rfl : E = 4 := by rw [HE.out, HBB.out]; rfl
          obtain rfl : len = 0 := by rw [HLEN.out]; exact DL.out.2 HBB.out
          have x5 := cell_one CX5.out
          have lX5 := CX5.out.lt
          have o50 : w5.cell? ⟨O, 0, none⟩ = some (.int .i64 a) := by simp [CO5.out.cell]
          have o51 : w5.cell? ⟨O, 1, none⟩ = some (.int .i64 b) := by simp [CO5.out.cell]
          have f50 := CO5.out.frozen 0
          have f51 := CO5.out.frozen 1
          have lO5 := CO5.out.lt
          go_upto_region 16 with fail
          go_region
          all_goals (
            go_wp2
            go_roundg (gk - 1)
            case rel => exact ⟨i + 1, r1, r2, by omega, rfl, chg_end L5.out hzw5 hO1 hO2 (by rw [HO.out]; exact Nat.le_refl _) hX2 CX5.out CO5.out r1 r2⟩
            case measure => omega)
        · obtain rfl : E = 0 := by rw [HE.out, HBB.out]; rfl
          obtain ⟨la, lb, hla, hlb, ra, rb, sa, sb, hR⟩ := diffV_ref LK.out.reg HBB.out
          have HR := hid hR
          have V4 := hid (show RunsV 0 w5 u4 la by rw [← hla]; exact (HR4.out rfl).below B5.out)
          have V5 := hid (show RunsV 0 w5 u5 lb by rw [← hlb]; exact HR5.out rfl)
          have RA := hid ra
          have RB := hid rb
          clear ra rb hR hla hlb
          go_wp2_with fail
          refine (rchanged_calls w5 u4 u5 la lb V4.out V5.out sa sb RA.out RB.out).mono ?_
          rintro e w6 ⟨u6, R, rfl, ow6, hR6, hb6⟩
          obtain rfl := HR.out R hR6
          have OW6 := hid ow6
          have OW36 := hid (((OW3.out.below B4.out).below B5.out).below hb6)
          have cx6 := CX5.out.below hb6 CX5.out.lt
          have co6 := CO5.out.below hb6 CO5.out.lt
          have L6 := hid (L5.out.after hzw5 hb6)
          have CX6 := hid cx6
          have CO6 := hid co6
          have hzw6 : w.heap.size ≤ w6.heap.size := Nat.le_trans hzw5 hb6.size
          clear ow6 hb6 cx6 co6 hR6
          go_wp2_with fail
          refine (spans_same w6 _ u6 _ (OW36.out.mono (Nat.zero_le _)) (OW6.out.mono (Nat.zero_le _)) DL.out.1).mono ?_
          rintro e w7 ⟨rfl, hb7⟩
          have cx7 := CX6.out.below hb7 CX6.out.lt
          have co7 := CO6.out.below hb7 CO6.out.lt
          have L7 := hid (L6.out.after hzw6 hb7)
          have CX7 := hid cx7
          have CO7 := hid co7
          have hzw7 : w.heap.size ≤ w7.heap.size := Nat.le_trans hzw6 hb7.size
          clear hb7 cx7 co7
          have x7 := cell_one CX7.out
          have lX7 := CX7.out.lt
          have o70 : w7.cell? ⟨O, 0, none⟩ = some (.int .i64 a) := by simp [CO7.out.cell]
          have o71 : w7.cell? ⟨O, 1, none⟩ = some (.int .i64 b) := by simp [CO7.out.cell]
          have f70 := CO7.out.frozen 0
          have f71 := CO7.out.frozen 1
          have lO7 := CO7.out.lt
          go_upto_region 16 with fail
          go_region
          all_goals (
            go_wp2
            go_roundg (gk - 1)
            case rel => exact ⟨i + 1, r1, r2, by omega, rfl, chg_end L7.out hzw7 hO1 hO2 (by rw [HO.out]; exact Nat.le_refl _) hX2 CX7.out CO7.out r1 r2⟩
            case measure => omega)
    · have g1 : decide ((i : Int) < 2) = false := by simp; omega
      have BW := hid (LK.out.reg.below)
      clear hi
      go_wp2_with fail
      refine (awake_calls _).mono ?_
      rintro e w14 ⟨rfl, hb14⟩
      have BF := hid (BW.out.trans (hb14.mono BW.out.size))
      clear hb14
      go_wp2
      exact bodyPost_ret (v := .bool true) (by simp [results, Try.results9, go_sem]) rfl ⟨rfl, BF.out⟩
end Go.Proofs.Ytnnbdjfeagcbdaa
