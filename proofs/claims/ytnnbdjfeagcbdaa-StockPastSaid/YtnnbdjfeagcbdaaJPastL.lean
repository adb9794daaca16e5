/- StockPast: its walk. -/
import Derived.Test.YtnnbdjfeagcbdaaJRunL
namespace Go.Proofs.Ytnnbdjfeagcbdaa
set_option linter.unusedSimpArgs false
set_option linter.unusedVariables false
open Go.RowKit Go.Shelf
attribute [local go_sem] Oper.semAt_some

theorem atE_bad {n : Nat} {V : Int} (h : V < 0 ∨ (n : Int) ≤ V) (ok : Bool) : atE n V ok = 4 := by unfold atE; rw [if_pos h]
section
variable {B : Nat} {W w : World} {sB vB : Nat} {vs : List T} (h : Reg B W w sB vB vs) (hn : vs.length ≤ 1000) {V : Int} (hV : V < 0 ∨ (vs.length : Int) ≤ V)
include h hn hV
theorem pocket_bad (x : Int) : Calls Try.prog 28 #[.pointer (some ⟨sB, 0, none⟩), .int .i64 x, .int .i64 V] w
    fun e w' => e = .returned (.tuple #[.agg #[.int .i64 0, .int .i64 0, .int .i64 0, .int .i64 0], .int .i64 4]) ∧ Below w.heap.size w w' := by
  refine (Pocket_calls w sB vB vs h.st hn h.fine x V).mono ?_
  rintro e w' ⟨he, hb⟩
  rw [atE_bad hV, pocC, if_neg (by decide)] at he
  exact ⟨he, hb⟩
theorem holds_bad (o : Int) : Calls Try.prog 26 #[.pointer (some ⟨sB, 0, none⟩), .int .i64 o, .int .i64 V] w
    fun e w' => ∃ p cap, e = .returned (.tuple #[.slice p 0 cap, .int .i64 4]) ∧ Below w.heap.size w w' := by
  refine (Holds_calls w sB vB vs h.st hn h.fine o V).mono ?_
  rintro e w' ⟨u, he, ho', hb⟩
  rw [atE_bad hV] at he ho'
  obtain ⟨p, cap, hu, _⟩ := ho'.form
  rw [askL, if_neg (by decide)] at hu
  exact ⟨p, cap, by rw [he, hu]; rfl, hb⟩
theorem pledged_bad (o : Int) : Calls Try.prog 34 #[.pointer (some ⟨sB, 0, none⟩), .int .i64 o, .int .i64 V] w
    fun e w' => ∃ p cap, e = .returned (.tuple #[.slice p 0 cap, .int .i64 4]) ∧ Below w.heap.size w w' := by
  refine (Pledged_calls w sB vB vs h.st hn h.fine o V).mono ?_
  rintro e w' ⟨u, he, ho', hb⟩
  rw [atE_bad hV] at he ho'
  obtain ⟨p, cap, hu, _⟩ := ho'.form
  rw [askL, if_neg (by decide)] at hu
  exact ⟨p, cap, by rw [he, hu]; rfl, hb⟩
theorem count_bad (o : Int) : Calls Try.prog 27 #[.pointer (some ⟨sB, 0, none⟩), .int .i64 o, .int .i64 V] w
    fun e w' => e = .returned (.tuple #[.int .i64 0, .int .i64 4]) ∧ Below w.heap.size w w' := by
  refine (Count_calls w sB vB vs h.st hn h.fine o V).mono ?_
  rintro e w' ⟨he, hb⟩
  rw [atE_bad hV, askL, if_neg (by decide)] at he
  exact ⟨he, hb⟩
end

set_option maxRecDepth 100000 in
set_option maxHeartbeats 8000000 in
theorem past_calls (w : World) (v : Value) (l : List Ac) (hv : ReadsE encA 6 w v l) (ver : Int) :
    Calls Try.prog 6 #[v, .int .i64 ver] w fun e w' => e = .returned (.bool true) ∧ Below w.heap.size w w' := by
  have HV := hid hv
  clear hv
  go_enter Try.func6, Try.ntmps6
  go_wp2_with fail
  refine (run_calls w v l HV.out 30 (by omega)).mono ?_
  rintro e w1 ⟨sB, vB, vs, v1, rfl, lk1, hvs⟩
  obtain ⟨bs, ns, cs, rfl⟩ := lk1.ref.agg
  obtain ⟨m, t, hml, _, _, _, _⟩ := lk1.last
  have hns : ns = m + 1 := by have := lk1.ref.len; simp at this; omega
  subst hns
  have hz1 := lk1.reg.below.size
  obtain ⟨W1, hW1⟩ : ∃ W1, W1 = w1.alloc (.cells #[.slice (some ⟨bs, 0, none⟩) (m + 1) cs] 58) := ⟨_, rfl⟩
  have LA := hid (show Lk w.heap.size w W1 sB vB vs (.agg #[.slice (some ⟨bs, 0, none⟩) (m + 1) cs]) by rw [hW1]; exact lk1.after hz1 ((Below.refl _ _).alloc (Nat.le_refl _) _))
  obtain ⟨X, hX⟩ : ∃ X, X = w1.heap.size := ⟨_, rfl⟩
  have CX := hid (show Cells W1 X #[.slice (some ⟨bs, 0, none⟩) (m + 1) cs] 58 by rw [hX, hW1]; exact Cells.new _ _ _)
  have HW1 := hid hW1
  have HX := hid hX
  have hzW : w.heap.size ≤ W1.heap.size := LA.out.reg.below.size
  have HML := hid hml
  have hvn : vs.length ≤ 1000 := by omega
  have hm30 : m ≤ 30 := by omega
  clear lk1 hW1 hX hml
  go_wp2_with fail
  rw [← HW1.out, ← HX.out]
  go_loopg [7] (m + 1) (fun k s7 wr => ∃ i : Nat, i + k = m + 1 ∧ s7 = .int .i64 i ∧ Below W1.heap.size W1 wr)
  case atStart => exact ⟨0, by omega, rfl, Below.refl _ _⟩
  case round =>
    obtain ⟨i, hik, rfl, hb⟩ := hrel
    have HB := hid hb
    have cx := CX.out.below hb CX.out.lt
    have x0 := cell_one cx
    have lX := cx.lt
    have LB := hid (LA.out.after hzW hb)
    have CXB := hid cx
    have hzr := hb.size
    clear hb cx
    by_cases hi : i < m + 1
    · have g1 : decide ((i : Int) < (m : Int) + 1) = true := by simp; omega
      have n2 : (0 : Int) ≤ (i : Int) := by omega
      have n3 : (i : Int) < (m : Int) + 1 := by omega
      have n4 : ((i : Int) < ((m + 1 : Nat) : Int)) := by omega
      have i64 : IntKind.i64.wrap ((i : Int) + 1) = (i : Int) + 1 := IntWalk.i64_in _ (by omega)
      obtain ⟨b2, c2, us, hb2, hlt2, hul, hk2⟩ := LB.out.ref.cell
      simp at hb2
      obtain ⟨rfl, hlen2, rfl⟩ := hb2
      clear hlen2
      have hkk := hk2 i (by simp; have := HML.out; omega)
      obtain ⟨u, hu⟩ : ∃ u, u = us[i]?.getD (.slice none 0 0) := ⟨_, rfl⟩
      rw [← hu] at hkk
      obtain ⟨y0, y1⟩ := hkk
      obtain ⟨ti, hti⟩ : ∃ ti, vs[i]? = some ti := ⟨vs[i]'(by have := HML.out; omega), List.getElem?_eq_getElem _⟩
      have Y1 := hid (show RunsV 0 wr u (inT ti) by rw [List.getElem?_map, hti] at y1; exact y1)
      have HTI := hid hti
      have BTI := hid (LB.out.bc ti (List.mem_of_getElem? hti))
      clear hk2 hul hu y1 hti
      go_wp2_with fail
      refine (shows_calls LB.out.reg (Nat.le_trans hzW hzr) hvn HTI.out BTI.out u Y1.out).mono ?_
      rintro e w5 ⟨rfl, hb5⟩
      have B5 := hid (HB.out.trans (hb5.mono HB.out.size))
      clear hb5 y0
      go_wp2
      go_roundg (gk - 1)
      case measure => omega
      case rel => exact ⟨i + 1, by omega, rfl, B5.out⟩
    · have g1 : decide ((i : Int) < (m : Int) + 1) = false := by simp; omega
      by_cases hv1 : 0 ≤ ver
      · have f1 : decide (0 ≤ ver) = true := by simpa using hv1
        by_cases hv2 : ver < (m : Int) + 1
        · have f2 : decide (ver < (m : Int) + 1) = true := by simpa using hv2
          have VB := hid (show ((m : Int) + 1) < 0 ∨ (vs.length : Int) ≤ (m : Int) + 1 by rw [HML.out]; omega)
          clear hv1 hv2
          as_aux_lemma =>
            go_wp2_with fail
            refine (pocket_bad LB.out.reg hvn VB.out 1).mono ?_
            rintro e w5 ⟨rfl, hb5⟩
            have l5 : w5.heap.size < w5.heap.size + 1 := by omega
            have B5 := hid (HB.out.trans (hb5.mono HB.out.size))
            have hz5 : w.heap.size ≤ w5.heap.size := Nat.le_trans hzW B5.out.size
            have B6 := hid (B5.out.alloc B5.out.size (.cells #[.int .i64 0, .int .i64 0, .int .i64 0, .int .i64 0] 52))
            have CP := hid (Cells.new w5 #[.int .i64 0, .int .i64 0, .int .i64 0, .int .i64 0] 52)
            have L6 := hid (LA.out.after hzW B6.out)
            clear hb5 x0
            go_wp2_with fail
            refine (holds_bad L6.out.reg hvn VB.out 0).mono ?_
            rintro e w7 ⟨p7, c7, rfl, hb7⟩
            have B7 := hid (B6.out.trans (hb7.mono B6.out.size))
            have CP7 := hid (CP.out.below hb7 CP.out.lt)
            have L7 := hid (LA.out.after hzW B7.out)
            clear hb7
            go_wp2_with fail
            refine (pledged_bad L7.out.reg hvn VB.out 1).mono ?_
            rintro e w8 ⟨p8, c8, rfl, hb8⟩
            have B8 := hid (B7.out.trans (hb8.mono B7.out.size))
            have CP8 := hid (CP7.out.below hb8 CP7.out.lt)
            have L8 := hid (LA.out.after hzW B8.out)
            clear hb8
            go_wp2_with fail
            refine (count_bad L8.out.reg hvn VB.out 1).mono ?_
            rintro e w9 ⟨rfl, hb9⟩
            have B9 := hid (B8.out.trans (hb9.mono B8.out.size))
            have cp9 := CP8.out.below hb9 CP8.out.lt
            have q0 : w9.cell? ⟨w5.heap.size, 0, none⟩ = some (.int .i64 0) := by simp [cp9.cell]
            have q1 : w9.cell? ⟨w5.heap.size, 1, none⟩ = some (.int .i64 0) := by simp [cp9.cell]
            have q2 : w9.cell? ⟨w5.heap.size, 2, none⟩ = some (.int .i64 0) := by simp [cp9.cell]
            have q3 : w9.cell? ⟨w5.heap.size, 3, none⟩ = some (.int .i64 0) := by simp [cp9.cell]
            have BW := hid (LA.out.reg.below.trans (B9.out.mono hzW))
            clear hb9 cp9
            go_wp2_with fail
            refine (awake_calls _).mono ?_
            rintro e w14 ⟨rfl, hb14⟩
            have BF := hid (BW.out.trans (hb14.mono BW.out.size))
            clear hb14
            go_wp2
            exact bodyPost_ret (v := .bool true) (by simp [results, Try.results6, go_sem]) rfl ⟨rfl, BF.out⟩
        · have f2 : decide (ver < (m : Int) + 1) = false := by simpa using hv2
          have VB := hid (show ver < 0 ∨ (vs.length : Int) ≤ ver by rw [HML.out]; omega)
          clear hv1 hv2
          as_aux_lemma =>
            go_wp2_with fail
            refine (pocket_bad LB.out.reg hvn VB.out 1).mono ?_
            rintro e w5 ⟨rfl, hb5⟩
            have l5 : w5.heap.size < w5.heap.size + 1 := by omega
            have B5 := hid (HB.out.trans (hb5.mono HB.out.size))
            have hz5 : w.heap.size ≤ w5.heap.size := Nat.le_trans hzW B5.out.size
            have B6 := hid (B5.out.alloc B5.out.size (.cells #[.int .i64 0, .int .i64 0, .int .i64 0, .int .i64 0] 52))
            have CP := hid (Cells.new w5 #[.int .i64 0, .int .i64 0, .int .i64 0, .int .i64 0] 52)
            have L6 := hid (LA.out.after hzW B6.out)
            clear hb5 x0
            go_wp2_with fail
            refine (holds_bad L6.out.reg hvn VB.out 0).mono ?_
            rintro e w7 ⟨p7, c7, rfl, hb7⟩
            have B7 := hid (B6.out.trans (hb7.mono B6.out.size))
            have CP7 := hid (CP.out.below hb7 CP.out.lt)
            have L7 := hid (LA.out.after hzW B7.out)
            clear hb7
            go_wp2_with fail
            refine (pledged_bad L7.out.reg hvn VB.out 1).mono ?_
            rintro e w8 ⟨p8, c8, rfl, hb8⟩
            have B8 := hid (B7.out.trans (hb8.mono B7.out.size))
            have CP8 := hid (CP7.out.below hb8 CP7.out.lt)
            have L8 := hid (LA.out.after hzW B8.out)
            clear hb8
            go_wp2_with fail
            refine (count_bad L8.out.reg hvn VB.out 1).mono ?_
            rintro e w9 ⟨rfl, hb9⟩
            have B9 := hid (B8.out.trans (hb9.mono B8.out.size))
            have cp9 := CP8.out.below hb9 CP8.out.lt
            have q0 : w9.cell? ⟨w5.heap.size, 0, none⟩ = some (.int .i64 0) := by simp [cp9.cell]
            have q1 : w9.cell? ⟨w5.heap.size, 1, none⟩ = some (.int .i64 0) := by simp [cp9.cell]
            have q2 : w9.cell? ⟨w5.heap.size, 2, none⟩ = some (.int .i64 0) := by simp [cp9.cell]
            have q3 : w9.cell? ⟨w5.heap.size, 3, none⟩ = some (.int .i64 0) := by simp [cp9.cell]
            have BW := hid (LA.out.reg.below.trans (B9.out.mono hzW))
            clear hb9 cp9
            go_wp2_with fail
            refine (awake_calls _).mono ?_
            rintro e w14 ⟨rfl, hb14⟩
            have BF := hid (BW.out.trans (hb14.mono BW.out.size))
            clear hb14
            go_wp2
            exact bodyPost_ret (v := .bool true) (by simp [results, Try.results6, go_sem]) rfl ⟨rfl, BF.out⟩
      · have f1 : decide (0 ≤ ver) = false := by simpa using hv1
        have VB := hid (show ver < 0 ∨ (vs.length : Int) ≤ ver by omega)
        clear hv1
        as_aux_lemma =>
          go_wp2_with fail
          refine (pocket_bad LB.out.reg hvn VB.out 1).mono ?_
          rintro e w5 ⟨rfl, hb5⟩
          have l5 : w5.heap.size < w5.heap.size + 1 := by omega
          have B5 := hid (HB.out.trans (hb5.mono HB.out.size))
          have hz5 : w.heap.size ≤ w5.heap.size := Nat.le_trans hzW B5.out.size
          have B6 := hid (B5.out.alloc B5.out.size (.cells #[.int .i64 0, .int .i64 0, .int .i64 0, .int .i64 0] 52))
          have CP := hid (Cells.new w5 #[.int .i64 0, .int .i64 0, .int .i64 0, .int .i64 0] 52)
          have L6 := hid (LA.out.after hzW B6.out)
          clear hb5 x0
          go_wp2_with fail
          refine (holds_bad L6.out.reg hvn VB.out 0).mono ?_
          rintro e w7 ⟨p7, c7, rfl, hb7⟩
          have B7 := hid (B6.out.trans (hb7.mono B6.out.size))
          have CP7 := hid (CP.out.below hb7 CP.out.lt)
          have L7 := hid (LA.out.after hzW B7.out)
          clear hb7
          go_wp2_with fail
          refine (pledged_bad L7.out.reg hvn VB.out 1).mono ?_
          rintro e w8 ⟨p8, c8, rfl, hb8⟩
          have B8 := hid (B7.out.trans (hb8.mono B7.out.size))
          have CP8 := hid (CP7.out.below hb8 CP7.out.lt)
          have L8 := hid (LA.out.after hzW B8.out)
          clear hb8
          go_wp2_with fail
          refine (count_bad L8.out.reg hvn VB.out 1).mono ?_
          rintro e w9 ⟨rfl, hb9⟩
          have B9 := hid (B8.out.trans (hb9.mono B8.out.size))
          have cp9 := CP8.out.below hb9 CP8.out.lt
          have q0 : w9.cell? ⟨w5.heap.size, 0, none⟩ = some (.int .i64 0) := by simp [cp9.cell]
          have q1 : w9.cell? ⟨w5.heap.size, 1, none⟩ = some (.int .i64 0) := by simp [cp9.cell]
          have q2 : w9.cell? ⟨w5.heap.size, 2, none⟩ = some (.int .i64 0) := by simp [cp9.cell]
          have q3 : w9.cell? ⟨w5.heap.size, 3, none⟩ = some (.int .i64 0) := by simp [cp9.cell]
          have BW := hid (LA.out.reg.below.trans (B9.out.mono hzW))
          clear hb9 cp9
          go_wp2_with fail
          refine (awake_calls _).mono ?_
          rintro e w14 ⟨rfl, hb14⟩
          have BF := hid (BW.out.trans (hb14.mono BW.out.size))
          clear hb14
          go_wp2
          exact bodyPost_ret (v := .bool true) (by simp [results, Try.results6, go_sem]) rfl ⟨rfl, BF.out⟩
end Go.Proofs.Ytnnbdjfeagcbdaa
