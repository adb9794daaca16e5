/- slices.DeleteFunc with the closure of takeOff. -/
import Derived.LaidEqlPtr
import Derived.Test.YtdjhpldiifdifaaJNew
namespace Go.Proofs.Ytdjhpldiifdifaa
set_option linter.unusedSimpArgs false
set_option linter.unusedVariables false
open Go.RowKit Go.Shelf
attribute [local go_sem] Oper.semAt_some
attribute [local go_sem ↓] Go.wp_at_zero Go.wp_at_succ

theorem undPtr : Try.prog.underlying 92 = some (.pointer 99) := by kernel_rfl
theorem infoEntry : (Try.prog.info? 99).map (fun i => i.size) = some 13 := by kernel_rfl
theorem info_entry : ∃ i, Try.prog.info? 99 = some i ∧ i.size ≠ 0 := by
  have h := infoEntry
  cases hi : Try.prog.info? 99 with
  | none => rw [hi] at h; cases h
  | some i =>
    rw [hi] at h
    simp only [Option.map_some, Option.some.injEq] at h
    exact ⟨i, rfl, by omega⟩
set_option maxRecDepth 100000 in
theorem same_calls {w : World} {B X Y : Nat} (h : Cells w B #[pt X] 92) {cx cy : Array Value} (hX : Cells w X cx 99) (hY : Cells w Y cy 99) : Calls Try.prog 71 #[pt Y, pt B] w fun e w' => e = .returned (.bool (decide (Y = X))) ∧ w' = w := by
  have c0 : w.cell? ⟨B, 0, none⟩ = some (pt X) := by rw [h.cell]; rfl
  have hl := h.lt
  obtain ⟨i, hi, hz⟩ := info_entry
  clear h
  by_cases hYX : Y = X
  · subst hYX
    have e1 : (binOp .eql 92 (pt Y) (pt Y)).run Try.prog w = .ok (.bool true) w := run_eql_ptr_same w _ undPtr hi
    clear hi hz hX hY
    go_enter Try.func71, Try.ntmps71
    go_wp2
    go_ret
    exact ⟨by simp, rfl⟩
  · have e1 : (binOp .eql 92 (pt Y) (pt X)).run Try.prog w = .ok (.bool false) w := run_eql_ptr_other w undPtr hi hz (fun e => hYX (by injection e)) hY hX
    clear hi hz hX hY
    go_enter Try.func71, Try.ntmps71
    go_wp2
    go_ret
    exact ⟨by simp [hYX], rfl⟩
/-- The row while it is rewritten. -/
structure RowAt (w : World) (b cap : Nat) (pre post : List Nat) (a : Nat) (W : World) : Prop where
  cells : ∃ cur, Cells W b cur 92 ∧ cur.size = cap ∧ cur.toList.take pre.length = pre.map pt ∧ (∀ j, j < a → cur[pre.length + j]? = (post[j]?).map pt) ∧ ∀ j, a ≤ j → j < post.length → cur[pre.length + 1 + j]? = (post[j]?).map pt
  kept : Kept (fun k => k = b) w W
theorem RowAt.next {w W : World} {b cap : Nat} {pre post : List Nat} {a : Nat} (h : RowAt w b cap pre post a W) (ha : a < post.length) (hc : pre.length + 1 + post.length ≤ cap) : RowAt w b cap pre post (a + 1) (W.setCell ⟨b, pre.length + a, none⟩ (pt post[a])) := by
  obtain ⟨cur, g1, g2, g3, g4, g5⟩ := h.cells
  refine ⟨⟨_, g1.set (pre.length + a) (pt post[a]), by rw [Array.size_setIfInBounds, g2], ?_, fun j hj => ?_, fun j hj hjl => ?_⟩, h.kept.set (C := b) rfl _ _⟩
  · rw [← g3]
    apply List.ext_getElem?
    intro k
    rw [List.getElem?_take, List.getElem?_take]
    by_cases hk : k < pre.length
    · rw [if_pos hk, if_pos hk, Array.getElem?_toList, Array.getElem?_toList, Array.getElem?_setIfInBounds_ne (by omega)]
    · rw [if_neg hk, if_neg hk]
  · by_cases hja : j = a
    · subst hja
      rw [Array.getElem?_setIfInBounds_self_of_lt (by omega), List.getElem?_eq_getElem ha]
      rfl
    · rw [Array.getElem?_setIfInBounds_ne (by omega)]
      exact g4 j (by omega)
  · rw [Array.getElem?_setIfInBounds_ne (by omega)]
    exact g5 j (by omega) hjl
theorem RowAt.done {w W : World} {b cap : Nat} {pre post : List Nat} (h : RowAt w b cap pre post post.length W) (hc : pre.length + 1 + post.length ≤ cap) (hm : cap ≤ maxLen) : OwnE encPt 1 92 0 W (.slice (some ⟨b, 0, none⟩) (pre ++ post).length cap) (pre ++ post) := by
  obtain ⟨cur, g1, g2, g3, g4, g5⟩ := h.cells
  refine ⟨by simp [flat_pt], .inr ⟨b, cap, cur, rfl, Nat.zero_le _, g1, by rw [List.length_append]; omega, hm, by rw [g2, Nat.mul_one], ?_⟩⟩
  rw [flat_pt, Nat.mul_one]
  apply List.ext_getElem?
  intro k
  rw [List.getElem?_take, Array.getElem?_toList, List.getElem?_map]
  by_cases hk : k < (pre ++ post).length
  · rw [if_pos hk]
    rw [List.length_append] at hk
    rcases Nat.lt_or_ge k pre.length with h1 | h1
    · rw [List.getElem?_append_left h1]
      have := congrArg (fun l => l[k]?) g3
      simp only [List.getElem?_take, if_pos h1, Array.getElem?_toList, List.getElem?_map] at this
      exact this
    · rw [List.getElem?_append_right h1]
      have := g4 (k - pre.length) (by omega)
      rw [show pre.length + (k - pre.length) = k by omega] at this
      exact this
  · rw [if_neg hk, List.getElem?_eq_none (by omega)]
    rfl

set_option maxRecDepth 100000 in
set_option maxHeartbeats 4000000 in
theorem dlf_calls {w : World} {v : Value} {pre post : List Nat} {X B : Nat} (h : OwnE encPt 1 92 0 w v (pre ++ X :: post)) (hlen : (pre ++ X :: post).length ≤ 1000000) (hnd : (pre ++ X :: post).Nodup) (hB : Cells w B #[pt X] 92) (hne : v.ownBlock ≠ some B) (hent : ∀ E ∈ pre ++ X :: post, ∃ cs, Cells w E cs 99) :
    Calls Try.prog 70 #[v, .func (.func 71) #[] #[pt B]] w (CutP w v (pre ++ post)) := by
  have ix := idxF_calls h hlen 71 #[] #[pt B] (enters_of Try.func71 (by kernel_rfl) rfl) (fun E => decide (E = X)) (fun E hE m => by
    have e : (((#[] : Array Value).push (pt E)) ++ #[pt B]) = #[pt E, pt B] := by simp
    rw [e]
    obtain ⟨cx, hcx⟩ := hent X (by simp)
    obtain ⟨cy, hcy⟩ := hent E hE
    exact (same_calls (hB.drewN m) (hcx.drewN m) (hcy.drewN m)).mono fun e w' ⟨h1, h2⟩ => ⟨h1, 0, h2⟩)
  obtain ⟨n1, n2, n3⟩ := List.nodup_append.1 hnd
  obtain ⟨n4, n5⟩ := List.nodup_cons.1 n2
  have hi : idxV (pre ++ X :: post) (fun E => decide (E = X)) = pre.length := by
    have h1 : (pre ++ X :: post).findIdx (fun E => decide (E = X)) = pre.length := by
      refine findIdx_at (by simp) (fun j hj => ?_) (by simp)
      rw [List.getElem?_append_left hj, List.getElem?_eq_getElem hj, Option.map_some]
      have := n3 pre[j] (List.getElem_mem hj) X (by simp)
      simpa using this
    unfold idxV
    rw [h1, if_pos (by simp)]
  rw [hi] at ix
  obtain ⟨p, cap, b, rfl, hp, hrow⟩ := ptRow h
  obtain ⟨hp, hbl⟩ := hp (by simp; omega)
  subst hp
  obtain ⟨cur, g1, g2, g3, g4, g5⟩ := own_some h
  have hbB : b ≠ B := fun e => hne (by rw [e]; rfl)
  have hgt : ∀ k, k < (pre ++ X :: post).length → cur[k]? = ((pre ++ X :: post)[k]?).map pt := fun k hk => by
    have := congrArg (fun l => l[k]?) g5
    simp only [List.getElem?_take, if_pos hk, Array.getElem?_toList, List.getElem?_map] at this
    exact this
  have hl : (pre ++ X :: post).length = pre.length + 1 + post.length := by simp; omega
  have hR0 : ∀ m, RowAt w b cap pre post 0 (w.drewN m) := fun m => by
    refine ⟨⟨cur, g1.drewN m, g4, ?_, fun j hj => absurd hj (by omega), fun j _ hj => ?_⟩, (Kept.refl _ w).drewN m⟩
    · have := congrArg (List.take pre.length) g5
      rw [List.take_take, List.map_append, List.take_append_of_le_length (by simp), show min pre.length (pre ++ X :: post).length = pre.length by omega] at this
      rw [this, List.take_of_length_le (by simp)]
    · rw [hgt _ (by omega), List.getElem?_append_right (by omega), show pre.length + 1 + j - pre.length = j + 1 by omega]
      rfl
  have fin : ∀ W, RowAt w b cap pre post post.length W → CutP w (.slice (some ⟨b, 0, none⟩) (pre ++ X :: post).length cap) (pre ++ post) (.returned (.slice (some ⟨b, 0, none⟩) (pre.length + post.length) cap)) (W.setCell ⟨b, pre.length + post.length, none⟩ (.pointer none)) := fun W hW => by
    have o1 := hW.done (by omega) g3
    have e1 := own_tail o1 (n := pre.length + post.length) (by rw [List.length_append]; exact Nat.le_refl _) (.pointer none)
    have e2 : (pre ++ post).length = pre.length + post.length := List.length_append
    rw [e2] at e1
    have k1 : Kept (fun k => some k = (Value.slice (some ⟨b, 0, none⟩) (pre ++ X :: post).length cap).ownBlock) w W := hW.kept.mono (fun k e => by rw [e]; rfl)
    exact ⟨_, rfl, e1, k1.set (C := b) rfl _ _, rfl⟩
  have hcl : ∀ W, RowAt w b cap pre post post.length W → ∀ one, one = 1 → ∀ ty, (Builtin.clear_ #[89] ty #[.slice (some ⟨b, pre.length + post.length, none⟩) one (cap - (pre.length + post.length))]).run Try.prog W = .ok (.tuple #[]) (W.setCell ⟨b, pre.length + post.length, none⟩ (.pointer none)) := by
    intro W hW one h1 ty
    subst h1
    obtain ⟨cur2, q1, q2, _⟩ := hW.cells
    refine run_clear_slice' W b _ _ ?_ (q1.frozen _) ty
    rw [q1.cell, Array.getElem?_eq_getElem (show pre.length + post.length < cur2.size by omega)]
    rfl
  have hnx : ∀ E ∈ post, E ≠ X := fun E hE e => n4 (by rw [← e]; exact hE)
  have hPost := hid hnx
  obtain ⟨I, hI⟩ : ∃ I, I = pre.length := ⟨_, rfl⟩
  obtain ⟨d, hd⟩ : ∃ d, d = post.length := ⟨_, rfl⟩
  obtain ⟨n, hn⟩ : ∃ n, n = (pre ++ X :: post).length := ⟨_, rfl⟩
  have hR1 : ∀ a W (ha : a < post.length), RowAt w b cap pre post a W → RowAt w b cap pre post (a + 1) (W.setCell ⟨b, pre.length + a, none⟩ (pt post[a])) := fun a W ha hW => hW.next ha (by omega)
  rw [← hI] at ix hl fin hcl hR1
  rw [← hd] at hl fin hcl
  rw [← hn] at hl fin hlen g2
  rw [← hn] at ix ⊢
  have IX := hid ix
  have R0 := hid hR0
  have R1 := hid hR1
  have FIN := hid fin
  have CL := hid hcl
  have HB := hid hB
  have HENT := hid hent
  have HG1 := hid g1
  have HD := hid hd
  have HI := hid hI
  clear h ix n1 n2 n3 n4 n5 hi hrow g1 g4 g5 hgt hR0 fin hcl hnx hnd hne hB hR1 hd hI hn hent
  generalize hRR : CutP w (.slice (some ⟨b, 0, none⟩) n cap) (pre ++ post) = R at *
  clear hRR
  have e1 : ((I : Int) == -1) = false := by simp
  have hnl : I + 1 + d ≤ n := by omega
  have hnl2 : n ≤ I + 1 + d := by omega
  clear hl g3
  go_enter Try.func70, Try.ntmps70
  go_wp2_with fail
  refine IX.out.mono ?_
  rintro e w1 ⟨rfl, m, hw1⟩
  have R0' := hid (show RowAt w b cap pre post 0 w1 by rw [hw1]; exact R0.out m)
  clear hw1
  go_wp2_with fail
  go_loopg [5, 6, 7] d (fun k s5 s6 s7 wr => ∃ a : Nat, s5 = .int .i64 ((I : Int) + a) ∧ s6 = .int .i64 ((I : Int) + 1 + a) ∧ a ≤ d ∧ k = d - a ∧ RowAt w b cap pre post a wr)
  case atStart => exact ⟨0, by simp, by simp, by omega, by omega, R0'.out⟩
  case round =>
    obtain ⟨a, rfl, rfl, ha, hk, hr⟩ := hrel
    have HK := hid hk
    have HR := hid hr
    clear hk hr
    by_cases had : a < d
    · have hal : a < post.length := by rw [← HD.out]; exact had
      obtain ⟨cu, q1, q2, q3, q4, q5⟩ := HR.out.cells
      have k1 : wr.cell? ⟨b, I + 1 + a, none⟩ = some (pt post[a]) := by
        rw [q1.cell, HI.out, q5 a (Nat.le_refl _) hal, List.getElem?_eq_getElem hal]
        rfl
      have k2 : (wr.cell? ⟨b, I + a, none⟩).isSome = true := by
        rw [q1.cell, Array.getElem?_eq_getElem (show I + a < cu.size by omega)]
        rfl
      obtain ⟨u2, k2⟩ := Option.isSome_iff_exists.1 k2
      have k3 : wr.frozen? ⟨b, I + a, none⟩ = false := q1.frozen _
      have hbr := q1.lt
      have hne := hPost.out post[a] (List.getElem_mem hal)
      obtain ⟨cx, hcx⟩ := HENT.out X (by simp)
      obtain ⟨cy, hcy⟩ := HENT.out post[a] (List.mem_append_right _ (List.mem_cons_of_mem _ (List.getElem_mem hal)))
      have cl := same_calls (HB.out.kept HR.out.kept (Ne.symm hbB)) (hcx.kept HR.out.kept (hcx.ne HG1.out (by decide))) (hcy.kept HR.out.kept (hcy.ne HG1.out (by decide)))
      rw [decide_eq_false hne] at cl
      have RN := hid (R1.out a wr hal HR.out)
      obtain ⟨Y, hY⟩ : ∃ Y, Y = post[a] := ⟨_, rfl⟩
      rw [← hY] at k1 cl RN
      have CLS := hid cl
      clear q1 q2 q3 q4 q5 hne cl hY hcx hcy
      have i1 : (I : Int) + 1 + a < n := by omega
      have i2 : (I : Int) + a < n := by omega
      have eg := enters_of Try.func71 (by kernel_rfl) rfl
      go_wp2_with fail
      refine CLS.out.mono ?_
      rintro e w2 ⟨rfl, rfl⟩
      go_wp2
      go_roundg (d - (a + 1))
      · refine ⟨a + 1, by go_num, by go_num, by omega, rfl, ?_⟩
        exact RN.out
      · have := HK.out; omega
    · have had2 : a = d := by omega
      have HRd := hid (show RowAt w b cap pre post d wr by rw [← had2]; exact HR.out)
      have hn1 : n - (I + a) = 1 := by omega
      have CLd := hid (fun ty => CL.out wr HRd.out _ (show n - (I + d) = 1 by omega) ty)
      rw [← had2] at CLd
      have fn := FIN.out wr HRd.out
      rw [← had2] at fn
      have FN := hid fn
      have hcc : (cap = I + a) = False := by simp; omega
      have hic : I + a ≤ cap := by omega
      have hin : I + a ≤ n := by omega
      have hinI : (I : Int) + a ≤ n := by omega
      clear had2 fn had
      go_wp2_with (refine wpList_clear_run rfl (.tmp 38) 89 rfl _ _ rfl (CLd.out _) ?_)
      exact FN.out
end Go.Proofs.Ytdjhpldiifdifaa
