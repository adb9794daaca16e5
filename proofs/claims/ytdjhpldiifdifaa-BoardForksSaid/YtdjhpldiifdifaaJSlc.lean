/- slices.IndexFunc, slices.Delete, slices.DeleteFunc at pointers of entries. -/
import Derived.Lib.SliceRun
import Derived.Test.YtdjhpldiifdifaaJBrda
namespace Go.Proofs.Ytdjhpldiifdifaa
set_option linter.unusedSimpArgs false
set_option linter.unusedVariables false
open Go.RowKit Go.Shelf
attribute [local go_sem] Oper.semAt_some
attribute [local go_sem ↓] Go.wp_at_zero Go.wp_at_succ

def idxV (l : List Nat) (P : Nat → Bool) : Int := if l.findIdx P < l.length then (l.findIdx P : Int) else -1
theorem findIdx_at {l : List Nat} {P : Nat → Bool} {a : Nat} (ha : a < l.length) (h1 : ∀ j, j < a → (l[j]?).map P = some false) (h2 : P l[a] = true) : l.findIdx P = a := by
  refine (List.findIdx_eq ha).2 ⟨h2, fun j hj => ?_⟩
  have := h1 j hj
  rw [List.getElem?_eq_getElem (by omega)] at this
  simpa using this
theorem findIdx_none {l : List Nat} {P : Nat → Bool} (h1 : ∀ j, j < l.length → (l[j]?).map P = some false) : l.findIdx P = l.length := by
  refine List.findIdx_eq_length.2 fun x hx => ?_
  obtain ⟨j, hj, rfl⟩ := List.getElem_of_mem hx
  have := h1 j hj
  rw [List.getElem?_eq_getElem hj] at this
  simpa using this
theorem ptRow {w : World} {v : Value} {l : List Nat} (h : OwnE encPt 1 92 0 w v l) : ∃ p cap b, v = .slice p l.length cap ∧ (0 < l.length → p = some ⟨b, 0, none⟩ ∧ b < w.heap.size) ∧ ∀ (k : Nat) (hk : k < l.length), w.cell? ⟨b, k, none⟩ = some (pt l[k]) := by
  obtain ⟨p, cap, b, h1, h2, h3⟩ := OwnE.cells (enc := encPt) (sz := 1) (fun _ => rfl) h
  refine ⟨p, cap, b, h1, fun h0 => ⟨(h2 h0).1, (h2 h0).2.2⟩, fun k hk => ?_⟩
  have := h3 k hk 0 (by omega)
  simpa using this

set_option maxRecDepth 100000 in
set_option maxHeartbeats 4000000 in
theorem idxF_calls {w : World} {v : Value} {l : List Nat} (h : OwnE encPt 1 92 0 w v l) (hlen : l.length ≤ 1000000) (f : FuncId) (bd caps : Array Value) (eg : ∀ args w, (callFunc f args).run Try.prog w = .ok (.enter f args) w) (P : Nat → Bool)
    (hP : ∀ E ∈ l, ∀ m, Calls Try.prog f (bd.push (pt E) ++ caps) (w.drewN m) fun e w' => e = .returned (.bool (P E)) ∧ ∃ k, w' = (w.drewN m).drewN k) :
    Calls Try.prog 78 #[v, .func (.func f) bd caps] w fun e w' => e = .returned (.int .i64 (idxV l P)) ∧ ∃ m, w' = w.drewN m := by
  obtain ⟨p, cap, b, rfl, hp, hrow⟩ := ptRow h
  obtain ⟨n, hn⟩ : ∃ n, n = l.length := ⟨_, rfl⟩
  rw [← hn] at hp hlen ⊢
  have HP := hid hp
  have HR := hid hrow
  have HN := hid hn
  have HC := hid hP
  have EG := hid eg
  clear h hp hrow hn hP eg
  go_enter Try.func78, Try.ntmps78
  go_wp2_with fail
  go_loopg [5, 8] n (fun k s5 s8 wr => ∃ a m : Nat, s8 = .int .i64 a ∧ a ≤ n ∧ k = n - a ∧ (∀ j, j < a → (l[j]?).map P = some false) ∧ wr = w.drewN m)
  case atStart => exact ⟨0, 0, rfl, by omega, by omega, fun j hj => absurd hj (by omega), rfl⟩
  case round =>
    obtain ⟨a, m, rfl, ha, hk, hf, rfl⟩ := hrel
    have HK := hid hk
    have HF := hid hf
    clear hk hf
    by_cases han : a < n
    · have hal : a < l.length := by rw [← HN.out]; exact han
      have hanI : (a : Int) < n := by omega
      obtain ⟨hpp, hbl⟩ := HP.out (by omega)
      subst hpp
      have k1 : w.cell? ⟨b, a, none⟩ = some (pt l[a]) := HR.out a hal
      have cl := HC.out l[a] (List.getElem_mem hal) m
      obtain ⟨E, hE⟩ : ∃ E, E = l[a] := ⟨_, rfl⟩
      rw [← hE] at k1 cl
      have HE := hid hE
      have eg := EG.out
      cases hPE : P E
      · rw [hPE] at cl
        have CL := hid cl
        have HPE := hid hPE
        clear hE cl hPE
        go_wp2_with fail
        refine CL.out.mono ?_
        rintro e w2 ⟨rfl, k, rfl⟩
        go_wp2
        go_roundg (n - (a + 1))
        · refine ⟨a + 1, m + k, by go_num, by omega, rfl, fun j hj => ?_, rfl⟩
          rcases Nat.lt_or_ge j a with h1 | h1
          · exact HF.out j h1
          · have : j = a := by omega
            subst this
            rw [List.getElem?_eq_getElem hal, Option.map_some, ← HE.out, HPE.out]
        · have := HK.out; omega
      · rw [hPE] at cl
        have CL := hid cl
        have HPE := hid hPE
        clear hE cl hPE
        go_wp2_with fail
        refine CL.out.mono ?_
        rintro e w2 ⟨rfl, k, rfl⟩
        have fin : idxV l P = a := by
          have := findIdx_at hal HF.out (by rw [← HE.out]; exact HPE.out)
          unfold idxV
          rw [this, if_pos hal]
        have FIN := hid fin
        clear fin
        go_wp2
        go_ret
        exact ⟨by rw [FIN.out]; rfl, _, rfl⟩
    · have hal : a = n := by omega
      have fin : idxV l P = -1 := by
        have := findIdx_none (l := l) (P := P) (fun j hj => HF.out j (by rw [hal, HN.out]; exact hj))
        unfold idxV
        rw [this, if_neg (by omega)]
      have FIN := hid fin
      clear fin
      go_wp2
      go_ret
      exact ⟨by rw [FIN.out]; rfl, _, rfl⟩

theorem wpList_clear_run {P : Program} {w : World} {ops : Array Oper} {rest : List Oper} {o : Oper} {a : Act} {Q : Exit → Act → World → Prop} (hgd : o.guard = none) (s : Operand) (t : TypeId)
    (ho : o.op = .call { callee := .builtin .clear, args := #[s], argTypes := #[t] }) (sv : Value) (w' : World) (hs : a.eval s = sv) (hrun : (Builtin.clear_ #[t] o.type #[sv]).run P w = .ok (.tuple #[]) w') (h : wpList P ops Q rest (a.put o.dst (.tuple #[])) w') :
    wpList P ops Q (o :: rest) a w := by
  refine wpList_plain hgd fun K hK => ?_
  unfold Oper.wp
  simp [execOp, ho, resolve, invoke, builtin, hs, hrun, Result.andThen]
  exact hK _ _ h
theorem zeroPt : ∀ w, (zeroValue 92).run Try.prog w = .ok (.pointer none) w := fun w => by kernel_rfl
theorem run_clear_slice' (w : World) (b o c : Nat) (hc : (w.cell? ⟨b, o, none⟩).isSome = true) (hf : w.frozen? ⟨b, o, none⟩ = false) (ty : TypeId := 89) :
    (Builtin.clear_ #[89] ty #[.slice (some ⟨b, o, none⟩) 1 c]).run Try.prog w = .ok (.tuple #[]) (w.setCell ⟨b, o, none⟩ (.pointer none)) :=
by
  refine Lib.run_clear_slice w 89 92 ty (.pointer none) undEnt zeroPt rfl rfl b o 1 c (by omega) (fun j hj => ?_) (fun j hj => ?_)
  · have e : j = 0 := by omega
    subst e
    exact hc
  · have e : j = 0 := by omega
    subst e
    exact hf
/-- An own row's block. -/
theorem own_some {w : World} {b cap : Nat} {l : List Nat} (h : OwnE encPt 1 92 0 w (.slice (some ⟨b, 0, none⟩) l.length cap) l) : ∃ cur, Cells w b cur 92 ∧ l.length ≤ cap ∧ cap ≤ maxLen ∧ cur.size = cap ∧ cur.toList.take l.length = l.map pt := by
  rcases h.2 with ⟨e, _⟩ | ⟨g, cp, cur, e, _, hg, h5, h6, h7, h8⟩
  · cases e
  · injection e with e1 e2 e3
    injection e1 with e1
    injection e1 with e1
    subst e1; subst e3
    rw [Nat.mul_one] at h7 h8
    exact ⟨cur, hg, h5, h6, h7, by rw [h8, flat_pt]⟩
/-- append(s[:i], s[i+1:]...) in place. -/
theorem ent_cut {w : World} {b cap : Nat} {pre post : List Nat} {x : Nat} (h : OwnE encPt 1 92 0 w (.slice (some ⟨b, 0, none⟩) (pre ++ x :: post).length cap) (pre ++ x :: post)) (A : Addr) (hA : 0 < post.length → A = ⟨b, pre.length + 1, none⟩) (c : Nat) (ty : TypeId) :
    ∃ w', (Builtin.append_ #[89, 89] ty #[.slice (some ⟨b, 0, none⟩) pre.length cap, .slice (some A) post.length c]).run Try.prog w = .ok (.slice (some ⟨b, 0, none⟩) (pre.length + post.length) cap) w' ∧ OwnE encPt 1 92 0 w' (.slice (some ⟨b, 0, none⟩) (pre ++ post).length cap) (pre ++ post) ∧ Kept (fun k => k = b) w w' := by
  obtain ⟨i, hi, hz, hs, hb⟩ := info_ptr infoEnt
  obtain ⟨cur, g1, g2, g3, g4, g5⟩ := own_some h
  have hown : w.ownsRow 0 92 1 (.slice (some ⟨b, 0, none⟩) pre.length cap) pre.length (flatE encPt pre) := by
    refine ⟨by simp [flat_pt], .inr ⟨b, cap, cur, rfl, Nat.zero_le _, g1, by rw [List.length_append] at g2; omega, g3, by rw [Nat.mul_one]; exact g4, ?_⟩⟩
    rw [flat_pt, Nat.mul_one]
    have := congrArg (List.take pre.length) g5
    rw [List.take_take, List.map_append, List.take_append_of_le_length (by simp), List.length_append, List.length_cons] at this
    rw [show min pre.length (pre.length + (post.length + 1)) = pre.length by omega] at this
    rw [this, List.take_of_length_le (by simp)]
  have hnews : ∀ j u, (flatE encPt post)[j]? = some u → w.cell? (A.add j) = some u := by
    intro j u hu
    have hj : j < post.length := by have := (List.getElem?_eq_some_iff.1 hu).1; rw [flat_pt] at this; simpa using this
    rw [hA (by omega)]
    have hc := World.ownsRow.cellAt h (pre.length + 1 + j) (by rw [List.length_append, List.length_cons]; omega)
    rw [show (⟨b, pre.length + 1, none⟩ : Addr).add j = ⟨b, pre.length + 1 + j, none⟩ by unfold Addr.add; split <;> simp_all]
    rw [hc]
    rw [flat_pt] at hu ⊢
    rw [List.map_append, List.getElem?_append_right (by simp; omega), List.length_map, show pre.length + 1 + j - pre.length = j + 1 by omega]
    exact hu
  obtain ⟨w', h1, h2, h3⟩ := run_append_fits w 0 89 ty 92 i 1 undEnt hi hs b pre.length cap (flatE encPt pre) hown A post.length c (flatE encPt post) (by simp [flat_pt]) hnews
    (by intro u hu; rw [flat_pt] at hu; obtain ⟨y, _, rfl⟩ := List.mem_map.1 hu; rfl) (by rw [List.length_append, List.length_cons] at g2; omega)
  refine ⟨w', h1, ?_, (Kept.of_grown h3).mono (fun k hk => by injection hk)⟩
  unfold OwnE
  rw [flatE_append, List.length_append]
  exact h2
/-- A cell behind the row's end. -/
theorem own_tail {w : World} {b cap n : Nat} {l : List Nat} (h : OwnE encPt 1 92 0 w (.slice (some ⟨b, 0, none⟩) l.length cap) l) (hn : l.length ≤ n) (z : Value) : OwnE encPt 1 92 0 (w.setCell ⟨b, n, none⟩ z) (.slice (some ⟨b, 0, none⟩) l.length cap) l := by
  obtain ⟨cur, g1, g2, g3, g4, g5⟩ := own_some h
  refine ⟨h.1, .inr ⟨b, cap, _, rfl, Nat.zero_le _, g1.set n z, g2, g3, by rw [Array.size_setIfInBounds, Nat.mul_one]; exact g4, ?_⟩⟩
  rw [flat_pt, Nat.mul_one, ← g5]
  apply List.ext_getElem?
  intro k
  rw [List.getElem?_take, List.getElem?_take]
  by_cases hk : k < l.length
  · rw [if_pos hk, if_pos hk, Array.getElem?_toList, Array.getElem?_toList, Array.getElem?_setIfInBounds_ne (by omega)]
  · rw [if_neg hk, if_neg hk]
/-- What Delete comes to. -/
def CutP (w : World) (v : Value) (l : List Nat) (e : Ending) (w' : World) : Prop :=
  ∃ v', e = .returned v' ∧ OwnE encPt 1 92 0 w' v' l ∧ Kept (fun k => some k = v.ownBlock) w w' ∧ v'.ownBlock = v.ownBlock
set_option maxRecDepth 100000 in
set_option maxHeartbeats 4000000 in
theorem del_calls {w : World} {v : Value} {pre post : List Nat} {x : Nat} (h : OwnE encPt 1 92 0 w v (pre ++ x :: post)) (hlen : (pre ++ x :: post).length ≤ 1000000) :
    Calls Try.prog 80 #[v, .int .i64 pre.length, .int .i64 ((pre.length : Int) + 1)] w (CutP w v (pre ++ post)) := by
  obtain ⟨p, cap, b, rfl, hp, _⟩ := ptRow h
  obtain ⟨hp, hbl⟩ := hp (by simp; omega)
  subst hp
  obtain ⟨cur, g1, g2, g3, g4, g5⟩ := own_some h
  obtain ⟨i, hi⟩ : ∃ i, i = pre.length := ⟨_, rfl⟩
  obtain ⟨n, hn⟩ : ∃ n, n = (pre ++ x :: post).length := ⟨_, rfl⟩
  obtain ⟨d, hd⟩ : ∃ d, d = post.length := ⟨_, rfl⟩
  have hnid : n = i + 1 + d := by rw [hn, hi, hd]; simp; omega
  obtain ⟨A, hA, hA2⟩ : ∃ A : Addr, (if cap = i + 1 then some (⟨b, 0, none⟩ : Addr) else some ⟨b, i + 1, none⟩) = some A ∧ (0 < post.length → A = ⟨b, pre.length + 1, none⟩) := by
    by_cases h : cap = i + 1
    · exact ⟨⟨b, 0, none⟩, by simp [h], fun hn => by omega⟩
    · exact ⟨⟨b, i + 1, none⟩, by simp [h], fun _ => by rw [hi]⟩
  obtain ⟨w1, r1, r2, r3⟩ := ent_cut h.drew A hA2 (cap - (i + 1)) 89
  rw [← hi, ← hd] at r1
  have hl2 : (pre ++ post).length = i + d := by rw [List.length_append, hi, hd]
  have r2' := r2
  rw [hl2] at r2'
  obtain ⟨cur2, q1, q2, q3, q4, _⟩ := own_some r2
  have hzz : ((.pointer none : Value)).oneCell' = true := rfl
  have hsome : (w1.cell? ⟨b, i + d, none⟩).isSome = true := by
    rw [q1.cell, Array.getElem?_eq_getElem (show i + d < cur2.size by omega)]
    rfl
  have hcl : ∀ one, one = 1 → ∀ ty, (Builtin.clear_ #[89] ty #[.slice (some ⟨b, i + d, none⟩) one (cap - (i + d))]).run Try.prog w1 = .ok (.tuple #[]) (w1.setCell ⟨b, i + d, none⟩ (.pointer none)) := by
    intro one h1 ty
    subst h1
    exact run_clear_slice' w1 b (i + d) (cap - (i + d)) hsome (q1.frozen _) ty
  have fin : CutP w (.slice (some ⟨b, 0, none⟩) n cap) (pre ++ post) (.returned (.slice (some ⟨b, 0, none⟩) (i + d) cap)) (w1.setCell ⟨b, i + d, none⟩ (.pointer none)) := by
    have e1 := own_tail r2 (n := i + d) (by omega) (.pointer none)
    rw [hl2] at e1
    have k0 : Kept (fun k => some k = (Value.slice (some ⟨b, 0, none⟩) n cap).ownBlock) w w.drew := (Kept.refl _ w).drew
    exact ⟨_, rfl, e1, (k0.trans r3 (fun k _ hk => by rw [hk]; rfl)).set (C := b) rfl _ _, rfl⟩
  rw [← hn] at g2 hlen ⊢
  rw [← hi]
  have R1 := hid r1
  have CL := hid hcl
  have FIN := hid fin
  have hiI : (i : Int) < n := by omega
  have hin : i < n := by omega
  have e1 : ((i : Int) == (i : Int) + 1) = false := by simp; omega
  have hnd : n - (i + 1) = d := by omega
  have hl0 : (i : Int) + 1 ≤ n := by omega
  clear h g1 g3 g4 g5 hi hn hd hA2 r1 r2 r3 hl2 r2' q1 q2 q3 q4 hzz hcl fin
  generalize CutP w (.slice (some ⟨b, 0, none⟩) n cap) (pre ++ post) = R at *
  go_enter Try.func80, Try.ntmps80
  have hp0 : (0 : Int) ≤ (i : Int) + 1 := by omega
  have hp2 : ((i : Int) + 1).toNat = i + 1 := by omega
  have hn1 : n - (i + d) = 1 := by omega
  have hic : i ≤ cap := by omega
  have CL := hid (CL.out _ hn1)
  have hcc : (cap = i + d) = False := by simp; omega
  have hid : i + d ≤ n := by omega
  have hidI : (i : Int) + d ≤ n := by omega
  clear hnid
  go_wp2
  go_region_law (refine step_append_run rfl (.tmp 22) (.tmp 25) 89 rfl _ _ (.slice (some ⟨b, 0, none⟩) (i + d) cap) w1 (by simp [Act.eval, Act.put]) (by simp [Act.eval, Act.put]) R1.out ?_)
  all_goals go_wp2_with (refine wpList_clear_run rfl (.tmp 31) 89 rfl _ _ rfl (CL.out _) ?_)
  all_goals (first | exact FIN.out | (go_ret; exact FIN.out))
end Go.Proofs.Ytdjhpldiifdifaa
