/- The law's small functions: some, give. The law's small functions: Valid, the reference's Check, tame. The law's small functions: tame. The law's small functions: longs, nothing, same, awake. The law's small functions: longs, nothing, same, sums. -/
import Derived.Maps.AppendAt
import Derived.Test.YtjhelinbjlahiaaJCs
import Derived.Test.YtjhelinbjlahiaaJOpen
import Derived.Test.YtjhelinbjlahiaaJCd
namespace Go.Proofs.Ytjhelinbjlahiaa
set_option linter.unusedSimpArgs false
set_option linter.unusedVariables false
open Go.RowKit
attribute [local go_sem] Oper.semAt_some
attribute [local go_sem ↓] Go.wp_at_zero Go.wp_at_succ
abbrev RowR (B : Nat) (w : World) (v : Value) (l : List Bd) : Prop := OwnE encBd 3 40 B w v l
abbrev RowC (B : Nat) (w : World) (v : Value) (l : List Bd) : Prop := OwnE encBd 3 77 B w v l
theorem undR : Try.prog.underlying 22 = some (.slice 40) := by kernel_rfl
theorem undC : Try.prog.underlying 30 = some (.slice 77) := by kernel_rfl
theorem infoR : (Try.prog.info? 40).map (fun i => (i.zero, i.size, i.bytes)) = some (some (.agg #[.int .i64 0, .int .i64 0, .int .i64 0]), 3, 24) := by kernel_rfl
theorem infoC : (Try.prog.info? 77).map (fun i => (i.zero, i.size, i.bytes)) = some (some (.agg #[.int .i64 0, .int .i64 0, .int .i64 0]), 3, 24) := by kernel_rfl
/-- What an append may read. -/
def SrcX {α : Type} (enc : α → List Value) (sz : Nat) (w : World) (v : Value) (l : List α) : Prop :=
  (v = .slice none 0 0 ∧ l = []) ∨ ∃ a c, v = .slice (some a) l.length c ∧ l.length ≤ c ∧ ∀ j x, (flatE enc l)[j]? = some x → w.cell? (a.add j) = some x
theorem addr_add (b off j : Nat) : (⟨b, off, none⟩ : Addr).add j = ⟨b, off + j, none⟩ := by unfold Addr.add; split <;> simp_all
section
variable {α : Type} {enc : α → List Value} {sz : Nat}
theorem ArgE.src {w : World} {v : Value} {l : List α} (hlen : ∀ a, (enc a).length = sz) (hsz : 0 < sz) (h : ArgE enc sz w v l) : SrcX enc sz w v l := by
  obtain ⟨hm, p, cap, b, off, hv, hp, hc⟩ := h.reads
  rcases h.form with q | ⟨a, n, c, q, q1, q2⟩
  · rw [q] at hv
    injection hv with e1 e2 e3
    exact .inl ⟨q, List.length_eq_zero_iff.1 e2.symm⟩
  · rw [q] at hv
    injection hv with e1 e2 e3
    subst e2
    refine .inr ⟨a, c, q, q1, fun j x hx => ?_⟩
    have hj : j < l.length * sz := by rw [← flatE_length hlen l]; exact (List.getElem?_eq_some_iff.1 hx).1
    have h0 : 0 < l.length := by
      rcases Nat.eq_zero_or_pos l.length with h | h
      · rw [h] at hj; omega
      · exact h
    obtain ⟨h1, _⟩ := hp h0
    rw [← e1] at h1
    injection h1 with h1
    subst h1
    rw [addr_add]
    have h2 := hc (j / sz) (Nat.div_lt_of_lt_mul (by rw [Nat.mul_comm]; exact hj)) (j % sz) (Nat.mod_lt _ hsz)
    have h3 := flatE_get hlen l (j / sz) (Nat.div_lt_of_lt_mul (by rw [Nat.mul_comm]; exact hj)) (j % sz) (Nat.mod_lt _ hsz)
    have h4 : j / sz * sz + j % sz = j := by rw [Nat.mul_comm]; exact Nat.div_add_mod j sz
    rw [Nat.add_assoc, h4] at h2
    rw [h4] at h3
    rw [h2, ← h3]; exact hx
theorem OwnE.srcx {B : Nat} {e : TypeId} {w : World} {v : Value} {l : List α} (h : OwnE enc sz e B w v l) (hsz : 0 < sz) : SrcX enc sz w v l := by
  rcases h.2 with ⟨h1, h2⟩ | ⟨g, cap, cur, rfl, _, hg, h3, h4, h5, _⟩
  · exact .inl ⟨h1, List.length_eq_zero_iff.1 h2⟩
  · refine .inr ⟨⟨g, 0, none⟩, cap, rfl, h3, fun j x hx => ?_⟩
    have hj : j < l.length * sz := by rw [← h.1]; exact (List.getElem?_eq_some_iff.1 hx).1
    rw [addr_add, Nat.zero_add, World.ownsRow.cellAt h _ hj]
    exact hx
theorem SrcX.take {w : World} {a : Addr} {n c : Nat} {l : List α} (hlen : ∀ a, (enc a).length = sz) (h : SrcX enc sz w (.slice (some a) n c) l) {k : Nat} (hk : k ≤ n) : SrcX enc sz w (.slice (some a) k c) (l.take k) := by
  rcases h with ⟨h1, _⟩ | ⟨a', c', h1, h2, h3⟩
  · cases h1
  · injection h1 with e1 e2 e3
    injection e1 with e1
    subst e1 e2 e3
    have e : (l.take k).length = k := by rw [List.length_take]; omega
    refine .inr ⟨a, c, by rw [e], by omega, fun j x hx => h3 j x ?_⟩
    have hj : j < (l.take k).length * sz := by rw [← flatE_length hlen]; exact (List.getElem?_eq_some_iff.1 hx).1
    have hs : flatE enc l = flatE enc (l.take k) ++ flatE enc (l.drop k) := by rw [← flatE_append, List.take_append_drop]
    rw [hs, List.getElem?_append_left (by rw [flatE_length hlen]; exact hj)]
    exact hx
theorem SrcX.form {w : World} {v : Value} {l : List α} (h : SrcX enc sz w v l) : (v = .slice none 0 0 ∧ l = []) ∨ ∃ a c, v = .slice (some a) l.length c ∧ l.length ≤ c := by
  rcases h with h | ⟨a, c, h1, h2, _⟩
  · exact .inl h
  · exact .inr ⟨a, c, h1, h2⟩
/-- append(own row, what is read ...). -/
theorem own_app {t e ty : TypeId} {z : Value} {by' : Nat} (ht : Try.prog.underlying t = some (.slice e)) (hi : (Try.prog.info? e).map (fun i => (i.zero, i.size, i.bytes)) = some (some z, sz, by')) (hz : z.cells.size = sz) (hsz : 0 < sz)
    (hen : ∀ a, (enc a).length = sz) (hone : ∀ a, ∀ u ∈ enc a, u.oneCell' = true) {B : Nat} {w : World} {v : Value} {l : List α} (h : OwnE enc sz e B w v l) (hB : B ≤ w.heap.size) {u : Value} {m : List α} (hu : SrcX enc sz w u m) (hn : l.length + m.length ≤ maxLen) (hby : (l.length + m.length) * by' ≤ 140737488355328) :
    ∃ v' w', (Builtin.append_ #[t, t] ty #[v, u]).run Try.prog w = .ok v' w' ∧ OwnE enc sz e B w' v' (l ++ m) ∧ Kept (fun k => some k = v.ownBlock) w w' := by
  obtain ⟨i, h1, h2, h3, h4⟩ := info_of hi
  rcases hu with ⟨rfl, rfl⟩ | ⟨a, c, rfl, _, hc⟩
  · exact ⟨v, w, run_append_owned_none (P := Try.prog) (w := w) B t ty e i sz ht h1 v l.length (flatE enc l) h, by rw [List.append_nil]; exact h, Kept.refl _ _⟩
  · obtain ⟨v', w', r1, r2, r3, _, r5⟩ := run_append_own_at w B t ty e i z sz by' ht h1 h2 h3 h4 hz hsz v l.length (flatE enc l) h a m.length c (flatE enc m) (flatE_length hen m)
      hc (fun x hx => by obtain ⟨a, _, ha⟩ := List.mem_flatMap.1 hx; exact hone a x ha) hn hby hB
    refine ⟨v', w', r1, ?_, Kept.of_grown r3⟩
    unfold OwnE
    rw [flatE_append, List.length_append]
    exact r2
end

set_option maxRecDepth 100000 in
set_option maxHeartbeats 4000000 in
theorem some_calls {w : World} {v : Value} {l : List Bd} (hv : SrcX encBd 3 w v l) (m : Nat) (hm : m ≤ 5000) :
    Calls Try.prog 36 #[v, .int .i64 m] w fun e w' => ∃ v', e = .returned v' ∧ RowR w.heap.size w' v' (l.take m) ∧ Below w.heap.size w w' := by
  obtain ⟨R, hR⟩ : ∃ R : Ending → World → Prop, R = fun e w' => ∃ v', e = .returned v' ∧ RowR w.heap.size w' v' (l.take m) ∧ Below w.heap.size w w' := ⟨_, rfl⟩
  rw [← hR]
  have FN := hid (show ∀ v' w', RowR w.heap.size w' v' (l.take m) → Below w.heap.size w w' → R (.returned v') w' from fun v' w' h1 h2 => by rw [hR]; exact ⟨v', rfl, h1, h2⟩)
  clear hR
  have hm0 : (0 : Int) ≤ (m : Int) := by omega
  have fin : ∀ {u : Value}, SrcX encBd 3 w u (l.take m) → ∃ v' w', (Builtin.append_ #[22, 22] 22 #[.slice none 0 0, u]).run Try.prog w = .ok v' w' ∧ R (.returned v') w' := fun hu => by
    have hl : (l.take m).length ≤ 5000 := by rw [List.length_take]; omega
    obtain ⟨v', w', r1, r2, r3⟩ := own_app (ty := 22) undR infoR rfl (by omega) encBd_len encBd_one (OwnE.nil w.heap.size w) (Nat.le_refl _) hu (by unfold maxLen; simp; omega) (by simp; omega)
    exact ⟨v', w', r1, FN.out v' w' (by simpa using r2) (r3.below (Nat.le_refl _) (fun k hk => by cases hk))⟩
  rcases hv.form with ⟨rfl, rfl⟩ | ⟨a, c, rfl, hc⟩
  · obtain ⟨v', w', r1, r2⟩ := fin (u := .slice none 0 0) (.inl ⟨rfl, by simp⟩)
    have R1 := hid r1
    have R2 := hid r2
    have ek : min (0 : Int) (m : Int) = 0 := by omega
    clear fin r1 r2 FN hv
    go_enter Try.func36, Try.ntmps36
    go_wp2_with (at_builtin; refine wpList_append_run rfl (.tmp 6) (.tmp 12) 22 rfl _ _ v' w' rfl rfl R1.out ?_)
    first | exact R2.out | (go_ret; exact R2.out)
  · obtain ⟨n, hn⟩ : ∃ n, n = l.length := ⟨_, rfl⟩
    rw [← hn] at hv hc ⊢
    obtain ⟨k, hk⟩ : ∃ k, k = min n m := ⟨_, rfl⟩
    have e1 : l.take m = l.take k := by
      rw [hk, hn]
      rcases Nat.le_total l.length m with q | q
      · rw [Nat.min_eq_left q, List.take_length, List.take_of_length_le q]
      · rw [Nat.min_eq_right q]
    obtain ⟨v', w', r1, r2⟩ := fin (u := .slice (some a) k c) (by rw [e1]; exact hv.take encBd_len (by omega))
    have R1 := hid r1
    have R2 := hid r2
    have ek : min (n : Int) (m : Int) = (k : Int) := by omega
    have k1 : (k : Int) ≤ (c : Int) := by omega
    have k0 : (0 : Int) ≤ (k : Int) := by omega
    clear fin r1 r2 FN hv e1 hk hn
    go_enter Try.func36, Try.ntmps36
    go_wp2_with (at_builtin; refine wpList_append_run rfl (.tmp 6) (.tmp 12) 22 rfl _ _ v' w' rfl rfl R1.out ?_)
    first | exact R2.out | (go_ret; exact R2.out)

set_option maxRecDepth 100000 in
set_option maxHeartbeats 4000000 in
theorem give_calls {w : World} {v : Value} {l : List Bd} (hv : ReadsE encBd 3 w v l) (hl : l.length ≤ 5000) :
    Calls Try.prog 16 #[v] w fun e w' => ∃ v', e = .returned v' ∧ RowC w.heap.size w' v' l ∧ Below w.heap.size w w' := by
  obtain ⟨R, hR⟩ : ∃ R : Ending → World → Prop, R = fun e w' => ∃ v', e = .returned v' ∧ RowC w.heap.size w' v' l ∧ Below w.heap.size w w' := ⟨_, rfl⟩
  rw [← hR]
  have FN := hid (show ∀ v' w', RowC w.heap.size w' v' l → Below w.heap.size w w' → R (.returned v') w' from fun v' w' h1 h2 => by rw [hR]; exact ⟨v', rfl, h1, h2⟩)
  clear hR
  obtain ⟨hm, p, cap, bb, off, rfl, hp, hc⟩ := hv
  obtain ⟨n, hn⟩ : ∃ n, n = l.length := ⟨_, rfl⟩
  rw [← hn] at hp hm hl ⊢
  have HN := hid hn
  have HP := hid hp
  have HC := hid hc
  clear hn hp hc
  go_enter Try.func16, Try.ntmps16
  go_upto_region 3 with fail
  go_loopg [3, 4] n (fun k s3 s4 wr => ∃ i : Nat, i + k = n ∧ s4 = .int .i64 i ∧ RowC w.heap.size wr s3 (l.take i) ∧ Below w.heap.size w wr)
  case atStart => exact ⟨0, by omega, rfl, OwnE.nil _ _, Below.refl _ _⟩
  case round =>
    obtain ⟨i, hik, rfl, rr, hb⟩ := hrel
    have HIK := hid hik
    have RR := hid rr
    have B := hid hb
    clear hik rr hb
    by_cases hin : i < n
    · have hil : i < l.length := by rw [← HN.out]; exact hin
      obtain ⟨rfl, hbb⟩ := HP.out (by omega)
      have c0 := (B.out.cell (p := ⟨bb, off + i * 3 + 0, none⟩) hbb).trans (HC.out i hil 0 (by omega))
      have c1 := (B.out.cell (p := ⟨bb, off + i * 3 + 1, none⟩) hbb).trans (HC.out i hil 1 (by omega))
      have c2 := (B.out.cell (p := ⟨bb, off + i * 3 + 2, none⟩) hbb).trans (HC.out i hil 2 (by omega))
      simp [encBd] at c0 c1 c2
      have gi : (i : Int) < (n : Int) := by omega
      have gi0 : (0 : Int) ≤ (i : Int) := by omega
      have ht : l.take (i + 1) = l.take i ++ [l[i]] := take_snoc hil
      obtain ⟨b, hx⟩ : ∃ b, b = l[i] := ⟨_, rfl⟩
      rw [← hx] at c0 c1 c2 ht
      obtain ⟨po, co, hvo, hh⟩ := RR.out.form
      rw [show (l.take i).length = i by rw [List.length_take]; omega] at hvo
      subst hvo
      have so : SrcE encBd 3 (wr.alloc (.cells #[.int .i64 b.s, .int .i64 b.p, .int .i64 b.q] 77)) (.slice (some ⟨wr.heap.size, 0, none⟩) 1 1) [b] := SrcE.one (Cells.new wr _ _)
      obtain ⟨v6, w6, r2, r3, k3, _⟩ := own_append (ty := 30) undC infoC rfl (by omega) encBd_len encBd_one (RR.out.alloc (.cells #[.int .i64 b.s, .int .i64 b.p, .int .i64 b.q] 77)) (by have := B.out.size; simp; omega) so (by unfold maxLen; simp; omega) (by simp; omega)
      have R2 := hid r2
      have R6 := hid (show RowC w.heap.size w6 v6 (l.take (i + 1)) by rw [ht]; exact r3)
      have B6 := hid (show Below w.heap.size w w6 from (B.out.alloc B.out.size _).trans (k3.below (by have := B.out.size; simp; omega) (fun k hk => by
        rcases hh with ⟨rfl, _⟩ | ⟨g, rfl, hg, _⟩ <;> cases hk
        exact hg)))
      clear so r2 r3 k3 hx ht hh
      go_wp2_with (at_builtin; refine wpList_append_run rfl (.tmp 11) (.tmp 16) 30 rfl _ _ v6 w6 rfl rfl R2.out ?_)
      go_roundg (n - (i + 1))
      · exact ⟨i + 1, by omega, by go_num, R6.out, B6.out⟩
      · have := HIK.out; omega
    · have hin' : i = n := by have := HIK.out; omega
      subst hin'
      have g1 : decide ((i : Int) < (i : Int)) = false := by simp
      have rr := RR.out
      rw [HN.out, List.take_length] at rr
      have F2 := hid (FN.out _ _ rr B.out)
      clear rr
      go_wp2
      first | exact F2.out | (go_ret; exact F2.out)
end Go.Proofs.Ytjhelinbjlahiaa
namespace Go.Proofs.Ytjhelinbjlahiaa
set_option linter.unusedSimpArgs false
set_option linter.unusedVariables false
open Go.RowKit
attribute [local go_sem] Oper.semAt_some
attribute [local go_sem ↓] Go.wp_at_zero Go.wp_at_succ

set_option maxRecDepth 100000 in
set_option maxHeartbeats 4000000 in
theorem valid_calls (b : Bd) (w : World) : Calls Try.prog 39 #[.agg #[.int .i64 b.s, .int .i64 b.p, .int .i64 b.q]] w fun e w' => e = .returned (.bool (decide b.ok)) ∧ Below w.heap.size w w' := by
  obtain ⟨R, hR⟩ : ∃ R : Ending → World → Prop, R = fun e w' => e = .returned (.bool (decide b.ok)) ∧ Below w.heap.size w w' := ⟨_, rfl⟩
  rw [← hR]
  have FT := hid (show b.ok → R (.returned (.bool true)) (w.alloc (.cells #[.int .i64 b.s, .int .i64 b.p, .int .i64 b.q] 40)) from fun h => by rw [hR, decide_eq_true h]; exact ⟨rfl, (Below.refl _ _).alloc (Nat.le_refl _) _⟩)
  have FF := hid (show ¬ b.ok → R (.returned (.bool false)) (w.alloc (.cells #[.int .i64 b.s, .int .i64 b.p, .int .i64 b.q] 40)) from fun h => by rw [hR, decide_eq_false h]; exact ⟨rfl, (Below.refl _ _).alloc (Nat.le_refl _) _⟩)
  clear hR
  obtain ⟨s, p, q⟩ := b
  simp only at FT FF ⊢
  unfold Bd.ok at FT FF
  simp only at FT FF
  by_cases h1 : s = 1
  · have e1 : (s == 1) = true := by simpa using h1
    by_cases h2 : 1 ≤ p
    · by_cases h3 : p ≤ 1000000
      · by_cases h4 : 1 ≤ q
        · by_cases h5 : q ≤ 1000000000
          · skip
            have F := hid (FT.out (by omega))
            clear FT FF h1
            go_enter Try.func39, Try.ntmps39
            go_wp2
            first | exact F.out | (go_ret; exact F.out)
          · skip
            have F := hid (FF.out (by omega))
            clear FT FF h1
            go_enter Try.func39, Try.ntmps39
            go_wp2
            first | exact F.out | (go_ret; exact F.out)
        · skip
          have F := hid (FF.out (by omega))
          clear FT FF h1
          go_enter Try.func39, Try.ntmps39
          go_wp2
          first | exact F.out | (go_ret; exact F.out)
      · skip
        have F := hid (FF.out (by omega))
        clear FT FF h1
        go_enter Try.func39, Try.ntmps39
        go_wp2
        first | exact F.out | (go_ret; exact F.out)
    · skip
      have F := hid (FF.out (by omega))
      clear FT FF h1
      go_enter Try.func39, Try.ntmps39
      go_wp2
      first | exact F.out | (go_ret; exact F.out)
  · have e1 : (s == 1) = false := by simpa using h1
    by_cases h6 : s = 2
    · have e2 : (s == 2) = true := by simpa using h6
      by_cases h2 : 1 ≤ p
      · by_cases h3 : p ≤ 1000000
        · by_cases h4 : 1 ≤ q
          · by_cases h5 : q ≤ 1000000000
            · skip
              have F := hid (FT.out (by omega))
              clear FT FF h1 h6
              go_enter Try.func39, Try.ntmps39
              go_wp2
              first | exact F.out | (go_ret; exact F.out)
            · skip
              have F := hid (FF.out (by omega))
              clear FT FF h1 h6
              go_enter Try.func39, Try.ntmps39
              go_wp2
              first | exact F.out | (go_ret; exact F.out)
          · skip
            have F := hid (FF.out (by omega))
            clear FT FF h1 h6
            go_enter Try.func39, Try.ntmps39
            go_wp2
            first | exact F.out | (go_ret; exact F.out)
        · skip
          have F := hid (FF.out (by omega))
          clear FT FF h1 h6
          go_enter Try.func39, Try.ntmps39
          go_wp2
          first | exact F.out | (go_ret; exact F.out)
      · skip
        have F := hid (FF.out (by omega))
        clear FT FF h1 h6
        go_enter Try.func39, Try.ntmps39
        go_wp2
        first | exact F.out | (go_ret; exact F.out)
    · have e2 : (s == 2) = false := by simpa using h6
      have F := hid (FF.out (by omega))
      clear FT FF h1 h6
      go_enter Try.func39, Try.ntmps39
      go_wp2
      first | exact F.out | (go_ret; exact F.out)

set_option maxRecDepth 100000 in
set_option maxHeartbeats 4000000 in
theorem rcheck_calls {w : World} {v : Value} {l : List Bd} (hv : ReadsE encBd 3 w v l) :
    Calls Try.prog 37 #[v] w fun e w' => e = .returned (.int .i64 (chk l)) ∧ Below w.heap.size w w' := by
  obtain ⟨hm, p, cap, bb, off, rfl, hp, hc⟩ := hv
  obtain ⟨n, hn⟩ : ∃ n, n = l.length := ⟨_, rfl⟩
  obtain ⟨R, hR⟩ : ∃ R : Ending → World → Prop, R = fun e w' => e = .returned (.int .i64 (chk l)) ∧ Below w.heap.size w w' := ⟨_, rfl⟩
  rw [← hR]
  have HR := hid (show ∀ w' c, c = chk l → Below w.heap.size w w' → R (.returned (.int .i64 c)) w' from fun w' c hc hb => by rw [hR, hc]; exact ⟨rfl, hb⟩)
  rw [← hn] at hp hm ⊢
  have HN := hid hn
  have HP := hid hp
  have HC := hid hc
  have VL := hid (fun b wx => valid_calls b wx)
  clear hR hn hp hc
  by_cases hbig : 4096 < n
  · have g1 : (4096 : Int) < (n : Int) := by omega
    have F := hid (HR.out w 2 (by unfold chk; rw [← HN.out, if_pos hbig]) (Below.refl _ _))
    clear hbig HR
    go_enter Try.func37, Try.ntmps37
    go_wp2
    first | exact F.out | (go_ret; exact F.out)
  · have g1 : ¬ (4096 : Int) < (n : Int) := by omega
    go_enter Try.func37, Try.ntmps37
    go_upto_region 4 with fail
    go_loopg [3] n (fun k s3 wr => ∃ i : Nat, i + k = n ∧ s3 = .int .i64 i ∧ (∀ b ∈ l.take i, b.ok) ∧ Below w.heap.size w wr)
    case atStart => exact ⟨0, by omega, rfl, by simp, Below.refl _ _⟩
    case round =>
      obtain ⟨i, hik, rfl, hok, hb⟩ := hrel
      have HIK := hid hik
      have HOK := hid hok
      have B := hid hb
      clear hik hok hb
      by_cases hin : i < n
      · have hil : i < l.length := by rw [← HN.out]; exact hin
        obtain ⟨rfl, hbb⟩ := HP.out (by omega)
        have c0 := (B.out.cell (p := ⟨bb, off + i * 3 + 0, none⟩) hbb).trans (HC.out i hil 0 (by omega))
        have c1 := (B.out.cell (p := ⟨bb, off + i * 3 + 1, none⟩) hbb).trans (HC.out i hil 1 (by omega))
        have c2 := (B.out.cell (p := ⟨bb, off + i * 3 + 2, none⟩) hbb).trans (HC.out i hil 2 (by omega))
        simp [encBd] at c0 c1 c2
        have gi : (i : Int) < (n : Int) := by omega
        have gi0 : (0 : Int) ≤ (i : Int) := by omega
        have ht : l.take (i + 1) = l.take i ++ [l[i]] := take_snoc hil
        have hmem : l[i] ∈ l := List.getElem_mem hil
        obtain ⟨b, hx⟩ : ∃ b, b = l[i] := ⟨_, rfl⟩
        rw [← hx] at c0 c1 c2 ht hmem
        have V2 := hid (fun wx => VL.out b wx)
        by_cases hbok : b.ok
        · rw [decide_eq_true hbok] at V2
          have NX := hid (show ∀ y ∈ l.take (i + 1), y.ok from fun y hy => by
            rw [ht] at hy
            rcases List.mem_append.1 hy with q | q
            · exact HOK.out y q
            · rw [List.mem_singleton.1 q]; exact hbok)
          clear hx ht hbok hmem
          go_wp2_with fail
          refine (V2.out _).mono ?_
          rintro e w3 ⟨rfl, hb3⟩
          have B3 := hid (B.out.trans (hb3.mono B.out.size))
          clear hb3
          go_wp2
          go_roundg (n - (i + 1))
          · exact ⟨i + 1, by omega, by go_num, NX.out, B3.out⟩
          · have := HIK.out; omega
        · rw [decide_eq_false hbok] at V2
          have F := hid (fun w' hb => HR.out w' 1 (by unfold chk; rw [← HN.out, if_neg hbig, if_neg (fun h => hbok (h b hmem))]) hb)
          clear hx ht hbok hmem HR
          go_wp2_with fail
          refine (V2.out _).mono ?_
          rintro e w3 ⟨rfl, hb3⟩
          have B3 := hid (B.out.trans (hb3.mono B.out.size))
          clear hb3
          go_wp2
          first | exact F.out _ B3.out | (go_ret; exact F.out _ B3.out)
      · have hin' : i = n := by have := HIK.out; omega
        subst hin'
        have g2 : decide ((i : Int) < (i : Int)) = false := by simp
        have F := hid (HR.out wr 0 (by
          have h2 := HOK.out
          rw [HN.out, List.take_length] at h2
          unfold chk; rw [← HN.out, if_neg hbig, if_pos h2]) B.out)
        go_wp2
        first | exact F.out | (go_ret; exact F.out)

/-- A block whose first n elements are the bids of a function. -/
def RowB (w : World) (g cap n : Nat) (f : Nat → Bd) : Prop := ∃ cs, Cells w g cs 40 ∧ cs.size = cap * 3 ∧ n ≤ cap ∧ cap ≤ maxLen ∧ ∀ k, k < n → ∀ c, c < 3 → cs[k * 3 + c]? = (encBd (f k))[c]?
theorem RowB.cell {w : World} {g cap n : Nat} {f : Nat → Bd} (h : RowB w g cap n f) {i : Nat} (hi : i < n) : w.cell? ⟨g, i * 3, none⟩ = some (.int .i64 (f i).s) ∧ w.cell? ⟨g, i * 3 + 1, none⟩ = some (.int .i64 (f i).p) ∧ w.cell? ⟨g, i * 3 + 2, none⟩ = some (.int .i64 (f i).q) := by
  obtain ⟨cs, hc, _, _, _, hz⟩ := h
  refine ⟨?_, ?_, ?_⟩
  · rw [hc.cell]; exact hz i hi 0 (by omega)
  · rw [hc.cell]; exact hz i hi 1 (by omega)
  · rw [hc.cell]; exact hz i hi 2 (by omega)
theorem RowB.froz {w : World} {g cap n : Nat} {f : Nat → Bd} (h : RowB w g cap n f) (i : Nat) : w.frozen? ⟨g, i, none⟩ = false := by
  obtain ⟨cs, hc, _⟩ := h
  exact hc.frozen i
theorem RowB.lt {w : World} {g cap n : Nat} {f : Nat → Bd} (h : RowB w g cap n f) : g < w.heap.size := by
  obtain ⟨cs, hc, _⟩ := h
  exact hc.lt
theorem RowB.kept {X : Nat → Prop} {w w' : World} {g cap n : Nat} {f : Nat → Bd} (h : RowB w g cap n f) (hk : Kept X w w') (hx : ¬ X g) : RowB w' g cap n f := by
  obtain ⟨cs, hc, hz⟩ := h
  exact ⟨cs, hc.kept hk hx, hz⟩
theorem RowB.set {w : World} {g cap n : Nat} {f : Nat → Bd} (h : RowB w g cap n f) {i : Nat} (hi : i < n) (z : Bd) :
    RowB (((w.setCell ⟨g, i * 3, none⟩ (.int .i64 z.s)).setCell ⟨g, i * 3 + 1, none⟩ (.int .i64 z.p)).setCell ⟨g, i * 3 + 2, none⟩ (.int .i64 z.q)) g cap n (fun k => if k = i then z else f k) := by
  obtain ⟨cs, hc, h1, h2, h3, hz⟩ := h
  refine ⟨_, ((hc.set _ _).set _ _).set _ _, by simp [h1], h2, h3, fun k hk c hc4 => ?_⟩
  have hsz : i * 3 + 2 < cs.size := by omega
  have hsk : k * 3 + 2 < cs.size := by omega
  have hz' := hz k hk c hc4
  by_cases e : k = i
  · subst e
    simp only [if_true]
    rcases (show c = 0 ∨ c = 1 ∨ c = 2 by omega) with rfl | rfl | rfl <;> simp [encBd, Array.getElem?_setIfInBounds, hsz, show k * 3 < cs.size by omega, show k * 3 + 1 < cs.size by omega]
  · simp only [if_neg e]
    rw [Array.getElem?_setIfInBounds_ne (by omega), Array.getElem?_setIfInBounds_ne (by omega), Array.getElem?_setIfInBounds_ne (by omega)]
    exact hz'
theorem RowB.of {B : Nat} {w : World} {g n cap : Nat} {l : List Bd} (h : RowR B w (.slice (some ⟨g, 0, none⟩) n cap) l) : RowB w g cap l.length (fun k => l.getD k ⟨0, 0, 0⟩) := by
  obtain ⟨hn, hg, hB, hcell⟩ := OwnE.cellsAt encBd_len h
  subst hn
  rcases h.2 with ⟨h1, h2⟩ | ⟨g', cap', cur, hv, hb, hgc, h3, h4, h5, h6⟩
  · cases h1
  · cases hv
    refine ⟨cur, hgc, h5, h3, h4, fun k hk c hc => ?_⟩
    have := hcell k hk c hc
    rw [(show Cells w g cur 40 from hgc).cell] at this
    rw [this]
    simp [hk]
theorem RowB.own {w : World} {g cap n : Nat} {f : Nat → Bd} (h : RowB w g cap n f) {l : List Bd} (hl : l.length ≤ n) (he : ∀ (k : Nat) (hk : k < l.length), f k = l[k]) {B : Nat} (hB : B ≤ g) : RowR B w (.slice (some ⟨g, 0, none⟩) l.length cap) l := by
  obtain ⟨cs, hc, h1, h2, h3, hz⟩ := h
  have hfl := flatE_length encBd_len l
  refine ⟨hfl, .inr ⟨g, cap, cs, rfl, hB, hc, by omega, h3, h1, ?_⟩⟩
  apply List.ext_getElem?
  intro j
  rw [List.getElem?_take, Array.getElem?_toList]
  by_cases hj : j < l.length * 3
  · rw [if_pos hj]
    have h4 := hz (j / 3) (by omega) (j % 3) (by omega)
    rw [show j / 3 * 3 + j % 3 = j by omega, he (j / 3) (by omega)] at h4
    have h5 := flatE_get encBd_len l (j / 3) (by omega) (j % 3) (by omega)
    rw [show j / 3 * 3 + j % 3 = j by omega] at h5
    rw [h4, h5]
  · rw [if_neg hj, List.getElem?_eq_none (by rw [hfl]; omega)]
end Go.Proofs.Ytjhelinbjlahiaa
namespace Go.Proofs.Ytjhelinbjlahiaa
set_option linter.unusedSimpArgs false
set_option linter.unusedVariables false
open Go.RowKit
attribute [local go_sem] Oper.semAt_some
attribute [local go_sem ↓] Go.wp_at_zero Go.wp_at_succ
def um (x k : Int) : Int := IntKind.u64.wrap x % k
theorem u64_range (x : Int) : 0 ≤ IntKind.u64.wrap x ∧ IntKind.u64.wrap x < 18446744073709551616 := by
  unfold IntKind.wrap
  simp [IntKind.bits, IntKind.signed]
  omega
theorem um_range (x : Int) {k : Int} (hk : 0 < k) : 0 ≤ um x k ∧ um x k < k := ⟨Int.emod_nonneg _ (by omega), Int.emod_lt_of_pos _ hk⟩
theorem um_tmod (x k : Int) : (IntKind.u64.wrap x).tmod k = um x k := Int.tmod_eq_emod_of_nonneg (u64_range x).1
/-- A valid bid of any one. -/
def fixB (b : Bd) : Bd := if b.ok then b else ⟨1 + um b.s 2, 1 + um b.p 100, 1 + um b.q 100⟩
theorem fixB_ok (b : Bd) : (fixB b).ok := by
  unfold fixB
  split
  · assumption
  · have h1 := um_range b.s (k := 2) (by omega)
    have h2 := um_range b.p (k := 100) (by omega)
    have h3 := um_range b.q (k := 100) (by omega)
    unfold Bd.ok
    simp only
    omega
/-- The first bids, made valid. -/
def tameL (m : Nat) (l : List Bd) : List Bd := (l.take m).map fixB
theorem tameL_ok (m : Nat) (l : List Bd) : ∀ b ∈ tameL m l, b.ok := fun b hb => by
  obtain ⟨c, _, rfl⟩ := List.mem_map.1 hb
  exact fixB_ok c
theorem tameL_len (m : Nat) (l : List Bd) : (tameL m l).length ≤ m := by unfold tameL; rw [List.length_map, List.length_take]; omega

set_option maxRecDepth 100000 in
set_option maxHeartbeats 4000000 in
theorem tame_calls {w : World} {v : Value} {l : List Bd} (hv : SrcX encBd 3 w v l) (m : Nat) (hm : m ≤ 5000) :
    Calls Try.prog 14 #[v, .int .i64 m] w fun e w' => ∃ v', e = .returned v' ∧ RowR w.heap.size w' v' (tameL m l) ∧ Below w.heap.size w w' := by
  obtain ⟨R, hR⟩ : ∃ R : Ending → World → Prop, R = fun e w' => ∃ v', e = .returned v' ∧ RowR w.heap.size w' v' (tameL m l) ∧ Below w.heap.size w w' := ⟨_, rfl⟩
  rw [← hR]
  have FN := hid (show ∀ v' w', RowR w.heap.size w' v' (tameL m l) → Below w.heap.size w w' → R (.returned v') w' from fun v' w' h1 h2 => by rw [hR]; exact ⟨v', rfl, h1, h2⟩)
  clear hR
  have SM := hid (some_calls hv m hm)
  have VL := hid (fun b wx => valid_calls b wx)
  clear hv
  go_enter Try.func14, Try.ntmps14
  go_wp2_with fail
  refine SM.out.mono ?_
  rintro e w2 ⟨v2, rfl, hr2, hb2⟩
  have B2 := hid hb2
  obtain ⟨p, c, hvf, hh⟩ := hr2.form
  unfold tameL at FN
  obtain ⟨L, hL⟩ : ∃ L, L = l.take m := ⟨_, rfl⟩
  have hLm : L.length ≤ 5000 := by rw [hL, List.length_take]; omega
  rw [← hL] at FN hvf hh hr2
  clear hL hb2 SM
  obtain ⟨n, hn⟩ : ∃ n, n = L.length := ⟨_, rfl⟩
  rw [← hn] at hvf hLm
  subst hvf
  rcases hh with ⟨rfl, h0⟩ | ⟨g, rfl, hg, hgl⟩
  · subst h0
    have hn0 : n = 0 := by rw [hn]; rfl
    subst hn0
    have F := hid (FN.out _ w2 hr2 B2.out)
    clear hn FN
    go_upto_region 3 with fail
    go_loopg [6] 0 (fun k s6 wr => s6 = .int .i64 0 ∧ wr = w2)
    case atStart => exact ⟨rfl, rfl⟩
    case round =>
      obtain ⟨rfl, rfl⟩ := hrel
      go_wp2
      first | exact F.out | (go_ret; exact F.out)
  · have R0 := hid (RowB.of hr2)
    rw [← hn] at R0
    have HN := hid hn
    clear hr2 hn
    go_upto_region 3 with fail
    go_loopg [6] n (fun k s6 wr => ∃ (i : Nat) (f : Nat → Bd), i + k = n ∧ s6 = .int .i64 i ∧ RowB wr g c n f ∧ (∀ j, f j = if j < i then fixB (L.getD j ⟨0, 0, 0⟩) else L.getD j ⟨0, 0, 0⟩) ∧ Below w.heap.size w wr)
    case atStart => exact ⟨0, _, by omega, rfl, R0.out, fun j => by simp, B2.out⟩
    case round =>
      obtain ⟨i, f, hik, rfl, rr, hf, hb⟩ := hrel
      have HIK := hid hik
      have RR := hid rr
      have HF := hid hf
      have B := hid hb
      clear hik rr hf hb R0 B2
      by_cases hin : i < n
      · obtain ⟨c0, c1, c2⟩ := RR.out.cell hin
        have f0 := RR.out.froz (i * 3)
        have f1 := RR.out.froz (i * 3 + 1)
        have f2 := RR.out.froz (i * 3 + 2)
        have lg := RR.out.lt
        have gi : (i : Int) < (n : Int) := by omega
        have gi0 : (0 : Int) ≤ (i : Int) := by omega
        have hfi := HF.out i
        rw [if_neg (by omega)] at hfi
        obtain ⟨b, hx⟩ : ∃ b, b = f i := ⟨_, rfl⟩
        rw [← hx] at c0 c1 c2 hfi
        obtain ⟨wb, hwb⟩ : ∃ wb, wb = wr.alloc (.cells #[.int .i64 b.s, .int .i64 b.p, .int .i64 b.q] 40) := ⟨_, rfl⟩
        have bb : Below wr.heap.size wr wb := by rw [hwb]; exact (Below.refl _ _).alloc (Nat.le_refl _) _
        have cb : Cells wb wr.heap.size #[.int .i64 b.s, .int .i64 b.p, .int .i64 b.q] 40 := by rw [hwb]; exact Cells.new wr _ _
        have rb := RR.out.kept (Kept.of_below (X := fun _ => False) bb) id
        have k0 : wb.cell? ⟨wr.heap.size, 0, none⟩ = some (.int .i64 b.s) := by rw [cb.cell]; rfl
        have k1 : wb.cell? ⟨wr.heap.size, 1, none⟩ = some (.int .i64 b.p) := by rw [cb.cell]; rfl
        have k2 : wb.cell? ⟨wr.heap.size, 2, none⟩ = some (.int .i64 b.q) := by rw [cb.cell]; rfl
        have hlb := cb.lt
        have V2 := hid (fun wx => VL.out b wx)
        have NX := hid (show ∀ z w5, z = fixB b → RowB w5 g c n f → Below w.heap.size w w5 → ∃ f', RowB (((w5.setCell ⟨g, i * 3, none⟩ (.int .i64 z.s)).setCell ⟨g, i * 3 + 1, none⟩ (.int .i64 z.p)).setCell ⟨g, i * 3 + 2, none⟩ (.int .i64 z.q)) g c n f' ∧ (∀ j, f' j = if j < i + 1 then fixB (L.getD j ⟨0, 0, 0⟩) else L.getD j ⟨0, 0, 0⟩) ∧ Below w.heap.size w (((w5.setCell ⟨g, i * 3, none⟩ (.int .i64 z.s)).setCell ⟨g, i * 3 + 1, none⟩ (.int .i64 z.p)).setCell ⟨g, i * 3 + 2, none⟩ (.int .i64 z.q)) from fun z w5 hz h1 h2 => by
          refine ⟨_, h1.set hin z, fun j => ?_, h2.trans ((((set_kept w5 g (i * 3) _).trans (set_kept _ _ _ _) (fun _ _ e => e)).trans (set_kept _ _ _ _) (fun _ _ e => e)).below h2.size (fun k hk => by omega))⟩
          by_cases e : j = i
          · subst e; rw [if_pos rfl, if_pos (by omega), hz, hfi]
          · rw [if_neg e, HF.out j]
            by_cases q : j < i
            · rw [if_pos q, if_pos (by omega)]
            · rw [if_neg q, if_neg (by omega)])
        have BB := hid (B.out.trans (bb.mono B.out.size))
        have RB := hid rb
        have CB := hid cb
        have HWB := hid hwb
        clear hx hfi hwb bb cb rb
        by_cases hbok : b.ok
        · rw [decide_eq_true hbok] at V2
          have N2 := hid (fun w5 h1 h2 => NX.out b w5 (by unfold fixB; rw [if_pos hbok]) h1 h2)
          clear hbok NX
          go_upto_region 6 with fail
          rw [← HWB.out]
          go_wp2_with fail
          refine (V2.out _).mono ?_
          rintro e w3 ⟨rfl, hb3⟩
          obtain ⟨f', n1, n2, n3⟩ := N2.out w3 (RB.out.kept (Kept.of_below (X := fun _ => False) hb3) id) (BB.out.trans (hb3.mono BB.out.size))
          have c3 := CB.out.below hb3 hlb
          have y0 : w3.cell? ⟨wr.heap.size, 0, none⟩ = some (.int .i64 b.s) := by rw [c3.cell]; rfl
          have y1 : w3.cell? ⟨wr.heap.size, 1, none⟩ = some (.int .i64 b.p) := by rw [c3.cell]; rfl
          have y2 : w3.cell? ⟨wr.heap.size, 2, none⟩ = some (.int .i64 b.q) := by rw [c3.cell]; rfl
          have fz0 := c3.frozen 0
          have fz1 := c3.frozen 1
          have fz2 := c3.frozen 2
          have r3 := RB.out.kept (Kept.of_below (X := fun _ => False) hb3) id
          obtain ⟨x0, x1, x2⟩ := r3.cell hin
          have z0 := r3.froz (i * 3)
          have z1 := r3.froz (i * 3 + 1)
          have z2 := r3.froz (i * 3 + 2)
          have zl := r3.lt
          have yl := c3.lt
          obtain ⟨bi, hbi⟩ : ∃ bi, bi = f i := ⟨_, rfl⟩
          rw [← hbi] at x0 x1 x2
          have N1 := hid n1
          have N2' := hid n2
          have N3 := hid n3
          clear n1 n2 n3 N2 c3 r3 hb3 k0 k1 k2 c0 c1 c2 f0 f1 f2 hbi
          go_wp2
          go_roundg (n - (i + 1))
          · exact ⟨i + 1, f', by omega, by go_num, N1.out, N2'.out, N3.out⟩
          · have := HIK.out; omega
        · rw [decide_eq_false hbok] at V2
          have N2 := hid (fun w5 h1 h2 => NX.out ⟨1 + um b.s 2, 1 + um b.p 100, 1 + um b.q 100⟩ w5 (by unfold fixB; rw [if_neg hbok]) h1 h2)
          clear hbok NX
          have u1 := um_range b.s (k := 2) (by omega)
          have u2 := um_range b.p (k := 100) (by omega)
          have u3 := um_range b.q (k := 100) (by omega)
          have t1 := um_tmod b.s 2
          have t2 := um_tmod b.p 100
          have t3 := um_tmod b.q 100
          go_upto_region 6 with fail
          rw [← HWB.out]
          go_wp2_with fail
          refine (V2.out _).mono ?_
          rintro e w3 ⟨rfl, hb3⟩
          have c3 := CB.out.below hb3 hlb
          have y0 : w3.cell? ⟨wr.heap.size, 0, none⟩ = some (.int .i64 b.s) := by rw [c3.cell]; rfl
          have y1 : w3.cell? ⟨wr.heap.size, 1, none⟩ = some (.int .i64 b.p) := by rw [c3.cell]; rfl
          have y2 : w3.cell? ⟨wr.heap.size, 2, none⟩ = some (.int .i64 b.q) := by rw [c3.cell]; rfl
          have fz0 := c3.frozen 0
          have fz1 := c3.frozen 1
          have fz2 := c3.frozen 2
          have r3 := RB.out.kept (Kept.of_below (X := fun _ => False) hb3) id
          obtain ⟨x0, x1, x2⟩ := r3.cell hin
          have z0 := r3.froz (i * 3)
          have z1 := r3.froz (i * 3 + 1)
          have z2 := r3.froz (i * 3 + 2)
          have zl := r3.lt
          have yl := c3.lt
          obtain ⟨bi, hbi⟩ : ∃ bi, bi = f i := ⟨_, rfl⟩
          rw [← hbi] at x0 x1 x2
          have bk : Kept (fun k => k = wr.heap.size) w3 (((w3.setCell ⟨wr.heap.size, 0, none⟩ (.int .i64 (1 + um b.s 2))).setCell ⟨wr.heap.size, 1, none⟩ (.int .i64 (1 + um b.p 100))).setCell ⟨wr.heap.size, 2, none⟩ (.int .i64 (1 + um b.q 100))) := ((set_kept w3 wr.heap.size 0 _).trans (set_kept _ _ _ _) (fun _ _ e => e)).trans (set_kept _ _ _ _) (fun _ _ e => e)
          have hbw := B.out.size
          obtain ⟨f', n1, n2, n3⟩ := N2.out _ ((RB.out.kept (Kept.of_below (X := fun _ => False) hb3) id).kept bk (by omega)) ((BB.out.trans (hb3.mono BB.out.size)).trans (bk.below (by have := hb3.size; have := BB.out.size; omega) (fun k hk => by omega)))
          have N1 := hid n1
          have N2' := hid n2
          have N3 := hid n3
          clear n1 n2 n3 bk
          have w1 : IntKind.i64.wrap (um b.s 2) = um b.s 2 := IntWalk.i64_in _ (by omega)
          have w2 : IntKind.i64.wrap (um b.p 100) = um b.p 100 := IntWalk.i64_in _ (by omega)
          have w4 : IntKind.i64.wrap (um b.q 100) = um b.q 100 := IntWalk.i64_in _ (by omega)
          have w5 : IntKind.i64.wrap (1 + um b.s 2) = 1 + um b.s 2 := IntWalk.i64_in _ (by omega)
          have w6 : IntKind.i64.wrap (1 + um b.p 100) = 1 + um b.p 100 := IntWalk.i64_in _ (by omega)
          have w7 : IntKind.i64.wrap (1 + um b.q 100) = 1 + um b.q 100 := IntWalk.i64_in _ (by omega)
          clear c3 r3 hb3 k0 k1 k2 c0 c1 c2 f0 f1 f2 hbi
          go_wp2
          go_roundg (n - (i + 1))
          · exact ⟨i + 1, f', by omega, by go_num, N1.out, N2'.out, N3.out⟩
          · have := HIK.out; omega
      · have hin' : i = n := by have := HIK.out; omega
        subst hin'
        have g2 : decide ((i : Int) < (i : Int)) = false := by simp
        have F := hid (FN.out (.slice (some ⟨g, 0, none⟩) i c) wr (by
          have h1 := RR.out.own (l := L.map fixB) (by rw [List.length_map, ← HN.out]; exact Nat.le_refl _) (fun k hk => by
            have hk' : k < L.length := by simpa using hk
            rw [HF.out k, if_pos (by rw [HN.out]; exact hk')]
            simp [hk']) hg
          rw [List.length_map, ← HN.out] at h1
          exact h1) B.out)
        go_wp2
        first | exact F.out | (go_ret; exact F.out)
end Go.Proofs.Ytjhelinbjlahiaa
namespace Go.Proofs.Ytjhelinbjlahiaa
set_option linter.unusedSimpArgs false
set_option linter.unusedVariables false
open Go.RowKit
attribute [local go_sem] Oper.semAt_some
attribute [local go_sem ↓] Go.wp_at_zero Go.wp_at_succ
def bidsA : List Bd := [⟨1, 52, 10⟩, ⟨1, 50, 5⟩, ⟨2, 49, 8⟩, ⟨2, 51, 4⟩]
theorem awake_starts : starts bidsA = [1, 49, 51, 53] := by
  obtain ⟨h1, h2⟩ := starts_spec bidsA
  refine inc_unique h1 (by decide) fun x => ?_
  rw [h2]
  simp [bidsA, cut]
  omega
theorem awake_zones : zonesL bidsA = [⟨1, 48, 15, 0⟩, ⟨49, 50, 15, 8⟩, ⟨51, 52, 10, 12⟩, ⟨53, 1000000, 0, 12⟩] := by
  unfold zonesL
  rw [awake_starts]
  decide
theorem awake_price : priceZ (zonesL bidsA) 50 = 51 := by rw [awake_zones]; decide
theorem awake_fills : fillsL bidsA 51 10 1 = [10, 0, 8, 2] := by decide +kernel
theorem awake_clear : clearF bidsA 50 1 = ⟨51, 10, -2, [10, 0, 8, 2], 0⟩ := by
  unfold clearF
  rw [if_neg (by decide), if_pos ⟨by decide, .inl rfl⟩, awake_price, if_neg (by decide)]
  unfold clrF
  have h1 : dem bidsA 51 = 10 := by decide
  have h2 : sup bidsA 51 = 12 := by decide
  rw [h1, h2, if_neg (by decide)]
  have h3 : min (10 : Int) 12 = 10 := by decide
  rw [h3, awake_fills]
  rfl

set_option maxRecDepth 100000 in
set_option maxHeartbeats 4000000 in
theorem awake_calls (w : World) : Calls Try.prog 18 #[] w fun e w' => e = .returned (.bool true) ∧ Below w.heap.size w w' := by
  obtain ⟨R, hR⟩ : ∃ R : Ending → World → Prop, R = fun e w' => e = .returned (.bool true) ∧ Below w.heap.size w w' := ⟨_, rfl⟩
  rw [← hR]
  have FN := hid (show ∀ w', Below w.heap.size w w' → R (.returned (.bool true)) w' from fun w' h => by rw [hR]; exact ⟨rfl, h⟩)
  clear hR
  obtain ⟨w1, hw1⟩ : ∃ w1, w1 = w.alloc (.cells #[.int .i64 1, .int .i64 52, .int .i64 10, .int .i64 1, .int .i64 50, .int .i64 5, .int .i64 2, .int .i64 49, .int .i64 8, .int .i64 2, .int .i64 51, .int .i64 4] 77) := ⟨_, rfl⟩
  have c1 : Cells w1 w.heap.size #[.int .i64 1, .int .i64 52, .int .i64 10, .int .i64 1, .int .i64 50, .int .i64 5, .int .i64 2, .int .i64 49, .int .i64 8, .int .i64 2, .int .i64 51, .int .i64 4] 77 := by rw [hw1]; exact Cells.new w _ _
  have b1 : Below w.heap.size w w1 := by rw [hw1]; exact (Below.refl _ _).alloc (Nat.le_refl _) _
  have rd : ReadsE encBd 3 w1 (.slice (some ⟨w.heap.size, 0, none⟩) 4 4) bidsA := by
    refine ⟨by decide, some ⟨w.heap.size, 0, none⟩, 4, w.heap.size, 0, rfl, fun _ => ⟨rfl, c1.lt⟩, fun k hk j hj => ?_⟩
    have hk4 : k < 4 := hk
    rw [c1.cell]
    rcases (show k = 0 ∨ k = 1 ∨ k = 2 ∨ k = 3 by omega) with rfl | rfl | rfl | rfl <;> rcases (show j = 0 ∨ j = 1 ∨ j = 2 by omega) with rfl | rfl | rfl <;> rfl
  have CL := hid (clear_calls rd 50 1)
  rw [awake_clear] at CL
  have B1 := hid b1
  have HW1 := hid hw1
  clear hw1 c1 b1 rd
  go_enter Try.func18, Try.ntmps18
  go_wp2_with fail
  rw [← HW1.out]
  refine CL.out.mono ?_
  rintro e w2 ⟨⟨vf, rfl, hr⟩, hb⟩
  have B2 := hid (B1.out.trans (hb.mono B1.out.size))
  obtain ⟨p, c, hv, hh⟩ := hr.form
  rcases hh with ⟨_, h0⟩ | ⟨g, rfl, hg, hgl⟩
  · cases h0
  subst hv
  obtain ⟨_, _, _, hcell⟩ := OwnE.cellsAt encI_len hr
  have x3 : w2.cell? ⟨g, 3, none⟩ = some (.int .i64 2) := hcell 3 (by show 3 < 4; omega) 0 (by omega)
  clear hcell hr hb
  have x4 : ([10, 0, 8, 2] : List Int).length = 4 := rfl
  obtain ⟨n, hn⟩ : ∃ n, n = ([10, 0, 8, 2] : List Int).length := ⟨_, rfl⟩
  rw [x4]
  clear hn x4
  have F2 := hid (FN.out (w2.alloc (.cells #[.int .i64 51, .int .i64 10, .int .i64 (-2), .slice (some ⟨g, 0, none⟩) 4 c] 26)) (B2.out.alloc B2.out.size _))
  go_wp2
  first | exact F2.out | (go_ret; exact F2.out)
end Go.Proofs.Ytjhelinbjlahiaa
namespace Go.Proofs.Ytjhelinbjlahiaa
set_option linter.unusedSimpArgs false
set_option linter.unusedVariables false
open Go.RowKit
attribute [local go_sem] Oper.semAt_some
attribute [local go_sem ↓] Go.wp_at_zero Go.wp_at_succ

set_option maxRecDepth 100000 in
set_option maxHeartbeats 4000000 in
/-- Two rows of the same numbers. -/
theorem longs_calls {w : World} {v v' : Value} {l : List Int} (hv : ReadsE encI 1 w v l) (hv' : ReadsE encI 1 w v' l) :
    Calls Try.prog 29 #[v, v'] w fun e w' => e = .returned (.bool true) ∧ Below w.heap.size w w' := by
  obtain ⟨hm, p, cap, bb, off, rfl, hp, hc⟩ := hv
  obtain ⟨_, p2, cap2, b2, off2, rfl, hp2, hc2⟩ := hv'
  obtain ⟨n, hn⟩ : ∃ n, n = l.length := ⟨_, rfl⟩
  obtain ⟨R, hR⟩ : ∃ R : Ending → World → Prop, R = fun e w' => e = .returned (.bool true) ∧ Below w.heap.size w w' := ⟨_, rfl⟩
  rw [← hR]
  have FN := hid (show ∀ w', Below w.heap.size w w' → R (.returned (.bool true)) w' from fun w' h => by rw [hR]; exact ⟨rfl, h⟩)
  rw [← hn] at hp hp2 hm ⊢
  have HN := hid hn
  have HP := hid hp
  have HC := hid hc
  have HP2 := hid hp2
  have HC2 := hid hc2
  have g0 : ((n : Int) != (n : Int)) = false := by simp
  clear hR hn hp hc hp2 hc2
  go_enter Try.func29, Try.ntmps29
  go_upto_region 4 with fail
  go_loopg [5] n (fun k s5 wr => ∃ i : Nat, i + k = n ∧ s5 = .int .i64 i ∧ Below w.heap.size w wr)
  case atStart => exact ⟨0, by omega, rfl, Below.refl _ _⟩
  case round =>
    obtain ⟨i, hik, rfl, hb⟩ := hrel
    have HIK := hid hik
    have B := hid hb
    clear hik hb
    by_cases hin : i < n
    · have hil : i < l.length := by rw [← HN.out]; exact hin
      obtain ⟨rfl, hbb⟩ := HP.out (by omega)
      obtain ⟨rfl, hbb2⟩ := HP2.out (by omega)
      have c0 := (B.out.cell (p := ⟨bb, off + i * 1 + 0, none⟩) hbb).trans (HC.out i hil 0 (by omega))
      have c1 := (B.out.cell (p := ⟨b2, off2 + i * 1 + 0, none⟩) hbb2).trans (HC2.out i hil 0 (by omega))
      simp [encI] at c0 c1
      obtain ⟨x, hx⟩ : ∃ x, x = l[i] := ⟨_, rfl⟩
      rw [← hx] at c0 c1
      have gi : (i : Int) < (n : Int) := by omega
      have gi0 : (0 : Int) ≤ (i : Int) := by omega
      have gx : (x != x) = false := by simp
      clear hx
      go_upto_region 6 with fail
      go_region
      all_goals go_wp2
      all_goals (
        go_roundg (n - (i + 1))
        · exact ⟨i + 1, by omega, by go_num, B.out.drew⟩
        · have := HIK.out; omega)
    · have hin' : i = n := by have := HIK.out; omega
      subst hin'
      have g2 : decide ((i : Int) < (i : Int)) = false := by simp
      have F := hid (FN.out wr B.out)
      go_wp2
      first | exact F.out | (go_ret; exact F.out)

set_option maxRecDepth 100000 in
set_option maxHeartbeats 4000000 in
/-- The result of an error. -/
theorem nothing_calls (p : Option Addr) (c : Nat) (w : World) :
    Calls Try.prog 17 #[.agg #[.int .i64 0, .int .i64 0, .int .i64 0, .slice p 0 c]] w fun e w' => e = .returned (.bool true) ∧ Below w.heap.size w w' := by
  obtain ⟨R, hR⟩ : ∃ R : Ending → World → Prop, R = fun e w' => e = .returned (.bool true) ∧ Below w.heap.size w w' := ⟨_, rfl⟩
  rw [← hR]
  have F := hid (show R (.returned (.bool true)) (w.alloc (.cells #[.int .i64 0, .int .i64 0, .int .i64 0, .slice p 0 c] 26)) by rw [hR]; exact ⟨rfl, (Below.refl _ _).alloc (Nat.le_refl _) _⟩)
  clear hR
  go_enter Try.func17, Try.ntmps17
  go_wp2
  first | exact F.out | (go_ret; exact F.out)

set_option maxRecDepth 100000 in
set_option maxHeartbeats 4000000 in
/-- Two results of the same content. -/
theorem same_calls {w : World} {p p' : Option Addr} {n c c' : Nat} {l : List Int} (a b d : Int) (hv : ReadsE encI 1 w (.slice p n c) l) (hv' : ReadsE encI 1 w (.slice p' n c') l) :
    Calls Try.prog 23 #[.agg #[.int .i64 a, .int .i64 b, .int .i64 d, .slice p n c], .agg #[.int .i64 a, .int .i64 b, .int .i64 d, .slice p' n c']] w fun e w' => e = .returned (.bool true) ∧ Below w.heap.size w w' := by
  obtain ⟨R, hR⟩ : ∃ R : Ending → World → Prop, R = fun e w' => e = .returned (.bool true) ∧ Below w.heap.size w w' := ⟨_, rfl⟩
  rw [← hR]
  obtain ⟨w1, hw1⟩ : ∃ w1, w1 = (w.alloc (.cells #[.int .i64 a, .int .i64 b, .int .i64 d, .slice p n c] 26)).alloc (.cells #[.int .i64 a, .int .i64 b, .int .i64 d, .slice p' n c'] 46) := ⟨_, rfl⟩
  have b1 : Below w.heap.size w w1 := by rw [hw1]; exact ((Below.refl _ _).alloc (Nat.le_refl _) _).alloc (by simp) _
  have LG := hid (longs_calls (hv.below b1) (hv'.below b1))
  have F := hid (show ∀ w', Below w1.heap.size w1 w' → R (.returned (.bool true)) w' from fun w' h => by rw [hR]; exact ⟨rfl, b1.trans (h.mono b1.size)⟩)
  have HW := hid hw1
  have ga : (a == a) = true := by simp
  have gb : (b == b) = true := by simp
  have gd : (d == d) = true := by simp
  clear hR hv hv' b1 hw1
  go_enter Try.func23, Try.ntmps23
  go_wp2_with fail
  rw [← HW.out]
  refine LG.out.mono ?_
  rintro e w2 ⟨rfl, hb⟩
  have F2 := hid (F.out w2 hb)
  clear hb
  go_wp2
  first | exact F2.out | (go_ret; exact F2.out)

/-- The fills of the buyers, and of the sellers. -/
def sumB : List Bd → List Int → Int
  | b :: l, x :: f => (if b.s = 1 then x else 0) + sumB l f
  | _, _ => 0
def sumS : List Bd → List Int → Int
  | b :: l, x :: f => (if b.s = 1 then 0 else x) + sumS l f
  | _, _ => 0
theorem sumB_snoc : ∀ {l : List Bd} {f : List Int} (b : Bd) (x : Int), l.length = f.length → sumB (l ++ [b]) (f ++ [x]) = sumB l f + if b.s = 1 then x else 0
  | [], [], b, x, _ => by simp [sumB]
  | c :: l, y :: f, b, x, h => by
    simp only [List.cons_append, sumB]
    rw [sumB_snoc b x (by simpa using h)]; omega
theorem sumS_snoc : ∀ {l : List Bd} {f : List Int} (b : Bd) (x : Int), l.length = f.length → sumS (l ++ [b]) (f ++ [x]) = sumS l f + if b.s = 1 then 0 else x
  | [], [], b, x, _ => by simp [sumS]
  | c :: l, y :: f, b, x, h => by
    simp only [List.cons_append, sumS]
    rw [sumS_snoc b x (by simpa using h)]; omega
theorem sumBS_bound : ∀ {l : List Bd} {f : List Int}, (∀ x ∈ f, 0 ≤ x ∧ x ≤ 1000000000) → (0 ≤ sumB l f ∧ sumB l f ≤ 1000000000 * (f.length : Int)) ∧ (0 ≤ sumS l f ∧ sumS l f ≤ 1000000000 * (f.length : Int))
  | [], f, _ => by simp only [sumB, sumS]; omega
  | b :: l, [], _ => by simp [sumB, sumS]
  | b :: l, x :: f, h => by
    have := sumBS_bound (l := l) (f := f) fun y hy => h y (List.mem_cons_of_mem _ hy)
    have := h x List.mem_cons_self
    simp only [sumB, sumS, List.length_cons]
    split <;> omega

set_option maxRecDepth 100000 in
set_option maxHeartbeats 4000000 in
theorem sums2_calls {w : World} {v v' : Value} {l : List Bd} {f : List Int} (hv : ReadsE encBd 3 w v l) (hv' : ReadsE encI 1 w v' f) (hlf : l.length = f.length) (hl : l.length ≤ 5000) (hf : ∀ x ∈ f, 0 ≤ x ∧ x ≤ 1000000000) :
    Calls Try.prog 20 #[v, v'] w fun e w' => e = .returned (.tuple #[.int .i64 (sumB l f), .int .i64 (sumS l f)]) ∧ Below w.heap.size w w' := by
  obtain ⟨hm, p, cap, bb, off, rfl, hp, hc⟩ := hv
  obtain ⟨_, p2, cap2, b2, off2, rfl, hp2, hc2⟩ := hv'
  obtain ⟨n, hn⟩ : ∃ n, n = l.length := ⟨_, rfl⟩
  obtain ⟨R, hR⟩ : ∃ R : Ending → World → Prop, R = fun e w' => e = .returned (.tuple #[.int .i64 (sumB l f), .int .i64 (sumS l f)]) ∧ Below w.heap.size w w' := ⟨_, rfl⟩
  rw [← hR]
  have FN := hid (show ∀ w', Below w.heap.size w w' → R (.returned (.tuple #[.int .i64 (sumB l f), .int .i64 (sumS l f)])) w' from fun w' h => by rw [hR]; exact ⟨rfl, h⟩)
  rw [← hlf] at hp2 ⊢
  rw [← hn] at hp hp2 hm hl ⊢
  have HN := hid hn
  have HP := hid hp
  have HC := hid hc
  have HP2 := hid hp2
  have HC2 := hid hc2
  have HLF := hid hlf
  have HF := hid hf
  clear hR hn hp hc hp2 hc2 hlf hf
  go_enter Try.func20, Try.ntmps20
  go_upto_region 3 with fail
  go_loopg [6, 7, 8] n (fun k s6 s7 s8 wr => ∃ i : Nat, i + k = n ∧ s8 = .int .i64 i ∧ s6 = .int .i64 (sumB (l.take i) (f.take i)) ∧ s7 = .int .i64 (sumS (l.take i) (f.take i)) ∧ wr = w)
  case atStart => exact ⟨0, by omega, rfl, rfl, rfl, rfl⟩
  case round =>
    obtain ⟨i, hik, rfl, rfl, rfl, rfl⟩ := hrel
    have HIK := hid hik
    have hbd := sumBS_bound (l := l.take i) (f := f.take i) (fun y hy => HF.out y (List.mem_of_mem_take hy))
    rw [List.length_take] at hbd
    have hfl := HLF.out
    clear hik
    by_cases hin : i < n
    · have hil : i < l.length := by rw [← HN.out]; exact hin
      have hif : i < f.length := by rw [← hfl]; exact hil
      obtain ⟨rfl, hbb⟩ := HP.out (by omega)
      obtain ⟨rfl, hbb2⟩ := HP2.out (by omega)
      have c0 := HC.out i hil 0 (by omega)
      have c1 := HC2.out i hif 0 (by omega)
      simp [encBd] at c0
      simp [encI] at c1
      have hxb := HF.out f[i] (List.getElem_mem hif)
      have SB := hid (show sumB (l.take (i + 1)) (f.take (i + 1)) = sumB (l.take i) (f.take i) + if l[i].s = 1 then f[i] else 0 by rw [take_snoc hil, take_snoc hif, sumB_snoc _ _ (by simp; omega)])
      have SS := hid (show sumS (l.take (i + 1)) (f.take (i + 1)) = sumS (l.take i) (f.take i) + if l[i].s = 1 then 0 else f[i] by rw [take_snoc hil, take_snoc hif, sumS_snoc _ _ (by simp; omega)])
      obtain ⟨x, hx⟩ : ∃ x, x = f[i] := ⟨_, rfl⟩
      obtain ⟨s, hs⟩ : ∃ s, s = l[i].s := ⟨_, rfl⟩
      obtain ⟨u, hu⟩ : ∃ u, u = sumB (l.take i) (f.take i) := ⟨_, rfl⟩
      obtain ⟨t, ht⟩ : ∃ t, t = sumS (l.take i) (f.take i) := ⟨_, rfl⟩
      rw [← hx] at c1 hxb SB SS
      rw [← hs] at c0 SB SS
      rw [← hu] at hbd SB ⊢
      rw [← ht] at hbd SS ⊢
      have hmn : min i f.length ≤ 5000 := by omega
      have gi : (i : Int) < (n : Int) := by omega
      have gi0 : (0 : Int) ≤ (i : Int) := by omega
      have ew : IntKind.i64.wrap (u + x) = u + x := IntWalk.i64_in _ (by omega)
      have ew2 : IntKind.i64.wrap (t + x) = t + x := IntWalk.i64_in _ (by omega)
      clear hx hu ht hfl
      by_cases h1 : s = 1
      · have e1 : (s == 1) = true := by simpa using h1
        rw [if_pos h1] at SB SS
        clear h1 hs
        go_wp2
        go_roundg (n - (i + 1))
        · exact ⟨i + 1, by omega, by go_num, by rw [SB.out], by rw [SS.out, Int.add_zero], rfl⟩
        · have := HIK.out; omega
      · have e1 : (s == 1) = false := by simpa using h1
        rw [if_neg h1] at SB SS
        clear h1 hs
        go_wp2
        go_roundg (n - (i + 1))
        · exact ⟨i + 1, by omega, by go_num, by rw [SB.out, Int.add_zero], by rw [SS.out], rfl⟩
        · have := HIK.out; omega
    · have hin' : i = n := by have := HIK.out; omega
      subst hin'
      have g2 : decide ((i : Int) < (i : Int)) = false := by simp
      have h1 : l.take i = l := by rw [HN.out, List.take_length]
      have h2 : f.take i = f := by rw [HN.out, hfl, List.take_length]
      rw [h1, h2]
      have F := hid (FN.out wr (Below.refl _ _))
      clear h1 h2 hfl
      go_wp2
      first | exact F.out | exact bodyPost_ret (by simp [results, Try.results20, go_sem]) rfl F.out
end Go.Proofs.Ytjhelinbjlahiaa
