/- Fork: a register with the same versions. -/
import Derived.Test.YtnnbdjfeagcbdaaJRunL
namespace Go.Proofs.Ytnnbdjfeagcbdaa
set_option linter.unusedSimpArgs false
set_option linter.unusedVariables false
open Go.RowKit Go.Shelf
attribute [local go_sem] Oper.semAt_some

theorem clone_eq (vB n cap : Nat) (w : World) : (binOp BinOp.eql 119 (.slice (some ⟨vB, 0, none⟩) n cap) (.slice none 0 0)).run Try.prog w = .ok (.bool false) w := by kernel_rfl

set_option maxRecDepth 100000 in
set_option maxHeartbeats 4000000 in
theorem clone_calls (w : World) (vB n cap : Nat) (hn : 0 < n ∧ n ≤ 1000) (qs : List Value) (h1c : ∀ x ∈ qs, x.oneCell' = true) (ho : w.ownsRow 0 111 1 (.slice (some ⟨vB, 0, none⟩) n cap) n qs) :
    Calls Try.prog 93 #[.slice (some ⟨vB, 0, none⟩) n cap] w fun e w' => ∃ gB cap', e = .returned (.slice (some ⟨gB, 0, none⟩) n cap') ∧ w'.ownsRow w.heap.size 111 1 (.slice (some ⟨gB, 0, none⟩) n cap') n qs ∧ Below w.heap.size w w' ∧ gB < w'.heap.size := by
  obtain ⟨i0, hi, hz0, hz1, hz2⟩ := info_parts info_tree
  have HO := hid ho
  have H1 := hid h1c
  obtain ⟨cur, hc⟩ := ownsRow_block ho
  have hb := hc.lt
  have HL := hid (show qs.length = n by have := ho.1; simpa using this)
  have O0 := hid (World.ownsRow_lit (base := w.heap.size) (size := 1) (e := 111) w #[] 0 (Nat.le_refl _) (by decide) rfl)
  clear ho hc h1c
  obtain ⟨hn1, hn2⟩ := hn
  have heq := clone_eq vB n cap
  go_enter Try.func93, Try.ntmps93
  go_wp2_with (at_builtin; refine wpList_append_lies _ rfl (.tmp 5) (.tmp 6) 119 rfl w.heap.size 111 i0 (.pointer none) 1 8 under_trees hi hz0 hz1 hz2 rfl (by decide) (.slice (some ⟨w.heap.size, 0, none⟩) 0 0) 0 [] rfl O0.out ⟨vB, 0, none⟩ n cap qs rfl ?a0 ?a1 ?a2 hn1 ?a3 ?a4 ?a5 _ rfl ?_)
  case a0 => have := HL.out; omega
  case a1 =>
    intro j x hx
    have hj : j < n := by have := (List.getElem?_eq_some_iff.1 hx).1; have := HL.out; omega
    have h1 := World.ownsRow.cellAt HO.out j (by omega)
    have h2 := Below.cell ((Below.refl w.heap.size w).alloc (Nat.le_refl _) (.cells #[] 111)) (p := ⟨vB, j, none⟩) hb
    have h3 := h2.trans (h1.trans hx)
    by_cases h0 : j = 0
    · subst h0; first | simpa [Addr.add] using h1.trans hx | simpa [Addr.add] using h3
    · first | simpa [Addr.add, h0] using h1.trans hx | simpa [Addr.add, h0] using h3
  case a2 =>
    exact H1.out
  case a3 => unfold maxLen; omega
  case a4 => omega
  intro g cap1 w3 own1 gr1 at1 lt1
  have b3 : Below w.heap.size w w3 := Below.grown ((Below.refl w.heap.size w).alloc (Nat.le_refl _) _) gr1 (by simp) (fun r h => (World.ownsRow.lt O0.out r h).1)
  have O3 := hid own1
  have B3 := hid b3
  have L3 := hid lt1
  clear own1 gr1 at1 b3 lt1
  go_wp2
  refine bodyPost_ret (v := .slice (some ⟨g, 0, none⟩) n cap1) (by simp [results, Try.results93, go_sem]) rfl ⟨g, cap1, rfl, ?_, B3.out, L3.out⟩
  have := O3.out
  simpa using this

set_option maxRecDepth 100000 in
set_option maxHeartbeats 4000000 in
theorem fork_calls {B : Nat} {W w : World} {sB vB : Nat} {vs : List T} (h : Reg B W w sB vB vs) (hn : vs.length ≤ 1000) :
    Calls Try.prog 45 #[.pointer (some ⟨sB, 0, none⟩)] w fun e w' => ∃ fB gB, e = .returned (.pointer (some ⟨fB, 0, none⟩)) ∧ StAt w' fB gB vs ∧ w.heap.size ≤ fB ∧ w.heap.size ≤ gB ∧ fB ≠ gB ∧ Below w.heap.size w w' := by
  obtain ⟨cap, ps, hc, ho, ht⟩ := h.st.at_
  have HF := hid h.st.full
  have HT := hid ht
  have c0 := cell_one hc
  have l0 := hc.lt
  have HO := hid ho
  have hpos : 0 < vs.length := List.length_pos_iff.2 h.st.full
  obtain ⟨n, hnn⟩ : ∃ n, n = vs.length := ⟨_, rfl⟩
  rw [← hnn] at c0 HO hn hpos
  have HN := hid hnn
  clear h hc ho ht hnn
  go_enter Try.func45, Try.ntmps45
  go_wp2_with fail
  refine (clone_calls w vB n cap ⟨hpos, hn⟩ (ps.map Value.pointer) (fun x hx => by obtain ⟨q, _, rfl⟩ := List.mem_map.1 hx; rfl) HO.out).mono ?_
  rintro e w1 ⟨gB, cap1, rfl, own1, hb1, lt1⟩
  have O1 := hid own1
  have B1 := hid hb1
  have L1 := hid lt1
  clear own1 hb1 lt1
  go_wp2
  refine bodyPost_ret (v := .pointer (some ⟨w1.heap.size, 0, none⟩)) (by simp [results, Try.results45, go_sem]) rfl ⟨w1.heap.size, gB, rfl, ⟨HF.out, cap1, ps, ?_, ?_, ?_⟩, B1.out.size, ?_, by have := L1.out; omega, B1.out.alloc B1.out.size _⟩
  · rw [← HN.out]; exact Cells.new _ _ _
  · rw [← HN.out]; exact (O1.out.alloc _).mono (Nat.zero_le _)
  · intro k hk
    exact ((HT.out k hk).below B1.out).below ((Below.refl _ _).alloc (Nat.le_refl _) _)
  · exact (World.ownsRow.lt O1.out gB rfl).1
end Go.Proofs.Ytnnbdjfeagcbdaa
