/- The law's awake. -/
import Derived.Test.YtdjhpldiifdifaaAwk
namespace Go.Proofs.Ytdjhpldiifdifaa
set_option linter.unusedSimpArgs false
set_option linter.unusedVariables false
open Go.RowKit Go.Shelf
attribute [local go_sem] Oper.semAt_some
attribute [local go_sem ↓] Go.wp_at_zero Go.wp_at_succ

/-- What is of no board's colour stays. -/
theorem Step.low {O O' : Nat → Nat} {q n : Nat} {w w' : World} (st : Step (colB q) O w O' w') (hn : n ≤ w.heap.size) (h : ∀ k, k < n → O k = 0) : Below n w w' ∧ ∀ k, k < n → O' k = 0 := by
  have key : ∀ k, k < n → w'.heap[k]? = w.heap[k]? ∧ O' k = O k := fun k hk => st.old k (by omega) (by rw [h k hk]; exact fun e => absurd e.1 (by omega))
  exact ⟨⟨st.os, st.tape, st.output, st.size, fun k hk => (key k hk).1⟩, fun k hk => by rw [(key k hk).2, h k hk]⟩
theorem evRow {w : World} {v : Value} {l : List Ev} (h : OwnE encEv 5 40 0 w v l) : ∃ p cap b, v = .slice p l.length cap ∧ (0 < l.length → p = some ⟨b, 0, none⟩ ∧ b < w.heap.size) ∧ ∀ (k : Nat) (hk : k < l.length) (j : Nat), j < 5 → w.cell? ⟨b, k * 5 + j, none⟩ = (encEv l[k])[j]? := by
  obtain ⟨p, cap, b, h1, h2, h3⟩ := OwnE.cells (enc := encEv) (sz := 5) (fun _ => rfl) h
  exact ⟨p, cap, b, h1, fun h0 => ⟨(h2 h0).1, (h2 h0).2.2⟩, h3⟩
set_option maxRecDepth 100000 in
set_option maxHeartbeats 4000000 in
theorem awake_calls (w : World) : Calls Try.prog 19 #[] w fun e w' => e = .returned (.bool true) ∧ Below w.heap.size w w' := by
  have NW := hid (new_calls (fun _ => 0) 0 w)
  go_enter Try.func19, Try.ntmps19
  go_wp2_with fail
  refine NW.out.mono ?_
  rintro e w1 ⟨O1, b, G, rfl, bd1, hG, hb1, hO1⟩
  have hO1 : ∀ k, k < w.heap.size → O1 k = 0 := hO1
  have en1 := enter_calls bd1 odA (by omega) (by rw [hG]; decide)
  have fin1 : ∀ e w2, EnterP O1 0 w1 b G 0 0 odA e w2 → ∃ p n c O2 G2 l2, e = .returned (.tuple #[.int .i64 1, .slice p n c, .int .i64 0]) ∧ BdC O2 0 w2 b G2 1 l2 [] ∧ G2.bd 1 l2 = sB1 ∧ Step (colB 0) O1 w1 O2 w2 := by
    rintro e w2 (⟨h1, _⟩ | ⟨_, v, O2, G2, l2, h2, h3, h4, h5, h6, h7⟩)
    · exact absurd (by rw [hG]; exact awk0) h1
    · obtain ⟨p, c, hv, _⟩ := h3.form
      exact ⟨p, _, c, O2, G2, l2, by rw [h2, hv]; rfl, h5, h6.trans (by rw [hG]; exact congrArg Prod.fst awk1), h7⟩
  have E1 := hid (en1.mono fin1)
  have HB1 := hid hb1
  have HO1 := hid hO1
  clear en1 fin1 bd1 hG hb1 hO1 NW
  unfold Od.vals odA at E1
  go_wp2_with fail
  refine E1.out.mono ?_
  rintro e w2 ⟨p, n, c, O2, G2, l2, rfl, bd2, hG2, st2⟩
  obtain ⟨hb2, hO2⟩ := st2.low HB1.out.size HO1.out
  have en2 := enter_calls bd2 odB (by omega) (by rw [hG2]; decide)
  have fin2 : ∀ e w3, EnterP O2 0 w2 b G2 1 l2 odB e w3 → ∃ (p : Nat) (c g : Nat) (O3 : Nat → Nat) (G3 : Mm), e = .returned (.tuple #[.int .i64 2, .slice (some ⟨g, 0, none⟩) 2 c, .int .i64 0]) ∧ g < w3.heap.size ∧ w3.cell? ⟨g, 4, none⟩ = some (.int .i64 4) ∧ w3.cell? ⟨g, 9, none⟩ = some (.int .i64 1) ∧ TopC O3 3 w3 b G3.hb G3.hs G3.mb G3.wt 2 50 [] ∧ Step (colB 0) O2 w2 O3 w3 ∧ p = 0 := by
    rintro e w3 (⟨h1, _⟩ | ⟨_, v, O3, G3, l3, h2, h3, h4, h5, h6, h7⟩)
    · exact absurd (by rw [hG2]; exact awk2.1) h1
    · rw [hG2] at h3 h6
      rw [awk2.2.1] at h3
      obtain ⟨p, c, g, hv, hp, hr⟩ := evRow h3
      obtain ⟨hp, hg⟩ := hp (by decide)
      subst hp
      have hl : l3 = 50 := by
        have := congrArg Bd.last h6
        rw [awk2.2.2] at this
        exact this
      subst hl
      exact ⟨0, c, g, O3, G3, by rw [h2, hv]; rfl, hg, hr 0 (by decide) 4 (by decide), hr 1 (by decide) 4 (by decide), h5.top, h7, rfl⟩
  have E2 := hid (en2.mono fin2)
  have HB2 := hid (HB1.out.trans hb2)
  have HO2 := hid hO2
  clear en2 fin2 bd2 hG2 st2 hb2 hO2 E1 HB1 HO1
  unfold Od.vals odB at E2
  go_wp2_with fail
  refine E2.out.mono ?_
  rintro e w3 ⟨_, c3, g, O3, G3, rfl, hg, k4, k9, top, st3, _⟩
  obtain ⟨hb3, _⟩ := st3.low HB2.out.size HO2.out
  have LA := hid (last_calls top)
  have HB3 := hid (HB2.out.trans hb3)
  clear top st3 hb3 E2 HB2 HO2
  go_wp2_with fail
  refine LA.out.mono ?_
  rintro e w4 ⟨rfl, rfl⟩
  go_wp2
  first | exact ⟨rfl, HB3.out⟩ | (go_ret; exact ⟨rfl, HB3.out⟩)
end Go.Proofs.Ytdjhpldiifdifaa
