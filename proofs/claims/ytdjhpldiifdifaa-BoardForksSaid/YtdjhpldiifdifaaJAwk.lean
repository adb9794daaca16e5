/- board.Last, the law's tame, awake. The law's awake. -/
import Derived.Test.YtdjhpldiifdifaaJCan
namespace Go.Proofs.Ytdjhpldiifdifaa
set_option linter.unusedSimpArgs false
set_option linter.unusedVariables false
open Go.RowKit Go.Shelf
attribute [local go_sem] Oper.semAt_some
attribute [local go_sem ↓] Go.wp_at_zero Go.wp_at_succ

theorem OwnE.reads {α : Type} {enc : α → List Value} {sz : Nat} {e : TypeId} (hlen : ∀ a, (enc a).length = sz) {B : Nat} {W : World} {v : Value} {l : List α} (h : OwnE enc sz e B W v l) (hm : l.length ≤ 9223372036854775807) : ReadsE enc sz W v l := by
  rcases h.2 with ⟨h1, h2⟩ | ⟨g, cap, cur, hv, hb, hg, h3⟩
  · have : l = [] := List.length_eq_zero_iff.1 h2
    subst this; subst h1
    exact ReadsE.nil _ _ _
  · subst hv
    refine ⟨hm, _, cap, g, 0, rfl, fun _ => ⟨rfl, (Array.getElem?_eq_some_iff.1 hg).1⟩, fun k hk j hj => ?_⟩
    rw [Nat.zero_add, World.ownsRow.cellAt h _ (by have : k * sz + sz ≤ l.length * sz := by { rw [← Nat.succ_mul]; exact Nat.mul_le_mul_right _ hk }; omega), flatE_get hlen l k hk j hj]
theorem last_calls {O : Nat → Nat} {c : Nat} {w : World} {b hb hs mb : Nat} {wt : List Nat} {nums last : Int} {evs : List Ev} (h : TopC O c w b hb hs mb wt nums last evs) :
    Calls Try.prog 37 #[pt b] w fun e w' => e = .returned (.int .i64 last) ∧ w' = w := by
  obtain ⟨_, _, _, _, c6⟩ := h.half
  have hl := h.lt
  clear h
  go_enter Try.func37, Try.ntmps37
  go_wp2
  go_ret
  exact ⟨rfl, rfl⟩
/-- The law's taming. -/
def tameO (o : Od) : Od := if 500 < o.q ∧ 0 < o.pk ∧ o.pk < o.q / 20 then { o with pk := o.q } else o
theorem tameO_q (o : Od) : (tameO o).q = o.q := by unfold tameO; split <;> rfl
set_option maxRecDepth 100000 in
set_option maxHeartbeats 2000000 in
theorem tame_calls (o : Od) (hq : o.q ≤ 9223372036854775807) (w : World) : Calls Try.prog 16 #[.agg o.vals] w fun e w' => e = .returned (.agg (tameO o).vals) ∧ Below w.heap.size w w' := by
  by_cases h1 : 500 < o.q
  · by_cases h2 : 0 < o.pk
    · by_cases h3 : o.pk < o.q / 20
      · have ht : tameO o = { o with pk := o.q } := by unfold tameO; rw [if_pos ⟨h1, h2, h3⟩]
        rw [ht]
        unfold Od.vals
        clear ht
        go_enter Try.func16, Try.ntmps16
        go_wp2
        all_goals first | (exfalso; omega) | exact bodyPost_ret (v := .agg #[.int .i64 o.m, .int .i64 o.s, .int .i64 o.k, .int .i64 o.f, .int .i64 o.p, .int .i64 o.t, .int .i64 o.q, .int .i64 o.q]) (by simp [results, Try.results16, go_sem]) rfl ⟨rfl, ((Below.refl _ _).alloc (Nat.le_refl _) _).alloc (by simp) _⟩
      · have h3' : o.q / 20 ≤ o.pk := by omega
        have ht : tameO o = o := by unfold tameO; rw [if_neg (fun e => h3 e.2.2)]
        rw [ht]
        unfold Od.vals
        clear ht h3
        go_enter Try.func16, Try.ntmps16
        go_wp2
        all_goals first | (exfalso; omega) | exact bodyPost_ret (v := .agg #[.int .i64 o.m, .int .i64 o.s, .int .i64 o.k, .int .i64 o.f, .int .i64 o.p, .int .i64 o.t, .int .i64 o.q, .int .i64 o.pk]) (by simp [results, Try.results16, go_sem]) rfl ⟨rfl, ((Below.refl _ _).alloc (Nat.le_refl _) _).alloc (by simp) _⟩
    · have h2' : o.pk ≤ 0 := by omega
      have ht : tameO o = o := by unfold tameO; rw [if_neg (fun e => h2 e.2.1)]
      rw [ht]
      unfold Od.vals
      clear ht h2
      go_enter Try.func16, Try.ntmps16
      go_wp2
      exact bodyPost_ret (v := .agg #[.int .i64 o.m, .int .i64 o.s, .int .i64 o.k, .int .i64 o.f, .int .i64 o.p, .int .i64 o.t, .int .i64 o.q, .int .i64 o.pk]) (by simp [results, Try.results16, go_sem]) rfl ⟨rfl, ((Below.refl _ _).alloc (Nat.le_refl _) _).alloc (by simp) _⟩
  · have h1' : o.q ≤ 500 := by omega
    have ht : tameO o = o := by unfold tameO; rw [if_neg (fun e => h1 e.1)]
    rw [ht]
    unfold Od.vals
    clear ht h1
    go_enter Try.func16, Try.ntmps16
    go_wp2
    exact bodyPost_ret (v := .agg #[.int .i64 o.m, .int .i64 o.s, .int .i64 o.k, .int .i64 o.f, .int .i64 o.p, .int .i64 o.t, .int .i64 o.q, .int .i64 o.pk]) (by simp [results, Try.results16, go_sem]) rfl ⟨rfl, ((Below.refl _ _).alloc (Nat.le_refl _) _).alloc (by simp) _⟩

def odA : Od := ⟨1, 2, 1, 1, 50, 0, 10, 4⟩
def odB : Od := ⟨2, 1, 1, 1, 55, 0, 5, 0⟩
def sB0 : Bd := ⟨[], [], [], 0, 0⟩
def sB1 : Bd := ⟨[], [(50, [⟨1, odA, 10, 4⟩])], [], 1, 0⟩
theorem awk0 : enterE sB0 odA = 0 := by decide +kernel
theorem awk1 : enterF sB0 odA = (sB1, [⟨2, 1, 0, 50, 10⟩]) := by kernel_rfl
theorem awk2 : enterE sB1 odB = 0 ∧ (enterF sB1 odB).2 = [⟨1, 2, 1, 50, 4⟩, ⟨1, 2, 1, 50, 1⟩] ∧ (enterF sB1 odB).1.last = 50 := by decide +kernel
end Go.Proofs.Ytdjhpldiifdifaa
namespace Go.Proofs.Ytdjhpldiifdifaa
set_option linter.unusedSimpArgs false
set_option linter.unusedVariables false
open Go.RowKit Go.Shelf
attribute [local go_sem] Oper.semAt_some
attribute [local go_sem ↓] Go.wp_at_zero Go.wp_at_succ

/-- What is of no board's colour stays. -/
theorem Step.low {O O' : Nat → Nat} {q n : Nat} {w w' : World} (st : Step (colB q) O w O' w') (hn : n ≤ w.heap.size) (h : ∀ k, k < n → O k = 0) : Below n w w' ∧ ∀ k, k < n → O' k = 0 := by
  have key : ∀ k, k < n → w'.heap[k]? = w.heap[k]? ∧ O' k = O k := fun k hk => st.old k (by omega) (by rw [h k hk]; exact fun e => absurd e.1 (by omega))
  exact ⟨⟨st.os, st.tape, st.output, st.size, fun k hk => (key k hk).1⟩, fun k hk => by rw [(key k hk).2, h k hk]⟩
theorem evRow {w : World} {v : Value} {l : List Ev} (h : OwnE encEv 5 40 0 w v l) : ∃ p cap b, v = .slice p l.length cap ∧ (0 < l.length → p = some ⟨b, 0, none⟩ ∧ b < w.heap.size) ∧ ∀ (k : Nat) (hk : k < l.length) (j : Nat), j < 5 → w.cell? ⟨b, k * 5 + j, none⟩ = (encEv l[k])[j]? := by
  obtain ⟨p, cap, b, h1, h2, h3⟩ := OwnE.cells (enc := encEv) (sz := 5) (fun _ => rfl) h
  exact ⟨p, cap, b, h1, fun h0 => ⟨(h2 h0).1, (h2 h0).2.2⟩, h3⟩
set_option maxRecDepth 100000 in
set_option maxHeartbeats 4000000 in
theorem awake_calls (w : World) : Calls Try.prog 19 #[] w fun e w' => e = .returned (.bool true) ∧ Below w.heap.size w w' := by
  have NW := hid (new_calls (fun _ => 0) 0 w)
  go_enter Try.func19, Try.ntmps19
  go_wp2_with fail
  refine NW.out.mono ?_
  rintro e w1 ⟨O1, b, G, rfl, bd1, hG, hb1, hO1⟩
  have hO1 : ∀ k, k < w.heap.size → O1 k = 0 := hO1
  have en1 := enter_calls bd1 odA (by omega) (by rw [hG]; decide)
  have fin1 : ∀ e w2, EnterP O1 0 w1 b G 0 0 odA e w2 → ∃ p n c O2 G2 l2, e = .returned (.tuple #[.int .i64 1, .slice p n c, .int .i64 0]) ∧ BdC O2 0 w2 b G2 1 l2 [] ∧ G2.bd 1 l2 = sB1 ∧ Step (colB 0) O1 w1 O2 w2 := by
    rintro e w2 (⟨h1, _⟩ | ⟨_, v, O2, G2, l2, h2, h3, h4, h5, h6, h7⟩)
    · exact absurd (by rw [hG]; exact awk0) h1
    · obtain ⟨p, c, hv, _⟩ := h3.form
      exact ⟨p, _, c, O2, G2, l2, by rw [h2, hv]; rfl, h5, h6.trans (by rw [hG]; exact congrArg Prod.fst awk1), h7⟩
  have E1 := hid (en1.mono fin1)
  have HB1 := hid hb1
  have HO1 := hid hO1
  clear en1 fin1 bd1 hG hb1 hO1 NW
  unfold Od.vals odA at E1
  go_wp2_with fail
  refine E1.out.mono ?_
  rintro e w2 ⟨p, n, c, O2, G2, l2, rfl, bd2, hG2, st2⟩
  obtain ⟨hb2, hO2⟩ := st2.low HB1.out.size HO1.out
  have en2 := enter_calls bd2 odB (by omega) (by rw [hG2]; decide)
  have fin2 : ∀ e w3, EnterP O2 0 w2 b G2 1 l2 odB e w3 → ∃ (p : Nat) (c g : Nat) (O3 : Nat → Nat) (G3 : Mm), e = .returned (.tuple #[.int .i64 2, .slice (some ⟨g, 0, none⟩) 2 c, .int .i64 0]) ∧ g < w3.heap.size ∧ w3.cell? ⟨g, 4, none⟩ = some (.int .i64 4) ∧ w3.cell? ⟨g, 9, none⟩ = some (.int .i64 1) ∧ TopC O3 3 w3 b G3.hb G3.hs G3.mb G3.wt 2 50 [] ∧ Step (colB 0) O2 w2 O3 w3 ∧ p = 0 := by
    rintro e w3 (⟨h1, _⟩ | ⟨_, v, O3, G3, l3, h2, h3, h4, h5, h6, h7⟩)
    · exact absurd (by rw [hG2]; exact awk2.1) h1
    · rw [hG2] at h3 h6
      rw [awk2.2.1] at h3
      obtain ⟨p, c, g, hv, hp, hr⟩ := evRow h3
      obtain ⟨hp, hg⟩ := hp (by decide)
      subst hp
      have hl : l3 = 50 := by
        have := congrArg Bd.last h6
        rw [awk2.2.2] at this
        exact this
      subst hl
      exact ⟨0, c, g, O3, G3, by rw [h2, hv]; rfl, hg, hr 0 (by decide) 4 (by decide), hr 1 (by decide) 4 (by decide), h5.top, h7, rfl⟩
  have E2 := hid (en2.mono fin2)
  have HB2 := hid (HB1.out.trans hb2)
  have HO2 := hid hO2
  clear en2 fin2 bd2 hG2 st2 hb2 hO2 E1 HB1 HO1
  unfold Od.vals odB at E2
  go_wp2_with fail
  refine E2.out.mono ?_
  rintro e w3 ⟨_, c3, g, O3, G3, rfl, hg, k4, k9, top, st3, _⟩
  obtain ⟨hb3, _⟩ := st3.low HB2.out.size HO2.out
  have LA := hid (last_calls top)
  have HB3 := hid (HB2.out.trans hb3)
  clear top st3 hb3 E2 HB2 HO2
  go_wp2_with fail
  refine LA.out.mono ?_
  rintro e w4 ⟨rfl, rfl⟩
  go_wp2
  first | exact ⟨rfl, HB3.out⟩ | (go_ret; exact ⟨rfl, HB3.out⟩)
end Go.Proofs.Ytdjhpldiifdifaa
