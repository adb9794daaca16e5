/- board.Enter. -/
import Derived.Test.YtdjhpldiifdifaaStop
namespace Go.Proofs.Ytdjhpldiifdifaa
set_option linter.unusedSimpArgs false
set_option linter.unusedVariables false
open Go.RowKit Go.Shelf
attribute [local go_sem] Oper.semAt_some
attribute [local go_sem ↓] Go.wp_at_zero Go.wp_at_succ

theorem wpList_len_run {P : Program} {w : World} {ops : Array Oper} {rest : List Oper} {o : Oper} {a : Act} {Q : Exit → Act → World → Prop} (hgd : o.guard = none) (s : Operand) (t : TypeId)
    (ho : o.op = .call { callee := .builtin .len, args := #[s], argTypes := #[t] }) (sv v : Value) (hs : a.eval s = sv) (hrun : (Builtin.len_ #[t] o.type #[sv]).run P w = .ok v w) (h : wpList P ops Q rest (a.put o.dst v) w) :
    wpList P ops Q (o :: rest) a w := by
  refine wpList_plain hgd fun K hK => ?_
  unfold Oper.wp
  simp [execOp, ho, resolve, invoke, builtin, hs, hrun, Result.andThen]
  exact hK _ _ h
/-- The order's own text, in its box. -/
structure EntA (O : Nat → Nat) (q : Nat) (w W : World) (b : Nat) (G : Mm) (nums last : Int) (o : Od) : Prop where
  bd : BdC O q W b G nums last []
  box : Cells W w.heap.size #[.int .i64 o.m, .int .i64 o.s, .int .i64 o.k, .int .i64 o.f, .int .i64 o.p, .int .i64 o.t, .int .i64 o.q, .int .i64 o.pk] 38
  below : Below w.heap.size w W
theorem entA {O : Nat → Nat} {q : Nat} {w W : World} {b : Nat} {G : Mm} {nums last : Int} {o : Od} (h : BdC O q w b G nums last []) (hb : Below (w.alloc (.cells #[.int .i64 o.m, .int .i64 o.s, .int .i64 o.k, .int .i64 o.f, .int .i64 o.p, .int .i64 o.t, .int .i64 o.q, .int .i64 o.pk] 38)).heap.size (w.alloc (.cells #[.int .i64 o.m, .int .i64 o.s, .int .i64 o.k, .int .i64 o.f, .int .i64 o.p, .int .i64 o.t, .int .i64 o.q, .int .i64 o.pk] 38)) W) : EntA O q w W b G nums last o := by
  have hb2 : Below w.heap.size w W := ((Below.refl w.heap.size w).alloc (Nat.le_refl _) _).trans (hb.mono (by simp))
  exact ⟨h.step (Step.of_below hb2 (fun _ => False)) (fun _ _ => not_false), Cells.below (Cells.new w _ _) hb (by simp), hb2⟩
theorem EntA.next {O : Nat → Nat} {q : Nat} {w W W' : World} {b : Nat} {G : Mm} {nums last : Int} {o : Od} (h : EntA O q w W b G nums last o) (hb : Below W.heap.size W W') : EntA O q w W' b G nums last o :=
  ⟨h.bd.step (Step.of_below hb (fun _ => False)) (fun _ _ => not_false), h.box.below hb h.box.lt, h.below.trans (hb.mono h.below.size)⟩
theorem EntA.cells {O : Nat → Nat} {q : Nat} {w W : World} {b : Nat} {G : Mm} {nums last : Int} {o : Od} (h : EntA O q w W b G nums last o) : W.cell? ⟨w.heap.size, 0, none⟩ = some (.int .i64 o.m) ∧ W.cell? ⟨w.heap.size, 1, none⟩ = some (.int .i64 o.s) ∧ W.cell? ⟨w.heap.size, 2, none⟩ = some (.int .i64 o.k) ∧ W.cell? ⟨w.heap.size, 3, none⟩ = some (.int .i64 o.f) ∧ W.cell? ⟨w.heap.size, 4, none⟩ = some (.int .i64 o.p) ∧ W.cell? ⟨w.heap.size, 5, none⟩ = some (.int .i64 o.t) ∧ W.cell? ⟨w.heap.size, 6, none⟩ = some (.int .i64 o.q) ∧ W.cell? ⟨w.heap.size, 7, none⟩ = some (.int .i64 o.pk) ∧ w.heap.size < W.heap.size ∧
    W.cell? ⟨b, 3, none⟩ = some (.map (some G.mb)) ∧ W.cell? ⟨b, 5, none⟩ = some (.int .i64 nums) ∧ b < W.heap.size ∧ W.frozen? ⟨b, 5, none⟩ = false := by
  obtain ⟨_, p1, p2, _, p3, _, p4⟩ := h.bd.parts.cells (s := 1) (.inl rfl)
  refine ⟨?_, ?_, ?_, ?_, ?_, ?_, ?_, ?_, h.box.lt, p1, p2, p3, p4⟩ <;> (rw [h.box.cell]; rfl)
/-- What Enter comes to. -/
def EnterP (O : Nat → Nat) (q : Nat) (w : World) (b : Nat) (G : Mm) (nums last : Int) (o : Od) (e : Ending) (w' : World) : Prop :=
  (enterE (G.bd nums last) o ≠ 0 ∧ e = .returned (.tuple #[.int .i64 0, .slice none 0 0, .int .i64 (enterE (G.bd nums last) o)]) ∧ BdC O q w' b G nums last [] ∧ Step (colB q) O w O w') ∨
  (enterE (G.bd nums last) o = 0 ∧ ∃ v O' G' last', e = .returned (.tuple #[.int .i64 (nums + 1), v, .int .i64 0]) ∧ OwnE encEv 5 40 0 w' v (enterF (G.bd nums last) o).2 ∧ (∀ g, v.ownBlock = some g → O' g = q + 3) ∧ BdC O' q w' b G' (nums + 1) last' [] ∧ G'.bd (nums + 1) last' = (enterF (G.bd nums last) o).1 ∧ Step (colB q) O w O' w')

set_option maxRecDepth 100000 in
set_option maxHeartbeats 8000000 in
theorem enter_no {O : Nat → Nat} {q : Nat} {w : World} {b : Nat} {G : Mm} {nums last : Int} (h : BdC O q w b G nums last []) (o : Od) (hE : enterE (G.bd nums last) o ≠ 0) :
    Calls Try.prog 17 #[pt b, .agg o.vals] w (EnterP O q w b G nums last o) := by
  have HA := hid (fun W hb => entA (W := W) (o := o) h hb)
  have A0 := HA.out _ (Below.refl _ _)
  have va := valid_calls o (w.alloc (.cells #[.int .i64 o.m, .int .i64 o.s, .int .i64 o.k, .int .i64 o.f, .int .i64 o.p, .int .i64 o.t, .int .i64 o.q, .int .i64 o.pk] 38))
  have fin : ∀ W e, EntA O q w W b G nums last o → e = .returned (.tuple #[.int .i64 0, .slice none 0 0, .int .i64 (enterE (G.bd nums last) o)]) → EnterP O q w b G nums last o e W := fun W e hA he => .inl ⟨hE, he, hA.bd, Step.of_below hA.below _⟩
  have FIN := hid fin
  have hE' := hE
  unfold enterE at hE'
  unfold Od.vals at va ⊢
  clear A0 fin hE
  by_cases h1 : o.ok = false
  · have he : enterE (G.bd nums last) o = 1 := by unfold enterE; rw [if_pos h1]
    rw [h1] at va
    rw [he] at FIN
    have VA := hid va
    clear va h h1 hE' he
    generalize EnterP O q w b G nums last o = R at *
    go_enter Try.func17, Try.ntmps17
    go_wp2_with fail
    refine VA.out.mono ?_
    rintro e w1 ⟨rfl, hb⟩
    have fn := FIN.out w1 _ (HA.out w1 hb) rfl
    have FN := hid fn
    clear fn hb
    go_wp2
    exact bodyPost_ret (v := .tuple #[.int .i64 0, .slice none 0 0, .int .i64 1]) (by simp [results, Try.results17, go_sem]) rfl FN.out
  · have hok : o.ok = true := by simpa using h1
    have hs := okS hok
    rw [hok] at va
    have VA := hid va
    have ML := hid (fun W (A : EntA O q w W b G nums last o) ty => (show (Builtin.len_ #[88] ty #[.map (some G.mb)]).run Try.prog W = .ok (.int .i64 (G.live.length : Int)) W by have := A.bd.map.map.len ty; rw [show (prs G.en G.live).length = G.live.length by simp [prs]] at this; exact this))
    have hlive : (G.bd nums last).live.length = G.live.length := by rw [Mm.bd_live]; simp
    rw [hlive] at hE'
    by_cases h2 : 4096 ≤ G.live.length
    · have he : enterE (G.bd nums last) o = 6 := by unfold enterE; rw [if_neg h1, hlive, if_pos h2]
      rw [he] at FIN
      have h2I : (4096 : Int) ≤ (G.live.length : Int) := by omega
      clear va h h1 hE' he hlive hok
      generalize EnterP O q w b G nums last o = R at *
      go_enter Try.func17, Try.ntmps17
      go_wp2_with fail
      refine VA.out.mono ?_
      rintro e w1 ⟨rfl, hb⟩
      have A := HA.out w1 hb
      have fn := FIN.out w1 _ A rfl
      have FN := hid fn
      have MLW := hid (ML.out w1 A)
      obtain ⟨b0, b1, b2, b3, b4, b5, b6, b7, hwl, bm, b55, hbl, fb5⟩ := A.cells
      clear fn hb A ML
      go_wp2_with (refine wpList_len_run rfl (.tmp 16) 88 rfl _ _ rfl (MLW.out _) ?_)
      exact bodyPost_ret (v := .tuple #[.int .i64 0, .slice none 0 0, .int .i64 6]) (by simp [results, Try.results17, go_sem]) rfl FN.out
    · by_cases h3 : o.f = 4 ∧ o.t = 0 ∧ meetsH o ((G.bd nums last).half (3 - o.s)) = true
      · have he : enterE (G.bd nums last) o = 20 := by unfold enterE; rw [if_neg h1, hlive, if_neg h2, if_pos h3]
        rw [he] at FIN
        have h2I : (G.live.length : Int) < 4096 := by omega
        obtain ⟨f4, t0, hm⟩ := h3
        have e4 : (o.f == 4) = true := by simpa using f4
        have e5 : (o.t == 0) = true := by simpa using t0
        have me := fun W (A : EntA O q w W b G nums last o) => A.bd.meets o hs
        rw [hm] at me
        unfold Od.vals at me
        have ME := hid me
        clear va h h1 hE' he hlive hok f4 t0 hm me
        generalize EnterP O q w b G nums last o = R at *
        go_enter Try.func17, Try.ntmps17
        go_wp2_with fail
        refine VA.out.mono ?_
        rintro e w1 ⟨rfl, hb⟩
        have A := HA.out w1 hb
        have MLW := hid (ML.out w1 A)
        have MEW := hid (ME.out w1 A)
        obtain ⟨b0, b1, b2, b3, b4, b5, b6, b7, hwl, bm, b55, hbl, fb5⟩ := A.cells
        have AH := hid A
        clear hb A ML ME
        go_wp2_with (refine wpList_len_run rfl (.tmp 16) 88 rfl _ _ rfl (MLW.out _) ?_)
        refine MEW.out.mono ?_
        rintro e w2 ⟨rfl, hb2⟩
        have fn := FIN.out w2 _ (AH.out.next hb2) rfl
        have FN := hid fn
        clear fn hb2
        go_wp2
        exact bodyPost_ret (v := .tuple #[.int .i64 0, .slice none 0 0, .int .i64 20]) (by simp [results, Try.results17, go_sem]) rfl FN.out
      · exact absurd (by rw [if_neg h1, if_neg h2, if_neg h3]) hE'
end Go.Proofs.Ytdjhpldiifdifaa
