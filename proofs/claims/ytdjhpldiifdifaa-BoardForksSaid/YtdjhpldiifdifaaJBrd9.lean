/- board.comeIn: the walk. -/
import Derived.Test.YtdjhpldiifdifaaJBrd7
namespace Go.Proofs.Ytdjhpldiifdifaa
set_option linter.unusedSimpArgs false
set_option linter.unusedVariables false
open Go.RowKit Go.Shelf
attribute [local go_sem] Oper.semAt_some
attribute [local go_sem ↓] Go.wp_at_zero Go.wp_at_succ

theorem EnC.order {w : World} {X : Nat} {x : En} {wx : Bool} {px : Option Nat} (hX : EnC w X x wx px) : w.cell? ⟨X, 1, none⟩ = some (.int .i64 x.o.m) ∧ w.cell? ⟨X, 2, none⟩ = some (.int .i64 x.o.s) ∧ w.cell? ⟨X, 3, none⟩ = some (.int .i64 x.o.k) ∧ w.cell? ⟨X, 4, none⟩ = some (.int .i64 x.o.f) ∧ w.cell? ⟨X, 5, none⟩ = some (.int .i64 x.o.p) ∧ w.cell? ⟨X, 6, none⟩ = some (.int .i64 x.o.t) ∧ w.cell? ⟨X, 7, none⟩ = some (.int .i64 x.o.q) ∧ w.cell? ⟨X, 8, none⟩ = some (.int .i64 x.o.pk) ∧ w.cell? ⟨X, 9, none⟩ = some (.int .i64 x.l) := by
  refine ⟨?_, ?_, ?_, ?_, ?_, ?_, ?_, ?_, ?_⟩ <;> (rw [Cells.cell hX]; rfl)
/-- What comes ahead of the meeting: the world with the order's box. -/
structure Ahead (O : Nat → Nat) (q : Nat) (w W : World) (b : Nat) (G : Mm) (nums last : Int) (evs : List Ev) (X : Nat) (x : En) : Prop where
  bd : BdC (grow O w q) q W b G nums last evs
  hd : HdC (grow O w q) (q + 5) W X x false
  box : Cells W w.heap.size x.o.vals 38
  below : Below w.heap.size w W
  step : Step (colB q) O w (grow O w q) W
theorem ahead {O : Nat → Nat} {q : Nat} {w W : World} {b : Nat} {G : Mm} {nums last : Int} {evs : List Ev} (h : BdC O q w b G nums last evs) {X : Nat} {x : En} (hX : HdC O (q + 5) w X x false) (hb : Below (w.alloc (.cells x.o.vals 38)).heap.size (w.alloc (.cells x.o.vals 38)) W) : Ahead O q w W b G nums last evs X x := by
  have hb2 : Below w.heap.size w W := ((Below.refl w.heap.size w).alloc (Nat.le_refl _) _).trans (hb.mono (by simp))
  have st : Step (fun c => c = q) O w (grow O w q) W := Step.grow (Kept.of_below hb2)
  exact ⟨h.step st (fun c hc e => by have := hc.1; omega), hX.step st (by omega), Cells.below (Cells.new w _ _) hb (by simp), hb2, ⟨st.os, st.tape, st.output, st.size, fun k hk _ => ⟨hb2.block k hk, grow_old hk⟩, fun k hk hc => .inl (by rw [grow_old hk]; exact hc)⟩⟩
theorem BdC.meets {O : Nat → Nat} {q : Nat} {w : World} {b : Nat} {G : Mm} {nums last : Int} {evs : List Ev} (h : BdC O q w b G nums last evs) (o : Od) (hs : o.s = 1 ∨ o.s = 2) : Calls Try.prog 44 #[pt b, .agg o.vals] w fun e w' => e = .returned (.bool (meetsH o ((G.bd nums last).half (3 - o.s)))) ∧ Below w.heap.size w w' := by
  have ho := other_side hs
  rw [Mm.plain G ho]
  exact meets_calls h.top o hs (h.side ho) (h.sok ho).sh (by have := few_side (G := G) ho; have := h.few; omega)
/-- The order ends without a meeting. -/
theorem come_out {O O' : Nat → Nat} {q : Nat} {w W w' : World} {b : Nat} {G : Mm} {nums last : Int} {evs : List Ev} {X : Nat} {x : En} {what : Int} (h : Ahead O q w W b G nums last evs X x) (hc : comeF (G.bd nums last) x.n x.o x.l evs = (G.bd nums last, evs ++ [⟨what, x.n, 0, 0, x.l⟩]))
    (ht : PtC O' q w' b G nums last (evs ++ [⟨what, x.n, 0, 0, x.l⟩]) (prs G.en G.live)) (st : Step (fun c => c = q + 3) (grow O w q) W O' w') : ComeP O q w b G nums last evs X x (.returned (.tuple #[])) w' := by
  obtain ⟨u1, u2, u3, u4, u5⟩ := ht.bury5 (h.hd.step st (by omega))
  have s2 := (h.step.trans (st.B (by omega) (by omega))).trans u2
  refine ⟨rfl, _, G, last, ?_, by rw [hc], by omega, s2, fun D n => Trk.same s2, .inr ⟨u3, u4, u5⟩⟩
  rw [hc]
  exact u1.board h.bd.ok h.bd.few

set_option maxRecDepth 100000 in
set_option maxHeartbeats 4000000 in
theorem comeA {O : Nat → Nat} {q : Nat} {w : World} {b : Nat} {G : Mm} {nums last : Int} {evs : List Ev} (h : BdC O q w b G nums last evs) {X : Nat} {x : En} (hX : HdC O (q + 5) w X x false) (hs : x.o.s = 1 ∨ x.o.s = 2) (hlen : evs.length ≤ 3000000000000)
    (hf : x.o.f = 4) (hm : meetsH x.o ((G.bd nums last).half (3 - x.o.s)) = true) :
    Calls Try.prog 45 #[pt b, pt X] w (ComeP O q w b G nums last evs X x) := by
  have hcf : comeF (G.bd nums last) x.n x.o x.l evs = (G.bd nums last, evs ++ [⟨6, x.n, 0, 0, x.l⟩]) := by unfold comeF; rw [if_pos ⟨hf, hm⟩]
  obtain ⟨x1, x2, x3, x4, x5, x6, x7, x8, x9⟩ := hX.ent.order
  rw [hf] at x4
  have hXl := hX.ent.lt
  have A0 := ahead h hX (Below.refl _ _)
  have me := A0.bd.meets x.o hs
  rw [hm] at me
  have HA := hid (fun W hb => ahead (W := W) h hX hb)
  unfold Od.vals at me
  rw [hf] at me
  have ME := hid me
  have HCF := hid hcf
  have HF := hid hf
  clear h hX A0 me hcf hf hm
  go_enter Try.func45, Try.ntmps45
  go_step3
  go_wp2_with fail
  refine ME.out.mono ?_
  rintro e w2 ⟨rfl, hb⟩
  have A := HA.out w2 (by unfold Od.vals; rw [HF.out]; exact hb)
  have x9 : w2.cell? ⟨X, 9, none⟩ = some (.int .i64 x.l) := A.hd.ent.order.2.2.2.2.2.2.2.2
  have hXl := A.hd.ent.lt
  have fin : ∀ e w', ToldP (grow O w q) q w2 b G nums last (evs ++ [⟨6, x.n, 0, 0, x.l⟩]) (prs G.en G.live) e w' → e = .returned (.tuple #[]) ∧ ComeP O q w b G nums last evs X x (.returned (.tuple #[])) w' := fun e w' ⟨r1, O', r2, r3⟩ => ⟨r1, come_out A HCF.out r2 r3⟩
  have TL := hid ((tell_pt A.bd.parts hlen A.hd.ent 6 0 0 x.l).mono fin)
  clear fin
  clear A hb
  generalize ComeP O q w b G nums last evs X x = R at *
  go_wp2_with fail
  refine TL.out.mono ?_
  rintro e w9 ⟨rfl, r⟩
  have RR := hid r
  clear r
  go_wp2
  first | exact RR.out | (go_end0; exact RR.out)

set_option maxRecDepth 100000 in
set_option maxHeartbeats 4000000 in
theorem comeB {O : Nat → Nat} {q : Nat} {w : World} {b : Nat} {G : Mm} {nums last : Int} {evs : List Ev} (h : BdC O q w b G nums last evs) {X : Nat} {x : En} (hX : HdC O (q + 5) w X x false) (hs : x.o.s = 1 ∨ x.o.s = 2) (hl : 0 ≤ x.l ∧ x.l ≤ 1000000000) (hlen : evs.length ≤ 3000000000000)
    (hf : x.o.f = 3) (hm : needF x.o ((G.bd nums last).half (3 - x.o.s)).all x.l ≠ 0) :
    Calls Try.prog 45 #[pt b, pt X] w (ComeP O q w b G nums last evs X x) := by
  have hcf : comeF (G.bd nums last) x.n x.o x.l evs = (G.bd nums last, evs ++ [⟨4, x.n, 0, 0, x.l⟩]) := by unfold comeF; rw [if_neg (by rw [hf]; simp), if_pos ⟨hf, hm⟩]
  obtain ⟨x1, x2, x3, x4, x5, x6, x7, x8, x9⟩ := hX.ent.order
  rw [hf] at x4
  have hXl := hX.ent.lt
  have A0 := ahead h hX (Below.refl _ _)
  have me := enough_calls A0.bd A0.hd.ent hs hl
  rw [← Mm.plain G (other_side hs) nums last, decide_eq_false hm] at me
  have HA := hid (fun W hb => ahead (W := W) h hX hb)
  unfold Od.vals at me
  rw [hf] at me
  have ME := hid me
  have HCF := hid hcf
  have HF := hid hf
  clear h hX A0 me hcf hf hm
  go_enter Try.func45, Try.ntmps45
  go_step3
  go_wp2_with fail
  refine ME.out.mono ?_
  rintro e w2 ⟨rfl, hb⟩
  have A := HA.out w2 (by unfold Od.vals; rw [HF.out]; exact hb)
  have x9 : w2.cell? ⟨X, 9, none⟩ = some (.int .i64 x.l) := A.hd.ent.order.2.2.2.2.2.2.2.2
  have hXl := A.hd.ent.lt
  have fin : ∀ e w', ToldP (grow O w q) q w2 b G nums last (evs ++ [⟨4, x.n, 0, 0, x.l⟩]) (prs G.en G.live) e w' → e = .returned (.tuple #[]) ∧ ComeP O q w b G nums last evs X x (.returned (.tuple #[])) w' := fun e w' ⟨r1, O', r2, r3⟩ => ⟨r1, come_out A HCF.out r2 r3⟩
  have TL := hid ((tell_pt A.bd.parts hlen A.hd.ent 4 0 0 x.l).mono fin)
  clear fin A hb
  generalize ComeP O q w b G nums last evs X x = R at *
  go_wp2_with fail
  refine TL.out.mono ?_
  rintro e w9 ⟨rfl, r⟩
  have RR := hid r
  clear r
  go_wp2
  first | exact RR.out | (go_end0; exact RR.out)
end Go.Proofs.Ytdjhpldiifdifaa
