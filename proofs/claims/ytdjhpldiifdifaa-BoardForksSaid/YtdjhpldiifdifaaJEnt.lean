/- board.Enter. A new entry: memory. No function of the program in sight. -/
import Derived.Test.YtdjhpldiifdifaaJStp0
namespace Go.Proofs.Ytdjhpldiifdifaa
set_option linter.unusedSimpArgs false
set_option linter.unusedVariables false
open Go.RowKit Go.Shelf
attribute [local go_sem] Oper.semAt_some
attribute [local go_sem ↓] Go.wp_at_zero Go.wp_at_succ

theorem wpList_len_run {P : Program} {w : World} {ops : Array Oper} {rest : List Oper} {o : Oper} {a : Act} {Q : Exit → Act → World → Prop} (hgd : o.guard = none) (s : Operand) (t : TypeId)
    (ho : o.op = .call { callee := .builtin .len, args := #[s], argTypes := #[t] }) (sv v : Value) (hs : a.eval s = sv) (hrun : (Builtin.len_ #[t] o.type #[sv]).run P w = .ok v w) (h : wpList P ops Q rest (a.put o.dst v) w) :
    wpList P ops Q (o :: rest) a w := by
  refine wpList_plain hgd fun K hK => ?_
  unfold Oper.wp
  simp [execOp, ho, resolve, invoke, builtin, hs, hrun, Result.andThen]
  exact hK _ _ h
/-- The order's own text, in its box. -/
structure EntA (O : Nat → Nat) (q : Nat) (w W : World) (b : Nat) (G : Mm) (nums last : Int) (o : Od) : Prop where
  bd : BdC O q W b G nums last []
  box : Cells W w.heap.size #[.int .i64 o.m, .int .i64 o.s, .int .i64 o.k, .int .i64 o.f, .int .i64 o.p, .int .i64 o.t, .int .i64 o.q, .int .i64 o.pk] 38
  below : Below w.heap.size w W
theorem entA {O : Nat → Nat} {q : Nat} {w W : World} {b : Nat} {G : Mm} {nums last : Int} {o : Od} (h : BdC O q w b G nums last []) (hb : Below (w.alloc (.cells #[.int .i64 o.m, .int .i64 o.s, .int .i64 o.k, .int .i64 o.f, .int .i64 o.p, .int .i64 o.t, .int .i64 o.q, .int .i64 o.pk] 38)).heap.size (w.alloc (.cells #[.int .i64 o.m, .int .i64 o.s, .int .i64 o.k, .int .i64 o.f, .int .i64 o.p, .int .i64 o.t, .int .i64 o.q, .int .i64 o.pk] 38)) W) : EntA O q w W b G nums last o := by
  have hb2 : Below w.heap.size w W := ((Below.refl w.heap.size w).alloc (Nat.le_refl _) _).trans (hb.mono (by simp))
  exact ⟨h.step (Step.of_below hb2 (fun _ => False)) (fun _ _ => not_false), Cells.below (Cells.new w _ _) hb (by simp), hb2⟩
theorem EntA.next {O : Nat → Nat} {q : Nat} {w W W' : World} {b : Nat} {G : Mm} {nums last : Int} {o : Od} (h : EntA O q w W b G nums last o) (hb : Below W.heap.size W W') : EntA O q w W' b G nums last o :=
  ⟨h.bd.step (Step.of_below hb (fun _ => False)) (fun _ _ => not_false), h.box.below hb h.box.lt, h.below.trans (hb.mono h.below.size)⟩
theorem EntA.cells {O : Nat → Nat} {q : Nat} {w W : World} {b : Nat} {G : Mm} {nums last : Int} {o : Od} (h : EntA O q w W b G nums last o) : W.cell? ⟨w.heap.size, 0, none⟩ = some (.int .i64 o.m) ∧ W.cell? ⟨w.heap.size, 1, none⟩ = some (.int .i64 o.s) ∧ W.cell? ⟨w.heap.size, 2, none⟩ = some (.int .i64 o.k) ∧ W.cell? ⟨w.heap.size, 3, none⟩ = some (.int .i64 o.f) ∧ W.cell? ⟨w.heap.size, 4, none⟩ = some (.int .i64 o.p) ∧ W.cell? ⟨w.heap.size, 5, none⟩ = some (.int .i64 o.t) ∧ W.cell? ⟨w.heap.size, 6, none⟩ = some (.int .i64 o.q) ∧ W.cell? ⟨w.heap.size, 7, none⟩ = some (.int .i64 o.pk) ∧ w.heap.size < W.heap.size ∧
    W.cell? ⟨b, 3, none⟩ = some (.map (some G.mb)) ∧ W.cell? ⟨b, 5, none⟩ = some (.int .i64 nums) ∧ b < W.heap.size ∧ W.frozen? ⟨b, 5, none⟩ = false := by
  obtain ⟨_, p1, p2, _, p3, _, p4⟩ := h.bd.parts.cells (s := 1) (.inl rfl)
  refine ⟨?_, ?_, ?_, ?_, ?_, ?_, ?_, ?_, h.box.lt, p1, p2, p3, p4⟩ <;> (rw [h.box.cell]; rfl)
/-- What Enter comes to. -/
def EnterP (O : Nat → Nat) (q : Nat) (w : World) (b : Nat) (G : Mm) (nums last : Int) (o : Od) (e : Ending) (w' : World) : Prop :=
  (enterE (G.bd nums last) o ≠ 0 ∧ e = .returned (.tuple #[.int .i64 0, .slice none 0 0, .int .i64 (enterE (G.bd nums last) o)]) ∧ BdC O q w' b G nums last [] ∧ Step (colB q) O w O w') ∨
  (enterE (G.bd nums last) o = 0 ∧ ∃ v O' G' last', e = .returned (.tuple #[.int .i64 (nums + 1), v, .int .i64 0]) ∧ OwnE encEv 5 40 0 w' v (enterF (G.bd nums last) o).2 ∧ (∀ g, v.ownBlock = some g → O' g = q + 3) ∧ BdC O' q w' b G' (nums + 1) last' [] ∧ G'.bd (nums + 1) last' = (enterF (G.bd nums last) o).1 ∧ Step (colB q) O w O' w')

set_option maxRecDepth 100000 in
set_option maxHeartbeats 8000000 in
theorem enter_no {O : Nat → Nat} {q : Nat} {w : World} {b : Nat} {G : Mm} {nums last : Int} (h : BdC O q w b G nums last []) (o : Od) (hE : enterE (G.bd nums last) o ≠ 0) :
    Calls Try.prog 17 #[pt b, .agg o.vals] w (EnterP O q w b G nums last o) := by
  have HA := hid (fun W hb => entA (W := W) (o := o) h hb)
  have A0 := HA.out _ (Below.refl _ _)
  have va := valid_calls o (w.alloc (.cells #[.int .i64 o.m, .int .i64 o.s, .int .i64 o.k, .int .i64 o.f, .int .i64 o.p, .int .i64 o.t, .int .i64 o.q, .int .i64 o.pk] 38))
  have fin : ∀ W e, EntA O q w W b G nums last o → e = .returned (.tuple #[.int .i64 0, .slice none 0 0, .int .i64 (enterE (G.bd nums last) o)]) → EnterP O q w b G nums last o e W := fun W e hA he => .inl ⟨hE, he, hA.bd, Step.of_below hA.below _⟩
  have FIN := hid fin
  have hE' := hE
  unfold enterE at hE'
  unfold Od.vals at va ⊢
  clear A0 fin hE
  by_cases h1 : o.ok = false
  · have he : enterE (G.bd nums last) o = 1 := by unfold enterE; rw [if_pos h1]
    rw [h1] at va
    rw [he] at FIN
    have VA := hid va
    clear va h h1 hE' he
    generalize EnterP O q w b G nums last o = R at *
    go_enter Try.func17, Try.ntmps17
    go_wp2_with fail
    refine VA.out.mono ?_
    rintro e w1 ⟨rfl, hb⟩
    have fn := FIN.out w1 _ (HA.out w1 hb) rfl
    have FN := hid fn
    clear fn hb
    go_wp2
    exact bodyPost_ret (v := .tuple #[.int .i64 0, .slice none 0 0, .int .i64 1]) (by simp [results, Try.results17, go_sem]) rfl FN.out
  · have hok : o.ok = true := by simpa using h1
    have hs := okS hok
    rw [hok] at va
    have VA := hid va
    have ML := hid (fun W (A : EntA O q w W b G nums last o) ty => (show (Builtin.len_ #[88] ty #[.map (some G.mb)]).run Try.prog W = .ok (.int .i64 (G.live.length : Int)) W by have := A.bd.map.map.len ty; rw [show (prs G.en G.live).length = G.live.length by simp [prs]] at this; exact this))
    have hlive : (G.bd nums last).live.length = G.live.length := by rw [Mm.bd_live]; simp
    rw [hlive] at hE'
    by_cases h2 : 4096 ≤ G.live.length
    · have he : enterE (G.bd nums last) o = 6 := by unfold enterE; rw [if_neg h1, hlive, if_pos h2]
      rw [he] at FIN
      have h2I : (4096 : Int) ≤ (G.live.length : Int) := by omega
      clear va h h1 hE' he hlive hok
      generalize EnterP O q w b G nums last o = R at *
      go_enter Try.func17, Try.ntmps17
      go_wp2_with fail
      refine VA.out.mono ?_
      rintro e w1 ⟨rfl, hb⟩
      have A := HA.out w1 hb
      have fn := FIN.out w1 _ A rfl
      have FN := hid fn
      have MLW := hid (ML.out w1 A)
      obtain ⟨b0, b1, b2, b3, b4, b5, b6, b7, hwl, bm, b55, hbl, fb5⟩ := A.cells
      clear fn hb A ML
      go_wp2_with (refine wpList_len_run rfl (.tmp 16) 88 rfl _ _ rfl (MLW.out _) ?_)
      exact bodyPost_ret (v := .tuple #[.int .i64 0, .slice none 0 0, .int .i64 6]) (by simp [results, Try.results17, go_sem]) rfl FN.out
    · by_cases h3 : o.f = 4 ∧ o.t = 0 ∧ meetsH o ((G.bd nums last).half (3 - o.s)) = true
      · have he : enterE (G.bd nums last) o = 20 := by unfold enterE; rw [if_neg h1, hlive, if_neg h2, if_pos h3]
        rw [he] at FIN
        have h2I : (G.live.length : Int) < 4096 := by omega
        obtain ⟨f4, t0, hm⟩ := h3
        have e4 : (o.f == 4) = true := by simpa using f4
        have e5 : (o.t == 0) = true := by simpa using t0
        have me := fun W (A : EntA O q w W b G nums last o) => A.bd.meets o hs
        rw [hm] at me
        unfold Od.vals at me
        have ME := hid me
        clear va h h1 hE' he hlive hok f4 t0 hm me
        generalize EnterP O q w b G nums last o = R at *
        go_enter Try.func17, Try.ntmps17
        go_wp2_with fail
        refine VA.out.mono ?_
        rintro e w1 ⟨rfl, hb⟩
        have A := HA.out w1 hb
        have MLW := hid (ML.out w1 A)
        have MEW := hid (ME.out w1 A)
        obtain ⟨b0, b1, b2, b3, b4, b5, b6, b7, hwl, bm, b55, hbl, fb5⟩ := A.cells
        have AH := hid A
        clear hb A ML ME
        go_wp2_with (refine wpList_len_run rfl (.tmp 16) 88 rfl _ _ rfl (MLW.out _) ?_)
        refine MEW.out.mono ?_
        rintro e w2 ⟨rfl, hb2⟩
        have fn := FIN.out w2 _ (AH.out.next hb2) rfl
        have FN := hid fn
        clear fn hb2
        go_wp2
        exact bodyPost_ret (v := .tuple #[.int .i64 0, .slice none 0 0, .int .i64 20]) (by simp [results, Try.results17, go_sem]) rfl FN.out
      · exact absurd (by rw [if_neg h1, if_neg h2, if_neg h3]) hE'
end Go.Proofs.Ytdjhpldiifdifaa
namespace Go.Proofs.Ytdjhpldiifdifaa
set_option linter.unusedSimpArgs false
set_option linter.unusedVariables false
open Go.RowKit Go.Shelf

theorem PtC.setNums {O : Nat → Nat} {q : Nat} {w : World} {b : Nat} {G : Mm} {nums last : Int} {evs : List Ev} {m : List (Int × Nat)} (h : PtC O q w b G nums last evs m) (n : Int) : PtC O q (w.setCell ⟨b, 5, none⟩ (.int .i64 n)) b G n last evs m ∧ Step (fun c => c = q + 3) O w O (w.setCell ⟨b, 5, none⟩ (.int .i64 n)) := by
  have st : Step (fun c => c = q + 3) O w O (w.setCell ⟨b, 5, none⟩ (.int .i64 n)) := Step.set h.top.col 5 _
  exact ⟨⟨h.top.setNums n, h.buy.step st (by omega) (fun _ _ => rfl), h.sell.step st (by omega) (fun _ _ => rfl), h.map.step st (by omega), h.wait.step st (by omega) (fun _ _ => rfl)⟩, st⟩
/-- A new block, of whatever colour. -/
theorem PtC.fresh {O : Nat → Nat} {q : Nat} {w : World} {b : Nat} {G : Mm} {nums last : Int} {evs : List Ev} {m : List (Int × Nat)} (h : PtC O q w b G nums last evs m) {w' : World} (hb : Below w.heap.size w w') (c : Nat) : PtC (grow O w c) q w' b G nums last evs m ∧ Step (colB q) O w (grow O w c) w' := by
  have st : Step (fun k => k = 0) O w (grow O w c) w' := Step.grow (Kept.of_below hb)
  refine ⟨h.step st (fun x hx _ e => by have := hx.1; omega), ⟨st.os, st.tape, st.output, st.size, fun k hk _ => ⟨hb.block k hk, grow_old hk⟩, fun k hk hc => .inl (by rw [grow_old hk]; exact hc)⟩⟩
/-- append(waiting, x) -/
theorem ent_append {w : World} {v : Value} {l : List Nat} (h : OwnE encPt 1 92 0 w v l) (hlen : l.length ≤ 1000000) (X : Nat) {B : Nat} (hB : Cells w B #[pt X] 92) (ty : TypeId) :
    ∃ v' w', (Builtin.append_ #[89, 89] ty #[v, .slice (some ⟨B, 0, none⟩) 1 1]).run Try.prog w = .ok v' w' ∧ OwnE encPt 1 92 0 w' v' (l ++ [X]) ∧ Kept (fun k => some k = v.ownBlock) w w' ∧ (v'.ownBlock = v.ownBlock ∨ v'.ownBlock = some w.heap.size) := by
  obtain ⟨i, h1, h2, h3, h4⟩ := info_ptr infoEnt
  obtain ⟨v', w', r1, r2, r3, _, r5⟩ := run_append_own_at w 0 89 ty 92 i _ 1 8 undEnt h1 h2 h3 h4 rfl (by omega) v l.length (flatE encPt l) h ⟨B, 0, none⟩ 1 1 [pt X] rfl
    (fun j u hu => news_of hB j u (by simpa using hu)) (by intro u hu; rw [List.mem_singleton] at hu; rw [hu]; rfl) (by unfold maxLen; omega) (by omega) (by omega)
  refine ⟨v', w', r1, ?_, Kept.of_grown r3, r5⟩
  unfold OwnE
  rw [flatE_snoc, List.length_append]
  exact r2
/-- The new entry waits: everything but the map and the events. W: the world of append's call; w1: behind it. -/
theorem PtC.addWait {O : Nat → Nat} {q : Nat} {w w1 : World} {b : Nat} {G : Mm} {nums last : Int} {evs : List Ev} {m : List (Int × Nat)} (h : PtC O q w b G nums last evs m) {vw v' : Value} (hc : w.cell? ⟨b, 4, none⟩ = some vw) {X : Nat} {x : En} (hX : HdC O (q + 4) w X x true) (hXn : X ∉ G.wt)
    (ho : OwnE encPt 1 92 0 w1 v' (G.wt ++ [X])) (hk : Kept (fun k => some k = vw.ownBlock) w w1) (hb : v'.ownBlock = vw.ownBlock ∨ v'.ownBlock = some w.heap.size) (hfar : ∀ s, s = 1 ∨ s = 2 → ∀ E ∈ ensL (G.L s), E ≠ X) :
    ∃ O', PtC O' q (w1.setCell ⟨b, 4, none⟩ v') b { G with wt := G.wt ++ [X], en := setEn G.en X x } nums last evs m ∧ Step (fun c => c = q + 3) O w O' (w1.setCell ⟨b, 4, none⟩ v') ∧ HdC O' (q + 4) (w1.setCell ⟨b, 4, none⟩ v') X x true := by
  obtain ⟨vw', ve, h1, h2, h3, h4, h5⟩ := h.top.cell
  have e : vw' = vw := by
    rw [h1.cell] at hc
    injection hc
  subst e
  have hbv : ∀ g, vw'.ownBlock = some g → g ≠ b := fun g hg => by obtain ⟨cs, hcs⟩ := own_lt h2 hg; exact hcs.ne h1 (by decide)
  have hB1 := h1.kept hk (fun e => hbv b e.symm rfl)
  have hve : OwnE encEv 5 40 0 w1 ve evs := OwnE.kept h3 hk (fun g hg e => by
    obtain ⟨cs, hcs⟩ := own_lt h3 hg
    obtain ⟨cs', hcs'⟩ := own_lt h2 e.symm
    exact hcs.ne hcs' (by decide) rfl)
  have k2 : Kept (fun k => O k = q + 3) w (w1.setCell ⟨b, 4, none⟩ v') := by
    have k1 : Kept (fun k => O k = q + 3) w w1 := hk.mono (fun k e => h4 k e.symm)
    exact k1.set (C := b) h.top.col 4 v'
  have st : Step (fun c => c = q + 3) O w (grow O w (q + 3)) (w1.setCell ⟨b, 4, none⟩ v') := Step.grow k2
  have hw := h.wait.step st (by omega) (fun _ _ => rfl)
  have hx2 := hX.step st (by omega)
  have enf : ∀ {s}, s = 1 ∨ s = 2 → ∀ E ∈ ensL (G.L s), setEn G.en X x E = G.en E := fun {s} hs E hE => setEn_far _ _ (hfar s hs E hE)
  refine ⟨_, ⟨⟨⟨v', ve, hB1.set 4 v', ho.set hB1 (by decide) 4 v', hve.set hB1 (by decide) 4 v', fun g hg => ?_, fun g hg => grow_same (h5 g hg)⟩, grow_same h.top.col⟩, ?_, ?_, h.map.step st (by omega), ⟨fun D hD => ?_, ?_⟩⟩, st, hx2⟩
  · rcases hb with hb | hb
    · rw [hb] at hg; exact grow_same (h4 g hg)
    · rw [hb] at hg
      injection hg with hg
      rw [← hg]
      exact grow_new (Nat.le_refl _)
  · exact h.buy.step st (by omega) (fun E hE => enf (.inl rfl) E hE)
  · exact h.sell.step st (by omega) (fun E hE => enf (.inr rfl) E hE)
  · rcases List.mem_append.1 hD with hD | hD
    · obtain ⟨d1, d2⟩ := hw.ent D hD
      refine ⟨d1, ?_⟩
      show EnC _ D (setEn G.en X x D) true none
      rw [setEn_far _ _ (fun e => hXn (by rw [← e]; exact hD))]
      exact d2
    · obtain rfl := List.mem_singleton.1 hD
      refine ⟨hx2.col, ?_⟩
      show EnC _ D (setEn G.en D x D) true none
      rw [setEn_self]
      exact hx2.ent
  · exact List.nodup_append.2 ⟨h.wait.nod, by simp, fun a ha c hc e => by
      rw [List.mem_singleton] at hc
      subst hc
      exact hXn (by rw [← e]; exact ha)⟩
/-- The entry in hand is to wait. -/
theorem PtC.handWait {O : Nat → Nat} {q : Nat} {w : World} {b : Nat} {G : Mm} {nums last : Int} {evs : List Ev} {m : List (Int × Nat)} (h : PtC O q w b G nums last evs m) {X : Nat} {x : En} {wx : Bool} (hX : HdC O (q + 5) w X x wx) :
    PtC (paint O X (q + 4)) q w b G nums last evs m ∧ HdC (paint O X (q + 4)) (q + 4) w X x wx ∧ Step (colB q) O w (paint O X (q + 4)) w ∧ X ∉ G.wt ∧ ∀ s, s = 1 ∨ s = 2 → ∀ E ∈ ensL (G.L s), E ≠ X := by
  have st : Step (fun c => c = q + 5 ∨ c = q + 4) O w (paint O X (q + 4)) w := Step.paint O w (.inl hX.col) (.inl (.inr rfl))
  have nW : X ∉ G.wt := fun hm => by have := (h.wait.ent X hm).1; rw [hX.col] at this; omega
  refine ⟨⟨h.top.step st (by omega), h.buy.step st (by omega) (fun _ _ => rfl), h.sell.step st (by omega) (fun _ _ => rfl), h.map.step st (by omega), ⟨fun E hE => ?_, h.wait.nod⟩⟩, ⟨hX.ent, paint_self _ _ _⟩, st.wider (fun c hc => ?_), nW, fun s hs E hE e => ?_⟩
  · obtain ⟨d1, d2⟩ := h.wait.ent E hE
    exact ⟨by rw [paint_far O (fun e => nW (by rw [← e]; exact hE))]; exact d1, d2⟩
  · rcases hc with rfl | rfl <;> exact ⟨by omega, by omega⟩
  · have := ((h.side hs).entry hE).1
    rw [e, hX.col] at this
    have := (colS_ne q hs).2.2.2.1
    omega
theorem Mm.addWait_plain (G : Mm) {X : Nat} {x : En} (hW : X ∉ G.wt) (hf : ∀ s, s = 1 ∨ s = 2 → ∀ E ∈ ensL (G.L s), E ≠ X) (nums last : Int) : Mm.bd { G with wt := G.wt ++ [X], en := setEn G.en X x } nums last = { G.bd nums last with wait := (G.bd nums last).wait ++ [x] } ∧
    (Mm.live { G with wt := G.wt ++ [X], en := setEn G.en X x }).Perm (X :: G.live) ∧ ∀ E ∈ G.live, setEn G.en X x E = G.en E := by
  have far : ∀ E, E ≠ X → setEn G.en X x E = G.en E := fun E hE => setEn_far _ _ hE
  refine ⟨?_, ?_, fun E hE => far E ?_⟩
  · show Bd.mk (plainH G.lb (setEn G.en X x)) (plainH G.ls (setEn G.en X x)) ((G.wt ++ [X]).map (setEn G.en X x)) nums last = Bd.mk (plainH G.lb G.en) (plainH G.ls G.en) (G.wt.map G.en ++ [x]) nums last
    rw [plainH_congr (en := G.en) (ls := G.lb) (fun E hE => far E (hf 1 (.inl rfl) E hE)), plainH_congr (en := G.en) (ls := G.ls) (fun E hE => far E (hf 2 (.inr rfl) E hE)), List.map_append, List.map_singleton, setEn_self,
      List.map_congr_left (fun E hE => far E (fun e => hW (by rw [← e]; exact hE)))]
  · show (ensL G.lb ++ (ensL G.ls ++ (G.wt ++ [X]))).Perm (X :: (ensL G.lb ++ (ensL G.ls ++ G.wt)))
    have h1 : (G.wt ++ [X]).Perm (X :: G.wt) := List.perm_append_comm
    exact (((h1.append_left (ensL G.ls)).trans List.perm_middle).append_left (ensL G.lb)).trans List.perm_middle
  · have := (Mm.put_live (s := 1) (.inl rfl) G [] G.en).1.mem_iff.1 hE
    rcases List.mem_append.1 this with h1 | h1
    · exact hf 1 (.inl rfl) E h1
    · rcases List.mem_append.1 h1 with h1 | h1
      · exact hf 2 (.inr rfl) E h1
      · exact fun e => hW (by rw [← e]; exact h1)
/-- A known entry's number. -/
theorem Trk.cell {O : Nat → Nat} {q : Nat} {w : World} {b : Nat} {G : Mm} {nums last : Int} {evs : List Ev} {m : List (Int × Nat)} (h : PtC O q w b G nums last evs m) {X : Nat} {n : Int} (ht : Trk O w G X n) : X < w.heap.size ∧ w.cell? ⟨X, 0, none⟩ = some (.int .i64 n) := by
  rcases ht with ⟨h1, rfl⟩ | ⟨_, h2, h3⟩
  · have := (Mm.put_live (s := 1) (.inl rfl) G [] G.en).1.mem_iff.1 h1
    have key : ∃ wx px, EnC w X (G.en X) wx px := by
      rcases List.mem_append.1 this with h2 | h2
      · obtain ⟨_, P, hP⟩ := (h.side (.inl rfl)).entry h2
        exact ⟨_, _, hP⟩
      · rcases List.mem_append.1 h2 with h2 | h2
        · obtain ⟨_, P, hP⟩ := (h.side (.inr rfl)).entry (en := G.en) h2
          exact ⟨_, _, hP⟩
        · exact ⟨_, _, (h.wait.ent X h2).2⟩
    obtain ⟨wx, px, hE⟩ := key
    exact ⟨hE.lt, hE.cells.1⟩
  · exact ⟨h2, h3⟩
end Go.Proofs.Ytdjhpldiifdifaa
