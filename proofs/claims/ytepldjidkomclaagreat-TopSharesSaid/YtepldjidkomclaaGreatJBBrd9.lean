/- board.comeIn: the walk. board.comeIn: the meeting. slices.IndexFunc, slices.Delete, slices.DeleteFunc at pointers of entries. A waiting entry is taken in hand: memory. No function of the program in sight. -/
import Derived.Lib.SliceRun
import Derived.Test.YtepldjidkomclaaGreatJBBrd4
namespace Go.Proofs.YtepldjidkomclaaGreat.Bo
set_option linter.unusedSimpArgs false
set_option linter.unusedVariables false
open Go.RowKit Go.Shelf
attribute [local go_sem] Oper.semAt_some
attribute [local go_sem ↓] Go.wp_at_zero Go.wp_at_succ
theorem EnC.order {w : World} {X : Nat} {x : En} {wx : Bool} {px : Option Nat} (hX : EnC w X x wx px) : w.cell? ⟨X, 1, none⟩ = some (.int .i64 x.o.m) ∧ w.cell? ⟨X, 2, none⟩ = some (.int .i64 x.o.s) ∧ w.cell? ⟨X, 3, none⟩ = some (.int .i64 x.o.k) ∧ w.cell? ⟨X, 4, none⟩ = some (.int .i64 x.o.f) ∧ w.cell? ⟨X, 5, none⟩ = some (.int .i64 x.o.p) ∧ w.cell? ⟨X, 6, none⟩ = some (.int .i64 x.o.t) ∧ w.cell? ⟨X, 7, none⟩ = some (.int .i64 x.o.q) ∧ w.cell? ⟨X, 8, none⟩ = some (.int .i64 x.o.pk) ∧ w.cell? ⟨X, 9, none⟩ = some (.int .i64 x.l) := by
  refine ⟨?_, ?_, ?_, ?_, ?_, ?_, ?_, ?_, ?_⟩ <;> (rw [Cells.cell hX]; rfl)
structure Ahead (O : Nat → Nat) (q : Nat) (w W : World) (b : Nat) (G : Mm) (nums last : Int) (evs : List Ev) (X : Nat) (x : En) : Prop where
  bd : BdC (grow O w q) q W b G nums last evs
  hd : HdC (grow O w q) (q + 5) W X x false
  box : Cells W w.heap.size x.o.vals 34
  below : Below w.heap.size w W
  step : Step (colB q) O w (grow O w q) W
theorem ahead {O : Nat → Nat} {q : Nat} {w W : World} {b : Nat} {G : Mm} {nums last : Int} {evs : List Ev} (h : BdC O q w b G nums last evs) {X : Nat} {x : En} (hX : HdC O (q + 5) w X x false) (hb : Below (w.alloc (.cells x.o.vals 34)).heap.size (w.alloc (.cells x.o.vals 34)) W) : Ahead O q w W b G nums last evs X x := by
  have hb2 : Below w.heap.size w W := ((Below.refl w.heap.size w).alloc (Nat.le_refl _) _).trans (hb.mono (by simp))
  have st : Step (fun c => c = q) O w (grow O w q) W := Step.grow (Kept.of_below hb2)
  exact ⟨h.step st (fun c hc e => by have := hc.1; omega), hX.step st (by omega), Cells.below (Cells.new w _ _) hb (by simp), hb2, ⟨st.os, st.tape, st.output, st.size, fun k hk _ => ⟨hb2.block k hk, grow_old hk⟩, fun k hk hc => .inl (by rw [grow_old hk]; exact hc)⟩⟩
theorem BdC.meets {O : Nat → Nat} {q : Nat} {w : World} {b : Nat} {G : Mm} {nums last : Int} {evs : List Ev} (h : BdC O q w b G nums last evs) (o : Od) (hs : o.s = 1 ∨ o.s = 2) : Calls Tryz.prog 22 #[pt b, .agg o.vals] w fun e w' => e = .returned (.bool (meetsH o ((G.bd nums last).half (3 - o.s)))) ∧ Below w.heap.size w w' := by
  have ho := other_side hs
  rw [Mm.plain G ho]
  exact meets_calls h.top o hs (h.side ho) (h.sok ho).sh (by have := few_side (G := G) ho; have := h.few; omega)
theorem come_out {O O' : Nat → Nat} {q : Nat} {w W w' : World} {b : Nat} {G : Mm} {nums last : Int} {evs : List Ev} {X : Nat} {x : En} {what : Int} (h : Ahead O q w W b G nums last evs X x) (hc : comeF (G.bd nums last) x.n x.o x.l evs = (G.bd nums last, evs ++ [⟨what, x.n, 0, 0, x.l⟩]))
    (ht : PtC O' q w' b G nums last (evs ++ [⟨what, x.n, 0, 0, x.l⟩]) (prs G.en G.live)) (st : Step (fun c => c = q + 3) (grow O w q) W O' w') : ComeP O q w b G nums last evs X x (.returned (.tuple #[])) w' := by
  obtain ⟨u1, u2, u3, u4, u5⟩ := ht.bury5 (h.hd.step st (by omega))
  have s2 := (h.step.trans (st.B (by omega) (by omega))).trans u2
  refine ⟨rfl, _, G, last, ?_, by rw [hc], by omega, s2, fun D n => Trk.same s2, .inr ⟨u3, u4, u5⟩⟩
  rw [hc]
  exact u1.board h.bd.ok h.bd.few
set_option maxRecDepth 100000 in
set_option maxHeartbeats 4000000 in
theorem comeA {O : Nat → Nat} {q : Nat} {w : World} {b : Nat} {G : Mm} {nums last : Int} {evs : List Ev} (h : BdC O q w b G nums last evs) {X : Nat} {x : En} (hX : HdC O (q + 5) w X x false) (hs : x.o.s = 1 ∨ x.o.s = 2) (hlen : evs.length ≤ 3000000000000)
    (hf : x.o.f = 4) (hm : meetsH x.o ((G.bd nums last).half (3 - x.o.s)) = true) :
    Calls Tryz.prog 23 #[pt b, pt X] w (ComeP O q w b G nums last evs X x) := by
  have hcf : comeF (G.bd nums last) x.n x.o x.l evs = (G.bd nums last, evs ++ [⟨6, x.n, 0, 0, x.l⟩]) := by unfold comeF; rw [if_pos ⟨hf, hm⟩]
  obtain ⟨x1, x2, x3, x4, x5, x6, x7, x8, x9⟩ := hX.ent.order
  rw [hf] at x4
  have hXl := hX.ent.lt
  have A0 := ahead h hX (Below.refl _ _)
  have me := A0.bd.meets x.o hs
  rw [hm] at me
  have HA := hid (fun W hb => ahead (W := W) h hX hb)
  unfold Od.vals at me
  rw [hf] at me
  have ME := hid me
  have HCF := hid hcf
  have HF := hid hf
  clear h hX A0 me hcf hf hm
  go_enter Tryz.func23, Tryz.ntmps23
  go_step3
  go_wp2_with fail
  refine ME.out.mono ?_
  rintro e w2 ⟨rfl, hb⟩
  have A := HA.out w2 (by unfold Od.vals; rw [HF.out]; exact hb)
  have x9 : w2.cell? ⟨X, 9, none⟩ = some (.int .i64 x.l) := A.hd.ent.order.2.2.2.2.2.2.2.2
  have hXl := A.hd.ent.lt
  have fin : ∀ e w', ToldP (grow O w q) q w2 b G nums last (evs ++ [⟨6, x.n, 0, 0, x.l⟩]) (prs G.en G.live) e w' → e = .returned (.tuple #[]) ∧ ComeP O q w b G nums last evs X x (.returned (.tuple #[])) w' := fun e w' ⟨r1, O', r2, r3⟩ => ⟨r1, come_out A HCF.out r2 r3⟩
  have TL := hid ((tell_pt A.bd.parts hlen A.hd.ent 6 0 0 x.l).mono fin)
  clear fin
  clear A hb
  generalize ComeP O q w b G nums last evs X x = R at *
  go_wp2_with fail
  refine TL.out.mono ?_
  rintro e w9 ⟨rfl, r⟩
  have RR := hid r
  clear r
  go_wp2
  first | exact RR.out | (go_end0; exact RR.out)
set_option maxRecDepth 100000 in
set_option maxHeartbeats 4000000 in
theorem comeB {O : Nat → Nat} {q : Nat} {w : World} {b : Nat} {G : Mm} {nums last : Int} {evs : List Ev} (h : BdC O q w b G nums last evs) {X : Nat} {x : En} (hX : HdC O (q + 5) w X x false) (hs : x.o.s = 1 ∨ x.o.s = 2) (hl : 0 ≤ x.l ∧ x.l ≤ 1000000000) (hlen : evs.length ≤ 3000000000000)
    (hf : x.o.f = 3) (hm : needF x.o ((G.bd nums last).half (3 - x.o.s)).all x.l ≠ 0) :
    Calls Tryz.prog 23 #[pt b, pt X] w (ComeP O q w b G nums last evs X x) := by
  have hcf : comeF (G.bd nums last) x.n x.o x.l evs = (G.bd nums last, evs ++ [⟨4, x.n, 0, 0, x.l⟩]) := by unfold comeF; rw [if_neg (by rw [hf]; simp), if_pos ⟨hf, hm⟩]
  obtain ⟨x1, x2, x3, x4, x5, x6, x7, x8, x9⟩ := hX.ent.order
  rw [hf] at x4
  have hXl := hX.ent.lt
  have A0 := ahead h hX (Below.refl _ _)
  have me := enough_calls A0.bd A0.hd.ent hs hl
  rw [← Mm.plain G (other_side hs) nums last, decide_eq_false hm] at me
  have HA := hid (fun W hb => ahead (W := W) h hX hb)
  unfold Od.vals at me
  rw [hf] at me
  have ME := hid me
  have HCF := hid hcf
  have HF := hid hf
  clear h hX A0 me hcf hf hm
  go_enter Tryz.func23, Tryz.ntmps23
  go_step3
  go_wp2_with fail
  refine ME.out.mono ?_
  rintro e w2 ⟨rfl, hb⟩
  have A := HA.out w2 (by unfold Od.vals; rw [HF.out]; exact hb)
  have x9 : w2.cell? ⟨X, 9, none⟩ = some (.int .i64 x.l) := A.hd.ent.order.2.2.2.2.2.2.2.2
  have hXl := A.hd.ent.lt
  have fin : ∀ e w', ToldP (grow O w q) q w2 b G nums last (evs ++ [⟨4, x.n, 0, 0, x.l⟩]) (prs G.en G.live) e w' → e = .returned (.tuple #[]) ∧ ComeP O q w b G nums last evs X x (.returned (.tuple #[])) w' := fun e w' ⟨r1, O', r2, r3⟩ => ⟨r1, come_out A HCF.out r2 r3⟩
  have TL := hid ((tell_pt A.bd.parts hlen A.hd.ent 4 0 0 x.l).mono fin)
  clear fin A hb
  generalize ComeP O q w b G nums last evs X x = R at *
  go_wp2_with fail
  refine TL.out.mono ?_
  rintro e w9 ⟨rfl, r⟩
  have RR := hid r
  clear r
  go_wp2
  first | exact RR.out | (go_end0; exact RR.out)
end Go.Proofs.YtepldjidkomclaaGreat.Bo
namespace Go.Proofs.YtepldjidkomclaaGreat.Bo
set_option linter.unusedSimpArgs false
set_option linter.unusedVariables false
open Go.RowKit Go.Shelf
attribute [local go_sem] Oper.semAt_some
attribute [local go_sem ↓] Go.wp_at_zero Go.wp_at_succ
theorem MtC.next {O0 O1 O' : Nat → Nat} {q : Nat} {w0 w1 w' : World} {b : Nat} {G0 G1 G' : Mm} {nums : Int} {X : Nat} {x : En} {B4 : Nat} {s : Mt} (h : MtC O0 O1 q w0 w1 b G0 G1 nums X x B4 s) (hn : 1 ≤ x.n ∧ x.n ≤ nums) (hl : 0 < s.left) {y : En} (hy : frontH s.h = some y)
    (pt : PtC O' q w' b G' nums (meet1 x.o x.n (3 - x.o.s) y s).last (meet1 x.o x.n (3 - x.o.s) y s).evs (prs G'.en G'.live)) (hd : HdC O' (q + 5) w' X { x with l := (meet1 x.o x.n (3 - x.o.s) y s).left } false)
    (ph : plainH (G'.L (3 - x.o.s)) G'.en = (meet1 x.o x.n (3 - x.o.s) y s).h) (same : SameB (3 - x.o.s) G1 G') (len : G'.live.length ≤ G1.live.length) (st : Step (colB q) O1 w1 O' w') (trk : ∀ D n, Trk O1 w1 G1 D n → Trk O' w' G' D n) :
    MtC O0 O' q w0 w' b G0 G' nums X x B4 (meet1 x.o x.n (3 - x.o.s) y s) ∧ sizeH (meet1 x.o x.n (3 - x.o.s) y s).h + 1 ≤ sizeH s.h := by
  obtain ⟨g1, g2, g3, g4, g5⟩ := meet1_ok (o := x.o) h.ok hn hl hy
  have nB : ¬ colB q (O1 B4) := by rw [h.colb]; exact fun e => by have := e.1; omega
  refine ⟨⟨pt, hd, g1, ph, h.same.trans same, Nat.le_trans len h.len, h.box.kept st.kept nB, ?_, h.step.trans st, ?_, fun D n hD => trk D n (h.trk D n hD)⟩, g3⟩
  · rw [(st.old B4 h.box.lt nB).2, h.colb]
  · have := h.sum; omega
theorem MtC.below {O0 O : Nat → Nat} {q : Nat} {w0 w w' : World} {b : Nat} {G0 G : Mm} {nums : Int} {X : Nat} {x : En} {B4 : Nat} {s : Mt} (h : MtC O0 O q w0 w b G0 G nums X x B4 s) (hb : Below w.heap.size w w') : MtC O0 O q w0 w' b G0 G nums X x B4 s :=
  ⟨h.pt.below hb, h.hd.below hb, h.ok, h.ph, h.same, h.len, h.box.below hb h.box.lt, h.colb, h.step.trans (Step.of_below hb _), h.sum, fun D n hD => Trk.same (Step.of_below hb (colB q)) (h.trk D n hD)⟩
theorem MtC.front {O0 O : Nat → Nat} {q : Nat} {w0 w : World} {b : Nat} {G0 G : Mm} {nums : Int} {X : Nat} {x : En} {B4 : Nat} {s : Mt} (h : MtC O0 O q w0 w b G0 G nums X x B4 s) (hm : meetsH x.o s.h = true) : ∃ Y, frontL (G.L (3 - x.o.s)) = some Y ∧ frontH s.h = some (G.en Y) ∧ x.o.good (G.en Y).o.p = true := by
  obtain ⟨y, hy, hg⟩ := meetsH_front hm
  have hsh := h.ok.ok.sh
  rw [← h.ph] at hsh
  have hp := front_plain hsh
  rw [h.ph, hy] at hp
  cases hf : frontL (G.L (3 - x.o.s)) with
  | none => rw [hf] at hp; cases hp
  | some Y =>
    rw [hf] at hp
    have hp : y = G.en Y := by injection hp
    subst hp
    exact ⟨Y, rfl, hy, hg⟩
theorem bd_put {s : Int} (hs : s = 1 ∨ s = 2) {G G' : Mm} (h : SameB s G G') (nums last last' : Int) : G'.bd nums last' = { (G.bd nums last).put s (plainH (G'.L s) G'.en) with last := last' } := by
  have hF := h.plainF
  have hW := h.plainW
  rcases hs with rfl | rfl
  · have hF : plainH G'.ls G'.en = plainH G.ls G.en := hF
    show Bd.mk _ _ _ _ _ = Bd.mk _ _ _ _ _
    rw [hF, hW]
    rfl
  · have hF : plainH G'.lb G'.en = plainH G.lb G.en := hF
    show Bd.mk _ _ _ _ _ = Bd.mk _ _ _ _ _
    rw [hF, hW]
    rfl
theorem comeF_meet {S : Bd} {n : Int} {o : Od} {left : Int} {evs : List Ev} (hA : ¬ (o.f = 4 ∧ meetsH o (S.half (3 - o.s)) = true)) (hB : ¬ (o.f = 3 ∧ needF o (S.half (3 - o.s)).all left ≠ 0)) {r : Mt} (hr : meetF o n (3 - o.s) (sizeH (S.half (3 - o.s))) ⟨left, S.half (3 - o.s), S.last, evs⟩ = r) {S1 : Bd} (h1 : S1 = { S.put (3 - o.s) r.h with last := r.last }) :
    comeF S n o left evs = if r.left = 0 then (S1, r.evs) else if o.f = 1 ∨ o.f = 4 then (S1.put o.s (addH o.s ⟨n, o, r.left, if 0 < o.pk then min o.pk r.left else r.left⟩ (S1.half o.s)), r.evs ++ [⟨2, n, 0, o.p, r.left⟩]) else (S1, r.evs ++ [⟨3, n, 0, 0, r.left⟩]) := by
  unfold comeF
  rw [if_neg hA, if_neg hB, hr, h1]
theorem put_last {S : Bd} {s : Int} (hs : s = 1 ∨ s = 2) (h : Half) : ({ S.put s h with last := S.last } : Bd) = S.put s h := by rcases hs with rfl | rfl <;> rfl
structure Behind (O : Nat → Nat) (q : Nat) (w W : World) (b : Nat) (G : Mm) (nums last : Int) (evs : List Ev) (X : Nat) (x : En) (O1 : Nat → Nat) (G1 : Mm) (s : Mt) : Prop where
  m : MtC O O1 q w W b G G1 nums X x w.heap.size s
  come : comeF (G.bd nums last) x.n x.o x.l evs = if s.left = 0 then (G1.bd nums s.last, s.evs) else if x.o.f = 1 ∨ x.o.f = 4 then ((G1.bd nums s.last).put x.o.s (addH x.o.s ⟨x.n, x.o, s.left, if 0 < x.o.pk then min x.o.pk s.left else s.left⟩ ((G1.bd nums s.last).half x.o.s)), s.evs ++ [⟨2, x.n, 0, x.o.p, s.left⟩]) else (G1.bd nums s.last, s.evs ++ [⟨3, x.n, 0, 0, s.left⟩])
  ok : BdOk (comeF (G.bd nums last) x.n x.o x.l evs).1
  few : G.live.length + 1 ≤ 4096
theorem Behind.fin {O : Nat → Nat} {q : Nat} {w W : World} {b : Nat} {G : Mm} {nums last : Int} {evs : List Ev} {X : Nat} {x : En} {O1 : Nat → Nat} {G1 : Mm} {s : Mt} (h : Behind O q w W b G nums last evs X x O1 G1 s) {O' : Nat → Nat} {G' : Mm} {w' : World} {evs' : List Ev} {S' : Bd}
    (hc : comeF (G.bd nums last) x.n x.o x.l evs = (S', evs')) (hS : G'.bd nums s.last = S') (pt : PtC O' q w' b G' nums s.last evs' (prs G'.en G'.live)) (few : G'.live.length ≤ G.live.length + 1) (st : Step (colB q) O1 W O' w') (trk : ∀ D n, Trk O1 W G1 D n → Trk O' w' G' D n) (hX : Trk O' w' G' X x.n) : ComeP O q w b G nums last evs X x (.returned (.tuple #[])) w' := by
  have hok := h.ok
  have hf := h.few
  refine ⟨rfl, O', G', s.last, ?_, by rw [hc, hS], few, h.m.step.trans st, fun D n hD => trk D n (h.m.trk D n hD), hX⟩
  rw [hc] at hok ⊢
  rw [← hS] at hok
  exact pt.board hok (by omega)
set_option maxRecDepth 100000 in
set_option maxHeartbeats 8000000 in
theorem comeC {O : Nat → Nat} {q : Nat} {w : World} {b : Nat} {G : Mm} {nums last : Int} {evs : List Ev} (h : BdC O q w b G nums last evs) {X : Nat} {x : En} (hX : HdC O (q + 5) w X x false) (ho : x.o.ok = true) (hn : 1 ≤ x.n ∧ x.n ≤ nums) (hnew : x.n ∉ numsL (G.bd nums last).live) (hl : 1 ≤ x.l ∧ x.l ≤ x.o.q)
    (few : G.live.length + 1 ≤ 4096) (hev : ∀ e ∈ evs, EvOk nums e) (hlen : evs.length + sizeL (G.bd nums last).live ≤ 2999999999990)
    (hA : ¬ (x.o.f = 4 ∧ meetsH x.o ((G.bd nums last).half (3 - x.o.s)) = true)) (hB : ¬ (x.o.f = 3 ∧ needF x.o ((G.bd nums last).half (3 - x.o.s)).all x.l ≠ 0)) :
    Calls Tryz.prog 23 #[pt b, pt X] w (ComeP O q w b G nums last evs X x) := by
  have hs := okS ho
  have hq := okQ ho
  obtain ⟨x1, x2, x3, x4, x5, x6, x7, x8, x9⟩ := hX.ent.order
  have hXl := hX.ent.lt
  have A0 := ahead h hX (Below.refl _ _)
  have me := A0.bd.meets x.o hs
  have en := enough_calls A0.bd A0.hd.ent hs (by omega)
  rw [← Mm.plain G (other_side hs) nums last] at en
  have HA := hid (fun W hb => ahead (W := W) h hX hb)
  unfold Od.vals at me en HA
  have EN := hid en
  have NA := hid hA
  have NB := hid hB
  have HO := hid ho
  have HH := hid h
  have HX := hid hX
  have HNEW := hid hnew
  have HEV := hid hev
  have ME := hid me
  clear h hX A0 me en hA hB ho hnew hev
  go_enter Tryz.func23, Tryz.ntmps23
  go_step3
  go_upto_block 0 with fail
  go_cut [] (fun wx => Ahead O q w wx b G nums last evs X x)
  case first =>
    by_cases f4 : x.o.f = 4
    · have hmf : meetsH x.o ((G.bd nums last).half (3 - x.o.s)) = false := by
        cases hc : meetsH x.o ((G.bd nums last).half (3 - x.o.s)) with
        | false => rfl
        | true => exact absurd ⟨f4, hc⟩ NA.out
      rw [hmf] at ME
      have e4 : (x.o.f == 4) = true := by simpa using f4
      have e3 : (x.o.f == 3) = false := by simp [f4]
      clear f4 hmf
      go_wp2_with fail
      refine ME.out.mono ?_
      rintro e w2 ⟨rfl, hb⟩
      have A := HA.out w2 hb
      have c3 : w2.cell? ⟨w.heap.size, 3, none⟩ = some (.int .i64 x.o.f) := by rw [A.box.cell]; rfl
      have hwl := A.box.lt
      have AH := hid A
      clear A hb
      go_wp2
      go_meet
      exact AH.out
    · have e4 : (x.o.f == 4) = false := by simpa using f4
      by_cases f3 : x.o.f = 3
      · have hmf : needF x.o ((G.bd nums last).half (3 - x.o.s)).all x.l = 0 := by
          refine Decidable.byContradiction fun hc => NB.out ⟨f3, hc⟩
        rw [decide_eq_true hmf] at EN
        have e3 : (x.o.f == 3) = true := by simpa using f3
        clear f4 f3 hmf
        go_wp2_with fail
        refine EN.out.mono ?_
        rintro e w2 ⟨rfl, hb⟩
        have A := HA.out w2 hb
        have AH := hid A
        clear A
        go_wp2
        go_meet
        exact AH.out
      · have e3 : (x.o.f == 3) = false := by simpa using f3
        clear f4 f3
        go_wp2
        go_meet
        exact HA.out _ (Below.refl _ _)
  case rest =>
    have AH := hid hcut
    have A := hcut
    have ho := other_side hs
    have c1 : wc.cell? ⟨w.heap.size, 1, none⟩ = some (.int .i64 x.o.s) := by rw [A.box.cell]; rfl
    have hwl := A.box.lt
    have ot := other_calls A.bd.top hs
    rw [← G.other hs] at ot
    have OT := hid ot
    obtain ⟨S0, hS0⟩ : ∃ S0 : Mt, S0 = ⟨x.l, (G.bd nums last).half (3 - x.o.s), last, evs⟩ := ⟨_, rfl⟩
    have hm0 : MtC O (grow O w q) q w wc b G G nums X x w.heap.size S0 := by
      rw [hS0]
      refine ⟨A.bd.parts, A.hd, ⟨⟨by simp only; omega, by simp only; omega⟩, by rw [Mm.plain G ho]; exact A.bd.sok ho, A.bd.ok.last, HEV.out⟩, (Mm.plain G ho nums last).symm, SameB.refl _ _, Nat.le_refl _, A.box, grow_new (Nat.le_refl _), A.step, ?_, fun D n => Trk.same A.step⟩
      have := (put_live (S := G.bd nums last) ho []).2
      have e : sizeL (Half.all []) = 0 := rfl
      rw [e] at this
      rw [sizeH_eq]
      simp only
      omega
    have M0 := hid hm0
    have HS0 := hid hS0
    clear hcut A ot x1 x2 x3 x4 x5 x6 x7 x8 x9 hXl ME EN HA hm0 hS0
    go_wp2_with fail
    refine OT.out.mono ?_
    rintro e w2 ⟨rfl, hw2⟩
    have M0 := hid (show MtC O (grow O w q) q w w2 b G G nums X x w.heap.size S0 by rw [hw2]; exact M0.out)
    clear hw2 c1 hwl OT
    go_wp2_with fail
    go_step3
    go_upto_block 1 with fail
    go_cut [] (fun wx => ∃ O' G' s, MtC O O' q w wx b G G' nums X x w.heap.size s ∧ meetF x.o x.n (3 - x.o.s) (sizeH S0.h) S0 = s)
    case first =>
      go_wp2_with fail
      go_loopg [6] (sizeH S0.h) (fun k s6 wr => ∃ K : Nat, K = k ∧ ∃ O' G' s, MtC O O' q w wr b G G' nums X x w.heap.size s ∧ sizeH s.h ≤ k ∧ meetF x.o x.n (3 - x.o.s) k s = meetF x.o x.n (3 - x.o.s) (sizeH S0.h) S0)
      case atStart => exact ⟨_, rfl, _, G, S0, M0.out, Nat.le_refl _, rfl⟩
      case round =>
        obtain ⟨k, rfl, O1, G1, s, hm, hk, heq⟩ := hrel
        have M1 := hid hm
        have HK := hid hk
        have HEQ := hid heq
        have x9 : wr.cell? ⟨X, 9, none⟩ = some (.int .i64 s.left) := hm.hd.ent.order.2.2.2.2.2.2.2.2
        have hXl := hm.hd.ent.lt
        have hsl := hm.ok.left
        have few1 := hm.len
        clear hm hk heq M0
        by_cases hlt : 0 < s.left
        · have hsh := M1.out.ok.ok.sh
          rw [← M1.out.ph] at hsh
          have fs := few_side (G := G1) ho
          have me := meets_calls M1.out.pt.top x.o hs (M1.out.pt.side ho) hsh (by omega)
          rw [M1.out.ph] at me
          have ME := hid me
          have HSH := hid hsh
          have box := M1.out.box
          unfold Od.vals at box ME
          obtain ⟨b0, b1, b2, b3, b4, b5, b6, b7⟩ : wr.cell? ⟨w.heap.size, 0, none⟩ = some (.int .i64 x.o.m) ∧ wr.cell? ⟨w.heap.size, 1, none⟩ = some (.int .i64 x.o.s) ∧ wr.cell? ⟨w.heap.size, 2, none⟩ = some (.int .i64 x.o.k) ∧ wr.cell? ⟨w.heap.size, 3, none⟩ = some (.int .i64 x.o.f) ∧ wr.cell? ⟨w.heap.size, 4, none⟩ = some (.int .i64 x.o.p) ∧ wr.cell? ⟨w.heap.size, 5, none⟩ = some (.int .i64 x.o.t) ∧ wr.cell? ⟨w.heap.size, 6, none⟩ = some (.int .i64 x.o.q) ∧ wr.cell? ⟨w.heap.size, 7, none⟩ = some (.int .i64 x.o.pk) := by
            refine ⟨?_, ?_, ?_, ?_, ?_, ?_, ?_, ?_⟩ <;> (rw [box.cell]; rfl)
          have hwl := box.lt
          clear box me hsh
          by_cases hmm : meetsH x.o s.h = true
          · rw [hmm] at ME
            have HMM := hid hmm
            clear hmm
            go_wp2_with fail
            refine ME.out.mono ?_
            rintro e w3 ⟨rfl, hb3⟩
            obtain ⟨hc1, _⟩ := bcell hb3
            have b0' : w3.cell? ⟨w.heap.size, 0, none⟩ = some (.int .i64 x.o.m) := by rw [hc1 _ _ hwl]; exact b0
            have hwl3 : w.heap.size < w3.heap.size := Nat.lt_of_lt_of_le hwl hb3.size
            have M3 := hid (M1.out.below hb3)
            clear hb3 hc1 b0 b1 b2 b3 b4 b5 b6 b7 hwl x9 hXl ME M1
            obtain ⟨Y, hY, hfr, hgd⟩ := M3.out.front HMM.out
            have fr := front_calls (M3.out.pt.side ho) (full_ls HSH.out) (by have := lv_len HSH.out; omega)
            rw [hY, op_some, M3.out.same.H] at fr
            have FR := hid fr
            have HY := hid hY
            have HFR := hid hfr
            have HGD := hid hgd
            clear fr hY hfr hgd
            go_wp2_with fail
            refine FR.out.mono ?_
            rintro e w4 ⟨rfl, m, hw4⟩
            have b4 : Below w3.heap.size w3 w4 := by rw [hw4]; exact Below.of_drewN w3 m
            have b0 : w4.cell? ⟨w.heap.size, 0, none⟩ = some (.int .i64 x.o.m) := by rw [hw4]; exact b0'
            have hwl4 := Nat.lt_of_lt_of_le hwl3 b4.size
            have M4 := hid (M3.out.below b4)
            clear hw4 b4 b0' hwl3 M3 FR
            obtain ⟨hOY, P, eY⟩ := (M4.out.pt.side ho).front HY.out
            obtain ⟨y0, y1, _, _, _, y9, _, hYl, _, _⟩ := eY.cells
            have hYm : Y ∈ ensL (G1.L (3 - x.o.s)) := front_mem HY.out
            have HYM := hid hYm
            have HOY := hid hOY
            clear eY hOY hYm
            by_cases hsm : (G1.en Y).o.m = x.o.m
            · have e1 : ((G1.en Y).o.m == x.o.m) = true := by simpa using hsm
              have HSM := hid hsm
              clear hsm
              go_wp2
              go_quiet (fail)
              go_wp2_with fail
              have M5 := M4.out.below (Below.of_drewN w4 nq)
              have tk := take_pt M5.pt ho HSH.out (by omega) HY.out
              rw [M5.same.H] at tk
              refine tk.mono ?_
              rintro e w5 ⟨rfl, O5, ls5, p5, a5, b5, d5, s5⟩
              have hc := colS_cases q ho
              obtain ⟨c1, c2, c3, c4, c5⟩ := colS_ne q ho
              obtain ⟨v1, v2, v3⟩ := Mm.put_same ho G1 ls5 G1.en (fun _ _ => rfl) (fun _ _ => rfl)
              have lv := Mm.put_live ho G1 ls5 G1.en
              have LV := hid (show G1.live.Perm (Y :: (G1.put (3 - x.o.s) ls5 G1.en).live) by
                refine lv.1.trans ?_
                rw [b5]
                exact (lv.2.symm.cons Y))
              obtain ⟨G2, hG2⟩ : ∃ G2, G2 = G1.put (3 - x.o.s) ls5 G1.en := ⟨_, rfl⟩
              rw [← hG2] at p5 v1 v2 v3 LV
              have hYn : Y ∉ ensL (G2.L (3 - x.o.s)) := by
                have h7 : (ensL (G1.L (3 - x.o.s))).Nodup := (M5.pt.side ho).nodN
                rw [v2]
                rw [b5] at h7
                exact (List.nodup_cons.1 h7).1
              have pd := p5.below ((Below.refl _ w5).drew)
              obtain ⟨w6, r1, r2, r3⟩ := drop_pt (n := (G1.en Y).n) (E := Y) (m' := prs G2.en G2.live) pd (by
                refine (prs_perm _ LV.out).trans ?_
                rw [v3]
                exact List.Perm.refl _) 3
              obtain ⟨z0, _, _, _, _, z9, _, hYl5, _, _⟩ := d5.ent.cells
              obtain ⟨_, bm, _, _, hbl, _, _⟩ := p5.cells ho
              have d6 := (d5.below ((Below.refl _ w5).drew)).step r3 c5
              have k9 : w6.cell? ⟨Y, 9, none⟩ = some (.int .i64 (G1.en Y).l) := d6.ent.cells.2.2.2.2.2.1
              have kYl := d6.ent.lt
              have hd6 := ((M5.hd.step s5 (fun e => c4 e.symm)).below ((Below.refl _ w5).drew)).step r3 (by omega)
              have st6 := ((s5.B hc.1 hc.2).trans (Step.of_below ((Below.refl _ w5).drew) (colB q))).trans (r3.B (by omega) (by omega))
              have ph2 : plainH (G2.L (3 - x.o.s)) G2.en = popH s.h := by rw [v2, v3, a5, M5.ph]
              have len2 : G2.live.length ≤ G1.live.length := by rw [LV.out.length_eq]; simp
              have hm1 : meet1 x.o x.n (3 - x.o.s) (G1.en Y) s = ⟨s.left, popH s.h, s.last, s.evs ++ [⟨5, (G1.en Y).n, 0, 0, (G1.en Y).l⟩]⟩ := by unfold meet1; rw [if_pos HSM.out]
              have R1 := hid r1
              have hsum := M5.sum
              have fin : ∀ e w', ToldP O5 q w6 b G2 nums s.last (s.evs ++ [⟨5, (G1.en Y).n, 0, 0, (G1.en Y).l⟩]) (prs G2.en G2.live) e w' → e = .returned (.tuple #[]) ∧ ∃ O' , MtC O O' q w w' b G G2 nums X x w.heap.size (meet1 x.o x.n (3 - x.o.s) (G1.en Y) s) ∧ sizeH (meet1 x.o x.n (3 - x.o.s) (G1.en Y) s).h + 1 ≤ sizeH s.h := by
                rintro e w' ⟨g1, O', g2, g3⟩
                obtain ⟨u1, u2, u3, u4, u5⟩ := g2.bury ho (d6.step g3 (fun e => c2 e)) hYn
                have hXY : X ≠ Y := fun e => by have := M5.hd.col; rw [e, HOY.out] at this; exact c4 this
                have hdx := hd6.step g3 (by omega)
                have st7 := (st6.trans (g3.B (by omega) (by omega))).trans u2
                refine ⟨g1, _, M5.next hn hlt HFR.out (by rw [hm1]; exact u1) (by rw [hm1]; exact ⟨hdx.ent, by rw [paint_far _ hXY]; exact hdx.col⟩) (by rw [hm1]; exact ph2) v1 len2 st7 (fun D n => Trk.move st7 (fun E hE => ?_))⟩
                have hE1 := LV.out.mem_iff.1 hE
                rcases List.mem_cons.1 hE1 with rfl | hE1
                · exact .inr ⟨u3, u4, u5⟩
                · exact .inl ⟨hE1, by rw [v3]⟩
              have TL := hid ((tell_pt r2 (by omega) d6.ent 5 0 0 (G1.en Y).l).mono fin)
              have SZ := hid (size_front M5.ok.ok HFR.out)
              clear fin M5 tk p5 a5 b5 d5 s5 lv hG2 v1 v2 v3 pd r1 r2 r3 d6 hd6 st6 ph2 len2 hm1 y0 y1 y9 hYl e1 c1 c2 c3 c4 c5 hc b0 hwl4
              go_wp2
              refine region_tail 8 (by kernel_rfl) (by kernel_rfl) ?_
              simp only [List.take_succ_cons, List.take_zero, List.drop_succ_cons, List.drop_zero]
              repeat still_step
              refine wpStill_nil ?_
              refine wpList_delete_run rfl (.tmp 74) (.tmp 78) 67 3 rfl _ _ w6 rfl rfl R1.out ?_
              go_wp2_with fail
              refine TL.out.mono ?_
              rintro e w7 ⟨rfl, O7, hm7, hs7⟩
              have M7 := hid hm7
              have S7 := hid hs7
              clear hm7 hs7 k9 kYl z0 z9 hYl5 bm hbl
              go_wp2
              go_roundg (k - 1)
              · refine ⟨_, rfl, O7, G2, _, M7.out, by have := S7.out; have := HK.out; omega, ?_⟩
                have hkk : k = (k - 1) + 1 := by have := SZ.out; have := HK.out; omega
                rw [← HEQ.out]
                conv => rhs; rw [hkk]
                rw [meetF_go hlt HFR.out HGD.out]
              · have := SZ.out; have := HK.out; omega
            · have e1 : ((G1.en Y).o.m == x.o.m) = false := by simpa using hsm
              have HSM := hid hsm
              clear hsm
              go_wp2
              go_quiet (fail)
              go_wp2_with fail
              have M5 := M4.out.below (Below.of_drewN w4 nq)
              have hsum := M5.sum
              have hfw := few_side (G := G1) ho
              have hm1 : meet1 x.o x.n (3 - x.o.s) (G1.en Y) s = ⟨s.left - min s.left (G1.en Y).h, tradeH (3 - x.o.s) (G1.en Y) (min s.left (G1.en Y).h) s.h, (G1.en Y).o.p, s.evs ++ [⟨1, x.n, (G1.en Y).n, (G1.en Y).o.p, min s.left (G1.en Y).h⟩]⟩ := by unfold meet1; rw [if_neg HSM.out]
              have hokT : HOk (3 - x.o.s) nums (plainH (G1.L (3 - x.o.s)) G1.en) := by rw [M5.ph]; exact M5.ok.ok
              have td := trade_calls M5.pt M5.hd ho hokT (by omega) (by omega) HY.out ⟨hlt, hsl.2⟩
              have fin : ∀ e w', TradedP O1 q (w4.drewN nq) b G1 nums s.evs (3 - x.o.s) X { x with l := s.left } (G1.en Y) (min s.left (G1.en Y).h) e w' → e = .returned (.tuple #[]) ∧ ∃ O' G', MtC O O' q w w' b G G' nums X x w.heap.size (meet1 x.o x.n (3 - x.o.s) (G1.en Y) s) ∧ sizeH (meet1 x.o x.n (3 - x.o.s) (G1.en Y) s).h + 1 ≤ sizeH s.h := by
                rintro e w' ⟨g1, O', G', g2, g3, g4, g5, g6, g7, g8⟩
                exact ⟨g1, O', G', M5.next hn hlt HFR.out (by rw [hm1]; exact g2) (by rw [hm1]; exact g3) (by rw [hm1, g4, M5.ph]) g5 g6 g7 g8⟩
              have TD := hid (td.mono fin)
              have SZ := hid (size_front M5.ok.ok HFR.out)
              clear fin M5 hm1 hokT td y0 y1 y9 hYl e1 b0 hwl4
              refine TD.out.mono ?_
              rintro e w7 ⟨rfl, O7, G2, hm7, hs7⟩
              have M7 := hid hm7
              have S7 := hid hs7
              clear hm7 hs7
              go_wp2
              go_roundg (k - 1)
              · refine ⟨_, rfl, O7, G2, _, M7.out, by have := S7.out; have := HK.out; omega, ?_⟩
                have hkk : k = (k - 1) + 1 := by have := SZ.out; have := HK.out; omega
                rw [← HEQ.out]
                conv => rhs; rw [hkk]
                rw [meetF_go hlt HFR.out HGD.out]
              · have := SZ.out; have := HK.out; omega
          · have hmf : meetsH x.o s.h = false := by simpa using hmm
            rw [hmf] at ME
            have HMM := hid hmf
            clear hmm hmf
            go_wp2_with fail
            refine ME.out.mono ?_
            rintro e w3 ⟨rfl, hb3⟩
            have M3 := hid (M1.out.below hb3)
            clear hb3
            go_wp2
            go_meet
            exact ⟨_, _, s, M3.out, by rw [← HEQ.out]; exact meetF_stop (.inr HMM.out) k⟩
        · go_wp2
          go_meet
          exact ⟨_, _, s, M1.out, by rw [← HEQ.out]; exact meetF_stop (.inl (by omega)) k⟩
    case rest =>
      obtain ⟨O1, G1, s, hm, hmf⟩ := hcut
      have h33 : 3 - (3 - x.o.s) = x.o.s := by omega
      have pf := hm.same.plainF
      rw [h33] at pf
      have hmf' : meetF x.o x.n (3 - x.o.s) (sizeH ((G.bd nums last).half (3 - x.o.s))) ⟨x.l, (G.bd nums last).half (3 - x.o.s), (G.bd nums last).last, evs⟩ = s := by rw [← hmf, HS0.out]; rfl
      have hbd := bd_put ho hm.same nums last s.last
      rw [hm.ph] at hbd
      have hcm := comeF_meet NA.out NB.out hmf' hbd
      have hck := comeF_ok AH.out.bd.ok HO.out hn HNEW.out hl HEV.out
      have BH := hid (⟨hm, hcm, hck.ok, few⟩ : Behind O q w wc b G nums last evs X x O1 G1 s)
      have hsum := hm.sum
      have hsl := hm.ok.left
      have hlen1 := hm.len
      have x9 : wc.cell? ⟨X, 9, none⟩ = some (.int .i64 s.left) := hm.hd.ent.order.2.2.2.2.2.2.2.2
      have hXl := hm.hd.ent.lt
      have c3 : wc.cell? ⟨w.heap.size, 3, none⟩ = some (.int .i64 x.o.f) := by rw [hm.box.cell]; rfl
      have hwl := hm.box.lt
      have HSH := hid (show HSh x.o.s (plainH (G1.L x.o.s) G1.en) by rw [pf]; exact (AH.out.bd.sok hs).sh)
      have HNW := hid (show x.n ∉ numsL (G1.live.map G1.en) by
        obtain ⟨g1, g2, g3, g4, g5⟩ := meetF_ok (o := x.o) hn (sizeH ((G.bd nums last).half (3 - x.o.s))) ⟨x.l, (G.bd nums last).half (3 - x.o.s), (G.bd nums last).last, evs⟩ (side := 3 - x.o.s) (nums := nums) ⟨⟨by simp only; omega, by simp only; omega⟩, AH.out.bd.ok.half ho, AH.out.bd.ok.last, HEV.out⟩
        rw [hmf'] at g3
        have hsub := put_sub (S := G.bd nums last) ho g3
        rw [← Mm.bd_live G1 nums s.last, hbd]
        exact fun hx => HNEW.out (hsub.mem hx))
      have HWF := hid (show (Lit.int .i64 x.n).wf = true by
        have := AH.out.bd.ok.nums
        have hnn : (G.bd nums last).nums = nums := rfl
        exact WalkArith.wf_i64 (by omega))
      clear hm hmf hmf' hbd hcm hck h33 pf M0 HS0 AH
      by_cases h0 : s.left = 0
      · have e0 : (s.left == 0) = true := by simpa using h0
        have fin : ComeP O q w b G nums last evs X x (.returned (.tuple #[])) wc := by
          have hc := BH.out.come
          rw [if_pos h0] at hc
          obtain ⟨u1, u2, u3, u4, u5⟩ := BH.out.m.pt.bury5 BH.out.m.hd
          exact BH.out.fin hc rfl u1 (by omega) u2 (fun D n => Trk.same u2) (.inr ⟨u3, u4, u5⟩)
        have RR := hid fin
        clear fin h0
        generalize ComeP O q w b G nums last evs X x = R at *
        go_wp2
        first | exact RR.out | (go_end0; exact RR.out)
      · have e0 : (s.left == 0) = false := by simpa using h0
        have H0 := hid h0
        have hl0 : 1 ≤ s.left := by omega
        clear h0
        by_cases hr : x.o.f = 1 ∨ x.o.f = 4
        · have rs := rest_calls BH.out.m.pt BH.out.m.hd rfl hs HSH.out (by omega) (by omega) HWF.out HNW.out
          have fin : ∀ e w', RestedP O1 q wc b G1 nums s.last s.evs x.o.s X { x with l := s.left } e w' → e = .returned (.tuple #[]) ∧ ComeP O q w b G nums last evs X x (.returned (.tuple #[])) w' := by
            rintro e w' ⟨r1, O', G', r2, r3, r4, r5, r6, r7, r8⟩
            have hc := BH.out.come
            rw [if_neg H0.out, if_pos hr] at hc
            refine ⟨r1, BH.out.fin hc ?_ r2 (by rw [r5.length_eq]; simp; omega) r6 (fun D n => Trk.move r6 (fun E hE => .inl ⟨r5.mem_iff.2 (List.mem_cons_of_mem _ hE), r7 E hE⟩)) (.inl ⟨r5.mem_iff.2 List.mem_cons_self, r8⟩)⟩
            rw [bd_put hs r4 nums s.last s.last, r3, Mm.plain G1 hs]
            exact put_last hs _
          have RS := hid (rs.mono fin)
          have hp : ((x.o.f == 1) = true) ∨ ((x.o.f == 1) = false ∧ (x.o.f == 4) = true) := by
            rcases hr with e | e
            · left; simpa using e
            · right; simp [e]
          clear fin rs hr
          generalize ComeP O q w b G nums last evs X x = R at *
          rcases hp with e1 | ⟨e1, e4⟩
          · go_wp2_with fail
            refine RS.out.mono ?_
            rintro e w9 ⟨rfl, r⟩
            have RR := hid r
            clear r
            go_wp2
            first | exact RR.out | (go_end0; exact RR.out)
          · go_wp2_with fail
            refine RS.out.mono ?_
            rintro e w9 ⟨rfl, r⟩
            have RR := hid r
            clear r
            go_wp2
            first | exact RR.out | (go_end0; exact RR.out)
        · have fin : ∀ e w', ToldP O1 q wc b G1 nums s.last (s.evs ++ [⟨3, x.n, 0, 0, s.left⟩]) (prs G1.en G1.live) e w' → e = .returned (.tuple #[]) ∧ ComeP O q w b G nums last evs X x (.returned (.tuple #[])) w' := by
            rintro e w' ⟨r1, O', r2, r3⟩
            have hc := BH.out.come
            rw [if_neg H0.out, if_neg hr] at hc
            obtain ⟨u1, u2, u3, u4, u5⟩ := r2.bury5 (BH.out.m.hd.step r3 (by omega))
            have s9 := (r3.B (by omega) (by omega)).trans u2
            exact ⟨r1, BH.out.fin hc rfl u1 (by omega) s9 (fun D n => Trk.same s9) (.inr ⟨u3, u4, u5⟩)⟩
          have TL := hid ((tell_pt BH.out.m.pt (by omega) BH.out.m.hd.ent 3 0 0 s.left).mono fin)
          have e1 : (x.o.f == 1) = false := by simp; exact fun e => hr (.inl e)
          have e4 : (x.o.f == 4) = false := by simp; exact fun e => hr (.inr e)
          clear fin hr
          generalize ComeP O q w b G nums last evs X x = R at *
          go_wp2_with fail
          refine TL.out.mono ?_
          rintro e w9 ⟨rfl, r⟩
          have RR := hid r
          clear r
          go_wp2
          first | exact RR.out | (go_end0; exact RR.out)
theorem come_calls {O : Nat → Nat} {q : Nat} {w : World} {b : Nat} {G : Mm} {nums last : Int} {evs : List Ev} (h : BdC O q w b G nums last evs) {X : Nat} {x : En} (hX : HdC O (q + 5) w X x false) (ho : x.o.ok = true) (hn : 1 ≤ x.n ∧ x.n ≤ nums) (hnew : x.n ∉ numsL (G.bd nums last).live) (hl : 1 ≤ x.l ∧ x.l ≤ x.o.q)
    (few : G.live.length + 1 ≤ 4096) (hev : ∀ e ∈ evs, EvOk nums e) (hlen : evs.length + sizeL (G.bd nums last).live ≤ 2999999999990) :
    Calls Tryz.prog 23 #[pt b, pt X] w (ComeP O q w b G nums last evs X x) := by
  have hq := okQ ho
  by_cases hA : x.o.f = 4 ∧ meetsH x.o ((G.bd nums last).half (3 - x.o.s)) = true
  · exact comeA h hX (okS ho) (by omega) hA.1 hA.2
  · by_cases hB : x.o.f = 3 ∧ needF x.o ((G.bd nums last).half (3 - x.o.s)).all x.l ≠ 0
    · exact comeB h hX (okS ho) (by omega) (by omega) hB.1 hB.2
    · exact comeC h hX ho hn hnew hl few hev hlen hA hB
end Go.Proofs.YtepldjidkomclaaGreat.Bo
namespace Go.Proofs.YtepldjidkomclaaGreat.Bo
set_option linter.unusedSimpArgs false
set_option linter.unusedVariables false
open Go.RowKit Go.Shelf
attribute [local go_sem] Oper.semAt_some
attribute [local go_sem ↓] Go.wp_at_zero Go.wp_at_succ
def idxV (l : List Nat) (P : Nat → Bool) : Int := if l.findIdx P < l.length then (l.findIdx P : Int) else -1
theorem findIdx_at {l : List Nat} {P : Nat → Bool} {a : Nat} (ha : a < l.length) (h1 : ∀ j, j < a → (l[j]?).map P = some false) (h2 : P l[a] = true) : l.findIdx P = a := by
  refine (List.findIdx_eq ha).2 ⟨h2, fun j hj => ?_⟩
  have := h1 j hj
  rw [List.getElem?_eq_getElem (by omega)] at this
  simpa using this
theorem findIdx_none {l : List Nat} {P : Nat → Bool} (h1 : ∀ j, j < l.length → (l[j]?).map P = some false) : l.findIdx P = l.length := by
  refine List.findIdx_eq_length.2 fun x hx => ?_
  obtain ⟨j, hj, rfl⟩ := List.getElem_of_mem hx
  have := h1 j hj
  rw [List.getElem?_eq_getElem hj] at this
  simpa using this
theorem ptRow {w : World} {v : Value} {l : List Nat} (h : OwnE encPt 1 72 0 w v l) : ∃ p cap b, v = .slice p l.length cap ∧ (0 < l.length → p = some ⟨b, 0, none⟩ ∧ b < w.heap.size) ∧ ∀ (k : Nat) (hk : k < l.length), w.cell? ⟨b, k, none⟩ = some (pt l[k]) := by
  obtain ⟨p, cap, b, h1, h2, h3⟩ := OwnE.cells (enc := encPt) (sz := 1) (fun _ => rfl) h
  refine ⟨p, cap, b, h1, fun h0 => ⟨(h2 h0).1, (h2 h0).2.2⟩, fun k hk => ?_⟩
  have := h3 k hk 0 (by omega)
  simpa using this
set_option maxRecDepth 100000 in
set_option maxHeartbeats 4000000 in
theorem idxF_calls {w : World} {v : Value} {l : List Nat} (h : OwnE encPt 1 72 0 w v l) (hlen : l.length ≤ 1000000) (f : FuncId) (bd caps : Array Value) (eg : ∀ args w, (callFunc f args).run Tryz.prog w = .ok (.enter f args) w) (P : Nat → Bool)
    (hP : ∀ E ∈ l, ∀ m, Calls Tryz.prog f (bd.push (pt E) ++ caps) (w.drewN m) fun e w' => e = .returned (.bool (P E)) ∧ ∃ k, w' = (w.drewN m).drewN k) :
    Calls Tryz.prog 59 #[v, .func (.func f) bd caps] w fun e w' => e = .returned (.int .i64 (idxV l P)) ∧ ∃ m, w' = w.drewN m := by
  obtain ⟨p, cap, b, rfl, hp, hrow⟩ := ptRow h
  obtain ⟨n, hn⟩ : ∃ n, n = l.length := ⟨_, rfl⟩
  rw [← hn] at hp hlen ⊢
  have HP := hid hp
  have HR := hid hrow
  have HN := hid hn
  have HC := hid hP
  have EG := hid eg
  clear h hp hrow hn hP eg
  go_enter Tryz.func59, Tryz.ntmps59
  go_wp2_with fail
  go_loopg [5, 8] n (fun k s5 s8 wr => ∃ a m : Nat, s8 = .int .i64 a ∧ a ≤ n ∧ k = n - a ∧ (∀ j, j < a → (l[j]?).map P = some false) ∧ wr = w.drewN m)
  case atStart => exact ⟨0, 0, rfl, by omega, by omega, fun j hj => absurd hj (by omega), rfl⟩
  case round =>
    obtain ⟨a, m, rfl, ha, hk, hf, rfl⟩ := hrel
    have HK := hid hk
    have HF := hid hf
    clear hk hf
    by_cases han : a < n
    · have hal : a < l.length := by rw [← HN.out]; exact han
      have hanI : (a : Int) < n := by omega
      obtain ⟨hpp, hbl⟩ := HP.out (by omega)
      subst hpp
      have k1 : w.cell? ⟨b, a, none⟩ = some (pt l[a]) := HR.out a hal
      have cl := HC.out l[a] (List.getElem_mem hal) m
      obtain ⟨E, hE⟩ : ∃ E, E = l[a] := ⟨_, rfl⟩
      rw [← hE] at k1 cl
      have HE := hid hE
      have eg := EG.out
      cases hPE : P E
      · rw [hPE] at cl
        have CL := hid cl
        have HPE := hid hPE
        clear hE cl hPE
        go_wp2_with fail
        refine CL.out.mono ?_
        rintro e w2 ⟨rfl, k, rfl⟩
        go_wp2
        go_roundg (n - (a + 1))
        · refine ⟨a + 1, m + k, by go_num, by omega, rfl, fun j hj => ?_, rfl⟩
          rcases Nat.lt_or_ge j a with h1 | h1
          · exact HF.out j h1
          · have : j = a := by omega
            subst this
            rw [List.getElem?_eq_getElem hal, Option.map_some, ← HE.out, HPE.out]
        · have := HK.out; omega
      · rw [hPE] at cl
        have CL := hid cl
        have HPE := hid hPE
        clear hE cl hPE
        go_wp2_with fail
        refine CL.out.mono ?_
        rintro e w2 ⟨rfl, k, rfl⟩
        have fin : idxV l P = a := by
          have := findIdx_at hal HF.out (by rw [← HE.out]; exact HPE.out)
          unfold idxV
          rw [this, if_pos hal]
        have FIN := hid fin
        clear fin
        go_wp2
        go_ret
        exact ⟨by rw [FIN.out]; rfl, _, rfl⟩
    · have hal : a = n := by omega
      have fin : idxV l P = -1 := by
        have := findIdx_none (l := l) (P := P) (fun j hj => HF.out j (by rw [hal, HN.out]; exact hj))
        unfold idxV
        rw [this, if_neg (by omega)]
      have FIN := hid fin
      clear fin
      go_wp2
      go_ret
      exact ⟨by rw [FIN.out]; rfl, _, rfl⟩
theorem wpList_clear_run {P : Program} {w : World} {ops : Array Oper} {rest : List Oper} {o : Oper} {a : Act} {Q : Exit → Act → World → Prop} (hgd : o.guard = none) (s : Operand) (t : TypeId)
    (ho : o.op = .call { callee := .builtin .clear, args := #[s], argTypes := #[t] }) (sv : Value) (w' : World) (hs : a.eval s = sv) (hrun : (Builtin.clear_ #[t] o.type #[sv]).run P w = .ok (.tuple #[]) w') (h : wpList P ops Q rest (a.put o.dst (.tuple #[])) w') :
    wpList P ops Q (o :: rest) a w := by
  refine wpList_plain hgd fun K hK => ?_
  unfold Oper.wp
  simp [execOp, ho, resolve, invoke, builtin, hs, hrun, Result.andThen]
  exact hK _ _ h
theorem zeroPt : ∀ w, (zeroValue 72).run Tryz.prog w = .ok (.pointer none) w := fun w => by kernel_rfl
theorem run_clear_slice' (w : World) (b o c : Nat) (hc : (w.cell? ⟨b, o, none⟩).isSome = true) (hf : w.frozen? ⟨b, o, none⟩ = false) (ty : TypeId := 68) :
    (Builtin.clear_ #[68] ty #[.slice (some ⟨b, o, none⟩) 1 c]).run Tryz.prog w = .ok (.tuple #[]) (w.setCell ⟨b, o, none⟩ (.pointer none)) :=
by
  refine Lib.run_clear_slice w 68 72 ty (.pointer none) undEnt zeroPt rfl rfl b o 1 c (by omega) (fun j hj => ?_) (fun j hj => ?_)
  · have e : j = 0 := by omega
    subst e
    exact hc
  · have e : j = 0 := by omega
    subst e
    exact hf
theorem own_some {w : World} {b cap : Nat} {l : List Nat} (h : OwnE encPt 1 72 0 w (.slice (some ⟨b, 0, none⟩) l.length cap) l) : ∃ cur, Cells w b cur 72 ∧ l.length ≤ cap ∧ cap ≤ maxLen ∧ cur.size = cap ∧ cur.toList.take l.length = l.map pt := by
  rcases h.2 with ⟨e, _⟩ | ⟨g, cp, cur, e, _, hg, h5, h6, h7, h8⟩
  · cases e
  · injection e with e1 e2 e3
    injection e1 with e1
    injection e1 with e1
    subst e1; subst e3
    rw [Nat.mul_one] at h7 h8
    exact ⟨cur, hg, h5, h6, h7, by rw [h8, flat_pt]⟩
theorem ent_cut {w : World} {b cap : Nat} {pre post : List Nat} {x : Nat} (h : OwnE encPt 1 72 0 w (.slice (some ⟨b, 0, none⟩) (pre ++ x :: post).length cap) (pre ++ x :: post)) (A : Addr) (hA : 0 < post.length → A = ⟨b, pre.length + 1, none⟩) (c : Nat) (ty : TypeId) :
    ∃ w', (Builtin.append_ #[68, 68] ty #[.slice (some ⟨b, 0, none⟩) pre.length cap, .slice (some A) post.length c]).run Tryz.prog w = .ok (.slice (some ⟨b, 0, none⟩) (pre.length + post.length) cap) w' ∧ OwnE encPt 1 72 0 w' (.slice (some ⟨b, 0, none⟩) (pre ++ post).length cap) (pre ++ post) ∧ Kept (fun k => k = b) w w' := by
  obtain ⟨i, hi, hz, hs, hb⟩ := info_ptr infoEnt
  obtain ⟨cur, g1, g2, g3, g4, g5⟩ := own_some h
  have hown : w.ownsRow 0 72 1 (.slice (some ⟨b, 0, none⟩) pre.length cap) pre.length (flatE encPt pre) := by
    refine ⟨by simp [flat_pt], .inr ⟨b, cap, cur, rfl, Nat.zero_le _, g1, by rw [List.length_append] at g2; omega, g3, by rw [Nat.mul_one]; exact g4, ?_⟩⟩
    rw [flat_pt, Nat.mul_one]
    have := congrArg (List.take pre.length) g5
    rw [List.take_take, List.map_append, List.take_append_of_le_length (by simp), List.length_append, List.length_cons] at this
    rw [show min pre.length (pre.length + (post.length + 1)) = pre.length by omega] at this
    rw [this, List.take_of_length_le (by simp)]
  have hnews : ∀ j u, (flatE encPt post)[j]? = some u → w.cell? (A.add j) = some u := by
    intro j u hu
    have hj : j < post.length := by have := (List.getElem?_eq_some_iff.1 hu).1; rw [flat_pt] at this; simpa using this
    rw [hA (by omega)]
    have hc := World.ownsRow.cellAt h (pre.length + 1 + j) (by rw [List.length_append, List.length_cons]; omega)
    rw [show (⟨b, pre.length + 1, none⟩ : Addr).add j = ⟨b, pre.length + 1 + j, none⟩ by unfold Addr.add; split <;> simp_all]
    rw [hc]
    rw [flat_pt] at hu ⊢
    rw [List.map_append, List.getElem?_append_right (by simp; omega), List.length_map, show pre.length + 1 + j - pre.length = j + 1 by omega]
    exact hu
  obtain ⟨w', h1, h2, h3⟩ := run_append_fits w 0 68 ty 72 i 1 undEnt hi hs b pre.length cap (flatE encPt pre) hown A post.length c (flatE encPt post) (by simp [flat_pt]) hnews
    (by intro u hu; rw [flat_pt] at hu; obtain ⟨y, _, rfl⟩ := List.mem_map.1 hu; rfl) (by rw [List.length_append, List.length_cons] at g2; omega)
  refine ⟨w', h1, ?_, (Kept.of_grown h3).mono (fun k hk => by injection hk)⟩
  unfold OwnE
  rw [flatE_append, List.length_append]
  exact h2
theorem own_tail {w : World} {b cap n : Nat} {l : List Nat} (h : OwnE encPt 1 72 0 w (.slice (some ⟨b, 0, none⟩) l.length cap) l) (hn : l.length ≤ n) (z : Value) : OwnE encPt 1 72 0 (w.setCell ⟨b, n, none⟩ z) (.slice (some ⟨b, 0, none⟩) l.length cap) l := by
  obtain ⟨cur, g1, g2, g3, g4, g5⟩ := own_some h
  refine ⟨h.1, .inr ⟨b, cap, _, rfl, Nat.zero_le _, g1.set n z, g2, g3, by rw [Array.size_setIfInBounds, Nat.mul_one]; exact g4, ?_⟩⟩
  rw [flat_pt, Nat.mul_one, ← g5]
  apply List.ext_getElem?
  intro k
  rw [List.getElem?_take, List.getElem?_take]
  by_cases hk : k < l.length
  · rw [if_pos hk, if_pos hk, Array.getElem?_toList, Array.getElem?_toList, Array.getElem?_setIfInBounds_ne (by omega)]
  · rw [if_neg hk, if_neg hk]
def CutP (w : World) (v : Value) (l : List Nat) (e : Ending) (w' : World) : Prop :=
  ∃ v', e = .returned v' ∧ OwnE encPt 1 72 0 w' v' l ∧ Kept (fun k => some k = v.ownBlock) w w' ∧ v'.ownBlock = v.ownBlock
set_option maxRecDepth 100000 in
set_option maxHeartbeats 4000000 in
theorem del_calls {w : World} {v : Value} {pre post : List Nat} {x : Nat} (h : OwnE encPt 1 72 0 w v (pre ++ x :: post)) (hlen : (pre ++ x :: post).length ≤ 1000000) :
    Calls Tryz.prog 61 #[v, .int .i64 pre.length, .int .i64 ((pre.length : Int) + 1)] w (CutP w v (pre ++ post)) := by
  obtain ⟨p, cap, b, rfl, hp, _⟩ := ptRow h
  obtain ⟨hp, hbl⟩ := hp (by simp; omega)
  subst hp
  obtain ⟨cur, g1, g2, g3, g4, g5⟩ := own_some h
  obtain ⟨i, hi⟩ : ∃ i, i = pre.length := ⟨_, rfl⟩
  obtain ⟨n, hn⟩ : ∃ n, n = (pre ++ x :: post).length := ⟨_, rfl⟩
  obtain ⟨d, hd⟩ : ∃ d, d = post.length := ⟨_, rfl⟩
  have hnid : n = i + 1 + d := by rw [hn, hi, hd]; simp; omega
  obtain ⟨A, hA, hA2⟩ : ∃ A : Addr, (if cap = i + 1 then some (⟨b, 0, none⟩ : Addr) else some ⟨b, i + 1, none⟩) = some A ∧ (0 < post.length → A = ⟨b, pre.length + 1, none⟩) := by
    by_cases h : cap = i + 1
    · exact ⟨⟨b, 0, none⟩, by simp [h], fun hn => by omega⟩
    · exact ⟨⟨b, i + 1, none⟩, by simp [h], fun _ => by rw [hi]⟩
  obtain ⟨w1, r1, r2, r3⟩ := ent_cut h.drew A hA2 (cap - (i + 1)) 68
  rw [← hi, ← hd] at r1
  have hl2 : (pre ++ post).length = i + d := by rw [List.length_append, hi, hd]
  have r2' := r2
  rw [hl2] at r2'
  obtain ⟨cur2, q1, q2, q3, q4, _⟩ := own_some r2
  have hzz : ((.pointer none : Value)).oneCell' = true := rfl
  have hsome : (w1.cell? ⟨b, i + d, none⟩).isSome = true := by
    rw [q1.cell, Array.getElem?_eq_getElem (show i + d < cur2.size by omega)]
    rfl
  have hcl : ∀ one, one = 1 → ∀ ty, (Builtin.clear_ #[68] ty #[.slice (some ⟨b, i + d, none⟩) one (cap - (i + d))]).run Tryz.prog w1 = .ok (.tuple #[]) (w1.setCell ⟨b, i + d, none⟩ (.pointer none)) := by
    intro one h1 ty
    subst h1
    exact run_clear_slice' w1 b (i + d) (cap - (i + d)) hsome (q1.frozen _) ty
  have fin : CutP w (.slice (some ⟨b, 0, none⟩) n cap) (pre ++ post) (.returned (.slice (some ⟨b, 0, none⟩) (i + d) cap)) (w1.setCell ⟨b, i + d, none⟩ (.pointer none)) := by
    have e1 := own_tail r2 (n := i + d) (by omega) (.pointer none)
    rw [hl2] at e1
    have k0 : Kept (fun k => some k = (Value.slice (some ⟨b, 0, none⟩) n cap).ownBlock) w w.drew := (Kept.refl _ w).drew
    exact ⟨_, rfl, e1, (k0.trans r3 (fun k _ hk => by rw [hk]; rfl)).set (C := b) rfl _ _, rfl⟩
  rw [← hn] at g2 hlen ⊢
  rw [← hi]
  have R1 := hid r1
  have CL := hid hcl
  have FIN := hid fin
  have hiI : (i : Int) < n := by omega
  have hin : i < n := by omega
  have e1 : ((i : Int) == (i : Int) + 1) = false := by simp; omega
  have hnd : n - (i + 1) = d := by omega
  have hl0 : (i : Int) + 1 ≤ n := by omega
  clear h g1 g3 g4 g5 hi hn hd hA2 r1 r2 r3 hl2 r2' q1 q2 q3 q4 hzz hcl fin
  generalize CutP w (.slice (some ⟨b, 0, none⟩) n cap) (pre ++ post) = R at *
  go_enter Tryz.func61, Tryz.ntmps61
  have hp0 : (0 : Int) ≤ (i : Int) + 1 := by omega
  have hp2 : ((i : Int) + 1).toNat = i + 1 := by omega
  have hn1 : n - (i + d) = 1 := by omega
  have hic : i ≤ cap := by omega
  have CL := hid (CL.out _ hn1)
  have hcc : (cap = i + d) = False := by simp; omega
  have hid : i + d ≤ n := by omega
  have hidI : (i : Int) + d ≤ n := by omega
  clear hnid
  go_wp2
  go_region_law (refine step_append_run rfl (.tmp 22) (.tmp 25) 68 rfl _ _ (.slice (some ⟨b, 0, none⟩) (i + d) cap) w1 (by simp [Act.eval, Act.put]) (by simp [Act.eval, Act.put]) R1.out ?_)
  all_goals go_wp2_with (refine wpList_clear_run rfl (.tmp 31) 68 rfl _ _ rfl (CL.out _) ?_)
  all_goals (first | exact FIN.out | (go_ret; exact FIN.out))
end Go.Proofs.YtepldjidkomclaaGreat.Bo
namespace Go.Proofs.YtepldjidkomclaaGreat.Bo
set_option linter.unusedSimpArgs false
set_option linter.unusedVariables false
open Go.RowKit Go.Shelf
def Mm.wait (G : Mm) (l : List Nat) : Mm := { G with wt := l }
theorem PtC.waits {O : Nat → Nat} {q : Nat} {w : World} {b : Nat} {G : Mm} {nums last : Int} {evs : List Ev} {m : List (Int × Nat)} (h : PtC O q w b G nums last evs m) : ∃ vw, w.cell? ⟨b, 4, none⟩ = some vw ∧ OwnE encPt 1 72 0 w vw G.wt ∧ (∀ x, vw.ownBlock = some x → O x = q + 3) ∧ b < w.heap.size ∧ w.frozen? ⟨b, 4, none⟩ = false := by
  obtain ⟨vw, ve, h1, h2, _, h4, _⟩ := h.top.cell
  exact ⟨vw, by rw [h1.cell]; rfl, h2, h4, h1.lt, h1.frozen 4⟩
theorem PtC.setWait {O : Nat → Nat} {q : Nat} {w w1 : World} {b : Nat} {G : Mm} {nums last : Int} {evs : List Ev} {m : List (Int × Nat)} (h : PtC O q w b G nums last evs m) {vw v' : Value} (hc : w.cell? ⟨b, 4, none⟩ = some vw) {l : List Nat} (ho : OwnE encPt 1 72 0 w1 v' l) (hk : Kept (fun k => some k = vw.ownBlock) w w1) (hb : v'.ownBlock = vw.ownBlock) (hl : ∀ E ∈ l, E ∈ G.wt) (hn : l.Nodup) :
    PtC O q (w1.setCell ⟨b, 4, none⟩ v') b (G.wait l) nums last evs m ∧ Step (fun c => c = q + 3) O w O (w1.setCell ⟨b, 4, none⟩ v') ∧ ∀ E ∈ G.wt, HdC O (q + 4) (w1.setCell ⟨b, 4, none⟩ v') E (G.en E) true := by
  obtain ⟨vw', ve, h1, h2, h3, h4, h5⟩ := h.top.cell
  have e : vw' = vw := by
    rw [h1.cell] at hc
    injection hc
  subst e
  have hbv : ∀ g, vw'.ownBlock = some g → g ≠ b := fun g hg => by obtain ⟨cs, hcs⟩ := own_lt h2 hg; exact hcs.ne h1 (by decide)
  have hB1 := h1.kept hk (fun e => hbv b e.symm rfl)
  have hve : OwnE encEv 5 36 0 w1 ve evs := OwnE.kept h3 hk (fun g hg e => by
    obtain ⟨cs, hcs⟩ := own_lt h3 hg
    obtain ⟨cs', hcs'⟩ := own_lt h2 e.symm
    exact hcs.ne hcs' (by decide) rfl)
  have st1 : Step (fun c => c = q + 3) O w O w1 := Step.of_kept0 hk (fun k _ e => h4 k e.symm)
  have st2 : Step (fun c => c = q + 3) O w1 O (w1.setCell ⟨b, 4, none⟩ v') := Step.set h.top.col 4 v'
  have st := st1.trans st2
  refine ⟨⟨⟨⟨v', ve, hB1.set 4 v', ho.set hB1 (by decide) 4 v', hve.set hB1 (by decide) 4 v', fun x hx => ?_, h5⟩, h.top.col⟩, h.buy.step st (by omega) (fun _ _ => rfl), h.sell.step st (by omega) (fun _ _ => rfl), h.map.step st (by omega), ?_⟩, st, fun E hE => ?_⟩
  · rw [hb] at hx; exact h4 x hx
  · have wt := h.wait.step st (by omega) (fun _ _ => rfl)
    exact ⟨fun E hE => wt.ent E (hl E hE), hn⟩
  · have wt := h.wait.step st (by omega) (fun _ _ => rfl)
    obtain ⟨w1, w2⟩ := wt.ent E hE
    exact ⟨w2, w1⟩
theorem PtC.keptTop {O : Nat → Nat} {q : Nat} {w w1 : World} {b : Nat} {G : Mm} {nums last : Int} {evs : List Ev} {m : List (Int × Nat)} (h : PtC O q w b G nums last evs m) {vw : Value} (hc : w.cell? ⟨b, 4, none⟩ = some vw) (hk : Kept (fun k => some k = vw.ownBlock) w w1) : (∃ u, w1.cell? ⟨b, 4, none⟩ = some u) ∧ w1.frozen? ⟨b, 4, none⟩ = false ∧ b < w1.heap.size := by
  obtain ⟨vw', ve, h1, h2, h3, h4, h5⟩ := h.top.cell
  have e : vw' = vw := by
    rw [h1.cell] at hc
    injection hc
  subst e
  have hbv : ∀ g, vw'.ownBlock = some g → g ≠ b := fun g hg => by obtain ⟨cs, hcs⟩ := own_lt h2 hg; exact hcs.ne h1 (by decide)
  have hB1 := h1.kept hk (fun e => hbv b e.symm rfl)
  exact ⟨⟨_, by rw [hB1.cell]; rfl⟩, hB1.frozen 4, hB1.lt⟩
theorem EnC.flag {w : World} {X : Nat} {x : En} {wx : Bool} {px : Option Nat} (h : EnC w X x wx px) : w.cell? ⟨X, 11, none⟩ = some (.bool wx) ∧ w.frozen? ⟨X, 11, none⟩ = false := ⟨by rw [Cells.cell h]; rfl, Cells.frozen h 11⟩
theorem PtC.grab {O : Nat → Nat} {q : Nat} {w : World} {b : Nat} {G : Mm} {nums last : Int} {evs : List Ev} {m : List (Int × Nat)} (h : PtC O q w b G nums last evs m) {E : Nat} {e : En} (hE : HdC O (q + 4) w E e true) (hn : E ∉ G.wt) :
    PtC (paint O E (q + 5)) q (w.setCell ⟨E, 11, none⟩ (.bool false)) b G nums last evs m ∧ HdC (paint O E (q + 5)) (q + 5) (w.setCell ⟨E, 11, none⟩ (.bool false)) E e false ∧ Step (colB q) O w (paint O E (q + 5)) (w.setCell ⟨E, 11, none⟩ (.bool false)) := by
  have hc := hE.col
  have hk : Kept (fun k => k = E) w (w.setCell ⟨E, 11, none⟩ (.bool false)) := (Kept.refl (fun k => k = E) w).set (C := E) rfl 11 _
  have s1 : Step (fun c => c = q + 4 ∨ c = q + 5) O w (paint O E (q + 5)) w := Step.paint O w (.inl hc) (.inl (.inr rfl))
  have s2 : Step (fun c => c = q + 4 ∨ c = q + 5) (paint O E (q + 5)) w (paint O E (q + 5)) (w.setCell ⟨E, 11, none⟩ (.bool false)) := by
    refine ⟨hk.os, hk.tape, hk.output, hk.size, fun k hkk hn => ⟨hk.block k hkk (fun e => hn (.inr (by rw [e, paint_self]))), rfl⟩, fun k _ h => .inl h⟩
  have st := s1.trans s2
  refine ⟨⟨h.top.step st (by omega), h.buy.step st (by omega) (fun _ _ => rfl), h.sell.step st (by omega) (fun _ _ => rfl), h.map.step st (by omega), ⟨fun D hD => ?_, h.wait.nod⟩⟩, ⟨?_, paint_self _ _ _⟩, st.wider (fun c hc => ?_)⟩
  · obtain ⟨d1, d2⟩ := h.wait.ent D hD
    have hne : D ≠ E := fun e => hn (by rw [← e]; exact hD)
    exact ⟨by rw [paint_far O hne]; exact d1, d2.kept hk hne⟩
  · exact Cells.set hE.ent 11 (.bool false)
  · rcases hc with rfl | rfl <;> exact ⟨by omega, by omega⟩
theorem PtC.live_col {O : Nat → Nat} {q : Nat} {w : World} {b : Nat} {G : Mm} {nums last : Int} {evs : List Ev} {m : List (Int × Nat)} (h : PtC O q w b G nums last evs m) {E : Nat} (hE : E ∈ G.live) : colB q (O E) := by
  have := (Mm.put_live (s := 1) (.inl rfl) G [] G.en).1.mem_iff.1 hE
  rcases List.mem_append.1 this with h1 | h1
  · rw [((h.side (.inl rfl)).entry h1).1]; exact colS_cases q (.inl rfl)
  · rcases List.mem_append.1 h1 with h1 | h1
    · rw [((h.side (.inr rfl)).entry (en := G.en) h1).1]; exact colS_cases q (.inr rfl)
    · rw [(h.wait.ent E h1).1]; exact ⟨by omega, by omega⟩
theorem PtC.live_ne {O : Nat → Nat} {q : Nat} {w : World} {b : Nat} {G : Mm} {nums last : Int} {evs : List Ev} {m : List (Int × Nat)} (h : PtC O q w b G nums last evs m) {E : Nat} (hE : E ∈ G.live) : O E ≠ q + 3 := by
  have := (Mm.put_live (s := 1) (.inl rfl) G [] G.en).1.mem_iff.1 hE
  rcases List.mem_append.1 this with h1 | h1
  · rw [((h.side (.inl rfl)).entry h1).1]; exact (colS_ne q (.inl rfl)).2.1
  · rcases List.mem_append.1 h1 with h1 | h1
    · rw [((h.side (.inr rfl)).entry (en := G.en) h1).1]; exact (colS_ne q (.inr rfl)).2.1
    · rw [(h.wait.ent E h1).1]; omega
theorem Mm.wait_live (G : Mm) {pre post : List Nat} {E : Nat} (h : G.wt = pre ++ E :: post) : G.live.Perm (E :: (G.wait (pre ++ post)).live) := by
  show (ensL G.lb ++ (ensL G.ls ++ G.wt)).Perm (E :: (ensL G.lb ++ (ensL G.ls ++ (pre ++ post))))
  rw [h]
  exact (((List.perm_middle).append_left _).trans List.perm_middle).append_left _ |>.trans List.perm_middle
theorem Mm.wait_bd (G : Mm) (l : List Nat) (nums last : Int) : (G.wait l).bd nums last = { G.bd nums last with wait := l.map G.en } := rfl
theorem map_split {l : List Nat} {en : Nat → En} {pre post : List En} {x : En} (h : l.map en = pre ++ x :: post) : ∃ p E r, l = p ++ E :: r ∧ p.map en = pre ∧ en E = x ∧ r.map en = post := by
  obtain ⟨p, r', h1, h2, h3⟩ := List.map_eq_append_iff.1 h
  obtain ⟨E, r, h4, h5, h6⟩ := List.map_eq_cons_iff.1 h3
  exact ⟨p, E, r, by rw [h1, h4], h2, h5, h6⟩
end Go.Proofs.YtepldjidkomclaaGreat.Bo
