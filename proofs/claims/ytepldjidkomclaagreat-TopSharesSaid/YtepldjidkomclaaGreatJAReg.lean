/- A region that draws its order, within a fence: quiet operations first, then a forced tail. visit: the pieces of a span, in order, to a yield. within: the iterator over the pieces of a span. The last version of a register; each. each: the first error that a closure returns for a pocket of a span. Within a fence: an operation that yields its value in every world that meets S may be taken first, if S is kept by the others. -/
import Derived.StillTailTactics
import Derived.OrdersHeld
import Derived.Test.YtepldjidkomclaaGreatJAVis0
namespace Go.Proofs.YtepldjidkomclaaGreat.St
set_option linter.unusedSimpArgs false
set_option linter.unusedVariables false
open Go.RowKit Go.Shelf
section
variable {P : Program} {ops : Array Oper} {F : Fence} {n : Nat} {w : World} {md : Region.Mode}
structure Free (F : Fence) (P : Program) : Prop where
  fn : ∀ f, F.fn f
  depth : F.depth = none
  calls : ∀ n f args w R, Calls P f args w R → CallsIn F n P f args w R
theorem free_wide (P : Program) : Free Fence.wide P := ⟨fun _ => trivial, rfl, fun n f args w R h => (callsIn_wide (n := n)).2 h⟩
theorem free_round {F : Fence} {P : Program} (h : Free F P) (l : Nat) : Free (F.inRound l) P := ⟨h.fn, h.depth, fun n f args w R hc => CallsIn.inRound l (h.calls n f args w R hc)⟩
theorem semAt_of {o : Oper} {ρ : Operand → Value} {ro : Option Nat} (h : ∀ c, o.op ≠ .defer c) : o.semAt ro ρ = execOp ρ o := by
  unfold Oper.semAt
  split
  · rename_i c hc; exact absurd hc (h c)
  · rfl
theorem wpIn_of_still (hF : Free F P) {o : Oper} {a : Act} {K : Act → Prop} {K' : Act → World → Prop} {Q' : Exit → Act → World → Prop} (h : ∀ a, K a → K' a w) (hh : o.still P a w K) : o.wpIn F n P a w K' Q' := by
  have hnd : ∀ c, o.op ≠ .defer c := by
    intro c hc
    unfold Oper.still execOp at hh
    rw [hc] at hh
    simp only [Sem.run_bind] at hh
    cases hr : (resolve a.eval c o.type).run P w with
    | ok d w' => rw [hr] at hh; simp [Result.andThen, Sem.run, Oper.stillUpon] at hh
    | halt x w' => rw [hr] at hh; simp [Result.andThen, Oper.stillUpon] at hh
  refine ⟨fun f _ => hF.fn f, ?_⟩
  rw [semAt_of hnd]
  unfold Oper.still at hh
  generalize (execOp a.eval o).run P w = r at *
  cases r with
  | ok nx w' =>
    cases nx <;> simp only [Oper.stillUpon] at hh <;> simp only [Oper.uponIn]
    case enter f args =>
      obtain ⟨rfl, v, hc, hn⟩ := hh
      refine ⟨fun hd => (by rw [hF.depth] at hd; cases hd), hF.calls _ _ _ _ _ (hc.mono fun e w'' ⟨he, hw⟩ => by subst he; subst hw; exact h _ hn)⟩
    all_goals (obtain ⟨rfl, h2⟩ := hh; exact h _ h2)
  | halt x w' => simp only [Oper.stillUpon] at hh
theorem wpOpIn_of_stOp (hF : Free F P) {i : Nat} {a : Act} {K : Act → Prop} {K' : Act → World → Prop} {Q' : Exit → Act → World → Prop} (h : ∀ a, K a → K' a w) (hh : stOp P ops w i K a) : wpOpIn F n P ops Q' i K' a w := by
  unfold stOp at hh
  unfold wpOpIn
  split
  · rename_i ho; simp only [ho] at hh; exact h _ hh
  · rename_i o ho
    simp only [ho] at hh
    split
    · rename_i hw; simp only [hw, if_true] at hh; exact wpIn_of_still hF h hh
    · rename_i hw; simp only [hw] at hh; exact ⟨fun f _ => hF.fn f, h _ hh⟩
theorem wpAnyIn_of_head (hF : Free F P) {m g : Nat} {L : Array Bool → Act → Prop} {Q' : Exit → Act → World → Prop} (hL : ∀ listed a, L listed a → wpAnyIn F n P md ops Q' g listed a w) :
    ∀ (f : Nat) (listed : Array Bool) (a : Act), wpAnyL P md ops w m L f listed a → wpAnyIn F n P md ops Q' (f + g) listed a w
  | 0, listed, a, h => by rw [Nat.zero_add]; exact hL _ _ h
  | f + 1, listed, a, h => by
    rw [show f + 1 + g = (f + g) + 1 by omega]
    exact ⟨fun h0 => absurd h0 h.1, fun i hi => wpOpIn_of_stOp hF (fun a' h' => wpAnyIn_of_head hF hL f _ a' h') (h.2 i hi).2⟩
theorem wpAnyIn_of_seq {Q' : Exit → Act → World → Prop} : ∀ (l : List Oper) (k : Nat) (listed : Array Bool) (a : Act) (w : World), (∀ j, l[j]? = ops[k + j]?) →
    Region.seqB md ops l.length k listed = true → wpListIn F n P ops Q' l a w → wpAnyIn F n P md ops Q' l.length listed a w
  | [], _, _, _, _, _, hB, h => ⟨by simpa [Region.seqB] using hB, h⟩
  | o :: l, k, listed, a, w, hl, hB, h => by
    have h0 : ops[k]? = some o := by simpa using (hl 0).symm
    simp only [List.length_cons, Region.seqB, Bool.and_eq_true, decide_eq_true_eq] at hB
    refine ⟨fun h1 => (by rw [hB.1] at h1; cases h1), fun i hi => ?_⟩
    rw [hB.1] at hi
    have hik : i = k := by simpa using hi
    subst hik
    have hw : wpOpIn F n P ops Q' i (wpListIn F n P ops Q' l) a w := by unfold wpOpIn; simp only [h0]; exact h
    exact wpOpIn_mono (fun a' w' h' => wpAnyIn_of_seq l (i + 1) _ a' w' (fun j => by have := hl (j + 1); simpa [Nat.add_assoc, Nat.add_comm 1 j] using this) hB.2 h') hw
theorem wpIn_region_still_tail (hF : Free F P) {id : Nat} {Q : Exit → Act → World → Prop} {a : Act} {l : List Oper} (m : Nat) (hm : P.follows .mixedOrders = true) (hB : Region.lexTailB .any l.toArray m = true)
    (h : wpStill P l.toArray { w with drawn := w.drawn + 1 } (fun a' => wpListIn F n P l.toArray Q (l.drop m) a' { w with drawn := w.drawn + 1 }) (l.take m) a) : (Code.region id l.toArray true).wpIn F n P Q a w := by
  simp only [Region.lexTailB, Bool.and_eq_true, decide_eq_true_eq] at hB
  obtain ⟨⟨⟨⟨hsel, hn⟩, hs⟩, hc⟩, hlex⟩ := hB
  have hn' : m < l.length := by simpa using hn
  have htl : (l.take m).length = m := by simp; omega
  have hdl : (l.drop m).length = l.toArray.size - m := by simp
  have inv0 : HeadInv .any l.toArray m (Array.replicate l.toArray.size false) :=
    ⟨by simp, fun j oj _ hl => (by rw [getD_replicate_false] at hl; cases hl), fun t _ ht => getD_in (by simpa using ht) (getD_replicate_false _ _)⟩
  have H := wpAnyL_lex (md := .any) (g := l.toArray.size - m) hsel hs hc hn (l.take m) 0 _ a (fun j hj => by
    have hj' : j < m := by rw [htl] at hj; exact hj
    simp [hj']) (by simpa using htl) inv0 (by rw [htl]; exact hlex) h
  refine wpIn_region_any hm ?_
  have := wpAnyIn_of_head (F := F) (n := n) hF (Q' := Q) (g := l.toArray.size - m) (fun listed a' hL => by
    have := wpAnyIn_of_seq (F := F) (n := n) (md := .any) (Q' := Q) (l.drop m) m listed a' { w with drawn := w.drawn + 1 } (fun j => by simp [List.getElem?_drop]) (by rw [hdl]; exact hL.1) hL.2
    rwa [hdl] at this) _ _ _ H
  rw [htl, show m + (l.toArray.size - m) = l.toArray.size by omega] at this
  exact this
end
end Go.Proofs.YtepldjidkomclaaGreat.St
namespace Go.Proofs.YtepldjidkomclaaGreat.St
set_option linter.unusedSimpArgs false
set_option linter.unusedVariables false
open Go.RowKit Go.Shelf
attribute [local go_sem] Oper.semAt_some
def YieldsPc (F : Fence) (l n₀ N : Nat) (J Jx : List Pc → World → Prop) : Prop :=
  ∀ (m : Nat) (pre : List Pc) (x : Pc) (W : World), x.Good → J pre W → pre.length < N → YieldAt F m Tryz.prog l #[x.val] W fun e W' =>
      (e = .returned (.bool true) ∧ J (pre ++ [x]) W' ∧ Below n₀ W W') ∨ (e = .returned (.bool false) ∧ Jx (pre ++ [x]) W')
def VisitOf (F : Fence) (l n₀ N : Nat) (J Jx : List Pc → World → Prop) (a b : Int) (t : T) : Prop :=
  ∀ (n : Nat) (p : Option Addr) (pre : List Pc) (W : World), Tn n₀ W p t → J pre W → pre.length + (visL t a b).length ≤ N →
      CallsIn F n Tryz.prog 83 #[.pointer p, .int .i64 a, .int .i64 b, .func (.yield l) #[] #[]] W fun e W' =>
        (e = .returned (.bool true) ∧ J (pre ++ visL t a b) W' ∧ Below n₀ W W') ∨ (e = .returned (.bool false) ∧ ∃ q, q <+: visL t a b ∧ Jx (pre ++ q) W')
set_option maxRecDepth 100000 in
set_option maxHeartbeats 8000000 in
theorem visit_a1 (F : Fence) (hF : Free F Tryz.prog) (hro : F.round = none) (l n₀ N : Nat) (J Jx : List Pc → World → Prop) (hY : YieldsPc F l n₀ N J Jx) (hJd : ∀ pre W, J pre W → J pre W.drew) (a b : Int)
    (tl tr : T) (tp : Pc) (th : Int) (hg : tp.Good) (hab : 1 ≤ a ∧ a ≤ b ∧ b ≤ 1000000) (h1 : a < tp.from_) (h2 : b < tp.from_) (ihl : VisitOf F l n₀ N J Jx a b tl) : VisitOf F l n₀ N J Jx a b (T.node tl tr tp th) := by
  intro n p pre W ht hJ hN
  have hg2 : tp.from_ ≤ tp.to := hg.2.1
  have ev : visL (T.node tl tr tp th) a b = visL tl a b := by
    rw [visL, if_pos (by omega), if_neg (by omega), if_pos (by omega)]
    (try simp)
  have EV := hid ev
  rw [ev] at hN
  (try simp only [List.length_append, List.length_cons, List.length_nil] at hN)
  obtain ⟨bx, pl, pr, rfl, hb, hk, hl, hr⟩ := ht
  obtain ⟨ltx, cx0, cx1, cx2, cx3, cx4, cx5, cx6, cx7, cx8⟩ := node_cells hk
  have hdd : ∀ k : Nat, (F.depth.isSome = true → 1 ≤ k) := fun k h => by rw [hF.depth] at h; cases h
  have HK := hid (fun (W2 : World) (h : Below n₀ W W2) => node_cells ((h.block bx hb).trans hk))
  have HL := hid hl
  have HR := hid hr
  have hf : F.fn 83 := hF.fn _
  have hmx : Tryz.prog.follows .mixedOrders = true := by kernel_rfl
  clear hk hg ev hl hr
  refine callsIn_of_wp Tryz.func83 rfl (hF.fn _) ?_ hro
  simp only [Tryz.ntmps83, List.size_toArray, List.length_cons, List.length_nil, Nat.reduceAdd, Nat.reduceSub, Array.replicate_succ, Array.replicate_zero, List.push_toArray, List.append_toArray, List.nil_append, List.cons_append]
  gi_wp2_with fail
  (try refine ⟨hdd _, ?_⟩)
  refine (ihl (n - 1) pl pre W HL.out hJ (by omega)).mono ?_
  rintro e W1 (⟨rfl, hJ1, hb1⟩ | ⟨rfl, q1, hq1, hx1⟩)
  · obtain ⟨_, d0, d1, d2, d3, d4, d5, d6, d7, d8⟩ := HK.out W1 hb1
    gi_wp2
    go_ret
    exact .inl ⟨by first | rfl | (simp; done) | (simp; omega), by rw [EV.out]; simpa [List.append_assoc] using hJ1, hb1⟩
  · gi_wp2
    go_ret
    exact .inr ⟨by first | rfl | (simp; done) | (simp; omega), q1, by rw [EV.out]; exact hq1.trans ⟨[], by simp⟩, by simpa [List.append_assoc] using hx1⟩
set_option maxRecDepth 100000 in
set_option maxHeartbeats 8000000 in
theorem visit_a2 (F : Fence) (hF : Free F Tryz.prog) (hro : F.round = none) (l n₀ N : Nat) (J Jx : List Pc → World → Prop) (hY : YieldsPc F l n₀ N J Jx) (hJd : ∀ pre W, J pre W → J pre W.drew) (a b : Int)
    (tl tr : T) (tp : Pc) (th : Int) (hg : tp.Good) (hab : 1 ≤ a ∧ a ≤ b ∧ b ≤ 1000000) (h1 : a < tp.from_) (h2 : tp.from_ ≤ b) (h3 : b ≤ tp.to) (ihl : VisitOf F l n₀ N J Jx a b tl) : VisitOf F l n₀ N J Jx a b (T.node tl tr tp th) := by
  intro n p pre W ht hJ hN
  have hcut : tp.cut a b = ⟨tp.from_, b, tp.cell⟩ := by simp only [Pc.cut]; congr 1 <;> omega
  have hgc : (⟨tp.from_, b, tp.cell⟩ : Pc).Good := by simp only [Pc.Good] at *; omega
  have hg2 : tp.from_ ≤ tp.to := hg.2.1
  have ev : visL (T.node tl tr tp th) a b = visL tl a b ++ [⟨tp.from_, b, tp.cell⟩] := by
    rw [← hcut, visL, if_pos (by omega), if_pos (by omega), if_pos (by omega)]
    (try simp)
  have EV := hid ev
  rw [ev] at hN
  (try simp only [List.length_append, List.length_cons, List.length_nil] at hN)
  obtain ⟨bx, pl, pr, rfl, hb, hk, hl, hr⟩ := ht
  obtain ⟨ltx, cx0, cx1, cx2, cx3, cx4, cx5, cx6, cx7, cx8⟩ := node_cells hk
  have hdd : ∀ k : Nat, (F.depth.isSome = true → 1 ≤ k) := fun k h => by rw [hF.depth] at h; cases h
  have HK := hid (fun (W2 : World) (h : Below n₀ W W2) => node_cells ((h.block bx hb).trans hk))
  have HL := hid hl
  have HR := hid hr
  have hf : F.fn 83 := hF.fn _
  have hmx : Tryz.prog.follows .mixedOrders = true := by kernel_rfl
  clear hk hg ev hl hr hcut
  refine callsIn_of_wp Tryz.func83 rfl (hF.fn _) ?_ hro
  simp only [Tryz.ntmps83, List.size_toArray, List.length_cons, List.length_nil, Nat.reduceAdd, Nat.reduceSub, Array.replicate_succ, Array.replicate_zero, List.push_toArray, List.append_toArray, List.nil_append, List.cons_append]
  gi_wp2_with fail
  (try refine ⟨hdd _, ?_⟩)
  refine (ihl (n - 1) pl pre W HL.out hJ (by omega)).mono ?_
  rintro e W1 (⟨rfl, hJ1, hb1⟩ | ⟨rfl, q1, hq1, hx1⟩)
  · obtain ⟨_, d0, d1, d2, d3, d4, d5, d6, d7, d8⟩ := HK.out W1 hb1
    obtain ⟨fn, tmps, assign, body, hy, hR⟩ := hY (n - 1) (pre ++ visL tl a b) ⟨tp.from_, b, tp.cell⟩ W1.drew hgc (hJd _ _ hJ1) (by simp; omega)
    simp only [Pc.val, Pc.vals] at hy
    gi_wp2
    refine wpIn_region_still_tail hF 24 hmx (by kernel_rfl) ?_
    simp only [List.take_succ_cons, List.take_zero, List.drop_succ_cons, List.drop_zero]
    repeat still_step
    refine wpStill_nil ?_
    gi_wp2_with fail
    (try refine ⟨hdd _, ?_⟩)
    refine hR.mono ?_
    rintro e W2 (⟨rfl, hJ2, hb2⟩ | ⟨rfl, hx2⟩)
    · have hb2' : Below n₀ W W2 := hb1.trans (undrew hb2)
      obtain ⟨_, f0, f1, f2, f3, f4, f5, f6, f7, f8⟩ := HK.out W2 hb2'
      gi_wp2
      go_ret
      exact .inl ⟨by first | rfl | (simp; done) | (simp; omega), by rw [EV.out]; simpa [List.append_assoc] using hJ2, hb2'⟩
    · gi_wp2
      go_ret
      exact .inr ⟨by first | rfl | (simp; done) | (simp; omega), visL tl a b ++ [⟨tp.from_, b, tp.cell⟩], by rw [EV.out]; exact ⟨[], by simp⟩, by simpa [List.append_assoc] using hx2⟩
  · gi_wp2
    go_ret
    exact .inr ⟨by first | rfl | (simp; done) | (simp; omega), q1, by rw [EV.out]; exact hq1.trans ⟨[⟨tp.from_, b, tp.cell⟩], by simp⟩, by simpa [List.append_assoc] using hx1⟩
set_option maxRecDepth 100000 in
set_option maxHeartbeats 8000000 in
theorem visit_a3 (F : Fence) (hF : Free F Tryz.prog) (hro : F.round = none) (l n₀ N : Nat) (J Jx : List Pc → World → Prop) (hY : YieldsPc F l n₀ N J Jx) (hJd : ∀ pre W, J pre W → J pre W.drew) (a b : Int)
    (tl tr : T) (tp : Pc) (th : Int) (hg : tp.Good) (hab : 1 ≤ a ∧ a ≤ b ∧ b ≤ 1000000) (h1 : a < tp.from_) (h2 : tp.from_ ≤ b) (h3 : tp.to < b) (ihl : VisitOf F l n₀ N J Jx a b tl) (ihr : VisitOf F l n₀ N J Jx a b tr) : VisitOf F l n₀ N J Jx a b (T.node tl tr tp th) := by
  intro n p pre W ht hJ hN
  have hcut : tp.cut a b = ⟨tp.from_, tp.to, tp.cell⟩ := by simp only [Pc.cut]; congr 1 <;> omega
  have hgc : (⟨tp.from_, tp.to, tp.cell⟩ : Pc).Good := by simp only [Pc.Good] at *; omega
  have hg2 : tp.from_ ≤ tp.to := hg.2.1
  have ev : visL (T.node tl tr tp th) a b = visL tl a b ++ [⟨tp.from_, tp.to, tp.cell⟩] ++ visL tr a b := by
    rw [← hcut, visL, if_pos (by omega), if_pos (by omega), if_neg (by omega)]
    (try simp)
  have EV := hid ev
  rw [ev] at hN
  (try simp only [List.length_append, List.length_cons, List.length_nil] at hN)
  obtain ⟨bx, pl, pr, rfl, hb, hk, hl, hr⟩ := ht
  obtain ⟨ltx, cx0, cx1, cx2, cx3, cx4, cx5, cx6, cx7, cx8⟩ := node_cells hk
  have hdd : ∀ k : Nat, (F.depth.isSome = true → 1 ≤ k) := fun k h => by rw [hF.depth] at h; cases h
  have HK := hid (fun (W2 : World) (h : Below n₀ W W2) => node_cells ((h.block bx hb).trans hk))
  have HL := hid hl
  have HR := hid hr
  have hf : F.fn 83 := hF.fn _
  have hmx : Tryz.prog.follows .mixedOrders = true := by kernel_rfl
  clear hk hg ev hl hr hcut
  refine callsIn_of_wp Tryz.func83 rfl (hF.fn _) ?_ hro
  simp only [Tryz.ntmps83, List.size_toArray, List.length_cons, List.length_nil, Nat.reduceAdd, Nat.reduceSub, Array.replicate_succ, Array.replicate_zero, List.push_toArray, List.append_toArray, List.nil_append, List.cons_append]
  gi_wp2_with fail
  (try refine ⟨hdd _, ?_⟩)
  refine (ihl (n - 1) pl pre W HL.out hJ (by omega)).mono ?_
  rintro e W1 (⟨rfl, hJ1, hb1⟩ | ⟨rfl, q1, hq1, hx1⟩)
  · obtain ⟨_, d0, d1, d2, d3, d4, d5, d6, d7, d8⟩ := HK.out W1 hb1
    obtain ⟨fn, tmps, assign, body, hy, hR⟩ := hY (n - 1) (pre ++ visL tl a b) ⟨tp.from_, tp.to, tp.cell⟩ W1.drew hgc (hJd _ _ hJ1) (by simp; omega)
    simp only [Pc.val, Pc.vals] at hy
    gi_wp2
    refine wpIn_region_still_tail hF 24 hmx (by kernel_rfl) ?_
    simp only [List.take_succ_cons, List.take_zero, List.drop_succ_cons, List.drop_zero]
    repeat still_step
    refine wpStill_nil ?_
    gi_wp2_with fail
    (try refine ⟨hdd _, ?_⟩)
    refine hR.mono ?_
    rintro e W2 (⟨rfl, hJ2, hb2⟩ | ⟨rfl, hx2⟩)
    · have hb2' : Below n₀ W W2 := hb1.trans (undrew hb2)
      obtain ⟨_, f0, f1, f2, f3, f4, f5, f6, f7, f8⟩ := HK.out W2 hb2'
      gi_wp2_with fail
      (try refine ⟨hdd _, ?_⟩)
      refine (ihr (n - 1) pr ((pre ++ visL tl a b) ++ [⟨tp.from_, tp.to, tp.cell⟩]) W2 (HR.out.below hb2') hJ2 (by (try simp); omega)).mono ?_
      rintro e W3 (⟨rfl, hJ3, hb3⟩ | ⟨rfl, q3, hq3, hx3⟩)
      · gi_wp2
        go_ret
        exact .inl ⟨by first | rfl | (simp; done) | (simp; omega), by rw [EV.out]; simpa [List.append_assoc] using hJ3, hb2'.trans hb3⟩
      · gi_wp2
        go_ret
        exact .inr ⟨by first | rfl | (simp; done) | (simp; omega), visL tl a b ++ [⟨tp.from_, tp.to, tp.cell⟩] ++ q3, by rw [EV.out]; obtain ⟨r3, hr3⟩ := hq3; exact ⟨r3, by simp [← hr3]⟩, by simpa [List.append_assoc] using hx3⟩
    · gi_wp2
      go_ret
      exact .inr ⟨by first | rfl | (simp; done) | (simp; omega), visL tl a b ++ [⟨tp.from_, tp.to, tp.cell⟩], by rw [EV.out]; exact ⟨visL tr a b, by simp⟩, by simpa [List.append_assoc] using hx2⟩
  · gi_wp2
    go_ret
    exact .inr ⟨by first | rfl | (simp; done) | (simp; omega), q1, by rw [EV.out]; exact hq1.trans ⟨[⟨tp.from_, tp.to, tp.cell⟩] ++ visL tr a b, by simp⟩, by simpa [List.append_assoc] using hx1⟩
set_option maxRecDepth 100000 in
set_option maxHeartbeats 8000000 in
theorem visit_b1a (F : Fence) (hF : Free F Tryz.prog) (hro : F.round = none) (l n₀ N : Nat) (J Jx : List Pc → World → Prop) (hY : YieldsPc F l n₀ N J Jx) (hJd : ∀ pre W, J pre W → J pre W.drew) (a b : Int)
    (tl tr : T) (tp : Pc) (th : Int) (hg : tp.Good) (hab : 1 ≤ a ∧ a ≤ b ∧ b ≤ 1000000) (h1 : tp.from_ ≤ a) (h2 : a ≤ tp.to) (h3 : b ≤ tp.to) : VisitOf F l n₀ N J Jx a b (T.node tl tr tp th) := by
  intro n p pre W ht hJ hN
  have hcut : tp.cut a b = ⟨a, b, tp.cell⟩ := by simp only [Pc.cut]; congr 1 <;> omega
  have hgc : (⟨a, b, tp.cell⟩ : Pc).Good := by simp only [Pc.Good] at *; omega
  have hg2 : tp.from_ ≤ tp.to := hg.2.1
  have ev : visL (T.node tl tr tp th) a b = [⟨a, b, tp.cell⟩] := by
    rw [← hcut, visL, if_neg (by omega), if_pos (by omega), if_pos (by omega)]
    (try simp)
  have EV := hid ev
  rw [ev] at hN
  (try simp only [List.length_append, List.length_cons, List.length_nil] at hN)
  obtain ⟨bx, pl, pr, rfl, hb, hk, hl, hr⟩ := ht
  obtain ⟨ltx, cx0, cx1, cx2, cx3, cx4, cx5, cx6, cx7, cx8⟩ := node_cells hk
  have hdd : ∀ k : Nat, (F.depth.isSome = true → 1 ≤ k) := fun k h => by rw [hF.depth] at h; cases h
  have HK := hid (fun (W2 : World) (h : Below n₀ W W2) => node_cells ((h.block bx hb).trans hk))
  have HL := hid hl
  have HR := hid hr
  have hf : F.fn 83 := hF.fn _
  have hmx : Tryz.prog.follows .mixedOrders = true := by kernel_rfl
  obtain ⟨fn, tmps, assign, body, hy, hR⟩ := hY (n - 1) pre ⟨a, b, tp.cell⟩ W.drew hgc (hJd _ _ hJ) (by omega)
  simp only [Pc.val, Pc.vals] at hy
  clear hk hg ev hl hr hcut
  refine callsIn_of_wp Tryz.func83 rfl (hF.fn _) ?_ hro
  simp only [Tryz.ntmps83, List.size_toArray, List.length_cons, List.length_nil, Nat.reduceAdd, Nat.reduceSub, Array.replicate_succ, Array.replicate_zero, List.push_toArray, List.append_toArray, List.nil_append, List.cons_append]
  gi_wp2
  refine wpIn_region_still_tail hF 24 hmx (by kernel_rfl) ?_
  simp only [List.take_succ_cons, List.take_zero, List.drop_succ_cons, List.drop_zero]
  repeat still_step
  refine wpStill_nil ?_
  gi_wp2_with fail
  (try refine ⟨hdd _, ?_⟩)
  refine hR.mono ?_
  rintro e W2 (⟨rfl, hJ2, hb2⟩ | ⟨rfl, hx2⟩)
  · have hb2' : Below n₀ W W2 := undrew hb2
    obtain ⟨_, f0, f1, f2, f3, f4, f5, f6, f7, f8⟩ := HK.out W2 hb2'
    gi_wp2
    go_ret
    exact .inl ⟨by first | rfl | (simp; done) | (simp; omega), by rw [EV.out]; simpa [List.append_assoc] using hJ2, hb2'⟩
  · gi_wp2
    go_ret
    exact .inr ⟨by first | rfl | (simp; done) | (simp; omega), [⟨a, b, tp.cell⟩], by rw [EV.out]; exact ⟨[], by simp⟩, by simpa [List.append_assoc] using hx2⟩
set_option maxRecDepth 100000 in
set_option maxHeartbeats 8000000 in
theorem visit_b1b (F : Fence) (hF : Free F Tryz.prog) (hro : F.round = none) (l n₀ N : Nat) (J Jx : List Pc → World → Prop) (hY : YieldsPc F l n₀ N J Jx) (hJd : ∀ pre W, J pre W → J pre W.drew) (a b : Int)
    (tl tr : T) (tp : Pc) (th : Int) (hg : tp.Good) (hab : 1 ≤ a ∧ a ≤ b ∧ b ≤ 1000000) (h1 : tp.from_ ≤ a) (h2 : a ≤ tp.to) (h3 : tp.to < b) (ihr : VisitOf F l n₀ N J Jx a b tr) : VisitOf F l n₀ N J Jx a b (T.node tl tr tp th) := by
  intro n p pre W ht hJ hN
  have hcut : tp.cut a b = ⟨a, tp.to, tp.cell⟩ := by simp only [Pc.cut]; congr 1 <;> omega
  have hgc : (⟨a, tp.to, tp.cell⟩ : Pc).Good := by simp only [Pc.Good] at *; omega
  have hg2 : tp.from_ ≤ tp.to := hg.2.1
  have ev : visL (T.node tl tr tp th) a b = [⟨a, tp.to, tp.cell⟩] ++ visL tr a b := by
    rw [← hcut, visL, if_neg (by omega), if_pos (by omega), if_neg (by omega)]
    (try simp)
  have EV := hid ev
  rw [ev] at hN
  (try simp only [List.length_append, List.length_cons, List.length_nil] at hN)
  obtain ⟨bx, pl, pr, rfl, hb, hk, hl, hr⟩ := ht
  obtain ⟨ltx, cx0, cx1, cx2, cx3, cx4, cx5, cx6, cx7, cx8⟩ := node_cells hk
  have hdd : ∀ k : Nat, (F.depth.isSome = true → 1 ≤ k) := fun k h => by rw [hF.depth] at h; cases h
  have HK := hid (fun (W2 : World) (h : Below n₀ W W2) => node_cells ((h.block bx hb).trans hk))
  have HL := hid hl
  have HR := hid hr
  have hf : F.fn 83 := hF.fn _
  have hmx : Tryz.prog.follows .mixedOrders = true := by kernel_rfl
  obtain ⟨fn, tmps, assign, body, hy, hR⟩ := hY (n - 1) pre ⟨a, tp.to, tp.cell⟩ W.drew hgc (hJd _ _ hJ) (by omega)
  simp only [Pc.val, Pc.vals] at hy
  clear hk hg ev hl hr hcut
  refine callsIn_of_wp Tryz.func83 rfl (hF.fn _) ?_ hro
  simp only [Tryz.ntmps83, List.size_toArray, List.length_cons, List.length_nil, Nat.reduceAdd, Nat.reduceSub, Array.replicate_succ, Array.replicate_zero, List.push_toArray, List.append_toArray, List.nil_append, List.cons_append]
  gi_wp2
  refine wpIn_region_still_tail hF 24 hmx (by kernel_rfl) ?_
  simp only [List.take_succ_cons, List.take_zero, List.drop_succ_cons, List.drop_zero]
  repeat still_step
  refine wpStill_nil ?_
  gi_wp2_with fail
  (try refine ⟨hdd _, ?_⟩)
  refine hR.mono ?_
  rintro e W2 (⟨rfl, hJ2, hb2⟩ | ⟨rfl, hx2⟩)
  · have hb2' : Below n₀ W W2 := undrew hb2
    obtain ⟨_, f0, f1, f2, f3, f4, f5, f6, f7, f8⟩ := HK.out W2 hb2'
    gi_wp2_with fail
    (try refine ⟨hdd _, ?_⟩)
    refine (ihr (n - 1) pr (pre ++ [⟨a, tp.to, tp.cell⟩]) W2 (HR.out.below hb2') hJ2 (by (try simp); omega)).mono ?_
    rintro e W3 (⟨rfl, hJ3, hb3⟩ | ⟨rfl, q3, hq3, hx3⟩)
    · gi_wp2
      go_ret
      exact .inl ⟨by first | rfl | (simp; done) | (simp; omega), by rw [EV.out]; simpa [List.append_assoc] using hJ3, hb2'.trans hb3⟩
    · gi_wp2
      go_ret
      exact .inr ⟨by first | rfl | (simp; done) | (simp; omega), [⟨a, tp.to, tp.cell⟩] ++ q3, by rw [EV.out]; obtain ⟨r3, hr3⟩ := hq3; exact ⟨r3, by simp [← hr3]⟩, by simpa [List.append_assoc] using hx3⟩
  · gi_wp2
    go_ret
    exact .inr ⟨by first | rfl | (simp; done) | (simp; omega), [⟨a, tp.to, tp.cell⟩], by rw [EV.out]; exact ⟨visL tr a b, by simp⟩, by simpa [List.append_assoc] using hx2⟩
set_option maxRecDepth 100000 in
set_option maxHeartbeats 8000000 in
theorem visit_b2 (F : Fence) (hF : Free F Tryz.prog) (hro : F.round = none) (l n₀ N : Nat) (J Jx : List Pc → World → Prop) (hY : YieldsPc F l n₀ N J Jx) (hJd : ∀ pre W, J pre W → J pre W.drew) (a b : Int)
    (tl tr : T) (tp : Pc) (th : Int) (hg : tp.Good) (hab : 1 ≤ a ∧ a ≤ b ∧ b ≤ 1000000) (h1 : tp.from_ ≤ a) (h2 : tp.to < a) (ihr : VisitOf F l n₀ N J Jx a b tr) : VisitOf F l n₀ N J Jx a b (T.node tl tr tp th) := by
  intro n p pre W ht hJ hN
  have hg2 : tp.from_ ≤ tp.to := hg.2.1
  have ev : visL (T.node tl tr tp th) a b = visL tr a b := by
    rw [visL, if_neg (by omega), if_neg (by omega), if_neg (by omega)]
    (try simp)
  have EV := hid ev
  rw [ev] at hN
  (try simp only [List.length_append, List.length_cons, List.length_nil] at hN)
  obtain ⟨bx, pl, pr, rfl, hb, hk, hl, hr⟩ := ht
  obtain ⟨ltx, cx0, cx1, cx2, cx3, cx4, cx5, cx6, cx7, cx8⟩ := node_cells hk
  have hdd : ∀ k : Nat, (F.depth.isSome = true → 1 ≤ k) := fun k h => by rw [hF.depth] at h; cases h
  have HK := hid (fun (W2 : World) (h : Below n₀ W W2) => node_cells ((h.block bx hb).trans hk))
  have HL := hid hl
  have HR := hid hr
  have hf : F.fn 83 := hF.fn _
  have hmx : Tryz.prog.follows .mixedOrders = true := by kernel_rfl
  clear hk hg ev hl hr
  refine callsIn_of_wp Tryz.func83 rfl (hF.fn _) ?_ hro
  simp only [Tryz.ntmps83, List.size_toArray, List.length_cons, List.length_nil, Nat.reduceAdd, Nat.reduceSub, Array.replicate_succ, Array.replicate_zero, List.push_toArray, List.append_toArray, List.nil_append, List.cons_append]
  gi_wp2_with fail
  (try refine ⟨hdd _, ?_⟩)
  refine (ihr (n - 1) pr pre W (HR.out.below (Below.refl _ _)) hJ (by (try simp); omega)).mono ?_
  rintro e W3 (⟨rfl, hJ3, hb3⟩ | ⟨rfl, q3, hq3, hx3⟩)
  · gi_wp2
    go_ret
    exact .inl ⟨by first | rfl | (simp; done) | (simp; omega), by rw [EV.out]; simpa [List.append_assoc] using hJ3, hb3⟩
  · gi_wp2
    go_ret
    exact .inr ⟨by first | rfl | (simp; done) | (simp; omega), q3, by rw [EV.out]; obtain ⟨r3, hr3⟩ := hq3; exact ⟨r3, by simp [← hr3]⟩, by simpa [List.append_assoc] using hx3⟩
set_option maxRecDepth 100000 in
set_option maxHeartbeats 1000000 in
theorem visit_nil (F : Fence) (hF : Free F Tryz.prog) (hro : F.round = none) (l n₀ N : Nat) (J Jx : List Pc → World → Prop) (a b : Int) : VisitOf F l n₀ N J Jx a b .nil := by
  intro n p pre W ht hJ hN
  obtain rfl : p = none := ht
  refine callsIn_of_wp Tryz.func83 rfl (hF.fn _) ?_ hro
  simp only [Tryz.ntmps83, List.size_toArray, List.length_cons, List.length_nil, Nat.reduceAdd, Nat.reduceSub, Array.replicate_succ, Array.replicate_zero, List.push_toArray, List.append_toArray, List.nil_append, List.cons_append]
  gi_wp2
  go_ret
  exact .inl ⟨rfl, by simpa [visL] using hJ, Below.refl _ _⟩
theorem visit_in (F : Fence) (hF : Free F Tryz.prog) (hro : F.round = none) (l n₀ N : Nat) (J Jx : List Pc → World → Prop) (hY : YieldsPc F l n₀ N J Jx) (hJd : ∀ pre W, J pre W → J pre W.drew) (a b : Int)
    (hab : 1 ≤ a ∧ a ≤ b ∧ b ≤ 1000000) : ∀ t : T, t.Good → VisitOf F l n₀ N J Jx a b t
  | .nil, _ => visit_nil F hF hro l n₀ N J Jx a b
  | .node tl tr tp th, hg => by
    have ihl := visit_in F hF hro l n₀ N J Jx hY hJd a b hab tl hg.1
    have ihr := visit_in F hF hro l n₀ N J Jx hY hJd a b hab tr hg.2.1
    have hp := hg.2.2
    have hp2 := hp.2.1
    by_cases h1 : a < tp.from_
    · by_cases h2 : b < tp.from_
      · exact visit_a1 F hF hro l n₀ N J Jx hY hJd a b tl tr tp th hp hab h1 h2 ihl
      · by_cases h3 : b ≤ tp.to
        · exact visit_a2 F hF hro l n₀ N J Jx hY hJd a b tl tr tp th hp hab h1 (by omega) h3 ihl
        · exact visit_a3 F hF hro l n₀ N J Jx hY hJd a b tl tr tp th hp hab h1 (by omega) (by omega) ihl ihr
    · by_cases h2 : a ≤ tp.to
      · by_cases h3 : b ≤ tp.to
        · exact visit_b1a F hF hro l n₀ N J Jx hY hJd a b tl tr tp th hp hab (by omega) h2 h3
        · exact visit_b1b F hF hro l n₀ N J Jx hY hJd a b tl tr tp th hp hab (by omega) h2 (by omega) ihr
      · exact visit_b2 F hF hro l n₀ N J Jx hY hJd a b tl tr tp th hp hab (by omega) (by omega) ihr
end Go.Proofs.YtepldjidkomclaaGreat.St
namespace Go.Proofs.YtepldjidkomclaaGreat.St
set_option linter.unusedSimpArgs false
set_option linter.unusedVariables false
open Go.RowKit Go.Shelf
attribute [local go_sem] Oper.semAt_some
abbrev GP := { x : Pc // x.Good }
def vals (l : List GP) : List Pc := l.map (·.1)
theorem vals_append (l : List GP) (x : GP) : vals (l ++ [x]) = vals l ++ [x.1] := by simp [vals]
theorem vals_length (l : List GP) : (vals l).length = l.length := by simp [vals]
set_option maxRecDepth 100000 in
set_option maxHeartbeats 2000000 in
theorem within1_in (F : Fence) (hF : Free F Tryz.prog) (hro : F.round = none) (n l B0 B1 B2 n₀ : Nat) (p0 : Option Addr) (t : T) (hg : t.Good) (a b : Int) (hab : 1 ≤ a ∧ a ≤ b ∧ b ≤ 1000000) (J Jx : List Pc → World → Prop)
    (hY : YieldsPc F l n₀ (visL t a b).length J Jx) (hJd : ∀ pre W, J pre W → J pre W.drew)
    (W : World) (h0 : W.cell? ⟨B0, 0, none⟩ = some (.pointer p0)) (h1 : W.cell? ⟨B1, 0, none⟩ = some (.int .i64 a)) (h2 : W.cell? ⟨B2, 0, none⟩ = some (.int .i64 b)) (hT : Tn n₀ W p0 t) (hJ : J [] W) :
    CallsIn F n Tryz.prog 82 #[.func (.yield l) #[] #[], .pointer (some ⟨B0, 0, none⟩), .pointer (some ⟨B1, 0, none⟩), .pointer (some ⟨B2, 0, none⟩)] W fun e W' => (∃ v, e = .returned v) ∧
      ((∃ ys, ys = visL t a b ∧ J ys W') ∨ (∃ pre, pre <+: visL t a b ∧ Jx pre W')) := by
  have hdd : ∀ k : Nat, (F.depth.isSome = true → 1 ≤ k) := fun k h => by rw [hF.depth] at h; cases h
  have hp := visit_in F hF hro l n₀ _ J Jx hY hJd a b hab t hg (n - 1) p0 [] W hT hJ (by simp)
  have hf : F.fn 83 := hF.fn _
  have HP := hid hp
  clear hp hY hJd hT hJ
  refine callsIn_of_wp Tryz.func82 rfl (hF.fn _) ?_ hro
  simp only [Tryz.ntmps82, List.size_toArray, List.length_cons, List.length_nil, Nat.reduceAdd, Nat.reduceSub, Array.replicate_succ, Array.replicate_zero, List.push_toArray, List.append_toArray, List.nil_append, List.cons_append]
  gi_wp2_with fail
  (try refine ⟨hdd _, ?_⟩)
  refine HP.out.mono ?_
  rintro e W1 (⟨rfl, hJ1, _⟩ | ⟨rfl, q, hq, hx⟩)
  · gi_wp2
    go_end0
    exact ⟨⟨_, rfl⟩, .inl ⟨_, rfl, by simpa using hJ1⟩⟩
  · gi_wp2
    go_end0
    exact ⟨⟨_, rfl⟩, .inr ⟨q, hq, by simpa using hx⟩⟩
set_option maxHeartbeats 1000000 in
theorem within_calls (p0 : Option Addr) (a b : Int) (w : World) :
    Calls Tryz.prog 42 #[.pointer p0, .int .i64 a, .int .i64 b] w fun e w' =>
      e = .returned (.func (.func 82) #[] #[.pointer (some ⟨w.heap.size, 0, none⟩), .pointer (some ⟨w.heap.size + 1, 0, none⟩), .pointer (some ⟨w.heap.size + 1 + 1, 0, none⟩)]) ∧
      w' = ((w.alloc (.cells #[.pointer p0] 90)).alloc (.cells #[.int .i64 a] 3)).alloc (.cells #[.int .i64 b] 3) := by
  go_enter Tryz.func42, Tryz.ntmps42
  go_wp2
  go_ret
  exact ⟨rfl, rfl⟩
theorem within_stops (F : Fence) (hF : Free F Tryz.prog) (hro : F.round = none) (n B0 B1 B2 n₀ : Nat) (p0 : Option Addr) (t : T) (hg : t.Good) (a b : Int) (hab : 1 ≤ a ∧ a ≤ b ∧ b ≤ 1000000) (w : World)
    (l0 : B0 < w.heap.size) (l1 : B1 < w.heap.size) (l2 : B2 < w.heap.size) (hn₀ : n₀ ≤ w.heap.size)
    (h0 : w.cell? ⟨B0, 0, none⟩ = some (.pointer p0)) (h1 : w.cell? ⟨B1, 0, none⟩ = some (.int .i64 a)) (h2 : w.cell? ⟨B2, 0, none⟩ = some (.int .i64 b)) (hT : Tn n₀ w p0 t) :
    SeqStopsK F n Tryz.prog 82 #[.pointer (some ⟨B0, 0, none⟩), .pointer (some ⟨B1, 0, none⟩), .pointer (some ⟨B2, 0, none⟩)] (fun x : GP => #[x.1.val]) (Below n₀)
      (fun ys => vals ys = visL t a b) (fun pre => vals pre <+: visL t a b) (visL t a b).length w := fun l J Jx W hW hJ hJx hY h0' => by
  refine (within1_in F hF hro n l B0 B1 B2 n₀ p0 t hg a b hab (fun pre W => ∃ ys, vals ys = pre ∧ J ys W) (fun pre W => ∃ ys, vals ys = pre ∧ Jx ys W) ?_ ?_ W
    ((hW.cell (p := ⟨B0, 0, none⟩) l0).trans h0) ((hW.cell (p := ⟨B1, 0, none⟩) l1).trans h1) ((hW.cell (p := ⟨B2, 0, none⟩) l2).trans h2) (hT.below (hW.mono hn₀)) ⟨[], rfl, h0'⟩).mono ?_
  · rintro m pre x W1 hx ⟨ys, rfl, hj⟩ hl
    refine (yieldAt_anyDepth hF.depth m (hY ys ⟨x, hx⟩ W1 hj (by rw [vals_length] at hl; exact hl))).mono ?_
    rintro e W' (⟨he, hj', hk⟩ | ⟨he, hj'⟩)
    · exact .inl ⟨he, ⟨_, vals_append _ _, hj'⟩, hk⟩
    · exact .inr ⟨he, ⟨_, vals_append _ _, hj'⟩⟩
  · rintro pre W1 ⟨ys, hv, hj⟩
    exact ⟨ys, hv, hJ ys W1 W1.drew none hj ⟨rfl, rfl, rfl, Nat.le_refl _, fun _ _ _ => rfl⟩ (fun r h => by cases h)⟩
  · rintro e W' ⟨hv, ⟨_, rfl, ys, h, hj⟩ | ⟨_, hp, ys, rfl, hj⟩⟩
    · exact ⟨hv, .inl ⟨ys, h, hj⟩⟩
    · exact ⟨hv, .inr ⟨ys, hp, hj⟩⟩
end Go.Proofs.YtepldjidkomclaaGreat.St
namespace Go.Proofs.YtepldjidkomclaaGreat.St
set_option linter.unusedSimpArgs false
set_option linter.unusedVariables false
open Go.RowKit Go.Shelf
def NowAt (w : World) (sB : Nat) (t : T) : Prop :=
  ∃ (vB k cap : Nat) (p : Option Addr), Cells w sB #[.slice (some ⟨vB, 0, none⟩) (k + 1) cap] 100 ∧ k ≤ 1000000 ∧ w.cell? ⟨vB, k, none⟩ = some (.pointer p) ∧ TreeAt w p t
theorem NowAt.below {w w' : World} {sB : Nat} {t : T} (h : NowAt w sB t) (hb : Below w.heap.size w w') : NowAt w' sB t := by
  obtain ⟨vB, k, cap, p, hc, hk, hv, ht⟩ := h
  exact ⟨vB, k, cap, p, hc.below hb hc.lt, hk, (hb.cell (p := ⟨vB, k, none⟩) (World.block_lt_of_cell? _ _ hv)).trans hv, ht.below hb⟩
set_option maxRecDepth 100000 in
set_option maxHeartbeats 2000000 in
theorem now_calls (w : World) (sB : Nat) (t : T) (h : NowAt w sB t) :
    Calls Tryz.prog 41 #[.pointer (some ⟨sB, 0, none⟩)] w fun e w' => ∃ p, e = .returned (.pointer p) ∧ TreeAt w' p t ∧ Below w.heap.size w w' := by
  obtain ⟨vB, k, cap, p, hc, hk, hv, ht⟩ := h
  have h0 : w.cell? ⟨sB, 0, none⟩ = some (.slice (some ⟨vB, 0, none⟩) (k + 1) cap) := by simp [hc.cell]
  have hw1 : IntKind.i64.wrap ((k : Int) + 1 - 1) = (k : Int) := by rw [IntWalk.i64_in _ (by omega)]; omega
  have HT := hid ht
  clear hc ht
  have i1 : (0 : Int) ≤ (k : Int) := by omega
  have i2 : (k : Int) < (k : Int) + 1 := by omega
  go_enter Tryz.func41, Tryz.ntmps41
  go_wp2
  go_quiet (fail)
  go_wp2
  go_ret
  exact ⟨p, rfl, HT.out.below (below_drewN (Below.refl _ _) _), below_drewN (Below.refl _ _) _⟩
def IterAt (w : World) (p : Option Addr) (a b : Int) (v : Value) : Prop :=
  ∃ B0 B1 B2, v = .func (.func 82) #[] #[.pointer (some ⟨B0, 0, none⟩), .pointer (some ⟨B1, 0, none⟩), .pointer (some ⟨B2, 0, none⟩)] ∧
    Cells w B0 #[.pointer p] 90 ∧ Cells w B1 #[.int .i64 a] 3 ∧ Cells w B2 #[.int .i64 b] 3
theorem within_made (p : Option Addr) (a b : Int) (w : World) :
    Calls Tryz.prog 42 #[.pointer p, .int .i64 a, .int .i64 b] w fun e w' => ∃ v, e = .returned v ∧ IterAt w' p a b v ∧ Below w.heap.size w w' := by
  refine (within_calls p a b w).mono ?_
  rintro e w' ⟨rfl, rfl⟩
  refine ⟨_, rfl, ⟨_, _, _, rfl, ((Cells.new _ _ _).alloc _).alloc _, ?_, ?_⟩, ((((Below.refl _ _).alloc (Nat.le_refl _) _).alloc (by simp) _).alloc (by simp; omega) _)⟩
  · have := (Cells.new (w.alloc (.cells #[.pointer p] 90)) #[.int .i64 a] 3).alloc (.cells #[.int .i64 b] 3)
    rw [World.size_alloc] at this
    exact this
  · have := Cells.new ((w.alloc (.cells #[.pointer p] 90)).alloc (.cells #[.int .i64 a] 3)) #[.int .i64 b] 3
    rw [World.size_alloc, World.size_alloc] at this
    exact this
theorem Cells.kept {W W' : World} {B : Nat} {cs : Array Value} {t : TypeId} {row : Option Nat} (h : Cells W B cs t) (hg : W.grownBy W' row) (hr : ∀ r, row = some r → ∃ o : Obj, W.heap[r]? = some o ∧ o.isCells = false) : Cells W' B cs t :=
  (hg.block B h.lt (fun e => by obtain ⟨o, ho, hc⟩ := hr B e.symm; rw [show W.heap[B]? = _ from h] at ho; cases ho; cases hc)).trans h
theorem keepsFrom_below {B : Nat} {W W' : World} (h : Below W.heap.size W W') : KeepsFrom B W W' :=
  ⟨h.size, fun k o _ hk _ => (h.block k (Array.getElem?_eq_some_iff.1 hk).1).trans hk⟩
theorem keepsFrom_set {B C j : Nat} {W : World} {v : Value} : KeepsFrom B W (W.setCell ⟨C, j, none⟩ v) := (KeepsOthers.setCell W _ v).from B
theorem Cells.put {W : World} {B l : Nat} {cs : Array Value} {t : TypeId} (h : Cells W B cs t) {o : Obj} (hl : W.heap[l]? = some o) (ho : o.isCells = false) (o' : Obj) : Cells (W.putObj l o') B cs t :=
  h.kept (grownBy_putObj' W l o') (fun r e => by cases e; exact ⟨o, hl, ho⟩)
end Go.Proofs.YtepldjidkomclaaGreat.St
namespace Go.Proofs.YtepldjidkomclaaGreat.St
set_option linter.unusedSimpArgs false
set_option linter.unusedVariables false
open Go.RowKit Go.Shelf
attribute [local go_sem] Oper.semAt_some
attribute [local go_sem ↓] Go.wp_at_zero Go.wp_at_succ
def firstE (wr : Cl → Int) : List Pc → Int
  | [] => 0
  | p :: ps => if wr p.cell ≠ 0 then wr p.cell else firstE wr ps
theorem firstE_snoc (wr : Cl → Int) (l : List Pc) (p : Pc) (h : firstE wr l = 0) : firstE wr (l ++ [p]) = wr p.cell := by
  induction l with
  | nil => simp only [List.nil_append, firstE]; split <;> simp_all
  | cons a l ih =>
    simp only [firstE] at h
    split at h
    · rename_i hz; exact absurd h hz
    · rename_i hz; simp only [List.cons_append, firstE, hz, if_false]; exact ih h
theorem firstE_prefix (wr : Cl → Int) (l m : List Pc) (h : l <+: m) (hn : firstE wr l ≠ 0) : firstE wr m = firstE wr l := by
  obtain ⟨r, rfl⟩ := h
  induction l with
  | nil => exact absurd rfl hn
  | cons a l ih =>
    simp only [List.cons_append, firstE] at hn ⊢
    split
    · rfl
    · rename_i hz; rw [if_neg hz] at hn; exact ih hn
def TellsOf (wf : FuncId) (caps : Array Value) (wr : Cl → Int) (w : World) : Prop :=
  ∀ (c : Cl) (W : World), Below w.heap.size w W → Calls Tryz.prog wf (#[c.val] ++ caps) W fun e W' => e = .returned (.int .i64 (wr c)) ∧ Below W.heap.size W W'
set_option maxRecDepth 100000 in
set_option maxHeartbeats 4000000 in
theorem each_calls (w : World) (sB : Nat) (t : T) (hs : NowAt w sB t) (hg : t.Good) (a c : Int) (hac : 1 ≤ a ∧ 1 ≤ c ∧ a + c - 1 ≤ 1000000) (wf : FuncId) (caps : Array Value) (wr : Cl → Int)
    (hwf : TellsOf wf caps wr w) (eg : ∀ args w, (callFunc wf args).run Tryz.prog w = .ok (.enter wf args) w) :
    Calls Tryz.prog 37 #[.pointer (some ⟨sB, 0, none⟩), .agg #[.int .i64 a, .int .i64 c], .func (.func wf) #[] caps] w fun e w' =>
      e = .returned (.int .i64 (firstE wr (visL t a (a + c - 1)))) ∧ Below w.heap.size w w' := by
  have HW := hid hwf
  have HS := hid hs
  have hw1 : IntKind.i64.wrap (a + c) = a + c := IntWalk.i64_in _ (by omega)
  have hw2 : IntKind.i64.wrap (a + c - 1) = a + c - 1 := IntWalk.i64_in _ (by omega)
  have l3 : w.heap.size < w.heap.size + 1 + 1 + 1 := by omega
  clear hwf hs
  have cA : Cells (((w.alloc (.cells #[.int .i64 a, .int .i64 c] 56)).alloc (.cells #[.func (.func wf) #[] caps] 104)).alloc (.cells #[.int .i64 0] 28)) (w.heap.size + 1) #[.func (.func wf) #[] caps] 104 := by
    have := (Cells.new (w.alloc (.cells #[.int .i64 a, .int .i64 c] 56)) #[.func (.func wf) #[] caps] 104).alloc (.cells #[.int .i64 0] 28)
    rw [World.size_alloc] at this
    exact this
  have cE : Cells (((w.alloc (.cells #[.int .i64 a, .int .i64 c] 56)).alloc (.cells #[.func (.func wf) #[] caps] 104)).alloc (.cells #[.int .i64 0] 28)) (w.heap.size + 1 + 1) #[.int .i64 0] 28 := by
    have := Cells.new ((w.alloc (.cells #[.int .i64 a, .int .i64 c] 56)).alloc (.cells #[.func (.func wf) #[] caps] 104)) #[.int .i64 0] 28
    rw [World.size_alloc, World.size_alloc] at this
    exact this
  have CA := hid cA
  have CE := hid cE
  have EG := hid eg
  clear cA cE eg
  obtain ⟨F, hFe⟩ : ∃ F, F = Fence.wide := ⟨_, rfl⟩
  have hF : Free F Tryz.prog := hFe ▸ free_wide _
  have hro : F.round = none := by rw [hFe]; rfl
  have FE := hid hFe
  clear hFe
  refine (callsIn_wide (n := 6)).1 ?_
  rw [← FE.out]
  refine callsIn_of_wp_marks Tryz.func37 rfl (hF.fn _) ?_ hro
  rw [FE.out]
  refine wpIn_wide.2 ?_
  simp only [Tryz.ntmps37, List.size_toArray, List.length_cons, List.length_nil, Nat.reduceAdd, Nat.reduceSub, Array.replicate_succ, Array.replicate_zero, List.push_toArray, List.append_toArray, List.nil_append, List.cons_append]
  go_wp2
  go_region_held3 (fun w' => w'.cell? ⟨w.heap.size, 0, none⟩ = some (.int .i64 a) ∧ w'.cell? ⟨w.heap.size, 1, none⟩ = some (.int .i64 c)) (go_keep)
    (first | ((with_reducible refine (now_calls _ sB t (HS.out.below (by repeat (first | exact Below.refl _ _ | refine Below.drew ?_ | refine Below.alloc ?_ (by simp; try omega) _)))).mono ?_); rintro e w1 ⟨p, rfl, ht1, hb1⟩; obtain ⟨hc1, hf1⟩ := bcell hb1; have lo1 : w.heap.size < w1.heap.size := (by have := hb1.size; (try simp at this); omega)) | ((with_reducible refine (within_made p a (a + c - 1) _).mono ?_); rintro e w2 ⟨v, rfl, hi2, hb2⟩; obtain ⟨hc2, hf2⟩ := bcell hb2))
  obtain ⟨B0, B1, B2, rfl, hB0, hB1, hB2⟩ := hi2
  have up1 : Below w.heap.size w w1 := Below.trans (by repeat (first | exact Below.refl _ _ | refine Below.drew ?_ | refine Below.alloc ?_ (by simp; try omega) _)) (hb1.mono (by simp; omega))
  have up2 : Below w.heap.size w w2 := up1.trans (hb2.mono up1.size)
  have kA : Cells w2 (w.heap.size + 1) #[.func (.func wf) #[] caps] 104 := (CA.out.drew.below hb1 (by simp)).below hb2 (by have := hb1.size; simp at this; omega)
  have kE : Cells w2 (w.heap.size + 1 + 1) #[.int .i64 0] 28 := (CE.out.drew.below hb1 (by simp)).below hb2 (by have := hb1.size; simp at this; omega)
  have ls2 : w.heap.size + 1 + 1 < w2.heap.size := kE.lt
  have KA := hid kA
  have KE := hid kE
  have UP := hid up2
  have T2 := hid (ht1.below hb2)
  clear kA kE up1 up2 hc1 hf1 hc2 hf2 hb1 hb2 ht1 lo1
  go_wp2
  refine (wpIn_wide (n := 6)).1 ?_
  rw [← FE.out]
  refine wpIn_rangeFunc_ownH hro (by omega) (gf := 82) (lb := #[.pointer (some ⟨B0, 0, none⟩), .pointer (some ⟨B1, 0, none⟩), .pointer (some ⟨B2, 0, none⟩)]) rfl (hF.fn _) (enters_of Tryz.func82 (by kernel_rfl) rfl)
    (within_stops F hF hro _ B0 B1 B2 w2.heap.size p t hg a (a + c - 1) ⟨hac.1, by omega, hac.2.2⟩ w2 hB0.lt hB1.lt hB2.lt (Nat.le_refl _) (by simp [hB0.cell]) (by simp [hB1.cell]) (by simp [hB2.cell]) (Tn.of_tree (Nat.le_refl _) (Below.refl _ _) T2.out))
    belowK_t (belowK_b (Nat.le_refl _)) (Below.refl _ _) (fun _ => rfl)
    (fun pre W => firstE wr (vals pre) = 0 ∧ Below w2.heap.size w2 W)
    (fun k pre W => k = Code.ret ∧ firstE wr (vals pre) ≠ 0 ∧ Cells W (w.heap.size + 1 + 1) #[.int .i64 (firstE wr (vals pre))] 28 ∧ Below w.heap.size w W)
    (OwnFrom.and (ownFrom_pure _ _) (ownFrom_below (Nat.le_refl _) (Nat.le_refl _)))
    (fun k => OwnFrom.and (ownFrom_pure _ _) (OwnFrom.and (ownFrom_pure _ _) (OwnFrom.and (fun s X Y row h hg hr => h.kept hg (fun r e => (hr r e).2)) (ownFrom_below (by omega) (by omega)))))
    ⟨rfl, Below.refl _ _⟩
    (fun x a' W => ∃ Bx, w2.heap.size ≤ Bx ∧ Cells W Bx x.1.vals 97 ∧ a' = { tmps := #[.pointer (some ⟨sB, 0, none⟩), .agg #[.int .i64 a, .int .i64 c], .func (.func wf) #[] caps, undef, .pointer (some ⟨w.heap.size, 0, none⟩), .pointer (some ⟨w.heap.size + 1, 0, none⟩), .pointer (some ⟨w.heap.size + 1 + 1, 0, none⟩), .pointer (some ⟨Bx, 0, none⟩), undef,
      .pointer (some ⟨sB, 0, none⟩), .pointer p, .pointer (some ⟨w.heap.size, 0, none⟩), .int .i64 a, .pointer (some ⟨w.heap.size, 0, none⟩), .int .i64 a, .pointer (some ⟨w.heap.size, 1, none⟩), .int .i64 c, .int .i64 (a + c), .int .i64 (a + c - 1),
      .func (.func 82) #[] #[.pointer (some ⟨B0, 0, none⟩), .pointer (some ⟨B1, 0, none⟩), .pointer (some ⟨B2, 0, none⟩)], x.1.val, undef, undef, undef, undef, undef, undef, undef], defers := [] })
    (fun x a' s X Y row h hg hr => by obtain ⟨Bx, h1, h2, h3⟩ := h; exact ⟨Bx, h1, h2.kept hg (fun r e => (hr r e).2), h3⟩) ?assign ?body ?done ?stop
  case assign =>
    rintro l pre x W K ⟨hi1, hi2⟩ hK
    gi_wp2
    exact hK _ _ ((KeepsOthers.alloc _ _).from _) ((Below.refl _ W).alloc hi2.size _) ⟨hi1, hi2.alloc hi2.size _⟩ ⟨W.heap.size, hi2.size, Cells.new _ _ _, rfl⟩
  case body =>
    rintro l pre x a' W hl _ ⟨hi1, hi2⟩ ⟨Bx, hBx, hcx, rfl⟩ hlt
    have k1 : W.cell? ⟨w.heap.size + 1, 0, none⟩ = some (.func (.func wf) #[] caps) := by
      have := (KA.out.below hi2 KA.out.lt).cell 0
      simpa using this
    obtain ⟨e0, e1, e2, e3, e4, e5⟩ := pc_facts hcx
    have hcE : Cells W (w.heap.size + 1 + 1) #[.int .i64 0] 28 := KE.out.below hi2 KE.out.lt
    have CEW := hid hcE
    have X2 := hid hcx
    have HI := hid (And.intro hi1 hi2)
    have hfw : (F.inRound l).fn wf := hF.fn _
    have hfw' : F.fn wf := hF.fn _
    have hdd : ∀ k : Nat, (F.depth.isSome = true → 1 ≤ k) := fun k h => by rw [hF.depth] at h; cases h
    have eg' := EG.out
    clear hi1 hi2 hcx hcE
    gi_wp2_with fail
    (try refine ⟨hdd _, ?_⟩)
    refine (CallsIn.inRound l (hF.calls _ _ _ _ _ (HW.out x.1.cell W ((UP.out.trans (HI.out.2.mono UP.out.size)))))).mono ?_
    rintro e W1 ⟨rfl, hb3⟩
    have hB3 := hid hb3
    have k6 : W1.cell? ⟨w.heap.size + 1 + 1, 0, none⟩ = some (.int .i64 0) := by
      have := (CEW.out.below hb3 CEW.out.lt).cell 0
      simpa using this
    have f6 : W1.frozen? ⟨w.heap.size + 1 + 1, 0, none⟩ = false := (CEW.out.below hb3 CEW.out.lt).frozen 0
    clear hb3 eg'
    by_cases hz : wr x.1.cell = 0
    · have hz' : (wr x.1.cell != 0) = false := by simp [hz]
      have HZ := hid hz
      clear hz
      gi_wp2
      exact ⟨keepsFrom_below hB3.out, hB3.out.mono HI.out.2.size, by rw [vals_append, firstE_snoc _ _ _ HI.out.1]; exact HZ.out, HI.out.2.trans (hB3.out.mono HI.out.2.size)⟩
    · have hz' : (wr x.1.cell != 0) = true := by simp [hz]
      have HZ := hid hz
      clear hz
      gi_wp2
      have ef : firstE wr (vals (pre ++ [x])) = wr x.1.cell := by rw [vals_append, firstE_snoc _ _ _ HI.out.1]
      have hUP := UP.out
      have hIB := HI.out.2
      refine ⟨(keepsFrom_below hB3.out).trans keepsFrom_set, rfl, by rw [ef]; exact HZ.out, ?_, ?_⟩
      · rw [ef]
        exact (CEW.out.below hB3.out CEW.out.lt).set 0 _
      · exact ((hUP.trans (hIB.mono hUP.size)).trans (hB3.out.mono (Nat.le_trans hUP.size hIB.size))).setCell (p := ⟨w.heap.size + 1 + 1, 0, none⟩) (by simp; omega) _
  case done =>
    rintro D ys W hD hS ⟨hi1, hi2⟩ hK
    have k6 : W.cell? ⟨w.heap.size + 1 + 1, 0, none⟩ = some (.int .i64 0) := by
      have := (KE.out.below hi2 KE.out.lt).cell 0
      simpa using this
    have f6 : W.frozen? ⟨w.heap.size + 1 + 1, 0, none⟩ = false := (KE.out.below hi2 KE.out.lt).frozen 0
    have HI := hid (And.intro hi1 hi2)
    have HD := hid hK
    clear hi1 hi2 hK
    go_wp2
    have hUP := UP.out
    have hIB := HI.out.2
    refine ⟨by simp, .inl ⟨_, _, rfl, run_takeDeferred (b := D) (ds := []) ?_, ?_⟩⟩
    · exact (KeepsOthers.setCell _ _ _).same D _ HD.out rfl
    · have hc := ((KE.out.below hIB KE.out.lt).set 0 (.int .i64 0)).put (l := D) (o := .deferred (some [])) ((KeepsOthers.setCell _ _ _).same D _ HD.out rfl) rfl (.deferred none)
      have hc0 := hc.cell 0
      simp at hc0
      refine ⟨.int .i64 0, by simp [results, Tryz.results37, go_sem, hc0], ?_, ?_⟩
      · rw [← hS, HI.out.1]
      · have b1 : Below w.heap.size w (W.setCell ⟨w.heap.size + 1 + 1, 0, none⟩ (.int .i64 0)) := (hUP.trans (hIB.mono hUP.size)).setCell (p := ⟨w.heap.size + 1 + 1, 0, none⟩) (by simp; omega) _
        exact b1.trans (belowK_b (w := w) (Nat.le_refl _) _ D _ _ (by have := hUP.size; omega) ((KeepsOthers.setCell _ _ _).same D _ HD.out rfl) rfl rfl)
  case stop =>
    rintro D k pre W hD hp ⟨rfl, hx, hcr, hbw⟩ hK
    have HI := hid (And.intro hx hcr)
    have HD := hid hK
    have HP := hid hp
    clear hx hcr hK hp
    gi_wp2
    have hUP := UP.out
    refine ⟨by simp, .inl ⟨_, _, rfl, run_takeDeferred (b := D) (ds := []) HD.out, ?_⟩⟩
    have hc := HI.out.2.put (l := D) (o := .deferred (some [])) HD.out rfl (.deferred none)
    have hc0 := hc.cell 0
    simp at hc0
    refine ⟨.int .i64 (firstE wr (vals pre)), by simp [results, Tryz.results37, go_sem, hc0], ?_, ?_⟩
    · rw [firstE_prefix wr _ _ HP.out HI.out.1]
    · exact hbw.trans (belowK_b (w := w) (Nat.le_refl _) _ D _ _ (by have := hUP.size; omega) HD.out rfl rfl)
end Go.Proofs.YtepldjidkomclaaGreat.St
namespace Go.Proofs.YtepldjidkomclaaGreat.St
set_option linter.unusedSimpArgs false
set_option linter.unusedVariables false
open Go.RowKit Go.Shelf
section
variable {P : Program} {ops : Array Oper} {F : Fence} {n : Nat} {md : Region.Mode} {Q : Exit → Act → World → Prop} {S : World → Prop}
theorem nodefer_of_value {o : Oper} {ρ : Operand → Value} {w w' : World} {v : Value} (h : (execOp ρ o).run P w = .ok (.value v) w') : ∀ c, o.op ≠ .defer c := by
  intro c hc
  unfold execOp at h
  rw [hc] at h
  simp only [Sem.run_bind] at h
  cases hr : (resolve ρ c o.type).run P w with
  | ok d w' => rw [hr] at h; simp [Result.andThen, Sem.run] at h
  | halt x w' => rw [hr] at h; simp [Result.andThen] at h
theorem yieldsIf_wpOpIn (hF : Free F P) {i : Nat} {o : Oper} {v : Value} {a : Act} (hi : ops[i]? = some o) (hy : YieldsIf P ops S o v a)
    {K : Act → World → Prop} {w : World} (hS : S w) (h : K (a.put o.dst v) w) : wpOpIn F n P ops Q i K a w := by
  unfold wpOpIn
  simp only [hi]
  rcases hy with ⟨hw, hv⟩ | ⟨hw, rfl⟩
  · simp only [hw, if_true]
    refine ⟨fun f _ => hF.fn f, ?_⟩
    rw [semAt_of (nodefer_of_value (hv w hS)), hv w hS]
    exact h
  · simp only [hw, Bool.false_eq_true, if_false]; exact ⟨fun f _ => hF.fn f, h⟩
def plainOps (ops : Array Oper) : Bool := ops.all fun o => match o.op with | .defer _ => false | .select .. => false | _ => true
theorem plainOps_spec (h : plainOps ops = true) {j : Nat} {o : Oper} (hj : ops[j]? = some o) : (∀ c, o.op ≠ .defer c) ∧ (∀ cs b, o.op ≠ .select cs b) := by
  obtain ⟨hlt, rfl⟩ := Array.getElem?_eq_some_iff.1 hj
  have := (Array.all_eq_true.1 h) j hlt
  constructor
  · intro c hc; rw [hc] at this; simp at this
  · intro cs b hc; rw [hc] at this; simp at this
theorem wpOpIn_putIf (hF : Free F P) (hpl : plainOps ops = true) {i j : Nat} {oi oj : Oper} {v : Value} (hi : ops[i]? = some oi) (hj : ops[j]? = some oj) (hap : oi.apart ops oj = true)
    (hQ : ∀ c a w, Q (.panic c) (a.put oi.dst v) w → Q (.panic c) a w) {K : Act → World → Prop} {a : Act} {w : World}
    (hy : YieldsIf P ops S oi v a) (h : wpOpIn F n P ops Q j K (a.put oi.dst v) w) :
    wpOpIn F n P ops Q j (fun a' w' => YieldsIf P ops S oi v a' ∧ K (a'.put oi.dst v) w') a w := by
  obtain ⟨h1, h2, h3⟩ := Oper.apart_spec hap
  have hsi := (plainOps_spec hpl hi).2
  have hsj := (plainOps_spec hpl hj).2
  have hdj := (plainOps_spec hpl hj).1
  have keep : ∀ (a : Act), YieldsIf P ops S oi v a → ∀ u, YieldsIf P ops S oi v (a.put oj.dst u) := fun a hy u =>
    hy.of_same (execOp_put oi hsi a oj.dst u h3) (wanted_put oi a oj.dst u h3)
  unfold wpOpIn at *
  simp only [hj] at *
  rw [wanted_put oj a oi.dst v h1] at h
  split
  · rename_i hw
    simp only [hw, if_true] at h
    refine ⟨fun f _ => hF.fn f, ?_⟩
    have h' := h.2
    rw [semAt_of hdj, execOp_put oj hsj a oi.dst v h1] at h'
    rw [semAt_of hdj]
    generalize (execOp a.eval oj).run P w = r at *
    cases r with
    | ok nx w' =>
      cases nx <;> simp only [Oper.uponIn] at h' ⊢
      case value u => exact ⟨keep a hy u, by rw [← Act.put_comm a v u h2]; exact h'⟩
      case skip => exact ⟨keep a hy _, by rw [← Act.put_comm a v undef h2]; exact h'⟩
      case defer d =>
        refine ⟨keep { a with defers := d :: a.defers } (hy.of_same rfl rfl) undef, ?_⟩
        rw [← Act.put_comm _ v undef h2, ← Act.put_defers]
        exact h'
      case enter f args =>
        refine ⟨h'.1, h'.2.mono fun e w'' he => ?_⟩
        cases e with
        | returned u => exact ⟨keep a hy u, by rw [← Act.put_comm a v u h2]; exact he⟩
        | panicked c => exact hQ _ _ _ he
        | outgrown => exact he
      case row row args => exact ⟨h'.1, h'.2.mono fun u w'' he => ⟨keep a hy u, by rw [← Act.put_comm a v u h2]; exact he⟩⟩
      case round l f tmps assign body =>
        refine ⟨h'.1, h'.2.mono fun e w'' he => ?_⟩
        cases e with
        | returned u => exact ⟨keep a hy u, by rw [← Act.put_comm a v u h2]; exact he⟩
        | panicked c => exact hQ _ _ _ he
        | outgrown => exact he
    | halt x w' =>
      cases x <;> simp only [Oper.uponIn] at h' ⊢
      case panic u => exact hQ _ _ _ h'
  · rename_i hw
    simp only [hw] at h
    exact ⟨fun f _ => hF.fn f, keep a hy _, by rw [← Act.put_comm a v undef h2]; exact h.2⟩
def wpAnyHIn (F : Fence) (n : Nat) (P : Program) (md : Region.Mode) (ops : Array Oper) (Q : Exit → Act → World → Prop) (S : World → Prop) (f : Nat) : Nat → Array Bool → Act → World → Prop
  | 0, listed, a, w => Region.ready md ops listed = [] ∧ Q .normal a w
  | fuel + 1, listed, a, w =>
    (Region.ready md ops listed = [] → Q .normal a w) ∧
    ∀ i ∈ Region.ready md ops listed, wpOpIn F n P ops Q i (fun a' w' => (i = f ∨ S w') ∧ wpAnyHIn F n P md ops Q S f fuel (listed.setIfInBounds i true) a' w') a w
theorem wpAnyIn_of_heldIn {f : Nat} : ∀ (fuel : Nat) (listed : Array Bool) (a : Act) (w : World), wpAnyHIn F n P md ops Q S f fuel listed a w → wpAnyIn F n P md ops Q fuel listed a w
  | 0, _, _, _, h => h
  | fuel + 1, _, _, _, h => ⟨h.1, fun i hi => wpOpIn_mono (fun a' w' h' => wpAnyIn_of_heldIn fuel _ a' w' h'.2) (h.2 i hi)⟩
theorem wpAnyHIn_first (hF : Free F P) (hpl : plainOps ops = true) {i f : Nat} {oi : Oper} {v : Value} (hi : ops[i]? = some oi) (hfw : Region.waitsFor md ops f i = true)
    (hQ : ∀ c a w, Q (.panic c) (a.put oi.dst v) w → Q (.panic c) a w) :
    ∀ (fuel : Nat) (listed : Array Bool) (a : Act) (w : World),
      (∀ j oj, ops[j]? = some oj → j ≠ i → listed.getD j true = false → (∀ e ∈ oj.after, Region.binds md e = true → e.on ≠ i) → oi.apart ops oj = true) →
      i ∈ Region.ready md ops listed → YieldsIf P ops S oi v a → S w →
      wpAnyHIn F n P md ops Q S f fuel (listed.setIfInBounds i true) (a.put oi.dst v) w → wpAnyHIn F n P md ops Q S f (fuel + 1) listed a w := by
  intro fuel
  induction fuel with
  | zero =>
    intro listed a w _ hr hy hS H
    refine ⟨fun h => (by rw [h] at hr; cases hr), fun j hj => ?_⟩
    by_cases hji : j = i
    · subst hji; exact yieldsIf_wpOpIn hF hi hy hS ⟨.inr hS, H⟩
    · have := ready_mono hj hji
      rw [H.1] at this
      cases this
  | succ fuel ih =>
    intro listed a w hfree hr hy hS H
    refine ⟨fun h => (by rw [h] at hr; cases hr), fun j hj => ?_⟩
    by_cases hji : j = i
    · subst hji; exact yieldsIf_wpOpIn hF hi hy hS ⟨.inr hS, H⟩
    · have h1 := H.2 j (ready_mono hj hji)
      obtain ⟨hjun, oj, hoj, hall⟩ := mem_ready.1 hj
      have hnot : ∀ e ∈ oj.after, Region.binds md e = true → e.on ≠ i := fun e he hb heq => by
        have h1 := hall e he hb
        have h0 := (mem_ready.1 hr).1
        rw [heq] at h1
        rcases Nat.lt_or_ge i listed.size with h' | h'
        · simp [h'] at h0 h1; rw [h0] at h1; cases h1
        · simp [Array.getElem?_eq_none h'] at h1
      have hjf : j ≠ f := fun e => by
        obtain ⟨of, hof, e0, he0, hb0, hon⟩ := Region.waitsFor_spec hfw
        rw [← e, hoj] at hof
        cases hof
        exact hnot e0 he0 hb0 hon
      have h2 := wpOpIn_putIf hF hpl hi hoj (hfree j oj hoj hji hjun hnot) hQ hy h1
      have hfree' : ∀ k ok, ops[k]? = some ok → k ≠ i → (listed.setIfInBounds j true).getD k true = false →
          (∀ e ∈ ok.after, Region.binds md e = true → e.on ≠ i) → oi.apart ops ok = true := fun k ok hk hki hun hno => by
        refine hfree k ok hk hki ?_ hno
        by_cases hjk : j = k
        · subst hjk; exact hjun
        · rw [getD_set_ne true hjk] at hun; exact hun
      refine wpOpIn_mono (fun a' w' h3 => ⟨h3.2.1, ih (listed.setIfInBounds j true) a' w' hfree' (ready_mono hr (Ne.symm hji)) h3.1 (h3.2.1.resolve_left hjf) ?_⟩) h2
      rw [Array.setIfInBounds_comm _ _ hji]
      exact h3.2.2
theorem wpAnyHIn_take (hF : Free F P) (hpl : plainOps ops = true) {i f : Nat} {oi : Oper} {v : Value} {fuel : Nat} {listed : Array Bool} {a : Act} {w : World} (hi : ops[i]? = some oi) (hfw : Region.waitsFor md ops f i = true)
    (hf : Region.free md ops listed i = true) (hr : (Region.ready md ops listed).contains i = true)
    (hQ : ∀ c a w, Q (.panic c) (a.put oi.dst v) w → Q (.panic c) a w) (hy : YieldsIf P ops S oi v a) (hS : S w)
    (h : wpAnyHIn F n P md ops Q S f fuel (listed.setIfInBounds i true) (a.put oi.dst v) w) : wpAnyHIn F n P md ops Q S f (fuel + 1) listed a w :=
  wpAnyHIn_first hF hpl hi hfw hQ fuel listed a w (Region.free_spec hi hf) (by simpa using hr) hy hS h
theorem wpAnyHIn_one {i f : Nat} {oi : Oper} {fuel : Nat} {listed : Array Bool} {a : Act} {w : World} (hi : ops[i]? = some oi) (hr : Region.ready md ops listed = [i]) (hg : oi.guard = none)
    (h : oi.wpIn F n P a w (fun a' w' => (i = f ∨ S w') ∧ wpAnyHIn F n P md ops Q S f fuel (listed.setIfInBounds i true) a' w') Q) : wpAnyHIn F n P md ops Q S f (fuel + 1) listed a w := by
  refine ⟨fun h0 => (by rw [h0] at hr; cases hr), fun j hj => ?_⟩
  rw [hr] at hj
  have hij : j = i := by simpa using hj
  subst hij
  unfold wpOpIn
  simp only [hi, Region.wanted, hg, if_true]
  exact h
theorem wpAnyHIn_done {f : Nat} {listed : Array Bool} {a : Act} {w : World} (hr : Region.ready md ops listed = []) (h : Q .normal a w) :
    ∀ fuel, wpAnyHIn F n P md ops Q S f fuel listed a w
  | 0 => ⟨hr, h⟩
  | _ + 1 => ⟨fun _ => h, by rw [hr]; simp⟩
theorem wpIn_region_heldIn {id f : Nat} {a : Act} {w : World} (hm : P.follows .mixedOrders = true)
    (h : wpAnyHIn F n P .any ops Q S f ops.size (Array.replicate ops.size false) a { w with drawn := w.drawn + 1 }) : (Code.region id ops true).wpIn F n P Q a w :=
  wpIn_region_any hm (wpAnyIn_of_heldIn _ _ _ _ h)
end
end Go.Proofs.YtepldjidkomclaaGreat.St
