/- A region that draws its order, within a fence: quiet operations first, then a forced tail. visit: the pieces of a span, in order, to a yield. within: the iterator over the pieces of a span. The last version of a register; each. each: the first error that a closure returns for a pocket of a span. Within a fence: an operation that yields its value in every world that meets S may be taken first, if S is kept by the others. changed: the tree with the states of a span as a closure has them. Slices of integers that are read; slices.IndexFunc, ContainsFunc; are. The small functions of the stock package: valid spans, the closures of the changes. The closures that make cells; owned, held; Version; at. A register with all its versions; make. A quiet region that draws its order, within a fence that lets all by. Alpha. -/
import Derived.StillTailTactics
import Derived.OrdersHeld
import Derived.BigQuiet
import Derived.Test.YtnnbdjfeagcbdaaJVis0
namespace Go.Proofs.Ytnnbdjfeagcbdaa
set_option linter.unusedSimpArgs false
set_option linter.unusedVariables false
open Go.RowKit Go.Shelf
section
variable {P : Program} {ops : Array Oper} {F : Fence} {n : Nat} {w : World} {md : Region.Mode}

/-- A fence that lets all by. -/
structure Free (F : Fence) (P : Program) : Prop where
  fn : ∀ f, F.fn f
  depth : F.depth = none
  calls : ∀ n f args w R, Calls P f args w R → CallsIn F n P f args w R

theorem free_wide (P : Program) : Free Fence.wide P := ⟨fun _ => trivial, rfl, fun n f args w R h => (callsIn_wide (n := n)).2 h⟩
theorem free_round {F : Fence} {P : Program} (h : Free F P) (l : Nat) : Free (F.inRound l) P := ⟨h.fn, h.depth, fun n f args w R hc => CallsIn.inRound l (h.calls n f args w R hc)⟩

theorem semAt_of {o : Oper} {ρ : Operand → Value} {ro : Option Nat} (h : ∀ c, o.op ≠ .defer c) : o.semAt ro ρ = execOp ρ o := by
  unfold Oper.semAt
  split
  · rename_i c hc; exact absurd hc (h c)
  · rfl

theorem wpIn_of_still (hF : Free F P) {o : Oper} {a : Act} {K : Act → Prop} {K' : Act → World → Prop} {Q' : Exit → Act → World → Prop} (h : ∀ a, K a → K' a w) (hh : o.still P a w K) : o.wpIn F n P a w K' Q' := by
  have hnd : ∀ c, o.op ≠ .defer c := by
    intro c hc
    unfold Oper.still execOp at hh
    rw [hc] at hh
    simp only [Sem.run_bind] at hh
    cases hr : (resolve a.eval c o.type).run P w with
    | ok d w' => rw [hr] at hh; simp [Result.andThen, Sem.run, Oper.stillUpon] at hh
    | halt x w' => rw [hr] at hh; simp [Result.andThen, Oper.stillUpon] at hh
  refine ⟨fun f _ => hF.fn f, ?_⟩
  rw [semAt_of hnd]
  unfold Oper.still at hh
  generalize (execOp a.eval o).run P w = r at *
  cases r with
  | ok nx w' =>
    cases nx <;> simp only [Oper.stillUpon] at hh <;> simp only [Oper.uponIn]
    case enter f args =>
      obtain ⟨rfl, v, hc, hn⟩ := hh
      refine ⟨fun hd => (by rw [hF.depth] at hd; cases hd), hF.calls _ _ _ _ _ (hc.mono fun e w'' ⟨he, hw⟩ => by subst he; subst hw; exact h _ hn)⟩
    all_goals (obtain ⟨rfl, h2⟩ := hh; exact h _ h2)
  | halt x w' => simp only [Oper.stillUpon] at hh

theorem wpOpIn_of_stOp (hF : Free F P) {i : Nat} {a : Act} {K : Act → Prop} {K' : Act → World → Prop} {Q' : Exit → Act → World → Prop} (h : ∀ a, K a → K' a w) (hh : stOp P ops w i K a) : wpOpIn F n P ops Q' i K' a w := by
  unfold stOp at hh
  unfold wpOpIn
  split
  · rename_i ho; simp only [ho] at hh; exact h _ hh
  · rename_i o ho
    simp only [ho] at hh
    split
    · rename_i hw; simp only [hw, if_true] at hh; exact wpIn_of_still hF h hh
    · rename_i hw; simp only [hw] at hh; exact ⟨fun f _ => hF.fn f, h _ hh⟩

theorem wpAnyIn_of_head (hF : Free F P) {m g : Nat} {L : Array Bool → Act → Prop} {Q' : Exit → Act → World → Prop} (hL : ∀ listed a, L listed a → wpAnyIn F n P md ops Q' g listed a w) :
    ∀ (f : Nat) (listed : Array Bool) (a : Act), wpAnyL P md ops w m L f listed a → wpAnyIn F n P md ops Q' (f + g) listed a w
  | 0, listed, a, h => by rw [Nat.zero_add]; exact hL _ _ h
  | f + 1, listed, a, h => by
    rw [show f + 1 + g = (f + g) + 1 by omega]
    exact ⟨fun h0 => absurd h0 h.1, fun i hi => wpOpIn_of_stOp hF (fun a' h' => wpAnyIn_of_head hF hL f _ a' h') (h.2 i hi).2⟩

theorem wpAnyIn_of_seq {Q' : Exit → Act → World → Prop} : ∀ (l : List Oper) (k : Nat) (listed : Array Bool) (a : Act) (w : World), (∀ j, l[j]? = ops[k + j]?) →
    Region.seqB md ops l.length k listed = true → wpListIn F n P ops Q' l a w → wpAnyIn F n P md ops Q' l.length listed a w
  | [], _, _, _, _, _, hB, h => ⟨by simpa [Region.seqB] using hB, h⟩
  | o :: l, k, listed, a, w, hl, hB, h => by
    have h0 : ops[k]? = some o := by simpa using (hl 0).symm
    simp only [List.length_cons, Region.seqB, Bool.and_eq_true, decide_eq_true_eq] at hB
    refine ⟨fun h1 => (by rw [hB.1] at h1; cases h1), fun i hi => ?_⟩
    rw [hB.1] at hi
    have hik : i = k := by simpa using hi
    subst hik
    have hw : wpOpIn F n P ops Q' i (wpListIn F n P ops Q' l) a w := by unfold wpOpIn; simp only [h0]; exact h
    exact wpOpIn_mono (fun a' w' h' => wpAnyIn_of_seq l (i + 1) _ a' w' (fun j => by have := hl (j + 1); simpa [Nat.add_assoc, Nat.add_comm 1 j] using this) hB.2 h') hw

/-- The first m operations are quiet, the others come behind them, one after the other. -/
theorem wpIn_region_still_tail (hF : Free F P) {id : Nat} {Q : Exit → Act → World → Prop} {a : Act} {l : List Oper} (m : Nat) (hm : P.follows .mixedOrders = true) (hB : Region.lexTailB .any l.toArray m = true)
    (h : wpStill P l.toArray { w with drawn := w.drawn + 1 } (fun a' => wpListIn F n P l.toArray Q (l.drop m) a' { w with drawn := w.drawn + 1 }) (l.take m) a) : (Code.region id l.toArray true).wpIn F n P Q a w := by
  simp only [Region.lexTailB, Bool.and_eq_true, decide_eq_true_eq] at hB
  obtain ⟨⟨⟨⟨hsel, hn⟩, hs⟩, hc⟩, hlex⟩ := hB
  have hn' : m < l.length := by simpa using hn
  have htl : (l.take m).length = m := by simp; omega
  have hdl : (l.drop m).length = l.toArray.size - m := by simp
  have inv0 : HeadInv .any l.toArray m (Array.replicate l.toArray.size false) :=
    ⟨by simp, fun j oj _ hl => (by rw [getD_replicate_false] at hl; cases hl), fun t _ ht => getD_in (by simpa using ht) (getD_replicate_false _ _)⟩
  have H := wpAnyL_lex (md := .any) (g := l.toArray.size - m) hsel hs hc hn (l.take m) 0 _ a (fun j hj => by
    have hj' : j < m := by rw [htl] at hj; exact hj
    simp [hj']) (by simpa using htl) inv0 (by rw [htl]; exact hlex) h
  refine wpIn_region_any hm ?_
  have := wpAnyIn_of_head (F := F) (n := n) hF (Q' := Q) (g := l.toArray.size - m) (fun listed a' hL => by
    have := wpAnyIn_of_seq (F := F) (n := n) (md := .any) (Q' := Q) (l.drop m) m listed a' { w with drawn := w.drawn + 1 } (fun j => by simp [List.getElem?_drop]) (by rw [hdl]; exact hL.1) hL.2
    rwa [hdl] at this) _ _ _ H
  rw [htl, show m + (l.toArray.size - m) = l.toArray.size by omega] at this
  exact this
end
end Go.Proofs.Ytnnbdjfeagcbdaa
namespace Go.Proofs.Ytnnbdjfeagcbdaa
set_option linter.unusedSimpArgs false
set_option linter.unusedVariables false
open Go.RowKit Go.Shelf
attribute [local go_sem] Oper.semAt_some

/-- What a yield promises. -/
def YieldsPc (F : Fence) (l n₀ N : Nat) (J Jx : List Pc → World → Prop) : Prop :=
  ∀ (m : Nat) (pre : List Pc) (x : Pc) (W : World), x.Good → J pre W → pre.length < N → YieldAt F m Try.prog l #[x.val] W fun e W' =>
      (e = .returned (.bool true) ∧ J (pre ++ [x]) W' ∧ Below n₀ W W') ∨ (e = .returned (.bool false) ∧ Jx (pre ++ [x]) W')
def VisitOf (F : Fence) (l n₀ N : Nat) (J Jx : List Pc → World → Prop) (a b : Int) (t : T) : Prop :=
  ∀ (n : Nat) (p : Option Addr) (pre : List Pc) (W : World), Tn n₀ W p t → J pre W → pre.length + (visL t a b).length ≤ N →
      CallsIn F n Try.prog 103 #[.pointer p, .int .i64 a, .int .i64 b, .func (.yield l) #[] #[]] W fun e W' =>
        (e = .returned (.bool true) ∧ J (pre ++ visL t a b) W' ∧ Below n₀ W W') ∨ (e = .returned (.bool false) ∧ ∃ q, q <+: visL t a b ∧ Jx (pre ++ q) W')

/-- The answer of a round: yes, and it goes on; or no. -/
def YOut (n₀ : Nat) (J Jx : World → Prop) (W : World) (t : Bool) (W' : World) : Prop := (t = true ∧ J W' ∧ Below n₀ W W') ∨ (t = false ∧ Jx W')
theorem yOut {n₀ : Nat} {J Jx : World → Prop} {W : World} {e : Ending} {W' : World} (h : (e = .returned (.bool true) ∧ J W' ∧ Below n₀ W W') ∨ (e = .returned (.bool false) ∧ Jx W')) :
    ∃ t : Bool, e = .returned (.bool t) ∧ YOut n₀ J Jx W t W' := h.elim (fun h => ⟨true, h.1, .inl ⟨rfl, h.2⟩⟩) (fun h => ⟨false, h.1, .inr ⟨rfl, h.2⟩⟩)




set_option maxRecDepth 100000 in
set_option maxHeartbeats 8000000 in
theorem visit_a1 (F : Fence) (hF : Free F Try.prog) (hro : F.round = none) (l n₀ N : Nat) (J Jx : List Pc → World → Prop) (hY : YieldsPc F l n₀ N J Jx) (hJd : ∀ pre W, J pre W → J pre W.drew) (a b : Int)
    (tl tr : T) (tp : Pc) (th : Int) (hg : tp.Good) (hab : 1 ≤ a ∧ a ≤ b ∧ b ≤ 1000000) (h1 : a < tp.from_) (h2 : b < tp.from_) (ihl : VisitOf F l n₀ N J Jx a b tl) : VisitOf F l n₀ N J Jx a b (T.node tl tr tp th) := by
  intro n p pre W ht hJ hN
  have hg2 : tp.from_ ≤ tp.to := hg.2.1
  have ev : visL (T.node tl tr tp th) a b = visL tl a b := by
    rw [visL, if_pos (by omega), if_neg (by omega), if_pos (by omega)]
    (try simp)
  have EV := hid ev
  rw [ev] at hN
  (try simp only [List.length_append, List.length_cons, List.length_nil] at hN)
  obtain ⟨bx, pl, pr, rfl, hb, hk, hl, hr⟩ := ht
  obtain ⟨ltx, cx0, cx1, cx2, cx3, cx4, cx5, cx6, cx7, cx8⟩ := node_cells hk
  have hdd : ∀ k : Nat, (F.depth.isSome = true → 1 ≤ k) := fun k h => by rw [hF.depth] at h; cases h
  have HK := hid (fun (W2 : World) (h : Below n₀ W W2) => node_cells ((h.block bx hb).trans hk))
  have HL := hid hl
  have HR := hid hr
  have hf : F.fn 103 := hF.fn _
  have hmx : Try.prog.follows .mixedOrders = true := by kernel_rfl
  clear hk hg ev hl hr
  refine callsIn_of_wp Try.func103 rfl (hF.fn _) ?_ hro
  simp only [Try.ntmps103, List.size_toArray, List.length_cons, List.length_nil, Nat.reduceAdd, Nat.reduceSub, Array.replicate_succ, Array.replicate_zero, List.push_toArray, List.append_toArray, List.nil_append, List.cons_append]
  gi_wp2_with fail
  (try refine ⟨hdd _, ?_⟩)
  refine (ihl (n - 1) pl pre W HL.out hJ (by omega)).mono ?_
  rintro e W1 (⟨rfl, hJ1, hb1⟩ | ⟨rfl, q1, hq1, hx1⟩)
  · obtain ⟨_, d0, d1, d2, d3, d4, d5, d6, d7, d8⟩ := HK.out W1 hb1
    gi_wp2
    go_ret
    exact .inl ⟨by first | rfl | (simp; done) | (simp; omega), by rw [EV.out]; simpa [List.append_assoc] using hJ1, hb1⟩
  · gi_wp2
    go_ret
    exact .inr ⟨by first | rfl | (simp; done) | (simp; omega), q1, by rw [EV.out]; exact hq1.trans ⟨[], by simp⟩, by simpa [List.append_assoc] using hx1⟩

set_option maxRecDepth 100000 in
set_option maxHeartbeats 8000000 in
theorem visit_a2 (F : Fence) (hF : Free F Try.prog) (hro : F.round = none) (l n₀ N : Nat) (J Jx : List Pc → World → Prop) (hY : YieldsPc F l n₀ N J Jx) (hJd : ∀ pre W, J pre W → J pre W.drew) (a b : Int)
    (tl tr : T) (tp : Pc) (th : Int) (hg : tp.Good) (hab : 1 ≤ a ∧ a ≤ b ∧ b ≤ 1000000) (h1 : a < tp.from_) (h2 : tp.from_ ≤ b) (h3 : b ≤ tp.to) (ihl : VisitOf F l n₀ N J Jx a b tl) : VisitOf F l n₀ N J Jx a b (T.node tl tr tp th) := by
  intro n p pre W ht hJ hN
  have hcut : tp.cut a b = ⟨tp.from_, b, tp.cell⟩ := by simp only [Pc.cut]; congr 1 <;> omega
  have hgc : (⟨tp.from_, b, tp.cell⟩ : Pc).Good := by simp only [Pc.Good] at *; omega
  have hg2 : tp.from_ ≤ tp.to := hg.2.1
  have ev : visL (T.node tl tr tp th) a b = visL tl a b ++ [⟨tp.from_, b, tp.cell⟩] := by
    rw [← hcut, visL, if_pos (by omega), if_pos (by omega), if_pos (by omega)]
    (try simp)
  have EV := hid ev
  rw [ev] at hN
  (try simp only [List.length_append, List.length_cons, List.length_nil] at hN)
  obtain ⟨bx, pl, pr, rfl, hb, hk, hl, hr⟩ := ht
  obtain ⟨ltx, cx0, cx1, cx2, cx3, cx4, cx5, cx6, cx7, cx8⟩ := node_cells hk
  have hdd : ∀ k : Nat, (F.depth.isSome = true → 1 ≤ k) := fun k h => by rw [hF.depth] at h; cases h
  have HK := hid (fun (W2 : World) (h : Below n₀ W W2) => node_cells ((h.block bx hb).trans hk))
  have HL := hid hl
  have HR := hid hr
  have hf : F.fn 103 := hF.fn _
  have hmx : Try.prog.follows .mixedOrders = true := by kernel_rfl
  clear hk hg ev hl hr hcut
  refine callsIn_of_wp Try.func103 rfl (hF.fn _) ?_ hro
  simp only [Try.ntmps103, List.size_toArray, List.length_cons, List.length_nil, Nat.reduceAdd, Nat.reduceSub, Array.replicate_succ, Array.replicate_zero, List.push_toArray, List.append_toArray, List.nil_append, List.cons_append]
  gi_wp2_with fail
  (try refine ⟨hdd _, ?_⟩)
  refine (ihl (n - 1) pl pre W HL.out hJ (by omega)).mono ?_
  rintro e W1 (⟨rfl, hJ1, hb1⟩ | ⟨rfl, q1, hq1, hx1⟩)
  · obtain ⟨_, d0, d1, d2, d3, d4, d5, d6, d7, d8⟩ := HK.out W1 hb1
    obtain ⟨fn, tmps, assign, body, hy, hR⟩ := hY (n - 1) (pre ++ visL tl a b) ⟨tp.from_, b, tp.cell⟩ W1.drew hgc (hJd _ _ hJ1) (by simp; omega)
    simp only [Pc.val, Pc.vals] at hy
    gi_wp2
    refine wpIn_region_still_tail hF 24 hmx (by kernel_rfl) ?_
    simp only [List.take_succ_cons, List.take_zero, List.drop_succ_cons, List.drop_zero]
    repeat still_step
    refine wpStill_nil ?_
    gi_wp2_with fail
    (try refine ⟨hdd _, ?_⟩)
    refine hR.mono ?_
    rintro e W2 (⟨rfl, hJ2, hb2⟩ | ⟨rfl, hx2⟩)
    · have hb2' : Below n₀ W W2 := hb1.trans (undrew hb2)
      obtain ⟨_, f0, f1, f2, f3, f4, f5, f6, f7, f8⟩ := HK.out W2 hb2'
      gi_wp2
      go_ret
      exact .inl ⟨by first | rfl | (simp; done) | (simp; omega), by rw [EV.out]; simpa [List.append_assoc] using hJ2, hb2'⟩
    · gi_wp2
      go_ret
      exact .inr ⟨by first | rfl | (simp; done) | (simp; omega), visL tl a b ++ [⟨tp.from_, b, tp.cell⟩], by rw [EV.out]; exact ⟨[], by simp⟩, by simpa [List.append_assoc] using hx2⟩
  · gi_wp2
    go_ret
    exact .inr ⟨by first | rfl | (simp; done) | (simp; omega), q1, by rw [EV.out]; exact hq1.trans ⟨[⟨tp.from_, b, tp.cell⟩], by simp⟩, by simpa [List.append_assoc] using hx1⟩

set_option maxRecDepth 100000 in
set_option maxHeartbeats 8000000 in
theorem visit_a3 (F : Fence) (hF : Free F Try.prog) (hro : F.round = none) (l n₀ N : Nat) (J Jx : List Pc → World → Prop) (hY : YieldsPc F l n₀ N J Jx) (hJd : ∀ pre W, J pre W → J pre W.drew) (a b : Int)
    (tl tr : T) (tp : Pc) (th : Int) (hg : tp.Good) (hab : 1 ≤ a ∧ a ≤ b ∧ b ≤ 1000000) (h1 : a < tp.from_) (h2 : tp.from_ ≤ b) (h3 : tp.to < b) (ihl : VisitOf F l n₀ N J Jx a b tl) (ihr : VisitOf F l n₀ N J Jx a b tr) : VisitOf F l n₀ N J Jx a b (T.node tl tr tp th) := by
  intro n p pre W ht hJ hN
  have hcut : tp.cut a b = ⟨tp.from_, tp.to, tp.cell⟩ := by simp only [Pc.cut]; congr 1 <;> omega
  have hgc : (⟨tp.from_, tp.to, tp.cell⟩ : Pc).Good := by simp only [Pc.Good] at *; omega
  have hg2 : tp.from_ ≤ tp.to := hg.2.1
  have ev : visL (T.node tl tr tp th) a b = visL tl a b ++ [⟨tp.from_, tp.to, tp.cell⟩] ++ visL tr a b := by
    rw [← hcut, visL, if_pos (by omega), if_pos (by omega), if_neg (by omega)]
    (try simp)
  have EV := hid ev
  rw [ev] at hN
  (try simp only [List.length_append, List.length_cons, List.length_nil] at hN)
  obtain ⟨bx, pl, pr, rfl, hb, hk, hl, hr⟩ := ht
  obtain ⟨ltx, cx0, cx1, cx2, cx3, cx4, cx5, cx6, cx7, cx8⟩ := node_cells hk
  have hdd : ∀ k : Nat, (F.depth.isSome = true → 1 ≤ k) := fun k h => by rw [hF.depth] at h; cases h
  have HK := hid (fun (W2 : World) (h : Below n₀ W W2) => node_cells ((h.block bx hb).trans hk))
  have HL := hid hl
  have HR := hid hr
  have hf : F.fn 103 := hF.fn _
  have hmx : Try.prog.follows .mixedOrders = true := by kernel_rfl
  clear hk hg ev hl hr hcut
  refine callsIn_of_wp Try.func103 rfl (hF.fn _) ?_ hro
  simp only [Try.ntmps103, List.size_toArray, List.length_cons, List.length_nil, Nat.reduceAdd, Nat.reduceSub, Array.replicate_succ, Array.replicate_zero, List.push_toArray, List.append_toArray, List.nil_append, List.cons_append]
  gi_wp2_with fail
  (try refine ⟨hdd _, ?_⟩)
  refine (ihl (n - 1) pl pre W HL.out hJ (by omega)).mono ?_
  rintro e W1 (⟨rfl, hJ1, hb1⟩ | ⟨rfl, q1, hq1, hx1⟩)
  · obtain ⟨_, d0, d1, d2, d3, d4, d5, d6, d7, d8⟩ := HK.out W1 hb1
    obtain ⟨fn, tmps, assign, body, hy, hR⟩ := hY (n - 1) (pre ++ visL tl a b) ⟨tp.from_, tp.to, tp.cell⟩ W1.drew hgc (hJd _ _ hJ1) (by simp; omega)
    simp only [Pc.val, Pc.vals] at hy
    gi_wp2
    refine wpIn_region_still_tail hF 24 hmx (by kernel_rfl) ?_
    simp only [List.take_succ_cons, List.take_zero, List.drop_succ_cons, List.drop_zero]
    repeat still_step
    refine wpStill_nil ?_
    gi_wp2_with fail
    (try refine ⟨hdd _, ?_⟩)
    refine hR.mono ?_
    rintro e W2 (⟨rfl, hJ2, hb2⟩ | ⟨rfl, hx2⟩)
    · have hb2' : Below n₀ W W2 := hb1.trans (undrew hb2)
      obtain ⟨_, f0, f1, f2, f3, f4, f5, f6, f7, f8⟩ := HK.out W2 hb2'
      gi_wp2_with fail
      (try refine ⟨hdd _, ?_⟩)
      refine (ihr (n - 1) pr ((pre ++ visL tl a b) ++ [⟨tp.from_, tp.to, tp.cell⟩]) W2 (HR.out.below hb2') hJ2 (by (try simp); omega)).mono ?_
      rintro e W3 (⟨rfl, hJ3, hb3⟩ | ⟨rfl, q3, hq3, hx3⟩)
      · gi_wp2
        go_ret
        exact .inl ⟨by first | rfl | (simp; done) | (simp; omega), by rw [EV.out]; simpa [List.append_assoc] using hJ3, hb2'.trans hb3⟩
      · gi_wp2
        go_ret
        exact .inr ⟨by first | rfl | (simp; done) | (simp; omega), visL tl a b ++ [⟨tp.from_, tp.to, tp.cell⟩] ++ q3, by rw [EV.out]; obtain ⟨r3, hr3⟩ := hq3; exact ⟨r3, by simp [← hr3]⟩, by simpa [List.append_assoc] using hx3⟩
    · gi_wp2
      go_ret
      exact .inr ⟨by first | rfl | (simp; done) | (simp; omega), visL tl a b ++ [⟨tp.from_, tp.to, tp.cell⟩], by rw [EV.out]; exact ⟨visL tr a b, by simp⟩, by simpa [List.append_assoc] using hx2⟩
  · gi_wp2
    go_ret
    exact .inr ⟨by first | rfl | (simp; done) | (simp; omega), q1, by rw [EV.out]; exact hq1.trans ⟨[⟨tp.from_, tp.to, tp.cell⟩] ++ visL tr a b, by simp⟩, by simpa [List.append_assoc] using hx1⟩

set_option maxRecDepth 100000 in
set_option maxHeartbeats 8000000 in
theorem visit_b1a (F : Fence) (hF : Free F Try.prog) (hro : F.round = none) (l n₀ N : Nat) (J Jx : List Pc → World → Prop) (hY : YieldsPc F l n₀ N J Jx) (hJd : ∀ pre W, J pre W → J pre W.drew) (a b : Int)
    (tl tr : T) (tp : Pc) (th : Int) (hg : tp.Good) (hab : 1 ≤ a ∧ a ≤ b ∧ b ≤ 1000000) (h1 : tp.from_ ≤ a) (h2 : a ≤ tp.to) (h3 : b ≤ tp.to) : VisitOf F l n₀ N J Jx a b (T.node tl tr tp th) := by
  intro n p pre W ht hJ hN
  have hcut : tp.cut a b = ⟨a, b, tp.cell⟩ := by simp only [Pc.cut]; congr 1 <;> omega
  have hgc : (⟨a, b, tp.cell⟩ : Pc).Good := by simp only [Pc.Good] at *; omega
  have hg2 : tp.from_ ≤ tp.to := hg.2.1
  have ev : visL (T.node tl tr tp th) a b = [⟨a, b, tp.cell⟩] := by
    rw [← hcut, visL, if_neg (by omega), if_pos (by omega), if_pos (by omega)]
    (try simp)
  have EV := hid ev
  rw [ev] at hN
  (try simp only [List.length_append, List.length_cons, List.length_nil] at hN)
  obtain ⟨bx, pl, pr, rfl, hb, hk, hl, hr⟩ := ht
  obtain ⟨ltx, cx0, cx1, cx2, cx3, cx4, cx5, cx6, cx7, cx8⟩ := node_cells hk
  have hdd : ∀ k : Nat, (F.depth.isSome = true → 1 ≤ k) := fun k h => by rw [hF.depth] at h; cases h
  have HK := hid (fun (W2 : World) (h : Below n₀ W W2) => node_cells ((h.block bx hb).trans hk))
  have HL := hid hl
  have HR := hid hr
  have hf : F.fn 103 := hF.fn _
  have hmx : Try.prog.follows .mixedOrders = true := by kernel_rfl
  obtain ⟨fn, tmps, assign, body, hy, hR⟩ := hY (n - 1) pre ⟨a, b, tp.cell⟩ W.drew hgc (hJd _ _ hJ) (by omega)
  simp only [Pc.val, Pc.vals] at hy
  clear hk hg ev hl hr hcut
  refine callsIn_of_wp Try.func103 rfl (hF.fn _) ?_ hro
  simp only [Try.ntmps103, List.size_toArray, List.length_cons, List.length_nil, Nat.reduceAdd, Nat.reduceSub, Array.replicate_succ, Array.replicate_zero, List.push_toArray, List.append_toArray, List.nil_append, List.cons_append]
  gi_wp2
  refine wpIn_region_still_tail hF 24 hmx (by kernel_rfl) ?_
  simp only [List.take_succ_cons, List.take_zero, List.drop_succ_cons, List.drop_zero]
  repeat still_step
  refine wpStill_nil ?_
  gi_wp2_with fail
  (try refine ⟨hdd _, ?_⟩)
  refine hR.mono ?_
  rintro e W2 (⟨rfl, hJ2, hb2⟩ | ⟨rfl, hx2⟩)
  · have hb2' : Below n₀ W W2 := undrew hb2
    obtain ⟨_, f0, f1, f2, f3, f4, f5, f6, f7, f8⟩ := HK.out W2 hb2'
    gi_wp2
    go_ret
    exact .inl ⟨by first | rfl | (simp; done) | (simp; omega), by rw [EV.out]; simpa [List.append_assoc] using hJ2, hb2'⟩
  · gi_wp2
    go_ret
    exact .inr ⟨by first | rfl | (simp; done) | (simp; omega), [⟨a, b, tp.cell⟩], by rw [EV.out]; exact ⟨[], by simp⟩, by simpa [List.append_assoc] using hx2⟩

set_option maxRecDepth 100000 in
set_option maxHeartbeats 8000000 in
theorem visit_b1b (F : Fence) (hF : Free F Try.prog) (hro : F.round = none) (l n₀ N : Nat) (J Jx : List Pc → World → Prop) (hY : YieldsPc F l n₀ N J Jx) (hJd : ∀ pre W, J pre W → J pre W.drew) (a b : Int)
    (tl tr : T) (tp : Pc) (th : Int) (hg : tp.Good) (hab : 1 ≤ a ∧ a ≤ b ∧ b ≤ 1000000) (h1 : tp.from_ ≤ a) (h2 : a ≤ tp.to) (h3 : tp.to < b) (ihr : VisitOf F l n₀ N J Jx a b tr) : VisitOf F l n₀ N J Jx a b (T.node tl tr tp th) := by
  intro n p pre W ht hJ hN
  have hcut : tp.cut a b = ⟨a, tp.to, tp.cell⟩ := by simp only [Pc.cut]; congr 1 <;> omega
  have hgc : (⟨a, tp.to, tp.cell⟩ : Pc).Good := by simp only [Pc.Good] at *; omega
  have hg2 : tp.from_ ≤ tp.to := hg.2.1
  have ev : visL (T.node tl tr tp th) a b = [⟨a, tp.to, tp.cell⟩] ++ visL tr a b := by
    rw [← hcut, visL, if_neg (by omega), if_pos (by omega), if_neg (by omega)]
    (try simp)
  have EV := hid ev
  rw [ev] at hN
  (try simp only [List.length_append, List.length_cons, List.length_nil] at hN)
  obtain ⟨bx, pl, pr, rfl, hb, hk, hl, hr⟩ := ht
  obtain ⟨ltx, cx0, cx1, cx2, cx3, cx4, cx5, cx6, cx7, cx8⟩ := node_cells hk
  have hdd : ∀ k : Nat, (F.depth.isSome = true → 1 ≤ k) := fun k h => by rw [hF.depth] at h; cases h
  have HK := hid (fun (W2 : World) (h : Below n₀ W W2) => node_cells ((h.block bx hb).trans hk))
  have HL := hid hl
  have HR := hid hr
  have hf : F.fn 103 := hF.fn _
  have hmx : Try.prog.follows .mixedOrders = true := by kernel_rfl
  obtain ⟨fn, tmps, assign, body, hy, hR⟩ := hY (n - 1) pre ⟨a, tp.to, tp.cell⟩ W.drew hgc (hJd _ _ hJ) (by omega)
  simp only [Pc.val, Pc.vals] at hy
  clear hk hg ev hl hr hcut
  refine callsIn_of_wp Try.func103 rfl (hF.fn _) ?_ hro
  simp only [Try.ntmps103, List.size_toArray, List.length_cons, List.length_nil, Nat.reduceAdd, Nat.reduceSub, Array.replicate_succ, Array.replicate_zero, List.push_toArray, List.append_toArray, List.nil_append, List.cons_append]
  gi_wp2
  refine wpIn_region_still_tail hF 24 hmx (by kernel_rfl) ?_
  simp only [List.take_succ_cons, List.take_zero, List.drop_succ_cons, List.drop_zero]
  repeat still_step
  refine wpStill_nil ?_
  gi_wp2_with fail
  (try refine ⟨hdd _, ?_⟩)
  refine hR.mono ?_
  rintro e W2 (⟨rfl, hJ2, hb2⟩ | ⟨rfl, hx2⟩)
  · have hb2' : Below n₀ W W2 := undrew hb2
    obtain ⟨_, f0, f1, f2, f3, f4, f5, f6, f7, f8⟩ := HK.out W2 hb2'
    gi_wp2_with fail
    (try refine ⟨hdd _, ?_⟩)
    refine (ihr (n - 1) pr (pre ++ [⟨a, tp.to, tp.cell⟩]) W2 (HR.out.below hb2') hJ2 (by (try simp); omega)).mono ?_
    rintro e W3 (⟨rfl, hJ3, hb3⟩ | ⟨rfl, q3, hq3, hx3⟩)
    · gi_wp2
      go_ret
      exact .inl ⟨by first | rfl | (simp; done) | (simp; omega), by rw [EV.out]; simpa [List.append_assoc] using hJ3, hb2'.trans hb3⟩
    · gi_wp2
      go_ret
      exact .inr ⟨by first | rfl | (simp; done) | (simp; omega), [⟨a, tp.to, tp.cell⟩] ++ q3, by rw [EV.out]; obtain ⟨r3, hr3⟩ := hq3; exact ⟨r3, by simp [← hr3]⟩, by simpa [List.append_assoc] using hx3⟩
  · gi_wp2
    go_ret
    exact .inr ⟨by first | rfl | (simp; done) | (simp; omega), [⟨a, tp.to, tp.cell⟩], by rw [EV.out]; exact ⟨visL tr a b, by simp⟩, by simpa [List.append_assoc] using hx2⟩

set_option maxRecDepth 100000 in
set_option maxHeartbeats 8000000 in
theorem visit_b2 (F : Fence) (hF : Free F Try.prog) (hro : F.round = none) (l n₀ N : Nat) (J Jx : List Pc → World → Prop) (hY : YieldsPc F l n₀ N J Jx) (hJd : ∀ pre W, J pre W → J pre W.drew) (a b : Int)
    (tl tr : T) (tp : Pc) (th : Int) (hg : tp.Good) (hab : 1 ≤ a ∧ a ≤ b ∧ b ≤ 1000000) (h1 : tp.from_ ≤ a) (h2 : tp.to < a) (ihr : VisitOf F l n₀ N J Jx a b tr) : VisitOf F l n₀ N J Jx a b (T.node tl tr tp th) := by
  intro n p pre W ht hJ hN
  have hg2 : tp.from_ ≤ tp.to := hg.2.1
  have ev : visL (T.node tl tr tp th) a b = visL tr a b := by
    rw [visL, if_neg (by omega), if_neg (by omega), if_neg (by omega)]
    (try simp)
  have EV := hid ev
  rw [ev] at hN
  (try simp only [List.length_append, List.length_cons, List.length_nil] at hN)
  obtain ⟨bx, pl, pr, rfl, hb, hk, hl, hr⟩ := ht
  obtain ⟨ltx, cx0, cx1, cx2, cx3, cx4, cx5, cx6, cx7, cx8⟩ := node_cells hk
  have hdd : ∀ k : Nat, (F.depth.isSome = true → 1 ≤ k) := fun k h => by rw [hF.depth] at h; cases h
  have HK := hid (fun (W2 : World) (h : Below n₀ W W2) => node_cells ((h.block bx hb).trans hk))
  have HL := hid hl
  have HR := hid hr
  have hf : F.fn 103 := hF.fn _
  have hmx : Try.prog.follows .mixedOrders = true := by kernel_rfl
  clear hk hg ev hl hr
  refine callsIn_of_wp Try.func103 rfl (hF.fn _) ?_ hro
  simp only [Try.ntmps103, List.size_toArray, List.length_cons, List.length_nil, Nat.reduceAdd, Nat.reduceSub, Array.replicate_succ, Array.replicate_zero, List.push_toArray, List.append_toArray, List.nil_append, List.cons_append]
  gi_wp2_with fail
  (try refine ⟨hdd _, ?_⟩)
  refine (ihr (n - 1) pr pre W (HR.out.below (Below.refl _ _)) hJ (by (try simp); omega)).mono ?_
  rintro e W3 (⟨rfl, hJ3, hb3⟩ | ⟨rfl, q3, hq3, hx3⟩)
  · gi_wp2
    go_ret
    exact .inl ⟨by first | rfl | (simp; done) | (simp; omega), by rw [EV.out]; simpa [List.append_assoc] using hJ3, hb3⟩
  · gi_wp2
    go_ret
    exact .inr ⟨by first | rfl | (simp; done) | (simp; omega), q3, by rw [EV.out]; obtain ⟨r3, hr3⟩ := hq3; exact ⟨r3, by simp [← hr3]⟩, by simpa [List.append_assoc] using hx3⟩

set_option maxRecDepth 100000 in
set_option maxHeartbeats 1000000 in
theorem visit_nil (F : Fence) (hF : Free F Try.prog) (hro : F.round = none) (l n₀ N : Nat) (J Jx : List Pc → World → Prop) (a b : Int) : VisitOf F l n₀ N J Jx a b .nil := by
  intro n p pre W ht hJ hN
  obtain rfl : p = none := ht
  refine callsIn_of_wp Try.func103 rfl (hF.fn _) ?_ hro
  simp only [Try.ntmps103, List.size_toArray, List.length_cons, List.length_nil, Nat.reduceAdd, Nat.reduceSub, Array.replicate_succ, Array.replicate_zero, List.push_toArray, List.append_toArray, List.nil_append, List.cons_append]
  gi_wp2
  go_ret
  exact .inl ⟨rfl, by simpa [visL] using hJ, Below.refl _ _⟩

/-- **visit**. -/
theorem visit_in (F : Fence) (hF : Free F Try.prog) (hro : F.round = none) (l n₀ N : Nat) (J Jx : List Pc → World → Prop) (hY : YieldsPc F l n₀ N J Jx) (hJd : ∀ pre W, J pre W → J pre W.drew) (a b : Int)
    (hab : 1 ≤ a ∧ a ≤ b ∧ b ≤ 1000000) : ∀ t : T, t.Good → VisitOf F l n₀ N J Jx a b t
  | .nil, _ => visit_nil F hF hro l n₀ N J Jx a b
  | .node tl tr tp th, hg => by
    have ihl := visit_in F hF hro l n₀ N J Jx hY hJd a b hab tl hg.1
    have ihr := visit_in F hF hro l n₀ N J Jx hY hJd a b hab tr hg.2.1
    have hp := hg.2.2
    have hp2 := hp.2.1
    by_cases h1 : a < tp.from_
    · by_cases h2 : b < tp.from_
      · exact visit_a1 F hF hro l n₀ N J Jx hY hJd a b tl tr tp th hp hab h1 h2 ihl
      · by_cases h3 : b ≤ tp.to
        · exact visit_a2 F hF hro l n₀ N J Jx hY hJd a b tl tr tp th hp hab h1 (by omega) h3 ihl
        · exact visit_a3 F hF hro l n₀ N J Jx hY hJd a b tl tr tp th hp hab h1 (by omega) (by omega) ihl ihr
    · by_cases h2 : a ≤ tp.to
      · by_cases h3 : b ≤ tp.to
        · exact visit_b1a F hF hro l n₀ N J Jx hY hJd a b tl tr tp th hp hab (by omega) h2 h3
        · exact visit_b1b F hF hro l n₀ N J Jx hY hJd a b tl tr tp th hp hab (by omega) h2 (by omega) ihr
      · exact visit_b2 F hF hro l n₀ N J Jx hY hJd a b tl tr tp th hp hab (by omega) (by omega) ihr
end Go.Proofs.Ytnnbdjfeagcbdaa
namespace Go.Proofs.Ytnnbdjfeagcbdaa
set_option linter.unusedSimpArgs false
set_option linter.unusedVariables false
open Go.RowKit Go.Shelf
attribute [local go_sem] Oper.semAt_some

abbrev GP := { x : Pc // x.Good }
def vals (l : List GP) : List Pc := l.map (·.1)
theorem vals_append (l : List GP) (x : GP) : vals (l ++ [x]) = vals l ++ [x.1] := by simp [vals]
theorem vals_length (l : List GP) : (vals l).length = l.length := by simp [vals]

set_option maxRecDepth 100000 in
set_option maxHeartbeats 2000000 in
theorem within1_in (F : Fence) (hF : Free F Try.prog) (hro : F.round = none) (n l B0 B1 B2 n₀ : Nat) (p0 : Option Addr) (t : T) (hg : t.Good) (a b : Int) (hab : 1 ≤ a ∧ a ≤ b ∧ b ≤ 1000000) (J Jx : List Pc → World → Prop)
    (hY : YieldsPc F l n₀ (visL t a b).length J Jx) (hJd : ∀ pre W, J pre W → J pre W.drew)
    (W : World) (h0 : W.cell? ⟨B0, 0, none⟩ = some (.pointer p0)) (h1 : W.cell? ⟨B1, 0, none⟩ = some (.int .i64 a)) (h2 : W.cell? ⟨B2, 0, none⟩ = some (.int .i64 b)) (hT : Tn n₀ W p0 t) (hJ : J [] W) :
    CallsIn F n Try.prog 102 #[.func (.yield l) #[] #[], .pointer (some ⟨B0, 0, none⟩), .pointer (some ⟨B1, 0, none⟩), .pointer (some ⟨B2, 0, none⟩)] W fun e W' => (∃ v, e = .returned v) ∧
      ((∃ ys, ys = visL t a b ∧ J ys W') ∨ (∃ pre, pre <+: visL t a b ∧ Jx pre W')) := by
  have hdd : ∀ k : Nat, (F.depth.isSome = true → 1 ≤ k) := fun k h => by rw [hF.depth] at h; cases h
  have hp := visit_in F hF hro l n₀ _ J Jx hY hJd a b hab t hg (n - 1) p0 [] W hT hJ (by simp)
  have hf : F.fn 103 := hF.fn _
  have HP := hid hp
  clear hp hY hJd hT hJ
  refine callsIn_of_wp Try.func102 rfl (hF.fn _) ?_ hro
  simp only [Try.ntmps102, List.size_toArray, List.length_cons, List.length_nil, Nat.reduceAdd, Nat.reduceSub, Array.replicate_succ, Array.replicate_zero, List.push_toArray, List.append_toArray, List.nil_append, List.cons_append]
  gi_wp2_with fail
  (try refine ⟨hdd _, ?_⟩)
  refine HP.out.mono ?_
  rintro e W1 (⟨rfl, hJ1, _⟩ | ⟨rfl, q, hq, hx⟩)
  · gi_wp2
    go_end0
    exact ⟨⟨_, rfl⟩, .inl ⟨_, rfl, by simpa using hJ1⟩⟩
  · gi_wp2
    go_end0
    exact ⟨⟨_, rfl⟩, .inr ⟨q, hq, by simpa using hx⟩⟩

set_option maxHeartbeats 1000000 in
theorem within_calls (p0 : Option Addr) (a b : Int) (w : World) :
    Calls Try.prog 69 #[.pointer p0, .int .i64 a, .int .i64 b] w fun e w' =>
      e = .returned (.func (.func 102) #[] #[.pointer (some ⟨w.heap.size, 0, none⟩), .pointer (some ⟨w.heap.size + 1, 0, none⟩), .pointer (some ⟨w.heap.size + 1 + 1, 0, none⟩)]) ∧
      w' = ((w.alloc (.cells #[.pointer p0] 111)).alloc (.cells #[.int .i64 a] 3)).alloc (.cells #[.int .i64 b] 3) := by
  go_enter Try.func69, Try.ntmps69
  go_wp2
  go_ret
  exact ⟨rfl, rfl⟩

/-- **The iterator's contract**: all pieces of the span, in order; or a part of them. -/
theorem within_stops (F : Fence) (hF : Free F Try.prog) (hro : F.round = none) (n B0 B1 B2 n₀ : Nat) (p0 : Option Addr) (t : T) (hg : t.Good) (a b : Int) (hab : 1 ≤ a ∧ a ≤ b ∧ b ≤ 1000000) (w : World)
    (l0 : B0 < w.heap.size) (l1 : B1 < w.heap.size) (l2 : B2 < w.heap.size) (hn₀ : n₀ ≤ w.heap.size)
    (h0 : w.cell? ⟨B0, 0, none⟩ = some (.pointer p0)) (h1 : w.cell? ⟨B1, 0, none⟩ = some (.int .i64 a)) (h2 : w.cell? ⟨B2, 0, none⟩ = some (.int .i64 b)) (hT : Tn n₀ w p0 t) :
    SeqStopsK F n Try.prog 102 #[.pointer (some ⟨B0, 0, none⟩), .pointer (some ⟨B1, 0, none⟩), .pointer (some ⟨B2, 0, none⟩)] (fun x : GP => #[x.1.val]) (Below n₀)
      (fun ys => vals ys = visL t a b) (fun pre => vals pre <+: visL t a b) (visL t a b).length w := fun l J Jx W hW hJ hJx hY h0' => by
  refine (within1_in F hF hro n l B0 B1 B2 n₀ p0 t hg a b hab (fun pre W => ∃ ys, vals ys = pre ∧ J ys W) (fun pre W => ∃ ys, vals ys = pre ∧ Jx ys W) ?_ ?_ W
    ((hW.cell (p := ⟨B0, 0, none⟩) l0).trans h0) ((hW.cell (p := ⟨B1, 0, none⟩) l1).trans h1) ((hW.cell (p := ⟨B2, 0, none⟩) l2).trans h2) (hT.below (hW.mono hn₀)) ⟨[], rfl, h0'⟩).mono ?_
  · rintro m pre x W1 hx ⟨ys, rfl, hj⟩ hl
    refine (yieldAt_anyDepth hF.depth m (hY ys ⟨x, hx⟩ W1 hj (by rw [vals_length] at hl; exact hl))).mono ?_
    rintro e W' (⟨he, hj', hk⟩ | ⟨he, hj'⟩)
    · exact .inl ⟨he, ⟨_, vals_append _ _, hj'⟩, hk⟩
    · exact .inr ⟨he, ⟨_, vals_append _ _, hj'⟩⟩
  · rintro pre W1 ⟨ys, hv, hj⟩
    exact ⟨ys, hv, hJ ys W1 W1.drew none hj ⟨rfl, rfl, rfl, Nat.le_refl _, fun _ _ _ => rfl⟩ (fun r h => by cases h)⟩
  · rintro e W' ⟨hv, ⟨_, rfl, ys, h, hj⟩ | ⟨_, hp, ys, rfl, hj⟩⟩
    · exact ⟨hv, .inl ⟨ys, h, hj⟩⟩
    · exact ⟨hv, .inr ⟨ys, hp, hj⟩⟩
end Go.Proofs.Ytnnbdjfeagcbdaa
namespace Go.Proofs.Ytnnbdjfeagcbdaa
set_option linter.unusedSimpArgs false
set_option linter.unusedVariables false
open Go.RowKit Go.Shelf

/-- The register at block sB: its last version is the tree t. -/
def NowAt (w : World) (sB : Nat) (t : T) : Prop :=
  ∃ (vB k cap : Nat) (p : Option Addr), Cells w sB #[.slice (some ⟨vB, 0, none⟩) (k + 1) cap] 121 ∧ k ≤ 1000000 ∧ w.cell? ⟨vB, k, none⟩ = some (.pointer p) ∧ TreeAt w p t
theorem NowAt.below {w w' : World} {sB : Nat} {t : T} (h : NowAt w sB t) (hb : Below w.heap.size w w') : NowAt w' sB t := by
  obtain ⟨vB, k, cap, p, hc, hk, hv, ht⟩ := h
  exact ⟨vB, k, cap, p, hc.below hb hc.lt, hk, (hb.cell (p := ⟨vB, k, none⟩) (World.block_lt_of_cell? _ _ hv)).trans hv, ht.below hb⟩

set_option maxRecDepth 100000 in
set_option maxHeartbeats 2000000 in
theorem now_calls (w : World) (sB : Nat) (t : T) (h : NowAt w sB t) :
    Calls Try.prog 85 #[.pointer (some ⟨sB, 0, none⟩)] w fun e w' => ∃ p, e = .returned (.pointer p) ∧ TreeAt w' p t ∧ Below w.heap.size w w' := by
  obtain ⟨vB, k, cap, p, hc, hk, hv, ht⟩ := h
  have h0 : w.cell? ⟨sB, 0, none⟩ = some (.slice (some ⟨vB, 0, none⟩) (k + 1) cap) := by simp [hc.cell]
  have hw1 : IntKind.i64.wrap ((k : Int) + 1 - 1) = (k : Int) := by rw [IntWalk.i64_in _ (by omega)]; omega
  have HT := hid ht
  clear hc ht
  have i1 : (0 : Int) ≤ (k : Int) := by omega
  have i2 : (k : Int) < (k : Int) + 1 := by omega
  go_enter Try.func85, Try.ntmps85
  go_wp2
  go_quiet (fail)
  go_wp2
  go_ret
  exact ⟨p, rfl, HT.out.below (below_drewN (Below.refl _ _) _), below_drewN (Below.refl _ _) _⟩
/-- The iterator value that within makes. -/
def IterAt (w : World) (p : Option Addr) (a b : Int) (v : Value) : Prop :=
  ∃ B0 B1 B2, v = .func (.func 102) #[] #[.pointer (some ⟨B0, 0, none⟩), .pointer (some ⟨B1, 0, none⟩), .pointer (some ⟨B2, 0, none⟩)] ∧
    Cells w B0 #[.pointer p] 111 ∧ Cells w B1 #[.int .i64 a] 3 ∧ Cells w B2 #[.int .i64 b] 3
theorem within_made (p : Option Addr) (a b : Int) (w : World) :
    Calls Try.prog 69 #[.pointer p, .int .i64 a, .int .i64 b] w fun e w' => ∃ v, e = .returned v ∧ IterAt w' p a b v ∧ Below w.heap.size w w' := by
  refine (within_calls p a b w).mono ?_
  rintro e w' ⟨rfl, rfl⟩
  refine ⟨_, rfl, ⟨_, _, _, rfl, ((Cells.new _ _ _).alloc _).alloc _, ?_, ?_⟩, ((((Below.refl _ _).alloc (Nat.le_refl _) _).alloc (by simp) _).alloc (by simp; omega) _)⟩
  · have := (Cells.new (w.alloc (.cells #[.pointer p] 111)) #[.int .i64 a] 3).alloc (.cells #[.int .i64 b] 3)
    rw [World.size_alloc] at this
    exact this
  · have := Cells.new ((w.alloc (.cells #[.pointer p] 111)).alloc (.cells #[.int .i64 a] 3)) #[.int .i64 b] 3
    rw [World.size_alloc, World.size_alloc] at this
    exact this
/-- Cells abide the turn of a block that is no cells. -/
theorem Cells.kept {W W' : World} {B : Nat} {cs : Array Value} {t : TypeId} {row : Option Nat} (h : Cells W B cs t) (hg : W.grownBy W' row) (hr : ∀ r, row = some r → ∃ o : Obj, W.heap[r]? = some o ∧ o.isCells = false) : Cells W' B cs t :=
  (hg.block B h.lt (fun e => by obtain ⟨o, ho, hc⟩ := hr B e.symm; rw [show W.heap[B]? = _ from h] at ho; cases ho; cases hc)).trans h
theorem keepsFrom_below {B : Nat} {W W' : World} (h : Below W.heap.size W W') : KeepsFrom B W W' :=
  ⟨h.size, fun k o _ hk _ => (h.block k (Array.getElem?_eq_some_iff.1 hk).1).trans hk⟩
theorem keepsFrom_set {B C j : Nat} {W : World} {v : Value} : KeepsFrom B W (W.setCell ⟨C, j, none⟩ v) := (KeepsOthers.setCell W _ v).from B
theorem Cells.put {W : World} {B l : Nat} {cs : Array Value} {t : TypeId} (h : Cells W B cs t) {o : Obj} (hl : W.heap[l]? = some o) (ho : o.isCells = false) (o' : Obj) : Cells (W.putObj l o') B cs t :=
  h.kept (grownBy_putObj' W l o') (fun r e => by cases e; exact ⟨o, hl, ho⟩)
end Go.Proofs.Ytnnbdjfeagcbdaa
namespace Go.Proofs.Ytnnbdjfeagcbdaa
set_option linter.unusedSimpArgs false
set_option linter.unusedVariables false
open Go.RowKit Go.Shelf
attribute [local go_sem] Oper.semAt_some
attribute [local go_sem ↓] Go.wp_at_zero Go.wp_at_succ

def firstE (wr : Cl → Int) : List Pc → Int
  | [] => 0
  | p :: ps => if wr p.cell ≠ 0 then wr p.cell else firstE wr ps
theorem firstE_snoc (wr : Cl → Int) (l : List Pc) (p : Pc) (h : firstE wr l = 0) : firstE wr (l ++ [p]) = wr p.cell := by
  induction l with
  | nil => simp only [List.nil_append, firstE]; split <;> simp_all
  | cons a l ih =>
    simp only [firstE] at h
    split at h
    · rename_i hz; exact absurd h hz
    · rename_i hz; simp only [List.cons_append, firstE, hz, if_false]; exact ih h
theorem firstE_prefix (wr : Cl → Int) (l m : List Pc) (h : l <+: m) (hn : firstE wr l ≠ 0) : firstE wr m = firstE wr l := by
  obtain ⟨r, rfl⟩ := h
  induction l with
  | nil => exact absurd rfl hn
  | cons a l ih =>
    simp only [List.cons_append, firstE] at hn ⊢
    split
    · rfl
    · rename_i hz; rw [if_neg hz] at hn; exact ih hn
/-- A closure that reads a cell and returns a number. -/
def TellsOf (wf : FuncId) (caps : Array Value) (wr : Cl → Int) (w : World) : Prop :=
  ∀ (c : Cl) (W : World), Below w.heap.size w W → Calls Try.prog wf (#[c.val] ++ caps) W fun e W' => e = .returned (.int .i64 (wr c)) ∧ Below W.heap.size W W'

set_option maxRecDepth 100000 in
set_option maxHeartbeats 4000000 in
theorem each_calls (w : World) (sB : Nat) (t : T) (hs : NowAt w sB t) (hg : t.Good) (a c : Int) (hac : 1 ≤ a ∧ 1 ≤ c ∧ a + c - 1 ≤ 1000000) (wf : FuncId) (caps : Array Value) (wr : Cl → Int)
    (hwf : TellsOf wf caps wr w) (eg : ∀ args w, (callFunc wf args).run Try.prog w = .ok (.enter wf args) w) :
    Calls Try.prog 54 #[.pointer (some ⟨sB, 0, none⟩), .agg #[.int .i64 a, .int .i64 c], .func (.func wf) #[] caps] w fun e w' =>
      e = .returned (.int .i64 (firstE wr (visL t a (a + c - 1)))) ∧ Below w.heap.size w w' := by
  have HW := hid hwf
  have HS := hid hs
  have hw1 : IntKind.i64.wrap (a + c) = a + c := IntWalk.i64_in _ (by omega)
  have hw2 : IntKind.i64.wrap (a + c - 1) = a + c - 1 := IntWalk.i64_in _ (by omega)
  have l3 : w.heap.size < w.heap.size + 1 + 1 + 1 := by omega
  clear hwf hs
  have cA : Cells (((w.alloc (.cells #[.int .i64 a, .int .i64 c] 37)).alloc (.cells #[.func (.func wf) #[] caps] 126)).alloc (.cells #[.int .i64 0] 24)) (w.heap.size + 1) #[.func (.func wf) #[] caps] 126 := by
    have := (Cells.new (w.alloc (.cells #[.int .i64 a, .int .i64 c] 37)) #[.func (.func wf) #[] caps] 126).alloc (.cells #[.int .i64 0] 24)
    rw [World.size_alloc] at this
    exact this
  have cE : Cells (((w.alloc (.cells #[.int .i64 a, .int .i64 c] 37)).alloc (.cells #[.func (.func wf) #[] caps] 126)).alloc (.cells #[.int .i64 0] 24)) (w.heap.size + 1 + 1) #[.int .i64 0] 24 := by
    have := Cells.new ((w.alloc (.cells #[.int .i64 a, .int .i64 c] 37)).alloc (.cells #[.func (.func wf) #[] caps] 126)) #[.int .i64 0] 24
    rw [World.size_alloc, World.size_alloc] at this
    exact this
  have CA := hid cA
  have CE := hid cE
  have EG := hid eg
  clear cA cE eg
  obtain ⟨F, hFe⟩ : ∃ F, F = Fence.wide := ⟨_, rfl⟩
  have hF : Free F Try.prog := hFe ▸ free_wide _
  have hro : F.round = none := by rw [hFe]; rfl
  have FE := hid hFe
  clear hFe
  refine (callsIn_wide (n := 6)).1 ?_
  rw [← FE.out]
  refine callsIn_of_wp_marks Try.func54 rfl (hF.fn _) ?_ hro
  rw [FE.out]
  refine wpIn_wide.2 ?_
  simp only [Try.ntmps54, List.size_toArray, List.length_cons, List.length_nil, Nat.reduceAdd, Nat.reduceSub, Array.replicate_succ, Array.replicate_zero, List.push_toArray, List.append_toArray, List.nil_append, List.cons_append]
  go_wp2
  go_region_held3 (fun w' => w'.cell? ⟨w.heap.size, 0, none⟩ = some (.int .i64 a) ∧ w'.cell? ⟨w.heap.size, 1, none⟩ = some (.int .i64 c)) (go_keep)
    (first | ((with_reducible refine (now_calls _ sB t (HS.out.below (by repeat (first | exact Below.refl _ _ | refine Below.drew ?_ | refine Below.alloc ?_ (by simp; try omega) _)))).mono ?_); rintro e w1 ⟨p, rfl, ht1, hb1⟩; obtain ⟨hc1, hf1⟩ := bcell hb1; have lo1 : w.heap.size < w1.heap.size := (by have := hb1.size; (try simp at this); omega)) | ((with_reducible refine (within_made p a (a + c - 1) _).mono ?_); rintro e w2 ⟨v, rfl, hi2, hb2⟩; obtain ⟨hc2, hf2⟩ := bcell hb2))
  obtain ⟨B0, B1, B2, rfl, hB0, hB1, hB2⟩ := hi2
  have up1 : Below w.heap.size w w1 := Below.trans (by repeat (first | exact Below.refl _ _ | refine Below.drew ?_ | refine Below.alloc ?_ (by simp; try omega) _)) (hb1.mono (by simp; omega))
  have up2 : Below w.heap.size w w2 := up1.trans (hb2.mono up1.size)
  have kA : Cells w2 (w.heap.size + 1) #[.func (.func wf) #[] caps] 126 := (CA.out.drew.below hb1 (by simp)).below hb2 (by have := hb1.size; simp at this; omega)
  have kE : Cells w2 (w.heap.size + 1 + 1) #[.int .i64 0] 24 := (CE.out.drew.below hb1 (by simp)).below hb2 (by have := hb1.size; simp at this; omega)
  have ls2 : w.heap.size + 1 + 1 < w2.heap.size := kE.lt
  have KA := hid kA
  have KE := hid kE
  have UP := hid up2
  have T2 := hid (ht1.below hb2)
  clear kA kE up1 up2 hc1 hf1 hc2 hf2 hb1 hb2 ht1 lo1
  go_wp2
  refine (wpIn_wide (n := 6)).1 ?_
  rw [← FE.out]
  refine wpIn_rangeFunc_ownH hro (by omega) (gf := 102) (lb := #[.pointer (some ⟨B0, 0, none⟩), .pointer (some ⟨B1, 0, none⟩), .pointer (some ⟨B2, 0, none⟩)]) rfl (hF.fn _) (enters_of Try.func102 (by kernel_rfl) rfl)
    (within_stops F hF hro _ B0 B1 B2 w2.heap.size p t hg a (a + c - 1) ⟨hac.1, by omega, hac.2.2⟩ w2 hB0.lt hB1.lt hB2.lt (Nat.le_refl _) (by simp [hB0.cell]) (by simp [hB1.cell]) (by simp [hB2.cell]) (Tn.of_tree (Nat.le_refl _) (Below.refl _ _) T2.out))
    belowK_t (belowK_b (Nat.le_refl _)) (Below.refl _ _) (fun _ => rfl)
    (fun pre W => firstE wr (vals pre) = 0 ∧ Below w2.heap.size w2 W)
    (fun k pre W => k = Code.ret ∧ firstE wr (vals pre) ≠ 0 ∧ Cells W (w.heap.size + 1 + 1) #[.int .i64 (firstE wr (vals pre))] 24 ∧ Below w.heap.size w W)
    (OwnFrom.and (ownFrom_pure _ _) (ownFrom_below (Nat.le_refl _) (Nat.le_refl _)))
    (fun k => OwnFrom.and (ownFrom_pure _ _) (OwnFrom.and (ownFrom_pure _ _) (OwnFrom.and (fun s X Y row h hg hr => h.kept hg (fun r e => (hr r e).2)) (ownFrom_below (by omega) (by omega)))))
    ⟨rfl, Below.refl _ _⟩
    (fun x a' W => ∃ Bx, w2.heap.size ≤ Bx ∧ Cells W Bx x.1.vals 118 ∧ a' = { tmps := #[.pointer (some ⟨sB, 0, none⟩), .agg #[.int .i64 a, .int .i64 c], .func (.func wf) #[] caps, undef, .pointer (some ⟨w.heap.size, 0, none⟩), .pointer (some ⟨w.heap.size + 1, 0, none⟩), .pointer (some ⟨w.heap.size + 1 + 1, 0, none⟩), .pointer (some ⟨Bx, 0, none⟩), undef,
      .pointer (some ⟨sB, 0, none⟩), .pointer p, .pointer (some ⟨w.heap.size, 0, none⟩), .int .i64 a, .pointer (some ⟨w.heap.size, 0, none⟩), .int .i64 a, .pointer (some ⟨w.heap.size, 1, none⟩), .int .i64 c, .int .i64 (a + c), .int .i64 (a + c - 1),
      .func (.func 102) #[] #[.pointer (some ⟨B0, 0, none⟩), .pointer (some ⟨B1, 0, none⟩), .pointer (some ⟨B2, 0, none⟩)], x.1.val, undef, undef, undef, undef, undef, undef, undef], defers := [] })
    (fun x a' s X Y row h hg hr => by obtain ⟨Bx, h1, h2, h3⟩ := h; exact ⟨Bx, h1, h2.kept hg (fun r e => (hr r e).2), h3⟩) ?assign ?body ?done ?stop
  case assign =>
    rintro l pre x W K ⟨hi1, hi2⟩ hK
    gi_wp2
    exact hK _ _ ((KeepsOthers.alloc _ _).from _) ((Below.refl _ W).alloc hi2.size _) ⟨hi1, hi2.alloc hi2.size _⟩ ⟨W.heap.size, hi2.size, Cells.new _ _ _, rfl⟩
  case body =>
    rintro l pre x a' W hl _ ⟨hi1, hi2⟩ ⟨Bx, hBx, hcx, rfl⟩ hlt
    have k1 : W.cell? ⟨w.heap.size + 1, 0, none⟩ = some (.func (.func wf) #[] caps) := by
      have := (KA.out.below hi2 KA.out.lt).cell 0
      simpa using this
    obtain ⟨e0, e1, e2, e3, e4, e5⟩ := pc_facts hcx
    have hcE : Cells W (w.heap.size + 1 + 1) #[.int .i64 0] 24 := KE.out.below hi2 KE.out.lt
    have CEW := hid hcE
    have X2 := hid hcx
    have HI := hid (And.intro hi1 hi2)
    have hfw : (F.inRound l).fn wf := hF.fn _
    have hfw' : F.fn wf := hF.fn _
    have hdd : ∀ k : Nat, (F.depth.isSome = true → 1 ≤ k) := fun k h => by rw [hF.depth] at h; cases h
    have eg' := EG.out
    clear hi1 hi2 hcx hcE
    gi_wp2_with fail
    (try refine ⟨hdd _, ?_⟩)
    refine (CallsIn.inRound l (hF.calls _ _ _ _ _ (HW.out x.1.cell W ((UP.out.trans (HI.out.2.mono UP.out.size)))))).mono ?_
    rintro e W1 ⟨rfl, hb3⟩
    have hB3 := hid hb3
    have k6 : W1.cell? ⟨w.heap.size + 1 + 1, 0, none⟩ = some (.int .i64 0) := by
      have := (CEW.out.below hb3 CEW.out.lt).cell 0
      simpa using this
    have f6 : W1.frozen? ⟨w.heap.size + 1 + 1, 0, none⟩ = false := (CEW.out.below hb3 CEW.out.lt).frozen 0
    clear hb3 eg'
    by_cases hz : wr x.1.cell = 0
    · have hz' : (wr x.1.cell != 0) = false := by simp [hz]
      have HZ := hid hz
      clear hz
      gi_wp2
      exact ⟨keepsFrom_below hB3.out, hB3.out.mono HI.out.2.size, by rw [vals_append, firstE_snoc _ _ _ HI.out.1]; exact HZ.out, HI.out.2.trans (hB3.out.mono HI.out.2.size)⟩
    · have hz' : (wr x.1.cell != 0) = true := by simp [hz]
      have HZ := hid hz
      clear hz
      gi_wp2
      have ef : firstE wr (vals (pre ++ [x])) = wr x.1.cell := by rw [vals_append, firstE_snoc _ _ _ HI.out.1]
      have hUP := UP.out
      have hIB := HI.out.2
      refine ⟨(keepsFrom_below hB3.out).trans keepsFrom_set, rfl, by rw [ef]; exact HZ.out, ?_, ?_⟩
      · rw [ef]
        exact (CEW.out.below hB3.out CEW.out.lt).set 0 _
      · exact ((hUP.trans (hIB.mono hUP.size)).trans (hB3.out.mono (Nat.le_trans hUP.size hIB.size))).setCell (p := ⟨w.heap.size + 1 + 1, 0, none⟩) (by simp; omega) _
  case done =>
    rintro D ys W hD hS ⟨hi1, hi2⟩ hK
    have k6 : W.cell? ⟨w.heap.size + 1 + 1, 0, none⟩ = some (.int .i64 0) := by
      have := (KE.out.below hi2 KE.out.lt).cell 0
      simpa using this
    have f6 : W.frozen? ⟨w.heap.size + 1 + 1, 0, none⟩ = false := (KE.out.below hi2 KE.out.lt).frozen 0
    have HI := hid (And.intro hi1 hi2)
    have HD := hid hK
    clear hi1 hi2 hK
    go_wp2
    have hUP := UP.out
    have hIB := HI.out.2
    refine ⟨by simp, .inl ⟨_, _, rfl, run_takeDeferred (b := D) (ds := []) ?_, ?_⟩⟩
    · exact (KeepsOthers.setCell _ _ _).same D _ HD.out rfl
    · have hc := ((KE.out.below hIB KE.out.lt).set 0 (.int .i64 0)).put (l := D) (o := .deferred (some [])) ((KeepsOthers.setCell _ _ _).same D _ HD.out rfl) rfl (.deferred none)
      have hc0 := hc.cell 0
      simp at hc0
      refine ⟨.int .i64 0, by simp [results, Try.results54, go_sem, hc0], ?_, ?_⟩
      · rw [← hS, HI.out.1]
      · have b1 : Below w.heap.size w (W.setCell ⟨w.heap.size + 1 + 1, 0, none⟩ (.int .i64 0)) := (hUP.trans (hIB.mono hUP.size)).setCell (p := ⟨w.heap.size + 1 + 1, 0, none⟩) (by simp; omega) _
        exact b1.trans (belowK_b (w := w) (Nat.le_refl _) _ D _ _ (by have := hUP.size; omega) ((KeepsOthers.setCell _ _ _).same D _ HD.out rfl) rfl rfl)
  case stop =>
    rintro D k pre W hD hp ⟨rfl, hx, hcr, hbw⟩ hK
    have HI := hid (And.intro hx hcr)
    have HD := hid hK
    have HP := hid hp
    clear hx hcr hK hp
    gi_wp2
    have hUP := UP.out
    refine ⟨by simp, .inl ⟨_, _, rfl, run_takeDeferred (b := D) (ds := []) HD.out, ?_⟩⟩
    have hc := HI.out.2.put (l := D) (o := .deferred (some [])) HD.out rfl (.deferred none)
    have hc0 := hc.cell 0
    simp at hc0
    refine ⟨.int .i64 (firstE wr (vals pre)), by simp [results, Try.results54, go_sem, hc0], ?_, ?_⟩
    · rw [firstE_prefix wr _ _ HP.out HI.out.1]
    · exact hbw.trans (belowK_b (w := w) (Nat.le_refl _) _ D _ _ (by have := hUP.size; omega) HD.out rfl rfl)
end Go.Proofs.Ytnnbdjfeagcbdaa
namespace Go.Proofs.Ytnnbdjfeagcbdaa
set_option linter.unusedSimpArgs false
set_option linter.unusedVariables false
open Go.RowKit Go.Shelf
section
variable {P : Program} {ops : Array Oper} {F : Fence} {n : Nat} {md : Region.Mode} {Q : Exit → Act → World → Prop} {S : World → Prop}

theorem nodefer_of_value {o : Oper} {ρ : Operand → Value} {w w' : World} {v : Value} (h : (execOp ρ o).run P w = .ok (.value v) w') : ∀ c, o.op ≠ .defer c := by
  intro c hc
  unfold execOp at h
  rw [hc] at h
  simp only [Sem.run_bind] at h
  cases hr : (resolve ρ c o.type).run P w with
  | ok d w' => rw [hr] at h; simp [Result.andThen, Sem.run] at h
  | halt x w' => rw [hr] at h; simp [Result.andThen] at h

theorem yieldsIf_wpOpIn (hF : Free F P) {i : Nat} {o : Oper} {v : Value} {a : Act} (hi : ops[i]? = some o) (hy : YieldsIf P ops S o v a)
    {K : Act → World → Prop} {w : World} (hS : S w) (h : K (a.put o.dst v) w) : wpOpIn F n P ops Q i K a w := by
  unfold wpOpIn
  simp only [hi]
  rcases hy with ⟨hw, hv⟩ | ⟨hw, rfl⟩
  · simp only [hw, if_true]
    refine ⟨fun f _ => hF.fn f, ?_⟩
    rw [semAt_of (nodefer_of_value (hv w hS)), hv w hS]
    exact h
  · simp only [hw, Bool.false_eq_true, if_false]; exact ⟨fun f _ => hF.fn f, h⟩

/-- No operation of the region is a defer statement, or a select. -/
def plainOps (ops : Array Oper) : Bool := ops.all fun o => match o.op with | .defer _ => false | .select .. => false | _ => true
theorem plainOps_spec (h : plainOps ops = true) {j : Nat} {o : Oper} (hj : ops[j]? = some o) : (∀ c, o.op ≠ .defer c) ∧ (∀ cs b, o.op ≠ .select cs b) := by
  obtain ⟨hlt, rfl⟩ := Array.getElem?_eq_some_iff.1 hj
  have := (Array.all_eq_true.1 h) j hlt
  constructor
  · intro c hc; rw [hc] at this; simp at this
  · intro cs b hc; rw [hc] at this; simp at this

theorem wpOpIn_putIf (hF : Free F P) (hpl : plainOps ops = true) {i j : Nat} {oi oj : Oper} {v : Value} (hi : ops[i]? = some oi) (hj : ops[j]? = some oj) (hap : oi.apart ops oj = true)
    (hQ : ∀ c a w, Q (.panic c) (a.put oi.dst v) w → Q (.panic c) a w) {K : Act → World → Prop} {a : Act} {w : World}
    (hy : YieldsIf P ops S oi v a) (h : wpOpIn F n P ops Q j K (a.put oi.dst v) w) :
    wpOpIn F n P ops Q j (fun a' w' => YieldsIf P ops S oi v a' ∧ K (a'.put oi.dst v) w') a w := by
  obtain ⟨h1, h2, h3⟩ := Oper.apart_spec hap
  have hsi := (plainOps_spec hpl hi).2
  have hsj := (plainOps_spec hpl hj).2
  have hdj := (plainOps_spec hpl hj).1
  have keep : ∀ (a : Act), YieldsIf P ops S oi v a → ∀ u, YieldsIf P ops S oi v (a.put oj.dst u) := fun a hy u =>
    hy.of_same (execOp_put oi hsi a oj.dst u h3) (wanted_put oi a oj.dst u h3)
  unfold wpOpIn at *
  simp only [hj] at *
  rw [wanted_put oj a oi.dst v h1] at h
  split
  · rename_i hw
    simp only [hw, if_true] at h
    refine ⟨fun f _ => hF.fn f, ?_⟩
    have h' := h.2
    rw [semAt_of hdj, execOp_put oj hsj a oi.dst v h1] at h'
    rw [semAt_of hdj]
    generalize (execOp a.eval oj).run P w = r at *
    cases r with
    | ok nx w' =>
      cases nx <;> simp only [Oper.uponIn] at h' ⊢
      case value u => exact ⟨keep a hy u, by rw [← Act.put_comm a v u h2]; exact h'⟩
      case skip => exact ⟨keep a hy _, by rw [← Act.put_comm a v undef h2]; exact h'⟩
      case defer d =>
        refine ⟨keep { a with defers := d :: a.defers } (hy.of_same rfl rfl) undef, ?_⟩
        rw [← Act.put_comm _ v undef h2, ← Act.put_defers]
        exact h'
      case enter f args =>
        refine ⟨h'.1, h'.2.mono fun e w'' he => ?_⟩
        cases e with
        | returned u => exact ⟨keep a hy u, by rw [← Act.put_comm a v u h2]; exact he⟩
        | panicked c => exact hQ _ _ _ he
        | outgrown => exact he
      case row row args => exact ⟨h'.1, h'.2.mono fun u w'' he => ⟨keep a hy u, by rw [← Act.put_comm a v u h2]; exact he⟩⟩
      case round l f tmps assign body =>
        refine ⟨h'.1, h'.2.mono fun e w'' he => ?_⟩
        cases e with
        | returned u => exact ⟨keep a hy u, by rw [← Act.put_comm a v u h2]; exact he⟩
        | panicked c => exact hQ _ _ _ he
        | outgrown => exact he
    | halt x w' =>
      cases x <;> simp only [Oper.uponIn] at h' ⊢
      case panic u => exact hQ _ _ _ h'
  · rename_i hw
    simp only [hw] at h
    exact ⟨fun f _ => hF.fn f, keep a hy _, by rw [← Act.put_comm a v undef h2]; exact h.2⟩

def wpAnyHIn (F : Fence) (n : Nat) (P : Program) (md : Region.Mode) (ops : Array Oper) (Q : Exit → Act → World → Prop) (S : World → Prop) (f : Nat) : Nat → Array Bool → Act → World → Prop
  | 0, listed, a, w => Region.ready md ops listed = [] ∧ Q .normal a w
  | fuel + 1, listed, a, w =>
    (Region.ready md ops listed = [] → Q .normal a w) ∧
    ∀ i ∈ Region.ready md ops listed, wpOpIn F n P ops Q i (fun a' w' => (i = f ∨ S w') ∧ wpAnyHIn F n P md ops Q S f fuel (listed.setIfInBounds i true) a' w') a w

theorem wpAnyIn_of_heldIn {f : Nat} : ∀ (fuel : Nat) (listed : Array Bool) (a : Act) (w : World), wpAnyHIn F n P md ops Q S f fuel listed a w → wpAnyIn F n P md ops Q fuel listed a w
  | 0, _, _, _, h => h
  | fuel + 1, _, _, _, h => ⟨h.1, fun i hi => wpOpIn_mono (fun a' w' h' => wpAnyIn_of_heldIn fuel _ a' w' h'.2) (h.2 i hi)⟩

theorem wpAnyHIn_first (hF : Free F P) (hpl : plainOps ops = true) {i f : Nat} {oi : Oper} {v : Value} (hi : ops[i]? = some oi) (hfw : Region.waitsFor md ops f i = true)
    (hQ : ∀ c a w, Q (.panic c) (a.put oi.dst v) w → Q (.panic c) a w) :
    ∀ (fuel : Nat) (listed : Array Bool) (a : Act) (w : World),
      (∀ j oj, ops[j]? = some oj → j ≠ i → listed.getD j true = false → (∀ e ∈ oj.after, Region.binds md e = true → e.on ≠ i) → oi.apart ops oj = true) →
      i ∈ Region.ready md ops listed → YieldsIf P ops S oi v a → S w →
      wpAnyHIn F n P md ops Q S f fuel (listed.setIfInBounds i true) (a.put oi.dst v) w → wpAnyHIn F n P md ops Q S f (fuel + 1) listed a w := by
  intro fuel
  induction fuel with
  | zero =>
    intro listed a w _ hr hy hS H
    refine ⟨fun h => (by rw [h] at hr; cases hr), fun j hj => ?_⟩
    by_cases hji : j = i
    · subst hji; exact yieldsIf_wpOpIn hF hi hy hS ⟨.inr hS, H⟩
    · have := ready_mono hj hji
      rw [H.1] at this
      cases this
  | succ fuel ih =>
    intro listed a w hfree hr hy hS H
    refine ⟨fun h => (by rw [h] at hr; cases hr), fun j hj => ?_⟩
    by_cases hji : j = i
    · subst hji; exact yieldsIf_wpOpIn hF hi hy hS ⟨.inr hS, H⟩
    · have h1 := H.2 j (ready_mono hj hji)
      obtain ⟨hjun, oj, hoj, hall⟩ := mem_ready.1 hj
      have hnot : ∀ e ∈ oj.after, Region.binds md e = true → e.on ≠ i := fun e he hb heq => by
        have h1 := hall e he hb
        have h0 := (mem_ready.1 hr).1
        rw [heq] at h1
        rcases Nat.lt_or_ge i listed.size with h' | h'
        · simp [h'] at h0 h1; rw [h0] at h1; cases h1
        · simp [Array.getElem?_eq_none h'] at h1
      have hjf : j ≠ f := fun e => by
        obtain ⟨of, hof, e0, he0, hb0, hon⟩ := Region.waitsFor_spec hfw
        rw [← e, hoj] at hof
        cases hof
        exact hnot e0 he0 hb0 hon
      have h2 := wpOpIn_putIf hF hpl hi hoj (hfree j oj hoj hji hjun hnot) hQ hy h1
      have hfree' : ∀ k ok, ops[k]? = some ok → k ≠ i → (listed.setIfInBounds j true).getD k true = false →
          (∀ e ∈ ok.after, Region.binds md e = true → e.on ≠ i) → oi.apart ops ok = true := fun k ok hk hki hun hno => by
        refine hfree k ok hk hki ?_ hno
        by_cases hjk : j = k
        · subst hjk; exact hjun
        · rw [getD_set_ne true hjk] at hun; exact hun
      refine wpOpIn_mono (fun a' w' h3 => ⟨h3.2.1, ih (listed.setIfInBounds j true) a' w' hfree' (ready_mono hr (Ne.symm hji)) h3.1 (h3.2.1.resolve_left hjf) ?_⟩) h2
      rw [Array.setIfInBounds_comm _ _ hji]
      exact h3.2.2

theorem wpAnyHIn_take (hF : Free F P) (hpl : plainOps ops = true) {i f : Nat} {oi : Oper} {v : Value} {fuel : Nat} {listed : Array Bool} {a : Act} {w : World} (hi : ops[i]? = some oi) (hfw : Region.waitsFor md ops f i = true)
    (hf : Region.free md ops listed i = true) (hr : (Region.ready md ops listed).contains i = true)
    (hQ : ∀ c a w, Q (.panic c) (a.put oi.dst v) w → Q (.panic c) a w) (hy : YieldsIf P ops S oi v a) (hS : S w)
    (h : wpAnyHIn F n P md ops Q S f fuel (listed.setIfInBounds i true) (a.put oi.dst v) w) : wpAnyHIn F n P md ops Q S f (fuel + 1) listed a w :=
  wpAnyHIn_first hF hpl hi hfw hQ fuel listed a w (Region.free_spec hi hf) (by simpa using hr) hy hS h

/-- One operation alone may come up. -/
theorem wpAnyHIn_one {i f : Nat} {oi : Oper} {fuel : Nat} {listed : Array Bool} {a : Act} {w : World} (hi : ops[i]? = some oi) (hr : Region.ready md ops listed = [i]) (hg : oi.guard = none)
    (h : oi.wpIn F n P a w (fun a' w' => (i = f ∨ S w') ∧ wpAnyHIn F n P md ops Q S f fuel (listed.setIfInBounds i true) a' w') Q) : wpAnyHIn F n P md ops Q S f (fuel + 1) listed a w := by
  refine ⟨fun h0 => (by rw [h0] at hr; cases hr), fun j hj => ?_⟩
  rw [hr] at hj
  have hij : j = i := by simpa using hj
  subst hij
  unfold wpOpIn
  simp only [hi, Region.wanted, hg, if_true]
  exact h
theorem wpAnyHIn_done {f : Nat} {listed : Array Bool} {a : Act} {w : World} (hr : Region.ready md ops listed = []) (h : Q .normal a w) :
    ∀ fuel, wpAnyHIn F n P md ops Q S f fuel listed a w
  | 0 => ⟨hr, h⟩
  | _ + 1 => ⟨fun _ => h, by rw [hr]; simp⟩
theorem wpIn_region_heldIn {id f : Nat} {a : Act} {w : World} (hm : P.follows .mixedOrders = true)
    (h : wpAnyHIn F n P .any ops Q S f ops.size (Array.replicate ops.size false) a { w with drawn := w.drawn + 1 }) : (Code.region id ops true).wpIn F n P Q a w :=
  wpIn_region_any hm (wpAnyIn_of_heldIn _ _ _ _ h)
end
end Go.Proofs.Ytnnbdjfeagcbdaa
namespace Go.Proofs.Ytnnbdjfeagcbdaa
set_option linter.unusedSimpArgs false
set_option linter.unusedVariables false
open Go.RowKit Go.Shelf
attribute [local go_sem] Oper.semAt_some
attribute [local go_sem ↓] Go.wp_at_zero Go.wp_at_succ

/-- A closure that makes a cell of a cell. -/
def MapsOf (wf : FuncId) (caps : Array Value) (g : Cl → Cl) (w : World) : Prop :=
  ∀ (c : Cl) (W : World), Below w.heap.size w W → Calls Try.prog wf (#[c.val] ++ caps) W fun e W' => e = .returned (g c).val ∧ Below W.heap.size W W'
theorem treeAt_kept {W W' : World} {t : T} {p : Option Addr} {row : Option Nat} (h : TreeAt W p t) (hg : W.grownBy W' row) (hr : ∀ r, row = some r → ∃ o : Obj, W.heap[r]? = some o ∧ o.isCells = false) : TreeAt W' p t :=
  h.keepT fun b cs hb => hg.block b (Array.getElem?_eq_some_iff.1 hb).1 (fun e => by obtain ⟨o, ho, hc⟩ := hr b e.symm; rw [hb] at ho; cases ho; cases hc)

set_option maxRecDepth 100000 in
set_option maxHeartbeats 4000000 in
theorem changed_calls (w : World) (t : T) (p0 : Option Addr) (ht : TreeAt w p0 t) (ok : t.Ok) (hs : Sorted t.toList) (hlen : t.toList.length ≤ 10000000) (a c : Int) (hac : 1 ≤ a ∧ 1 ≤ c ∧ a + c - 1 ≤ 1000000) (wf : FuncId) (caps : Array Value) (g : Cl → Cl)
    (hwf : MapsOf wf caps g w) (eg : ∀ args w, (callFunc wf args).run Try.prog w = .ok (.enter wf args) w) :
    Calls Try.prog 99 #[.pointer p0, .agg #[.int .i64 a, .int .i64 c], .func (.func wf) #[] caps] w (GlueMade (changedP t.toList a c g) w) := by
  have HT := hid ht
  have HOK := hid ok
  have HS := hid hs
  have HW := hid hwf
  have EG := hid eg
  have HLEN := hid hlen
  clear ht ok hs hwf eg hlen
  have hw1 : IntKind.i64.wrap (a + c) = a + c := IntWalk.i64_in _ (by omega)
  obtain ⟨F, hFe⟩ : ∃ F, F = Fence.wide := ⟨_, rfl⟩
  have hF : Free F Try.prog := hFe ▸ free_wide _
  have hro : F.round = none := by rw [hFe]; rfl
  have FE := hid hFe
  clear hFe
  refine (callsIn_wide (n := 6)).1 ?_
  rw [← FE.out]
  refine callsIn_of_wp_marks Try.func99 rfl (hF.fn _) ?_ hro
  rw [FE.out]
  refine wpIn_wide.2 ?_
  simp only [Try.ntmps99, List.size_toArray, List.length_cons, List.length_nil, Nat.reduceAdd, Nat.reduceSub, Array.replicate_succ, Array.replicate_zero, List.push_toArray, List.append_toArray, List.nil_append, List.cons_append]
  have cA : Cells ((w.alloc (.cells #[.int .i64 a, .int .i64 c] 37)).alloc (.cells #[.func (.func wf) #[] caps] 128)) (w.heap.size + 1) #[.func (.func wf) #[] caps] 128 := by
    have := Cells.new (w.alloc (.cells #[.int .i64 a, .int .i64 c] 37)) #[.func (.func wf) #[] caps] 128
    rw [World.size_alloc] at this
    exact this
  have cS := (Cells.new w #[.int .i64 a, .int .i64 c] 37).alloc (.cells #[.func (.func wf) #[] caps] 128)
  have CA := hid cA
  have CS := hid cS
  clear cA cS
  go_wp2_with fail
  refine (split_calls t a p0 _ ((HT.out.alloc _).alloc _) HOK.out (by have := HLEN.out; omega) (by omega)).mono ?_
  rintro e w1 ⟨q1, q2, t1, t2, rfl, ht1, ht2, ok1, ok2, el1, el2, hb1⟩
  have up1 : Below w.heap.size w w1 := Below.trans (by repeat (first | exact Below.refl _ _ | refine Below.alloc ?_ (by simp; try omega) _)) (hb1.mono (by simp; omega))
  rw [splitT_eq a t HS.out] at el1 el2
  have ss := splitP_sorted t.toList a HS.out
  have sl := splitP_length t.toList a
  have s2 : Sorted t2.toList := by rw [el2]; exact ss.2.1
  have S1 := hid (And.intro el1 (And.intro el2 (And.intro ss sl)))
  have S2 := hid s2
  have T1 := hid (And.intro ht1 (And.intro ht2 (And.intro ok1 ok2)))
  have CA1 := hid (CA.out.below hb1 (by simp))
  have CS1 := hid (CS.out.below hb1 (by simp; omega))
  have UP1 := hid up1
  have n1 : w1.cell? ⟨w.heap.size, 0, none⟩ = some (.int .i64 a) := by simp [CS1.out.cell]
  have n2 : w1.cell? ⟨w.heap.size, 1, none⟩ = some (.int .i64 c) := by simp [CS1.out.cell]
  clear ht1 ht2 ok1 ok2 el1 el2 ss sl s2 up1 hb1
  go_wp2_with fail
  refine (split_calls t2 (a + c) q2 _ T1.out.2.1 T1.out.2.2.2 (by have := S1.out; have := HLEN.out; rw [S1.out.2.1]; omega) (by omega)).mono ?_
  rintro e w2 ⟨q3, q4, t3, t4, rfl, ht3, ht4, ok3, ok4, el3, el4, hb2⟩
  rw [splitT_eq (a + c) t2 S2.out] at el3 el4
  have ss := splitP_sorted t2.toList (a + c) S2.out
  have sl := splitP_length t2.toList (a + c)
  have hg3 : t3.Good := good_iff t3 (by rw [el3]; exact ss.1.good)
  have hs3 : Sorted t3.toList := by rw [el3]; exact ss.1
  have S3 := hid (And.intro el3 (And.intro el4 (And.intro ss (And.intro sl (And.intro hg3 hs3)))))
  have T3 := hid (And.intro ht3 (And.intro ht4 (And.intro ok3 ok4)))
  have T1' := hid (T1.out.1.below hb2)
  have CA2 := hid (CA1.out.below hb2 CA1.out.lt)
  have UP2 := hid (UP1.out.trans (hb2.mono UP1.out.size))
  clear ht3 ht4 ok3 ok4 el3 el4 ss sl hg3 hs3 hb2 n1 n2
  go_wp2_with fail
  refine (within_made q3 1 1000000 _).mono ?_
  rintro e w3 ⟨v, rfl, ⟨B0, B1, B2, rfl, hB0, hB1, hB2⟩, hb3⟩
  have co := (Cells.new w2 #[.pointer none] 111).below hb3 (by simp)
  have CO := hid co
  have B3 := hid (Below.trans ((Below.refl _ w2).alloc (Nat.le_refl _) (.cells #[.pointer none] 111)) (hb3.mono (by simp)))
  clear co hb3
  go_wp2
  refine (wpIn_wide (n := 6)).1 ?_
  rw [← FE.out]
  refine wpIn_rangeFunc_ownH hro (by omega) (gf := 102) (lb := #[.pointer (some ⟨B0, 0, none⟩), .pointer (some ⟨B1, 0, none⟩), .pointer (some ⟨B2, 0, none⟩)]) rfl (hF.fn _) (enters_of Try.func102 (by kernel_rfl) rfl)
    (within_stops F hF hro _ B0 B1 B2 w2.heap.size q3 t3 S3.out.2.2.2.2.1 1 1000000 ⟨by omega, by omega, by omega⟩ w3 hB0.lt hB1.lt hB2.lt B3.out.size (by simp [hB0.cell]) (by simp [hB1.cell]) (by simp [hB2.cell]) (Tn.of_tree (Nat.le_refl _) B3.out T3.out.1))
    belowK_t (belowK_b B3.out.size) (Below.refl _ _) (fun _ => rfl)
    (fun pre W => (∃ (q : Option Addr) (o : T), Cells W w2.heap.size #[.pointer q] 111 ∧ TreeAt W q o ∧ o.Ok ∧ o.toList = ownP g (vals pre)) ∧ Below w2.heap.size w2 W ∧ w3.heap.size ≤ W.heap.size)
    (fun _ _ _ => False)
    (OwnFrom.and (fun s X Y row h hg hr => by obtain ⟨q, o, h1, h2, h3⟩ := h; exact ⟨q, o, h1.kept hg (fun r e => (hr r e).2), treeAt_kept h2 hg (fun r e => (hr r e).2), h3⟩) (OwnFrom.and (ownFrom_below (Nat.le_refl _) B3.out.size) (fun s X Y row h hg hr => Nat.le_trans h hg.size)))
    (fun _ _ _ _ _ h _ _ => h)
    ⟨⟨none, .nil, CO.out, rfl, trivial, rfl⟩, B3.out, Nat.le_refl _⟩
    (fun x a' W => ∃ Bx, w3.heap.size ≤ Bx ∧ Cells W Bx x.1.vals 118 ∧ a' = { tmps := #[.pointer p0, .agg #[.int .i64 a, .int .i64 c], .func (.func wf) #[] caps, undef, .pointer (some ⟨w.heap.size, 0, none⟩), .pointer (some ⟨w.heap.size + 1, 0, none⟩), .pointer none, .pointer q1, .pointer q2, .pointer q3, .pointer q4, .pointer (some ⟨w2.heap.size, 0, none⟩), .pointer (some ⟨Bx, 0, none⟩), .tuple #[.pointer q1, .pointer q2], .pointer p0, .pointer (some ⟨w.heap.size, 0, none⟩), .int .i64 a, .tuple #[.pointer q1, .pointer q2], .pointer q1, .pointer q2, .tuple #[.pointer q3, .pointer q4], .pointer q2, .pointer (some ⟨w.heap.size, 0, none⟩), .int .i64 a, .pointer (some ⟨w.heap.size, 1, none⟩), .int .i64 c, .int .i64 (a + c), .tuple #[.pointer q3, .pointer q4], .pointer q3, .pointer q4, .pointer q3,
      .func (.func 102) #[] #[.pointer (some ⟨B0, 0, none⟩), .pointer (some ⟨B1, 0, none⟩), .pointer (some ⟨B2, 0, none⟩)], x.1.val, undef, undef, undef, undef, undef, undef, undef, undef, undef, undef, undef, undef, undef, undef], defers := [] })
    (fun x a' s X Y row h hg hr => by obtain ⟨Bx, h1, h2, h3⟩ := h; exact ⟨Bx, h1, h2.kept hg (fun r e => (hr r e).2), h3⟩) ?assign ?body ?done ?stop
  case assign =>
    rintro l pre x W K ⟨⟨q, o, i1, i2, i3⟩, i4, i5⟩ hK
    gi_wp2
    exact hK _ _ ((KeepsOthers.alloc _ _).from _) ((Below.refl _ W).alloc i4.size _) ⟨⟨q, o, i1.alloc _, i2.alloc _, i3⟩, i4.alloc i4.size _, by simp; omega⟩ ⟨W.heap.size, i5, Cells.new _ _ _, rfl⟩
  case body =>
    rintro l pre x a' W hl _ ⟨⟨q, o, i1, i2, i3, i4⟩, i5, i6⟩ ⟨Bx, hBx, hcx, rfl⟩ hlt
    obtain ⟨e0, e1, e2, e3, e4, e5⟩ := pc_facts hcx
    have k11 : W.cell? ⟨w2.heap.size, 0, none⟩ = some (.pointer q) := by simp [i1.cell]
    have k5 : W.cell? ⟨w.heap.size + 1, 0, none⟩ = some (.func (.func wf) #[] caps) := by
      simp [((CA2.out.below i5 CA2.out.lt).cell)]
    have hdd : ∀ k : Nat, (F.depth.isSome = true → 1 ≤ k) := fun k h => by rw [hF.depth] at h; cases h
    have hmx : Try.prog.follows .mixedOrders = true := by kernel_rfl
    have hfw : (F.inRound l).fn wf := hF.fn _
    have hfw' : F.fn wf := hF.fn _
    have hfa : F.fn 112 := hF.fn _
    have eg' := EG.out
    have II := hid (And.intro i1 (And.intro i2 (And.intro i3 (And.intro i4 (And.intro i5 i6)))))
    have HCX := hid hcx
    clear i1 i2 i3 i4 i5 i6 hcx
    gi_wp2
    have hFr := free_round hF l
    refine wpIn_region_heldIn (S := fun w' => Cells w' w2.heap.size #[.pointer q] 111 ∧ Cells w' Bx x.1.vals 118 ∧ Cells w' (w.heap.size + 1) #[.func (.func wf) #[] caps] 128) (f := 9) hmx ?_
    have hS0 := And.intro (II.out.1.drew) (And.intro (show Cells W.drew Bx x.1.vals 118 from HCX.out.drew) (show Cells W.drew (w.heap.size + 1) #[.func (.func wf) #[] caps] 128 from (CA2.out.below II.out.2.2.2.2.1 CA2.out.lt).drew))
    have HS0 := hid hS0
    clear hS0
    refine wpAnyHIn_take hFr (by kernel_rfl) (i := 0) (v := .pointer q) rfl (by kernel_rfl) (by kernel_rfl) (by kernel_rfl) (fun _ _ _ h => h) (.inl ⟨rfl, fun w' hs => ?_⟩) HS0.out ?_
    · have z0 := hs.1.cell 0
      have z1 := hs.2.2.cell 0
      obtain ⟨y0, y1, y2, y3, y4, y5⟩ := pc_facts hs.2.1
      simp at z0 z1
      clear hs
      go_simp
    refine wpAnyHIn_take hFr (by kernel_rfl) (i := 1) (v := .pointer (some ⟨Bx, 0, none⟩)) rfl (by kernel_rfl) (by kernel_rfl) (by kernel_rfl) (fun _ _ _ h => h) (.inl ⟨rfl, fun w' hs => ?_⟩) HS0.out ?_
    · have z0 := hs.1.cell 0
      have z1 := hs.2.2.cell 0
      obtain ⟨y0, y1, y2, y3, y4, y5⟩ := pc_facts hs.2.1
      simp at z0 z1
      clear hs
      go_simp
    refine wpAnyHIn_take hFr (by kernel_rfl) (i := 2) (v := .agg #[.int .i64 x.1.from_, .int .i64 x.1.to]) rfl (by kernel_rfl) (by kernel_rfl) (by kernel_rfl) (fun _ _ _ h => h) (.inl ⟨rfl, fun w' hs => ?_⟩) HS0.out ?_
    · have z0 := hs.1.cell 0
      have z1 := hs.2.2.cell 0
      obtain ⟨y0, y1, y2, y3, y4, y5⟩ := pc_facts hs.2.1
      simp at z0 z1
      clear hs
      go_simp
    refine wpAnyHIn_take hFr (by kernel_rfl) (i := 3) (v := .func (.func wf) #[] caps) rfl (by kernel_rfl) (by kernel_rfl) (by kernel_rfl) (fun _ _ _ h => h) (.inl ⟨rfl, fun w' hs => ?_⟩) HS0.out ?_
    · have z0 := hs.1.cell 0
      have z1 := hs.2.2.cell 0
      obtain ⟨y0, y1, y2, y3, y4, y5⟩ := pc_facts hs.2.1
      simp at z0 z1
      clear hs
      go_simp
    refine wpAnyHIn_take hFr (by kernel_rfl) (i := 4) (v := .pointer (some ⟨Bx, 2, none⟩)) rfl (by kernel_rfl) (by kernel_rfl) (by kernel_rfl) (fun _ _ _ h => h) (.inl ⟨rfl, fun w' hs => ?_⟩) HS0.out ?_
    · have z0 := hs.1.cell 0
      have z1 := hs.2.2.cell 0
      obtain ⟨y0, y1, y2, y3, y4, y5⟩ := pc_facts hs.2.1
      simp at z0 z1
      clear hs
      go_simp
    refine wpAnyHIn_take hFr (by kernel_rfl) (i := 5) (v := x.1.cell.val) rfl (by kernel_rfl) (by kernel_rfl) (by kernel_rfl) (fun _ _ _ h => h) (.inl ⟨rfl, fun w' hs => ?_⟩) HS0.out ?_
    · have z0 := hs.1.cell 0
      have z1 := hs.2.2.cell 0
      obtain ⟨y0, y1, y2, y3, y4, y5⟩ := pc_facts hs.2.1
      simp at z0 z1
      clear hs
      go_simp
    refine wpAnyHIn_one (i := 6) rfl (by kernel_rfl) rfl ?_
    gi_wp2_with fail
    (try refine ⟨hdd _, ?_⟩)
    refine (CallsIn.inRound l (hF.calls _ _ _ _ _ (HW.out x.1.cell W.drew ((UP2.out.trans (II.out.2.2.2.2.1.mono UP2.out.size)).drew)))).mono ?_
    rintro e W1 ⟨rfl, hb4⟩
    have hb5 : Below W.heap.size W W1 := undrew hb4
    have HB5 := hid hb5
    have HX := hid x.2
    have hx : x.1.Good := x.2
    simp only [Pc.Good] at hx
    clear hb4 hb5 eg' k11 k5
    have of := ownP_facts g (vals pre) (fun p hp => by simp only [vals, List.mem_map] at hp; obtain ⟨y, _, rfl⟩ := hp; exact y.2)
    have OF := hid of
    have hl4 : o.toList.length ≤ 90000000 := by
      rw [II.out.2.2.2.1]
      have h1 := OF.out.1
      rw [vals_length] at h1
      have h2 := S3.out
      have h3 := HLEN.out
      have h4 := S1.out
      have h5 : (visL t3 1 1000000).length ≤ t3.toList.length := by rw [visL_eq 1 1000000 t3 h2.2.2.2.2.2, visP_all _ h2.2.2.2.2.2.good]; exact Nat.le_refl _
      rw [h2.1] at h5
      have h6 := h2.2.2.2.1.1
      have h8 : t2.toList.length ≤ t.toList.length + 1 := by rw [h4.2.1]; exact h4.2.2.2.2
      omega
    have k11' : W1.cell? ⟨w2.heap.size, 0, none⟩ = some (.pointer q) := by simp [(II.out.1.below HB5.out II.out.1.lt).cell]
    have f11' : W1.frozen? ⟨w2.heap.size, 0, none⟩ = false := (II.out.1.below HB5.out II.out.1.lt).frozen 0
    clear of
    have S5 := hid (And.intro (II.out.1.below HB5.out II.out.1.lt) (And.intro (HCX.out.below HB5.out HCX.out.lt) ((CA2.out.below II.out.2.2.2.2.1 CA2.out.lt).below HB5.out (CA2.out.below II.out.2.2.2.2.1 CA2.out.lt).lt)))
    gi_wp2_with fail
    refine ⟨S5.out, ?_⟩
    refine wpAnyHIn_one (i := 7) rfl (by kernel_rfl) rfl ?_
    gi_wp2_with fail
    refine ⟨S5.out, ?_⟩
    refine wpAnyHIn_one (i := 8) rfl (by kernel_rfl) rfl ?_
    gi_wp2_with fail
    (try refine ⟨hdd _, ?_⟩)
    refine (CallsIn.inRound l (hF.calls _ _ _ _ _ (appended_calls o ⟨x.1.from_, x.1.to, g x.1.cell⟩ q W1 (II.out.2.1.below HB5.out) II.out.2.2.1 hl4 (by rw [II.out.2.2.2.1]; exact OF.out.2)))).mono ?_
    rintro e W2 ⟨q5, t5, rfl, ht5, ok5, el5, hb6⟩
    have c11 : Cells W2 w2.heap.size #[.pointer q] 111 := (II.out.1.below HB5.out II.out.1.lt).below hb6 (II.out.1.below HB5.out II.out.1.lt).lt
    have k11'' : W2.cell? ⟨w2.heap.size, 0, none⟩ = some (.pointer q) := by simp [c11.cell]
    have f11'' : W2.frozen? ⟨w2.heap.size, 0, none⟩ = false := c11.frozen 0
    have E5 := hid (And.intro ht5 (And.intro ok5 (And.intro el5 (And.intro hb6 c11))))
    clear ht5 ok5 el5 hb6 c11 k11' f11'
    gi_wp2_with fail
    refine ⟨⟨E5.out.2.2.2.2, S5.out.2.1.below E5.out.2.2.2.1 S5.out.2.1.lt, S5.out.2.2.below E5.out.2.2.2.1 S5.out.2.2.lt⟩, ?_⟩
    refine wpAnyHIn_one (i := 9) rfl (by kernel_rfl) rfl ?_
    gi_wp2_with fail
    refine wpAnyHIn_done (by kernel_rfl) ?_ _
    gi_wp2
    have b56 : Below W.heap.size W W2 := HB5.out.trans (E5.out.2.2.2.1.mono HB5.out.size)
    have hs5 := II.out.2.2.2.2.2
    have hi5 := II.out.2.2.2.2.1
    refine ⟨(keepsFrom_below b56).trans keepsFrom_set, (b56.mono hi5.size).setCell (p := ⟨w2.heap.size, 0, none⟩) (Nat.le_refl _) _, ⟨q5, t5, E5.out.2.2.2.2.set 0 _, ?_, E5.out.2.1, ?_⟩, ?_, ?_⟩
    · exact E5.out.1.set E5.out.2.2.2.2 (by decide) 0 _
    · rw [E5.out.2.2.1, II.out.2.2.2.1, vals_append, ownP_snoc]
    · exact (hi5.trans (b56.mono hi5.size)).setCell (p := ⟨w2.heap.size, 0, none⟩) (Nat.le_refl _) _
    · have := b56.size
      simp [World.setCell]; omega
  case done =>
    rintro D ys W hD hS ⟨⟨q, o, i1, i2, i3, i4⟩, i5, i6⟩ hK
    have k11 : W.cell? ⟨w2.heap.size, 0, none⟩ = some (.pointer q) := by simp [i1.cell]
    have e1 : vals ys = (splitP (splitP t.toList a).2 (a + c)).1 := by
      have h2 := S3.out
      rw [hS, visL_eq 1 1000000 t3 h2.2.2.2.2.2, visP_all _ h2.2.2.2.2.2.good, h2.1, S1.out.2.1]
    have of := ownP_facts g (vals ys) (fun p hp => by simp only [vals, List.mem_map] at hp; obtain ⟨y, _, rfl⟩ := hp; exact y.2)
    have hln : (vals ys).length ≤ 10000002 := by
      have h2 := S3.out
      have h4 := S1.out
      have h3 := HLEN.out
      have h6 := h2.2.2.2.1.1
      rw [h4.2.1] at h6
      have h7 := h4.2.2.2.2
      rw [e1]; omega
    have hlo : o.toList.length ≤ 10000002 := by rw [i4]; omega
    have hl1 : t1.toList.length ≤ 10000001 := by have h4 := S1.out; have h3 := HLEN.out; rw [h4.1]; omega
    have II := hid (And.intro i1 (And.intro i2 (And.intro i3 (And.intro i4 (And.intro i5 (And.intro i6 (And.intro e1 of)))))))
    have HK := hid hK
    have HD := hid hD
    clear i1 i2 i3 i4 i5 i6 e1 of hK
    go_wp2_with fail
    refine (joined_calls t1 o q1 q W (T1'.out.below II.out.2.2.2.2.1) II.out.2.1 T1.out.2.2.1 II.out.2.2.1 (by omega) (by rw [S1.out.1]; exact S1.out.2.2.1.1.toOk)).mono ?_
    rintro e W1 ⟨q5, t5, rfl, ht5, ok5, el5, hb5⟩
    have hi5 := II.out.2.2.2.2.1
    have l5 : t5.toList.length ≤ 20000003 := by rw [el5]; have := joinP_length t1.toList o.toList; omega
    have l6 : t4.toList.length ≤ 10000002 := by
      have h2 := S3.out
      have h4 := S1.out
      have h3 := HLEN.out
      have h8 : t2.toList.length ≤ t.toList.length + 1 := by rw [h4.2.1]; exact h4.2.2.2.2
      rw [h2.2.1]
      have := h2.2.2.2.1.2
      omega
    have hto : ToOk t5.toList := by
      rw [el5, S1.out.1, II.out.2.2.2.1]
      exact joinP_toOk _ _ S1.out.2.2.1.1.toOk II.out.2.2.2.2.2.2.2.2
    have ht4' := (T3.out.2.1.below hi5).below (hb5.mono (Nat.le_refl _))
    have E5 := hid (And.intro ht5 (And.intro ok5 (And.intro el5 (And.intro hb5 (And.intro hto ht4')))))
    clear ht5 ok5 el5 hb5 hto ht4' hi5
    go_wp2_with fail
    refine (joined_calls t5 t4 q5 q4 W1 E5.out.1 E5.out.2.2.2.2.2 E5.out.2.1 T3.out.2.2.2 (by omega) E5.out.2.2.2.2.1).mono ?_
    rintro e W2 ⟨q6, t6, rfl, ht6, ok6, el6, hb6⟩
    have E6 := hid (And.intro ht6 (And.intro ok6 (And.intro el6 hb6)))
    clear ht6 ok6 el6 hb6
    go_wp2
    have hi5 := II.out.2.2.2.2.1
    have b5 := E5.out.2.2.2.1
    have b6 := E6.out.2.2.2
    have hKD : W2.heap[D]? = some (.deferred (some [])) := by
      have hl := (Array.getElem?_eq_some_iff.1 HK.out).1
      rw [b6.block D (by have := b5.size; omega), b5.block D hl]; exact HK.out
    refine ⟨by simp, .inl ⟨_, _, rfl, run_takeDeferred (b := D) (ds := []) hKD, ?_⟩⟩
    refine ⟨_, results_tmp rfl _ _ _, q6, t6, rfl, ?_, E6.out.2.1, ?_, ?_⟩
    · exact treeAt_kept E6.out.1 (grownBy_putObj' W2 D _) (fun r e => by cases e; exact ⟨_, hKD, rfl⟩)
    · rw [E6.out.2.2.1, E5.out.2.2.1, S1.out.1, II.out.2.2.2.1, II.out.2.2.2.2.2.2.1, S3.out.2.1, S1.out.2.1]; rfl
    · have up := UP2.out
      have b7 : Below w.heap.size w W2 := ((up.trans (hi5.mono up.size)).trans (b5.mono (Nat.le_trans up.size hi5.size))).trans (b6.mono (Nat.le_trans (Nat.le_trans up.size hi5.size) b5.size))
      exact b7.trans (belowK_b (w := w3) (by have := B3.out.size; have := up.size; omega) W2 D _ _ HD.out hKD rfl rfl)
  case stop =>
    rintro D k pre W _ _ h _
    exact h.elim
end Go.Proofs.Ytnnbdjfeagcbdaa
namespace Go.Proofs.Ytnnbdjfeagcbdaa
set_option linter.unusedSimpArgs false
set_option linter.unusedVariables false
open Go.RowKit Go.Shelf

/-- A slice value that reads as integers. -/
def IntsAt (w : World) (v : Value) (xs : List Int) : Prop :=
  xs.length ≤ 1000000000 ∧ ((∃ a cap, v = .slice a 0 cap ∧ xs = []) ∨ ∃ b off cap, v = .slice (some ⟨b, off, none⟩) xs.length cap ∧ b < w.heap.size ∧ ∀ k, k < xs.length → w.cell? ⟨b, off + k, none⟩ = some (.int .i64 (xs[k]?.getD 0)))
theorem IntsAt.below {w w' : World} {v : Value} {xs : List Int} (h : IntsAt w v xs) (hb : Below w.heap.size w w') : IntsAt w' v xs := by
  refine ⟨h.1, h.2.imp id ?_⟩
  rintro ⟨b, off, cap, hv, hlt, hc⟩
  exact ⟨b, off, cap, hv, Nat.lt_of_lt_of_le hlt hb.size, fun k hk => (hb.cell (p := ⟨b, off + k, none⟩) hlt).trans (hc k hk)⟩
/-- A closure that tells something of an integer. -/
def TestsOf (wf : FuncId) (caps : Array Value) (pr : Int → Bool) (w : World) : Prop :=
  ∀ (n : Int) (W : World), Below w.heap.size w W → Calls Try.prog wf (#[.int .i64 n] ++ caps) W fun e W' => e = .returned (.bool (pr n)) ∧ Below W.heap.size W W'

def ixOf (pr : Int → Bool) (xs : List Int) : Int := match xs.findIdx? pr with | some i => i | none => -1
theorem ixOf_at (pr : Int → Bool) (xs : List Int) (k : Nat) (hk : k < xs.length) (h : ∀ j, j < k → pr (xs[j]?.getD 0) = false) (hp : pr (xs[k]?.getD 0) = true) : ixOf pr xs = k := by
  have : xs.findIdx? pr = some k := by
    rw [List.findIdx?_eq_some_iff_getElem]
    refine ⟨hk, ?_, fun j hj => ?_⟩
    · simpa [List.getElem?_eq_getElem hk] using hp
    · have := h j hj; simpa [List.getElem?_eq_getElem (Nat.lt_trans hj hk)] using this
  simp [ixOf, this]
theorem ixOf_none (pr : Int → Bool) (xs : List Int) (h : ∀ j, j < xs.length → pr (xs[j]?.getD 0) = false) : ixOf pr xs = -1 := by
  have : xs.findIdx? pr = none := by
    rw [List.findIdx?_eq_none_iff]
    intro x hx
    obtain ⟨j, hj, rfl⟩ := List.getElem_of_mem hx
    have := h j hj
    simpa [List.getElem?_eq_getElem hj] using this
  simp [ixOf, this]
theorem ixOf_ge (pr : Int → Bool) (xs : List Int) : decide (0 ≤ ixOf pr xs) = xs.any pr := by
  unfold ixOf
  cases h : xs.findIdx? pr with
  | none =>
    rw [List.findIdx?_eq_none_iff] at h
    have : xs.any pr = false := by rw [List.any_eq_false]; intro x hx; simp [h x hx]
    simp [this]
  | some i =>
    rw [List.findIdx?_eq_some_iff_getElem] at h
    obtain ⟨hi, hp, _⟩ := h
    have : xs.any pr = true := List.any_eq_true.2 ⟨_, List.getElem_mem hi, hp⟩
    simp [this]

set_option maxRecDepth 100000 in
set_option maxHeartbeats 2000000 in
theorem indexFunc_calls (w : World) (v : Value) (xs : List Int) (hv : IntsAt w v xs) (wf : FuncId) (caps : Array Value) (pr : Int → Bool)
    (hwf : TestsOf wf caps pr w) (eg : ∀ args w, (callFunc wf args).run Try.prog w = .ok (.enter wf args) w) :
    Calls Try.prog 110 #[v, .func (.func wf) #[] caps] w fun e w' => e = .returned (.int .i64 (ixOf pr xs)) ∧ Below w.heap.size w w' := by
  obtain ⟨hm, ⟨a, cap, rfl, rfl⟩ | ⟨b, off, cap, rfl, hlt, hc⟩⟩ := hv
  · clear hwf eg
    go_enter Try.func110, Try.ntmps110
    go_wp2
    refine wp_loop_rounds 1 ?_
    rw [rounds_succ]
    go_wp2
    go_ret
    exact ⟨by rw [ixOf_none pr [] (fun j hj => absurd hj (by simp))]; rfl, Below.refl _ _⟩
  · have HW := hid hwf
    have EG := hid eg
    have HC := hid hc
    clear hwf eg hc
    obtain ⟨len, hl⟩ : ∃ len, len = xs.length := ⟨_, rfl⟩
    rw [← hl] at hm ⊢
    have HL := hid hl
    clear hl
    go_enter Try.func110, Try.ntmps110
    go_wp2
    go_loopw [5, 8] (fun _ i wr => ∃ k : Nat, k ≤ len ∧ i = .int .i64 k ∧ (∀ j, j < k → pr (xs[j]?.getD 0) = false) ∧ Below w.heap.size w wr) (fun _ i _ => len - (intOf i).toNat)
    case atStart => exact ⟨0, Nat.zero_le _, rfl, fun j hj => absurd hj (by omega), Below.refl _ _⟩
    case round =>
      obtain ⟨k, hk, rfl, hno, hb⟩ := hrel
      have HN := hid hno
      have HB := hid hb
      clear hno hb
      by_cases hlk : k < len
      · have c0 : wr.cell? ⟨b, off + k, none⟩ = some (.int .i64 (xs[k]?.getD 0)) := (HB.out.cell (p := ⟨b, off + k, none⟩) hlt).trans (HC.out k (by rw [← HL.out]; exact hlk))
        have eg' := EG.out
        go_wp2_with fail
        refine (HW.out _ _ HB.out).mono ?_
        rintro e w1 ⟨rfl, hb1⟩
        have HB1 := hid hb1
        clear hb1 eg' c0
        cases hp : pr (xs[k]?.getD 0)
        · have HP := hid hp
          clear hp
          go_wp2
          go_roundw
          case rel => exact ⟨k + 1, by omega, by go_num, fun j hj => (by rcases Nat.lt_succ_iff_lt_or_eq.1 hj with h | h; exact HN.out j h; rw [h]; exact HP.out), HB.out.trans (HB1.out.mono HB.out.size)⟩
          case measure => simp [intOf]; omega
        · have HP := hid hp
          clear hp
          go_wp2
          go_ret
          exact ⟨by rw [ixOf_at pr xs k (by rw [← HL.out]; exact hlk) HN.out HP.out]; rfl, HB.out.trans (HB1.out.mono HB.out.size)⟩
      · go_wp2
        go_ret
        exact ⟨by rw [ixOf_none pr xs (fun j hj => HN.out j (by rw [← HL.out] at hj; omega))]; rfl, HB.out⟩

set_option maxHeartbeats 1000000 in
theorem containsFunc_calls (w : World) (v : Value) (xs : List Int) (hv : IntsAt w v xs) (wf : FuncId) (caps : Array Value) (pr : Int → Bool)
    (hwf : TestsOf wf caps pr w) (eg : ∀ args w, (callFunc wf args).run Try.prog w = .ok (.enter wf args) w) :
    Calls Try.prog 97 #[v, .func (.func wf) #[] caps] w fun e w' => e = .returned (.bool (xs.any pr)) ∧ Below w.heap.size w w' := by
  have H := hid (indexFunc_calls w v xs hv wf caps pr hwf eg)
  have HX := hid (ixOf_ge pr xs)
  clear hv hwf eg
  go_enter Try.func97, Try.ntmps97
  go_wp2_with fail
  refine H.out.mono ?_
  rintro e w1 ⟨rfl, hb1⟩
  go_wp2
  go_ret
  exact ⟨by rw [← HX.out]; rfl, hb1⟩

def inB (most n : Int) : Bool := decide (1 ≤ n) && decide (n ≤ most)
set_option maxHeartbeats 1000000 in
theorem are1_calls (n most : Int) (B : Nat) (w : World) (h : w.cell? ⟨B, 0, none⟩ = some (.int .i64 most)) :
    Calls Try.prog 98 #[.int .i64 n, .pointer (some ⟨B, 0, none⟩)] w fun e w' => e = .returned (.bool (!inB most n)) ∧ Below w.heap.size w w' := by
  by_cases h1 : n < 1
  · go_enter Try.func98, Try.ntmps98
    go_wp2
    go_ret
    exact ⟨by simp [inB]; omega, Below.refl _ _⟩
  · by_cases h2 : most < n
    · go_enter Try.func98, Try.ntmps98
      go_wp2
      go_ret
      exact ⟨by simp [inB]; omega, Below.refl _ _⟩
    · go_enter Try.func98, Try.ntmps98
      go_wp2
      go_ret
      exact ⟨by simp [inB]; omega, Below.refl _ _⟩

set_option maxHeartbeats 1000000 in
theorem are_calls (most : Int) (w : World) (v : Value) (xs : List Int) (hv : IntsAt w v xs) :
    Calls Try.prog 53 #[.int .i64 most, v] w fun e w' => e = .returned (.bool (xs.all (inB most))) ∧ Below w.heap.size w w' := by
  have HV := hid hv
  clear hv
  have hmf : ∀ (fn : Fn) (first cap : Array Value) (w : World), (Instr.makeFunc fn first cap).run Try.prog w = .ok (.func fn first cap) w := fun _ _ _ _ => rfl
  go_enter Try.func53, Try.ntmps53
  go_wp2_with fail
  refine (containsFunc_calls _ v xs (HV.out.below ((Below.refl _ _).alloc (Nat.le_refl _) _)) 98 #[.pointer (some ⟨w.heap.size, 0, none⟩)] (fun n => !inB most n) ?_ (enters_of Try.func98 (by kernel_rfl) rfl)).mono ?_
  · intro n W hb
    exact are1_calls n most w.heap.size W (by rw [hb.cell (p := ⟨w.heap.size, 0, none⟩) (by simp)]; simp [(Cells.new w #[.int .i64 most] 3).cell])
  · rintro e w1 ⟨rfl, hb1⟩
    go_wp2
    go_ret
    exact ⟨by simp [List.all_eq_not_any_not], Below.trans ((Below.refl _ _).alloc (Nat.le_refl _) _) (hb1.mono (by simp))⟩
end Go.Proofs.Ytnnbdjfeagcbdaa
namespace Go.Proofs.Ytnnbdjfeagcbdaa
set_option linter.unusedSimpArgs false
set_option linter.unusedVariables false
open Go.RowKit Go.Shelf

def okSpan (a c : Int) : Bool := decide (1 ≤ a) && (decide (1 ≤ c) && (decide (a ≤ 1000000) && decide (c ≤ 1000000 - a + 1)))
theorem okSpan_iff (a c : Int) : okSpan a c = true ↔ 1 ≤ a ∧ 1 ≤ c ∧ a + c - 1 ≤ 1000000 := by
  simp [okSpan]; omega

set_option maxHeartbeats 1000000 in
theorem isSpan_calls (a c : Int) (w : World) :
    Calls Try.prog 52 #[.agg #[.int .i64 a, .int .i64 c]] w fun e w' => e = .returned (.bool (okSpan a c)) ∧ Below w.heap.size w w' := by
  by_cases h1 : 1 ≤ a
  · by_cases h2 : 1 ≤ c
    · by_cases h3 : a ≤ 1000000
      · have hw1 : IntKind.i64.wrap (1000000 - a) = 1000000 - a := IntWalk.i64_in _ (by omega)
        have hw2 : IntKind.i64.wrap (1000000 - a + 1) = 1000000 - a + 1 := IntWalk.i64_in _ (by omega)
        by_cases h4 : c ≤ 1000000 - a + 1
        · have e : okSpan a c = true := (okSpan_iff a c).2 (by omega)
          rw [e]
          go_enter Try.func52, Try.ntmps52
          go_wp2
          go_ret
          exact ⟨rfl, Below.alloc (Below.refl _ _) (Nat.le_refl _) _⟩
        · have e : okSpan a c = false := by rw [Bool.eq_false_iff]; intro h; exact h4 (by have := (okSpan_iff a c).1 h; omega)
          rw [e]
          go_enter Try.func52, Try.ntmps52
          go_wp2
          go_ret
          exact ⟨rfl, Below.alloc (Below.refl _ _) (Nat.le_refl _) _⟩
      · have e : okSpan a c = false := by rw [Bool.eq_false_iff]; intro h; exact h3 (by have := (okSpan_iff a c).1 h; omega)
        rw [e]
        go_enter Try.func52, Try.ntmps52
        go_wp2
        go_ret
        exact ⟨rfl, Below.alloc (Below.refl _ _) (Nat.le_refl _) _⟩
    · have e : okSpan a c = false := by rw [Bool.eq_false_iff]; intro h; exact h2 (by have := (okSpan_iff a c).1 h; omega)
      rw [e]
      go_enter Try.func52, Try.ntmps52
      go_wp2
      go_ret
      exact ⟨rfl, Below.alloc (Below.refl _ _) (Nat.le_refl _) _⟩
  · have e : okSpan a c = false := by rw [Bool.eq_false_iff]; intro h; exact h1 (by have := (okSpan_iff a c).1 h; omega)
    rw [e]
    go_enter Try.func52, Try.ntmps52
    go_wp2
    go_ret
    exact ⟨rfl, Below.alloc (Below.refl _ _) (Nat.le_refl _) _⟩

def enterE (c : Cl) : Int := if c.state ≠ 0 then 5 else 0
def ownedE (o : Int) (c : Cl) : Int := if c.state ≠ 1 then 4 else if c.owner ≠ o then 8 else if c.holder ≠ 0 then 10 else 0
def heldE (h : Int) (c : Cl) : Int := if c.state ≠ 1 then 4 else if c.holder ≠ h then 10 else 0

set_option maxHeartbeats 1000000 in
theorem enter1_calls (c : Cl) (w : World) :
    Calls Try.prog 55 #[c.val] w fun e w' => e = .returned (.int .i64 (enterE c)) ∧ Below w.heap.size w w' := by
  by_cases h : c.state = 0
  · have hb : (c.state != 0) = false := by simp [h]
    have e : enterE c = 0 := by simp [enterE, h]
    rw [e]
    go_enter Try.func55, Try.ntmps55
    go_wp2
    go_ret
    exact ⟨rfl, Below.alloc (Below.refl _ _) (Nat.le_refl _) _⟩
  · have hb : (c.state != 0) = true := by simp [h]
    have e : enterE c = 5 := by simp [enterE, h]
    rw [e]
    go_enter Try.func55, Try.ntmps55
    go_wp2
    go_ret
    exact ⟨rfl, Below.alloc (Below.refl _ _) (Nat.le_refl _) _⟩

set_option maxHeartbeats 2000000 in
theorem owned1_calls (c : Cl) (o : Int) (B : Nat) (w : World) (h0 : w.cell? ⟨B, 0, none⟩ = some (.int .i64 o)) :
    Calls Try.prog 100 #[c.val, .pointer (some ⟨B, 0, none⟩)] w fun e w' => e = .returned (.int .i64 (ownedE o c)) ∧ Below w.heap.size w w' := by
  have hlt := World.block_lt_of_cell? _ _ h0
  by_cases h : c.state = 1
  · have hb : (c.state != 1) = false := by simp [h]
    by_cases h2 : c.owner = o
    · have hb2 : (c.owner != o) = false := by simp [h2]
      by_cases h3 : c.holder = 0
      · have hb3 : (c.holder != 0) = false := by simp [h3]
        have e : ownedE o c = 0 := by simp [ownedE, h, h2, h3]
        rw [e]
        clear h h2 h3
        go_enter Try.func100, Try.ntmps100
        go_wp2
        go_ret
        exact ⟨rfl, Below.alloc (Below.refl _ _) (Nat.le_refl _) _⟩
      · have hb3 : (c.holder != 0) = true := by simp [h3]
        have e : ownedE o c = 10 := by simp [ownedE, h, h2, h3]
        rw [e]
        clear h h2 h3
        go_enter Try.func100, Try.ntmps100
        go_wp2
        go_ret
        exact ⟨rfl, Below.alloc (Below.refl _ _) (Nat.le_refl _) _⟩
    · have hb2 : (c.owner != o) = true := by simp [h2]
      have e : ownedE o c = 8 := by simp [ownedE, h, h2]
      rw [e]
      clear h h2
      go_enter Try.func100, Try.ntmps100
      go_wp2
      go_ret
      exact ⟨rfl, Below.alloc (Below.refl _ _) (Nat.le_refl _) _⟩
  · have hb : (c.state != 1) = true := by simp [h]
    have e : ownedE o c = 4 := by simp [ownedE, h]
    rw [e]
    clear h
    go_enter Try.func100, Try.ntmps100
    go_wp2
    go_ret
    exact ⟨rfl, Below.alloc (Below.refl _ _) (Nat.le_refl _) _⟩

set_option maxHeartbeats 2000000 in
theorem held1_calls (c : Cl) (o : Int) (B : Nat) (w : World) (h0 : w.cell? ⟨B, 0, none⟩ = some (.int .i64 o)) :
    Calls Try.prog 101 #[c.val, .pointer (some ⟨B, 0, none⟩)] w fun e w' => e = .returned (.int .i64 (heldE o c)) ∧ Below w.heap.size w w' := by
  have hlt := World.block_lt_of_cell? _ _ h0
  by_cases h : c.state = 1
  · have hb : (c.state != 1) = false := by simp [h]
    by_cases h2 : c.holder = o
    · have hb2 : (c.holder != o) = false := by simp [h2]
      have e : heldE o c = 0 := by simp [heldE, h, h2]
      rw [e]
      clear h h2
      go_enter Try.func101, Try.ntmps101
      go_wp2
      go_ret
      exact ⟨rfl, Below.alloc (Below.refl _ _) (Nat.le_refl _) _⟩
    · have hb2 : (c.holder != o) = true := by simp [h2]
      have e : heldE o c = 10 := by simp [heldE, h, h2]
      rw [e]
      clear h h2
      go_enter Try.func101, Try.ntmps101
      go_wp2
      go_ret
      exact ⟨rfl, Below.alloc (Below.refl _ _) (Nat.le_refl _) _⟩
  · have hb : (c.state != 1) = true := by simp [h]
    have e : heldE o c = 4 := by simp [heldE, h]
    rw [e]
    clear h
    go_enter Try.func101, Try.ntmps101
    go_wp2
    go_ret
    exact ⟨rfl, Below.alloc (Below.refl _ _) (Nat.le_refl _) _⟩

def enterG (lot owner : Int) (_ : Cl) : Cl := ⟨1, lot, owner, 0⟩
def moveG (to : Int) (c : Cl) : Cl := { c with owner := to }
def pledgeG (to : Int) (c : Cl) : Cl := { c with holder := to }
def releaseG (c : Cl) : Cl := { c with holder := 0 }
def seizeG (h : Int) (c : Cl) : Cl := { c with owner := h, holder := 0 }
def leaveG (_ : Cl) : Cl := ⟨2, 0, 0, 0⟩

set_option maxHeartbeats 1000000 in
theorem enter2_calls (c : Cl) (lot owner : Int) (B C : Nat) (w : World) (h0 : w.cell? ⟨B, 0, none⟩ = some (.int .i64 lot)) (h1 : w.cell? ⟨C, 0, none⟩ = some (.int .i64 owner)) :
    Calls Try.prog 57 #[c.val, .pointer (some ⟨B, 0, none⟩), .pointer (some ⟨C, 0, none⟩)] w fun e w' => e = .returned (enterG lot owner c).val ∧ Below w.heap.size w w' := by
  have hlt := World.block_lt_of_cell? _ _ h0
  have hlt1 := World.block_lt_of_cell? _ _ h1
  go_enter Try.func57, Try.ntmps57
  go_wp2
  have l1 : w.heap.size < w.heap.size + 1 + 1 := by omega
  refine bodyPost_ret (v := (enterG lot owner c).val) (by simp [results, Try.results57, go_sem, enterG]) rfl ⟨rfl, ?_⟩
  repeat (first | exact Below.refl _ _ | refine Below.setCell ?_ (by simp; try omega) _ | refine Below.alloc ?_ (by simp; try omega) _)
end Go.Proofs.Ytnnbdjfeagcbdaa
namespace Go.Proofs.Ytnnbdjfeagcbdaa
set_option linter.unusedSimpArgs false
set_option linter.unusedVariables false
open Go.RowKit Go.Shelf
attribute [local go_sem] Oper.semAt_some

set_option maxHeartbeats 1000000 in
theorem move1_calls (c : Cl) (o : Int) (B : Nat) (w : World) (h0 : w.cell? ⟨B, 0, none⟩ = some (.int .i64 o)) :
    Calls Try.prog 59 #[c.val, .pointer (some ⟨B, 0, none⟩)] w fun e w' => e = .returned (moveG o c).val ∧ Below w.heap.size w w' := by
  have hlt := World.block_lt_of_cell? _ _ h0
  have l1 : w.heap.size < w.heap.size + 1 + 1 := by omega
  go_enter Try.func59, Try.ntmps59
  go_wp2
  refine bodyPost_ret (v := (moveG o c).val) (by simp [results, Try.results59, go_sem, moveG]) rfl ⟨rfl, ?_⟩
  repeat (first | exact Below.refl _ _ | refine Below.setCell ?_ (by simp; try omega) _ | refine Below.alloc ?_ (by simp; try omega) _)

set_option maxHeartbeats 1000000 in
theorem pledge1_calls (c : Cl) (o : Int) (B : Nat) (w : World) (h0 : w.cell? ⟨B, 0, none⟩ = some (.int .i64 o)) :
    Calls Try.prog 60 #[c.val, .pointer (some ⟨B, 0, none⟩)] w fun e w' => e = .returned (pledgeG o c).val ∧ Below w.heap.size w w' := by
  have hlt := World.block_lt_of_cell? _ _ h0
  have l1 : w.heap.size < w.heap.size + 1 + 1 := by omega
  go_enter Try.func60, Try.ntmps60
  go_wp2
  refine bodyPost_ret (v := (pledgeG o c).val) (by simp [results, Try.results60, go_sem, pledgeG]) rfl ⟨rfl, ?_⟩
  repeat (first | exact Below.refl _ _ | refine Below.setCell ?_ (by simp; try omega) _ | refine Below.alloc ?_ (by simp; try omega) _)

set_option maxHeartbeats 1000000 in
theorem release1_calls (c : Cl) (w : World) :
    Calls Try.prog 62 #[c.val] w fun e w' => e = .returned (releaseG c).val ∧ Below w.heap.size w w' := by
  have l1 : w.heap.size < w.heap.size + 1 + 1 := by omega
  go_enter Try.func62, Try.ntmps62
  go_wp2
  refine bodyPost_ret (v := (releaseG c).val) (by simp [results, Try.results62, go_sem, releaseG]) rfl ⟨rfl, ?_⟩
  repeat (first | exact Below.refl _ _ | refine Below.setCell ?_ (by simp; try omega) _ | refine Below.alloc ?_ (by simp; try omega) _)

set_option maxHeartbeats 1000000 in
theorem seize1_calls (c : Cl) (o : Int) (B : Nat) (w : World) (h0 : w.cell? ⟨B, 0, none⟩ = some (.int .i64 o)) :
    Calls Try.prog 63 #[c.val, .pointer (some ⟨B, 0, none⟩)] w fun e w' => e = .returned (seizeG o c).val ∧ Below w.heap.size w w' := by
  have hlt := World.block_lt_of_cell? _ _ h0
  have l1 : w.heap.size < w.heap.size + 1 + 1 := by omega
  go_enter Try.func63, Try.ntmps63
  go_wp2
  refine bodyPost_ret (v := (seizeG o c).val) (by simp [results, Try.results63, go_sem, seizeG]) rfl ⟨rfl, ?_⟩
  repeat (first | exact Below.refl _ _ | refine Below.setCell ?_ (by simp; try omega) _ | refine Below.alloc ?_ (by simp; try omega) _)

set_option maxHeartbeats 1000000 in
theorem leave1_calls (c : Cl) (w : World) :
    Calls Try.prog 64 #[c.val] w fun e w' => e = .returned (leaveG c).val ∧ Below w.heap.size w w' := by
  have l1 : w.heap.size < w.heap.size + 1 + 1 := by omega
  go_enter Try.func64, Try.ntmps64
  go_wp2
  refine bodyPost_ret (v := (leaveG c).val) (by simp [results, Try.results64, go_sem, leaveG]) rfl ⟨rfl, ?_⟩
  repeat (first | exact Below.refl _ _ | refine Below.setCell ?_ (by simp; try omega) _ | refine Below.alloc ?_ (by simp; try omega) _)


theorem new_cell1 (w : World) (x : Value) (ty : TypeId) : (w.alloc (.cells #[x] ty)).cell? ⟨w.heap.size, 0, none⟩ = some x := by simp [(Cells.new w #[x] ty).cell]

set_option maxHeartbeats 1000000 in
theorem owned_calls (w : World) (sB : Nat) (t : T) (hs : NowAt w sB t) (hg : t.Good) (a c : Int) (hac : 1 ≤ a ∧ 1 ≤ c ∧ a + c - 1 ≤ 1000000) (o : Int) :
    Calls Try.prog 58 #[.pointer (some ⟨sB, 0, none⟩), .agg #[.int .i64 a, .int .i64 c], .int .i64 o] w fun e w' =>
      e = .returned (.int .i64 (firstE (ownedE o) (visL t a (a + c - 1)))) ∧ Below w.heap.size w w' := by
  have HS := hid hs
  clear hs
  have hmf : ∀ (fn : Fn) (first cap : Array Value) (w : World), (Instr.makeFunc fn first cap).run Try.prog w = .ok (.func fn first cap) w := fun _ _ _ _ => rfl
  have l1 : w.heap.size < w.heap.size + 1 + 1 := by omega
  go_enter Try.func58, Try.ntmps58
  go_wp2_with fail
  have hB : Below w.heap.size w ((w.alloc (.cells #[.int .i64 a, .int .i64 c] 37)).alloc (.cells #[.int .i64 o] 3)) := ((Below.refl _ _).alloc (Nat.le_refl _) _).alloc (by simp) _
  refine (each_calls _ sB t (HS.out.below hB) hg a c hac 100 #[.pointer (some ⟨w.heap.size + 1, 0, none⟩)] (ownedE o) ?_ (enters_of Try.func100 (by kernel_rfl) rfl)).mono ?_
  · intro d W hb
    refine owned1_calls d o (w.heap.size + 1) W ?_
    rw [hb.cell (p := ⟨w.heap.size + 1, 0, none⟩) (by simp)]
    have := new_cell1 (w.alloc (.cells #[.int .i64 a, .int .i64 c] 37)) (.int .i64 o) 3
    rwa [World.size_alloc] at this
  · rintro e w1 ⟨rfl, hb1⟩
    go_wp2
    go_ret
    exact ⟨rfl, hB.trans (hb1.mono hB.size)⟩

set_option maxHeartbeats 1000000 in
theorem version_nil (w : World) : Calls Try.prog 19 #[.pointer none] w fun e w' => e = .returned (.int .i64 0) ∧ w' = w := by
  go_enter Try.func19, Try.ntmps19
  go_wp2
  go_ret
  exact ⟨rfl, rfl⟩
set_option maxHeartbeats 1000000 in
theorem version_calls (w : World) (sB : Nat) (v : Value) (n cap : Nat) (p : Option Addr) (hn : n ≤ 1000000000) (h0 : w.cell? ⟨sB, 0, none⟩ = some (.slice p n cap)) : Calls Try.prog 19 #[.pointer (some ⟨sB, 0, none⟩)] w fun e w' => e = .returned (.int .i64 (n - 1)) ∧ w' = w := by
  have hlt := World.block_lt_of_cell? _ _ h0
  have hw1 : IntKind.i64.wrap ((n : Int) - 1) = n - 1 := IntWalk.i64_in _ (by omega)
  go_enter Try.func19, Try.ntmps19
  go_wp2
  go_ret
  exact ⟨rfl, rfl⟩
end Go.Proofs.Ytnnbdjfeagcbdaa
namespace Go.Proofs.Ytnnbdjfeagcbdaa
set_option linter.unusedSimpArgs false
set_option linter.unusedVariables false
open Go.RowKit Go.Shelf
attribute [local go_sem] Oper.semAt_some
attribute [local go_sem ↓] Go.wp_at_zero Go.wp_at_succ

/-- What a change of a register leaves: all blocks but its own two. -/
structure Turned (sB vB : Nat) (w w' : World) : Prop where
  os : w'.os = w.os
  tape : w'.tape = w.tape
  output : w'.output = w.output
  size : w.heap.size ≤ w'.heap.size
  block : ∀ k, k < w.heap.size → k ≠ sB → k ≠ vB → w'.heap[k]? = w.heap[k]?
theorem Turned.of_below {sB vB : Nat} {w w' : World} (h : Below w.heap.size w w') : Turned sB vB w w' := ⟨h.os, h.tape, h.output, h.size, fun k hk _ _ => h.block k hk⟩

/-- The register at block sB with its versions in block vB. -/
structure StAt (w : World) (sB vB : Nat) (vs : List T) : Prop where
  full : vs ≠ []
  at_ : ∃ (cap : Nat) (ps : List (Option Addr)), Cells w sB #[.slice (some ⟨vB, 0, none⟩) vs.length cap] 121 ∧
    w.ownsRow 0 111 1 (.slice (some ⟨vB, 0, none⟩) vs.length cap) vs.length (ps.map Value.pointer) ∧ (∀ k, k < vs.length → TreeAt w (ps[k]?.getD none) (vs[k]?.getD .nil))
theorem ownsRow_block {w : World} {e : TypeId} {vB n cap : Nat} {xs : List Value} (h : w.ownsRow 0 e 1 (.slice (some ⟨vB, 0, none⟩) n cap) n xs) : ∃ cur, Cells w vB cur e := by
  rcases h.2 with ⟨h, _⟩ | ⟨g, c, cur, h, _, hc, _⟩
  · cases h
  · injection h with h1 h2 h3
    injection h1 with h1
    injection h1 with h1 h4
    subst h1
    exact ⟨cur, hc⟩
theorem ownsRow_keep {w w' : World} {e : TypeId} {vB n cap : Nat} {xs : List Value} (h : w.ownsRow 0 e 1 (.slice (some ⟨vB, 0, none⟩) n cap) n xs) (hb : w'.heap[vB]? = w.heap[vB]?) : w'.ownsRow 0 e 1 (.slice (some ⟨vB, 0, none⟩) n cap) n xs := by
  refine ⟨h.1, h.2.imp id ?_⟩
  rintro ⟨g, c, cur, h1, h2, h3, h4⟩
  refine ⟨g, c, cur, h1, h2, ?_, h4⟩
  have : g = vB := by injection h1 with h1; injection h1 with h1; injection h1 with h1; exact h1.symm
  subst this
  exact hb.trans h3
theorem StAt.lt {w : World} {sB vB : Nat} {vs : List T} (h : StAt w sB vB vs) : sB < w.heap.size ∧ vB < w.heap.size := by
  obtain ⟨cap, ps, hc, ho, _⟩ := h.at_
  obtain ⟨cur, hv⟩ := ownsRow_block ho
  exact ⟨hc.lt, hv.lt⟩
/-- A register abides what leaves its own blocks and the trees. -/
theorem StAt.keep {w w' : World} {sB vB : Nat} {vs : List T} (h : StAt w sB vB vs) (hs : w'.heap[sB]? = w.heap[sB]?) (hv : w'.heap[vB]? = w.heap[vB]?)
    (hk : ∀ (b : Nat) (cs : Array Value), w.heap[b]? = some (Obj.cells cs 158) → w'.heap[b]? = w.heap[b]?) : StAt w' sB vB vs := by
  obtain ⟨cap, ps, hc, ho, ht⟩ := h.at_
  exact ⟨h.full, cap, ps, hs.trans hc, ownsRow_keep ho hv, fun k hk' => (ht k hk').keepT hk⟩
theorem StAt.below {w w' : World} {sB vB : Nat} {vs : List T} (h : StAt w sB vB vs) (hb : Below w.heap.size w w') : StAt w' sB vB vs :=
  h.keep (hb.block _ h.lt.1) (hb.block _ h.lt.2) fun b cs hh => hb.block b (Array.getElem?_eq_some_iff.1 hh).1
theorem cells_type {w : World} {b : Nat} {cs cs' : Array Value} {t t' : TypeId} (h : Cells w b cs t) (h' : w.heap[b]? = some (Obj.cells cs' t')) : t = t' := by
  have := (show w.heap[b]? = _ from h).symm.trans h'
  simp at this
  exact this.2
/-- Another register abides the change of one. -/
theorem StAt.turned {w w' : World} {sB vB rB uB : Nat} {vs us : List T} (h : StAt w sB vB vs) (o : StAt w rB uB us) (ht : Turned rB uB w w') (h1 : sB ≠ rB) (h2 : vB ≠ uB) : StAt w' sB vB vs := by
  obtain ⟨cap, ps, hc, ho, _⟩ := h.at_
  obtain ⟨cap', ps', hc', ho', _⟩ := o.at_
  obtain ⟨cur, hv⟩ := ownsRow_block ho
  obtain ⟨cur', hv'⟩ := ownsRow_block ho'
  refine h.keep (ht.block _ hc.lt h1 ?_) (ht.block _ hv.lt ?_ h2) fun b cs hh => ht.block b (Array.getElem?_eq_some_iff.1 hh).1 ?_ ?_
  · rintro rfl; exact absurd (cells_type hc hv') (by decide)
  · rintro rfl; exact absurd (cells_type hv hc') (by decide)
  · rintro rfl; exact absurd (cells_type hc' hh) (by decide)
  · rintro rfl; exact absurd (cells_type hv' hh) (by decide)
theorem StAt.now {w : World} {sB vB : Nat} {vs : List T} (h : StAt w sB vB vs) (hn : vs.length ≤ 1000000) : NowAt w sB (vs.getLast h.full) := by
  obtain ⟨cap, ps, hc, ho, ht⟩ := h.at_
  have hpos : 0 < vs.length := List.length_pos_iff.2 h.full
  have hl : ps.length = vs.length := by have := ho.1; simpa using this
  refine ⟨vB, vs.length - 1, cap, ps[vs.length - 1]?.getD none, ?_, by omega, ?_, ?_⟩
  · rw [show vs.length - 1 + 1 = vs.length by omega]; exact hc
  · have hx := ho.cells (g := vB) rfl (vs.length - 1) (.pointer (ps[vs.length - 1]?.getD none)) (by
      rw [List.getElem?_map, List.getElem?_eq_getElem (by omega)]; rfl)
    have ha : (⟨vB, 0, none⟩ : Addr).add (vs.length - 1) = ⟨vB, vs.length - 1, none⟩ := by unfold Addr.add; split <;> simp_all
    rw [ha] at hx
    exact hx
  · have := ht (vs.length - 1) (by omega)
    rw [List.getElem?_eq_getElem (l := vs) (by omega)] at this
    rw [List.getLast_eq_getElem]
    exact this
end Go.Proofs.Ytnnbdjfeagcbdaa
namespace Go.Proofs.Ytnnbdjfeagcbdaa
set_option linter.unusedSimpArgs false
set_option linter.unusedVariables false
open Go.RowKit Go.Shelf
section
variable {P : Program} {ops : Array Oper} {F : Fence} {n : Nat} {md : Region.Mode} {C : World → Prop}

theorem wpIn_of_quietF (hF : Free F P) {o : Oper} {a : Act} {K : Act → Prop} {K' : Act → World → Prop} {Q' : Exit → Act → World → Prop} {w : World} (hw : C w) (h : ∀ a w', C w' → K a → K' a w') (hh : o.quiet P a C K) : o.wpIn F n P a w K' Q' := by
  obtain ⟨v, h1, h2⟩ := hh
  have h3 := h1 w hw
  unfold Oper.quietAt at h3
  have hnd : ∀ c, o.op ≠ .defer c := by
    intro c hc
    unfold execOp at h3
    rw [hc] at h3
    simp only [Sem.run_bind] at h3
    cases hr : (resolve a.eval c o.type).run P w with
    | ok d w' => rw [hr] at h3; simp [Result.andThen, Sem.run, Oper.quietUpon] at h3
    | halt x w' => rw [hr] at h3; simp [Result.andThen, Oper.quietUpon] at h3
  refine ⟨fun f _ => hF.fn f, ?_⟩
  rw [semAt_of hnd]
  generalize (execOp a.eval o).run P w = r at *
  cases r with
  | ok nx w' =>
    cases nx <;> simp only [Oper.quietUpon] at h3 <;> simp only [Oper.uponIn]
    case value u =>
      obtain ⟨e1, e2⟩ := h3
      rw [e1, e2]
      exact h _ _ hw h2
    case skip =>
      obtain ⟨e1, e2⟩ := h3
      rw [e1, ← e2]
      exact h _ _ hw h2
    case enter f args =>
      obtain ⟨e1, hc⟩ := h3
      rw [e1]
      refine ⟨fun hd => (by rw [hF.depth] at hd; cases hd), hF.calls _ _ _ _ _ (hc.mono fun e w'' ⟨he, hw''⟩ => by subst he; exact h _ _ hw'' h2)⟩
  | halt x w' => simp only [Oper.quietUpon] at h3

theorem wpOpIn_of_qOp (hF : Free F P) {i : Nat} {a : Act} {K : Act → Prop} {K' : Act → World → Prop} {Q' : Exit → Act → World → Prop} {w : World} (hC : C w) (h : ∀ a w', C w' → K a → K' a w') (hh : qOp P ops C i K a) : wpOpIn F n P ops Q' i K' a w := by
  unfold qOp at hh
  unfold wpOpIn
  split
  · rename_i ho; simp only [ho] at hh; exact h _ _ hC hh
  · rename_i o ho
    simp only [ho] at hh
    split
    · rename_i hw; simp only [hw, if_true] at hh; exact wpIn_of_quietF hF hC h hh
    · rename_i hw; simp only [hw] at hh; exact ⟨fun f _ => hF.fn f, h _ _ hC hh⟩

theorem wpAnyIn_of_quietF (hF : Free F P) {Q : Act → Prop} {Q' : Exit → Act → World → Prop} (hQ : ∀ a w, C w → Q a → Q' .normal a w) : ∀ (fuel : Nat) (listed : Array Bool) (a : Act) (w : World), C w →
    wpAnyQ P md ops C Q fuel listed a → wpAnyIn F n P md ops Q' fuel listed a w
  | 0, _, _, _, hw, h => ⟨h.1, hQ _ _ hw h.2⟩
  | fuel + 1, _, _, _, hw, h => ⟨fun h0 => hQ _ _ hw (h.1 h0), fun i hi => wpOpIn_of_qOp hF hw (fun a' w' hw' => wpAnyIn_of_quietF hF hQ fuel _ a' w' hw') (h.2 i hi)⟩

/-- A region whose operations are quiet and written out. -/
theorem wpIn_region_quietF (hF : Free F P) {id : Nat} {Q : Exit → Act → World → Prop} {a : Act} {w : World} {l : List Oper} (hm : P.follows .mixedOrders = true) (hB : Region.lexB .any l.toArray = true)
    (h : wpQuiet P l.toArray (fun w' => ∃ n, w' = w.drewN n) (fun a' => ∀ w', (∃ n, w' = w.drewN n) → Q .normal a' w') l a) : (Code.region id l.toArray true).wpIn F n P Q a w := by
  simp only [Region.lexB, Bool.and_eq_true] at hB
  refine wpIn_region_any hm (wpAnyIn_of_quietF (C := fun w' => ∃ n, w' = w.drewN n) hF (Q := fun a' => ∀ w', (∃ n, w' = w.drewN n) → Q .normal a' w') (fun _ w' hw' h => h w' hw') _ _ _ _ ⟨1, rfl⟩ ?_)
  have := wpAnyQ_lex (C := fun w' => ∃ n, w' = w.drewN n) (md := .any) hB.1 l 0 (Array.replicate l.toArray.size false) a (by simp) (by simpa using hB.2) h
  simpa using this
end
end Go.Proofs.Ytnnbdjfeagcbdaa
namespace Go.Proofs.Ytnnbdjfeagcbdaa
set_option linter.unusedSimpArgs false
set_option linter.unusedVariables false
open Go.RowKit Go.Shelf
attribute [local go_sem] Oper.semAt_some

/-- A slice value that reads as pairs. -/
def PairsAt (w : World) (v : Value) (xs : List (Int × Int)) : Prop :=
  xs.length ≤ 1000000000 ∧ ((∃ a cap, v = .slice a 0 cap ∧ xs = []) ∨ ∃ b off cap, v = .slice (some ⟨b, off, none⟩) xs.length cap ∧ b < w.heap.size ∧
    ∀ k, k < xs.length → w.cell? ⟨b, off + k * 2, none⟩ = some (.int .i64 (xs[k]?.getD (0, 0)).1) ∧ w.cell? ⟨b, off + k * 2 + 1, none⟩ = some (.int .i64 (xs[k]?.getD (0, 0)).2))
theorem PairsAt.below {w w' : World} {v : Value} {xs : List (Int × Int)} (h : PairsAt w v xs) (hb : Below w.heap.size w w') : PairsAt w' v xs := by
  refine ⟨h.1, h.2.imp id ?_⟩
  rintro ⟨b, off, cap, hv, hlt, hc⟩
  exact ⟨b, off, cap, hv, Nat.lt_of_lt_of_le hlt hb.size, fun k hk => ⟨(hb.cell (p := ⟨b, off + k * 2, none⟩) hlt).trans (hc k hk).1, (hb.cell (p := ⟨b, off + k * 2 + 1, none⟩) hlt).trans (hc k hk).2⟩⟩

def okT (x : Int × Int) : Prop := 1 ≤ x.1 ∧ x.1 ≤ 1000000000 ∧ 0 ≤ x.2 ∧ x.2 ≤ 3000
instance (x : Int × Int) : Decidable (okT x) := by unfold okT; infer_instance
def sumT (l : List (Int × Int)) : Int := (l.map fun x => x.1 * x.2).sum
def gramsT (l : List (Int × Int)) : Int := (l.map fun x => x.1).sum
theorem sumT_take (l : List (Int × Int)) (k : Nat) (h : k < l.length) : sumT (l.take (k + 1)) = sumT (l.take k) + (l[k]?.getD (0, 0)).1 * (l[k]?.getD (0, 0)).2 := by
  rw [List.take_succ_eq_append_getElem h, List.getElem?_eq_getElem h]; simp only [sumT, List.map_append, List.sum_append, List.map_cons, List.map_nil, List.sum_cons, List.sum_nil, Option.getD_some, Int.add_zero]
theorem gramsT_take (l : List (Int × Int)) (k : Nat) (h : k < l.length) : gramsT (l.take (k + 1)) = gramsT (l.take k) + (l[k]?.getD (0, 0)).1 := by
  rw [List.take_succ_eq_append_getElem h, List.getElem?_eq_getElem h]; simp only [gramsT, List.map_append, List.sum_append, List.map_cons, List.map_nil, List.sum_cons, List.sum_nil, Option.getD_some, Int.add_zero]
theorem prod_le (x : Int × Int) (h : okT x) : 0 ≤ x.1 * x.2 ∧ x.1 * x.2 ≤ 3000000000000 := by
  obtain ⟨h1, h2, h3, h4⟩ := h
  refine ⟨Int.mul_nonneg (by omega) h3, ?_⟩
  calc x.1 * x.2 ≤ 1000000000 * 3000 := Int.mul_le_mul h2 h4 h3 (by omega)
    _ = _ := by decide
theorem sums_le (l : List (Int × Int)) (h : ∀ x ∈ l, okT x) : 0 ≤ sumT l ∧ sumT l ≤ 3000000000000 * l.length ∧ l.length ≤ gramsT l ∧ gramsT l ≤ 1000000000 * l.length := by
  induction l with
  | nil => simp [sumT, gramsT]
  | cons x l ih =>
    have := ih (fun y hy => h y (by simp [hy]))
    have hx := h x (by simp)
    have hp := prod_le x hx
    unfold okT at hx
    simp only [sumT, gramsT, List.map_cons, List.sum_cons, List.length_cons] at this ⊢
    omega
/-- The mean: rounded to the nearest, of two equally near the even one. -/
def meanT (s g : Int) : Int := if 2 * s.tmod g > g ∨ (2 * s.tmod g = g ∧ (s.tdiv g).tmod 2 = 1) then s.tdiv g + 1 else s.tdiv g
def alphaP (l : List (Int × Int)) : Int × Int :=
  if l.length > 4096 then (0, 2) else if l.length = 0 then (0, 1) else if (∀ x ∈ l, okT x) then (meanT (sumT l) (gramsT l), 0) else (0, 1)
theorem alphaP_bad (l : List (Int × Int)) (k : Nat) (hn : l.length ≤ 4096) (hk : k < l.length) (hb : ¬ okT (l[k]?.getD (0, 0))) : alphaP l = (0, 1) := by
  unfold alphaP
  rw [if_neg (by omega), if_neg (by omega), if_neg]
  intro h
  apply hb
  rw [List.getElem?_eq_getElem hk]
  exact h _ (List.getElem_mem hk)
theorem all_take_succ (l : List (Int × Int)) (k : Nat) (hk : k < l.length) (h : ∀ x ∈ l.take k, okT x) (hx : okT (l[k]?.getD (0, 0))) : ∀ x ∈ l.take (k + 1), okT x := by
  rw [List.take_succ_eq_append_getElem hk]
  intro x hm
  rcases List.mem_append.1 hm with hm | hm
  · exact h x hm
  · rw [List.getElem?_eq_getElem hk] at hx
    simp at hm; rw [hm]; exact hx

set_option maxRecDepth 100000 in
set_option maxHeartbeats 4000000 in
theorem alpha_calls (w : World) (v : Value) (xs : List (Int × Int)) (hv : PairsAt w v xs) :
    Calls Try.prog 35 #[v] w fun e w' => e = .returned (.tuple #[.int .i64 (alphaP xs).1, .int .i64 (alphaP xs).2]) ∧ Below w.heap.size w w' := by
  obtain ⟨hm, ⟨a, cap, rfl, rfl⟩ | ⟨b, off, cap, rfl, hlt, hc⟩⟩ := hv
  · go_enter Try.func35, Try.ntmps35
    go_wp2
    refine bodyPost_ret (v := .tuple #[.int .i64 0, .int .i64 1]) (by simp [results, Try.results35, go_sem]) rfl ⟨rfl, Below.refl _ _⟩
  · have HC := hid hc
    clear hc
    obtain ⟨len, hl⟩ : ∃ len, len = xs.length := ⟨_, rfl⟩
    rw [← hl] at hm ⊢
    have HL := hid hl
    clear hl
    by_cases hbig : 4096 < len
    · have e := hid (show alphaP xs = (0, 2) by unfold alphaP; rw [if_pos (by rw [← HL.out]; exact hbig)])
      go_enter Try.func35, Try.ntmps35
      go_wp2
      refine bodyPost_ret (v := .tuple #[.int .i64 0, .int .i64 2]) (by simp [results, Try.results35, go_sem]) rfl ⟨by rw [e.out], Below.refl _ _⟩
    · by_cases hz : len = 0
      · have e := hid (show alphaP xs = (0, 1) by unfold alphaP; rw [if_neg (by rw [← HL.out]; exact hbig), if_pos (by rw [← HL.out]; exact hz)])
        go_enter Try.func35, Try.ntmps35
        go_wp2
        refine bodyPost_ret (v := .tuple #[.int .i64 0, .int .i64 1]) (by simp [results, Try.results35, go_sem]) rfl ⟨by rw [e.out], Below.refl _ _⟩
      · go_enter Try.func35, Try.ntmps35
        go_wp2
        go_loopw [4, 5, 18] (fun s g i wr => ∃ k : Nat, k ≤ len ∧ i = .int .i64 k ∧ s = .int .i64 (sumT (xs.take k)) ∧ g = .int .i64 (gramsT (xs.take k)) ∧ (∀ x ∈ xs.take k, okT x) ∧ Below w.heap.size w wr) (fun _ _ i _ => len - (intOf i).toNat)
        case atStart => exact ⟨0, Nat.zero_le _, rfl, rfl, rfl, by simp, Below.refl _ _⟩
        case round =>
          obtain ⟨k, hk, rfl, rfl, rfl, hok, hb⟩ := hrel
          have HB := hid hb
          have HOK := hid hok
          clear hb hok
          have hln : (xs.take k).length = k := by rw [List.length_take, ← HL.out]; omega
          have sl := sums_le (xs.take k) HOK.out
          rw [hln] at sl
          by_cases hlk : k < len
          · have c0 : wr.cell? ⟨b, off + k * 2, none⟩ = some (.int .i64 (xs[k]?.getD (0, 0)).1) := (HB.out.cell (p := ⟨b, off + k * 2, none⟩) hlt).trans (HC.out k (by rw [← HL.out]; exact hlk)).1
            have c1 : wr.cell? ⟨b, off + k * 2 + 1, none⟩ = some (.int .i64 (xs[k]?.getD (0, 0)).2) := (HB.out.cell (p := ⟨b, off + k * 2 + 1, none⟩) hlt).trans (HC.out k (by rw [← HL.out]; exact hlk)).2
            have ST := hid (sumT_take xs k (by rw [← HL.out]; exact hlk))
            have GT := hid (gramsT_take xs k (by rw [← HL.out]; exact hlk))
            have BAD := hid (alphaP_bad xs k (by rw [← HL.out]; omega) (by rw [← HL.out]; exact hlk))
            have ALL := hid (all_take_succ xs k (by rw [← HL.out]; exact hlk) HOK.out)
            have SL := hid sl
            clear sl hln
            obtain ⟨x, hx⟩ : ∃ x, x = xs[k]?.getD (0, 0) := ⟨_, rfl⟩
            rw [← hx] at c0 c1 ST GT BAD ALL
            clear hx
            obtain ⟨g, a⟩ := x
            simp only at c0 c1 ST GT
            obtain ⟨S, hS⟩ : ∃ S, S = sumT (xs.take k) := ⟨_, rfl⟩
            obtain ⟨G, hG⟩ : ∃ G, G = gramsT (xs.take k) := ⟨_, rfl⟩
            rw [← hS] at ST SL ⊢
            rw [← hG] at GT SL ⊢
            clear hS hG
            have lw : wr.heap.size < wr.heap.size + 1 := by omega
            by_cases g1 : g < 1
            · have e := hid (BAD.out (by unfold okT; simp only; omega))
              go_wp2
              refine bodyPost_ret (v := .tuple #[.int .i64 0, .int .i64 1]) (by simp [results, Try.results35, go_sem]) rfl ⟨by rw [e.out], (by have hbb := HB.out.size; have h0 := HB.out; repeat (first | exact h0 | refine Below.setCell ?_ (by first | omega | (simp; omega)) _ | refine Below.alloc ?_ (by first | omega | (simp; omega)) _))⟩
            by_cases g2 : 1000000000 < g
            · have e := hid (BAD.out (by unfold okT; simp only; omega))
              go_wp2
              refine bodyPost_ret (v := .tuple #[.int .i64 0, .int .i64 1]) (by simp [results, Try.results35, go_sem]) rfl ⟨by rw [e.out], (by have hbb := HB.out.size; have h0 := HB.out; repeat (first | exact h0 | refine Below.setCell ?_ (by first | omega | (simp; omega)) _ | refine Below.alloc ?_ (by first | omega | (simp; omega)) _))⟩
            by_cases g3 : a < 0
            · have e := hid (BAD.out (by unfold okT; simp only; omega))
              go_wp2
              refine bodyPost_ret (v := .tuple #[.int .i64 0, .int .i64 1]) (by simp [results, Try.results35, go_sem]) rfl ⟨by rw [e.out], (by have hbb := HB.out.size; have h0 := HB.out; repeat (first | exact h0 | refine Below.setCell ?_ (by first | omega | (simp; omega)) _ | refine Below.alloc ?_ (by first | omega | (simp; omega)) _))⟩
            by_cases g4 : 3000 < a
            · have e := hid (BAD.out (by unfold okT; simp only; omega))
              go_wp2
              refine bodyPost_ret (v := .tuple #[.int .i64 0, .int .i64 1]) (by simp [results, Try.results35, go_sem]) rfl ⟨by rw [e.out], (by have hbb := HB.out.size; have h0 := HB.out; repeat (first | exact h0 | refine Below.setCell ?_ (by first | omega | (simp; omega)) _ | refine Below.alloc ?_ (by first | omega | (simp; omega)) _))⟩
            have pl := prod_le (g, a) ⟨by simp only; omega, by simp only; omega, by simp only; omega, by simp only; omega⟩
            simp only at pl
            have h4 := SL.out
            obtain ⟨m, hm'⟩ : ∃ m, m = g * a := ⟨_, rfl⟩
            have e1 : IntKind.i64.wrap (g * a) = g * a := by rw [← hm']; rw [← hm'] at pl; exact IntWalk.i64_in _ (by omega)
            have e2 : IntKind.i64.wrap (S + g * a) = S + g * a := by rw [← hm']; rw [← hm'] at pl; exact IntWalk.i64_in _ (by omega)
            have e3 : IntKind.i64.wrap (G + g) = G + g := IntWalk.i64_in _ (by omega)
            have e4 : IntKind.i64.wrap ((k : Int) + 1) = (k : Int) + 1 := IntWalk.i64_in _ (by omega)
            clear h4 pl hm'
            go_wp2
            go_roundw
            case rel => exact ⟨k + 1, by omega, by go_num, by rw [ST.out], by rw [GT.out], ALL.out ⟨by simp only; omega, by simp only; omega, by simp only; omega, by simp only; omega⟩, (by have hbb := HB.out.size; have h0 := HB.out; repeat (first | exact h0 | refine Below.setCell ?_ (by first | omega | (simp; omega)) _ | refine Below.alloc ?_ (by first | omega | (simp; omega)) _))⟩
            case measure => simp [intOf]; omega
          · have hkl : k = len := by omega
            subst hkl
            have hall : xs.take k = xs := List.take_of_length_le (by rw [← HL.out]; exact Nat.le_refl _)
            rw [hall] at sl
            have SL := hid sl
            have AL := hid (show ∀ x ∈ xs, okT x by have := HOK.out; rw [hall] at this; exact this)
            clear sl hln
            rw [hall]
            obtain ⟨S, hS⟩ : ∃ S, S = sumT xs := ⟨_, rfl⟩
            obtain ⟨G, hG⟩ : ∃ G, G = gramsT xs := ⟨_, rfl⟩
            have RES := hid (show alphaP xs = (meanT S G, 0) by
              unfold alphaP
              rw [if_neg (by rw [← HL.out]; exact hbig), if_neg (by rw [← HL.out]; exact hz), if_pos AL.out, hS, hG])
            rw [← hS] at SL ⊢
            rw [← hG] at SL ⊢
            clear hS hG hall
            have h4 := SL.out
            have hG0 : G ≠ 0 := by omega
            have hG1 : (G == 0) = false := by simp [hG0]
            have q1 : 0 ≤ S.tdiv G := Int.tdiv_nonneg h4.1 (by omega)
            have q2 : S.tdiv G ≤ S := Int.tdiv_le_self _ h4.1
            have r1 : 0 ≤ S.tmod G := Int.tmod_nonneg _ h4.1
            have r2 : S.tmod G < G := Int.tmod_lt_of_pos _ (by omega)
            have e1 : IntKind.i64.wrap (S.tdiv G) = S.tdiv G := IntWalk.i64_in _ (by omega)
            have e2 : IntKind.i64.wrap (S.tmod G) = S.tmod G := IntWalk.i64_in _ (by omega)
            have e3 : IntKind.i64.wrap (2 * S.tmod G) = 2 * S.tmod G := IntWalk.i64_in _ (by omega)
            have e4 : IntKind.i64.wrap (S.tdiv G + 1) = S.tdiv G + 1 := IntWalk.i64_in _ (by omega)
            clear h4
            go_wp2
            go_quiet (fail)
            have em : S.tmod G = S % G := Int.tmod_eq_emod_of_nonneg SL.out.1
            have em2 : (S.tdiv G).tmod 2 = S.tdiv G % 2 := Int.tmod_eq_emod_of_nonneg q1
            have MT := hid (show meanT S G = if 2 * (S % G) > G ∨ (2 * (S % G) = G ∧ S.tdiv G % 2 = 1) then S.tdiv G + 1 else S.tdiv G by rw [meanT, em, em2])
            rw [em] at r1 r2 e2 e3
            clear em em2
            by_cases c1 : G < 2 * (S % G)
            · have M := hid (MT.out.trans (if_pos (.inl c1)))
              go_wp2
              refine bodyPost_ret (v := .tuple #[.int .i64 (S.tdiv G + 1), .int .i64 0]) (by simp [results, Try.results35, go_sem]) rfl ⟨by rw [RES.out, M.out], (Below.trans HB.out ((below_drewN (Below.refl _ _) _).mono HB.out.size))⟩
            · by_cases c2 : 2 * (S % G) = G
              · have b2 : (2 * (S % G) == G) = true := by simp [c2]
                by_cases c3 : S.tdiv G % 2 = 1
                · have b3 : (S.tdiv G % 2 == 1) = true := by simp [c3]
                  have M := hid (MT.out.trans (if_pos (.inr ⟨c2, c3⟩)))
                  clear c2 c3
                  go_wp2
                  refine bodyPost_ret (v := .tuple #[.int .i64 (S.tdiv G + 1), .int .i64 0]) (by simp [results, Try.results35, go_sem]) rfl ⟨by rw [RES.out, M.out], (Below.trans HB.out ((below_drewN (Below.refl _ _) _).mono HB.out.size))⟩
                · have b3 : (S.tdiv G % 2 == 1) = false := by simp [c3]
                  have M := hid (MT.out.trans (if_neg (by rintro (h | h); exact c1 h; exact c3 h.2)))
                  clear c2 c3
                  go_wp2
                  refine bodyPost_ret (v := .tuple #[.int .i64 (S.tdiv G), .int .i64 0]) (by simp [results, Try.results35, go_sem]) rfl ⟨by rw [RES.out, M.out], (Below.trans HB.out ((below_drewN (Below.refl _ _) _).mono HB.out.size))⟩
              · have b2 : (2 * (S % G) == G) = false := by simp [c2]
                have M := hid (MT.out.trans (if_neg (by rintro (h | h); exact c1 h; exact c2 h.1)))
                clear c2
                go_wp2
                refine bodyPost_ret (v := .tuple #[.int .i64 (S.tdiv G), .int .i64 0]) (by simp [results, Try.results35, go_sem]) rfl ⟨by rw [RES.out, M.out], (Below.trans HB.out ((below_drewN (Below.refl _ _) _).mono HB.out.size))⟩
end Go.Proofs.Ytnnbdjfeagcbdaa
