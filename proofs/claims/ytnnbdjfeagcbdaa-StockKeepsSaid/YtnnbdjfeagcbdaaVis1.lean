/- visit: the pieces of a span, in order, to a yield. -/
import Derived.Test.YtnnbdjfeagcbdaaReg
namespace Go.Proofs.Ytnnbdjfeagcbdaa
set_option linter.unusedSimpArgs false
set_option linter.unusedVariables false
open Go.RowKit Go.Shelf
attribute [local go_sem] Oper.semAt_some

/-- What a yield promises. -/
def YieldsPc (F : Fence) (l n₀ N : Nat) (J Jx : List Pc → World → Prop) : Prop :=
  ∀ (m : Nat) (pre : List Pc) (x : Pc) (W : World), x.Good → J pre W → pre.length < N → YieldAt F m Try.prog l #[x.val] W fun e W' =>
      (e = .returned (.bool true) ∧ J (pre ++ [x]) W' ∧ Below n₀ W W') ∨ (e = .returned (.bool false) ∧ Jx (pre ++ [x]) W')
def VisitOf (F : Fence) (l n₀ N : Nat) (J Jx : List Pc → World → Prop) (a b : Int) (t : T) : Prop :=
  ∀ (n : Nat) (p : Option Addr) (pre : List Pc) (W : World), Tn n₀ W p t → J pre W → pre.length + (visL t a b).length ≤ N →
      CallsIn F n Try.prog 103 #[.pointer p, .int .i64 a, .int .i64 b, .func (.yield l) #[] #[]] W fun e W' =>
        (e = .returned (.bool true) ∧ J (pre ++ visL t a b) W' ∧ Below n₀ W W') ∨ (e = .returned (.bool false) ∧ ∃ q, q <+: visL t a b ∧ Jx (pre ++ q) W')

/-- The answer of a round: yes, and it goes on; or no. -/
def YOut (n₀ : Nat) (J Jx : World → Prop) (W : World) (t : Bool) (W' : World) : Prop := (t = true ∧ J W' ∧ Below n₀ W W') ∨ (t = false ∧ Jx W')
theorem yOut {n₀ : Nat} {J Jx : World → Prop} {W : World} {e : Ending} {W' : World} (h : (e = .returned (.bool true) ∧ J W' ∧ Below n₀ W W') ∨ (e = .returned (.bool false) ∧ Jx W')) :
    ∃ t : Bool, e = .returned (.bool t) ∧ YOut n₀ J Jx W t W' := h.elim (fun h => ⟨true, h.1, .inl ⟨rfl, h.2⟩⟩) (fun h => ⟨false, h.1, .inr ⟨rfl, h.2⟩⟩)




set_option maxRecDepth 100000 in
set_option maxHeartbeats 8000000 in
theorem visit_a1 (F : Fence) (hF : Free F Try.prog) (hro : F.round = none) (l n₀ N : Nat) (J Jx : List Pc → World → Prop) (hY : YieldsPc F l n₀ N J Jx) (hJd : ∀ pre W, J pre W → J pre W.drew) (a b : Int)
    (tl tr : T) (tp : Pc) (th : Int) (hg : tp.Good) (hab : 1 ≤ a ∧ a ≤ b ∧ b ≤ 1000000) (h1 : a < tp.from_) (h2 : b < tp.from_) (ihl : VisitOf F l n₀ N J Jx a b tl) : VisitOf F l n₀ N J Jx a b (T.node tl tr tp th) := by
  intro n p pre W ht hJ hN
  have hg2 : tp.from_ ≤ tp.to := hg.2.1
  have ev : visL (T.node tl tr tp th) a b = visL tl a b := by
    rw [visL, if_pos (by omega), if_neg (by omega), if_pos (by omega)]
    (try simp)
  have EV := hid ev
  rw [ev] at hN
  (try simp only [List.length_append, List.length_cons, List.length_nil] at hN)
  obtain ⟨bx, pl, pr, rfl, hb, hk, hl, hr⟩ := ht
  obtain ⟨ltx, cx0, cx1, cx2, cx3, cx4, cx5, cx6, cx7, cx8⟩ := node_cells hk
  have hdd : ∀ k : Nat, (F.depth.isSome = true → 1 ≤ k) := fun k h => by rw [hF.depth] at h; cases h
  have HK := hid (fun (W2 : World) (h : Below n₀ W W2) => node_cells ((h.block bx hb).trans hk))
  have HL := hid hl
  have HR := hid hr
  have hf : F.fn 103 := hF.fn _
  have hmx : Try.prog.follows .mixedOrders = true := by kernel_rfl
  clear hk hg ev hl hr
  refine callsIn_of_wp Try.func103 rfl (hF.fn _) ?_ hro
  simp only [Try.ntmps103, List.size_toArray, List.length_cons, List.length_nil, Nat.reduceAdd, Nat.reduceSub, Array.replicate_succ, Array.replicate_zero, List.push_toArray, List.append_toArray, List.nil_append, List.cons_append]
  gi_wp2_with fail
  (try refine ⟨hdd _, ?_⟩)
  refine (ihl (n - 1) pl pre W HL.out hJ (by omega)).mono ?_
  rintro e W1 (⟨rfl, hJ1, hb1⟩ | ⟨rfl, q1, hq1, hx1⟩)
  · obtain ⟨_, d0, d1, d2, d3, d4, d5, d6, d7, d8⟩ := HK.out W1 hb1
    gi_wp2
    go_ret
    exact .inl ⟨by first | rfl | (simp; done) | (simp; omega), by rw [EV.out]; simpa [List.append_assoc] using hJ1, hb1⟩
  · gi_wp2
    go_ret
    exact .inr ⟨by first | rfl | (simp; done) | (simp; omega), q1, by rw [EV.out]; exact hq1.trans ⟨[], by simp⟩, by simpa [List.append_assoc] using hx1⟩

set_option maxRecDepth 100000 in
set_option maxHeartbeats 8000000 in
theorem visit_a2 (F : Fence) (hF : Free F Try.prog) (hro : F.round = none) (l n₀ N : Nat) (J Jx : List Pc → World → Prop) (hY : YieldsPc F l n₀ N J Jx) (hJd : ∀ pre W, J pre W → J pre W.drew) (a b : Int)
    (tl tr : T) (tp : Pc) (th : Int) (hg : tp.Good) (hab : 1 ≤ a ∧ a ≤ b ∧ b ≤ 1000000) (h1 : a < tp.from_) (h2 : tp.from_ ≤ b) (h3 : b ≤ tp.to) (ihl : VisitOf F l n₀ N J Jx a b tl) : VisitOf F l n₀ N J Jx a b (T.node tl tr tp th) := by
  intro n p pre W ht hJ hN
  have hcut : tp.cut a b = ⟨tp.from_, b, tp.cell⟩ := by simp only [Pc.cut]; congr 1 <;> omega
  have hgc : (⟨tp.from_, b, tp.cell⟩ : Pc).Good := by simp only [Pc.Good] at *; omega
  have hg2 : tp.from_ ≤ tp.to := hg.2.1
  have ev : visL (T.node tl tr tp th) a b = visL tl a b ++ [⟨tp.from_, b, tp.cell⟩] := by
    rw [← hcut, visL, if_pos (by omega), if_pos (by omega), if_pos (by omega)]
    (try simp)
  have EV := hid ev
  rw [ev] at hN
  (try simp only [List.length_append, List.length_cons, List.length_nil] at hN)
  obtain ⟨bx, pl, pr, rfl, hb, hk, hl, hr⟩ := ht
  obtain ⟨ltx, cx0, cx1, cx2, cx3, cx4, cx5, cx6, cx7, cx8⟩ := node_cells hk
  have hdd : ∀ k : Nat, (F.depth.isSome = true → 1 ≤ k) := fun k h => by rw [hF.depth] at h; cases h
  have HK := hid (fun (W2 : World) (h : Below n₀ W W2) => node_cells ((h.block bx hb).trans hk))
  have HL := hid hl
  have HR := hid hr
  have hf : F.fn 103 := hF.fn _
  have hmx : Try.prog.follows .mixedOrders = true := by kernel_rfl
  clear hk hg ev hl hr hcut
  refine callsIn_of_wp Try.func103 rfl (hF.fn _) ?_ hro
  simp only [Try.ntmps103, List.size_toArray, List.length_cons, List.length_nil, Nat.reduceAdd, Nat.reduceSub, Array.replicate_succ, Array.replicate_zero, List.push_toArray, List.append_toArray, List.nil_append, List.cons_append]
  gi_wp2_with fail
  (try refine ⟨hdd _, ?_⟩)
  refine (ihl (n - 1) pl pre W HL.out hJ (by omega)).mono ?_
  rintro e W1 (⟨rfl, hJ1, hb1⟩ | ⟨rfl, q1, hq1, hx1⟩)
  · obtain ⟨_, d0, d1, d2, d3, d4, d5, d6, d7, d8⟩ := HK.out W1 hb1
    obtain ⟨fn, tmps, assign, body, hy, hR⟩ := hY (n - 1) (pre ++ visL tl a b) ⟨tp.from_, b, tp.cell⟩ W1.drew hgc (hJd _ _ hJ1) (by simp; omega)
    simp only [Pc.val, Pc.vals] at hy
    gi_wp2
    refine wpIn_region_still_tail hF 24 hmx (by kernel_rfl) ?_
    simp only [List.take_succ_cons, List.take_zero, List.drop_succ_cons, List.drop_zero]
    repeat still_step
    refine wpStill_nil ?_
    gi_wp2_with fail
    (try refine ⟨hdd _, ?_⟩)
    refine hR.mono ?_
    rintro e W2 (⟨rfl, hJ2, hb2⟩ | ⟨rfl, hx2⟩)
    · have hb2' : Below n₀ W W2 := hb1.trans (undrew hb2)
      obtain ⟨_, f0, f1, f2, f3, f4, f5, f6, f7, f8⟩ := HK.out W2 hb2'
      gi_wp2
      go_ret
      exact .inl ⟨by first | rfl | (simp; done) | (simp; omega), by rw [EV.out]; simpa [List.append_assoc] using hJ2, hb2'⟩
    · gi_wp2
      go_ret
      exact .inr ⟨by first | rfl | (simp; done) | (simp; omega), visL tl a b ++ [⟨tp.from_, b, tp.cell⟩], by rw [EV.out]; exact ⟨[], by simp⟩, by simpa [List.append_assoc] using hx2⟩
  · gi_wp2
    go_ret
    exact .inr ⟨by first | rfl | (simp; done) | (simp; omega), q1, by rw [EV.out]; exact hq1.trans ⟨[⟨tp.from_, b, tp.cell⟩], by simp⟩, by simpa [List.append_assoc] using hx1⟩

set_option maxRecDepth 100000 in
set_option maxHeartbeats 8000000 in
theorem visit_a3 (F : Fence) (hF : Free F Try.prog) (hro : F.round = none) (l n₀ N : Nat) (J Jx : List Pc → World → Prop) (hY : YieldsPc F l n₀ N J Jx) (hJd : ∀ pre W, J pre W → J pre W.drew) (a b : Int)
    (tl tr : T) (tp : Pc) (th : Int) (hg : tp.Good) (hab : 1 ≤ a ∧ a ≤ b ∧ b ≤ 1000000) (h1 : a < tp.from_) (h2 : tp.from_ ≤ b) (h3 : tp.to < b) (ihl : VisitOf F l n₀ N J Jx a b tl) (ihr : VisitOf F l n₀ N J Jx a b tr) : VisitOf F l n₀ N J Jx a b (T.node tl tr tp th) := by
  intro n p pre W ht hJ hN
  have hcut : tp.cut a b = ⟨tp.from_, tp.to, tp.cell⟩ := by simp only [Pc.cut]; congr 1 <;> omega
  have hgc : (⟨tp.from_, tp.to, tp.cell⟩ : Pc).Good := by simp only [Pc.Good] at *; omega
  have hg2 : tp.from_ ≤ tp.to := hg.2.1
  have ev : visL (T.node tl tr tp th) a b = visL tl a b ++ [⟨tp.from_, tp.to, tp.cell⟩] ++ visL tr a b := by
    rw [← hcut, visL, if_pos (by omega), if_pos (by omega), if_neg (by omega)]
    (try simp)
  have EV := hid ev
  rw [ev] at hN
  (try simp only [List.length_append, List.length_cons, List.length_nil] at hN)
  obtain ⟨bx, pl, pr, rfl, hb, hk, hl, hr⟩ := ht
  obtain ⟨ltx, cx0, cx1, cx2, cx3, cx4, cx5, cx6, cx7, cx8⟩ := node_cells hk
  have hdd : ∀ k : Nat, (F.depth.isSome = true → 1 ≤ k) := fun k h => by rw [hF.depth] at h; cases h
  have HK := hid (fun (W2 : World) (h : Below n₀ W W2) => node_cells ((h.block bx hb).trans hk))
  have HL := hid hl
  have HR := hid hr
  have hf : F.fn 103 := hF.fn _
  have hmx : Try.prog.follows .mixedOrders = true := by kernel_rfl
  clear hk hg ev hl hr hcut
  refine callsIn_of_wp Try.func103 rfl (hF.fn _) ?_ hro
  simp only [Try.ntmps103, List.size_toArray, List.length_cons, List.length_nil, Nat.reduceAdd, Nat.reduceSub, Array.replicate_succ, Array.replicate_zero, List.push_toArray, List.append_toArray, List.nil_append, List.cons_append]
  gi_wp2_with fail
  (try refine ⟨hdd _, ?_⟩)
  refine (ihl (n - 1) pl pre W HL.out hJ (by omega)).mono ?_
  rintro e W1 (⟨rfl, hJ1, hb1⟩ | ⟨rfl, q1, hq1, hx1⟩)
  · obtain ⟨_, d0, d1, d2, d3, d4, d5, d6, d7, d8⟩ := HK.out W1 hb1
    obtain ⟨fn, tmps, assign, body, hy, hR⟩ := hY (n - 1) (pre ++ visL tl a b) ⟨tp.from_, tp.to, tp.cell⟩ W1.drew hgc (hJd _ _ hJ1) (by simp; omega)
    simp only [Pc.val, Pc.vals] at hy
    gi_wp2
    refine wpIn_region_still_tail hF 24 hmx (by kernel_rfl) ?_
    simp only [List.take_succ_cons, List.take_zero, List.drop_succ_cons, List.drop_zero]
    repeat still_step
    refine wpStill_nil ?_
    gi_wp2_with fail
    (try refine ⟨hdd _, ?_⟩)
    refine hR.mono ?_
    rintro e W2 (⟨rfl, hJ2, hb2⟩ | ⟨rfl, hx2⟩)
    · have hb2' : Below n₀ W W2 := hb1.trans (undrew hb2)
      obtain ⟨_, f0, f1, f2, f3, f4, f5, f6, f7, f8⟩ := HK.out W2 hb2'
      gi_wp2_with fail
      (try refine ⟨hdd _, ?_⟩)
      refine (ihr (n - 1) pr ((pre ++ visL tl a b) ++ [⟨tp.from_, tp.to, tp.cell⟩]) W2 (HR.out.below hb2') hJ2 (by (try simp); omega)).mono ?_
      rintro e W3 (⟨rfl, hJ3, hb3⟩ | ⟨rfl, q3, hq3, hx3⟩)
      · gi_wp2
        go_ret
        exact .inl ⟨by first | rfl | (simp; done) | (simp; omega), by rw [EV.out]; simpa [List.append_assoc] using hJ3, hb2'.trans hb3⟩
      · gi_wp2
        go_ret
        exact .inr ⟨by first | rfl | (simp; done) | (simp; omega), visL tl a b ++ [⟨tp.from_, tp.to, tp.cell⟩] ++ q3, by rw [EV.out]; obtain ⟨r3, hr3⟩ := hq3; exact ⟨r3, by simp [← hr3]⟩, by simpa [List.append_assoc] using hx3⟩
    · gi_wp2
      go_ret
      exact .inr ⟨by first | rfl | (simp; done) | (simp; omega), visL tl a b ++ [⟨tp.from_, tp.to, tp.cell⟩], by rw [EV.out]; exact ⟨visL tr a b, by simp⟩, by simpa [List.append_assoc] using hx2⟩
  · gi_wp2
    go_ret
    exact .inr ⟨by first | rfl | (simp; done) | (simp; omega), q1, by rw [EV.out]; exact hq1.trans ⟨[⟨tp.from_, tp.to, tp.cell⟩] ++ visL tr a b, by simp⟩, by simpa [List.append_assoc] using hx1⟩

set_option maxRecDepth 100000 in
set_option maxHeartbeats 8000000 in
theorem visit_b1a (F : Fence) (hF : Free F Try.prog) (hro : F.round = none) (l n₀ N : Nat) (J Jx : List Pc → World → Prop) (hY : YieldsPc F l n₀ N J Jx) (hJd : ∀ pre W, J pre W → J pre W.drew) (a b : Int)
    (tl tr : T) (tp : Pc) (th : Int) (hg : tp.Good) (hab : 1 ≤ a ∧ a ≤ b ∧ b ≤ 1000000) (h1 : tp.from_ ≤ a) (h2 : a ≤ tp.to) (h3 : b ≤ tp.to) : VisitOf F l n₀ N J Jx a b (T.node tl tr tp th) := by
  intro n p pre W ht hJ hN
  have hcut : tp.cut a b = ⟨a, b, tp.cell⟩ := by simp only [Pc.cut]; congr 1 <;> omega
  have hgc : (⟨a, b, tp.cell⟩ : Pc).Good := by simp only [Pc.Good] at *; omega
  have hg2 : tp.from_ ≤ tp.to := hg.2.1
  have ev : visL (T.node tl tr tp th) a b = [⟨a, b, tp.cell⟩] := by
    rw [← hcut, visL, if_neg (by omega), if_pos (by omega), if_pos (by omega)]
    (try simp)
  have EV := hid ev
  rw [ev] at hN
  (try simp only [List.length_append, List.length_cons, List.length_nil] at hN)
  obtain ⟨bx, pl, pr, rfl, hb, hk, hl, hr⟩ := ht
  obtain ⟨ltx, cx0, cx1, cx2, cx3, cx4, cx5, cx6, cx7, cx8⟩ := node_cells hk
  have hdd : ∀ k : Nat, (F.depth.isSome = true → 1 ≤ k) := fun k h => by rw [hF.depth] at h; cases h
  have HK := hid (fun (W2 : World) (h : Below n₀ W W2) => node_cells ((h.block bx hb).trans hk))
  have HL := hid hl
  have HR := hid hr
  have hf : F.fn 103 := hF.fn _
  have hmx : Try.prog.follows .mixedOrders = true := by kernel_rfl
  obtain ⟨fn, tmps, assign, body, hy, hR⟩ := hY (n - 1) pre ⟨a, b, tp.cell⟩ W.drew hgc (hJd _ _ hJ) (by omega)
  simp only [Pc.val, Pc.vals] at hy
  clear hk hg ev hl hr hcut
  refine callsIn_of_wp Try.func103 rfl (hF.fn _) ?_ hro
  simp only [Try.ntmps103, List.size_toArray, List.length_cons, List.length_nil, Nat.reduceAdd, Nat.reduceSub, Array.replicate_succ, Array.replicate_zero, List.push_toArray, List.append_toArray, List.nil_append, List.cons_append]
  gi_wp2
  refine wpIn_region_still_tail hF 24 hmx (by kernel_rfl) ?_
  simp only [List.take_succ_cons, List.take_zero, List.drop_succ_cons, List.drop_zero]
  repeat still_step
  refine wpStill_nil ?_
  gi_wp2_with fail
  (try refine ⟨hdd _, ?_⟩)
  refine hR.mono ?_
  rintro e W2 (⟨rfl, hJ2, hb2⟩ | ⟨rfl, hx2⟩)
  · have hb2' : Below n₀ W W2 := undrew hb2
    obtain ⟨_, f0, f1, f2, f3, f4, f5, f6, f7, f8⟩ := HK.out W2 hb2'
    gi_wp2
    go_ret
    exact .inl ⟨by first | rfl | (simp; done) | (simp; omega), by rw [EV.out]; simpa [List.append_assoc] using hJ2, hb2'⟩
  · gi_wp2
    go_ret
    exact .inr ⟨by first | rfl | (simp; done) | (simp; omega), [⟨a, b, tp.cell⟩], by rw [EV.out]; exact ⟨[], by simp⟩, by simpa [List.append_assoc] using hx2⟩

set_option maxRecDepth 100000 in
set_option maxHeartbeats 8000000 in
theorem visit_b1b (F : Fence) (hF : Free F Try.prog) (hro : F.round = none) (l n₀ N : Nat) (J Jx : List Pc → World → Prop) (hY : YieldsPc F l n₀ N J Jx) (hJd : ∀ pre W, J pre W → J pre W.drew) (a b : Int)
    (tl tr : T) (tp : Pc) (th : Int) (hg : tp.Good) (hab : 1 ≤ a ∧ a ≤ b ∧ b ≤ 1000000) (h1 : tp.from_ ≤ a) (h2 : a ≤ tp.to) (h3 : tp.to < b) (ihr : VisitOf F l n₀ N J Jx a b tr) : VisitOf F l n₀ N J Jx a b (T.node tl tr tp th) := by
  intro n p pre W ht hJ hN
  have hcut : tp.cut a b = ⟨a, tp.to, tp.cell⟩ := by simp only [Pc.cut]; congr 1 <;> omega
  have hgc : (⟨a, tp.to, tp.cell⟩ : Pc).Good := by simp only [Pc.Good] at *; omega
  have hg2 : tp.from_ ≤ tp.to := hg.2.1
  have ev : visL (T.node tl tr tp th) a b = [⟨a, tp.to, tp.cell⟩] ++ visL tr a b := by
    rw [← hcut, visL, if_neg (by omega), if_pos (by omega), if_neg (by omega)]
    (try simp)
  have EV := hid ev
  rw [ev] at hN
  (try simp only [List.length_append, List.length_cons, List.length_nil] at hN)
  obtain ⟨bx, pl, pr, rfl, hb, hk, hl, hr⟩ := ht
  obtain ⟨ltx, cx0, cx1, cx2, cx3, cx4, cx5, cx6, cx7, cx8⟩ := node_cells hk
  have hdd : ∀ k : Nat, (F.depth.isSome = true → 1 ≤ k) := fun k h => by rw [hF.depth] at h; cases h
  have HK := hid (fun (W2 : World) (h : Below n₀ W W2) => node_cells ((h.block bx hb).trans hk))
  have HL := hid hl
  have HR := hid hr
  have hf : F.fn 103 := hF.fn _
  have hmx : Try.prog.follows .mixedOrders = true := by kernel_rfl
  obtain ⟨fn, tmps, assign, body, hy, hR⟩ := hY (n - 1) pre ⟨a, tp.to, tp.cell⟩ W.drew hgc (hJd _ _ hJ) (by omega)
  simp only [Pc.val, Pc.vals] at hy
  clear hk hg ev hl hr hcut
  refine callsIn_of_wp Try.func103 rfl (hF.fn _) ?_ hro
  simp only [Try.ntmps103, List.size_toArray, List.length_cons, List.length_nil, Nat.reduceAdd, Nat.reduceSub, Array.replicate_succ, Array.replicate_zero, List.push_toArray, List.append_toArray, List.nil_append, List.cons_append]
  gi_wp2
  refine wpIn_region_still_tail hF 24 hmx (by kernel_rfl) ?_
  simp only [List.take_succ_cons, List.take_zero, List.drop_succ_cons, List.drop_zero]
  repeat still_step
  refine wpStill_nil ?_
  gi_wp2_with fail
  (try refine ⟨hdd _, ?_⟩)
  refine hR.mono ?_
  rintro e W2 (⟨rfl, hJ2, hb2⟩ | ⟨rfl, hx2⟩)
  · have hb2' : Below n₀ W W2 := undrew hb2
    obtain ⟨_, f0, f1, f2, f3, f4, f5, f6, f7, f8⟩ := HK.out W2 hb2'
    gi_wp2_with fail
    (try refine ⟨hdd _, ?_⟩)
    refine (ihr (n - 1) pr (pre ++ [⟨a, tp.to, tp.cell⟩]) W2 (HR.out.below hb2') hJ2 (by (try simp); omega)).mono ?_
    rintro e W3 (⟨rfl, hJ3, hb3⟩ | ⟨rfl, q3, hq3, hx3⟩)
    · gi_wp2
      go_ret
      exact .inl ⟨by first | rfl | (simp; done) | (simp; omega), by rw [EV.out]; simpa [List.append_assoc] using hJ3, hb2'.trans hb3⟩
    · gi_wp2
      go_ret
      exact .inr ⟨by first | rfl | (simp; done) | (simp; omega), [⟨a, tp.to, tp.cell⟩] ++ q3, by rw [EV.out]; obtain ⟨r3, hr3⟩ := hq3; exact ⟨r3, by simp [← hr3]⟩, by simpa [List.append_assoc] using hx3⟩
  · gi_wp2
    go_ret
    exact .inr ⟨by first | rfl | (simp; done) | (simp; omega), [⟨a, tp.to, tp.cell⟩], by rw [EV.out]; exact ⟨visL tr a b, by simp⟩, by simpa [List.append_assoc] using hx2⟩

set_option maxRecDepth 100000 in
set_option maxHeartbeats 8000000 in
theorem visit_b2 (F : Fence) (hF : Free F Try.prog) (hro : F.round = none) (l n₀ N : Nat) (J Jx : List Pc → World → Prop) (hY : YieldsPc F l n₀ N J Jx) (hJd : ∀ pre W, J pre W → J pre W.drew) (a b : Int)
    (tl tr : T) (tp : Pc) (th : Int) (hg : tp.Good) (hab : 1 ≤ a ∧ a ≤ b ∧ b ≤ 1000000) (h1 : tp.from_ ≤ a) (h2 : tp.to < a) (ihr : VisitOf F l n₀ N J Jx a b tr) : VisitOf F l n₀ N J Jx a b (T.node tl tr tp th) := by
  intro n p pre W ht hJ hN
  have hg2 : tp.from_ ≤ tp.to := hg.2.1
  have ev : visL (T.node tl tr tp th) a b = visL tr a b := by
    rw [visL, if_neg (by omega), if_neg (by omega), if_neg (by omega)]
    (try simp)
  have EV := hid ev
  rw [ev] at hN
  (try simp only [List.length_append, List.length_cons, List.length_nil] at hN)
  obtain ⟨bx, pl, pr, rfl, hb, hk, hl, hr⟩ := ht
  obtain ⟨ltx, cx0, cx1, cx2, cx3, cx4, cx5, cx6, cx7, cx8⟩ := node_cells hk
  have hdd : ∀ k : Nat, (F.depth.isSome = true → 1 ≤ k) := fun k h => by rw [hF.depth] at h; cases h
  have HK := hid (fun (W2 : World) (h : Below n₀ W W2) => node_cells ((h.block bx hb).trans hk))
  have HL := hid hl
  have HR := hid hr
  have hf : F.fn 103 := hF.fn _
  have hmx : Try.prog.follows .mixedOrders = true := by kernel_rfl
  clear hk hg ev hl hr
  refine callsIn_of_wp Try.func103 rfl (hF.fn _) ?_ hro
  simp only [Try.ntmps103, List.size_toArray, List.length_cons, List.length_nil, Nat.reduceAdd, Nat.reduceSub, Array.replicate_succ, Array.replicate_zero, List.push_toArray, List.append_toArray, List.nil_append, List.cons_append]
  gi_wp2_with fail
  (try refine ⟨hdd _, ?_⟩)
  refine (ihr (n - 1) pr pre W (HR.out.below (Below.refl _ _)) hJ (by (try simp); omega)).mono ?_
  rintro e W3 (⟨rfl, hJ3, hb3⟩ | ⟨rfl, q3, hq3, hx3⟩)
  · gi_wp2
    go_ret
    exact .inl ⟨by first | rfl | (simp; done) | (simp; omega), by rw [EV.out]; simpa [List.append_assoc] using hJ3, hb3⟩
  · gi_wp2
    go_ret
    exact .inr ⟨by first | rfl | (simp; done) | (simp; omega), q3, by rw [EV.out]; obtain ⟨r3, hr3⟩ := hq3; exact ⟨r3, by simp [← hr3]⟩, by simpa [List.append_assoc] using hx3⟩

set_option maxRecDepth 100000 in
set_option maxHeartbeats 1000000 in
theorem visit_nil (F : Fence) (hF : Free F Try.prog) (hro : F.round = none) (l n₀ N : Nat) (J Jx : List Pc → World → Prop) (a b : Int) : VisitOf F l n₀ N J Jx a b .nil := by
  intro n p pre W ht hJ hN
  obtain rfl : p = none := ht
  refine callsIn_of_wp Try.func103 rfl (hF.fn _) ?_ hro
  simp only [Try.ntmps103, List.size_toArray, List.length_cons, List.length_nil, Nat.reduceAdd, Nat.reduceSub, Array.replicate_succ, Array.replicate_zero, List.push_toArray, List.append_toArray, List.nil_append, List.cons_append]
  gi_wp2
  go_ret
  exact .inl ⟨rfl, by simpa [visL] using hJ, Below.refl _ _⟩

/-- **visit**. -/
theorem visit_in (F : Fence) (hF : Free F Try.prog) (hro : F.round = none) (l n₀ N : Nat) (J Jx : List Pc → World → Prop) (hY : YieldsPc F l n₀ N J Jx) (hJd : ∀ pre W, J pre W → J pre W.drew) (a b : Int)
    (hab : 1 ≤ a ∧ a ≤ b ∧ b ≤ 1000000) : ∀ t : T, t.Good → VisitOf F l n₀ N J Jx a b t
  | .nil, _ => visit_nil F hF hro l n₀ N J Jx a b
  | .node tl tr tp th, hg => by
    have ihl := visit_in F hF hro l n₀ N J Jx hY hJd a b hab tl hg.1
    have ihr := visit_in F hF hro l n₀ N J Jx hY hJd a b hab tr hg.2.1
    have hp := hg.2.2
    have hp2 := hp.2.1
    by_cases h1 : a < tp.from_
    · by_cases h2 : b < tp.from_
      · exact visit_a1 F hF hro l n₀ N J Jx hY hJd a b tl tr tp th hp hab h1 h2 ihl
      · by_cases h3 : b ≤ tp.to
        · exact visit_a2 F hF hro l n₀ N J Jx hY hJd a b tl tr tp th hp hab h1 (by omega) h3 ihl
        · exact visit_a3 F hF hro l n₀ N J Jx hY hJd a b tl tr tp th hp hab h1 (by omega) (by omega) ihl ihr
    · by_cases h2 : a ≤ tp.to
      · by_cases h3 : b ≤ tp.to
        · exact visit_b1a F hF hro l n₀ N J Jx hY hJd a b tl tr tp th hp hab (by omega) h2 h3
        · exact visit_b1b F hF hro l n₀ N J Jx hY hJd a b tl tr tp th hp hab (by omega) h2 (by omega) ihr
      · exact visit_b2 F hF hro l n₀ N J Jx hY hJd a b tl tr tp th hp hab (by omega) (by omega) ihr
end Go.Proofs.Ytnnbdjfeagcbdaa
