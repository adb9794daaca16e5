/- BoardKeeps: the plain part, and the row of quantities. No function of the program in sight. The reference's board in plain Lean: what is due, what goes, what is less, what waits. No program in sight. BoardCrossed in plain Lean: no buying price meets a selling price. No program in sight. BoardCrossed in plain Lean: an order comes in, and nothing crosses. No program in sight. BoardCrossed in plain Lean: the calls. No program in sight. BoardCrossed in plain Lean: the board without an entry that rests. No program in sight. -/
import Derived.Test.YtdjhpldiifdifaaJAwk
import Derived.Test.YtdjhpldiifdifaaJOpen
import Derived.Test.YtdjhpldiifdifaaJRb0
import Derived.Test.YtdjhpldiifdifaaJAmd0
namespace Go.Proofs.Ytdjhpldiifdifaa
set_option linter.unusedSimpArgs false
set_option linter.unusedVariables false
open Go.RowKit Go.Shelf Go.ChangeShapes Go.WideShapes

/-! ### what a number has -/
theorem sumL_none {n : Int} : ∀ {l : List En}, n ∉ numsL l → sumL n l = 0
  | [], _ => rfl
  | e :: l, h => by
    simp only [numsL, List.map_cons, List.mem_cons, not_or] at h
    rw [sumL, if_neg (fun e => h.1 e.symm), sumL_none (l := l) h.2]
    rfl
theorem sumL_one {e : En} : ∀ {l : List En}, (numsL l).Nodup → e ∈ l → sumL e.n l = e.l
  | [], _, h => by simp at h
  | a :: l, hn, h => by
    obtain ⟨h1, h2⟩ := List.nodup_cons.1 (show (a.n :: numsL l).Nodup from hn)
    rcases List.mem_cons.1 h with rfl | h
    · rw [sumL, if_pos rfl, sumL_none h1]; omega
    · have hne : ¬ a.n = e.n := fun he => h1 (by rw [he]; exact List.mem_map.2 ⟨e, h, rfl⟩)
      rw [sumL, if_neg hne, sumL_one h2 h]; omega
theorem live_ok {S : Bd} (hS : BdOk S) {e : En} (he : e ∈ S.live) : (1 ≤ e.n ∧ e.n ≤ S.nums) ∧ 0 ≤ e.l ∧ e.l ≤ 1000000000 := by
  unfold Bd.live at he
  rcases List.mem_append.1 he with he | he
  · have k := hS.buy.mem e he; have := okQ k.ok; have := k.l; exact ⟨k.n, by omega, by omega⟩
  · rcases List.mem_append.1 he with he | he
    · have k := hS.sell.mem e he; have := okQ k.ok; have := k.l; exact ⟨k.n, by omega, by omega⟩
    · have k := hS.wait e he; have := okQ k.ok; have := k.l; exact ⟨k.n, by omega, by omega⟩
theorem sumL_bd {S : Bd} (hS : BdOk S) (n : Int) : 0 ≤ sumL n S.live ∧ sumL n S.live ≤ 1000000000 := by
  by_cases h : n ∈ numsL S.live
  · obtain ⟨e, he, rfl⟩ := List.mem_map.1 h
    rw [sumL_one hS.once he]
    exact (live_ok hS he).2
  · rw [sumL_none h]; omega
theorem pigeon : ∀ (N : Nat) (l : List Int), l.Nodup → (∀ x ∈ l, 1 ≤ x ∧ x ≤ N) → l.length ≤ N
  | 0, l, _, h => by
    cases l with
    | nil => simp
    | cons a l => have := h a (by simp); omega
  | N + 1, l, hn, h => by
    have h1 : (l.filter fun x => decide (x ≠ (N : Int) + 1)).length ≤ N := pigeon N _ (hn.sublist List.filter_sublist) (fun x hx => by
      obtain ⟨hx1, hx2⟩ := List.mem_filter.1 hx
      have := h x hx1
      simp only [ne_eq, decide_not, Bool.not_eq_eq_eq_not, Bool.not_true, decide_eq_false_iff_not] at hx2
      omega)
    have h2 : l.length ≤ (l.filter fun x => decide (x ≠ (N : Int) + 1)).length + 1 := by
      clear h1 h
      induction l with
      | nil => simp
      | cons a l ih =>
        obtain ⟨g1, g2⟩ := List.nodup_cons.1 hn
        by_cases ha : a = (N : Int) + 1
        · have : l.filter (fun x => decide (x ≠ (N : Int) + 1)) = l := List.filter_eq_self.2 (fun x hx => by
            have : x ≠ (N : Int) + 1 := fun e => g1 (by rw [ha, ← e]; exact hx)
            simpa using this)
          rw [List.filter_cons, if_neg (by simp [ha]), this]
          simp
        · rw [List.filter_cons, if_pos (by simp [ha])]
          have := ih g2
          simp only [List.length_cons]
          omega
    omega
theorem live_few {S : Bd} (hS : BdOk S) {N : Nat} (hN : S.nums ≤ N) : S.live.length ≤ N := by
  have := pigeon N (numsL S.live) hS.once (fun x hx => by
    obtain ⟨e, he, rfl⟩ := List.mem_map.1 hx
    have := (live_ok hS he).1
    omega)
  simpa [numsL] using this
theorem sizeL_le {l : List En} (h : ∀ e ∈ l, e.l ≤ 1000000000) : sizeL l ≤ l.length * 1000000001 := by
  induction l with
  | nil => exact Nat.zero_le _
  | cons a l ih =>
    rw [sizeL_cons, List.length_cons]
    have := ih (fun e he => h e (List.mem_cons_of_mem _ he))
    have := h a (by simp)
    omega
theorem live_size {S : Bd} (hS : BdOk S) {N : Nat} (hN : S.nums ≤ N) (h40 : N ≤ 100) : sizeL S.live ≤ 1000000000000 := by
  have h1 := live_few hS hN
  have h2 := sizeL_le (l := S.live) (fun e he => (live_ok hS he).2.2)
  have h3 : S.live.length * 1000000001 ≤ 100 * 1000000001 := Nat.mul_le_mul_right _ (by omega)
  omega
theorem takesE_nonneg {nums : Int} {e : Ev} (h : EvOk nums e) (m : Int) : 0 ≤ takesE m e := by
  have := h.2.2.1
  unfold takesE
  split
  · split <;> split <;> omega
  · split
    · split <;> omega
    · omega
theorem takes_nonneg {nums : Int} (m : Int) : ∀ {l : List Ev}, (∀ e ∈ l, EvOk nums e) → 0 ≤ takes m l
  | [], _ => by simp [takes]
  | e :: l, h => by
    have h1 := takesE_nonneg (h e (by simp)) m
    have h2 := takes_nonneg m (l := l) (fun x hx => h x (List.mem_cons_of_mem _ hx))
    simp only [takes]; omega
theorem takes_split (m : Int) (l : List Ev) (k : Nat) : takes m (l.take k) + takes m (l.drop k) = takes m l := by
  rw [← takes_append, List.take_append_drop]
/-! ### the row of quantities -/
abbrev encI : Int → List Value := fun x => [.int .i64 x]
theorem flat_int (l : List Int) : flatE encI l = l.map (Value.int .i64) := by
  induction l with
  | nil => rfl
  | cons a l ih => rw [flatE_cons, ih]; rfl
theorem own_int {w : World} {b cap : Nat} {l : List Int} (h : OwnE encI 1 2 0 w (.slice (some ⟨b, 0, none⟩) l.length cap) l) : ∃ cur, Cells w b cur 2 ∧ l.length ≤ cap ∧ cap ≤ maxLen ∧ cur.size = cap ∧ cur.toList.take l.length = l.map (Value.int .i64) := by
  rcases h.2 with ⟨e, _⟩ | ⟨g, cp, cur, e, _, hg, h5, h6, h7, h8⟩
  · cases e
  · injection e with e1 e2 e3
    injection e1 with e1
    injection e1 with e1
    subst e1; subst e3
    rw [Nat.mul_one] at h7 h8
    exact ⟨cur, hg, h5, h6, h7, by rw [h8, flat_int]⟩
theorem own_int_set {w : World} {b cap : Nat} {l : List Int} (h : OwnE encI 1 2 0 w (.slice (some ⟨b, 0, none⟩) l.length cap) l) (k : Nat) (hk : k < l.length) (z : Int) : OwnE encI 1 2 0 (w.setCell ⟨b, k, none⟩ (.int .i64 z)) (.slice (some ⟨b, 0, none⟩) l.length cap) (l.set k z) := by
  obtain ⟨cur, g1, g2, g3, g4, g5⟩ := own_int h
  refine ⟨by simp [flat_int], .inr ⟨b, cap, _, by rw [List.length_set], Nat.zero_le _, g1.set k (.int .i64 z), by rw [List.length_set]; exact g2, g3, by rw [Array.size_setIfInBounds, Nat.mul_one]; exact g4, ?_⟩⟩
  rw [flat_int, Nat.mul_one, List.length_set]
  apply List.ext_getElem?
  intro j
  have hg : ∀ j, j < l.length → cur[j]? = (l[j]?).map (Value.int .i64) := fun j hj => by
    have := congrArg (fun l => l[j]?) g5
    simp only [List.getElem?_take, if_pos hj, Array.getElem?_toList, List.getElem?_map] at this
    exact this
  rw [List.getElem?_take, Array.getElem?_toList, List.getElem?_map]
  by_cases hj : j < l.length
  · rw [if_pos hj]
    by_cases e : j = k
    · subst e
      rw [Array.getElem?_setIfInBounds_self_of_lt (by omega), List.getElem?_set_self hj]
      rfl
    · rw [Array.getElem?_setIfInBounds_ne (by omega), List.getElem?_set_ne (by omega), hg j hj]
  · rw [if_neg hj, List.getElem?_eq_none (by rw [List.length_set]; omega)]
    rfl
theorem own_int_get {w : World} {b cap : Nat} {l : List Int} (h : OwnE encI 1 2 0 w (.slice (some ⟨b, 0, none⟩) l.length cap) l) (k : Nat) (hk : k < l.length) : w.cell? ⟨b, k, none⟩ = some (.int .i64 (l.getD k 0)) ∧ w.frozen? ⟨b, k, none⟩ = false ∧ b < w.heap.size := by
  obtain ⟨cur, g1, g2, g3, g4, g5⟩ := own_int h
  refine ⟨?_, g1.frozen k, g1.lt⟩
  rw [g1.cell]
  have := congrArg (fun l => l[k]?) g5
  simp only [List.getElem?_take, if_pos hk, Array.getElem?_toList, List.getElem?_map] at this
  rw [this, List.getElem?_eq_getElem hk, List.getD_eq_getElem?_getD, List.getElem?_eq_getElem hk]
  rfl
/-- One quantity is less. -/
def subQ (Q : List Int) (n q : Int) : List Int := Q.set n.toNat (Q.getD n.toNat 0 - q)
theorem subQ_len (Q : List Int) (n q : Int) : (subQ Q n q).length = Q.length := by simp [subQ]
theorem subQ_get {Q : List Int} {n q m : Int} (hn : 0 ≤ n) (hm : 0 ≤ m) (hml : m.toNat < Q.length) : (subQ Q n q).getD m.toNat 0 = Q.getD m.toNat 0 - (if n = m then q else 0) := by
  unfold subQ
  by_cases h : n = m
  · subst h
    rw [if_pos rfl, List.getD_eq_getElem?_getD, List.getElem?_set_self hml]
    rfl
  · rw [if_neg h, List.getD_eq_getElem?_getD, List.getElem?_set_ne (by omega), ← List.getD_eq_getElem?_getD]
    omega
/-- An event is booked. -/
def evQ (Q : List Int) (e : Ev) : List Int := if e.w = 1 then subQ (subQ Q e.o e.q) e.x e.q else if e.w = 3 ∨ e.w = 4 ∨ e.w = 5 ∨ e.w = 6 then subQ Q e.o e.q else Q
theorem evQ_len (Q : List Int) (e : Ev) : (evQ Q e).length = Q.length := by
  unfold evQ
  split
  · rw [subQ_len, subQ_len]
  · split
    · rw [subQ_len]
    · rfl
theorem evQ_get {Q : List Int} {nums : Int} {e : Ev} (he : EvOk nums e) {m : Int} (hm : 0 ≤ m) (hml : m.toNat < Q.length) : (evQ Q e).getD m.toNat 0 = Q.getD m.toNat 0 - takesE m e := by
  obtain ⟨h1, h2, h3, h4, h5⟩ := he
  unfold evQ takesE
  by_cases c1 : e.w = 1
  · rw [if_pos c1, if_pos c1, subQ_get (by omega) hm (by rw [subQ_len]; exact hml), subQ_get (by omega) hm hml]
    omega
  · rw [if_neg c1, if_neg c1]
    by_cases c2 : e.w = 3 ∨ e.w = 4 ∨ e.w = 5 ∨ e.w = 6
    · rw [if_pos c2, if_pos c2, subQ_get (by omega) hm hml]
    · rw [if_neg c2, if_neg c2]; omega
/-! ### the law's argument -/
structure Ac where
  k : Int
  o : Od
  n : Int
  m : Int
  p : Int
  q : Int
def encA (x : Ac) : List Value := [.int .i64 x.k, .int .i64 x.o.m, .int .i64 x.o.s, .int .i64 x.o.k, .int .i64 x.o.f, .int .i64 x.o.p, .int .i64 x.o.t, .int .i64 x.o.q, .int .i64 x.o.pk, .int .i64 x.n, .int .i64 x.m, .int .i64 x.p, .int .i64 x.q]
theorem encA_len (x : Ac) : (encA x).length = 13 := rfl
def AcOk (x : Ac) : Prop := x.o.q ≤ 9223372036854775807 ∧ (Lit.int .i64 x.n).wf = true
theorem act_leaves : leaves Try.prog 4 29 = some [.i64, .i64, .i64, .i64, .i64, .i64, .i64, .i64, .i64, .i64, .i64, .i64, .i64] := by kernel_rfl
theorem act_cells : Try.prog.cellsOf 29 = 13 := by kernel_rfl
theorem six_act {vs : List Value} (h : IntsK [.i64, .i64, .i64, .i64, .i64, .i64, .i64, .i64, .i64, .i64, .i64, .i64, .i64] vs) : ∃ x : Ac, AcOk x ∧ vs = encA x := by
  obtain ⟨a1, _, rfl, _, _, h⟩ := h.cons
  obtain ⟨a2, _, rfl, _, _, h⟩ := h.cons
  obtain ⟨a3, _, rfl, _, _, h⟩ := h.cons
  obtain ⟨a4, _, rfl, _, _, h⟩ := h.cons
  obtain ⟨a5, _, rfl, _, _, h⟩ := h.cons
  obtain ⟨a6, _, rfl, _, _, h⟩ := h.cons
  obtain ⟨a7, _, rfl, _, _, h⟩ := h.cons
  obtain ⟨a8, _, rfl, _, q2, h⟩ := h.cons
  obtain ⟨a9, _, rfl, _, _, h⟩ := h.cons
  obtain ⟨a10, _, rfl, n1, n2, h⟩ := h.cons
  obtain ⟨a11, _, rfl, _, _, h⟩ := h.cons
  obtain ⟨a12, _, rfl, _, _, h⟩ := h.cons
  obtain ⟨a13, _, rfl, _, _, h⟩ := h.cons
  obtain rfl := h.nil
  refine ⟨⟨a1, ⟨a2, a3, a4, a5, a6, a7, a8, a9⟩, a10, a11, a12, a13⟩, ⟨q2, WalkArith.wf_i64 ⟨n1, n2⟩⟩, rfl⟩
set_option maxRecDepth 100000 in
/-- The argument opened. -/
theorem acts_open {H : Type} {enc : TypeId × Value → H} {w : World} {base : Nat} {spare : Nat → Bool} {held : Bool} {r : Reach} {b0 : Nat} {v : Value} {d : DataW H} {p : List MemPlace}
    (hv : Value.okWide Try.prog w r b0 22 v) (h : DataW.Trod enc Try.prog w base spare held 22 v d p) : ∃ l : List Ac, ReadsE encA 13 w v l ∧ ∀ x ∈ l, AcOk x := by
  obtain ⟨rows, hk, hr⟩ := open_rows Try.underlying22 act_leaves act_cells (by decide) hv h
  obtain ⟨xs, rfl, hx⟩ := map_of_rows rows (fun r hr => six_act (hk r hr))
  exact ⟨xs, reads_map xs hr, hx⟩
end Go.Proofs.Ytdjhpldiifdifaa
namespace Go.Proofs.Ytdjhpldiifdifaa
set_option linter.unusedSimpArgs false
set_option linter.unusedVariables false

def dR (paid : Int) (x : Rn) : Bool := x.w && dueB paid x.en
def nR (x y : Rn) : Bool := decide (x.n < y.n)
theorem nR_wk : Wk nR := by
  refine ⟨fun x y z h1 h2 => ?_, fun x => ?_, fun x y h => ?_⟩ <;> unfold nR at * <;> simp only [decide_eq_true_eq, decide_eq_false_iff_not] at * <;> omega
def dueR (L : List Rn) (paid : Int) : Option Nat := bestI (dR paid) nR L L.length
theorem once_inj {L : List Rn} (h : (L.map Rn.n).Nodup) {i j : Nat} (hi : i < L.length) (hj : j < L.length) (e : L[i].n = L[j].n) : i = j :=
  (List.getElem_inj (h₀ := by simpa using hi) (h₁ := by simpa using hj) h).1 (by simpa using e)
theorem mem_once {L : List Rn} (h : (L.map Rn.n).Nodup) {a b : Rn} (ha : a ∈ L) (hb : b ∈ L) (e : a.n = b.n) : a = b := by
  obtain ⟨i, hi, rfl⟩ := List.getElem_of_mem ha
  obtain ⟨j, hj, rfl⟩ := List.getElem_of_mem hb
  have := once_inj h hi hj e
  subst this
  rfl
theorem erase_perm {L M : List Rn} {i : Nat} (hi : i < L.length) (h : L.Perm (L[i] :: M)) : (L.eraseIdx i).Perm M := ((idx_perm hi).trans h).cons_inv
theorem due_spec {S : Bd} {x : Rb} (h : Rel S x) (hS : BdOk S) :
    (S.wait.find? (dueB S.last) = none ∧ dueR x.L x.paid = none) ∨ ∃ (i : Nat) (hi : i < x.L.length), dueR x.L x.paid = some i ∧ x.L[i].w = true ∧ S.wait.find? (dueB S.last) = some x.L[i].en ∧
      Rel { S with wait := S.wait.eraseIdx (S.wait.findIdx (dueB S.last)) } ⟨x.L.eraseIdx i, x.nums, x.turn, x.paid⟩ := by
  have once := h.once hS
  obtain ⟨A, B, W, k⟩ := h
  have sp := bestI_spec (c := dR x.paid) nR_wk (L := x.L) x.L.length (Nat.le_refl _)
  have memW : ∀ (i : Nat) (hi : i < x.L.length), x.L[i].w = true → x.L[i] ∈ W := fun i hi hw => by
    rcases List.mem_append.1 (k.perm.mem_iff.1 (List.getElem_mem hi)) with h1 | h1
    · rw [(k.a.w _ h1).1] at hw; cases hw
    · rcases List.mem_append.1 h1 with h1 | h1
      · rw [(k.b.w _ h1).1] at hw; cases hw
      · exact h1
  cases hf : S.wait.find? (dueB S.last) with
  | none =>
    refine .inl ⟨rfl, ?_⟩
    rcases sp with ⟨h1, _⟩ | ⟨i, hi, _, _, h3, _⟩
    · exact h1
    · exfalso
      unfold dR at h3
      simp only [Bool.and_eq_true] at h3
      have := List.find?_eq_none.1 hf x.L[i].en (by rw [← k.w]; exact List.mem_map.2 ⟨_, memW i hi h3.1, rfl⟩)
      rw [← k.paid] at this
      exact this h3.2
  | some y =>
    right
    obtain ⟨pre, post, h1, h2, h3, h4⟩ := find_split hf
    have hpre : ∀ z ∈ pre, dueB S.last z = false := fun z hz => by
      obtain ⟨j, hj, rfl⟩ := List.getElem_of_mem hz
      have := List.not_of_lt_findIdx (p := dueB S.last) (xs := S.wait) (i := j) (by rw [h2]; exact hj)
      have e : S.wait[j]? = some pre[j] := by rw [h1, List.getElem?_append_left hj, List.getElem?_eq_getElem hj]
      obtain ⟨_, e⟩ := List.getElem?_eq_some_iff.1 e
      rw [e] at this
      exact this
    have hw := k.w
    rw [h1] at hw
    obtain ⟨W1, W', rfl, w1, w2⟩ := List.map_eq_append_iff.1 hw
    obtain ⟨r, W2, rfl, w3, w4⟩ := List.map_eq_cons_iff.1 w2
    have hr : r ∈ x.L := k.perm.mem_iff.2 (by simp)
    obtain ⟨j, hj, hjr⟩ := List.getElem_of_mem hr
    have hrw : r.w = true := k.ww r (by simp)
    have hrd : dR x.paid r = true := by
      unfold dR
      rw [hrw, w3, k.paid, h4]
      rfl
    rcases sp with ⟨_, g2⟩ | ⟨i, hi, g1, _, g3, g4⟩
    · have := g2 j hj hj
      rw [hjr, hrd] at this
      cases this
    · have hi3 := g3
      unfold dR at hi3
      simp only [Bool.and_eq_true] at hi3
      have hiW := memW i hi hi3.1
      have hmin := g4 j hj hj (by rw [hjr]; exact hrd)
      rw [hjr] at hmin
      unfold nR at hmin
      simp only [decide_eq_false_iff_not] at hmin
      have rise := hS.rise
      rw [h1] at rise
      obtain ⟨_, r2, _⟩ := List.pairwise_append.1 rise
      have r3 := (List.pairwise_cons.1 r2).1
      have hir : x.L[i] = r := by
        rcases List.mem_append.1 hiW with h5 | h5
        · have := hpre x.L[i].en (by rw [← w1]; exact List.mem_map.2 ⟨_, h5, rfl⟩)
          rw [← k.paid, hi3.2] at this
          cases this
        · rcases List.mem_cons.1 h5 with h5 | h5
          · exact h5
          · exfalso
            have := r3 x.L[i].en (by rw [← w4]; exact List.mem_map.2 ⟨_, h5, rfl⟩)
            rw [← w3] at this
            exact hmin this
      refine ⟨i, hi, g1, by rw [hir]; exact hrw, by rw [hir, w3], A, B, W1 ++ W2, k.nums, k.paid, k.turn, ?_, k.a, k.b, ?_, fun e he => k.ww e (by simp at he ⊢; rcases he with he | he <;> simp [he])⟩
      · refine erase_perm hi ?_
        rw [hir]
        refine k.perm.trans ?_
        have p1 : (W1 ++ r :: W2).Perm (r :: (W1 ++ W2)) := List.perm_middle
        exact (((p1.append_left B).trans List.perm_middle).append_left A).trans List.perm_middle
      · simp only
        rw [h3, List.map_append, w1, w4]
/-- Where a number is. -/
def findR (L : List Rn) (n : Int) : Option Nat := L.findIdx? fun x => decide (x.n = n)
theorem findR_spec {L : List Rn} (n : Int) : (findR L n = none ∧ ∀ x ∈ L, x.n ≠ n) ∨ ∃ (i : Nat) (hi : i < L.length), findR L n = some i ∧ L[i].n = n := by
  cases h : findR L n with
  | none =>
    refine .inl ⟨rfl, fun x hx e => ?_⟩
    have := List.findIdx?_eq_none_iff.1 h x hx
    rw [decide_eq_true e] at this
    cases this
  | some i =>
    obtain ⟨hi, h1, _⟩ := List.findIdx?_eq_some_iff_getElem.1 h
    exact .inr ⟨i, hi, rfl, by simpa using h1⟩
theorem takeH_all {e : En} : ∀ {h : Half} {side nums : Int}, HOk side nums h → (takeH e h).all = h.all.filter (fun y => decide (y.o.p ≠ e.o.p ∨ y.n ≠ e.n))
  | [], _, _, _ => rfl
  | (p, q) :: r, side, nums, hh => by
    have hq := fun y hy => (hh.head.2.1 y hy).2
    have hr : ∀ z ∈ Half.all r, z.o.p ≠ p := fun z hz e2 => by
      obtain ⟨x, hx, hzx⟩ := List.mem_flatMap.1 hz
      have h1 := hh.head.2.2 x hx
      rw [← hh.tail.price x hx z hzx, e2] at h1
      unfold better at h1
      by_cases hs : side = 1 <;> simp [hs] at h1
    rw [all_cons, List.filter_append]
    unfold takeH
    by_cases hp : p = e.o.p
    · rw [if_pos hp]
      have e1 : (q.filter fun y => decide (y.o.p ≠ e.o.p ∨ y.n ≠ e.n)) = q.filter fun y => decide (y.n ≠ e.n) := List.filter_congr fun y hy => by
        rw [hq y hy, hp]; simp
      have e2 : ((Half.all r).filter fun y => decide (y.o.p ≠ e.o.p ∨ y.n ≠ e.n)) = Half.all r := List.filter_eq_self.2 fun y hy => by
        have := hr y hy
        rw [hp] at this
        simp [this]
      rw [e1, e2]
      by_cases he : (q.filter fun y => decide (y.n ≠ e.n)).isEmpty = true
      · rw [if_pos he, List.isEmpty_iff.1 he]; rfl
      · rw [if_neg he]; rfl
    · rw [if_neg hp, all_cons, takeH_all hh.tail]
      have e1 : (q.filter fun y => decide (y.o.p ≠ e.o.p ∨ y.n ≠ e.n)) = q := List.filter_eq_self.2 fun y hy => by
        have h1 := hq y hy
        refine decide_eq_true (.inl ?_)
        rw [h1]; exact hp
      rw [e1]
/-- An entry goes. -/
theorem off_rel {S : Bd} {x : Rb} (h : Rel S x) (hS : BdOk S) {i : Nat} (hi : i < x.L.length) : Rel (S.off x.L[i].en x.L[i].w) ⟨x.L.eraseIdx i, x.nums, x.turn, x.paid⟩ := by
  have once := h.once hS
  obtain ⟨r, hr⟩ : ∃ r, r = x.L[i] := ⟨_, rfl⟩
  rw [← hr]
  have hrm : r ∈ x.L := by rw [hr]; exact List.getElem_mem hi
  have keep : ∀ y ∈ x.L, y ≠ r → y.n ≠ r.n := fun y hy hne e => hne (mem_once once hy hrm e)
  cases hw : r.w with
  | true =>
    obtain ⟨A, B, W, k⟩ := h
    have hrW : r ∈ W := by
      rcases List.mem_append.1 (k.perm.mem_iff.1 hrm) with h1 | h1
      · rw [(k.a.w _ h1).1] at hw; cases hw
      · rcases List.mem_append.1 h1 with h1 | h1
        · rw [(k.b.w _ h1).1] at hw; cases hw
        · exact h1
    obtain ⟨W1, W2, rfl⟩ := List.append_of_mem hrW
    have pm : x.L.Perm (r :: (A ++ (B ++ (W1 ++ W2)))) := by
      refine k.perm.trans ?_
      have p1 : (W1 ++ r :: W2).Perm (r :: (W1 ++ W2)) := List.perm_middle
      exact (((p1.append_left B).trans List.perm_middle).append_left A).trans List.perm_middle
    have nd : ∀ y ∈ W1 ++ W2, y.n ≠ r.n := by
      have h1 := (pm.map Rn.n).nodup_iff.1 once
      have h2 := (List.nodup_cons.1 h1).1
      exact fun y hy e => h2 (by rw [← e]; exact List.mem_map.2 ⟨y, by simp at hy ⊢; rcases hy with hy | hy <;> simp [hy], rfl⟩)
    refine ⟨A, B, W1 ++ W2, k.nums, k.paid, k.turn, erase_perm hi (by rw [← hr]; exact pm), k.a, k.b, ?_, fun e he => k.ww e (by simp at he ⊢; rcases he with he | he <;> simp [he])⟩
    show _ = S.wait.filter fun y => decide (y.n ≠ r.n)
    rw [← k.w, List.map_append, List.map_append, List.map_cons, List.filter_append, List.filter_cons, if_neg (by simp [Rn.en])]
    rw [List.filter_eq_self.2, List.filter_eq_self.2]
    · intro y hy
      obtain ⟨z, hz, rfl⟩ := List.mem_map.1 hy
      have := nd z (by simp [hz])
      exact decide_eq_true (show z.en.n ≠ r.n from this)
    · intro y hy
      obtain ⟨z, hz, rfl⟩ := List.mem_map.1 hy
      have := nd z (by simp [hz])
      exact decide_eq_true (show z.en.n ≠ r.n from this)
  | false =>
    have hs : r.o.s = 1 ∨ r.o.s = 2 := by
      have : r.en ∈ S.live := h.live.mem_iff.1 (List.mem_map.2 ⟨r, hrm, rfl⟩)
      unfold Bd.live at this
      rcases List.mem_append.1 this with h1 | h1
      · exact okS (hS.buy.mem _ h1).ok
      · rcases List.mem_append.1 h1 with h1 | h1
        · exact okS (hS.sell.mem _ h1).ok
        · exact okS (hS.wait _ h1).ok
    obtain ⟨A, B, W, k⟩ := h.side hs
    have hrA : r ∈ A := by
      rcases List.mem_append.1 (k.perm.mem_iff.1 hrm) with h1 | h1
      · exact h1
      · have := k.rest hs hS r h1
        unfold cR at this
        rw [hw] at this
        simp at this
    obtain ⟨A1, A2, rfl⟩ := List.append_of_mem hrA
    have pm : x.L.Perm (r :: ((A1 ++ A2) ++ (B ++ W))) := k.perm.trans (by
      have : (A1 ++ r :: A2).Perm (r :: (A1 ++ A2)) := List.perm_middle
      exact this.append_right (B ++ W))
    have nd : ∀ y ∈ A1 ++ A2, y.n ≠ r.n := by
      have h1 := (pm.map Rn.n).nodup_iff.1 once
      have h2 := (List.nodup_cons.1 h1).1
      exact fun y hy e => h2 (by rw [← e]; exact List.mem_map.2 ⟨y, by simp at hy ⊢; rcases hy with hy | hy <;> simp [hy], rfl⟩)
    have hp := put_half (S := S) hs (takeH r.en (S.half r.o.s))
    have eo : S.off r.en false = S.put r.o.s (takeH r.en (S.half r.o.s)) := by
      unfold Bd.off
      rw [if_neg (by decide)]
      rfl
    rw [eo]
    refine RelS.rel hs (A := A1 ++ A2) (B := B) (W := W) ⟨k.nums.trans hp.2.2.2.1.symm, k.paid.trans hp.2.2.2.2.1.symm, k.turn, erase_perm hi (by rw [← hr]; exact pm), ?_, by rw [hp.2.1]; exact k.b, k.w.trans hp.2.2.2.2.2.symm, k.ww⟩
    rw [hp.1]
    refine ⟨?_, fun e he => k.a.w e (by simp at he ⊢; rcases he with he | he <;> simp [he]), ?_⟩
    · rw [takeH_all (hS.half hs), ← k.a.en, List.map_append, List.map_append, List.map_cons, List.filter_append, List.filter_cons, if_neg (by simp [Rn.en])]
      rw [List.filter_eq_self.2, List.filter_eq_self.2]
      · intro y hy
        obtain ⟨z, hz, rfl⟩ := List.mem_map.1 hy
        have := nd z (by simp [hz])
        simp [Rn.en, this]
      · intro y hy
        obtain ⟨z, hz, rfl⟩ := List.mem_map.1 hy
        have := nd z (by simp [hz])
        simp [Rn.en, this]
    · obtain ⟨g1, g2, g3⟩ := List.pairwise_append.1 k.a.tn
      exact List.pairwise_append.2 ⟨g1, (List.pairwise_cons.1 g2).2, fun a ha b hb => g3 a ha b (List.mem_cons_of_mem _ hb)⟩
theorem updH_all (n q : Int) (h : Half) : (updH n q h).all = h.all.map fun e => if e.n = n then lessE e q else e := by
  induction h with
  | nil => rfl
  | cons x r ih =>
    show (x.2.map fun e => if e.n = n then lessE e q else e) ++ (updH n q r).all = (x.2 ++ Half.all r).map _
    rw [List.map_append, ih]
/-- An entry has less, where it rests. -/
theorem less_rel {S : Bd} {x : Rb} (h : Rel S x) (hS : BdOk S) {i : Nat} (hi : i < x.L.length) (hw : x.L[i].w = false) (q : Int) : Rel (S.put x.L[i].o.s (updH x.L[i].n q (S.half x.L[i].o.s))) ⟨x.L.set i { x.L[i] with l := q, h := min x.L[i].h q }, x.nums, x.turn, x.paid⟩ := by
  have once := h.once hS
  obtain ⟨r, hr⟩ : ∃ r, r = x.L[i] := ⟨_, rfl⟩
  rw [← hr] at hw ⊢
  have hrm : r ∈ x.L := by rw [hr]; exact List.getElem_mem hi
  have hs : r.o.s = 1 ∨ r.o.s = 2 := by
    have : r.en ∈ S.live := h.live.mem_iff.1 (List.mem_map.2 ⟨r, hrm, rfl⟩)
    unfold Bd.live at this
    rcases List.mem_append.1 this with h1 | h1
    · exact okS (hS.buy.mem _ h1).ok
    · rcases List.mem_append.1 h1 with h1 | h1
      · exact okS (hS.sell.mem _ h1).ok
      · exact okS (hS.wait _ h1).ok
  obtain ⟨A, B, W, k⟩ := h.side hs
  have hrA : r ∈ A := by
    rcases List.mem_append.1 (k.perm.mem_iff.1 hrm) with h1 | h1
    · exact h1
    · have := k.rest hs hS r h1
      unfold cR at this
      rw [hw] at this
      simp at this
  obtain ⟨A1, A2, rfl⟩ := List.append_of_mem hrA
  have pm : x.L.Perm (r :: ((A1 ++ A2) ++ (B ++ W))) := k.perm.trans (by
    have : (A1 ++ r :: A2).Perm (r :: (A1 ++ A2)) := List.perm_middle
    exact this.append_right (B ++ W))
  have nd : ∀ y ∈ A1 ++ A2, y.n ≠ r.n := by
    have h1 := (pm.map Rn.n).nodup_iff.1 once
    have h2 := (List.nodup_cons.1 h1).1
    exact fun y hy e => h2 (by rw [← e]; exact List.mem_map.2 ⟨y, by simp at hy ⊢; rcases hy with hy | hy <;> simp [hy], rfl⟩)
  have hp := put_half (S := S) hs (updH r.n q (S.half r.o.s))
  obtain ⟨z, hz⟩ : ∃ z : Rn, z = { r with l := q, h := min r.h q } := ⟨_, rfl⟩
  rw [← hz]
  refine RelS.rel hs (A := A1 ++ z :: A2) (B := B) (W := W) ⟨k.nums.trans hp.2.2.2.1.symm, k.paid.trans hp.2.2.2.2.1.symm, k.turn, ?_, ?_, by rw [hp.2.1]; exact k.b, k.w.trans hp.2.2.2.2.2.symm, k.ww⟩
  · have h1 := set_perm hi z (erase_perm hi (by rw [← hr]; exact pm))
    refine h1.trans ?_
    have : (A1 ++ z :: A2).Perm (z :: (A1 ++ A2)) := List.perm_middle
    exact (this.append_right (B ++ W)).symm
  · rw [hp.1]
    have zz : z.w = r.w ∧ z.t = r.t ∧ z.o = r.o := by rw [hz]; exact ⟨rfl, rfl, rfl⟩
    refine ⟨?_, fun e he => ?_, ?_⟩
    · rw [updH_all, ← k.a.en, List.map_append, List.map_append, List.map_append, List.map_cons, List.map_cons, List.map_cons]
      have hm : ∀ l : List Rn, (∀ y ∈ l, y.n ≠ r.n) → (l.map Rn.en).map (fun e => if e.n = r.n then lessE e q else e) = l.map Rn.en := fun l hl => by
        rw [List.map_map]
        refine List.map_congr_left fun y hy => ?_
        simp only [Function.comp]
        rw [if_neg (show ¬ y.en.n = r.n from hl y hy)]
      rw [hm A1 (fun y hy => nd y (by simp [hy])), hm A2 (fun y hy => nd y (by simp [hy])), if_pos (show r.en.n = r.n from rfl), hz]
      rfl
    · have : e = z ∨ e ∈ A1 ++ A2 := by simp at he ⊢; rcases he with he | he | he <;> simp [he]
      rcases this with rfl | he
      · rw [zz.1, zz.2.1]; exact k.a.w r (by simp)
      · exact k.a.w e (by simp at he ⊢; rcases he with he | he <;> simp [he])
    · obtain ⟨g1, g2, g3⟩ := List.pairwise_append.1 k.a.tn
      obtain ⟨g4, g5⟩ := List.pairwise_cons.1 g2
      refine List.pairwise_append.2 ⟨g1, List.pairwise_cons.2 ⟨fun b hb e => ?_, g5⟩, fun a ha b hb => ?_⟩
      · rw [zz.2.1]; rw [zz.2.2] at e; exact g4 b hb e
      · rcases List.mem_cons.1 hb with rfl | hb
        · intro e; rw [zz.2.1]; rw [zz.2.2] at e; exact g3 a ha r (by simp) e
        · exact g3 a ha b (List.mem_cons_of_mem _ hb)
/-- An order waits. -/
theorem wait_rel {S : Bd} {x : Rb} (h : Rel S x) (z : Rn) (hw : z.w = true) : Rel { S with nums := S.nums + 1, wait := S.wait ++ [z.en] } ⟨x.L ++ [z], x.nums + 1, x.turn, x.paid⟩ := by
  obtain ⟨A, B, W, k⟩ := h
  refine ⟨A, B, W ++ [z], by rw [k.nums], k.paid, k.turn, ?_, k.a, k.b, by rw [List.map_append, k.w]; rfl, fun e he => ?_⟩
  · have := k.perm.append_right [z]
    simpa using this
  · rcases List.mem_append.1 he with he | he
    · exact k.ww e he
    · rw [List.mem_singleton.1 he]; exact hw
theorem nums_rel {S : Bd} {x : Rb} (h : Rel S x) : Rel { S with nums := S.nums + 1 } ⟨x.L, x.nums + 1, x.turn, x.paid⟩ := by
  obtain ⟨A, B, W, k⟩ := h
  exact ⟨A, B, W, by rw [k.nums], k.paid, k.turn, k.perm, k.a, k.b, k.w, k.ww⟩
theorem rel_new : Rel ⟨[], [], [], 0, 0⟩ ⟨[], 0, 0, 0⟩ := ⟨[], [], [], rfl, rfl, Int.le_refl _, by simp, SideR.nil _, SideR.nil _, rfl, by simp⟩
end Go.Proofs.Ytdjhpldiifdifaa
namespace Go.Proofs.Ytdjhpldiifdifaa
set_option linter.unusedSimpArgs false
set_option linter.unusedVariables false

/-- No buying order meets a selling order. -/
def NoX (S : Bd) : Prop := ∀ a ∈ S.buy.all, ∀ c ∈ S.sell.all, a.o.p < c.o.p
/-- The same orders, or fewer. -/
def Fewer (l m : List En) : Prop := ∀ e ∈ l, ∃ d ∈ m, d.o = e.o
theorem Fewer.refl (l : List En) : Fewer l l := fun e he => ⟨e, he, rfl⟩
theorem Fewer.trans {l m k : List En} (h : Fewer l m) (g : Fewer m k) : Fewer l k := fun e he => by
  obtain ⟨d, hd, e1⟩ := h e he
  obtain ⟨c, hc, e2⟩ := g d hd
  exact ⟨c, hc, e2.trans e1⟩
theorem meet1_fewer {side nums xn : Int} {o : Od} {y : En} {s : Mt} (hs : MtOk side nums xn s) (hy : frontH s.h = some y) : Fewer (meet1 o xn side y s).h.all s.h.all := by
  rcases hs.ok.cases with ⟨h1, h2⟩ | ⟨p, y', q, r, hr, h2, hp, he⟩
  · rw [h2] at hy; cases hy
  · rw [h2] at hy
    cases hy
    obtain ⟨left, h, last, evs⟩ := s
    simp only at hr
    subst hr
    have hok := hs.ok
    obtain ⟨p1, p2⟩ := popH_ok hok
    have pop : Fewer (popH ((p, y :: q) :: r)).all (Half.all ((p, y :: q) :: r)) := fun e he => ⟨e, by rw [p2]; exact List.mem_cons_of_mem _ he, rfl⟩
    have hy : y ∈ Half.all ((p, y :: q) :: r) := by rw [p2]; exact List.mem_cons_self
    unfold meet1
    split
    · exact pop
    · simp only
      unfold tradeH
      split
      · intro e he
        have : e = { y with l := y.l - min left y.h, h := y.h - min left y.h } ∨ e ∈ q ++ Half.all r := by
          have h3 : (setH { y with l := y.l - min left y.h, h := y.h - min left y.h } ((p, y :: q) :: r)).all = ({ y with l := y.l - min left y.h, h := y.h - min left y.h } : En) :: (q ++ Half.all r) := rfl
          rw [h3] at he
          exact List.mem_cons.1 he
        rcases this with rfl | h
        · exact ⟨y, hy, rfl⟩
        · exact ⟨e, List.mem_cons_of_mem _ h, rfl⟩
      · split
        · exact pop
        · intro e he
          rcases List.mem_cons.1 ((addH_all side _ _).mem_iff.1 he) with rfl | h
          · exact ⟨y, hy, rfl⟩
          · exact pop e h
theorem meetF_end {side nums xn : Int} {o : Od} (hx : 1 ≤ xn ∧ xn ≤ nums) : ∀ (k : Nat) (s : Mt), MtOk side nums xn s → sizeH s.h ≤ k →
    Fewer (meetF o xn side k s).h.all s.h.all ∧ (¬ 0 < (meetF o xn side k s).left ∨ meetsH o (meetF o xn side k s).h = false)
  | 0, s, hs, hk => by
    refine ⟨Fewer.refl _, .inr ?_⟩
    show meetsH o s.h = false
    rcases hs.ok.cases with ⟨h1, h2⟩ | ⟨p, y, q, r, hr, _⟩
    · unfold meetsH; rw [h2]
    · rw [hr, sizeH_eq, all_cons] at hk
      simp only [List.cons_append, sizeL_cons] at hk
      omega
  | k + 1, s, hs, hk => by
    unfold meetF
    by_cases hl : 0 < s.left
    · rw [if_pos hl]
      cases hf : frontH s.h with
      | none => exact ⟨Fewer.refl _, .inr (by unfold meetsH; rw [hf])⟩
      | some y =>
        simp only
        by_cases hg : o.good y.o.p = true
        · rw [if_pos hg]
          obtain ⟨g1, g2, g3, g4, g5⟩ := meet1_ok (o := o) hs hx hl hf
          obtain ⟨k1, k2⟩ := meetF_end hx k (meet1 o xn side y s) g1 (by omega)
          exact ⟨k1.trans (meet1_fewer hs hf), k2⟩
        · rw [if_neg hg]
          exact ⟨Fewer.refl _, .inr (by unfold meetsH; rw [hf]; simpa using hg)⟩
    · rw [if_neg hl]; exact ⟨Fewer.refl _, .inl hl⟩
end Go.Proofs.Ytdjhpldiifdifaa
namespace Go.Proofs.Ytdjhpldiifdifaa
set_option linter.unusedSimpArgs false
set_option linter.unusedVariables false

theorem no_meet {side nums : Int} {h : Half} (hh : HOk side nums h) {o : Od} (ho : o.s = 3 - side) (hs : side = 1 ∨ side = 2) (hm : meetsH o h = false) : ∀ e ∈ h.all, o.good e.o.p = false := by
  rcases hh.cases with ⟨rfl, _⟩ | ⟨p, y, q, r, rfl, hf, _⟩
  · intro e he; cases he
  · unfold meetsH at hm
    rw [hf] at hm
    have h1 := hh.order
    have h2 : Half.all ((p, y :: q) :: r) = y :: (q ++ Half.all r) := rfl
    rw [h2] at h1 ⊢
    intro e he
    rcases List.mem_cons.1 he with rfl | he
    · exact hm
    · exact good_worse (o := o) (by omega) (by rw [show 3 - o.s = side by omega]; exact (List.pairwise_cons.1 h1).1 e he) hm
theorem NoX.fewer {S : Bd} (h : NoX S) {s : Int} (hs : s = 1 ∨ s = 2) {g : Half} (hg : Fewer g.all (S.half s).all) (l : Int) : NoX { S.put s g with last := l } := by
  rcases hs with rfl | rfl
  · intro a ha c hc
    obtain ⟨d, hd, e⟩ := hg a ha
    rw [← e]; exact h d hd c hc
  · intro a ha c hc
    obtain ⟨d, hd, e⟩ := hg c hc
    rw [← e]; exact h a ha d hd
theorem comeF_nox {S : Bd} (hS : BdOk S) (hX : NoX S) {n left : Int} {o : Od} (ho : o.ok = true) (hn : 1 ≤ n ∧ n ≤ S.nums) (hl : 1 ≤ left ∧ left ≤ 1000000000) {evs : List Ev} (hev : ∀ e ∈ evs, EvOk S.nums e) : NoX (comeF S n o left evs).1 := by
  have hs := okS ho
  have hso := other_side hs
  unfold comeF
  split
  · exact hX
  · split
    · exact hX
    · have hm0 : MtOk (3 - o.s) S.nums n ⟨left, S.half (3 - o.s), S.last, evs⟩ := ⟨by simp only; omega, hS.half hso, hS.last, hev⟩
      obtain ⟨f1, f2⟩ := meetF_end (o := o) hn (sizeH (S.half (3 - o.s))) _ hm0 (Nat.le_refl _)
      obtain ⟨g1, _⟩ := meetF_ok (o := o) hn (sizeH (S.half (3 - o.s))) _ hm0
      obtain ⟨r, hr⟩ : ∃ r, r = meetF o n (3 - o.s) (sizeH (S.half (3 - o.s))) ⟨left, S.half (3 - o.s), S.last, evs⟩ := ⟨_, rfl⟩
      rw [← hr] at f1 f2 g1 ⊢
      simp only at f1
      have h1 := hX.fewer hso f1 r.last
      simp only
      split
      · exact h1
      · rename_i hne
        split
        · rename_i hf
          have hk := okK ho hf
          have hlf := g1.left
          have hng := no_meet g1.ok (o := o) (by omega) hso (by rcases f2 with f2 | f2; exact absurd (by omega) f2; exact f2)
          have bad : ∀ e ∈ r.h.all, (if o.s = 1 then ¬ e.o.p ≤ o.p else ¬ o.p ≤ e.o.p) := fun e he => by
            have := hng e he
            unfold Od.good at this
            rw [if_neg (by omega)] at this
            split <;> rename_i h2
            · rw [if_pos h2] at this; simpa using this
            · rw [if_neg h2] at this; simpa using this
          rcases hs with e | e
          · rw [e] at h1 bad ⊢
            intro a ha c hc
            have hc' : c ∈ r.h.all := hc
            rcases List.mem_cons.1 ((addH_all 1 _ _).mem_iff.1 ha) with rfl | ha
            · have := bad c hc'; rw [if_pos rfl] at this; simp only; omega
            · exact h1 a ha c hc
          · rw [e] at h1 bad ⊢
            intro a ha c hc
            have ha' : a ∈ r.h.all := ha
            rcases List.mem_cons.1 ((addH_all 2 _ _).mem_iff.1 hc) with rfl | hc
            · have := bad a ha'; rw [if_neg (by decide)] at this; simp only; omega
            · exact h1 a ha c hc
        · exact h1
end Go.Proofs.Ytdjhpldiifdifaa
namespace Go.Proofs.Ytdjhpldiifdifaa
set_option linter.unusedSimpArgs false
set_option linter.unusedVariables false

theorem stopsF_nox : ∀ (k : Nat) {S : Bd} {evs : List Ev}, BdOk S → NoX S → (∀ e ∈ evs, EvOk S.nums e) → NoX (stopsF k S evs).1
  | 0, S, evs, _, hX, _ => hX
  | k + 1, S, evs, hS, hX, he => by
    unfold stopsF
    cases hf : S.wait.find? (dueB S.last) with
    | none => exact hX
    | some x =>
      obtain ⟨pre, post, hw, _, herase, _⟩ := find_split hf
      simp only
      rw [herase]
      obtain ⟨hS1, hperm⟩ := wait_off hS hw
      have hx : WOk S.nums x := hS.wait x (by rw [hw]; simp)
      have hq := okQ hx.ok
      have hnp := numsL_perm hperm
      have hnew : x.n ∉ numsL (Bd.live { S with wait := pre ++ post }) := (List.nodup_cons.1 (hnp.nodup_iff.1 hS.once)).1
      have hev : ∀ e ∈ evs ++ [⟨7, x.n, 0, 0, x.l⟩], EvOk S.nums e := fun e hm => by
        rcases List.mem_append.1 hm with hm | hm
        · exact he e hm
        · simp only [List.mem_cons, List.not_mem_nil, or_false] at hm
          subst hm
          have := hx.n; have := hx.l
          exact ⟨hx.n, ⟨by simp only; omega, by simp only; omega⟩, by simp only; omega, by simp only; omega, fun h => by simp at h⟩
      have C := comeF_ok (S := { S with wait := pre ++ post }) hS1 (n := x.n) (left := x.l) (o := x.o) hx.ok hx.n hnew (by have := hx.l; omega) (evs := evs ++ [⟨7, x.n, 0, 0, x.l⟩]) hev
      have X := comeF_nox (S := { S with wait := pre ++ post }) hS1 hX (n := x.n) (left := x.l) (o := x.o) hx.ok hx.n (by have := hx.l; omega) (evs := evs ++ [⟨7, x.n, 0, 0, x.l⟩]) hev
      exact stopsF_nox k C.ok X (by rw [C.nums]; exact C.evok)
theorem enterF_nox {S : Bd} (hS : BdOk S) (hX : NoX S) (hn : S.nums < 1000000) {o : Od} (ho : o.ok = true) : NoX (enterF S o).1 := by
  have hq := okQ ho
  have h0 := hS.nums
  unfold enterF
  by_cases ht : o.t = 0
  · rw [if_pos ht]
    have B := bd_nums hS hn
    have C := comeF_ok (S := { S with nums := S.nums + 1 }) B (n := S.nums + 1) (left := o.q) (o := o) ho ⟨by omega, by simp only; omega⟩ (bd_fresh hS) (by omega) (evs := []) (by simp)
    have X := comeF_nox (S := { S with nums := S.nums + 1 }) B hX (n := S.nums + 1) (left := o.q) (o := o) ho ⟨by omega, by simp only; omega⟩ (by omega) (evs := []) (by simp)
    exact stopsF_nox _ C.ok X (by rw [C.nums]; exact C.evok)
  · rw [if_neg ht]
    refine stopsF_nox _ (bd_wait hS hn ho ht).1 hX (fun e he => ?_)
    simp only [List.mem_cons, List.not_mem_nil, or_false] at he
    subst he
    exact ⟨⟨by simp only; omega, by simp only; omega⟩, ⟨by simp only; omega, by simp only; omega⟩, by simp only; omega, by simp only; omega, fun h => by simp at h⟩
theorem off_nox {S : Bd} (hS : BdOk S) (hX : NoX S) {e : En} (hs : e.o.s = 1 ∨ e.o.s = 2) (w : Bool) : NoX (S.off e w) := by
  unfold Bd.off
  split
  · exact hX
  · refine hX.fewer hs (g := takeH e (S.half e.o.s)) (fun d hd => ⟨d, ?_, rfl⟩) (S.put e.o.s (takeH e (S.half e.o.s))).last
    rw [takeH_all (hS.half hs)] at hd
    exact (List.mem_filter.1 hd).1
theorem upd_nox {S : Bd} (hX : NoX S) {s : Int} (hs : s = 1 ∨ s = 2) (n q : Int) : NoX (S.put s (updH n q (S.half s))) := by
  refine hX.fewer hs (g := updH n q (S.half s)) (fun d hd => ?_) (S.put s (updH n q (S.half s))).last
  rw [updH_all] at hd
  obtain ⟨e, he, rfl⟩ := List.mem_map.1 hd
  refine ⟨e, he, ?_⟩
  split <;> rfl
theorem amendF_nox {S : Bd} (hX : NoX S) {e : En} (hs : e.o.s = 1 ∨ e.o.s = 2) (hS : BdOk S) (hO : BdOk (S.off e false)) (hn : 1 ≤ e.n ∧ e.n ≤ (S.off e false).nums) (hf : e.n ∉ numsL (S.off e false).live) (hok : e.o.ok = true) {p q : Int} (hp : 1 ≤ p ∧ p ≤ 1000000) (hq : 1 ≤ q ∧ q ≤ 1000000000) : NoX (amendF S e p q).1 := by
  unfold amendF
  split
  · exact upd_nox hX hs _ _
  · have ho := amO_ok hok hp hq
    have C := comeF_ok hO ho hn hf (left := q) (by show 1 ≤ q ∧ q ≤ q; omega) (evs := []) (by simp)
    have X := comeF_nox hO (off_nox hS hX hs false) ho hn (left := q) hq (evs := []) (by simp)
    exact stopsF_nox _ C.ok X (by rw [C.nums]; exact C.evok)
end Go.Proofs.Ytdjhpldiifdifaa
namespace Go.Proofs.Ytdjhpldiifdifaa
set_option linter.unusedSimpArgs false
set_option linter.unusedVariables false

theorem off_plain {S : Bd} (hS : BdOk S) {e : En} (hs : e.o.s = 1 ∨ e.o.s = 2) (he : e ∈ (S.half e.o.s).all) : BdOk (S.off e false) ∧ e.n ∉ numsL (S.off e false).live ∧ e.o.ok = true ∧ (1 ≤ e.n ∧ e.n ≤ (S.off e false).nums) := by
  have hnd : (numsL (S.half e.o.s).all).Nodup := by
    have h1 := hS.once
    unfold Bd.live at h1
    rw [numsL_append, numsL_append] at h1
    obtain ⟨a1, a2, _⟩ := List.nodup_append.1 h1
    rcases hs with e | e <;> rw [e]
    · exact a1
    · exact (List.nodup_append.1 a2).1
  obtain ⟨t1, t2, _⟩ := takeH_ok (hS.half hs) hnd he
  have hsub : SubN (numsL (takeH e (S.half e.o.s)).all) (numsL (S.half e.o.s).all) := ⟨[e.n], (List.perm_append_comm).trans (numsL_perm t2).symm⟩
  have eo : S.off e false = S.put e.o.s (takeH e (S.half e.o.s)) := by
    unfold Bd.off
    rw [if_neg (by decide)]
  have hp := put_half (S := S) hs (takeH e (S.half e.o.s))
  have hnew : (numsL S.live).Perm (e.n :: numsL (S.put e.o.s (takeH e (S.half e.o.s))).live) := by
    have h1 := numsL_perm t2
    rcases hs with h | h
    · rw [h] at h1 ⊢
      simp only [Bd.put, Bd.half, Bd.live, if_true, numsL_append] at *
      exact h1.append_right _
    · rw [h] at h1 ⊢
      have h2 : ¬ (2 : Int) = 1 := by decide
      simp only [Bd.put, Bd.half, Bd.live, if_neg h2, numsL_append] at *
      exact ((h1.append_right _).append_left _).trans List.perm_middle
  have ek := (hS.half hs).mem e he
  refine ⟨by rw [eo]; exact put_ok hS hs t1 ((put_sub (S := S) hs hsub).nodup hS.once), ?_, ek.ok, ?_⟩
  · rw [eo]; exact (List.nodup_cons.1 (hnew.nodup_iff.1 hS.once)).1
  · rw [eo, hp.2.2.2.1]; exact ek.n
end Go.Proofs.Ytdjhpldiifdifaa
