/- BoardKeeps: the plain part, and the row of quantities. No function of the program in sight. -/
import Derived.Test.YtdjhpldiifdifaaAwk1
import Derived.Test.YtdjhpldiifdifaaOpen
namespace Go.Proofs.Ytdjhpldiifdifaa
set_option linter.unusedSimpArgs false
set_option linter.unusedVariables false
open Go.RowKit Go.Shelf Go.ChangeShapes Go.WideShapes

/-! ### what a number has -/
theorem sumL_none {n : Int} : ∀ {l : List En}, n ∉ numsL l → sumL n l = 0
  | [], _ => rfl
  | e :: l, h => by
    simp only [numsL, List.map_cons, List.mem_cons, not_or] at h
    rw [sumL, if_neg (fun e => h.1 e.symm), sumL_none (l := l) h.2]
    rfl
theorem sumL_one {e : En} : ∀ {l : List En}, (numsL l).Nodup → e ∈ l → sumL e.n l = e.l
  | [], _, h => by simp at h
  | a :: l, hn, h => by
    obtain ⟨h1, h2⟩ := List.nodup_cons.1 (show (a.n :: numsL l).Nodup from hn)
    rcases List.mem_cons.1 h with rfl | h
    · rw [sumL, if_pos rfl, sumL_none h1]; omega
    · have hne : ¬ a.n = e.n := fun he => h1 (by rw [he]; exact List.mem_map.2 ⟨e, h, rfl⟩)
      rw [sumL, if_neg hne, sumL_one h2 h]; omega
theorem live_ok {S : Bd} (hS : BdOk S) {e : En} (he : e ∈ S.live) : (1 ≤ e.n ∧ e.n ≤ S.nums) ∧ 0 ≤ e.l ∧ e.l ≤ 1000000000 := by
  unfold Bd.live at he
  rcases List.mem_append.1 he with he | he
  · have k := hS.buy.mem e he; have := okQ k.ok; have := k.l; exact ⟨k.n, by omega, by omega⟩
  · rcases List.mem_append.1 he with he | he
    · have k := hS.sell.mem e he; have := okQ k.ok; have := k.l; exact ⟨k.n, by omega, by omega⟩
    · have k := hS.wait e he; have := okQ k.ok; have := k.l; exact ⟨k.n, by omega, by omega⟩
theorem sumL_bd {S : Bd} (hS : BdOk S) (n : Int) : 0 ≤ sumL n S.live ∧ sumL n S.live ≤ 1000000000 := by
  by_cases h : n ∈ numsL S.live
  · obtain ⟨e, he, rfl⟩ := List.mem_map.1 h
    rw [sumL_one hS.once he]
    exact (live_ok hS he).2
  · rw [sumL_none h]; omega
theorem pigeon : ∀ (N : Nat) (l : List Int), l.Nodup → (∀ x ∈ l, 1 ≤ x ∧ x ≤ N) → l.length ≤ N
  | 0, l, _, h => by
    cases l with
    | nil => simp
    | cons a l => have := h a (by simp); omega
  | N + 1, l, hn, h => by
    have h1 : (l.filter fun x => decide (x ≠ (N : Int) + 1)).length ≤ N := pigeon N _ (hn.sublist List.filter_sublist) (fun x hx => by
      obtain ⟨hx1, hx2⟩ := List.mem_filter.1 hx
      have := h x hx1
      simp only [ne_eq, decide_not, Bool.not_eq_eq_eq_not, Bool.not_true, decide_eq_false_iff_not] at hx2
      omega)
    have h2 : l.length ≤ (l.filter fun x => decide (x ≠ (N : Int) + 1)).length + 1 := by
      clear h1 h
      induction l with
      | nil => simp
      | cons a l ih =>
        obtain ⟨g1, g2⟩ := List.nodup_cons.1 hn
        by_cases ha : a = (N : Int) + 1
        · have : l.filter (fun x => decide (x ≠ (N : Int) + 1)) = l := List.filter_eq_self.2 (fun x hx => by
            have : x ≠ (N : Int) + 1 := fun e => g1 (by rw [ha, ← e]; exact hx)
            simpa using this)
          rw [List.filter_cons, if_neg (by simp [ha]), this]
          simp
        · rw [List.filter_cons, if_pos (by simp [ha])]
          have := ih g2
          simp only [List.length_cons]
          omega
    omega
theorem live_few {S : Bd} (hS : BdOk S) {N : Nat} (hN : S.nums ≤ N) : S.live.length ≤ N := by
  have := pigeon N (numsL S.live) hS.once (fun x hx => by
    obtain ⟨e, he, rfl⟩ := List.mem_map.1 hx
    have := (live_ok hS he).1
    omega)
  simpa [numsL] using this
theorem sizeL_le {l : List En} (h : ∀ e ∈ l, e.l ≤ 1000000000) : sizeL l ≤ l.length * 1000000001 := by
  induction l with
  | nil => exact Nat.zero_le _
  | cons a l ih =>
    rw [sizeL_cons, List.length_cons]
    have := ih (fun e he => h e (List.mem_cons_of_mem _ he))
    have := h a (by simp)
    omega
theorem live_size {S : Bd} (hS : BdOk S) {N : Nat} (hN : S.nums ≤ N) (h40 : N ≤ 100) : sizeL S.live ≤ 1000000000000 := by
  have h1 := live_few hS hN
  have h2 := sizeL_le (l := S.live) (fun e he => (live_ok hS he).2.2)
  have h3 : S.live.length * 1000000001 ≤ 100 * 1000000001 := Nat.mul_le_mul_right _ (by omega)
  omega
theorem takesE_nonneg {nums : Int} {e : Ev} (h : EvOk nums e) (m : Int) : 0 ≤ takesE m e := by
  have := h.2.2.1
  unfold takesE
  split
  · split <;> split <;> omega
  · split
    · split <;> omega
    · omega
theorem takes_nonneg {nums : Int} (m : Int) : ∀ {l : List Ev}, (∀ e ∈ l, EvOk nums e) → 0 ≤ takes m l
  | [], _ => by simp [takes]
  | e :: l, h => by
    have h1 := takesE_nonneg (h e (by simp)) m
    have h2 := takes_nonneg m (l := l) (fun x hx => h x (List.mem_cons_of_mem _ hx))
    simp only [takes]; omega
theorem takes_split (m : Int) (l : List Ev) (k : Nat) : takes m (l.take k) + takes m (l.drop k) = takes m l := by
  rw [← takes_append, List.take_append_drop]
/-! ### the row of quantities -/
abbrev encI : Int → List Value := fun x => [.int .i64 x]
theorem flat_int (l : List Int) : flatE encI l = l.map (Value.int .i64) := by
  induction l with
  | nil => rfl
  | cons a l ih => rw [flatE_cons, ih]; rfl
theorem own_int {w : World} {b cap : Nat} {l : List Int} (h : OwnE encI 1 2 0 w (.slice (some ⟨b, 0, none⟩) l.length cap) l) : ∃ cur, Cells w b cur 2 ∧ l.length ≤ cap ∧ cap ≤ maxLen ∧ cur.size = cap ∧ cur.toList.take l.length = l.map (Value.int .i64) := by
  rcases h.2 with ⟨e, _⟩ | ⟨g, cp, cur, e, _, hg, h5, h6, h7, h8⟩
  · cases e
  · injection e with e1 e2 e3
    injection e1 with e1
    injection e1 with e1
    subst e1; subst e3
    rw [Nat.mul_one] at h7 h8
    exact ⟨cur, hg, h5, h6, h7, by rw [h8, flat_int]⟩
theorem own_int_set {w : World} {b cap : Nat} {l : List Int} (h : OwnE encI 1 2 0 w (.slice (some ⟨b, 0, none⟩) l.length cap) l) (k : Nat) (hk : k < l.length) (z : Int) : OwnE encI 1 2 0 (w.setCell ⟨b, k, none⟩ (.int .i64 z)) (.slice (some ⟨b, 0, none⟩) l.length cap) (l.set k z) := by
  obtain ⟨cur, g1, g2, g3, g4, g5⟩ := own_int h
  refine ⟨by simp [flat_int], .inr ⟨b, cap, _, by rw [List.length_set], Nat.zero_le _, g1.set k (.int .i64 z), by rw [List.length_set]; exact g2, g3, by rw [Array.size_setIfInBounds, Nat.mul_one]; exact g4, ?_⟩⟩
  rw [flat_int, Nat.mul_one, List.length_set]
  apply List.ext_getElem?
  intro j
  have hg : ∀ j, j < l.length → cur[j]? = (l[j]?).map (Value.int .i64) := fun j hj => by
    have := congrArg (fun l => l[j]?) g5
    simp only [List.getElem?_take, if_pos hj, Array.getElem?_toList, List.getElem?_map] at this
    exact this
  rw [List.getElem?_take, Array.getElem?_toList, List.getElem?_map]
  by_cases hj : j < l.length
  · rw [if_pos hj]
    by_cases e : j = k
    · subst e
      rw [Array.getElem?_setIfInBounds_self_of_lt (by omega), List.getElem?_set_self hj]
      rfl
    · rw [Array.getElem?_setIfInBounds_ne (by omega), List.getElem?_set_ne (by omega), hg j hj]
  · rw [if_neg hj, List.getElem?_eq_none (by rw [List.length_set]; omega)]
    rfl
theorem own_int_get {w : World} {b cap : Nat} {l : List Int} (h : OwnE encI 1 2 0 w (.slice (some ⟨b, 0, none⟩) l.length cap) l) (k : Nat) (hk : k < l.length) : w.cell? ⟨b, k, none⟩ = some (.int .i64 (l.getD k 0)) ∧ w.frozen? ⟨b, k, none⟩ = false ∧ b < w.heap.size := by
  obtain ⟨cur, g1, g2, g3, g4, g5⟩ := own_int h
  refine ⟨?_, g1.frozen k, g1.lt⟩
  rw [g1.cell]
  have := congrArg (fun l => l[k]?) g5
  simp only [List.getElem?_take, if_pos hk, Array.getElem?_toList, List.getElem?_map] at this
  rw [this, List.getElem?_eq_getElem hk, List.getD_eq_getElem?_getD, List.getElem?_eq_getElem hk]
  rfl
/-- One quantity is less. -/
def subQ (Q : List Int) (n q : Int) : List Int := Q.set n.toNat (Q.getD n.toNat 0 - q)
theorem subQ_len (Q : List Int) (n q : Int) : (subQ Q n q).length = Q.length := by simp [subQ]
theorem subQ_get {Q : List Int} {n q m : Int} (hn : 0 ≤ n) (hm : 0 ≤ m) (hml : m.toNat < Q.length) : (subQ Q n q).getD m.toNat 0 = Q.getD m.toNat 0 - (if n = m then q else 0) := by
  unfold subQ
  by_cases h : n = m
  · subst h
    rw [if_pos rfl, List.getD_eq_getElem?_getD, List.getElem?_set_self hml]
    rfl
  · rw [if_neg h, List.getD_eq_getElem?_getD, List.getElem?_set_ne (by omega), ← List.getD_eq_getElem?_getD]
    omega
/-- An event is booked. -/
def evQ (Q : List Int) (e : Ev) : List Int := if e.w = 1 then subQ (subQ Q e.o e.q) e.x e.q else if e.w = 3 ∨ e.w = 4 ∨ e.w = 5 ∨ e.w = 6 then subQ Q e.o e.q else Q
theorem evQ_len (Q : List Int) (e : Ev) : (evQ Q e).length = Q.length := by
  unfold evQ
  split
  · rw [subQ_len, subQ_len]
  · split
    · rw [subQ_len]
    · rfl
theorem evQ_get {Q : List Int} {nums : Int} {e : Ev} (he : EvOk nums e) {m : Int} (hm : 0 ≤ m) (hml : m.toNat < Q.length) : (evQ Q e).getD m.toNat 0 = Q.getD m.toNat 0 - takesE m e := by
  obtain ⟨h1, h2, h3, h4, h5⟩ := he
  unfold evQ takesE
  by_cases c1 : e.w = 1
  · rw [if_pos c1, if_pos c1, subQ_get (by omega) hm (by rw [subQ_len]; exact hml), subQ_get (by omega) hm hml]
    omega
  · rw [if_neg c1, if_neg c1]
    by_cases c2 : e.w = 3 ∨ e.w = 4 ∨ e.w = 5 ∨ e.w = 6
    · rw [if_pos c2, if_pos c2, subQ_get (by omega) hm hml]
    · rw [if_neg c2, if_neg c2]; omega
/-! ### the law's argument -/
structure Ac where
  k : Int
  o : Od
  n : Int
  m : Int
  p : Int
  q : Int
def encA (x : Ac) : List Value := [.int .i64 x.k, .int .i64 x.o.m, .int .i64 x.o.s, .int .i64 x.o.k, .int .i64 x.o.f, .int .i64 x.o.p, .int .i64 x.o.t, .int .i64 x.o.q, .int .i64 x.o.pk, .int .i64 x.n, .int .i64 x.m, .int .i64 x.p, .int .i64 x.q]
theorem encA_len (x : Ac) : (encA x).length = 13 := rfl
def AcOk (x : Ac) : Prop := x.o.q ≤ 9223372036854775807 ∧ (Lit.int .i64 x.n).wf = true
theorem act_leaves : leaves Try.prog 4 29 = some [.i64, .i64, .i64, .i64, .i64, .i64, .i64, .i64, .i64, .i64, .i64, .i64, .i64] := by kernel_rfl
theorem act_cells : Try.prog.cellsOf 29 = 13 := by kernel_rfl
theorem six_act {vs : List Value} (h : IntsK [.i64, .i64, .i64, .i64, .i64, .i64, .i64, .i64, .i64, .i64, .i64, .i64, .i64] vs) : ∃ x : Ac, AcOk x ∧ vs = encA x := by
  obtain ⟨a1, _, rfl, _, _, h⟩ := h.cons
  obtain ⟨a2, _, rfl, _, _, h⟩ := h.cons
  obtain ⟨a3, _, rfl, _, _, h⟩ := h.cons
  obtain ⟨a4, _, rfl, _, _, h⟩ := h.cons
  obtain ⟨a5, _, rfl, _, _, h⟩ := h.cons
  obtain ⟨a6, _, rfl, _, _, h⟩ := h.cons
  obtain ⟨a7, _, rfl, _, _, h⟩ := h.cons
  obtain ⟨a8, _, rfl, _, q2, h⟩ := h.cons
  obtain ⟨a9, _, rfl, _, _, h⟩ := h.cons
  obtain ⟨a10, _, rfl, n1, n2, h⟩ := h.cons
  obtain ⟨a11, _, rfl, _, _, h⟩ := h.cons
  obtain ⟨a12, _, rfl, _, _, h⟩ := h.cons
  obtain ⟨a13, _, rfl, _, _, h⟩ := h.cons
  obtain rfl := h.nil
  refine ⟨⟨a1, ⟨a2, a3, a4, a5, a6, a7, a8, a9⟩, a10, a11, a12, a13⟩, ⟨q2, WalkArith.wf_i64 ⟨n1, n2⟩⟩, rfl⟩
set_option maxRecDepth 100000 in
/-- The argument opened. -/
theorem acts_open {H : Type} {enc : TypeId × Value → H} {w : World} {base : Nat} {spare : Nat → Bool} {held : Bool} {r : Reach} {b0 : Nat} {v : Value} {d : DataW H} {p : List MemPlace}
    (hv : Value.okWide Try.prog w r b0 22 v) (h : DataW.Trod enc Try.prog w base spare held 22 v d p) : ∃ l : List Ac, ReadsE encA 13 w v l ∧ ∀ x ∈ l, AcOk x := by
  obtain ⟨rows, hk, hr⟩ := open_rows Try.underlying22 act_leaves act_cells (by decide) hv h
  obtain ⟨xs, rfl, hx⟩ := map_of_rows rows (fun r hr => six_act (hk r hr))
  exact ⟨xs, reads_map xs hr, hx⟩
end Go.Proofs.Ytdjhpldiifdifaa
