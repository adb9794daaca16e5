/- What the acts of StockKeeps come to; the last version's holds, counts and pockets. -/
import Derived.Test.YtnnbdjfeagcbdaaRegi
import Derived.Test.YtnnbdjfeagcbdaaTame
import Derived.Test.YtnnbdjfeagcbdaaPocket
namespace Go.Proofs.Ytnnbdjfeagcbdaa
set_option linter.unusedSimpArgs false
set_option linter.unusedVariables false
open Go.RowKit Go.Shelf

/-- What an act came to: the error, or the next version with some pockets more. -/
def Acted (B : Nat) (W w : World) (sB vB : Nat) (n : Nat) (inn d : Int) (e : Ending) (w' : World) : Prop :=
  ∃ (r : Int) (us : List T) (uB : Nat) (u : T), e = .returned (.int .i64 r) ∧ Reg B W w' sB uB us ∧ us.getLast? = some u ∧ Kept u.toList ∧ Turned sB vB w w' ∧
    (r ≠ 0 → us.length = n ∧ sumP inC u.toList = inn) ∧ (r = 0 → us.length = n + 1 ∧ sumP inC u.toList = inn + d)
theorem Went.acted {B : Nat} {W w w' : World} {sB vB : Nat} {vs : List T} {t : T} {r a c d : Int} {g : Cl → Cl} {e : Ending} (h : Went B W w sB vB vs t r a c g e w') (ht : vs.getLast? = some t) (hk : Kept t.toList) (hac : 1 ≤ a ∧ 1 ≤ c ∧ a + c - 1 ≤ 74)
    (hg : ∀ d, (g d).state = 1 → (d.state = 1 ∧ (g d).owner = d.owner) ∨ 1 ≤ (g d).owner ∧ (g d).owner ≤ 4) (hs : r = 0 → sumP inC (changedP t.toList a c g) = sumP inC t.toList + d) : Acted B W w sB vB vs.length (sumP inC t.toList) d e w' := by
  obtain ⟨he, us, uB, rg, tu, h1, h2⟩ := h
  by_cases hr : r = 0
  · obtain ⟨_, t', rfl, hl⟩ := h2 hr
    refine ⟨r, _, uB, t', he, rg, by simp, ?_, tu, fun e => absurd hr e, fun _ => ⟨by simp, ?_⟩⟩
    · rw [hl]; exact hk.changed a c g hac hg
    · rw [hl]; exact hs hr
  · obtain ⟨rfl, rfl⟩ := h1 hr
    exact ⟨r, _, _, t, he, rg, ht, hk, tu, fun _ => ⟨rfl, rfl⟩, fun e => absurd e hr⟩
section
variable {B : Nat} {W w : World} {sB vB : Nat} {vs : List T} {t : T} (h : Reg B W w sB vB vs) (hB : B ≤ w.heap.size) (hn : vs.length ≤ 1000) (ht : vs.getLast? = some t) (hk : Kept t.toList) (a c : Int) (hac : 1 ≤ a ∧ 1 ≤ c ∧ a + c - 1 ≤ 74)
include h hB hn ht hk hac
theorem enter_acted (lot o : Int) (ho : 1 ≤ o ∧ o ≤ 4) : Calls Try.prog 20 #[.pointer (some ⟨sB, 0, none⟩), .agg #[.int .i64 a, .int .i64 c], .int .i64 lot, .int .i64 o] w (Acted B W w sB vB vs.length (sumP inC t.toList) c) := by
  have hm := List.mem_of_getLast? ht
  exact (enter_reg h hB hn ht a c lot o).mono fun e w' hW => hW.acted ht hk hac (fun d _ => .inr (by simpa [enterG] using ho)) fun hr => by
    have hz := enterR_zero hr
    exact sumP_enter hk hz.1 (by rw [← visL_eq _ _ t (h.fine t hm).sorted]; exact hz.2)
theorem move_acted (o to : Int) (ho : 1 ≤ to ∧ to ≤ 4) : Calls Try.prog 21 #[.pointer (some ⟨sB, 0, none⟩), .agg #[.int .i64 a, .int .i64 c], .int .i64 o, .int .i64 to] w (Acted B W w sB vB vs.length (sumP inC t.toList) 0) :=
  (move_reg h hB hn ht a c o to).mono fun e w' hW => hW.acted ht hk hac (fun d _ => .inr (by simpa [moveG] using ho)) fun _ => by rw [sumP_same a c (moveG to) (fun d => rfl)]; omega
theorem pledge_acted (o to : Int) : Calls Try.prog 22 #[.pointer (some ⟨sB, 0, none⟩), .agg #[.int .i64 a, .int .i64 c], .int .i64 o, .int .i64 to] w (Acted B W w sB vB vs.length (sumP inC t.toList) 0) :=
  (pledge_reg h hB hn ht a c o to).mono fun e w' hW => hW.acted ht hk hac (fun d hd => .inl ⟨hd, rfl⟩) fun _ => by rw [sumP_same a c (pledgeG to) (fun d => rfl)]; omega
theorem release_acted (o : Int) : Calls Try.prog 23 #[.pointer (some ⟨sB, 0, none⟩), .agg #[.int .i64 a, .int .i64 c], .int .i64 o] w (Acted B W w sB vB vs.length (sumP inC t.toList) 0) :=
  (release_reg h hB hn ht a c o).mono fun e w' hW => hW.acted ht hk hac (fun d hd => .inl ⟨hd, rfl⟩) fun _ => by rw [sumP_same a c releaseG (fun d => rfl)]; omega
theorem seize_acted (o : Int) (ho : 1 ≤ o ∧ o ≤ 4) : Calls Try.prog 24 #[.pointer (some ⟨sB, 0, none⟩), .agg #[.int .i64 a, .int .i64 c], .int .i64 o] w (Acted B W w sB vB vs.length (sumP inC t.toList) 0) :=
  (seize_reg h hB hn ht a c o).mono fun e w' hW => hW.acted ht hk hac (fun d _ => .inr (by simpa [seizeG] using ho)) fun _ => by rw [sumP_same a c (seizeG o) (fun d => rfl)]; omega
theorem leave_acted (o : Int) : Calls Try.prog 25 #[.pointer (some ⟨sB, 0, none⟩), .agg #[.int .i64 a, .int .i64 c], .int .i64 o] w (Acted B W w sB vB vs.length (sumP inC t.toList) (-c)) := by
  have hm := List.mem_of_getLast? ht
  exact (leave_reg h hB hn ht a c o).mono fun e w' hW => hW.acted ht hk hac (fun d hd => by simp [leaveG] at hd) fun hr => by
    have hz := leaveR_zero hr
    rw [sumP_leave hk hz.1 (by rw [← visL_eq _ _ t (h.fine t hm).sorted]; exact hz.2)]; omega
end

/-! ### Questions about the last version -/
theorem last_get {vs : List T} {t : T} (ht : vs.getLast? = some t) : vs[((vs.length : Int) - 1).toNat]?.getD .nil = t := by
  have : ((vs.length : Int) - 1).toNat = vs.length - 1 := by omega
  rw [this, ← List.getLast?_eq_getElem?, ht]; rfl
theorem last_atE {vs : List T} (hne : vs ≠ []) (ok : Bool) (hok : ok = true) : atE vs.length ((vs.length : Int) - 1) ok = 0 := by
  have := List.length_pos_iff.2 hne
  unfold atE
  rw [if_neg (by omega), if_pos hok]
theorem inB_of {m x : Int} (h : 1 ≤ x ∧ x ≤ m) : inB m x = true := by simp only [inB, Bool.and_eq_true, decide_eq_true_eq]; exact h
section
variable {B : Nat} {W w : World} {sB vB : Nat} {vs : List T} {t : T} (h : Reg B W w sB vB vs) (hn : vs.length ≤ 1000) (ht : vs.getLast? = some t)
include h hn ht
theorem holds_last (o : Int) (ho : 1 ≤ o ∧ o ≤ 1000) : Calls Try.prog 26 #[.pointer (some ⟨sB, 0, none⟩), .int .i64 o, .int .i64 ((vs.length : Int) - 1)] w
    fun e w' => ∃ u, e = .returned (.tuple #[u, .int .i64 0]) ∧ OwnE encH 5 50 w.heap.size w' u (t.toList.filter fun p => ownB o p.cell) ∧ Below w.heap.size w w' := by
  have hm := List.mem_of_getLast? ht
  refine (Holds_calls w sB vB vs h.st hn h.fine o ((vs.length : Int) - 1)).mono ?_
  rintro e w' ⟨u, he, ho', hb⟩
  rw [last_atE h.st.full _ (inB_of ho)] at he ho'
  rw [askL, if_pos rfl, last_get ht, allP_filter (ownB o) (h.tiles t hm) (h.canon t hm)] at ho'
  exact ⟨u, he, ho', hb⟩
theorem count_last (o : Int) (ho : 1 ≤ o ∧ o ≤ 1000) : Calls Try.prog 27 #[.pointer (some ⟨sB, 0, none⟩), .int .i64 o, .int .i64 ((vs.length : Int) - 1)] w
    fun e w' => e = .returned (.tuple #[.int .i64 (sumP (ownB o) t.toList), .int .i64 0]) ∧ Below w.heap.size w w' := by
  refine (Count_calls w sB vB vs h.st hn h.fine o ((vs.length : Int) - 1)).mono ?_
  rintro e w' ⟨he, hb⟩
  rw [last_atE h.st.full _ (inB_of ho), askL, if_pos rfl, last_get ht, sumP_all] at he
  exact ⟨he, hb⟩
theorem pocket_last (n : Int) (hn1 : 1 ≤ n ∧ n ≤ 1000000) : Calls Try.prog 28 #[.pointer (some ⟨sB, 0, none⟩), .int .i64 n, .int .i64 ((vs.length : Int) - 1)] w
    fun e w' => e = .returned (.tuple #[(valL t.toList n).val, .int .i64 0]) ∧ Below w.heap.size w w' := by
  have hm := List.mem_of_getLast? ht
  refine (Pocket_calls w sB vB vs h.st hn h.fine n ((vs.length : Int) - 1)).mono ?_
  rintro e w' ⟨he, hb⟩
  rw [last_atE h.st.full _ (inB_of hn1), pocC, if_pos rfl, last_get ht, visL_eq _ _ _ (h.fine t hm).sorted, endC_visP (h.tiles t hm) hn1.1 hn1.2] at he
  exact ⟨he, hb⟩
end

/-! ### The holds of a member -/
structure Held (L : List Pc) (m : Int) (l : List Pc) : Prop where
  good : ∀ p ∈ l, 1 ≤ p.from_ ∧ p.from_ ≤ p.to ∧ p.to < 80
  own : ∀ p ∈ l, p.cell.state = 1 ∧ p.cell.owner = m
  val : ∀ p ∈ l, ∀ n, p.from_ ≤ n → n ≤ p.to → valL L n = p.cell
  rise : l.Pairwise fun p q => p.to < q.from_
  canon : ∀ p ∈ l, ∀ q ∈ l, p.to + 1 = q.from_ → p.cell ≠ q.cell
  all : ∀ n, (valL L n).state = 1 → (valL L n).owner = m → ∃ p ∈ l, p.from_ ≤ n ∧ n ≤ p.to
theorem Kept.held {L : List Pc} (h : Kept L) (m : Int) : Held L m (L.filter fun p => ownB m p.cell) := by
  have own : ∀ p ∈ L.filter (fun p => ownB m p.cell), p ∈ L ∧ p.cell.state = 1 ∧ p.cell.owner = m := by
    intro p hp
    obtain ⟨h1, h2⟩ := List.mem_filter.1 hp
    simp only [ownB, Bool.and_eq_true, decide_eq_true_eq] at h2
    exact ⟨h1, h2.1, h2.2⟩
  have hs := h.tiles.sorted (by omega) (by omega)
  refine ⟨fun p hp => ?_, fun p hp => (own p hp).2, fun p hp => h.tiles.val p (own p hp).1, hs.rise.filter _, fun p hp q hq => canon_ne h.tiles h.canon p (own p hp).1 q (own q hq).1, fun n h1 h2 => ?_⟩
  · obtain ⟨h1, h2, h3⟩ := own p hp
    have hm := h.tiles.mem p h1
    have hv := h.tiles.val p h1 p.to (by omega) (by omega)
    have := h.owner p.to (by rw [hv]; exact h2)
    omega
  · have hr := h.owner n h1
    obtain ⟨p, hp, h3, h4⟩ := h.tiles.covers (n := n) (by omega) (by omega)
    have hv := h.tiles.val p hp n h3 h4
    rw [hv] at h1 h2
    exact ⟨p, List.mem_filter.2 ⟨hp, by simp [ownB, h1, h2]⟩, h3, h4⟩
/-- Where the pockets that are not marked yet begin. -/
def begL (l : List Pc) : Nat → Int
  | 0 => 1
  | i + 1 => (l[i]?.getD ⟨0, 0, cl0⟩).to + 1
theorem rise_lt {l : List Pc} (h : l.Pairwise fun p q => p.to < q.from_) {i j : Nat} (hij : i < j) (hj : j < l.length) : (l[i]'(by omega)).to < l[j].from_ :=
  List.pairwise_iff_getElem.1 h i j (by omega) hj hij
theorem mark_eq {L : List Pc} {m x y : Int} (hxy : x ≤ y) (h : ∀ n : Int, x ≤ n → n < y → ¬ ((valL L n).state = 1 ∧ (valL L n).owner = m)) : markA L m x = markA L m y := by
  refine markA_congr fun k _ => ?_
  unfold mark
  by_cases h1 : (valL L (k : Int)).state = 1 ∧ ((valL L (k : Int)).owner < m ∨ (valL L (k : Int)).owner = m ∧ (k : Int) < x)
  · rw [if_pos h1, if_pos ⟨h1.1, h1.2.imp id fun g => ⟨g.1, by omega⟩⟩]
  · rw [if_neg h1, if_neg]
    rintro ⟨h2, h3 | ⟨h3, h4⟩⟩
    · exact h1 ⟨h2, .inl h3⟩
    · by_cases h5 : (k : Int) < x
      · exact h1 ⟨h2, .inr ⟨h3, h5⟩⟩
      · exact h (k : Int) (by omega) h4 ⟨h2, h3⟩
theorem Held.beg {L l : List Pc} {m : Int} (h : Held L m l) {i : Nat} (hi : i < l.length) : begL l i ≤ l[i].from_ ∧ markA L m (begL l i) = markA L m l[i].from_ := by
  have hb : begL l i ≤ l[i].from_ := by
    cases i with
    | zero => exact (h.good _ (List.getElem_mem hi)).1
    | succ j =>
      have := rise_lt h.rise (Nat.lt_succ_self j) hi
      have e : l[j.succ].from_ = l[j + 1].from_ := rfl
      rw [begL, List.getElem?_eq_getElem (by omega)]
      simp only [Option.getD_some]; omega
  refine ⟨hb, mark_eq hb fun n h1 h2 ⟨h3, h4⟩ => ?_⟩
  obtain ⟨p, hp, h5, h6⟩ := h.all n h3 h4
  obtain ⟨j, hj, rfl⟩ := List.getElem_of_mem hp
  by_cases hji : j < i
  · have : l[j].to < begL l i := by
      cases i with
      | zero => omega
      | succ k =>
        rw [begL, List.getElem?_eq_getElem (by omega)]
        simp only [Option.getD_some]
        by_cases hjk : j < k
        · have := rise_lt h.rise hjk (by omega)
          have := (h.good _ (List.getElem_mem (show k < l.length by omega))).2.1
          omega
        · have : j = k := by omega
          subst this; omega
    omega
  · by_cases hj2 : j = i
    · subst hj2; omega
    · have := rise_lt h.rise (show i < j by omega) hj
      have := (h.good _ (List.getElem_mem hi)).2.1
      omega
theorem Held.next {L l : List Pc} {m : Int} (h : Held L m l) {i : Nat} (hi : i < l.length) : begL l (i + 1) = l[i].to + 1 := by
  rw [begL, List.getElem?_eq_getElem hi]; rfl
theorem Held.fin {L l : List Pc} {m : Int} (h : Held L m l) (hk : Kept L) : markA L m (begL l l.length) = markA L (m + 1) 1 := by
  refine markA_congr fun k _ => ?_
  have key : (valL L (k : Int)).state = 1 → (valL L (k : Int)).owner = m → (k : Int) < begL l l.length := by
    intro h1 h2
    obtain ⟨p, hp, h5, h6⟩ := h.all _ h1 h2
    obtain ⟨j, hj, rfl⟩ := List.getElem_of_mem hp
    obtain ⟨n, hn⟩ : ∃ n, l.length = n + 1 := ⟨l.length - 1, by omega⟩
    rw [hn, h.next (by omega)]
    by_cases hjn : j < n
    · have := rise_lt h.rise hjn (by omega)
      have := (h.good _ (List.getElem_mem (show n < l.length by omega))).2.1
      omega
    · have : j = n := by omega
      subst this; omega
  unfold mark
  by_cases h1 : (valL L (k : Int)).state = 1
  · have := hk.owner _ h1
    by_cases h2 : (valL L (k : Int)).owner = m
    · rw [if_pos ⟨h1, .inr ⟨h2, key h1 h2⟩⟩, if_pos ⟨h1, by omega⟩]
    · by_cases h3 : (valL L (k : Int)).owner < m
      · rw [if_pos ⟨h1, .inl h3⟩, if_pos ⟨h1, by omega⟩]
      · rw [if_neg (by omega), if_neg (by omega)]
  · rw [if_neg (by omega), if_neg (by omega)]
theorem Kept.mark_one {L : List Pc} (h : Kept L) : markA L 1 1 = Array.replicate 80 (.int .i64 0) := by
  apply Array.ext_getElem?
  intro j
  by_cases hj : j < 80
  · rw [markA_get _ _ _ _ hj, Array.getElem?_replicate, if_pos hj]
    congr 2
    unfold mark
    rw [if_neg]
    rintro ⟨h1, h2⟩
    have := h.owner _ h1
    omega
  · rw [Array.getElem?_eq_none (by simp [markA]; omega), Array.getElem?_eq_none (by simp; omega)]
theorem Kept.mark_five {L : List Pc} (h : Kept L) {k : Nat} : mark L 5 1 k = if (valL L k).state = 1 then (valL L k).owner else 0 := by
  unfold mark
  by_cases h1 : (valL L (k : Int)).state = 1
  · have := h.owner _ h1
    rw [if_pos ⟨h1, by omega⟩, if_pos h1]
  · rw [if_neg (by omega), if_neg h1]
theorem cntL_drop {l : List Pc} {i : Nat} (hi : i < l.length) : cntL (l.drop i) = (l[i].to - l[i].from_ + 1) + cntL (l.drop (i + 1)) := by
  rw [List.drop_eq_getElem_cons hi]; rfl
theorem cnt_filter (is : Cl → Bool) (l : List Pc) : cntL (l.filter fun p => is p.cell) = sumP is l := by
  induction l with
  | nil => rfl
  | cons p l ih =>
    rw [List.filter_cons]
    simp only [sumP]
    split
    · simp [cntL, ih]
    · rw [ih]; omega
/-- How many pockets the members below m have. -/
def sumTo (L : List Pc) : Nat → Int
  | 0 => 0
  | m + 1 => sumTo L m + sumP (ownB ((m : Int) + 1)) L
theorem Kept.sum_four {L : List Pc} (h : Kept L) : sumTo L 4 = sumP inC L := by
  have := h.sum
  have e1 : ((0 : Nat) : Int) + 1 = 1 := rfl
  have e2 : ((1 : Nat) : Int) + 1 = 2 := rfl
  have e3 : ((2 : Nat) : Int) + 1 = 3 := rfl
  have e4 : ((3 : Nat) : Int) + 1 = 4 := rfl
  simp only [sumTo]
  rw [e1, e2, e3, e4]
  omega
theorem Kept.sumTo_bound {L : List Pc} (h : Kept L) : ∀ m : Nat, 0 ≤ sumTo L m ∧ sumTo L m ≤ 1000000 * m
  | 0 => by simp [sumTo]
  | m + 1 => by
    have := h.sumTo_bound m
    have := sumP_bound (is := ownB ((m : Int) + 1)) h.tiles
    simp only [sumTo]
    omega
theorem kept_pc0 : Kept [pc0] := ⟨by simp [Tiles, pc0], trivial, fun n hs => by rw [valL_pc0] at hs; simp [cl0] at hs⟩
end Go.Proofs.Ytnnbdjfeagcbdaa
