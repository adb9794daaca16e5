/- all: the pieces of a tree that a closure allows, as long as they can be. span, holds: pieces as holds. Holds, Pledged, Count. Pocket: the state of one pocket at a version. Lengths of pieces in some state; holds of a canonical tiling; who owns a pocket. No program in sight. Runs as the reference keeps them: rising, none outside, as long as they can be; they are fixed by the states they give. No program in sight. The reference's change of runs is the change of the tiling. No program in sight. The reference: runs as own rows; add. awake returns true. A register whose versions are canonical tilings; what a change of it comes to. extended: a list of spans with one more, joined to the last where it continues it. Lists of spans that are the runs of a set of pockets: fixed by the set. No program in sight. Where two tilings differ: the plain law of Changed. No program in sight. extended, with what it leaves: only the list's own block is turned. -/
import Derived.Deep.AppendLies
import Derived.BigQuiet
import Derived.Test.YtnnbdjfeagcbdaaJMake2
import Derived.Test.YtnnbdjfeagcbdaaJReg
import Derived.Test.YtnnbdjfeagcbdaaJRow
namespace Go.Proofs.Ytnnbdjfeagcbdaa
set_option linter.unusedSimpArgs false
set_option linter.unusedVariables false
open Go.RowKit Go.Shelf
attribute [local go_sem] Oper.semAt_some
attribute [local go_sem ↓] Go.wp_at_zero Go.wp_at_succ

/-- A closure that allows a cell or not. -/
def AllowsOf (wf : FuncId) (caps : Array Value) (is : Cl → Bool) (w : World) : Prop :=
  ∀ (c : Cl) (W : World), Below w.heap.size w W → Calls Try.prog wf (#[c.val] ++ caps) W fun e W' => e = .returned (.bool (is c)) ∧ Below W.heap.size W W'
/-- A slice of pieces in an own row from block B on. -/
def PcsAt (B : Nat) (w : World) (v : Value) (l : List Pc) : Prop := w.ownsRow B 118 6 v l.length (flatP l)
theorem PcsAt.kept {B : Nat} {W W' : World} {v : Value} {l : List Pc} {row : Option Nat} (h : PcsAt B W v l) (hg : W.grownBy W' row) (hr : ∀ r, row = some r → ∃ o : Obj, W.heap[r]? = some o ∧ o.isCells = false) : PcsAt B W' v l :=
  ownsRow_moved h fun b cs _ hb => hg.block b (Array.getElem?_eq_some_iff.1 hb).1 (fun e => by obtain ⟨o, ho, hc⟩ := hr b e.symm; rw [hb] at ho; cases ho; cases hc)
theorem PcsAt.below {B : Nat} {W W' : World} {v : Value} {l : List Pc} (h : PcsAt B W v l) (hb : Below W.heap.size W W') : PcsAt B W' v l :=
  ownsRow_moved h fun b cs _ hb' => hb.block b (Array.getElem?_eq_some_iff.1 hb').1
theorem PcsAt.alloc {B : Nat} {W : World} {v : Value} {l : List Pc} (h : PcsAt B W v l) (o : Obj) : PcsAt B (W.alloc o) v l := h.below ((Below.refl _ _).alloc (Nat.le_refl _) _)
theorem PcsAt.drew {B : Nat} {W : World} {v : Value} {l : List Pc} (h : PcsAt B W v l) : PcsAt B W.drew v l := ownsRow_moved h fun _ _ _ _ => rfl

theorem appP_length' (xs : List Pc) (p : Pc) : (appP xs p).length ≤ xs.length + 1 := appP_length xs p
theorem allP_length (is : Cl → Bool) (l : List Pc) : (allP is l).length ≤ l.length := by
  have key : ∀ (l acc : List Pc), (l.foldl (fun acc p => if is p.cell then appP acc p else acc) acc).length ≤ acc.length + l.length := by
    intro l
    induction l with
    | nil => intro acc; simp
    | cons p l ih =>
      intro acc
      simp only [List.foldl_cons, List.length_cons]
      split
      · have := ih (appP acc p); have := appP_length acc p; omega
      · have := ih acc; omega
  simpa [allP] using key l []
theorem wpListIn_append_lies {P : Program} {F : Fence} {nF : Nat} (w : World) {ops : Array Oper} {rest : List Oper} {o : Oper} {a : Act} {Q : Exit → Act → World → Prop} (hgd : o.guard = none) (s x : Operand) (t : TypeId)
    (ho : o.op = .call { callee := .builtin .append, args := #[s, x], argTypes := #[t, t] })
    (base : Nat) (e : TypeId) (i : TypeInfo) (z : Value) (size bytes : Nat) (ht : P.underlying t = some (.slice e)) (hi : P.info? e = some i) (hz : i.zero = some z)
    (hsize : i.size = size) (hby : i.bytes = bytes) (hzs : z.cells.size = size) (hsz : 0 < size)
    (v : Value) (n : Nat) (xs : List Value) (hs : a.eval s = v) (hown : w.ownsRow base e size v n xs)
    (ad : Addr) (m c : Nat) (news : List Value) (hx : a.eval x = .slice (some ad) m c) (hl : news.length = m * size) (hnews : ∀ j u, news[j]? = some u → w.cell? (ad.add j) = some u) (h1 : ∀ u ∈ news, u.oneCell' = true)
    (hm : 0 < m) (h63 : n + m ≤ maxLen) (hbytes : (n + m) * bytes ≤ 140737488355328) (hbase : base ≤ w.heap.size) (H : Nat) (hH : w.heap.size = H)
    (h : ∀ g cap w', w'.ownsRow base e size (.slice (some ⟨g, 0, none⟩) (n + m) cap) (n + m) (xs ++ news) → w.grownBy w' v.ownBlock → (v.ownBlock = some g ∨ g = H) → g < w'.heap.size → wpListIn F nF P ops Q rest (a.put o.dst (.slice (some ⟨g, 0, none⟩) (n + m) cap)) w') : wpListIn F nF P ops Q (o :: rest) a w :=
  wpListIn_plain hgd fun K hK => wpIn_append_lies w s x t ho base e i z size bytes ht hi hz hsize hby hzs hsz v n xs hs hown ad m c news hx hl hnews h1 hm h63 hbytes hbase H hH fun g cap w' h2 h3 h4 h5 => hK _ _ (h g cap w' h2 h3 h4 h5)
theorem keepsFrom_grown {B : Nat} {W W' : World} {row : Option Nat} (hg : W.grownBy W' row) (hr : ∀ r, row = some r → ∃ cs t fr, W.heap[r]? = some (Obj.cells cs t fr)) : KeepsFrom B W W' :=
  ⟨hg.size, fun k o _ hk ho => (hg.block k (Array.getElem?_eq_some_iff.1 hk).1 (fun e => by obtain ⟨cs, t, fr, h⟩ := hr k e.symm; rw [hk] at h; cases h; cases ho)).trans hk⟩
theorem pc_oneCell (p : Pc) : ∀ u ∈ p.vals.toList, u.oneCell' = true := by intro u hu; simp at hu; rcases hu with rfl | rfl | rfl | rfl | rfl | rfl <;> rfl
theorem pc_news (W : World) (k : Nat) (p : Pc) : ∀ (j : Nat) (u : Value), [Value.int IntKind.i64 p.from_, Value.int IntKind.i64 p.to, Value.int IntKind.i64 p.cell.state, Value.int IntKind.i64 p.cell.lot, Value.int IntKind.i64 p.cell.owner, Value.int IntKind.i64 p.cell.holder][j]? = some u →
    ((W.drewN k).alloc (Obj.cells #[Value.int IntKind.i64 p.from_, Value.int IntKind.i64 p.to, Value.int IntKind.i64 p.cell.state, Value.int IntKind.i64 p.cell.lot, Value.int IntKind.i64 p.cell.owner, Value.int IntKind.i64 p.cell.holder] 118)).cell? ⟨W.heap.size, j, none⟩ = some u := fun j u hu => by
  have := World.news_of_block (new_block W k p.vals 118) j u hu
  have hadd : (⟨W.heap.size, 0, none⟩ : Addr).add j = ⟨W.heap.size, j, none⟩ := by unfold Addr.add; split <;> simp_all
  rwa [hadd] at this
theorem flatP_last (L : List Pc) (q : Pc) : flatP (L ++ [q]) = flatP L ++ q.vals.toList := by simp [flatP]
/-- The last piece of a row, in its cells. -/
theorem PcsAt.last {B : Nat} {W : World} {v : Value} {L : List Pc} {q : Pc} (h : PcsAt B W v (L ++ [q])) : ∃ g cap, v = .slice (some ⟨g, 0, none⟩) (L.length + 1) cap ∧ B ≤ g ∧ g < W.heap.size ∧
    W.ownsRow B 118 6 (.slice (some ⟨g, 0, none⟩) (L.length + 1) cap) (L.length + 1) (flatP (L ++ [q])) ∧ W.cell? ⟨g, L.length * 6, none⟩ = some (Value.int .i64 q.from_) ∧ W.cell? ⟨g, L.length * 6 + 1, none⟩ = some (Value.int .i64 q.to) ∧ W.cell? ⟨g, L.length * 6 + 2, none⟩ = some (Value.int .i64 q.cell.state) ∧ W.cell? ⟨g, L.length * 6 + 3, none⟩ = some (Value.int .i64 q.cell.lot) ∧ W.cell? ⟨g, L.length * 6 + 4, none⟩ = some (Value.int .i64 q.cell.owner) ∧ W.cell? ⟨g, L.length * 6 + 5, none⟩ = some (Value.int .i64 q.cell.holder) := by
  unfold PcsAt at h
  rw [List.length_append, List.length_singleton] at h
  obtain ⟨g, cap, rfl, hB, hlt⟩ := h.form (by omega)
  refine ⟨g, cap, rfl, hB, hlt, h, ?_⟩
  have key : ∀ j, j < 6 → W.cell? ⟨g, L.length * 6 + j, none⟩ = q.vals[j]? := by
    intro j hj
    rw [h.cellAt _ (by omega), flatP_last, List.getElem?_append_right (by rw [flatP_length]; omega), flatP_length, Nat.add_sub_cancel_left, Array.getElem?_toList]
  have k0 := key 0 (by omega)
  have k1 := key 1 (by omega)
  have k2 := key 2 (by omega)
  have k3 := key 3 (by omega)
  have k4 := key 4 (by omega)
  have k5 := key 5 (by omega)
  simp at k0 k1 k2 k3 k4 k5
  exact ⟨k0, k1, k2, k3, k4, k5⟩
theorem flatP_set (L : List Pc) (q : Pc) (to : Int) : (flatP (L ++ [q])).set (L.length * 6 + 1) (.int .i64 to) = flatP (L ++ [⟨q.from_, to, q.cell⟩]) := by
  rw [flatP_last, flatP_last, List.set_append_right _ _ (by rw [flatP_length]; omega), flatP_length, Nat.add_sub_cancel_left]
  rfl
theorem allP_toOk (is : Cl → Bool) (l : List Pc) (h : ∀ p ∈ l, p.Good) : ToOk (allP is l) := by
  have key : ∀ (l acc : List Pc), (∀ p ∈ l, p.Good) → ToOk acc → ToOk (l.foldl (fun acc p => if is p.cell then appP acc p else acc) acc) := by
    intro l
    induction l with
    | nil => intro acc _ h; exact h
    | cons p l ih =>
      intro acc hl hacc
      have hp := hl p (by simp)
      simp only [Pc.Good] at hp
      simp only [List.foldl_cons]
      refine ih _ (fun q hq => hl q (by simp [hq])) ?_
      split
      · exact appP_toOk acc _ hacc (by omega)
      · exact hacc
  exact key l [] h (by intro q hq; simp at hq)
theorem info_piece : (Try.prog.info? 118).map (fun i => (i.zero, i.size, i.bytes)) = some (some (.agg #[.int .i64 0, .int .i64 0, .int .i64 0, .int .i64 0, .int .i64 0, .int .i64 0]), 6, 48) := by kernel_rfl
theorem under_pieces : Try.prog.underlying 132 = some (.slice 118) := by kernel_rfl

set_option maxRecDepth 100000 in
set_option maxHeartbeats 4000000 in
theorem all_calls (w : World) (p : Option Addr) (t : T) (ht : TreeAt w p t) (hg : t.Good) (hs : Sorted t.toList) (hlen : t.toList.length ≤ 10000000) (wf : FuncId) (caps : Array Value) (is : Cl → Bool)
    (hwf : AllowsOf wf caps is w) (eg : ∀ args w, (callFunc wf args).run Try.prog w = .ok (.enter wf args) w) :
    Calls Try.prog 67 #[.pointer p, .func (.func wf) #[] caps] w fun e w' =>
      ∃ v, e = .returned v ∧ PcsAt w.heap.size w' v (allP is (visL t 1 1000000)) ∧ Below w.heap.size w w' := by
  have HT := hid ht
  have HW := hid hwf
  have EG := hid eg
  have hvl : (visL t 1 1000000).length ≤ 10000000 := by rw [visL_eq 1 1000000 t hs, visP_all _ hs.good]; exact hlen
  have HL := hid hvl
  clear ht hwf eg hlen hvl hs
  obtain ⟨i0, hi, hz0, hz1, hz2⟩ := info_parts info_piece
  obtain ⟨F, hFe⟩ : ∃ F, F = Fence.wide := ⟨_, rfl⟩
  have hF : Free F Try.prog := hFe ▸ free_wide _
  have hro : F.round = none := by rw [hFe]; rfl
  have FE := hid hFe
  clear hFe
  refine (callsIn_wide (n := 6)).1 ?_
  rw [← FE.out]
  refine callsIn_of_wp_marks Try.func67 rfl (hF.fn _) ?_ hro
  rw [FE.out]
  refine wpIn_wide.2 ?_
  simp only [Try.ntmps67, List.size_toArray, List.length_cons, List.length_nil, Nat.reduceAdd, Nat.reduceSub, Array.replicate_succ, Array.replicate_zero, List.push_toArray, List.append_toArray, List.nil_append, List.cons_append]
  have cA : Cells ((w.alloc (.cells #[.func (.func wf) #[] caps] 134)).alloc (.cells #[.slice none 0 0] 132)) w.heap.size #[.func (.func wf) #[] caps] 134 := (Cells.new w _ _).alloc _
  have cO : Cells ((w.alloc (.cells #[.func (.func wf) #[] caps] 134)).alloc (.cells #[.slice none 0 0] 132)) (w.heap.size + 1) #[.slice none 0 0] 132 := by
    have := Cells.new (w.alloc (.cells #[.func (.func wf) #[] caps] 134)) #[.slice none 0 0] 132
    rwa [World.size_alloc] at this
  have CA := hid cA
  have CO := hid cO
  clear cA cO
  go_wp2_with fail
  refine (within_made p 1 1000000 _).mono ?_
  rintro e w2 ⟨v, rfl, hi2, hb2⟩
  obtain ⟨B0, B1, B2, rfl, hB0, hB1, hB2⟩ := hi2
  have up : Below w.heap.size w w2 := Below.trans (by repeat (first | exact Below.refl _ _ | refine Below.alloc ?_ (by simp; try omega) _)) (hb2.mono (by simp; omega))
  have sz2 : w.heap.size + 1 + 1 ≤ w2.heap.size := by have := hb2.size; simpa using this
  have CA2 := hid (CA.out.below hb2 CA.out.lt)
  have CO2 := hid (CO.out.below hb2 CO.out.lt)
  have UP := hid up
  have T2 := hid (HT.out.below up)
  clear up hb2
  go_wp2
  refine (wpIn_wide (n := 6)).1 ?_
  rw [← FE.out]
  refine wpIn_rangeFunc_ownH hro (by omega) (gf := 102) (lb := #[.pointer (some ⟨B0, 0, none⟩), .pointer (some ⟨B1, 0, none⟩), .pointer (some ⟨B2, 0, none⟩)]) rfl (hF.fn _) (enters_of Try.func102 (by kernel_rfl) rfl)
    (within_stops F hF hro _ B0 B1 B2 w.heap.size p t hg 1 1000000 ⟨by omega, by omega, by omega⟩ w2 hB0.lt hB1.lt hB2.lt UP.out.size (by simp [hB0.cell]) (by simp [hB1.cell]) (by simp [hB2.cell]) (Tn.of_tree (Nat.le_refl _) UP.out HT.out))
    belowK_t (belowK_b UP.out.size) (Below.refl _ _) (fun _ => rfl)
    (fun pre W => (∃ v, Cells W (w.heap.size + 1) #[v] 132 ∧ PcsAt (w.heap.size + 1 + 1) W v (allP is (vals pre)) ∧ Cells W w.heap.size #[.func (.func wf) #[] caps] 134) ∧ Below w.heap.size w W ∧ w2.heap.size ≤ W.heap.size)
    (fun _ _ _ => False)
    (OwnFrom.and (fun s X Y row h hg hr => by obtain ⟨v, h1, h2, h3⟩ := h; exact ⟨v, h1.kept hg (fun r e => (hr r e).2), h2.kept hg (fun r e => (hr r e).2), h3.kept hg (fun r e => (hr r e).2)⟩) (OwnFrom.and (ownFrom_below (Nat.le_refl _) UP.out.size) (fun s X Y row h hg hr => Nat.le_trans h hg.size)))
    (fun _ _ _ _ _ h _ _ => h)
    ⟨⟨.slice none 0 0, CO2.out, ⟨rfl, .inl ⟨rfl, rfl⟩⟩, CA2.out⟩, UP.out, Nat.le_refl _⟩
    (fun x a' W => ∃ Bx, w2.heap.size ≤ Bx ∧ Cells W Bx x.1.vals 118 ∧ a' = { tmps := #[.pointer p, .func (.func wf) #[] caps, undef, .pointer (some ⟨w.heap.size, 0, none⟩), .slice none 0 0, .pointer (some ⟨w.heap.size + 1, 0, none⟩), .pointer (some ⟨Bx, 0, none⟩), undef, .pointer p,
      .func (.func 102) #[] #[.pointer (some ⟨B0, 0, none⟩), .pointer (some ⟨B1, 0, none⟩), .pointer (some ⟨B2, 0, none⟩)], x.1.val, undef, undef, undef, undef, undef, undef, undef, undef, undef, undef, undef, undef, undef, undef, undef, undef, undef, undef, undef, undef, undef, undef, undef, undef, undef, undef, undef, undef, undef, undef, undef, undef, undef, undef, undef, undef, undef, undef, undef, undef, undef, undef, undef, undef, undef, undef, undef, undef], defers := [] })
    (fun x a' s X Y row h hg hr => by obtain ⟨Bx, h1, h2, h3⟩ := h; exact ⟨Bx, h1, h2.kept hg (fun r e => (hr r e).2), h3⟩) ?assign ?body ?done ?stop
  case assign =>
    rintro l pre x W K ⟨⟨v, i1, i2, i0⟩, i3, i4⟩ hK
    gi_wp2
    exact hK _ _ ((KeepsOthers.alloc _ _).from _) ((Below.refl _ W).alloc i3.size _) ⟨⟨v, i1.alloc _, i2.alloc _, i0.alloc _⟩, i3.alloc i3.size _, by simp; omega⟩ ⟨W.heap.size, i4, Cells.new _ _ _, rfl⟩
  case body =>
    rintro l pre x a' W hl _ ⟨⟨v, i1, i2, i0⟩, i3, i4⟩ ⟨Bx, hBx, hcx, rfl⟩ hlt
    have k1 : W.cell? ⟨w.heap.size, 0, none⟩ = some (.func (.func wf) #[] caps) := by simp [i0.cell]
    obtain ⟨e0, e1, e2, e3, e4, e5⟩ := pc_facts hcx
    have I0 := hid i0
    have I1 := hid i1
    have I2 := hid i2
    have I3 := hid i3
    have CX := hid hcx
    have HI4 := hid i4
    have HBx := hid hBx
    have HLT := hid hlt
    have hfw : (F.inRound l).fn wf := hF.fn _
    have hfw' : F.fn wf := hF.fn _
    have hdd : ∀ k : Nat, (F.depth.isSome = true → 1 ≤ k) := fun k h => by rw [hF.depth] at h; cases h
    have eg' := EG.out
    clear i0 i1 i2 i3 i4 hcx hBx hlt
    gi_wp2_with fail
    (try refine ⟨hdd _, ?_⟩)
    refine (CallsIn.inRound l (hF.calls _ _ _ _ _ (HW.out x.1.cell W I3.out))).mono ?_
    rintro e W1 ⟨rfl, hb3⟩
    have B3 := hid hb3
    have J0 := hid (I0.out.below hb3 I0.out.lt)
    have J1 := hid (I1.out.below hb3 I1.out.lt)
    have J2 := hid (I2.out.below hb3)
    have J3 := hid (I3.out.trans (hb3.mono I3.out.size))
    have JX := hid (CX.out.below hb3 CX.out.lt)
    have bx : Bx < W1.heap.size := JX.out.lt
    have bo : w.heap.size + 1 < W1.heap.size := J1.out.lt
    clear hb3 eg' k1 e0 e1 e2 e3 e4 e5
    cases hz : is x.1.cell
    · gi_wp2
      exact ⟨keepsFrom_below B3.out, B3.out.mono I3.out.size, ⟨_, J1.out, by rw [vals_append, allP_snoc, hz, if_neg (by simp)]; exact J2.out, J0.out⟩, J3.out, Nat.le_trans HI4.out B3.out.size⟩
    · have HZ := hid hz
      clear hz
      have hlnB : (allP is (vals pre)).length ≤ 10000000 := by have h1 := allP_length is (vals pre); rw [vals_length] at h1; have h2 := HLT.out; have h3 := HL.out; omega
      have hmx : Try.prog.follows .mixedOrders = true := by kernel_rfl
      rcases List.eq_nil_or_concat (allP is (vals pre)) with hn | ⟨L, q, hn⟩
      · have hl0 : ∃ ptr cap, v = .slice ptr 0 cap := by
          have := J2.out
          unfold PcsAt at this
          rw [hn] at this
          rcases this.2 with ⟨h, _⟩ | ⟨g, cap, cur, h, _⟩
          · exact ⟨_, _, h⟩
          · exact ⟨_, _, h⟩
        obtain ⟨ptr, cap, rfl⟩ := hl0
        obtain ⟨e0, e1, e2, e3, e4, e5⟩ := pc_facts JX.out
        have k5 : W1.cell? ⟨w.heap.size + 1, 0, none⟩ = some (.slice ptr 0 cap) := by simp [J1.out.cell]
        have hd : decide ((0 : Int) < 0) = false := by decide
        have HN := hid hn
        clear hn
        gi_wp2
        have o2 : ∀ k, ((W1.drewN k).alloc (.cells x.1.vals 118)).ownsRow (w.heap.size + 1 + 1) 118 6 (.slice ptr 0 cap) (0) (flatP ([])) := by
          intro k
          have h := J2.out
          unfold PcsAt at h
          rw [HN.out] at h
          have h2 : (W1.drewN k).ownsRow (w.heap.size + 1 + 1) 118 6 (.slice ptr 0 cap) ([]).length (flatP ([])) := ownsRow_moved h fun _ _ _ _ => by simp [World.drewN]
          have h3 := World.ownsRow.alloc h2 (.cells x.1.vals 118)
          simpa using h3
        have O2 := hid o2
        clear o2
        refine wpIn_region_quietF (free_round hF l) hmx (by kernel_rfl) ?_
        repeat (go_big_quiet_step (fail))
        refine wpQuiet_nil ?_
        intro _ hw'
        obtain ⟨nq, hw''⟩ := hw'
        subst hw''
        gi_wp2_with (gi_at_builtin; refine wpListIn_append_lies _ rfl (.tmp 54) (.tmp 56) 132 rfl (w.heap.size + 1 + 1) 118 i0 _ 6 48 under_pieces hi hz0 hz1 hz2 rfl (by decide) (.slice ptr 0 cap) (0) (flatP ([])) rfl (O2.out nq) ⟨W1.heap.size, 0, none⟩ 1 1 x.1.vals.toList rfl rfl ?c1 ?c2 (by decide) ?c3 ?c4 ?c5 _ rfl ?_)
        case c1 => exact pc_news W1 nq x.1
        case c2 => exact ⟨rfl, rfl, rfl, rfl, rfl, rfl⟩
        case c3 => unfold maxLen; omega
        case c4 => omega
        case c5 => have := J1.out.lt; simp; omega
        intro g' cap' w3 hown hgr hat hlt3
        have hrow := fun k h => (World.ownsRow.lt (O2.out nq) k h).1
        have c3o : Cells w3 (w.heap.size + 1) #[.slice ptr 0 cap] 132 := (hgr.block _ ((J1.out.drewN nq).alloc _).lt (fun e => by have := hrow _ e.symm; omega)).trans ((J1.out.drewN nq).alloc _)
        have c3i : Cells w3 w.heap.size #[.func (.func wf) #[] caps] 134 := (hgr.block _ ((J0.out.drewN nq).alloc _).lt (fun e => by have := hrow _ e.symm; omega)).trans ((J0.out.drewN nq).alloc _)
        have k6 : w3.cell? ⟨w.heap.size + 1, 0, none⟩ = some (.slice ptr 0 cap) := by simp [c3o.cell]
        have f6 : w3.frozen? ⟨w.heap.size + 1, 0, none⟩ = false := c3o.frozen 0
        have hg1 : w.heap.size + 1 + 1 ≤ g' := by
          rcases hat with h | h
          · exact hrow _ h
          · rw [h]; simp; omega
        have up3 : Below w.heap.size w w3 := (((drewN_below J3.out nq).alloc (by simpa using J3.out.size) _)).grown hgr (by have := J3.out.size; simp; omega) (fun k h => by have := hrow _ h; omega)
        have kf3 : KeepsFrom w2.heap.size W w3 := ((keepsFrom_below B3.out).trans (keepsFrom_below (W := W1) (((drewN_below (Below.refl _ _) nq).alloc (by simp) (.cells x.1.vals 118))))).trans (keepsFrom_grown hgr (ownsRow_isCells (O2.out nq)))
        have kb3 : Below w.heap.size W w3 := (((drewN_below (B3.out.mono I3.out.size) nq).alloc (by have := J3.out.size; simpa using this) _)).grown hgr (by have := J3.out.size; simp; omega) (fun k h => by have := hrow _ h; omega)
        have P3 := hid (And.intro hown (And.intro c3o (And.intro c3i (And.intro up3 (And.intro kf3 kb3)))))
        clear hown hgr hat hrow c3o c3i up3 kf3 kb3
        gi_wp2
        have hP := P3.out
        refine ⟨hP.2.2.2.2.1.trans keepsFrom_set, hP.2.2.2.2.2.setCell (p := ⟨w.heap.size + 1, 0, none⟩) (by simp) _, ⟨_, hP.2.1.set 0 _, ?_, hP.2.2.1.set_far 0 _ (by omega)⟩, hP.2.2.2.1.setCell (p := ⟨w.heap.size + 1, 0, none⟩) (by simp) _, ?_⟩
        · unfold PcsAt
          rw [vals_append, allP_snoc, HZ.out, if_pos rfl, HN.out]
          exact ownsRow_moved hP.1 fun b cs hb _ => Below.heap_setCell w3 ⟨w.heap.size + 1, 0, none⟩ _ b (by simp; omega)
        · have := hP.2.2.2.2.1.size; have := HI4.out; simp [World.setCell]; omega
      · have hl1 := J2.out
        rw [List.concat_eq_append] at hn
        rw [hn] at hl1
        obtain ⟨g, cap, rfl, hg1, hg2, hrow, q0, q1, q2, q3, q4, q5⟩ := hl1.last
        obtain ⟨m, hm⟩ : ∃ m, m = L.length := ⟨_, rfl⟩
        rw [← hm] at hrow q0 q1 q2 q3 q4 q5 J1 J2 I1 I2
        have hlm : m + 1 ≤ 10000000 := by rw [hn] at hlnB; simp at hlnB; omega
        have HROW := hid hrow
        have HM := hid hm
        have HN := hid hn
        clear hl1 hrow hm hn hlnB
        obtain ⟨e0, e1, e2, e3, e4, e5⟩ := pc_facts JX.out
        have k5 : W1.cell? ⟨w.heap.size + 1, 0, none⟩ = some (.slice (some ⟨g, 0, none⟩) (m + 1) cap) := by simp [J1.out.cell]
        have hw1 : IntKind.i64.wrap ((m : Int) + 1 - 1) = (m : Int) := by rw [IntWalk.i64_in _ (by omega)]; omega
        have n1 : (0 : Int) ≤ (m : Int) := by omega
        have n2 : (m : Int) < (m : Int) + 1 := by omega
        have n3 : decide ((0 : Int) < (m : Int) + 1) = true := by rw [decide_eq_true_eq]; omega
        have hto := hid (allP_toOk is (vals pre) (fun p hp => by simp only [vals, List.mem_map] at hp; obtain ⟨y, _, rfl⟩ := hp; exact y.2))
        have hq := hto.out q (by rw [HN.out]; simp)
        have hw2 : IntKind.i64.wrap (q.to + 1) = q.to + 1 := IntWalk.i64_in _ (by omega)
        by_cases hc : q.cell = x.1.cell
        · have he : ∀ w, (Op.equalIn 10000 116 (.agg #[.int .i64 q.cell.state, .int .i64 q.cell.lot, .int .i64 q.cell.owner, .int .i64 q.cell.holder]) (.agg #[.int .i64 x.1.cell.state, .int .i64 x.1.cell.lot, .int .i64 x.1.cell.owner, .int .i64 x.1.cell.holder])).run Try.prog w = .ok true w := fun w => (run_eqCell q.cell x.1.cell w).trans (by simp [hc])
          have HC := hid hc
          clear hc
          by_cases hf : q.to + 1 = x.1.from_
          · have hfd : (q.to + 1 == x.1.from_) = true := by simp [hf]
            have HF := hid hf
            clear hf
            have hfz : ∀ k j, (W1.drewN k).frozen? ⟨g, j, none⟩ = false := fun k j => HROW.out.frozenAt j
            have fz := hfz
            gi_wp2
            refine wpIn_region_quietF (free_round hF l) hmx (by kernel_rfl) ?_
            repeat (go_big_quiet_step (fail))
            refine wpQuiet_nil ?_
            intro _ hw'
            obtain ⟨nq, hw''⟩ := hw'
            subst hw''
            gi_wp2
            have hst := World.ownsRow.stored (ownsRow_moved (w' := W1.drewN nq) HROW.out fun _ _ _ _ => by simp [World.drewN]) (m * 6 + 1) (.int .i64 x.1.to)
            refine ⟨?_, ?_, ⟨.slice (some ⟨g, 0, none⟩) (m + 1) cap, ?_, ?_, ?_⟩, ?_, ?_⟩
            · exact (keepsFrom_below (drewN_below B3.out nq)).trans keepsFrom_set
            · exact (drewN_below (B3.out.mono I3.out.size) nq).setCell (p := ⟨g, m * 6 + 1, none⟩) (by simp; omega) _
            · exact (J1.out.drewN nq).set_far _ _ (by omega)
            · unfold PcsAt
              rw [vals_append, allP_snoc, HZ.out, if_pos rfl, HN.out, appP_last, if_pos ⟨HC.out, HF.out⟩, List.length_append, List.length_singleton, ← flatP_set, ← HM.out]
              exact hst.1
            · exact (J0.out.drewN nq).set_far _ _ (by omega)
            · exact (drewN_below J3.out nq).setCell (p := ⟨g, m * 6 + 1, none⟩) (by simp; omega) _
            · have := HI4.out; have := B3.out.size; simp [World.setCell]; omega
          · have hfd : (q.to + 1 == x.1.from_) = false := by simp [hf]
            have HF := hid hf
            clear hf
            have o2 : ∀ k, ((W1.drewN k).alloc (.cells x.1.vals 118)).ownsRow (w.heap.size + 1 + 1) 118 6 (.slice (some ⟨g, 0, none⟩) (m + 1) cap) (m + 1) (flatP (L ++ [q])) := by
              intro k
              have h2 : (W1.drewN k).ownsRow (w.heap.size + 1 + 1) 118 6 (.slice (some ⟨g, 0, none⟩) (m + 1) cap) (m + 1) (flatP (L ++ [q])) := ownsRow_moved HROW.out fun _ _ _ _ => by simp [World.drewN]
              exact World.ownsRow.alloc h2 (.cells x.1.vals 118)
            have O2 := hid o2
            clear o2
            gi_wp2
            refine wpIn_region_quietF (free_round hF l) hmx (by kernel_rfl) ?_
            repeat (go_big_quiet_step (fail))
            refine wpQuiet_nil ?_
            intro _ hw'
            obtain ⟨nq, hw''⟩ := hw'
            subst hw''
            gi_wp2_with (gi_at_builtin; refine wpListIn_append_lies _ rfl (.tmp 54) (.tmp 56) 132 rfl (w.heap.size + 1 + 1) 118 i0 _ 6 48 under_pieces hi hz0 hz1 hz2 rfl (by decide) (.slice (some ⟨g, 0, none⟩) (m + 1) cap) (m + 1) (flatP (L ++ [q])) rfl (O2.out nq) ⟨W1.heap.size, 0, none⟩ 1 1 x.1.vals.toList rfl rfl ?c1 ?c2 (by decide) ?c3 ?c4 ?c5 _ rfl ?_)
            case c1 => exact pc_news W1 nq x.1
            case c2 => exact ⟨rfl, rfl, rfl, rfl, rfl, rfl⟩
            case c3 => unfold maxLen; omega
            case c4 => omega
            case c5 => have := J1.out.lt; simp; omega
            intro g' cap' w3 hown hgr hat hlt3
            have hrow := fun k h => (World.ownsRow.lt (O2.out nq) k h).1
            have c3o : Cells w3 (w.heap.size + 1) #[.slice (some ⟨g, 0, none⟩) (m + 1) cap] 132 := (hgr.block _ ((J1.out.drewN nq).alloc _).lt (fun e => by have := hrow _ e.symm; omega)).trans ((J1.out.drewN nq).alloc _)
            have c3i : Cells w3 w.heap.size #[.func (.func wf) #[] caps] 134 := (hgr.block _ ((J0.out.drewN nq).alloc _).lt (fun e => by have := hrow _ e.symm; omega)).trans ((J0.out.drewN nq).alloc _)
            have k6 : w3.cell? ⟨w.heap.size + 1, 0, none⟩ = some (.slice (some ⟨g, 0, none⟩) (m + 1) cap) := by simp [c3o.cell]
            have f6 : w3.frozen? ⟨w.heap.size + 1, 0, none⟩ = false := c3o.frozen 0
            have hg3 : w.heap.size + 1 + 1 ≤ g' := by
              rcases hat with h | h
              · exact hrow _ h
              · rw [h]; simp; omega
            have up3 : Below w.heap.size w w3 := (((drewN_below J3.out nq).alloc (by simpa using J3.out.size) _)).grown hgr (by have := J3.out.size; simp; omega) (fun k h => by have := hrow _ h; omega)
            have kf3 : KeepsFrom w2.heap.size W w3 := ((keepsFrom_below B3.out).trans (keepsFrom_below (W := W1) (((drewN_below (Below.refl _ _) nq).alloc (by simp) (.cells x.1.vals 118))))).trans (keepsFrom_grown hgr (ownsRow_isCells (O2.out nq)))
            have kb3 : Below w.heap.size W w3 := (((drewN_below (B3.out.mono I3.out.size) nq).alloc (by have := J3.out.size; simpa using this) _)).grown hgr (by have := J3.out.size; simp; omega) (fun k h => by have := hrow _ h; omega)
            have P3 := hid (And.intro hown (And.intro c3o (And.intro c3i (And.intro up3 (And.intro kf3 kb3)))))
            clear hown hgr hat hrow c3o c3i up3 kf3 kb3
            gi_wp2
            have hP := P3.out
            refine ⟨hP.2.2.2.2.1.trans keepsFrom_set, hP.2.2.2.2.2.setCell (p := ⟨w.heap.size + 1, 0, none⟩) (by simp) _, ⟨_, hP.2.1.set 0 _, ?_, hP.2.2.1.set_far 0 _ (by omega)⟩, hP.2.2.2.1.setCell (p := ⟨w.heap.size + 1, 0, none⟩) (by simp) _, ?_⟩
            · unfold PcsAt
              rw [vals_append, allP_snoc, HZ.out, if_pos rfl, HN.out, appP_last, if_neg (fun h => HF.out h.2)]
              have hfl : (L ++ [q, x.1]).length = m + 1 + 1 := by simp [HM.out]
              rw [hfl, show L ++ [q, x.1] = (L ++ [q]) ++ [x.1] by simp, flatP_last]
              exact ownsRow_moved hP.1 fun b cs hb _ => Below.heap_setCell w3 ⟨w.heap.size + 1, 0, none⟩ _ b (by simp; omega)
            · have := hP.2.2.2.2.1.size; have := HI4.out; simp [World.setCell]; omega
        · have he : ∀ w, (Op.equalIn 10000 116 (.agg #[.int .i64 q.cell.state, .int .i64 q.cell.lot, .int .i64 q.cell.owner, .int .i64 q.cell.holder]) (.agg #[.int .i64 x.1.cell.state, .int .i64 x.1.cell.lot, .int .i64 x.1.cell.owner, .int .i64 x.1.cell.holder])).run Try.prog w = .ok false w := fun w => (run_eqCell q.cell x.1.cell w).trans (by simp [hc])
          have HC := hid hc
          clear hc
          have o2 : ∀ k, ((W1.drewN k).alloc (.cells x.1.vals 118)).ownsRow (w.heap.size + 1 + 1) 118 6 (.slice (some ⟨g, 0, none⟩) (m + 1) cap) (m + 1) (flatP (L ++ [q])) := by
            intro k
            have h2 : (W1.drewN k).ownsRow (w.heap.size + 1 + 1) 118 6 (.slice (some ⟨g, 0, none⟩) (m + 1) cap) (m + 1) (flatP (L ++ [q])) := ownsRow_moved HROW.out fun _ _ _ _ => by simp [World.drewN]
            exact World.ownsRow.alloc h2 (.cells x.1.vals 118)
          have O2 := hid o2
          clear o2
          gi_wp2
          refine wpIn_region_quietF (free_round hF l) hmx (by kernel_rfl) ?_
          repeat (go_big_quiet_step (fail))
          refine wpQuiet_nil ?_
          intro _ hw'
          obtain ⟨nq, hw''⟩ := hw'
          subst hw''
          gi_wp2_with (gi_at_builtin; refine wpListIn_append_lies _ rfl (.tmp 54) (.tmp 56) 132 rfl (w.heap.size + 1 + 1) 118 i0 _ 6 48 under_pieces hi hz0 hz1 hz2 rfl (by decide) (.slice (some ⟨g, 0, none⟩) (m + 1) cap) (m + 1) (flatP (L ++ [q])) rfl (O2.out nq) ⟨W1.heap.size, 0, none⟩ 1 1 x.1.vals.toList rfl rfl ?c1 ?c2 (by decide) ?c3 ?c4 ?c5 _ rfl ?_)
          case c1 => exact pc_news W1 nq x.1
          case c2 => exact ⟨rfl, rfl, rfl, rfl, rfl, rfl⟩
          case c3 => unfold maxLen; omega
          case c4 => omega
          case c5 => have := J1.out.lt; simp; omega
          intro g' cap' w3 hown hgr hat hlt3
          have hrow := fun k h => (World.ownsRow.lt (O2.out nq) k h).1
          have c3o : Cells w3 (w.heap.size + 1) #[.slice (some ⟨g, 0, none⟩) (m + 1) cap] 132 := (hgr.block _ ((J1.out.drewN nq).alloc _).lt (fun e => by have := hrow _ e.symm; omega)).trans ((J1.out.drewN nq).alloc _)
          have c3i : Cells w3 w.heap.size #[.func (.func wf) #[] caps] 134 := (hgr.block _ ((J0.out.drewN nq).alloc _).lt (fun e => by have := hrow _ e.symm; omega)).trans ((J0.out.drewN nq).alloc _)
          have k6 : w3.cell? ⟨w.heap.size + 1, 0, none⟩ = some (.slice (some ⟨g, 0, none⟩) (m + 1) cap) := by simp [c3o.cell]
          have f6 : w3.frozen? ⟨w.heap.size + 1, 0, none⟩ = false := c3o.frozen 0
          have hg3 : w.heap.size + 1 + 1 ≤ g' := by
            rcases hat with h | h
            · exact hrow _ h
            · rw [h]; simp; omega
          have up3 : Below w.heap.size w w3 := (((drewN_below J3.out nq).alloc (by simpa using J3.out.size) _)).grown hgr (by have := J3.out.size; simp; omega) (fun k h => by have := hrow _ h; omega)
          have kf3 : KeepsFrom w2.heap.size W w3 := ((keepsFrom_below B3.out).trans (keepsFrom_below (W := W1) (((drewN_below (Below.refl _ _) nq).alloc (by simp) (.cells x.1.vals 118))))).trans (keepsFrom_grown hgr (ownsRow_isCells (O2.out nq)))
          have kb3 : Below w.heap.size W w3 := (((drewN_below (B3.out.mono I3.out.size) nq).alloc (by have := J3.out.size; simpa using this) _)).grown hgr (by have := J3.out.size; simp; omega) (fun k h => by have := hrow _ h; omega)
          have P3 := hid (And.intro hown (And.intro c3o (And.intro c3i (And.intro up3 (And.intro kf3 kb3)))))
          clear hown hgr hat hrow c3o c3i up3 kf3 kb3
          gi_wp2
          have hP := P3.out
          refine ⟨hP.2.2.2.2.1.trans keepsFrom_set, hP.2.2.2.2.2.setCell (p := ⟨w.heap.size + 1, 0, none⟩) (by simp) _, ⟨_, hP.2.1.set 0 _, ?_, hP.2.2.1.set_far 0 _ (by omega)⟩, hP.2.2.2.1.setCell (p := ⟨w.heap.size + 1, 0, none⟩) (by simp) _, ?_⟩
          · unfold PcsAt
            rw [vals_append, allP_snoc, HZ.out, if_pos rfl, HN.out, appP_last, if_neg (fun h => HC.out h.1)]
            have hfl : (L ++ [q, x.1]).length = m + 1 + 1 := by simp [HM.out]
            rw [hfl, show L ++ [q, x.1] = (L ++ [q]) ++ [x.1] by simp, flatP_last]
            exact ownsRow_moved hP.1 fun b cs hb _ => Below.heap_setCell w3 ⟨w.heap.size + 1, 0, none⟩ _ b (by simp; omega)
          · have := hP.2.2.2.2.1.size; have := HI4.out; simp [World.setCell]; omega
  case done =>
    rintro D ys W hD hS ⟨⟨v, i1, i2, i0⟩, i3, i4⟩ hK
    have k1 : W.cell? ⟨w.heap.size + 1, 0, none⟩ = some v := by simp [i1.cell]
    have I1 := hid i1
    have I2 := hid i2
    have I3 := hid i3
    have HD := hid hK
    clear i1 i2 i3 hK
    go_wp2
    refine ⟨by simp, .inl ⟨_, _, rfl, run_takeDeferred (b := D) (ds := []) HD.out, ?_⟩⟩
    refine ⟨_, results_tmp rfl _ _ _, _, rfl, ?_, ?_⟩
    · have := I2.out.kept (grownBy_putObj' W D (.deferred none)) (fun r e => by cases e; exact ⟨_, HD.out, rfl⟩)
      rw [hS] at this
      exact World.ownsRow.mono this (by omega)
    · exact I3.out.trans (belowK_b (w := w2) UP.out.size W D _ _ hD HD.out rfl rfl)
  case stop =>
    rintro D k pre W _ _ h _
    exact h.elim
end Go.Proofs.Ytnnbdjfeagcbdaa
namespace Go.Proofs.Ytnnbdjfeagcbdaa
set_option linter.unusedSimpArgs false
set_option linter.unusedVariables false
open Go.RowKit Go.Shelf
attribute [local go_sem] Oper.semAt_some
attribute [local go_sem ↓] Go.wp_at_zero Go.wp_at_succ

def encP (p : Pc) : List Value := p.vals.toList
theorem encP_len (p : Pc) : (encP p).length = 6 := rfl
theorem flatP_eq (l : List Pc) : flatP l = flatE encP l := rfl
theorem PcsAt.own {B : Nat} {w : World} {v : Value} {l : List Pc} (h : PcsAt B w v l) : OwnE encP 6 118 B w v l := h
/-- A piece as a hold. -/
def encH (p : Pc) : List Value := [.int .i64 p.from_, .int .i64 (p.to - p.from_ + 1), .int .i64 p.cell.lot, .int .i64 p.cell.owner, .int .i64 p.cell.holder]
theorem encH_len (p : Pc) : (encH p).length = 5 := rfl
theorem info_hold : (Try.prog.info? 50).map (fun i => (i.zero, i.size, i.bytes)) = some (some (.agg #[.int .i64 0, .int .i64 0, .int .i64 0, .int .i64 0, .int .i64 0]), 5, 40) := by kernel_rfl
theorem under_holds : Try.prog.underlying 44 = some (.slice 50) := by kernel_rfl

set_option maxRecDepth 100000 in
set_option maxHeartbeats 1000000 in
theorem span_calls (p : Pc) (hp : p.Good) (w : World) : Calls Try.prog 86 #[p.val] w fun e w' => e = .returned (.agg #[.int .i64 p.from_, .int .i64 (p.to - p.from_ + 1)]) ∧ Below w.heap.size w w' := by
  simp only [Pc.Good] at hp
  have hw1 : IntKind.i64.wrap (p.to - p.from_) = p.to - p.from_ := IntWalk.i64_in _ (by omega)
  have hw2 : IntKind.i64.wrap (p.to - p.from_ + 1) = p.to - p.from_ + 1 := IntWalk.i64_in _ (by omega)
  have l1 : w.heap.size < w.heap.size + 1 + 1 := by omega
  go_enter Try.func86, Try.ntmps86
  go_wp2
  refine bodyPost_ret (v := .agg #[.int .i64 p.from_, .int .i64 (p.to - p.from_ + 1)]) (by simp [results, Try.results86, go_sem]) rfl ⟨rfl, ?_⟩
  repeat (first | exact Below.refl _ _ | refine Below.setCell ?_ (by simp; try omega) _ | refine Below.alloc ?_ (by simp; try omega) _)

set_option maxRecDepth 100000 in
set_option maxHeartbeats 2000000 in
theorem holds_calls (w : World) (v : Value) (l : List Pc) (hv : ReadsE encP 6 w v l) (hl : l.length ≤ 10000000) (hg : ∀ p ∈ l, p.Good) :
    Calls Try.prog 66 #[v] w fun e w' => ∃ u, e = .returned u ∧ OwnE encH 5 50 w.heap.size w' u l ∧ Below w.heap.size w w' := by
  obtain ⟨i0, hi, hz0, hz1, hz2⟩ := info_parts info_hold
  obtain ⟨hm, p, cap, b, off, rfl, hp, hc⟩ := hv
  obtain ⟨n, hn⟩ : ∃ n, n = l.length := ⟨_, rfl⟩
  rw [← hn] at hp hl hm ⊢
  have HP := hid hp
  have HC := hid hc
  have HG := hid hg
  have HN := hid hn
  clear hp hc hg hn
  go_enter Try.func66, Try.ntmps66
  go_wp2
  go_loopw [3, 8] (fun u i wr => ∃ k : Nat, k ≤ n ∧ i = .int .i64 k ∧ OwnE encH 5 50 w.heap.size wr u (l.take k) ∧ Below w.heap.size w wr) (fun _ i _ => n - (intOf i).toNat)
  case atStart => exact ⟨0, Nat.zero_le _, rfl, OwnE.nil _ _, Below.refl _ _⟩
  case round =>
    obtain ⟨k, hk, rfl, ho, hb⟩ := hrel
    have HB := hid hb
    by_cases hlk : k < n
    · obtain ⟨rfl, hbl⟩ := HP.out (by omega)
      have hkl : k < l.length := by rw [← HN.out]; exact hlk
      obtain ⟨q, hq⟩ : ∃ q, q = l[k] := ⟨_, rfl⟩
      have hqg : q.Good := HG.out q (by rw [hq]; exact List.getElem_mem hkl)
      have key : ∀ j, j < 6 → wr.cell? ⟨b, off + k * 6 + j, none⟩ = (encP q)[j]? := fun j hj => by rw [hq]; exact (hb.cell (p := ⟨b, off + k * 6 + j, none⟩) hbl).trans (HC.out k hkl j hj)
      have c0 := key 0 (by omega)
      have c1 := key 1 (by omega)
      have c2 := key 2 (by omega)
      have c3 := key 3 (by omega)
      have c4 := key 4 (by omega)
      have c5 := key 5 (by omega)
      simp [encP] at c0 c1 c2 c3 c4 c5
      have HQ := hid hq
      have HO := hid ho
      have hlt : (l.take k).length = k := by rw [List.length_take]; omega
      have h64 : IntKind.i64.wrap ((k : Int) + 1) = (k : Int) + 1 := IntWalk.i64_in _ (by omega)
      have HO := hid (show wr.ownsRow w.heap.size 50 5 u3 k (flatE encH (l.take k)) by have := ho; unfold OwnE at this; rwa [hlt] at this)
      have HE := hid (show flatE encH (l.take (k + 1)) = flatE encH (l.take k) ++ encH q by rw [List.take_succ_eq_append_getElem hkl, flatE_snoc, hq])
      have l1 : wr.heap.size < wr.heap.size + 1 := by omega
      clear key hq ho hb hlt
      have HOW := hid (fun (w1 : World) (hb1 : Below (wr.alloc (.cells q.vals 118)).drew.heap.size (wr.alloc (.cells q.vals 118)).drew w1) => World.ownsRow.alloc (ownsRow_moved HO.out fun b cs _ hb' => (hb1.block b (by have := (Array.getElem?_eq_some_iff.1 hb').1; simp; omega)).trans (Below.heap_alloc wr _ b (Array.getElem?_eq_some_iff.1 hb').1)) (.cells #[.int .i64 q.from_, .int .i64 (q.to - q.from_ + 1), .int .i64 q.cell.lot, .int .i64 q.cell.owner, .int .i64 q.cell.holder] 50))
      have hb63 : k + 1 ≤ maxLen := by unfold maxLen; omega
      have hb47 : (k + 1) * 40 ≤ 140737488355328 := by omega
      have hwl : w.heap.size ≤ wr.heap.size := HB.out.size
      have hne : u3.ownBlock ≠ some wr.heap.size := fun e => by have := (World.ownsRow.lt HO.out _ e).2; omega
      go_wp2
      go_region_held3 (fun w' => w'.cell? ⟨wr.heap.size, 0, none⟩ = some (.int .i64 q.from_) ∧ w'.cell? ⟨wr.heap.size, 1, none⟩ = some (.int .i64 q.to) ∧ w'.cell? ⟨wr.heap.size, 2, none⟩ = some (.int .i64 q.cell.state) ∧ w'.cell? ⟨wr.heap.size, 3, none⟩ = some (.int .i64 q.cell.lot) ∧ w'.cell? ⟨wr.heap.size, 4, none⟩ = some (.int .i64 q.cell.owner) ∧ w'.cell? ⟨wr.heap.size, 5, none⟩ = some (.int .i64 q.cell.holder))
        (first
          | go_keep
          | (go_split_ands
             refine ⟨?_, ?_, ?_, ?_, ?_, ?_⟩
             all_goals (rw [hgr.cell_far _ (by simp; omega) (Ne.symm hne)]; assumption)))
        (first
          | ((with_reducible refine (span_calls q hqg _).mono ?_); rintro e w1 ⟨rfl, hb1⟩; obtain ⟨hc1, hf1⟩ := bcell hb1; have lo1 : wr.heap.size < w1.heap.size := (by have := hb1.size; (try simp at this); omega))
          | (refine step_append_lies _ (by rfl) _ _ _ (by rfl) w.heap.size 50 i0 _ 5 40 under_holds hi hz0 hz1 hz2 rfl (by omega) u3 k (flatE encH (l.take k)) (by rfl) (HOW.out w1 hb1) ⟨w1.heap.size, 0, none⟩ 1 1 (encH q) (by rfl) (by rfl) (news_of (Cells.new w1 _ _)) (by simp [Value.oneCell', encH]) (by omega) hb63 hb47 (by simp; omega) (w1.heap.size + 1) (by simp) ?_; intro g' cap' w3 hown hgr hat hlt3))
      have hb3 : Below w.heap.size w w3 := Below.grown (Below.alloc (((HB.out.alloc hwl _).drew).trans (hb1.mono (by simp; omega))) (by have := hb1.size; simp at this; omega) _) hgr (by simp; omega) (fun r h => (World.ownsRow.lt HO.out r h).1)
      have HB3 := hid hb3
      have HW := hid hown
      clear hb3 hown hgr hat hb1 hc1 hf1 lo1
      go_wp2
      go_roundw
      case rel => exact ⟨k + 1, by omega, by go_num, by unfold OwnE; rw [HE.out, List.length_take, ← HN.out, Nat.min_eq_left (by omega)]; exact HW.out, HB3.out⟩
      case measure => simp [intOf]; omega
    · have hkn : k = n := by omega
      subst hkn
      have HO := hid ho
      clear ho hb
      go_wp2
      go_ret
      exact ⟨_, rfl, by have := HO.out; rwa [List.take_of_length_le (by rw [← HN.out]; exact Nat.le_refl _)] at this, HB.out⟩
end Go.Proofs.Ytnnbdjfeagcbdaa
namespace Go.Proofs.Ytnnbdjfeagcbdaa
set_option linter.unusedSimpArgs false
set_option linter.unusedVariables false
open Go.RowKit Go.Shelf
attribute [local go_sem] Oper.semAt_some
attribute [local go_sem ↓] Go.wp_at_zero Go.wp_at_succ

def ownB (o : Int) (c : Cl) : Bool := decide (c.state = 1) && decide (c.owner = o)
def plgB (o : Int) (c : Cl) : Bool := decide (c.state = 1) && decide (c.holder = o)
/-- The holds that a question comes to. -/
def askL (is : Cl → Bool) (vs : List T) (v : Int) (r : Int) : List Pc := if r = 0 then allP is (vs[v.toNat]?.getD .nil).toList else []
def AskPost (w : World) (r : Int) (l : List Pc) (e : Ending) (w' : World) : Prop :=
  ∃ u, e = .returned (.tuple #[u, .int .i64 r]) ∧ OwnE encH 5 50 w.heap.size w' u l ∧ Below w.heap.size w w'
theorem visL_fine {t : T} (h : Fine t) : visL t 1 1000000 = t.toList := by rw [visL_eq 1 1000000 t h.sorted, visP_all _ h.sorted.good]
theorem appP_good (l : List Pc) (p : Pc) (h : ∀ q ∈ l, q.Good) (hp : p.Good) : ∀ q ∈ appP l p, q.Good := by
  induction l with
  | nil => intro q hq; simp [appP] at hq; subst hq; exact hp
  | cons a l ih =>
    cases l with
    | nil =>
      rw [appP_one]
      have ha := h a (by simp)
      intro q hq
      split at hq
      · rename_i hc
        simp at hq; subst hq
        simp only [Pc.Good] at *
        omega
      · simp at hq; rcases hq with rfl | rfl
        · exact ha
        · exact hp
    | cons b l =>
      rw [appP_cons _ _ _ (by simp)]
      intro q hq
      rcases List.mem_cons.1 hq with rfl | hq
      · exact h _ (by simp)
      · exact ih (fun x hx => h x (List.mem_cons_of_mem _ hx)) q hq
theorem allP_good (is : Cl → Bool) (l : List Pc) (h : ∀ p ∈ l, p.Good) : ∀ p ∈ allP is l, p.Good := by
  have key : ∀ (l acc : List Pc), (∀ p ∈ l, p.Good) → (∀ p ∈ acc, p.Good) → ∀ p ∈ l.foldl (fun acc p => if is p.cell then appP acc p else acc) acc, p.Good := by
    intro l
    induction l with
    | nil => intro acc _ h; exact h
    | cons p l ih =>
      intro acc hl hacc
      simp only [List.foldl_cons]
      refine ih _ (fun q hq => hl q (by simp [hq])) ?_
      split
      · exact appP_good acc p hacc (hl p (by simp))
      · exact hacc
  exact key l [] h (by intro q hq; simp at hq)

theorem atE_cases (n : Nat) (v : Int) (ok : Bool) : atE n v ok = 0 ∨ atE n v ok = 1 ∨ atE n v ok = 4 := by unfold atE; split <;> (try split) <;> simp
theorem atE_zero {n : Nat} {v : Int} {ok : Bool} (h : atE n v ok = 0) : 0 ≤ v ∧ v < n ∧ ok = true := by
  unfold atE at h
  split at h
  · omega
  · split at h
    · exact ⟨by omega, by omega, by assumption⟩
    · omega

set_option maxHeartbeats 2000000 in
theorem Holds1_calls (c : Cl) (o : Int) (B : Nat) (w : World) (h0 : w.cell? ⟨B, 0, none⟩ = some (.int .i64 o)) :
    Calls Try.prog 68 #[c.val, .pointer (some ⟨B, 0, none⟩)] w fun e w' => e = .returned (.bool (ownB o c)) ∧ Below w.heap.size w w' := by
  have hlt := World.block_lt_of_cell? _ _ h0
  by_cases h : c.state = 1
  · have hb : (c.state == 1) = true := by simp [h]
    by_cases h2 : c.owner = o
    · have hb2 : (c.owner == o) = true := by simp [h2]
      have e : ownB o c = true := by simp [ownB, h, h2]
      rw [e]
      clear h h2
      go_enter Try.func68, Try.ntmps68
      go_wp2
      go_ret
      exact ⟨rfl, Below.alloc (Below.refl _ _) (Nat.le_refl _) _⟩
    · have hb2 : (c.owner == o) = false := by simp [h2]
      have e : ownB o c = false := by simp [ownB, h2]
      rw [e]
      clear h h2
      go_enter Try.func68, Try.ntmps68
      go_wp2
      go_ret
      exact ⟨rfl, Below.alloc (Below.refl _ _) (Nat.le_refl _) _⟩
  · have hb : (c.state == 1) = false := by simp [h]
    have e : ownB o c = false := by simp [ownB, h]
    rw [e]
    clear h
    go_enter Try.func68, Try.ntmps68
    go_wp2
    go_ret
    exact ⟨rfl, Below.alloc (Below.refl _ _) (Nat.le_refl _) _⟩

set_option maxRecDepth 100000 in
set_option maxHeartbeats 4000000 in
theorem Holds_calls (w : World) (sB vB : Nat) (vs : List T) (hst : StAt w sB vB vs) (hn : vs.length ≤ 1000) (hf : ∀ t ∈ vs, Fine t) (o v : Int) :
    Calls Try.prog 26 #[.pointer (some ⟨sB, 0, none⟩), .int .i64 o, .int .i64 v] w
      (AskPost w (atE vs.length v (inB 1000 o)) (askL (ownB o) vs v (atE vs.length v (inB 1000 o)))) := by
  have hmf : ∀ (fn : Fn) (first cap : Array Value) (w : World), (Instr.makeFunc fn first cap).run Try.prog w = .ok (.func fn first cap) w := fun _ _ _ _ => rfl
  have ST := hid hst
  have FI := hid hf
  have I1 := hid (show IntsAt ((w.alloc (.cells #[.int .i64 o] 3)).alloc (.cells #[.int .i64 o] 3)) (.slice (some ⟨w.heap.size + 1, 0, none⟩) 1 1) [o] by
    have := ints_one (w.alloc (.cells #[.int .i64 o] 3)) o 3
    rwa [World.size_alloc] at this)
  have C0 := hid ((Cells.new w #[.int .i64 o] 3).alloc (.cells #[.int .i64 o] 3))
  have U0 := hid (show Below w.heap.size w ((w.alloc (.cells #[.int .i64 o] 3)).alloc (.cells #[.int .i64 o] 3)) from (((Below.refl _ _).alloc (Nat.le_refl _) _).alloc (by simp) _))
  clear hst hf
  go_enter Try.func26, Try.ntmps26
  go_wp2_with fail
  refine (are_calls 1000 _ _ [o] I1.out).mono ?_
  rintro e w1 ⟨rfl, hb1⟩
  rw [all_one]
  have B1 := hid (U0.out.trans (hb1.mono U0.out.size))
  have C1 := hid (C0.out.below hb1 C0.out.lt)
  clear hb1
  go_wp2_with fail
  refine (at_calls w1 sB vB vs (ST.out.below B1.out) (by omega) v (inB 1000 o)).mono ?_
  rintro e w2 ⟨rfl, p, rfl, htr⟩
  have HT := hid htr
  obtain ⟨r, hr⟩ : ∃ r, r = atE vs.length v (inB 1000 o) := ⟨_, rfl⟩
  have HR := hid hr
  rw [← hr]
  clear htr hr
  have l1 : w.heap.size < w2.heap.size := C1.out.lt
  by_cases hz : r = 0
  · subst hz
    have hv := atE_zero HR.out.symm
    obtain ⟨t, htt⟩ : ∃ t, t = vs[v.toNat]?.getD .nil := ⟨_, rfl⟩
    have fi : Fine t := FI.out t (by rw [htt, List.getElem?_eq_getElem (by omega)]; exact List.getElem_mem _)
    have tr : TreeAt w2 p t := by rw [htt]; exact HT.out HR.out.symm
    have al : ∀ (d : Cl) (W : World), Below w2.heap.size w2 W → W.cell? ⟨w.heap.size, 0, none⟩ = some (.int .i64 o) := fun d W hb => by rw [(C1.out.below hb C1.out.lt).cell]; rfl
    have FT := hid fi
    have TR := hid tr
    have AL := hid al
    have EQ := hid (show askL (ownB o) vs v 0 = allP (ownB o) t.toList by unfold askL; rw [if_pos rfl, htt])
    clear fi tr al htt hv
    go_wp2_with fail
    refine (all_calls w2 p t TR.out FT.out.good FT.out.sorted FT.out.few 68 #[.pointer (some ⟨w.heap.size, 0, none⟩)] (ownB o) (fun d W hb => Holds1_calls d o _ W (AL.out d W hb)) (enters_of Try.func68 (by kernel_rfl) rfl)).mono ?_
    rintro e w3 ⟨u, rfl, hu, hb3⟩
    rw [visL_fine FT.out] at hu
    have lu : (allP (ownB o) t.toList).length ≤ 10000000 := by have := allP_length (ownB o) t.toList; have := FT.out.few; omega
    have RU := hid (hu.own.reads encP_len (by omega))
    have B3 := hid (B1.out.trans (hb3.mono B1.out.size))
    clear hu hb3
    go_wp2_with fail
    refine (holds_calls w3 u _ RU.out lu (allP_good _ _ FT.out.sorted.good)).mono ?_
    rintro e w4 ⟨y, rfl, hy, hb4⟩
    have HY := hid hy
    have B4 := hid (B3.out.trans (hb4.mono B3.out.size))
    clear hy hb4
    go_wp2
    rw [← HR.out, EQ.out]
    refine bodyPost_ret (v := .tuple #[y, .int .i64 0]) (by simp [results, Try.results26, go_sem]) rfl ⟨y, rfl, HY.out.mono B3.out.size, B4.out⟩
  · have hz' : (r != 0) = true := by simp [hz]
    have EQ := hid (show askL (ownB o) vs v r = [] from if_neg hz)
    clear hz
    go_wp2
    rw [← HR.out, EQ.out]
    refine bodyPost_ret (v := .tuple #[.slice none 0 0, .int .i64 r]) (by simp [results, Try.results26, go_sem]) rfl ⟨_, rfl, OwnE.nil _ _, B1.out⟩

set_option maxHeartbeats 2000000 in
theorem Pledged1_calls (c : Cl) (o : Int) (B : Nat) (w : World) (h0 : w.cell? ⟨B, 0, none⟩ = some (.int .i64 o)) :
    Calls Try.prog 82 #[c.val, .pointer (some ⟨B, 0, none⟩)] w fun e w' => e = .returned (.bool (plgB o c)) ∧ Below w.heap.size w w' := by
  have hlt := World.block_lt_of_cell? _ _ h0
  by_cases h : c.state = 1
  · have hb : (c.state == 1) = true := by simp [h]
    by_cases h2 : c.holder = o
    · have hb2 : (c.holder == o) = true := by simp [h2]
      have e : plgB o c = true := by simp [plgB, h, h2]
      rw [e]
      clear h h2
      go_enter Try.func82, Try.ntmps82
      go_wp2
      go_ret
      exact ⟨rfl, Below.alloc (Below.refl _ _) (Nat.le_refl _) _⟩
    · have hb2 : (c.holder == o) = false := by simp [h2]
      have e : plgB o c = false := by simp [plgB, h2]
      rw [e]
      clear h h2
      go_enter Try.func82, Try.ntmps82
      go_wp2
      go_ret
      exact ⟨rfl, Below.alloc (Below.refl _ _) (Nat.le_refl _) _⟩
  · have hb : (c.state == 1) = false := by simp [h]
    have e : plgB o c = false := by simp [plgB, h]
    rw [e]
    clear h
    go_enter Try.func82, Try.ntmps82
    go_wp2
    go_ret
    exact ⟨rfl, Below.alloc (Below.refl _ _) (Nat.le_refl _) _⟩

set_option maxRecDepth 100000 in
set_option maxHeartbeats 4000000 in
theorem Pledged_calls (w : World) (sB vB : Nat) (vs : List T) (hst : StAt w sB vB vs) (hn : vs.length ≤ 1000) (hf : ∀ t ∈ vs, Fine t) (o v : Int) :
    Calls Try.prog 34 #[.pointer (some ⟨sB, 0, none⟩), .int .i64 o, .int .i64 v] w
      (AskPost w (atE vs.length v (inB 1000 o)) (askL (plgB o) vs v (atE vs.length v (inB 1000 o)))) := by
  have hmf : ∀ (fn : Fn) (first cap : Array Value) (w : World), (Instr.makeFunc fn first cap).run Try.prog w = .ok (.func fn first cap) w := fun _ _ _ _ => rfl
  have ST := hid hst
  have FI := hid hf
  have I1 := hid (show IntsAt ((w.alloc (.cells #[.int .i64 o] 3)).alloc (.cells #[.int .i64 o] 3)) (.slice (some ⟨w.heap.size + 1, 0, none⟩) 1 1) [o] by
    have := ints_one (w.alloc (.cells #[.int .i64 o] 3)) o 3
    rwa [World.size_alloc] at this)
  have C0 := hid ((Cells.new w #[.int .i64 o] 3).alloc (.cells #[.int .i64 o] 3))
  have U0 := hid (show Below w.heap.size w ((w.alloc (.cells #[.int .i64 o] 3)).alloc (.cells #[.int .i64 o] 3)) from (((Below.refl _ _).alloc (Nat.le_refl _) _).alloc (by simp) _))
  clear hst hf
  go_enter Try.func34, Try.ntmps34
  go_wp2_with fail
  refine (are_calls 1000 _ _ [o] I1.out).mono ?_
  rintro e w1 ⟨rfl, hb1⟩
  rw [all_one]
  have B1 := hid (U0.out.trans (hb1.mono U0.out.size))
  have C1 := hid (C0.out.below hb1 C0.out.lt)
  clear hb1
  go_wp2_with fail
  refine (at_calls w1 sB vB vs (ST.out.below B1.out) (by omega) v (inB 1000 o)).mono ?_
  rintro e w2 ⟨rfl, p, rfl, htr⟩
  have HT := hid htr
  obtain ⟨r, hr⟩ : ∃ r, r = atE vs.length v (inB 1000 o) := ⟨_, rfl⟩
  have HR := hid hr
  rw [← hr]
  clear htr hr
  have l1 : w.heap.size < w2.heap.size := C1.out.lt
  by_cases hz : r = 0
  · subst hz
    have hv := atE_zero HR.out.symm
    obtain ⟨t, htt⟩ : ∃ t, t = vs[v.toNat]?.getD .nil := ⟨_, rfl⟩
    have fi : Fine t := FI.out t (by rw [htt, List.getElem?_eq_getElem (by omega)]; exact List.getElem_mem _)
    have tr : TreeAt w2 p t := by rw [htt]; exact HT.out HR.out.symm
    have al : ∀ (d : Cl) (W : World), Below w2.heap.size w2 W → W.cell? ⟨w.heap.size, 0, none⟩ = some (.int .i64 o) := fun d W hb => by rw [(C1.out.below hb C1.out.lt).cell]; rfl
    have FT := hid fi
    have TR := hid tr
    have AL := hid al
    have EQ := hid (show askL (plgB o) vs v 0 = allP (plgB o) t.toList by unfold askL; rw [if_pos rfl, htt])
    clear fi tr al htt hv
    go_wp2_with fail
    refine (all_calls w2 p t TR.out FT.out.good FT.out.sorted FT.out.few 82 #[.pointer (some ⟨w.heap.size, 0, none⟩)] (plgB o) (fun d W hb => Pledged1_calls d o _ W (AL.out d W hb)) (enters_of Try.func82 (by kernel_rfl) rfl)).mono ?_
    rintro e w3 ⟨u, rfl, hu, hb3⟩
    rw [visL_fine FT.out] at hu
    have lu : (allP (plgB o) t.toList).length ≤ 10000000 := by have := allP_length (plgB o) t.toList; have := FT.out.few; omega
    have RU := hid (hu.own.reads encP_len (by omega))
    have B3 := hid (B1.out.trans (hb3.mono B1.out.size))
    clear hu hb3
    go_wp2_with fail
    refine (holds_calls w3 u _ RU.out lu (allP_good _ _ FT.out.sorted.good)).mono ?_
    rintro e w4 ⟨y, rfl, hy, hb4⟩
    have HY := hid hy
    have B4 := hid (B3.out.trans (hb4.mono B3.out.size))
    clear hy hb4
    go_wp2
    rw [← HR.out, EQ.out]
    refine bodyPost_ret (v := .tuple #[y, .int .i64 0]) (by simp [results, Try.results34, go_sem]) rfl ⟨y, rfl, HY.out.mono B3.out.size, B4.out⟩
  · have hz' : (r != 0) = true := by simp [hz]
    have EQ := hid (show askL (plgB o) vs v r = [] from if_neg hz)
    clear hz
    go_wp2
    rw [← HR.out, EQ.out]
    refine bodyPost_ret (v := .tuple #[.slice none 0 0, .int .i64 r]) (by simp [results, Try.results34, go_sem]) rfl ⟨_, rfl, OwnE.nil _ _, B1.out⟩

def cntL : List Pc → Int
  | [] => 0
  | p :: l => (p.to - p.from_ + 1) + cntL l
theorem cntL_snoc (l : List Pc) (p : Pc) : cntL (l ++ [p]) = cntL l + (p.to - p.from_ + 1) := by
  induction l with
  | nil => simp [cntL]
  | cons a l ih => simp only [List.cons_append, cntL, ih]; omega
theorem cntL_bound (l : List Pc) (h : ∀ p ∈ l, p.Good) : 0 ≤ cntL l ∧ cntL l ≤ 1000000 * l.length := by
  induction l with
  | nil => simp [cntL]
  | cons p l ih =>
    have := ih (fun q hq => h q (by simp [hq]))
    have hp := h p (by simp)
    simp only [Pc.Good] at hp
    simp only [cntL, List.length_cons]
    omega
theorem askL_good (is : Cl → Bool) (vs : List T) (hf : ∀ t ∈ vs, Fine t) (v r : Int) (h : r = 0 → 0 ≤ v ∧ v < vs.length) : (askL is vs v r).length ≤ 10000000 ∧ ∀ p ∈ askL is vs v r, p.Good := by
  unfold askL
  split
  · rename_i hr
    have hv := h hr
    have fi : Fine (vs[v.toNat]?.getD .nil) := hf _ (by rw [List.getElem?_eq_getElem (by omega)]; exact List.getElem_mem _)
    exact ⟨Nat.le_trans (allP_length _ _) fi.few, allP_good _ _ fi.sorted.good⟩
  · exact ⟨by simp, fun p hp => by simp at hp⟩

set_option maxRecDepth 100000 in
set_option maxHeartbeats 4000000 in
theorem Count_calls (w : World) (sB vB : Nat) (vs : List T) (hst : StAt w sB vB vs) (hn : vs.length ≤ 1000) (hf : ∀ t ∈ vs, Fine t) (o v : Int) :
    Calls Try.prog 27 #[.pointer (some ⟨sB, 0, none⟩), .int .i64 o, .int .i64 v] w fun e w' =>
      e = .returned (.tuple #[.int .i64 (cntL (askL (ownB o) vs v (atE vs.length v (inB 1000 o)))), .int .i64 (atE vs.length v (inB 1000 o))]) ∧ Below w.heap.size w w' := by
  have AG := askL_good (ownB o) vs hf v (atE vs.length v (inB 1000 o)) (fun h => ⟨(atE_zero h).1, (atE_zero h).2.1⟩)
  obtain ⟨l, hl⟩ : ∃ l, l = askL (ownB o) vs v (atE vs.length v (inB 1000 o)) := ⟨_, rfl⟩
  have HC := hid (Holds_calls w sB vB vs hst hn hf o v)
  rw [← hl] at AG HC ⊢
  obtain ⟨r, hr⟩ : ∃ r, r = atE vs.length v (inB 1000 o) := ⟨_, rfl⟩
  rw [← hr] at HC ⊢
  clear hl hr hst hf hn
  have HG := hid AG.2
  have hlen := AG.1
  clear AG
  obtain ⟨n, hn⟩ : ∃ n, n = l.length := ⟨_, rfl⟩
  rw [← hn] at hlen
  have HN := hid hn
  clear hn
  go_enter Try.func27, Try.ntmps27
  go_wp2_with fail
  refine HC.out.mono ?_
  rintro e w1 ⟨u, rfl, hu, hb1⟩
  obtain ⟨hm, p, cap, b, off, rfl, hp, hc⟩ := hu.reads encH_len (by rw [← HN.out]; omega)
  rw [← HN.out] at hp
  have HP := hid hp
  have HCC := hid hc
  have HB1 := hid hb1
  rw [← HN.out]
  clear hu hb1 hp hc hm
  go_wp2
  go_loopw [10, 22] (fun s i wr => ∃ k : Nat, k ≤ n ∧ i = .int .i64 k ∧ s = .int .i64 (cntL (l.take k)) ∧ Below w1.heap.size w1 wr) (fun _ i _ => n - (intOf i).toNat)
  case atStart => exact ⟨0, Nat.zero_le _, rfl, rfl, Below.refl _ _⟩
  case round =>
    obtain ⟨k, hk, rfl, rfl, hb⟩ := hrel
    have HB := hid hb
    by_cases hlk : k < n
    · obtain ⟨rfl, hbl⟩ := HP.out (by omega)
      have hkl : k < l.length := by rw [← HN.out]; exact hlk
      obtain ⟨q, hq⟩ : ∃ q, q = l[k] := ⟨_, rfl⟩
      have hqg : q.Good := HG.out q (by rw [hq]; exact List.getElem_mem hkl)
      have key : ∀ j, j < 5 → wr.cell? ⟨b, off + k * 5 + j, none⟩ = (encH q)[j]? := fun j hj => by rw [hq]; exact (hb.cell (p := ⟨b, off + k * 5 + j, none⟩) hbl).trans (HCC.out k hkl j hj)
      have c0 := key 0 (by omega)
      have c1 := key 1 (by omega)
      have c2 := key 2 (by omega)
      have c3 := key 3 (by omega)
      have c4 := key 4 (by omega)
      simp [encH] at c0 c1 c2 c3 c4
      have SN := hid (show cntL (l.take (k + 1)) = cntL (l.take k) + (q.to - q.from_ + 1) by rw [List.take_succ_eq_append_getElem hkl, cntL_snoc, hq])
      have bd := cntL_bound (l.take k) (fun p hp => HG.out p (List.mem_of_mem_take hp))
      have bl : (l.take k).length ≤ k := List.length_take_le _ _
      simp only [Pc.Good] at hqg
      obtain ⟨S, hS⟩ : ∃ S, S = cntL (l.take k) := ⟨_, rfl⟩
      rw [← hS] at bd SN ⊢
      have w1' : IntKind.i64.wrap (S + (q.to - q.from_ + 1)) = S + (q.to - q.from_ + 1) := IntWalk.i64_in _ (by omega)
      have h64 : IntKind.i64.wrap ((k : Int) + 1) = (k : Int) + 1 := IntWalk.i64_in _ (by omega)
      clear key hq hb bd bl hS hkl
      have l1 : wr.heap.size < wr.heap.size + 1 := by omega
      go_wp2
      go_roundw
      case rel => exact ⟨k + 1, by omega, by go_num, by rw [SN.out], (by have hbb := HB.out.size; have h0 := HB.out; repeat (first | exact h0 | refine Below.setCell ?_ (by first | omega | (simp; omega)) _ | refine Below.alloc ?_ (by first | omega | (simp; omega)) _))⟩
      case measure => simp [intOf]; omega
    · have hkn : k = n := by omega
      subst hkn
      have ht : l.take k = l := List.take_of_length_le (by rw [← HN.out]; exact Nat.le_refl _)
      rw [ht]
      clear hb ht
      go_wp2
      refine bodyPost_ret (v := .tuple #[.int .i64 (cntL l), .int .i64 r]) (by simp [results, Try.results27, go_sem]) rfl ⟨rfl, HB1.out.trans (HB.out.mono HB1.out.size)⟩
end Go.Proofs.Ytnnbdjfeagcbdaa
namespace Go.Proofs.Ytnnbdjfeagcbdaa
set_option linter.unusedSimpArgs false
set_option linter.unusedVariables false
open Go.RowKit Go.Shelf
attribute [local go_sem] Oper.semAt_some
attribute [local go_sem ↓] Go.wp_at_zero Go.wp_at_succ

/-- The state of the last piece of a list. -/
def endC (l : List Pc) : Cl := l.foldl (fun _ p => p.cell) ⟨0, 0, 0, 0⟩
theorem endC_snoc (l : List Pc) (p : Pc) : endC (l ++ [p]) = p.cell := by simp [endC]
def pocC (vs : List T) (n v r : Int) : Cl := if r = 0 then endC (visL (vs[v.toNat]?.getD .nil) n n) else ⟨0, 0, 0, 0⟩

set_option maxRecDepth 100000 in
set_option maxHeartbeats 4000000 in
theorem Pocket_calls (w : World) (sB vB : Nat) (vs : List T) (hst : StAt w sB vB vs) (hn : vs.length ≤ 1000) (hf : ∀ t ∈ vs, Fine t) (n v : Int) :
    Calls Try.prog 28 #[.pointer (some ⟨sB, 0, none⟩), .int .i64 n, .int .i64 v] w fun e w' =>
      e = .returned (.tuple #[(pocC vs n v (atE vs.length v (inB 1000000 n))).val, .int .i64 (atE vs.length v (inB 1000000 n))]) ∧ Below w.heap.size w w' := by
  have ST := hid hst
  have FI := hid hf
  have C0 := hid ((Cells.new w #[.int .i64 0, .int .i64 0, .int .i64 0, .int .i64 0] 52).alloc (.cells #[.int .i64 n] 3))
  have I1 := hid (show IntsAt ((w.alloc (.cells #[.int .i64 0, .int .i64 0, .int .i64 0, .int .i64 0] 52)).alloc (.cells #[.int .i64 n] 3)) (.slice (some ⟨w.heap.size + 1, 0, none⟩) 1 1) [n] by
    have := ints_one (w.alloc (.cells #[.int .i64 0, .int .i64 0, .int .i64 0, .int .i64 0] 52)) n 3
    rwa [World.size_alloc] at this)
  have U0 := hid (show Below w.heap.size w ((w.alloc (.cells #[.int .i64 0, .int .i64 0, .int .i64 0, .int .i64 0] 52)).alloc (.cells #[.int .i64 n] 3)) from (((Below.refl _ _).alloc (Nat.le_refl _) _).alloc (by simp) _))
  clear hst hf
  obtain ⟨F, hFe⟩ : ∃ F, F = Fence.wide := ⟨_, rfl⟩
  have hF : Free F Try.prog := hFe ▸ free_wide _
  have hro : F.round = none := by rw [hFe]; rfl
  have FE := hid hFe
  clear hFe
  refine (callsIn_wide (n := 6)).1 ?_
  rw [← FE.out]
  refine callsIn_of_wp_marks Try.func28 rfl (hF.fn _) ?_ hro
  rw [FE.out]
  refine wpIn_wide.2 ?_
  simp only [Try.ntmps28, List.size_toArray, List.length_cons, List.length_nil, Nat.reduceAdd, Nat.reduceSub, Array.replicate_succ, Array.replicate_zero, List.push_toArray, List.append_toArray, List.nil_append, List.cons_append]
  go_wp2_with fail
  refine (are_calls 1000000 _ _ [n] I1.out).mono ?_
  rintro e w1 ⟨rfl, hb1⟩
  rw [all_one]
  have B1 := hid (U0.out.trans (hb1.mono U0.out.size))
  have C1 := hid (C0.out.below hb1 C0.out.lt)
  clear hb1
  go_wp2_with fail
  refine (at_calls w1 sB vB vs (ST.out.below B1.out) (by omega) v (inB 1000000 n)).mono ?_
  rintro e w2 ⟨rfl, p, rfl, htr⟩
  have HT := hid htr
  obtain ⟨r, hr⟩ : ∃ r, r = atE vs.length v (inB 1000000 n) := ⟨_, rfl⟩
  have HR := hid hr
  rw [← hr]
  clear htr hr
  have l1 : w.heap.size < w2.heap.size := C1.out.lt
  have f0 : ∀ j, w2.frozen? ⟨w.heap.size, j, none⟩ = false := fun j => C1.out.frozen j
  have F0 := hid f0
  by_cases hz : r = 0
  · subst hz
    have hv := atE_zero HR.out.symm
    have hn1 : 1 ≤ n ∧ n ≤ 1000000 := by have := hv.2.2; simp only [inB, Bool.and_eq_true, decide_eq_true_eq] at this; exact this
    obtain ⟨t, htt⟩ : ∃ t, t = vs[v.toNat]?.getD .nil := ⟨_, rfl⟩
    have fi : Fine t := FI.out t (by rw [htt, List.getElem?_eq_getElem (by omega)]; exact List.getElem_mem _)
    have tr : TreeAt w2 p t := by rw [htt]; exact HT.out HR.out.symm
    have FT := hid fi
    have TR := hid tr
    have EQ := hid (show pocC vs n v 0 = endC (visL t n n) by unfold pocC; rw [if_pos rfl, htt])
    have CO := hid (Cells.new w2 #[.int .i64 0, .int .i64 0, .int .i64 0, .int .i64 0] 116)
    clear fi tr htt hv f0
    go_wp2_with fail
    refine (within_made p n n _).mono ?_
    rintro e w3 ⟨u, rfl, ⟨B0, B1', B2, rfl, hB0, hB1, hB2⟩, hb3⟩
    have co := CO.out.below hb3 (by simp)
    have b3 : Below w2.heap.size w2 w3 := Below.trans ((Below.refl _ w2).alloc (Nat.le_refl _) (.cells #[.int .i64 0, .int .i64 0, .int .i64 0, .int .i64 0] 116)) (hb3.mono (by simp))
    have B3 := hid b3
    have T3 := hid (TR.out.below b3)
    have CO3 := hid co
    clear co hb3 b3
    go_wp2
    refine (wpIn_wide (n := 6)).1 ?_
    rw [← FE.out]
    refine wpIn_rangeFunc_ownH hro (by omega) (gf := 102) (lb := #[.pointer (some ⟨B0, 0, none⟩), .pointer (some ⟨B1', 0, none⟩), .pointer (some ⟨B2, 0, none⟩)]) rfl (hF.fn _) (enters_of Try.func102 (by kernel_rfl) rfl)
      (within_stops F hF hro _ B0 B1' B2 w2.heap.size p t FT.out.good n n ⟨hn1.1, Int.le_refl _, hn1.2⟩ w3 hB0.lt hB1.lt hB2.lt B3.out.size (by simp [hB0.cell]) (by simp [hB1.cell]) (by simp [hB2.cell]) (Tn.of_tree (Nat.le_refl _) B3.out TR.out))
      belowK_t (belowK_b B3.out.size) (Below.refl _ _) (fun _ => rfl)
      (fun pre W => Cells W w2.heap.size (endC (vals pre)).vals 116 ∧ Below w2.heap.size w2 W ∧ w3.heap.size ≤ W.heap.size)
      (fun _ _ _ => False)
      (OwnFrom.and (fun s X Y row h hg hr => h.kept hg (fun r e => (hr r e).2)) (OwnFrom.and (ownFrom_below (Nat.le_refl _) B3.out.size) (fun s X Y row h hg hr => Nat.le_trans h hg.size)))
      (fun _ _ _ _ _ h _ _ => h)
      ⟨CO3.out, B3.out, Nat.le_refl _⟩
      (fun x a' W => ∃ Bx, w3.heap.size ≤ Bx ∧ Cells W Bx x.1.vals 118 ∧ a' = { tmps := #[.pointer (some ⟨sB, 0, none⟩), .int .i64 n, .int .i64 v, undef, undef, undef, .pointer (some ⟨w.heap.size, 0, none⟩), .int .i64 0, .pointer p, .int .i64 0, .pointer (some ⟨w2.heap.size, 0, none⟩), .pointer (some ⟨Bx, 0, none⟩), .tuple #[.pointer p, .int .i64 0], .pointer (some ⟨sB, 0, none⟩), .int .i64 v, .int .i64 n, .slice (some ⟨w.heap.size + 1, 0, none⟩) 1 1, .bool (inB 1000000 n), .tuple #[.pointer p, .int .i64 0], .pointer p, .int .i64 0, .int .i64 0, .bool false, undef, undef, .pointer p, .int .i64 n, .int .i64 n,
        .func (.func 102) #[] #[.pointer (some ⟨B0, 0, none⟩), .pointer (some ⟨B1', 0, none⟩), .pointer (some ⟨B2, 0, none⟩)], x.1.val, undef, undef, undef, undef, undef, undef, undef, undef, undef, undef, undef], defers := [] })
      (fun x a' s X Y row h hg hr => by obtain ⟨Bx, h1, h2, h3⟩ := h; exact ⟨Bx, h1, h2.kept hg (fun r e => (hr r e).2), h3⟩) ?assign ?body ?done ?stop
    case assign =>
      rintro l pre x W K ⟨i1, i2, i3⟩ hK
      gi_wp2
      exact hK _ _ ((KeepsOthers.alloc _ _).from _) ((Below.refl _ W).alloc i2.size _) ⟨i1.alloc _, i2.alloc i2.size _, by simp; omega⟩ ⟨W.heap.size, i3, Cells.new _ _ _, rfl⟩
    case body =>
      rintro l pre x a' W hl _ ⟨i1, i2, i3⟩ ⟨Bx, hBx, hcx, rfl⟩ hlt
      obtain ⟨e0, e1, e2, e3, e4, e5⟩ := pc_facts hcx
      have f10 : ∀ j, W.frozen? ⟨w2.heap.size, j, none⟩ = false := fun j => i1.frozen j
      have lW : w2.heap.size < W.heap.size := i1.lt
      have d0 : W.cell? ⟨w2.heap.size, 0, none⟩ = some (.int .i64 (endC (vals pre)).state) := by simp [i1.cell]
      have d1 : W.cell? ⟨w2.heap.size, 1, none⟩ = some (.int .i64 (endC (vals pre)).lot) := by simp [i1.cell]
      have d2 : W.cell? ⟨w2.heap.size, 2, none⟩ = some (.int .i64 (endC (vals pre)).owner) := by simp [i1.cell]
      have d3 : W.cell? ⟨w2.heap.size, 3, none⟩ = some (.int .i64 (endC (vals pre)).holder) := by simp [i1.cell]
      have II := hid (And.intro i1 (And.intro i2 i3))
      clear i1 i2 i3 hcx
      gi_wp2
      have hs := (((II.out.1.set 0 (.int .i64 x.1.cell.state)).set 1 (.int .i64 x.1.cell.lot)).set 2 (.int .i64 x.1.cell.owner)).set 3 (.int .i64 x.1.cell.holder)
      refine ⟨?_, ?_, by rw [vals_append, endC_snoc]; exact hs, ?_, by simpa [World.setCell] using II.out.2.2⟩
      · exact ((keepsFrom_set.trans keepsFrom_set).trans keepsFrom_set).trans keepsFrom_set
      · have hB : Below w2.heap.size W W := Below.refl _ _
        repeat (first | exact hB | refine Below.setCell ?_ (by simp) _)
      · have hB := II.out.2.1
        repeat (first | exact hB | refine Below.setCell ?_ (by simp) _)
    case done =>
      rintro D ys W hD hS ⟨i1, i2, i3⟩ hK
      have d0 : W.cell? ⟨w2.heap.size, 0, none⟩ = some (.int .i64 (endC (vals ys)).state) := by simp [i1.cell]
      have d1 : W.cell? ⟨w2.heap.size, 1, none⟩ = some (.int .i64 (endC (vals ys)).lot) := by simp [i1.cell]
      have d2 : W.cell? ⟨w2.heap.size, 2, none⟩ = some (.int .i64 (endC (vals ys)).owner) := by simp [i1.cell]
      have d3 : W.cell? ⟨w2.heap.size, 3, none⟩ = some (.int .i64 (endC (vals ys)).holder) := by simp [i1.cell]
      have c2 : Cells W w.heap.size #[.int .i64 0, .int .i64 0, .int .i64 0, .int .i64 0] 52 := C1.out.below i2 C1.out.lt
      have k0 : W.cell? ⟨w.heap.size, 0, none⟩ = some (.int .i64 0) := by simp [c2.cell]
      have k1 : W.cell? ⟨w.heap.size, 1, none⟩ = some (.int .i64 0) := by simp [c2.cell]
      have k2 : W.cell? ⟨w.heap.size, 2, none⟩ = some (.int .i64 0) := by simp [c2.cell]
      have k3 : W.cell? ⟨w.heap.size, 3, none⟩ = some (.int .i64 0) := by simp [c2.cell]
      have fz : ∀ j, W.frozen? ⟨w.heap.size, j, none⟩ = false := fun j => c2.frozen j
      have lz := c2.lt
      have C2 := hid c2
      have II := hid (And.intro i1 (And.intro i2 i3))
      have EN := hid (show endC (vals ys) = endC (visL t n n) by rw [hS])
      clear i1 i2 i3 c2
      obtain ⟨q, hq⟩ : ∃ q, q = endC (vals ys) := ⟨_, rfl⟩
      rw [← hq] at d0 d1 d2 d3 EN II
      have HK := hid hK
      clear hK hq hS
      go_wp2
      have hs := (((C2.out.set 0 (.int .i64 q.state)).set 1 (.int .i64 q.lot)).set 2 (.int .i64 q.owner)).set 3 (.int .i64 q.holder)
      have k1 := (KeepsOthers.setCell W ⟨w.heap.size, 0, none⟩ (.int .i64 q.state)).same D _ HK.out rfl
      have k2 := (KeepsOthers.setCell (W.setCell ⟨w.heap.size, 0, none⟩ (.int .i64 q.state)) ⟨w.heap.size, 1, none⟩ (.int .i64 q.lot)).same D _ k1 rfl
      have k3 := (KeepsOthers.setCell ((W.setCell ⟨w.heap.size, 0, none⟩ (.int .i64 q.state)).setCell ⟨w.heap.size, 1, none⟩ (.int .i64 q.lot)) ⟨w.heap.size, 2, none⟩ (.int .i64 q.owner)).same D _ k2 rfl
      have d1' := (KeepsOthers.setCell (((W.setCell ⟨w.heap.size, 0, none⟩ (.int .i64 q.state)).setCell ⟨w.heap.size, 1, none⟩ (.int .i64 q.lot)).setCell ⟨w.heap.size, 2, none⟩ (.int .i64 q.owner)) ⟨w.heap.size, 3, none⟩ (.int .i64 q.holder)).same D _ k3 rfl
      refine ⟨by simp, .inl ⟨_, _, rfl, run_takeDeferred (b := D) (ds := []) d1', ?_⟩⟩
      have hc := hs.put (l := D) (o := .deferred (some [])) d1' rfl (.deferred none)
      refine ⟨.tuple #[q.val, .int .i64 0], by simp [results, Try.results28, go_sem, hc.cell], ?_, ?_⟩
      · rw [← HR.out, EQ.out, ← EN.out]
      · have hB := B1.out
        have hI := II.out.2.1
        have b1 := Below.setCell (Below.setCell (Below.setCell (Below.setCell (hB.trans (hI.mono hB.size)) (p := ⟨w.heap.size, 0, none⟩) (by simp) (.int .i64 q.state)) (p := ⟨w.heap.size, 1, none⟩) (by simp) (.int .i64 q.lot)) (p := ⟨w.heap.size, 2, none⟩) (by simp) (.int .i64 q.owner)) (p := ⟨w.heap.size, 3, none⟩) (by simp) (.int .i64 q.holder)
        exact b1.trans (belowK_b (w := w) (Nat.le_refl _) _ D _ _ (by have := hB.size; have := B3.out.size; omega) d1' rfl rfl)
    case stop =>
      rintro D k pre W _ _ h _
      exact h.elim
  · have hz' : (r != 0) = true := by simp [hz]
    have EQ := hid (show pocC vs n v r = ⟨0, 0, 0, 0⟩ from if_neg hz)
    have k0 : w2.cell? ⟨w.heap.size, 0, none⟩ = some (.int .i64 0) := by simp [C1.out.cell]
    have k1 : w2.cell? ⟨w.heap.size, 1, none⟩ = some (.int .i64 0) := by simp [C1.out.cell]
    have k2 : w2.cell? ⟨w.heap.size, 2, none⟩ = some (.int .i64 0) := by simp [C1.out.cell]
    have k3 : w2.cell? ⟨w.heap.size, 3, none⟩ = some (.int .i64 0) := by simp [C1.out.cell]
    clear hz
    go_wp2
    have hs := (((C1.out.set 0 (.int .i64 0)).set 1 (.int .i64 0)).set 2 (.int .i64 0)).set 3 (.int .i64 0)
    refine ⟨.tuple #[.agg #[.int .i64 0, .int .i64 0, .int .i64 0, .int .i64 0], .int .i64 r], by simp [results, Try.results28, go_sem, hs.cell], ?_, ?_⟩
    · rw [← HR.out, EQ.out]
    have hB := B1.out
    repeat (first | exact hB | refine Below.setCell ?_ (by simp) _)
end Go.Proofs.Ytnnbdjfeagcbdaa
namespace Go.Proofs.Ytnnbdjfeagcbdaa
set_option linter.unusedSimpArgs false
set_option linter.unusedVariables false
open Go.RowKit

/-- How many pockets the pieces in some states have. -/
def sumP (is : Cl → Bool) : List Pc → Int
  | [] => 0
  | p :: l => (if is p.cell = true then p.to - p.from_ + 1 else 0) + sumP is l
theorem sumP_append (is : Cl → Bool) : ∀ l m : List Pc, sumP is (l ++ m) = sumP is l + sumP is m
  | [], m => by simp [sumP]
  | p :: l, m => by simp only [List.cons_append, sumP, sumP_append is l m]; omega
theorem sumP_appP (is : Cl → Bool) : ∀ (l : List Pc) (p : Pc), sumP is (appP l p) = sumP is l + (if is p.cell = true then p.to - p.from_ + 1 else 0)
  | [], p => by simp [appP, sumP]
  | [q], p => by
    rw [appP_one]
    split
    · rename_i h
      simp only [sumP, h.1]
      split <;> omega
    · simp only [sumP]; omega
  | q :: r :: l, p => by
    rw [appP_cons _ _ _ (by simp)]
    simp only [sumP, sumP_appP is (r :: l) p]
    omega
theorem sumP_all (is : Cl → Bool) (l : List Pc) : cntL (allP is l) = sumP is l := by
  have c : ∀ m : List Pc, cntL m = sumP (fun _ => true) m := by
    intro m
    induction m with
    | nil => rfl
    | cons p m ih => simp [cntL, sumP, ih]
  rw [c]
  have key : ∀ (l acc : List Pc), sumP (fun _ => true) (l.foldl (fun acc p => if is p.cell then appP acc p else acc) acc) = sumP (fun _ => true) acc + sumP is l := by
    intro l
    induction l with
    | nil => intro acc; simp [sumP]
    | cons p l ih =>
      intro acc
      rw [List.foldl_cons, ih]
      simp only [sumP]
      split
      · rename_i h
        rw [sumP_appP]; simp; omega
      · rename_i h
        omega
  have := key l []
  rw [show allP is l = l.foldl (fun acc p => if is p.cell then appP acc p else acc) [] from rfl, this]
  simp [sumP]
theorem sumP_join (is : Cl → Bool) (l m : List Pc) : sumP is (joinP l m) = sumP is l + sumP is m := by
  cases m with
  | nil => simp [joinP, sumP]
  | cons p r => rw [joinP, sumP_append, sumP_appP]; simp only [sumP]; omega
theorem sumP_own (is : Cl → Bool) (g : Cl → Cl) (l : List Pc) : sumP is (ownP g l) = sumP (fun c => is (g c)) l := by
  have key : ∀ (l acc : List Pc), sumP is (l.foldl (fun acc p => appP acc ⟨p.from_, p.to, g p.cell⟩) acc) = sumP is acc + sumP (fun c => is (g c)) l := by
    intro l
    induction l with
    | nil => intro acc; simp [sumP]
    | cons p l ih => intro acc; rw [List.foldl_cons, ih, sumP_appP]; simp only [sumP]; omega
  have := key l []
  rw [show ownP g l = l.foldl (fun acc p => appP acc ⟨p.from_, p.to, g p.cell⟩) [] from rfl, this]
  simp [sumP]
theorem sumP_split (is : Cl → Bool) : ∀ (l : List Pc) (x : Int), sumP is (splitP l x).1 + sumP is (splitP l x).2 = sumP is l
  | [], x => by simp [splitP, sumP]
  | p :: l, x => by
    simp only [splitP]
    split
    · simp [sumP]
    · split
      · have := sumP_split is l x
        simp only [sumP]; omega
      · simp only [sumP]; split <;> omega
theorem sumP_const {l : List Pc} {a b : Int} (h : Tiles l a b) : sumP (fun _ => true) l = b + 1 - a := by
  induction l generalizing a with
  | nil => simp only [Tiles] at h; simp [sumP]; omega
  | cons p l ih => obtain ⟨h1, h2, h3⟩ := h; simp [sumP, ih h3]; omega
theorem sumP_congr {is js : Cl → Bool} {l : List Pc} (h : ∀ p ∈ l, is p.cell = js p.cell) : sumP is l = sumP js l := by
  induction l with
  | nil => rfl
  | cons p l ih => simp only [sumP, h p (by simp), ih (fun q hq => h q (by simp [hq]))]
theorem sumP_false {l : List Pc} : sumP (fun _ => false) l = 0 := by
  induction l with
  | nil => rfl
  | cons p l ih => simp [sumP, ih]
theorem sumP_or {is js : Cl → Bool} (l : List Pc) (h : ∀ c, ¬ (is c = true ∧ js c = true)) : sumP (fun c => is c || js c) l = sumP is l + sumP js l := by
  induction l with
  | nil => rfl
  | cons p l ih =>
    simp only [sumP, ih]
    have := h p.cell
    by_cases h1 : is p.cell = true <;> by_cases h2 : js p.cell = true <;> simp_all <;> omega
theorem sumP_bound {is : Cl → Bool} {l : List Pc} {a b : Int} (h : Tiles l a b) : 0 ≤ sumP is l ∧ sumP is l ≤ b + 1 - a := by
  induction l generalizing a with
  | nil => simp only [Tiles] at h; simp [sumP]; omega
  | cons p l ih =>
    obtain ⟨h1, h2, h3⟩ := h
    have := ih h3
    simp only [sumP]
    split <;> omega

/-- The pieces of a span, whole. -/
def midP (l : List Pc) (a c : Int) : List Pc := (splitP (splitP l a).2 (a + c)).1
theorem sumP_changed (is : Cl → Bool) (g : Cl → Cl) (l : List Pc) (a c : Int) : sumP is (changedP l a c g) = sumP is l - sumP is (midP l a c) + sumP (fun d => is (g d)) (midP l a c) := by
  have h1 := sumP_split is l a
  have h2 := sumP_split is (splitP l a).2 (a + c)
  rw [changedP, sumP_join, sumP_join, sumP_own]
  unfold midP
  omega
theorem Tiles.val : ∀ {l : List Pc} {a b : Int}, Tiles l a b → ∀ p ∈ l, ∀ n, p.from_ ≤ n → n ≤ p.to → valL l n = p.cell
  | [], _, _, _ => by simp
  | q :: l, a, b, ⟨h1, h2, h3⟩ => by
    intro p hp n hn1 hn2
    rcases List.mem_cons.1 hp with rfl | hp
    · rw [valL, if_pos ⟨hn1, hn2⟩]
    · have := h3.mem p hp
      rw [valL, if_neg (by omega)]
      exact h3.val p hp n hn1 hn2
theorem midP_tiles {l : List Pc} {a c : Int} (h : Tiles l 1 1000000) (ha : 1 ≤ a) (hc : 1 ≤ c) (hac : a + c - 1 ≤ 1000000) : Tiles (midP l a c) a (a + c - 1) :=
  (splitP_tiles (splitP_tiles h a ha (by omega)).2 (a + c) (by omega) (by omega)).1
theorem midP_val {l : List Pc} {a c : Int} (h : Tiles l 1 1000000) (ha : 1 ≤ a) (hc : 1 ≤ c) (hac : a + c - 1 ≤ 1000000) : ∀ p ∈ midP l a c, p.cell = valL l p.from_ ∧ a ≤ p.from_ ∧ p.from_ ≤ p.to ∧ p.to ≤ a + c - 1 := by
  intro p hp
  have ht := midP_tiles h ha hc hac
  have hm := ht.mem p hp
  have hv := ht.val p hp p.from_ (by omega) (by omega)
  have h1 := splitP_tiles h a ha (by omega)
  have v1 := splitP_val h a ha (by omega) p.from_
  have v2 := splitP_val h1.2 (a + c) (by omega) (by omega) p.from_
  rw [show midP l a c = (splitP (splitP l a).2 (a + c)).1 from rfl, v2.1, if_pos (by omega), v1.2, if_neg (by omega)] at hv
  exact ⟨hv.symm, hm⟩
/-- What a check of a span's pieces says of its pockets. -/
theorem firstE_zero (e : Cl → Int) : ∀ l : List Pc, firstE e l = 0 → ∀ p ∈ l, e p.cell = 0
  | [], _ => by simp
  | p :: l, h => by
    simp only [firstE] at h
    intro q hq
    by_cases h0 : e p.cell = 0
    · rw [if_neg (by simpa using h0)] at h
      rcases List.mem_cons.1 hq with rfl | hq
      · exact h0
      · exact firstE_zero e l h q hq
    · rw [if_pos h0] at h
      exact absurd h h0
theorem visP_zero {l : List Pc} {a b x y n : Int} (h : Tiles l x y) (e : Cl → Int) (hz : firstE e (visP l a b) = 0) (hx : x ≤ n) (hy : n ≤ y) (h1 : a ≤ n) (h2 : n ≤ b) : e (valL l n) = 0 := by
  obtain ⟨p, hp, hn⟩ := h.covers hx hy
  rw [h.val p hp n hn.1 hn.2]
  have := firstE_zero e _ hz (p.cut a b) (by
    simp only [visP, List.mem_filterMap]
    exact ⟨p, hp, by rw [cutP, if_pos (by omega)]⟩)
  exact this

/-! ### Holds of a canonical tiling -/
theorem canon_ne : ∀ {l : List Pc} {a b : Int}, Tiles l a b → Canon l → ∀ p ∈ l, ∀ q ∈ l, p.to + 1 = q.from_ → p.cell ≠ q.cell
  | [], _, _, _, _ => by simp
  | r :: l, a, b, ht, hc => by
    intro p hp q hq e
    obtain ⟨h1, h2, h3⟩ := ht
    have key := canon_ne h3 hc.tail
    have mem := h3.mem
    rcases List.mem_cons.1 hp with hp1 | hp1
    · subst hp1
      rcases List.mem_cons.1 hq with hq | hq
      · subst hq; omega
      · cases l with
        | nil => simp at hq
        | cons s l =>
          rcases List.mem_cons.1 hq with hq | hq
          · subst hq; intro hcell; exact hc.1 hcell e
          · have hs := h3.1
            have hs2 := h3.2.1
            have := h3.2.2.mem q hq
            omega
    · rcases List.mem_cons.1 hq with hq | hq
      · subst hq
        have := mem p hp1
        omega
      · exact key p hp1 q hq e
theorem appP_new : ∀ (l : List Pc) (p : Pc), (∀ q ∈ l, q.cell = p.cell → q.to + 1 ≠ p.from_) → appP l p = l ++ [p]
  | [], p, _ => rfl
  | [q], p, h => by rw [appP_one, if_neg (fun e => h q (by simp) e.1 e.2)]; rfl
  | q :: r :: l, p, h => by rw [appP_cons _ _ _ (by simp), appP_new (r :: l) p (fun x hx => h x (by simp only [List.mem_cons] at hx ⊢; exact .inr hx))]; rfl
theorem allP_filter (is : Cl → Bool) {l : List Pc} {a b : Int} (ht : Tiles l a b) (hc : Canon l) : allP is l = l.filter (fun p => is p.cell) := by
  have key : ∀ r m : List Pc, l = m ++ r → allP is m = m.filter (fun p => is p.cell) → allP is (m ++ r) = (m ++ r).filter (fun p => is p.cell) := by
    intro r
    induction r with
    | nil => intro m _ h; simpa using h
    | cons p r ih =>
      intro m e hm
      have := ih (m ++ [p]) (by rw [e]; simp) (by
        rw [allP_snoc, hm, List.filter_append]
        by_cases h : is p.cell = true
        · rw [if_pos h, appP_new]
          · simp [h]
          · intro q hq hcell hto
            exact canon_ne ht hc q (by rw [e]; have := (List.mem_filter.1 hq).1; simp [this]) p (by rw [e]; simp) hto hcell
        · rw [if_neg h]; simp [h])
      simpa using this
  exact key l [] (by simp) rfl

/-! ### Who owns a pocket -/
/-- The owners of the pockets, as far as they are marked: those below m, and m's own below x. -/
def mark (l : List Pc) (m x : Int) (k : Int) : Int := if (valL l k).state = 1 ∧ ((valL l k).owner < m ∨ (valL l k).owner = m ∧ k < x) then (valL l k).owner else 0
def markA (l : List Pc) (m x : Int) : Array Value := ((List.range 80).map fun (k : Nat) => Value.int .i64 (mark l m x (k : Int))).toArray
theorem markA_get (l : List Pc) (m x : Int) (k : Nat) (hk : k < 80) : (markA l m x)[k]? = some (.int .i64 (mark l m x k)) := by
  simp [markA, hk]
theorem markA_congr {l : List Pc} {m x m' x' : Int} (h : ∀ k : Nat, k < 80 → mark l m x k = mark l m' x' k) : markA l m x = markA l m' x' := by
  unfold markA
  congr 1
  apply List.map_congr_left
  intro k hk
  rw [h k (by simpa using hk)]
theorem markA_set {l : List Pc} {m : Int} {k : Nat} (hk : k < 80) (h1 : (valL l k).state = 1) (h2 : (valL l k).owner = m) : (markA l m k).setIfInBounds k (.int .i64 m) = markA l m ((k : Int) + 1) := by
  apply Array.ext_getElem?
  intro j
  rw [Array.getElem?_setIfInBounds]
  by_cases hj : k = j
  · subst hj
    rw [if_pos rfl, if_pos (by simp [markA]; omega), markA_get _ _ _ _ hk, mark, if_pos ⟨h1, .inr ⟨h2, by omega⟩⟩, h2]
  · rw [if_neg hj]
    by_cases hj8 : j < 80
    · rw [markA_get _ _ _ _ hj8, markA_get _ _ _ _ hj8]
      congr 2
      unfold mark
      by_cases h : (valL l (j : Int)).state = 1 ∧ ((valL l (j : Int)).owner < m ∨ (valL l (j : Int)).owner = m ∧ (j : Int) < k)
      · rw [if_pos h, if_pos ⟨h.1, h.2.imp id (fun g => ⟨g.1, by omega⟩)⟩]
      · rw [if_neg h, if_neg (fun g => h ⟨g.1, g.2.imp id (fun g => ⟨g.1, by omega⟩)⟩)]
    · simp [markA, hj8]
theorem mark_zero {l : List Pc} {m : Int} {k : Nat} (h2 : (valL l k).owner = m) : mark l m k k = 0 := by
  unfold mark; rw [if_neg]; omega

/-- What the acts keep of the last version: its tiles, canonical; who is in is owned by 1 to 4 and lies in front. -/
structure Kept (l : List Pc) : Prop where
  tiles : Tiles l 1 1000000
  canon : Canon l
  owner : ∀ n, (valL l n).state = 1 → 1 ≤ (valL l n).owner ∧ (valL l n).owner ≤ 4 ∧ 1 ≤ n ∧ n < 80
def inC (c : Cl) : Bool := decide (c.state = 1)
theorem Kept.changed {l : List Pc} (h : Kept l) (a c : Int) (g : Cl → Cl) (ha : 1 ≤ a ∧ 1 ≤ c ∧ a + c - 1 ≤ 74)
    (hg : ∀ d, (g d).state = 1 → (d.state = 1 ∧ (g d).owner = d.owner) ∨ 1 ≤ (g d).owner ∧ (g d).owner ≤ 4) : Kept (changedP l a c g) where
  tiles := changedP_tiles g h.tiles ha.1 ha.2.1 (by omega)
  canon := changedP_canon g a c h.canon
  owner := by
    intro n
    rw [changedP_val g h.tiles ha.1 ha.2.1 (by omega) n]
    split
    · rename_i hn
      intro hs
      rcases hg _ hs with ⟨h1, h2⟩ | h1
      · have := h.owner n h1
        rw [h2]; exact this
      · omega
    · exact h.owner n
theorem Kept.sum {l : List Pc} (h : Kept l) : sumP (ownB 1) l + sumP (ownB 2) l + sumP (ownB 3) l + sumP (ownB 4) l = sumP inC l := by
  have e : sumP inC l = sumP (fun c => ((ownB 1 c || ownB 2 c) || ownB 3 c) || ownB 4 c) l := by
    refine sumP_congr fun p hp => ?_
    have hm := h.tiles.mem p hp
    have hv := h.tiles.val p hp p.from_ (by omega) (by omega)
    have ho := h.owner p.from_
    rw [hv] at ho
    unfold inC ownB
    by_cases hs : p.cell.state = 1
    · have := ho hs
      have hq : p.cell.owner = 1 ∨ p.cell.owner = 2 ∨ p.cell.owner = 3 ∨ p.cell.owner = 4 := by omega
      rcases hq with hq | hq | hq | hq <;> simp [hs, hq]
    · simp [hs]
  rw [e, sumP_or, sumP_or, sumP_or]
  all_goals
    intro c
    simp only [ownB, Bool.or_eq_true, Bool.and_eq_true, decide_eq_true_eq]
    omega
/-- An entry, a leave, any other change. -/
theorem sumP_enter {l : List Pc} (h : Kept l) {a c lot o : Int} (ha : 1 ≤ a ∧ 1 ≤ c ∧ a + c - 1 ≤ 1000000) (hz : firstE enterE (visP l a (a + c - 1)) = 0) : sumP inC (changedP l a c (enterG lot o)) = sumP inC l + c := by
  rw [sumP_changed]
  have hm := midP_val h.tiles ha.1 ha.2.1 ha.2.2
  have e1 : sumP inC (midP l a c) = 0 := by
    rw [← sumP_false (l := midP l a c)]
    refine sumP_congr fun p hp => ?_
    obtain ⟨h1, h2, h3, h4⟩ := hm p hp
    have := visP_zero h.tiles enterE hz (n := p.from_) (by omega) (by omega) h2 (by omega)
    rw [← h1] at this
    unfold enterE at this
    unfold inC
    split at this
    · omega
    · rename_i hs; simp; omega
  have e2 : sumP (fun d => inC (enterG lot o d)) (midP l a c) = c := by
    have := sumP_const (midP_tiles h.tiles ha.1 ha.2.1 ha.2.2)
    rw [show (fun d => inC (enterG lot o d)) = fun _ => true from rfl]
    omega
  omega
theorem sumP_leave {l : List Pc} (h : Kept l) {a c o : Int} (ha : 1 ≤ a ∧ 1 ≤ c ∧ a + c - 1 ≤ 1000000) (hz : firstE (ownedE o) (visP l a (a + c - 1)) = 0) : sumP inC (changedP l a c leaveG) = sumP inC l - c := by
  rw [sumP_changed]
  have hm := midP_val h.tiles ha.1 ha.2.1 ha.2.2
  have e1 : sumP inC (midP l a c) = c := by
    have := sumP_const (midP_tiles h.tiles ha.1 ha.2.1 ha.2.2)
    have e : sumP inC (midP l a c) = sumP (fun _ => true) (midP l a c) := by
      refine sumP_congr fun p hp => ?_
      obtain ⟨h1, h2, h3, h4⟩ := hm p hp
      have := visP_zero h.tiles (ownedE o) hz (n := p.from_) (by omega) (by omega) h2 (by omega)
      rw [← h1] at this
      unfold ownedE at this
      unfold inC
      by_cases hs : p.cell.state = 1
      · simp [hs]
      · rw [if_pos hs] at this; omega
    omega
  have e2 : sumP (fun d => inC (leaveG d)) (midP l a c) = 0 := by
    rw [show (fun d => inC (leaveG d)) = fun _ => false from rfl]
    exact sumP_false
  omega
theorem sumP_same {l : List Pc} (a c : Int) (g : Cl → Cl) (hg : ∀ d, (g d).state = d.state) : sumP inC (changedP l a c g) = sumP inC l := by
  rw [sumP_changed]
  have : (fun d => inC (g d)) = inC := by funext d; unfold inC; rw [hg]
  rw [this]; omega
/-- One pocket's state. -/
theorem endC_visP {l : List Pc} {a b n : Int} (h : Tiles l a b) (h1 : a ≤ n) (h2 : n ≤ b) : endC (visP l n n) = valL l n := by
  induction l generalizing a with
  | nil => simp only [Tiles] at h; omega
  | cons p l ih =>
    obtain ⟨e1, e2, e3⟩ := h
    rw [visP_cons]
    by_cases hn : n ≤ p.to
    · rw [if_pos (by omega), valL_head (by omega) hn, visP_high l n n (fun q hq => by have := e3.mem q hq; omega)]
      simp [endC, Pc.cut]
    · rw [if_neg (by omega), List.nil_append, valL_tail (by omega)]
      exact ih e3 (by omega)
end Go.Proofs.Ytnnbdjfeagcbdaa
namespace Go.Proofs.Ytnnbdjfeagcbdaa
set_option linter.unusedSimpArgs false
set_option linter.unusedVariables false
open Go.RowKit

structure RunsP (l : List Pc) : Prop where
  rise : l.Pairwise (fun p q => p.to < q.from_)
  good : ∀ p ∈ l, p.Good
  state : ∀ p ∈ l, p.cell.state ≠ 0
  canon : ∀ p ∈ l, ∀ q ∈ l, p.to + 1 = q.from_ → p.cell ≠ q.cell
theorem RunsP.nil : RunsP [] := ⟨List.Pairwise.nil, by simp, by simp, by simp⟩
theorem RunsP.tail {p : Pc} {l : List Pc} (h : RunsP (p :: l)) : RunsP l :=
  ⟨(List.pairwise_cons.1 h.rise).2, fun q hq => h.good q (by simp [hq]), fun q hq => h.state q (by simp [hq]), fun q hq r hr => h.canon q (by simp [hq]) r (by simp [hr])⟩
theorem RunsP.head {p : Pc} {l : List Pc} (h : RunsP (p :: l)) : ∀ q ∈ l, p.to < q.from_ := (List.pairwise_cons.1 h.rise).1
theorem RunsP.sorted {l : List Pc} (h : RunsP l) : Sorted l := ⟨h.rise, h.good⟩
theorem Pc.Good.le {p : Pc} (h : p.Good) : 1 ≤ p.from_ ∧ p.from_ ≤ p.to ∧ p.to ≤ 1000000 := by simp only [Pc.Good] at h; omega
theorem valL_low {l : List Pc} {n : Int} (h : ∀ q ∈ l, n < q.from_) : valL l n = cl0 := valL_out (fun q hq hh => by have := h q hq; omega)
theorem valL_high {l : List Pc} {n : Int} (h : ∀ q ∈ l, q.to < n) : valL l n = cl0 := valL_out (fun q hq hh => by have := h q hq; omega)
theorem valL_some : ∀ {l : List Pc} {n : Int}, (valL l n).state ≠ 0 → ∃ p ∈ l, p.from_ ≤ n ∧ n ≤ p.to ∧ valL l n = p.cell
  | [], n, h => absurd rfl h
  | q :: l, n, h => by
    rw [valL] at h ⊢
    split
    · rename_i hq; exact ⟨q, by simp, hq.1, hq.2, rfl⟩
    · rename_i hq
      rw [if_neg hq] at h
      obtain ⟨p, hp, h1, h2, h3⟩ := valL_some h
      exact ⟨p, by simp [hp], h1, h2, h3⟩
/-- Runs give a state in their pockets. -/
theorem RunsP.val : ∀ {l : List Pc}, RunsP l → ∀ p ∈ l, ∀ n, p.from_ ≤ n → n ≤ p.to → valL l n = p.cell
  | [], _ => by simp
  | q :: l, h => by
    intro p hp n h1 h2
    rcases List.mem_cons.1 hp with rfl | hp
    · rw [valL, if_pos ⟨h1, h2⟩]
    · have := h.head p hp
      rw [valL, if_neg (by omega)]
      exact h.tail.val p hp n h1 h2
theorem runs_to_le {p q : Pc} {l m : List Pc} (hl : RunsP (p :: l)) (hm : RunsP (q :: m)) (hf : p.from_ = q.from_) (hc : p.cell = q.cell) (hv : ∀ n, valL (p :: l) n = valL (q :: m) n) : q.to ≤ p.to := by
  rcases Int.lt_or_le p.to q.to with hlt | hle
  · exfalso
    have gp := (hl.good p (by simp)).le
    have gq := (hm.good q (by simp)).le
    have e1 := hv (p.to + 1)
    rw [valL_tail (by omega), valL_head (by omega) (by omega)] at e1
    obtain ⟨r, hr, h1, h2, h3⟩ := valL_some (l := l) (n := p.to + 1) (by rw [e1]; exact hm.state q (by simp))
    have := hl.head r hr
    exact hl.canon p (by simp) r (by simp [hr]) (by omega) (by rw [hc, ← e1, h3])
  · exact hle
theorem runsP_unique : ∀ {l m : List Pc}, RunsP l → RunsP m → (∀ n, valL l n = valL m n) → l = m
  | [], [], _, _, _ => rfl
  | [], q :: m, _, hm, hv => by
    have := hv q.from_
    have gq := (hm.good q (by simp)).le
    rw [valL_head (by omega) (by omega)] at this
    exact absurd (by rw [← this]; rfl) (hm.state q (by simp))
  | p :: l, [], hl, _, hv => by
    have := hv p.from_
    have gq := (hl.good p (by simp)).le
    rw [valL_head (by omega) (by omega)] at this
    exact absurd (by rw [this]; rfl) (hl.state p (by simp))
  | p :: l, q :: m, hl, hm, hv => by
    have gp := (hl.good p (by simp)).le
    have gq := (hm.good q (by simp)).le
    have hf : p.from_ = q.from_ := by
      rcases Int.lt_trichotomy p.from_ q.from_ with h | h | h
      · exfalso
        have := hv p.from_
        rw [valL_head (by omega) (by omega), valL_low (fun x hx => by
          rcases List.mem_cons.1 hx with rfl | hx
          · exact h
          · have := hm.head x hx; omega)] at this
        exact hl.state p (by simp) (by rw [this]; rfl)
      · exact h
      · exfalso
        have := hv q.from_
        rw [valL_head (p := q) (by omega) (by omega), valL_low (fun x hx => by
          rcases List.mem_cons.1 hx with rfl | hx
          · exact h
          · have := hl.head x hx; omega)] at this
        exact hm.state q (by simp) (by rw [← this]; rfl)
    have hc : p.cell = q.cell := by
      have := hv p.from_
      rwa [valL_head (by omega) (by omega), valL_head (by omega) (by omega)] at this
    have h1 := runs_to_le hl hm hf hc hv
    have h2 := runs_to_le hm hl hf.symm hc.symm (fun n => (hv n).symm)
    have e : p = q := by
      obtain ⟨_, _, _⟩ := p
      obtain ⟨_, _, _⟩ := q
      simp only [Pc.mk.injEq] at *
      exact ⟨hf, by omega, hc⟩
    subst e
    congr 1
    refine runsP_unique hl.tail hm.tail fun n => ?_
    by_cases hn : p.to < n
    · have := hv n
      rwa [valL_tail hn, valL_tail hn] at this
    · rw [valL_low (fun x hx => by have := hl.head x hx; omega), valL_low (fun x hx => by have := hm.head x hx; omega)]

/-- One more piece behind runs. -/
theorem appP_runs : ∀ {l : List Pc} {p : Pc}, RunsP l → (∀ q ∈ l, q.to < p.from_) → p.Good → p.cell.state ≠ 0 → RunsP (appP l p) ∧ (∀ n, valL (appP l p) n = if p.from_ ≤ n ∧ n ≤ p.to then p.cell else valL l n) ∧ (∀ q ∈ appP l p, q.to ≤ p.to) ∧ (∀ q ∈ appP l p, ∀ x, (∀ r ∈ l, x < r.from_) → x < p.from_ → x < q.from_) := by
  intro l p hl hp hg hs
  have gp := hg.le
  rcases List.eq_nil_or_concat l with rfl | ⟨L, q, rfl⟩
  · refine ⟨⟨by simp [appP], by simp [appP, hg], by simp [appP, hs], ?_⟩, fun n => ?_, by simp [appP], by simp [appP]⟩
    · intro a ha b hb; simp [appP] at ha hb; subst ha; subst hb; omega
    · simp [appP, valL]
  · rw [List.concat_eq_append] at hl hp ⊢
    have hq := hp q (by simp)
    have gq := (hl.good q (by simp)).le
    rw [appP_last]
    have rl := List.pairwise_append.1 hl.rise
    by_cases hm : q.cell = p.cell ∧ q.to + 1 = p.from_
    · rw [if_pos hm]
      refine ⟨⟨?_, ?_, ?_, ?_⟩, fun n => ?_, ?_, ?_⟩
      · refine List.pairwise_append.2 ⟨rl.1, by simp, fun a ha b hb => ?_⟩
        simp at hb; subst hb
        exact rl.2.2 a ha q (by simp)
      · intro a ha
        rcases List.mem_append.1 ha with ha | ha
        · exact hl.good a (by simp [ha])
        · simp at ha; subst ha; simp only [Pc.Good] at hg ⊢; omega
      · intro a ha
        rcases List.mem_append.1 ha with ha | ha
        · exact hl.state a (by simp [ha])
        · simp at ha; subst ha; exact hl.state q (by simp)
      · intro a ha b hb
        rcases List.mem_append.1 ha with ha | ha <;> rcases List.mem_append.1 hb with hb | hb
        · exact hl.canon a (by simp [ha]) b (by simp [hb])
        · simp at hb; subst hb; exact hl.canon a (by simp [ha]) q (by simp)
        · have := rl.2.2 b hb q (by simp)
          have := (hl.good b (by simp [hb])).le
          simp at ha; subst ha; simp only; omega
        · simp at ha hb; subst ha; subst hb; simp only; omega
      · by_cases h1 : p.from_ ≤ n ∧ n ≤ p.to
        · rw [if_pos h1, valL_append.2 (fun a ha hh => by have := hp a (by simp [ha]); omega), valL_head (by simp only; omega) (by simp only; omega), hm.1]
        · rw [if_neg h1]
          by_cases h2 : ∃ a ∈ L, a.from_ ≤ n ∧ n ≤ a.to
          · rw [valL_append.1 h2, valL_append.1 h2]
          · have h2 : ∀ a ∈ L, ¬ (a.from_ ≤ n ∧ n ≤ a.to) := fun a ha hh => h2 ⟨a, ha, hh⟩
            rw [valL_append.2 h2, valL_append.2 h2]
            simp only [valL]
            by_cases h3 : q.from_ ≤ n ∧ n ≤ q.to
            · rw [if_pos h3, if_pos (by omega)]
            · rw [if_neg h3, if_neg (by omega)]
      · intro a ha
        rcases List.mem_append.1 ha with ha | ha
        · have := hp a (by simp [ha]); omega
        · simp at ha; subst ha; simp
      · intro a ha x hx _
        rcases List.mem_append.1 ha with ha | ha
        · exact hx a (by simp [ha])
        · simp at ha; subst ha; exact hx q (by simp)
    · rw [if_neg hm]
      have e : L ++ [q, p] = (L ++ [q]) ++ [p] := by simp
      rw [e]
      refine ⟨⟨?_, ?_, ?_, ?_⟩, fun n => ?_, ?_, ?_⟩
      · refine List.pairwise_append.2 ⟨hl.rise, by simp, fun a ha b hb => ?_⟩
        simp only [List.mem_singleton] at hb; subst hb
        exact hp a ha
      · intro a ha
        rcases List.mem_append.1 ha with ha | ha
        · exact hl.good a ha
        · simp only [List.mem_singleton] at ha; subst ha; exact hg
      · intro a ha
        rcases List.mem_append.1 ha with ha | ha
        · exact hl.state a ha
        · simp only [List.mem_singleton] at ha; subst ha; exact hs
      · intro a ha b hb
        rcases List.mem_append.1 ha with ha1 | ha1 <;> rcases List.mem_append.1 hb with hb1 | hb1
        · exact hl.canon a ha1 b hb1
        · have eb := List.mem_singleton.1 hb1
          rw [eb]
          intro h1 h2
          rcases List.mem_append.1 ha1 with ha2 | ha2
          · have := rl.2.2 a ha2 q (by simp)
            omega
          · rw [List.mem_singleton.1 ha2] at h1 h2
            exact hm ⟨h2, h1⟩
        · have := (hl.good b hb1).le
          have := hp b hb1
          rw [List.mem_singleton.1 ha1]
          omega
        · rw [List.mem_singleton.1 ha1, List.mem_singleton.1 hb1]
          omega
      · by_cases h1 : p.from_ ≤ n ∧ n ≤ p.to
        · rw [if_pos h1, valL_append.2 (fun a ha hh => by have := hp a ha; omega), valL_head h1.1 h1.2]
        · rw [if_neg h1]
          by_cases h2 : ∃ a ∈ L ++ [q], a.from_ ≤ n ∧ n ≤ a.to
          · rw [valL_append.1 h2]
          · have h2 : ∀ a ∈ L ++ [q], ¬ (a.from_ ≤ n ∧ n ≤ a.to) := fun a ha hh => h2 ⟨a, ha, hh⟩
            rw [valL_append.2 h2, valL_out h2]
            simp only [valL]
            rw [if_neg h1]
      · intro a ha
        rcases List.mem_append.1 ha with ha | ha
        · have := hp a ha; omega
        · simp only [List.mem_singleton] at ha; subst ha; omega
      · intro a ha x hx hx2
        rcases List.mem_append.1 ha with ha | ha
        · exact hx a ha
        · simp only [List.mem_singleton] at ha; subst ha; exact hx2
/-- What the reference's add does. -/
def addR (l : List Pc) (r : Pc) : List Pc := if r.to < r.from_ ∨ r.cell.state = 0 then l else appP l r
theorem addR_runs {l : List Pc} {p : Pc} (hl : RunsP l) (hp : p.from_ ≤ p.to → ∀ q ∈ l, q.to < p.from_) (hg : p.from_ ≤ p.to → 1 ≤ p.from_ ∧ p.to ≤ 1000000) (hs : p.cell.state = 0 → p.cell = cl0 ∧ ∀ n, p.from_ ≤ n → n ≤ p.to → valL l n = cl0) :
    RunsP (addR l p) ∧ (∀ n, valL (addR l p) n = if p.from_ ≤ n ∧ n ≤ p.to then p.cell else valL l n) ∧ (∀ y, (∀ q ∈ l, q.to ≤ y) → (p.from_ ≤ p.to → p.to ≤ y) → ∀ q ∈ addR l p, q.to ≤ y) := by
  unfold addR
  by_cases h1 : p.to < p.from_
  · rw [if_pos (.inl h1)]
    refine ⟨hl, fun n => by rw [if_neg (by omega)], fun y hy _ => hy⟩
  · by_cases h2 : p.cell.state = 0
    · rw [if_pos (.inr h2)]
      obtain ⟨h3, h4⟩ := hs h2
      refine ⟨hl, fun n => ?_, fun y hy _ => hy⟩
      split
      · rename_i hn; rw [h3, h4 n hn.1 hn.2]
      · rfl
    · rw [if_neg (by omega)]
      have hg := hg (by omega)
      obtain ⟨i1, i2, i3, _⟩ := appP_runs hl (hp (by omega)) (by simp only [Pc.Good]; omega) h2
      exact ⟨i1, i2, fun y _ hy q hq => Int.le_trans (i3 q hq) (hy (by omega))⟩

/-! ### A canonical tiling without what is outside -/
def inL (l : List Pc) : List Pc := l.filter fun p => decide (p.cell.state ≠ 0)
theorem inL_runs {l : List Pc} (ht : Tiles l 1 1000000) (hc : Canon l) : RunsP (inL l) := by
  have hs := ht.sorted (by omega) (by omega)
  refine ⟨hs.rise.filter _, fun p hp => hs.good p (List.mem_filter.1 hp).1, fun p hp => by simpa using (List.mem_filter.1 hp).2, fun p hp q hq => canon_ne ht hc p (List.mem_filter.1 hp).1 q (List.mem_filter.1 hq).1⟩
theorem inL_val {l : List Pc} {a b : Int} (ht : Tiles l a b) (h0 : ∀ n, (valL l n).state = 0 → valL l n = cl0) (n : Int) : valL (inL l) n = valL l n := by
  have key : ∀ (l : List Pc) (a : Int), Tiles l a b → (∀ p ∈ l, p.cell.state = 0 → p.cell = cl0) → valL (inL l) n = valL l n := by
    intro l
    induction l with
    | nil => intro _ _ _; rfl
    | cons p l ih =>
      intro a h hz
      obtain ⟨h1, h2, h3⟩ := h
      have ih := ih _ h3 (fun q hq => hz q (by simp [hq]))
      unfold inL at ih ⊢
      rw [List.filter_cons]
      by_cases hs : p.cell.state = 0
      · rw [if_neg (by simp [hs]), ih, valL]
        split
        · rename_i hn
          rw [hz p (by simp) hs]
          exact valL_low (fun q hq => by have := h3.mem q hq; omega)
        · rfl
      · rw [if_pos (by simp [hs]), valL, valL, ih]
  refine key l a ht fun p hp hs => ?_
  have hm := ht.mem p hp
  have := ht.val p hp p.from_ (by omega) (by omega)
  rw [← this]
  exact h0 _ (by rw [this]; exact hs)
end Go.Proofs.Ytnnbdjfeagcbdaa
namespace Go.Proofs.Ytnnbdjfeagcbdaa
set_option linter.unusedSimpArgs false
set_option linter.unusedVariables false
open Go.RowKit

/-- A run cut at a span's ends, its middle changed. -/
def cut3 (a b : Int) (g : Cl → Cl) (out : List Pc) (r : Pc) : List Pc :=
  addR (addR (addR out ⟨r.from_, min r.to (a - 1), r.cell⟩) ⟨max r.from_ a, min r.to b, g r.cell⟩) ⟨max r.from_ (b + 1), r.to, r.cell⟩
theorem cut3_runs {a b : Int} {g : Cl → Cl} {out : List Pc} {r : Pc} (hab : a ≤ b) (hg : ∀ d : Cl, d.state ≠ 0 → (g d).state ≠ 0) (ho : RunsP out) (hlt : ∀ q ∈ out, q.to < r.from_) (hr : r.Good) (hs : r.cell.state ≠ 0) :
    RunsP (cut3 a b g out r) ∧ (∀ n, valL (cut3 a b g out r) n = if r.from_ ≤ n ∧ n ≤ r.to then (if a ≤ n ∧ n ≤ b then g r.cell else r.cell) else valL out n) ∧ (∀ q ∈ cut3 a b g out r, q.to ≤ r.to) := by
  have gr := hr.le
  obtain ⟨r1, v1, b1⟩ := addR_runs (p := ⟨r.from_, min r.to (a - 1), r.cell⟩) ho (fun _ => hlt) (fun h => by simp only at h ⊢; omega) (fun h => absurd h hs)
  have t1 := b1 (max r.from_ a - 1) (fun q hq => by have := hlt q hq; omega) (fun h => by simp only at h ⊢; omega)
  obtain ⟨r2, v2, b2⟩ := addR_runs (p := ⟨max r.from_ a, min r.to b, g r.cell⟩) r1 (fun _ q hq => by have := t1 q hq; simp only; omega) (fun h => by simp only at h ⊢; omega) (fun h => absurd h (hg _ hs))
  have t2 := b2 (max r.from_ (b + 1) - 1) (b1 _ (fun q hq => by have := hlt q hq; omega) (fun h => by simp only at h ⊢; omega)) (fun h => by simp only at h ⊢; omega)
  obtain ⟨r3, v3, b3⟩ := addR_runs (p := ⟨max r.from_ (b + 1), r.to, r.cell⟩) r2 (fun _ q hq => by have := t2 q hq; simp only; omega) (fun h => by simp only at h ⊢; omega) (fun h => absurd h hs)
  refine ⟨r3, fun n => ?_, b3 r.to (b2 r.to (b1 r.to (fun q hq => by have := hlt q hq; omega) (fun h => by simp only at h ⊢; omega)) (fun h => by simp only at h ⊢; omega)) (fun h => by simp only; omega)⟩
  unfold cut3
  rw [v3, v2, v1]
  simp only
  by_cases h1 : r.from_ ≤ n ∧ n ≤ r.to
  · rw [if_pos h1]
    by_cases h2 : a ≤ n ∧ n ≤ b
    · rw [if_pos h2, if_neg (by omega), if_pos (by omega)]
    · rw [if_neg h2]
      by_cases h3 : n < a
      · rw [if_neg (by omega), if_neg (by omega), if_pos (by omega)]
      · rw [if_pos (by omega)]
  · rw [if_neg h1, if_neg (by omega), if_neg (by omega), if_neg (by omega)]

def stepR (enter : Bool) (a b : Int) (to : Cl) (g : Cl → Cl) (s : List Pc × Bool) (r : Pc) : List Pc × Bool :=
  if enter = true ∧ s.2 = false ∧ b < r.from_ then (cut3 a b g (addR s.1 ⟨a, b, to⟩) r, true) else (cut3 a b g s.1 r, s.2)
def foldR (enter : Bool) (a b : Int) (to : Cl) (g : Cl → Cl) (l : List Pc) : List Pc × Bool := l.foldl (stepR enter a b to g) ([], false)
def changeR (enter : Bool) (a b : Int) (to : Cl) (g : Cl → Cl) (l : List Pc) : List Pc :=
  if enter = true ∧ (foldR enter a b to g l).2 = false then addR (foldR enter a b to g l).1 ⟨a, b, to⟩ else (foldR enter a b to g l).1
theorem foldR_snoc (enter : Bool) (a b : Int) (to : Cl) (g : Cl → Cl) (l : List Pc) (r : Pc) : foldR enter a b to g (l ++ [r]) = stepR enter a b to g (foldR enter a b to g l) r := by simp [foldR]

structure FoldOk (enter : Bool) (a b : Int) (to : Cl) (g : Cl → Cl) (m : List Pc) (s : List Pc × Bool) : Prop where
  runs : RunsP s.1
  val : ∀ n, valL s.1 n = if s.2 = true ∧ a ≤ n ∧ n ≤ b then to else if a ≤ n ∧ n ≤ b ∧ (valL m n).state ≠ 0 then g (valL m n) else valL m n
  bound : ∀ y, (∀ p ∈ m, p.to ≤ y) → (s.2 = true → b ≤ y) → ∀ q ∈ s.1, q.to ≤ y
  done : s.2 = true → enter = true ∧ ∃ p ∈ m, b < p.from_
  wait : enter = true → s.2 = false → ∀ p ∈ m, p.to < a
theorem valL_snoc {m : List Pc} {r : Pc} {n : Int} (h : ∀ p ∈ m, p.to < r.from_) : valL (m ++ [r]) n = if r.from_ ≤ n ∧ n ≤ r.to then r.cell else valL m n := by
  by_cases h1 : r.from_ ≤ n ∧ n ≤ r.to
  · rw [if_pos h1, valL_append.2 (fun p hp hh => by have := h p hp; omega), valL_head h1.1 h1.2]
  · rw [if_neg h1]
    by_cases h2 : ∃ p ∈ m, p.from_ ≤ n ∧ n ≤ p.to
    · rw [valL_append.1 h2]
    · have h2 : ∀ p ∈ m, ¬ (p.from_ ≤ n ∧ n ≤ p.to) := fun p hp hh => h2 ⟨p, hp, hh⟩
      rw [valL_append.2 h2, valL_out h2, valL, if_neg h1]; rfl
theorem foldR_ok (enter : Bool) {a b : Int} (to : Cl) (g : Cl → Cl) (hab : 1 ≤ a ∧ a ≤ b ∧ b ≤ 1000000) (hg : ∀ d : Cl, d.state ≠ 0 → (g d).state ≠ 0) (hto : enter = true → to.state ≠ 0) :
    ∀ (r m : List Pc) (s : List Pc × Bool), RunsP (m ++ r) → (enter = true → ∀ p ∈ r, p.to < a ∨ b < p.from_) → FoldOk enter a b to g m s → FoldOk enter a b to g (m ++ r) (r.foldl (stepR enter a b to g) s)
  | [], m, s, _, _, h => by simpa using h
  | r :: rs, m, s, hl, hd, h => by
    have key : FoldOk enter a b to g (m ++ [r]) (stepR enter a b to g s r) := by
      have gr := hl.good r (by simp)
      have grl := gr.le
      have sr := hl.state r (by simp)
      have lt : ∀ p ∈ m, p.to < r.from_ := fun p hp => (List.pairwise_append.1 hl.rise).2.2 p hp r (by simp)
      unfold stepR
      by_cases hc : enter = true ∧ s.2 = false ∧ b < r.from_
      · rw [if_pos hc]
        have hw := h.wait hc.1 hc.2.1
        have hq : ∀ q ∈ s.1, q.to ≤ a - 1 := h.bound (a - 1) (fun p hp => by have := hw p hp; omega) (fun e => by rw [hc.2.1] at e; cases e)
        obtain ⟨r1, v1, b1⟩ := addR_runs (p := ⟨a, b, to⟩) h.runs (fun _ q h' => by have := hq q h'; simp only; omega) (fun _ => by simp only; omega) (fun e => absurd e (hto hc.1))
        obtain ⟨r2, v2, b2⟩ := cut3_runs (g := g) hab.2.1 hg r1 (fun q h' => by have := b1 b (fun x hx => by have := hq x hx; omega) (fun _ => by simp only; omega) q h'; omega) gr sr
        refine ⟨r2, fun n => ?_, fun y hy _ q h' => Int.le_trans (b2 q h') (hy r (by simp)), fun _ => ⟨hc.1, r, by simp, hc.2.2⟩, fun _ e => by cases e⟩
        rw [v2, v1, h.val, valL_snoc lt, hc.2.1]
        simp only [true_and, false_and, Bool.false_eq_true, if_false]
        by_cases h1 : r.from_ ≤ n ∧ n ≤ r.to
        · rw [if_pos h1, if_pos h1, if_neg (by omega), if_neg (by omega), if_neg (by omega)]
        · rw [if_neg h1, if_neg h1]
      · rw [if_neg hc]
        have hbs : ∀ q ∈ s.1, q.to < r.from_ := by
          have := h.bound (r.from_ - 1) (fun p hp => by have := lt p hp; omega) (fun e => by
            obtain ⟨_, p, hp, h2⟩ := h.done e
            have := lt p hp
            have := (hl.good p (by simp [hp])).le
            omega)
          intro q hq
          have := this q hq
          omega
        obtain ⟨r2, v2, b2⟩ := cut3_runs (g := g) hab.2.1 hg h.runs hbs gr sr
        refine ⟨r2, fun n => ?_, fun y hy _ q h' => Int.le_trans (b2 q h') (hy r (by simp)), fun e => ?_, fun e1 e2 p hp => ?_⟩
        · rw [v2, h.val, valL_snoc lt]
          simp only
          by_cases h1 : r.from_ ≤ n ∧ n ≤ r.to
          · rw [if_pos h1, if_pos h1]
            by_cases h3 : s.2 = true
            · obtain ⟨_, p, hp, h4⟩ := h.done h3
              have := lt p hp
              have := (hl.good p (by simp [hp])).le
              rw [if_neg (by omega), if_neg (by omega), if_neg (by omega)]
            · rw [if_neg (c := s.2 = true ∧ a ≤ n ∧ n ≤ b) (fun e => h3 e.1)]
              by_cases h2 : a ≤ n ∧ n ≤ b
              · rw [if_pos h2, if_pos ⟨h2.1, h2.2, sr⟩]
              · rw [if_neg h2, if_neg (fun e => h2 ⟨e.1, e.2.1⟩)]
          · rw [if_neg h1, if_neg h1]
        · obtain ⟨h1, p, hp, h2⟩ := h.done e
          exact ⟨h1, p, by simp [hp], h2⟩
        · rcases List.mem_append.1 hp with hp | hp
          · exact h.wait e1 e2 p hp
          · simp only [List.mem_singleton] at hp
            subst hp
            have := hd e1 p (by simp)
            have : ¬ b < p.from_ := fun hb => hc ⟨e1, e2, hb⟩
            omega
    have := foldR_ok enter to g hab hg hto rs (m ++ [r]) _ (by simpa using hl) (fun e p hp => hd e p (by simp [hp])) key
    simpa using this
theorem changeR_runs (enter : Bool) {a b : Int} (to : Cl) (g : Cl → Cl) {l : List Pc} (hl : RunsP l) (hab : 1 ≤ a ∧ a ≤ b ∧ b ≤ 1000000) (hg : ∀ d : Cl, d.state ≠ 0 → (g d).state ≠ 0) (hto : enter = true → to.state ≠ 0) (hd : enter = true → ∀ p ∈ l, p.to < a ∨ b < p.from_) :
    RunsP (changeR enter a b to g l) ∧ ∀ n, valL (changeR enter a b to g l) n = if enter = true ∧ a ≤ n ∧ n ≤ b then to else if a ≤ n ∧ n ≤ b ∧ (valL l n).state ≠ 0 then g (valL l n) else valL l n := by
  have h : FoldOk enter a b to g l (foldR enter a b to g l) := by
    have := foldR_ok enter to g hab hg hto l [] ([], false) (by simpa using hl) hd ⟨RunsP.nil, fun n => by simp [valL, cl0], by simp, by simp, by simp⟩
    simpa [foldR] using this
  unfold changeR
  by_cases hc : enter = true ∧ (foldR enter a b to g l).2 = false
  · rw [if_pos hc]
    have hw := h.wait hc.1 hc.2
    have hq := h.bound (a - 1) (fun p hp => by have := hw p hp; omega) (fun e => by rw [hc.2] at e; cases e)
    obtain ⟨r1, v1, b1⟩ := addR_runs (p := ⟨a, b, to⟩) h.runs (fun _ q h' => by have := hq q h'; simp only; omega) (fun _ => by simp only; omega) (fun e => absurd e (hto hc.1))
    refine ⟨r1, fun n => ?_⟩
    rw [v1, h.val, hc.2]
    simp only
    by_cases h2 : a ≤ n ∧ n ≤ b
    · rw [if_pos h2, if_pos ⟨hc.1, h2⟩]
    · rw [if_neg h2, if_neg (by simp), if_neg (c := enter = true ∧ a ≤ n ∧ n ≤ b) (by omega)]
  · rw [if_neg hc]
    refine ⟨h.runs, fun n => ?_⟩
    rw [h.val]
    by_cases h3 : (foldR enter a b to g l).2 = true
    · rw [h3, (h.done h3).1]
    · have : ¬ enter = true := fun e => hc ⟨e, by simpa using h3⟩
      rw [if_neg (fun e => h3 e.1), if_neg (c := enter = true ∧ a ≤ n ∧ n ≤ b) (fun e => this e.1)]
end Go.Proofs.Ytnnbdjfeagcbdaa
namespace Go.Proofs.Ytnnbdjfeagcbdaa
set_option linter.unusedSimpArgs false
set_option linter.unusedVariables false
open Go.RowKit Go.Shelf
attribute [local go_sem] Oper.semAt_some

theorem run_eqPocket (x y : Cl) (w : World) : (Op.equalIn 10000 88 x.val y.val).run Try.prog w = .ok (decide (x = y)) w := by
  obtain ⟨a, b, c, d⟩ := x
  obtain ⟨a', b', c', d'⟩ := y
  by_cases h1 : a = a' <;> by_cases h2 : b = b' <;> by_cases h3 : c = c' <;> by_cases h4 : d = d' <;> simp [go_sem, h1, h2, h3, h4]
theorem info_run : (Try.prog.info? 90).map (fun i => (i.zero, i.size, i.bytes)) = some (some (.agg #[.int .i64 0, .int .i64 0, .int .i64 0, .int .i64 0, .int .i64 0, .int .i64 0]), 6, 48) := by kernel_rfl
theorem under_runs : Try.prog.underlying 63 = some (.slice 90) := by kernel_rfl
@[reducible] def RunsV (B : Nat) (w : World) (v : Value) (l : List Pc) : Prop := OwnE encP 6 90 B w v l
theorem new_run (w : World) (p : Pc) (t : TypeId) (k : Nat) (o : Obj) : ∀ (j : Nat) (u : Value), (encP p)[j]? = some u →
    (((w.alloc o).drewN k).alloc (Obj.cells p.vals t)).cell? ((⟨w.heap.size + 1, 0, none⟩ : Addr).add j) = some u := fun j u hu => by
  have := news_of (Cells.new ((w.alloc o).drewN k) p.vals t) j u (by simpa [encP] using hu)
  have hz : ((w.alloc o).drewN k).heap.size = w.heap.size + 1 := by simp
  rwa [hz] at this
theorem addR_length (l : List Pc) (p : Pc) : (addR l p).length ≤ l.length + 1 := by
  unfold addR
  split
  · omega
  · exact appP_length l p

/-- What add comes to: an own row again; no block is touched but the row's own. -/
def Added (B : Nat) (w : World) (v : Value) (l : List Pc) (e : Ending) (w' : World) : Prop :=
  ∃ u, e = .returned u ∧ RunsV B w' u l ∧ Below B w w' ∧ ∀ k, k < w.heap.size → v.ownBlock ≠ some k → u.ownBlock ≠ some k ∧ w'.heap[k]? = w.heap[k]?

set_option maxRecDepth 100000 in
set_option maxHeartbeats 4000000 in
theorem add_calls (B : Nat) (w : World) (hB : B ≤ w.heap.size) (v : Value) (l : List Pc) (hv : RunsV B w v l) (hl : l.length ≤ 10000000) (ht : ∀ q ∈ l, q.to ≤ 1000000000 ∧ -1000000000 ≤ q.to) (p : Pc) :
    Calls Try.prog 114 #[v, p.val] w (Added B w v (addR l p)) := by
  obtain ⟨i0, hi, hz0, hz1, hz2⟩ := info_parts info_run
  have HV := hid hv
  obtain ⟨ptr, cap, rfl, hform⟩ := hv.form
  obtain ⟨x, y, ⟨c1, c2, c3, c4⟩⟩ := p
  have B1 := hid (show Below B w (w.alloc (.cells #[.int .i64 x, .int .i64 y, .int .i64 c1, .int .i64 c2, .int .i64 c3, .int .i64 c4] 90)) from (Below.refl _ _).alloc hB _)
  obtain ⟨n, hn⟩ : ∃ n, n = l.length := ⟨_, rfl⟩
  have HN := hid hn
  rw [← hn] at hl
  have HF := hid hform
  have HT := hid ht
  rw [← hn]
  clear hv hform hn ht
  have hfirst : ∀ w' : World, (∃ k, w' = (w.alloc (.cells #[.int .i64 x, .int .i64 y, .int .i64 c1, .int .i64 c2, .int .i64 c3, .int .i64 c4] 90)).drewN k) → RunsV B w' (.slice ptr n cap) l := by
    rintro w' ⟨k, rfl⟩
    have := (HV.out.alloc (.cells #[.int .i64 x, .int .i64 y, .int .i64 c1, .int .i64 c2, .int .i64 c3, .int .i64 c4] 90)).drewN k
    rwa [← HN.out] at this
  have H1 := hid hfirst
  clear hfirst
  by_cases h1 : y < x
  · have g1 : decide (y < x) = true := by simpa using h1
    go_enter Try.func114, Try.ntmps114
    go_wp2
    refine bodyPost_ret (v := .slice ptr n cap) (by simp [results, Try.results114, go_sem]) rfl ⟨_, rfl, ?_, B1.out, fun k hk hv => ⟨hv, heap_alloc_old w _ hk⟩⟩
    rw [addR, if_pos (.inl h1)]
    exact H1.out _ ⟨0, rfl⟩
  · have g1 : decide (y < x) = false := by simpa using h1
    by_cases h2 : c1 = 0
    · have g2 : (c1 == 0) = true := by simpa using h2
      have ADD := hid (show addR l ⟨x, y, ⟨c1, c2, c3, c4⟩⟩ = l by rw [addR, if_pos (.inr h2)])
      clear h2
      go_enter Try.func114, Try.ntmps114
      go_wp2
      refine bodyPost_ret (v := .slice ptr n cap) (by simp [results, Try.results114, go_sem]) rfl ⟨_, rfl, ?_, B1.out, fun k hk hv => ⟨hv, heap_alloc_old w _ hk⟩⟩
      rw [ADD.out]
      exact H1.out _ ⟨0, rfl⟩
    · have g2 : (c1 == 0) = false := by simpa using h2
      have ADD := hid (show addR l ⟨x, y, ⟨c1, c2, c3, c4⟩⟩ = appP l ⟨x, y, ⟨c1, c2, c3, c4⟩⟩ by rw [addR, if_neg (by simp only; omega)])
      clear h1 h2
      rcases List.eq_nil_or_concat l with rfl | ⟨L, q, rfl⟩
      · have hn0 : n = 0 := HN.out
        subst hn0
        have o2 : ∀ k, (((w.alloc (.cells #[.int .i64 x, .int .i64 y, .int .i64 c1, .int .i64 c2, .int .i64 c3, .int .i64 c4] 90)).drewN k).alloc (.cells #[.int .i64 x, .int .i64 y, .int .i64 c1, .int .i64 c2, .int .i64 c3, .int .i64 c4] 90)).ownsRow B 90 6 (.slice ptr 0 cap) 0 (flatE encP []) := fun k => (H1.out _ ⟨k, rfl⟩).alloc _
        have O2 := hid o2
        clear o2
        have hd : decide ((0 : Int) < 0) = false := by decide
        go_enter Try.func114, Try.ntmps114
        go_wp2
        go_quiet (fail)
        go_wp2_with (at_builtin; refine wpList_append_lies _ rfl (.tmp 53) (.tmp 55) 63 rfl B 90 i0 _ 6 48 under_runs hi hz0 hz1 hz2 rfl (by decide) (.slice ptr 0 cap) (0) (flatE encP []) rfl (O2.out nq) ⟨w.heap.size + 1, 0, none⟩ 1 1 (encP ⟨x, y, ⟨c1, c2, c3, c4⟩⟩) rfl rfl ?a1 ?a2 (by decide) ?a3 ?a4 ?a5 _ rfl ?_)
        case a1 => exact new_run w ⟨x, y, ⟨c1, c2, c3, c4⟩⟩ _ nq _
        case a2 => intro u hu; simp [encP] at hu; rcases hu with rfl | rfl | rfl | rfl | rfl | rfl <;> rfl
        case a3 => unfold maxLen; omega
        case a4 => omega
        case a5 => simp; omega
        intro g1 cap1 w3 own1 gr1 at1 lt1
        have bb : Below B w w3 := Below.grown ((drewN_below B1.out nq).alloc (by simp; omega) _) gr1 (by simp; omega) (fun r h => (World.ownsRow.lt (O2.out nq) r h).1)
        have OW := hid own1
        have BB := hid bb
        have FR := hid (fun (k : Nat) (hk : k < w.heap.size) (hv : Value.ownBlock (.slice ptr 0 cap) ≠ some k) => show Value.ownBlock (.slice (some ⟨g1, 0, none⟩) (0 + 1) cap1) ≠ some k ∧ w3.heap[k]? = w.heap[k]? from
          ⟨fun e => by
            simp only [Value.ownBlock, Option.some.injEq] at e
            rcases at1 with h | h
            · exact hv (by rw [h, e])
            · omega,
           (gr1.block k (by simp; omega) hv.symm).trans ((heap_alloc_old _ _ (by simp; omega)).trans (heap_alloc_old w _ hk))⟩)
        clear own1 gr1 at1 lt1 bb
        go_wp2
        refine bodyPost_ret (v := .slice (some ⟨g1, 0, none⟩) (0 + 1) cap1) (by simp [results, Try.results114, go_sem]) rfl ⟨_, rfl, ?_, BB.out, FR.out⟩
        rw [ADD.out]
        exact OW.out
      · rw [List.concat_eq_append] at H1 HN HV HF HT ADD ⊢
        obtain ⟨m, hm⟩ : ∃ m, m = L.length := ⟨_, rfl⟩
        have hml : n = m + 1 := by rw [HN.out]; simp [hm]
        subst hml
        have HH := hid (show (L ++ [q]).length = m + 1 from HN.out.symm)
        obtain ⟨g, rfl, hg1, hg2⟩ : ∃ g, ptr = some ⟨g, 0, none⟩ ∧ B ≤ g ∧ g < w.heap.size := by
          rcases HF.out with ⟨_, h⟩ | ⟨g, h⟩
          · simp at h
          · exact ⟨g, h⟩
        have key : ∀ j, j < 6 → w.cell? ⟨g, m * 6 + j, none⟩ = (encP q)[j]? := by
          intro j hj
          have h0 := HV.out
          unfold RunsV OwnE at h0
          rw [HH.out] at h0
          have h1 := World.ownsRow.cellAt h0 (m * 6 + j) (by omega)
          rw [h1, flatE_get encP_len (L ++ [q]) m (by rw [HH.out]; omega) j hj]
          simp [hm]
        have q0 := key 0 (by omega)
        have q1 := key 1 (by omega)
        have q2 := key 2 (by omega)
        have q3 := key 3 (by omega)
        have q4 := key 4 (by omega)
        have q5 := key 5 (by omega)
        simp [encP] at q0 q1 q2 q3 q4 q5
        have hq := HT.out q (by simp)
        have n1 : IntKind.i64.wrap ((m : Int) + 1 - 1) = (m : Int) := by rw [IntWalk.i64_in _ (by omega)]; omega
        have n2 : (0 : Int) ≤ (m : Int) := by omega
        have n3 : (m : Int) < (m : Int) + 1 := by omega
        have n7 : (m : Int) < ((m + 1 : Nat) : Int) := by omega
        have n8 : m < m + 1 := by omega
        have n4 : decide ((0 : Int) < (m : Int) + 1) = true := by rw [decide_eq_true_eq]; omega
        have n5 : IntKind.i64.wrap (q.to + 1) = q.to + 1 := IntWalk.i64_in _ (by omega)
        have HM := hid hm
        clear key hm
        by_cases hf : q.to + 1 = x
        · have hfd : (q.to + 1 == x) = true := by simpa using hf
          by_cases hc : q.cell = ⟨c1, c2, c3, c4⟩
          · have he : ∀ w, (Op.equalIn 10000 88 (.agg #[.int .i64 q.cell.state, .int .i64 q.cell.lot, .int .i64 q.cell.owner, .int .i64 q.cell.holder]) (.agg #[.int .i64 c1, .int .i64 c2, .int .i64 c3, .int .i64 c4])).run Try.prog w = .ok true w := fun w => (run_eqPocket q.cell ⟨c1, c2, c3, c4⟩ w).trans (by simp [hc])
            have APP := hid (show appP (L ++ [q]) ⟨x, y, ⟨c1, c2, c3, c4⟩⟩ = L ++ [⟨q.from_, y, q.cell⟩] by rw [appP_last, if_pos ⟨hc, hf⟩])
            have FZ := hid (fun (k j : Nat) => show ((w.alloc (.cells #[.int .i64 x, .int .i64 y, .int .i64 c1, .int .i64 c2, .int .i64 c3, .int .i64 c4] 90)).drewN k).frozen? ⟨g, j, none⟩ = false by have h := H1.out _ ⟨k, rfl⟩; unfold RunsV OwnE at h; rw [HH.out] at h; exact World.ownsRow.frozenAt h j)
            have fz : ∀ k j, ((w.alloc (.cells #[.int .i64 x, .int .i64 y, .int .i64 c1, .int .i64 c2, .int .i64 c3, .int .i64 c4] 90)).drewN k).frozen? ⟨g, j, none⟩ = false := fun k j => FZ.out k j
            clear hc hf
            go_enter Try.func114, Try.ntmps114
            go_wp2
            go_big_quiet (fail)
            go_wp2
            refine bodyPost_ret (v := .slice (some ⟨g, 0, none⟩) (m + 1) cap) (by simp [results, Try.results114, go_sem]) rfl ⟨_, rfl, ?_, ?_, fun k hk hv => ⟨hv, (Below.heap_setCell _ ⟨g, m * 6 + 1, none⟩ _ k (fun e => hv (by rw [e]; rfl))).trans (heap_alloc_old w _ hk)⟩⟩
            · rw [ADD.out, APP.out]
              have h0 : RunsV B ((w.alloc (.cells #[.int .i64 x, .int .i64 y, .int .i64 c1, .int .i64 c2, .int .i64 c3, .int .i64 c4] 90)).drewN nq) (.slice (some ⟨g, 0, none⟩) (m + 1) cap) (L ++ [q]) := H1.out _ ⟨nq, rfl⟩
              unfold RunsV OwnE at h0
              rw [HH.out] at h0
              have h1 := World.ownsRow.stored h0 (m * 6 + 1) (.int .i64 y)
              have h2 : (flatE encP (L ++ [q])).set (m * 6 + 1) (.int .i64 y) = flatE encP (L ++ [⟨q.from_, y, q.cell⟩]) := by
                rw [HM.out, flatE_set_last encP_len, flatE_snoc]; rfl
              rw [h2] at h1
              unfold RunsV OwnE
              have e : (L ++ [(⟨q.from_, y, q.cell⟩ : Pc)]).length = m + 1 := by simp [HM.out]
              rw [e]
              exact h1.1
            · exact (drewN_below B1.out nq).setCell (p := ⟨g, m * 6 + 1, none⟩) hg1 _
          · have he : ∀ w, (Op.equalIn 10000 88 (.agg #[.int .i64 q.cell.state, .int .i64 q.cell.lot, .int .i64 q.cell.owner, .int .i64 q.cell.holder]) (.agg #[.int .i64 c1, .int .i64 c2, .int .i64 c3, .int .i64 c4])).run Try.prog w = .ok false w := fun w => (run_eqPocket q.cell ⟨c1, c2, c3, c4⟩ w).trans (by simp [hc])
            have APP := hid (show appP (L ++ [q]) ⟨x, y, ⟨c1, c2, c3, c4⟩⟩ = L ++ [q, ⟨x, y, ⟨c1, c2, c3, c4⟩⟩] by rw [appP_last, if_neg (fun e => hc e.1)])
            clear hc hf
            have o2 : ∀ k, (((w.alloc (.cells #[.int .i64 x, .int .i64 y, .int .i64 c1, .int .i64 c2, .int .i64 c3, .int .i64 c4] 90)).drewN k).alloc (.cells #[.int .i64 x, .int .i64 y, .int .i64 c1, .int .i64 c2, .int .i64 c3, .int .i64 c4] 90)).ownsRow B 90 6 (.slice (some ⟨g, 0, none⟩) (m + 1) cap) (m + 1) (flatE encP (L ++ [q])) := fun k => by
              have := (H1.out _ ⟨k, rfl⟩).alloc (.cells #[.int .i64 x, .int .i64 y, .int .i64 c1, .int .i64 c2, .int .i64 c3, .int .i64 c4] 90)
              unfold OwnE at this
              rwa [HH.out] at this
            have O2 := hid o2
            clear o2
            go_enter Try.func114, Try.ntmps114
            go_wp2
            go_big_quiet (fail)
            go_wp2_with (at_builtin; refine wpList_append_lies _ rfl (.tmp 53) (.tmp 55) 63 rfl B 90 i0 _ 6 48 under_runs hi hz0 hz1 hz2 rfl (by decide) (.slice (some ⟨g, 0, none⟩) (m + 1) cap) (m + 1) (flatE encP (L ++ [q])) rfl (O2.out nq) ⟨w.heap.size + 1, 0, none⟩ 1 1 (encP ⟨x, y, ⟨c1, c2, c3, c4⟩⟩) rfl rfl ?b1 ?b2 (by decide) ?b3 ?b4 ?b5 _ rfl ?_)
            case b1 => exact new_run w ⟨x, y, ⟨c1, c2, c3, c4⟩⟩ _ nq _
            case b2 => intro u hu; simp [encP] at hu; rcases hu with rfl | rfl | rfl | rfl | rfl | rfl <;> rfl
            case b3 => unfold maxLen; omega
            case b4 => omega
            case b5 => simp; omega
            intro g1 cap1 w3 own1 gr1 at1 lt1
            have bb : Below B w w3 := Below.grown ((drewN_below B1.out nq).alloc (by simp; omega) _) gr1 (by simp; omega) (fun r h => (World.ownsRow.lt (O2.out nq) r h).1)
            have OW := hid own1
            have BB := hid bb
            have FR := hid (fun (k : Nat) (hk : k < w.heap.size) (hv : Value.ownBlock (.slice (some ⟨g, 0, none⟩) (m + 1) cap) ≠ some k) => show Value.ownBlock (.slice (some ⟨g1, 0, none⟩) ((m + 1) + 1) cap1) ≠ some k ∧ w3.heap[k]? = w.heap[k]? from
              ⟨fun e => by
                simp only [Value.ownBlock, Option.some.injEq] at e
                rcases at1 with h | h
                · exact hv (by rw [h, e])
                · omega,
               (gr1.block k (by simp; omega) hv.symm).trans ((heap_alloc_old _ _ (by simp; omega)).trans (heap_alloc_old w _ hk))⟩)
            clear own1 gr1 at1 lt1 bb
            go_wp2
            refine bodyPost_ret (v := .slice (some ⟨g1, 0, none⟩) ((m + 1) + 1) cap1) (by simp [results, Try.results114, go_sem]) rfl ⟨_, rfl, ?_, BB.out, FR.out⟩
            rw [ADD.out, APP.out]
            have e : (L ++ [q, (⟨x, y, ⟨c1, c2, c3, c4⟩⟩ : Pc)]) = (L ++ [q]) ++ [⟨x, y, ⟨c1, c2, c3, c4⟩⟩] := by simp
            unfold RunsV OwnE
            rw [e, flatE_snoc, List.length_append, HH.out]
            exact OW.out
        · have hfd : (q.to + 1 == x) = false := by simpa using hf
          have APP := hid (show appP (L ++ [q]) ⟨x, y, ⟨c1, c2, c3, c4⟩⟩ = L ++ [q, ⟨x, y, ⟨c1, c2, c3, c4⟩⟩] by rw [appP_last, if_neg (fun e => hf e.2)])
          clear hf
          have o2 : ∀ k, (((w.alloc (.cells #[.int .i64 x, .int .i64 y, .int .i64 c1, .int .i64 c2, .int .i64 c3, .int .i64 c4] 90)).drewN k).alloc (.cells #[.int .i64 x, .int .i64 y, .int .i64 c1, .int .i64 c2, .int .i64 c3, .int .i64 c4] 90)).ownsRow B 90 6 (.slice (some ⟨g, 0, none⟩) (m + 1) cap) (m + 1) (flatE encP (L ++ [q])) := fun k => by
            have := (H1.out _ ⟨k, rfl⟩).alloc (.cells #[.int .i64 x, .int .i64 y, .int .i64 c1, .int .i64 c2, .int .i64 c3, .int .i64 c4] 90)
            unfold OwnE at this
            rwa [HH.out] at this
          have O2 := hid o2
          clear o2
          go_enter Try.func114, Try.ntmps114
          go_wp2
          go_big_quiet (fail)
          go_wp2_with (at_builtin; refine wpList_append_lies _ rfl (.tmp 53) (.tmp 55) 63 rfl B 90 i0 _ 6 48 under_runs hi hz0 hz1 hz2 rfl (by decide) (.slice (some ⟨g, 0, none⟩) (m + 1) cap) (m + 1) (flatE encP (L ++ [q])) rfl (O2.out nq) ⟨w.heap.size + 1, 0, none⟩ 1 1 (encP ⟨x, y, ⟨c1, c2, c3, c4⟩⟩) rfl rfl ?c1 ?c2 (by decide) ?c3 ?c4 ?c5 _ rfl ?_)
          case c1 => exact new_run w ⟨x, y, ⟨c1, c2, c3, c4⟩⟩ _ nq _
          case c2 => intro u hu; simp [encP] at hu; rcases hu with rfl | rfl | rfl | rfl | rfl | rfl <;> rfl
          case c3 => unfold maxLen; omega
          case c4 => omega
          case c5 => simp; omega
          intro g1 cap1 w3 own1 gr1 at1 lt1
          have bb : Below B w w3 := Below.grown ((drewN_below B1.out nq).alloc (by simp; omega) _) gr1 (by simp; omega) (fun r h => (World.ownsRow.lt (O2.out nq) r h).1)
          have OW := hid own1
          have BB := hid bb
          have FR := hid (fun (k : Nat) (hk : k < w.heap.size) (hv : Value.ownBlock (.slice (some ⟨g, 0, none⟩) (m + 1) cap) ≠ some k) => show Value.ownBlock (.slice (some ⟨g1, 0, none⟩) ((m + 1) + 1) cap1) ≠ some k ∧ w3.heap[k]? = w.heap[k]? from
            ⟨fun e => by
              simp only [Value.ownBlock, Option.some.injEq] at e
              rcases at1 with h | h
              · exact hv (by rw [h, e])
              · omega,
             (gr1.block k (by simp; omega) hv.symm).trans ((heap_alloc_old _ _ (by simp; omega)).trans (heap_alloc_old w _ hk))⟩)
          clear own1 gr1 at1 lt1 bb
          go_wp2
          refine bodyPost_ret (v := .slice (some ⟨g1, 0, none⟩) ((m + 1) + 1) cap1) (by simp [results, Try.results114, go_sem]) rfl ⟨_, rfl, ?_, BB.out, FR.out⟩
          rw [ADD.out, APP.out]
          have e : (L ++ [q, (⟨x, y, ⟨c1, c2, c3, c4⟩⟩ : Pc)]) = (L ++ [q]) ++ [⟨x, y, ⟨c1, c2, c3, c4⟩⟩] := by simp
          unfold RunsV OwnE
          rw [e, flatE_snoc, List.length_append, HH.out]
          exact OW.out
end Go.Proofs.Ytnnbdjfeagcbdaa
namespace Go.Proofs.Ytnnbdjfeagcbdaa
set_option linter.unusedSimpArgs false
set_option linter.unusedVariables false
open Go.RowKit Go.Shelf
attribute [local go_sem] Oper.semAt_some

theorem Fine.of {t : T} (h : t.Ok) (ht : Tiles t.toList 1 1000000) : Fine t := ⟨h, ht.sorted (by omega) (by omega), by have := ht.few; omega⟩
theorem Turned.below {sB vB n : Nat} {w w' : World} (h : Turned sB vB w w') (h1 : n ≤ sB) (h2 : n ≤ vB) (h3 : n ≤ w.heap.size) : Below n w w' := ⟨h.os, h.tape, h.output, h.size, fun k hk => h.block k (by omega) (by omega) (by omega)⟩

def awL1 : List Pc := [⟨1, 10, ⟨1, 7, 1, 0⟩⟩, ⟨11, 1000000, ⟨0, 0, 0, 0⟩⟩]
def awL2 : List Pc := [⟨1, 2, ⟨1, 7, 1, 0⟩⟩, ⟨3, 5, ⟨1, 7, 2, 0⟩⟩, ⟨6, 10, ⟨1, 7, 1, 0⟩⟩, ⟨11, 1000000, ⟨0, 0, 0, 0⟩⟩]
theorem aw1 : changedP [pc0] 1 10 (enterG 7 1) = awL1 := by decide
theorem aw2 : changedP awL1 3 3 (moveG 2) = awL2 := by decide
theorem aw3 : cntL (allP (ownB 1) awL2) = 7 := by decide
theorem awE (t : T) (h : t.toList = [pc0]) (hf : Fine t) : enterR t 1 10 7 1 = 0 := by
  unfold enterR; rw [visL_eq _ _ _ hf.sorted, h]; decide
theorem awM (t : T) (h : t.toList = awL1) (hf : Fine t) : moveR t 3 3 1 2 = 0 := by
  unfold moveR; rw [visL_eq _ _ _ hf.sorted, h]; decide

theorem pairs_two (w : World) (a b c d : Int) : PairsAt (w.alloc (.cells #[.int .i64 a, .int .i64 b, .int .i64 c, .int .i64 d] 72)) (.slice (some ⟨w.heap.size, 0, none⟩) 2 2) [(a, b), (c, d)] := by
  refine ⟨by simp, .inr ⟨w.heap.size, 0, 2, rfl, by simp, fun k hk => ?_⟩⟩
  have hc := Cells.new w #[.int .i64 a, .int .i64 b, .int .i64 c, .int .i64 d] 72
  have : k = 0 ∨ k = 1 := by simp at hk; omega
  rcases this with rfl | rfl <;> simp [hc.cell]

set_option maxRecDepth 100000 in
set_option maxHeartbeats 4000000 in
theorem awake_calls (w : World) : Calls Try.prog 16 #[] w fun e w' => e = .returned (.bool true) ∧ Below w.heap.size w w' := by
  go_enter Try.func16, Try.ntmps16
  go_wp2_with fail
  refine (New_calls w).mono ?_
  rintro e w1 ⟨sB, vB, t0, rfl, st, tl, fi, ls, lv, hb⟩
  have E0 := hid (awE t0 tl fi)
  have S0 := hid st
  have F0 := hid fi
  have L0 := hid tl
  have B0 := hid hb
  clear st tl fi hb
  go_wp2_with fail
  refine (enter_calls w1 sB vB [t0] t0 S0.out (by simp) rfl F0.out 1 10 7 1).mono ?_
  rintro e w2 ⟨rfl, _, h2⟩
  obtain ⟨t1, uB, s1, ok1, l1, u1, tu1⟩ := h2 E0.out
  rw [E0.out]
  rw [L0.out, aw1] at l1
  have ft1 : Tiles t1.toList 1 1000000 := by rw [l1]; simp [awL1, Tiles]
  have f1 := Fine.of ok1 ft1
  have S1 := hid s1
  have F1 := hid f1
  have L1 := hid l1
  have E1 := hid (awM t1 l1 f1)
  have B1 := hid (B0.out.trans (tu1.below ls lv B0.out.size))
  have lu : w.heap.size ≤ uB := by have := B0.out.size; omega
  clear s1 ok1 l1 u1 tu1 ft1 f1 h2
  go_wp2_with fail
  refine (move_calls w2 sB uB ([t0] ++ [t1]) t1 S1.out (by simp) rfl F1.out 3 3 1 2).mono ?_
  rintro e w3 ⟨rfl, _, h3⟩
  obtain ⟨t2, xB, s2, ok2, l2, u2, tu2⟩ := h3 E1.out
  rw [E1.out]
  rw [L1.out, aw2] at l2
  have ft2 : Tiles t2.toList 1 1000000 := by rw [l2]; simp [awL2, Tiles]
  have f2 := Fine.of ok2 ft2
  have S2 := hid s2
  have F2 := hid f2
  have L2 := hid l2
  have B2 := hid (B1.out.trans (tu2.below ls lu B1.out.size))
  clear s2 ok2 l2 u2 tu2 ft2 f2 h3
  go_wp2_with fail
  refine (Count_calls w3 sB xB ([t0] ++ [t1] ++ [t2]) S2.out (by simp) (by
    intro t ht
    simp at ht
    rcases ht with rfl | rfl | rfl
    · exact F0.out
    · exact F1.out
    · exact F2.out) 1 2).mono ?_
  rintro e w4 ⟨rfl, hb4⟩
  have e1 : atE ([t0] ++ [t1] ++ [t2]).length 2 (inB 1000 1) = 0 := by simp [atE, inB]
  rw [e1]
  have e2 : cntL (askL (ownB 1) ([t0] ++ [t1] ++ [t2]) 2 0) = 7 := by
    unfold askL; rw [if_pos rfl]
    show cntL (allP (ownB 1) t2.toList) = 7
    rw [L2.out]; exact aw3
  rw [e2]
  have B4 := hid (B2.out.trans (hb4.mono B2.out.size))
  have S4 := hid (S2.out.below hb4)
  clear e1 e2 hb4
  go_wp2_with fail
  refine (alpha_calls _ _ [(1, 501), (1, 502)] (pairs_two w4 1 501 1 502)).mono ?_
  rintro e w5 ⟨rfl, hb5⟩
  have ea : alphaP [(1, 501), (1, 502)] = (502, 0) := by decide
  rw [ea]
  have B5 := hid (B4.out.trans (((Below.refl w4.heap.size w4).alloc (Nat.le_refl _) (.cells #[.int .i64 1, .int .i64 501, .int .i64 1, .int .i64 502] 72)).trans (hb5.mono (by simp)) |>.mono B4.out.size))
  have S5 := hid ((S4.out.below ((Below.refl w4.heap.size w4).alloc (Nat.le_refl _) (.cells #[.int .i64 1, .int .i64 501, .int .i64 1, .int .i64 502] 72))).below hb5)
  clear ea hb5
  obtain ⟨cap, ps, hc, _, _⟩ := S5.out.at_
  have hcc := hc.cell 0
  simp at hcc
  have HC := hid hcc
  clear hcc hc
  go_wp2_with fail
  refine (version_calls w5 sB (.bool true) 3 cap _ (by omega) HC.out).mono ?_
  rintro e w6 ⟨rfl, rfl⟩
  go_wp2
  go_ret
  exact ⟨rfl, B5.out⟩
end Go.Proofs.Ytnnbdjfeagcbdaa
namespace Go.Proofs.Ytnnbdjfeagcbdaa
set_option linter.unusedSimpArgs false
set_option linter.unusedVariables false
open Go.RowKit Go.Shelf

/-- A register at block sB, its versions in vB, made since the world W. -/
structure Reg (B : Nat) (W w : World) (sB vB : Nat) (vs : List T) : Prop where
  st : StAt w sB vB vs
  fine : ∀ t ∈ vs, Fine t
  tiles : ∀ t ∈ vs, Tiles t.toList 1 1000000
  canon : ∀ t ∈ vs, Canon t.toList
  zero : ∀ t ∈ vs, ∀ n, (valL t.toList n).state = 0 → valL t.toList n = cl0
  below : Below B W w
  ls : B ≤ sB
  lv : B ≤ vB
theorem Reg.after {B : Nat} {W w w' : World} {sB vB : Nat} {vs : List T} (h : Reg B W w sB vB vs) (hB : B ≤ w.heap.size) (hb : Below w.heap.size w w') : Reg B W w' sB vB vs :=
  ⟨h.st.below hb, h.fine, h.tiles, h.canon, h.zero, h.below.trans (hb.mono hB), h.ls, h.lv⟩
theorem Reg.last {B : Nat} {W w : World} {sB vB : Nat} {vs : List T} (h : Reg B W w sB vB vs) : ∃ t, vs.getLast? = some t ∧ t ∈ vs := by
  refine ⟨vs.getLast h.st.full, List.getLast?_eq_some_getLast h.st.full, List.getLast_mem h.st.full⟩
theorem Reg.cell {B : Nat} {W w : World} {sB vB : Nat} {vs : List T} (h : Reg B W w sB vB vs) : ∃ cap, w.cell? ⟨sB, 0, none⟩ = some (.slice (some ⟨vB, 0, none⟩) vs.length cap) ∧ sB < w.heap.size := by
  obtain ⟨cap, ps, hc, _, _⟩ := h.st.at_
  refine ⟨cap, ?_, hc.lt⟩
  have := hc.cell 0
  simpa using this
theorem valL_pc0 (n : Int) : valL [pc0] n = cl0 := by
  rw [valL]
  split
  · rfl
  · rfl
/-- A new register. -/
theorem new_reg (w : World) : Calls Try.prog 17 #[] w fun e w' => ∃ sB vB t, e = .returned (.pointer (some ⟨sB, 0, none⟩)) ∧ Reg w.heap.size w w' sB vB [t] ∧ t.toList = [pc0] := by
  refine (New_calls w).mono ?_
  rintro e w1 ⟨sB, vB, t, rfl, st, tl, fi, ls, lv, hb⟩
  refine ⟨sB, vB, t, rfl, ⟨st, by simpa using fi, ?_, ?_, ?_, hb, ls, lv⟩, tl⟩
  · intro u hu; simp at hu; subst hu; rw [tl]; simp [Tiles, pc0]
  · intro u hu; simp at hu; subst hu; rw [tl]; trivial
  · intro u hu n _; simp at hu; subst hu; rw [tl]; exact valL_pc0 n

/-- What a change of a register came to: an error, or the next version. -/
def Went (B : Nat) (W w : World) (sB vB : Nat) (vs : List T) (t : T) (r a c : Int) (g : Cl → Cl) (e : Ending) (w' : World) : Prop :=
  e = .returned (.int .i64 r) ∧ ∃ us uB, Reg B W w' sB uB us ∧ Turned sB vB w w' ∧ (r ≠ 0 → us = vs ∧ uB = vB) ∧
    (r = 0 → (uB = vB ∨ w.heap.size ≤ uB) ∧ ∃ t' : T, us = vs ++ [t'] ∧ t'.toList = changedP t.toList a c g)
theorem Reg.step {B : Nat} {W w w' : World} {sB vB : Nat} {vs : List T} {t : T} {r a c : Int} {g : Cl → Cl} {e : Ending} (h : Reg B W w sB vB vs) (hB : B ≤ w.heap.size) (ht : vs.getLast? = some t) (hS : Stepped w sB vB vs t r a c g e w')
    (hac : r = 0 → 1 ≤ a ∧ 1 ≤ c ∧ a + c - 1 ≤ 1000000) (hz : r = 0 → ∀ n, a ≤ n → n ≤ a + c - 1 → (g (valL t.toList n)).state ≠ 0) : Went B W w sB vB vs t r a c g e w' := by
  obtain ⟨he, h1, h2⟩ := hS
  refine ⟨he, ?_⟩
  by_cases hr : r = 0
  · obtain ⟨t', uB, s1, ok1, l1, u1, tu⟩ := h2 hr
    have hac := hac hr
    have hz := hz hr
    have htm : t ∈ vs := List.mem_of_getLast? ht
    have tt := h.tiles t htm
    have nt : Tiles t'.toList 1 1000000 := by rw [l1]; exact changedP_tiles g tt hac.1 hac.2.1 hac.2.2
    have nf := Fine.of ok1 nt
    refine ⟨vs ++ [t'], uB, ⟨s1, ?_, ?_, ?_, ?_, h.below.trans (tu.below h.ls h.lv hB), h.ls, ?_⟩, tu, fun e => absurd hr e, fun _ => ⟨u1, t', rfl, l1⟩⟩
    · intro u hu
      rcases List.mem_append.1 hu with hu | hu
      · exact h.fine u hu
      · simp at hu; subst hu; exact nf
    · intro u hu
      rcases List.mem_append.1 hu with hu | hu
      · exact h.tiles u hu
      · simp at hu; subst hu; exact nt
    · intro u hu
      rcases List.mem_append.1 hu with hu | hu
      · exact h.canon u hu
      · simp at hu; subst hu; rw [l1]; exact changedP_canon g a c (h.canon t htm)
    · intro u hu n
      rcases List.mem_append.1 hu with hu | hu
      · exact h.zero u hu n
      · simp at hu; subst hu
        rw [l1, changedP_val g tt hac.1 hac.2.1 hac.2.2]
        split
        · rename_i hn
          intro hs
          exact absurd hs (hz n hn.1 hn.2)
        · exact h.zero t htm n
    · rcases u1 with rfl | u1
      · exact h.lv
      · omega
  · have hb := h1 hr
    exact ⟨vs, vB, h.after hB hb, Turned.of_below hb, fun _ => ⟨rfl, rfl⟩, fun e => absurd e hr⟩

theorem enterR_zero {t : T} {a c lot o : Int} (h : enterR t a c lot o = 0) : (1 ≤ a ∧ 1 ≤ c ∧ a + c - 1 ≤ 1000000) ∧ firstE enterE (visL t a (a + c - 1)) = 0 := by
  unfold enterR at h
  split at h
  · rename_i hc; exact ⟨(okSpan_iff a c).1 hc.1, h⟩
  · omega
theorem moveR_zero {t : T} {a c o to : Int} (h : moveR t a c o to = 0) : (1 ≤ a ∧ 1 ≤ c ∧ a + c - 1 ≤ 1000000) ∧ firstE (ownedE o) (visL t a (a + c - 1)) = 0 := by
  unfold moveR at h
  split at h
  · rename_i hc; exact ⟨(okSpan_iff a c).1 hc.1, h⟩
  · omega
theorem pledgeR_zero {t : T} {a c o to : Int} (h : pledgeR t a c o to = 0) : (1 ≤ a ∧ 1 ≤ c ∧ a + c - 1 ≤ 1000000) ∧ firstE (ownedE o) (visL t a (a + c - 1)) = 0 := by
  unfold pledgeR at h
  split at h
  · rename_i hc; exact ⟨(okSpan_iff a c).1 hc.1, h⟩
  · omega
theorem leaveR_zero {t : T} {a c o : Int} (h : leaveR t a c o = 0) : (1 ≤ a ∧ 1 ≤ c ∧ a + c - 1 ≤ 1000000) ∧ firstE (ownedE o) (visL t a (a + c - 1)) = 0 := by
  unfold leaveR at h
  split at h
  · rename_i hc; exact ⟨(okSpan_iff a c).1 hc.1, h⟩
  · omega
theorem heldR_zero {t : T} {a c o : Int} (h : heldR t a c o = 0) : (1 ≤ a ∧ 1 ≤ c ∧ a + c - 1 ≤ 1000000) ∧ firstE (heldE o) (visL t a (a + c - 1)) = 0 := by
  unfold heldR at h
  split at h
  · rename_i hc; exact ⟨(okSpan_iff a c).1 hc.1, h⟩
  · omega
theorem ownedE_in {o : Int} {c : Cl} (h : ownedE o c = 0) : c.state = 1 ∧ c.owner = o ∧ c.holder = 0 := by
  unfold ownedE at h
  split at h
  · omega
  · split at h
    · omega
    · split at h
      · omega
      · omega
theorem heldE_in {o : Int} {c : Cl} (h : heldE o c = 0) : c.state = 1 ∧ c.holder = o := by
  unfold heldE at h
  split at h
  · omega
  · split at h
    · omega
    · omega
theorem enterE_in {c : Cl} (h : enterE c = 0) : c.state = 0 := by
  unfold enterE at h
  split at h <;> omega
/-- What a check of a span says of its pockets. -/
theorem vis_in {t : T} {a b : Int} {e : Cl → Int} (fi : Fine t) (ht : Tiles t.toList 1 1000000) (hz : firstE e (visL t a b) = 0) (h1 : 1 ≤ a) (h2 : b ≤ 1000000) : ∀ n, a ≤ n → n ≤ b → e (valL t.toList n) = 0 := by
  intro n hn1 hn2
  rw [visL_eq a b t fi.sorted] at hz
  exact visP_zero ht e hz (by omega) (by omega) hn1 hn2

section
variable {B : Nat} {W w : World} {sB vB : Nat} {vs : List T} {t : T} (h : Reg B W w sB vB vs) (hB : B ≤ w.heap.size) (hn : vs.length ≤ 1000) (ht : vs.getLast? = some t)
include h hB hn ht
theorem enter_reg (a c lot o : Int) : Calls Try.prog 20 #[.pointer (some ⟨sB, 0, none⟩), .agg #[.int .i64 a, .int .i64 c], .int .i64 lot, .int .i64 o] w (Went B W w sB vB vs t (enterR t a c lot o) a c (enterG lot o)) := by
  have hm := List.mem_of_getLast? ht
  exact (enter_calls w sB vB vs t h.st hn ht (h.fine t hm) a c lot o).mono fun e w' hS => h.step hB ht hS (fun hr => (enterR_zero hr).1) (fun hr n _ _ => by simp [enterG])
theorem move_reg (a c o to : Int) : Calls Try.prog 21 #[.pointer (some ⟨sB, 0, none⟩), .agg #[.int .i64 a, .int .i64 c], .int .i64 o, .int .i64 to] w (Went B W w sB vB vs t (moveR t a c o to) a c (moveG to)) := by
  have hm := List.mem_of_getLast? ht
  exact (move_calls w sB vB vs t h.st hn ht (h.fine t hm) a c o to).mono fun e w' hS => h.step hB ht hS (fun hr => (moveR_zero hr).1) (fun hr n h1 h2 => by
    have hz := moveR_zero hr
    have := ownedE_in (vis_in (h.fine t hm) (h.tiles t hm) hz.2 hz.1.1 hz.1.2.2 n h1 h2)
    simp only [moveG]; omega)
theorem pledge_reg (a c o to : Int) : Calls Try.prog 22 #[.pointer (some ⟨sB, 0, none⟩), .agg #[.int .i64 a, .int .i64 c], .int .i64 o, .int .i64 to] w (Went B W w sB vB vs t (pledgeR t a c o to) a c (pledgeG to)) := by
  have hm := List.mem_of_getLast? ht
  exact (pledge_calls w sB vB vs t h.st hn ht (h.fine t hm) a c o to).mono fun e w' hS => h.step hB ht hS (fun hr => (pledgeR_zero hr).1) (fun hr n h1 h2 => by
    have hz := pledgeR_zero hr
    have := ownedE_in (vis_in (h.fine t hm) (h.tiles t hm) hz.2 hz.1.1 hz.1.2.2 n h1 h2)
    simp only [pledgeG]; omega)
theorem leave_reg (a c o : Int) : Calls Try.prog 25 #[.pointer (some ⟨sB, 0, none⟩), .agg #[.int .i64 a, .int .i64 c], .int .i64 o] w (Went B W w sB vB vs t (leaveR t a c o) a c leaveG) := by
  have hm := List.mem_of_getLast? ht
  exact (leave_calls w sB vB vs t h.st hn ht (h.fine t hm) a c o).mono fun e w' hS => h.step hB ht hS (fun hr => (leaveR_zero hr).1) (fun hr n _ _ => by simp [leaveG])
theorem release_reg (a c o : Int) : Calls Try.prog 23 #[.pointer (some ⟨sB, 0, none⟩), .agg #[.int .i64 a, .int .i64 c], .int .i64 o] w (Went B W w sB vB vs t (heldR t a c o) a c releaseG) := by
  have hm := List.mem_of_getLast? ht
  exact (release_calls w sB vB vs t h.st hn ht (h.fine t hm) a c o).mono fun e w' hS => h.step hB ht hS (fun hr => (heldR_zero hr).1) (fun hr n h1 h2 => by
    have hz := heldR_zero hr
    have := heldE_in (vis_in (h.fine t hm) (h.tiles t hm) hz.2 hz.1.1 hz.1.2.2 n h1 h2)
    simp only [releaseG]; omega)
theorem seize_reg (a c o : Int) : Calls Try.prog 24 #[.pointer (some ⟨sB, 0, none⟩), .agg #[.int .i64 a, .int .i64 c], .int .i64 o] w (Went B W w sB vB vs t (heldR t a c o) a c (seizeG o)) := by
  have hm := List.mem_of_getLast? ht
  exact (seize_calls w sB vB vs t h.st hn ht (h.fine t hm) a c o).mono fun e w' hS => h.step hB ht hS (fun hr => (heldR_zero hr).1) (fun hr n h1 h2 => by
    have hz := heldR_zero hr
    have := heldE_in (vis_in (h.fine t hm) (h.tiles t hm) hz.2 hz.1.1 hz.1.2.2 n h1 h2)
    simp only [seizeG]; omega)
end
end Go.Proofs.Ytnnbdjfeagcbdaa
namespace Go.Proofs.Ytnnbdjfeagcbdaa
set_option linter.unusedSimpArgs false
set_option linter.unusedVariables false
open Go.RowKit Go.Shelf
attribute [local go_sem] Oper.semAt_some
attribute [local go_sem ↓] Go.wp_at_zero Go.wp_at_succ

def encS (s : Int × Int) : List Value := [.int .i64 s.1, .int .i64 s.2]
theorem encS_len (s : Int × Int) : (encS s).length = 2 := rfl
theorem info_span : (Try.prog.info? 37).map (fun i => (i.zero, i.size, i.bytes)) = some (some (.agg #[.int .i64 0, .int .i64 0]), 2, 16) := by kernel_rfl
theorem under_spans : Try.prog.underlying 82 = some (.slice 37) := by kernel_rfl
/-- Spans with one more. -/
def extL : List (Int × Int) → Int × Int → List (Int × Int)
  | [], s => [s]
  | [q], s => if q.1 + q.2 = s.1 then [(q.1, q.2 + s.2)] else [q, s]
  | a :: b :: l, s => a :: extL (b :: l) s
theorem extL_cons (a : Int × Int) (l : List (Int × Int)) (s : Int × Int) (h : l ≠ []) : extL (a :: l) s = a :: extL l s := by
  cases l with
  | nil => exact absurd rfl h
  | cons b l => rfl
theorem extL_last (l : List (Int × Int)) (q s : Int × Int) : extL (l ++ [q]) s = if q.1 + q.2 = s.1 then l ++ [(q.1, q.2 + s.2)] else l ++ [q, s] := by
  induction l with
  | nil => rfl
  | cons a l ih => rw [List.cons_append, extL_cons _ _ _ (by simp), ih]; split <;> simp
theorem extL_length (l : List (Int × Int)) (s : Int × Int) : (extL l s).length ≤ l.length + 1 := by
  rcases List.eq_nil_or_concat l with rfl | ⟨L, q, rfl⟩
  · simp [extL]
  · rw [List.concat_eq_append, extL_last]; split <;> simp

theorem new_span (w : World) (k : Nat) (x y : Int) : ∀ (j : Nat) (u : Value), [Value.int IntKind.i64 x, Value.int IntKind.i64 y][j]? = some u →
    (((w.alloc (Obj.cells #[Value.int IntKind.i64 x, Value.int IntKind.i64 y] 37)).drewN k).alloc (Obj.cells #[Value.int IntKind.i64 x, Value.int IntKind.i64 y] 37)).cell? ((⟨w.heap.size + 1, 0, none⟩ : Addr).add j) = some u := fun j u hu => by
  have := news_of (Cells.new ((w.alloc (Obj.cells #[Value.int IntKind.i64 x, Value.int IntKind.i64 y] 37)).drewN k) #[.int .i64 x, .int .i64 y] 37) j u (by simpa using hu)
  have hz : ((w.alloc (Obj.cells #[Value.int IntKind.i64 x, Value.int IntKind.i64 y] 37)).drewN k).heap.size = w.heap.size + 1 := by simp
  rwa [hz] at this

set_option maxRecDepth 100000 in
set_option maxHeartbeats 2000000 in
theorem extended_calls (B : Nat) (w : World) (hB : B ≤ w.heap.size) (v : Value) (l : List (Int × Int)) (hv : OwnE encS 2 37 B w v l) (hl : l.length ≤ 10000000) (hs : ∀ q ∈ l, 0 ≤ q.1 ∧ q.1 ≤ 1000000000 ∧ 0 ≤ q.2 ∧ q.2 ≤ 1000000000) (x y : Int) (hx : 0 ≤ x ∧ x ≤ 1000000000 ∧ 0 ≤ y ∧ y ≤ 1000000000) :
    Calls Try.prog 87 #[v, .agg #[.int .i64 x, .int .i64 y]] w fun e w' => ∃ u, e = .returned u ∧ OwnE encS 2 37 B w' u (extL l (x, y)) ∧ Below B w w' := by
  obtain ⟨i0, hi, hz0, hz1, hz2⟩ := info_parts info_span
  have HV := hid hv
  have b1 : Below B w (w.alloc (.cells #[.int .i64 x, .int .i64 y] 37)) := (Below.refl _ _).alloc hB _
  have B1 := hid b1
  clear b1
  have o2 : ∀ k, (((w.alloc (.cells #[.int .i64 x, .int .i64 y] 37)).drewN k).alloc (.cells #[.int .i64 x, .int .i64 y] 37)).ownsRow B 37 2 v l.length (flatE encS l) := fun k =>
    World.ownsRow.alloc (ownsRow_moved (World.ownsRow.alloc HV.out (.cells #[.int .i64 x, .int .i64 y] 37)) fun _ _ _ _ => rfl) (.cells #[.int .i64 x, .int .i64 y] 37)
  have O2 := hid o2
  clear o2
  rcases List.eq_nil_or_concat l with rfl | ⟨L, q, rfl⟩
  · have hf : ∃ ptr cap, v = .slice ptr 0 cap := by
      rcases hv.2 with ⟨h, _⟩ | ⟨g, cap, cur, h, _⟩
      · exact ⟨_, _, h⟩
      · exact ⟨_, _, h⟩
    obtain ⟨ptr, cap, rfl⟩ := hf
    have hd : decide ((0 : Int) < 0) = false := by decide
    clear hv hs
    go_enter Try.func87, Try.ntmps87
    go_wp2
    go_quiet (fail)
    go_wp2_with (at_builtin; refine wpList_append_lies _ rfl (.tmp 40) (.tmp 42) 82 rfl B 37 i0 _ 2 16 under_spans hi hz0 hz1 hz2 rfl (by decide) (.slice ptr 0 cap) (0) (flatE encS []) rfl (O2.out nq) ⟨w.heap.size + 1, 0, none⟩ 1 1 [.int .i64 x, .int .i64 y] rfl rfl ?a1 ?a2 (by decide) ?a3 ?a4 ?a5 _ rfl ?_)
    case a1 => exact new_span w nq x y
    case a2 => intro u hu; simp at hu; rcases hu with rfl | rfl <;> rfl
    case a3 => unfold maxLen; omega
    case a4 => omega
    case a5 => simp; omega
    intro g1 cap1 w3 own1 gr1 at1 lt1
    have bb : Below B w w3 := Below.grown ((drewN_below B1.out nq).alloc (by simp; omega) _) gr1 (by simp; omega) (fun r h => (World.ownsRow.lt (O2.out nq) r h).1)
    have OW := hid own1
    have BB := hid bb
    clear own1 gr1 at1 lt1 bb
    go_wp2
    refine bodyPost_ret (v := .slice (some ⟨g1, 0, none⟩) (0 + 1) cap1) (by simp [results, Try.results87, go_sem]) rfl ⟨_, rfl, ?_, BB.out⟩
    exact OW.out
  · rw [List.concat_eq_append] at hv hl hs O2 HV ⊢
    obtain ⟨m, hm⟩ : ∃ m, m = L.length := ⟨_, rfl⟩
    have hml : (L ++ [q]).length = m + 1 := by simp [hm]
    obtain ⟨p0, cap, rfl, hp⟩ := hv.form
    obtain ⟨g, rfl, hg1, hg2⟩ : ∃ g, p0 = some ⟨g, 0, none⟩ ∧ B ≤ g ∧ g < w.heap.size := by
      rcases hp with ⟨_, h⟩ | ⟨g, h⟩
      · simp at h
      · exact ⟨g, h⟩
    have key : ∀ j, j < 2 → w.cell? ⟨g, m * 2 + j, none⟩ = (encS q)[j]? := by
      intro j hj
      have h1 := World.ownsRow.cellAt hv (m * 2 + j) (by rw [hml]; omega)
      rw [h1, flatE_get encS_len (L ++ [q]) m (by rw [hml]; omega) j hj]
      simp [hm]
    have q0 := key 0 (by omega)
    have q1 := key 1 (by omega)
    simp [encS] at q0 q1
    rw [hml] at hl O2 hv ⊢
    have hq := hs q (by simp)
    have HROW := hid (World.ownsRow.alloc HV.out (.cells #[.int .i64 x, .int .i64 y] 37))
    have hfz := (World.ownsRow.frozenAt HV.out)
    have n1 : IntKind.i64.wrap ((m : Int) + 1 - 1) = (m : Int) := by rw [IntWalk.i64_in _ (by omega)]; omega
    have n2 : (0 : Int) ≤ (m : Int) := by omega
    have n3 : (m : Int) < (m : Int) + 1 := by omega
    have n7 : (m : Int) < ((m + 1 : Nat) : Int) := by omega
    have n8 : m < m + 1 := by omega
    have n4 : decide ((0 : Int) < (m : Int) + 1) = true := by rw [decide_eq_true_eq]; omega
    have n5 : IntKind.i64.wrap (q.1 + q.2) = q.1 + q.2 := IntWalk.i64_in _ (by omega)
    have n6 : IntKind.i64.wrap (q.2 + y) = q.2 + y := IntWalk.i64_in _ (by omega)
    have HM := hid hm
    have HH := hid hml
    clear key hs hv hp hml hm
    by_cases hc : q.1 + q.2 = x
    · have hcd : (q.1 + q.2 == x) = true := by simp [hc]
      have HC := hid hc
      clear hc
      go_enter Try.func87, Try.ntmps87
      go_wp2
      go_quiet (fail)
      go_wp2
      have a0 : ((w.alloc (.cells #[.int .i64 x, .int .i64 y] 37)).drewN nq).drew.cell? ⟨w.heap.size, 1, none⟩ = some (.int .i64 y) := by simp
      have a1 : ((w.alloc (.cells #[.int .i64 x, .int .i64 y] 37)).drewN nq).drew.cell? ⟨g, m * 2 + 1, none⟩ = some (.int .i64 q.2) := by
        have h := World.ownsRow.lt HROW.out g rfl
        exact (Below.cell ((Below.refl w.heap.size w).alloc (Nat.le_refl _) (.cells #[.int .i64 x, .int .i64 y] 37)) (p := ⟨g, m * 2 + 1, none⟩) hg2).trans q1
      have hz2 : ((w.alloc (.cells #[.int .i64 x, .int .i64 y] 37)).drewN nq).drew.frozen? ⟨g, m * 2 + 1, none⟩ = false := World.ownsRow.frozenAt HROW.out _
      go_region
      go_wp2
      refine bodyPost_ret (v := .slice (some ⟨g, 0, none⟩) (m + 1) cap) (by simp [results, Try.results87, go_sem]) rfl ⟨_, rfl, ?_, ?_⟩
      · rw [extL_last, if_pos HC.out]
        have h1 := World.ownsRow.stored HROW.out (m * 2 + 1) (.int .i64 (q.2 + y))
        have h2 : (flatE encS (L ++ [q])).set (m * 2 + 1) (.int .i64 (q.2 + y)) = flatE encS (L ++ [(q.1, q.2 + y)]) := by
          rw [HM.out, flatE_set_last encS_len, flatE_snoc]; rfl
        rw [h2] at h1
        unfold OwnE
        have e : (L ++ [(q.1, q.2 + y)]).length = m + 1 := by simp [HM.out]
        rw [e]
        have h3 := h1.1
        rw [HH.out] at h3
        exact ownsRow_moved h3 fun _ _ _ _ => rfl
      · have hB1 := B1.out
        repeat (first | exact hB1 | refine Below.setCell ?_ (by simp; try omega) _ | refine drewN_below ?_ _ | refine Below.drew ?_)
    · have hcd : (q.1 + q.2 == x) = false := by simp [hc]
      have HC := hid hc
      clear hc
      go_enter Try.func87, Try.ntmps87
      go_wp2
      go_quiet (fail)
      go_wp2_with (at_builtin; refine wpList_append_lies _ rfl (.tmp 40) (.tmp 42) 82 rfl B 37 i0 _ 2 16 under_spans hi hz0 hz1 hz2 rfl (by decide) (.slice (some ⟨g, 0, none⟩) (m + 1) cap) ((m + 1)) (flatE encS (L ++ [q])) rfl (O2.out nq) ⟨w.heap.size + 1, 0, none⟩ 1 1 [.int .i64 x, .int .i64 y] rfl rfl ?b1 ?b2 (by decide) ?b3 ?b4 ?b5 _ rfl ?_)
      case b1 => exact new_span w nq x y
      case b2 => intro u hu; simp at hu; rcases hu with rfl | rfl <;> rfl
      case b3 => unfold maxLen; omega
      case b4 => omega
      case b5 => simp; omega
      intro g1 cap1 w3 own1 gr1 at1 lt1
      have bb : Below B w w3 := Below.grown ((drewN_below B1.out nq).alloc (by simp; omega) _) gr1 (by simp; omega) (fun r h => (World.ownsRow.lt (O2.out nq) r h).1)
      have OW := hid own1
      have BB := hid bb
      clear own1 gr1 at1 lt1 bb
      go_wp2
      refine bodyPost_ret (v := .slice (some ⟨g1, 0, none⟩) ((m + 1) + 1) cap1) (by simp [results, Try.results87, go_sem]) rfl ⟨_, rfl, ?_, BB.out⟩
      rw [extL_last, if_neg HC.out]
      unfold OwnE
      have := OW.out
      have e : (L ++ [q, (x, y)]) = (L ++ [q]) ++ [(x, y)] := by simp
      rw [e, flatE_snoc, List.length_append, HH.out]
      exact this
end Go.Proofs.Ytnnbdjfeagcbdaa
namespace Go.Proofs.Ytnnbdjfeagcbdaa
set_option linter.unusedSimpArgs false
set_option linter.unusedVariables false
open Go.RowKit Go.Shelf

/-- Spans in order, none meets the next. -/
def Runs : List (Int × Int) → Int → Int → Prop
  | [], _, _ => True
  | s :: l, a, b => a ≤ s.1 ∧ 1 ≤ s.2 ∧ s.1 + s.2 ≤ b + 1 ∧ Runs l (s.1 + s.2 + 1) b
def inS : List (Int × Int) → Int → Prop
  | [], _ => False
  | s :: l, n => s.1 ≤ n ∧ n < s.1 + s.2 ∨ inS l n
theorem Runs.from_ : ∀ {l : List (Int × Int)} {a b n : Int}, Runs l a b → inS l n → a ≤ n ∧ n ≤ b
  | s :: l, a, b, n, ⟨h1, h2, h3, h4⟩, h => by
    rcases h with h | h
    · omega
    · have := h4.from_ h; omega
theorem Runs.mono : ∀ {l : List (Int × Int)} {a a' b : Int}, Runs l a b → a' ≤ a → Runs l a' b
  | [], _, _, _, _, _ => trivial
  | _ :: _, _, _, _, ⟨h1, h2, h3, h4⟩, h => ⟨by omega, h2, h3, h4⟩
theorem runs_unique : ∀ {l m : List (Int × Int)} {a b : Int}, Runs l a b → Runs m a b → (∀ n, inS l n ↔ inS m n) → l = m
  | [], [], _, _, _, _, _ => rfl
  | [], s :: m, _, _, _, ⟨h1, h2, h3, h4⟩, h => absurd ((h s.1).2 (.inl ⟨by omega, by omega⟩)) (by simp [inS])
  | s :: l, [], _, _, ⟨h1, h2, h3, h4⟩, _, h => absurd ((h s.1).1 (.inl ⟨by omega, by omega⟩)) (by simp [inS])
  | s :: l, t :: m, a, b, ⟨h1, h2, h3, h4⟩, ⟨k1, k2, k3, k4⟩, h => by
    have nl : ∀ n, n ≤ s.1 + s.2 → ¬ inS l n := fun n hn hi => by have := h4.from_ hi; omega
    have nm : ∀ n, n ≤ t.1 + t.2 → ¬ inS m n := fun n hn hi => by have := k4.from_ hi; omega
    have a1 : t.1 ≤ s.1 := by
      rcases (h s.1).1 (.inl ⟨by omega, by omega⟩) with h | h
      · omega
      · have := k4.from_ h; omega
    have a2 : s.1 ≤ t.1 := by
      rcases (h t.1).2 (.inl ⟨by omega, by omega⟩) with h | h
      · omega
      · have := h4.from_ h; omega
    have e1 : s.1 = t.1 := by omega
    have b1 : ¬ s.2 < t.2 := fun hlt => by
      rcases (h (s.1 + s.2)).2 (.inl ⟨by omega, by omega⟩) with h | h
      · omega
      · exact nl _ (by omega) h
    have b2 : ¬ t.2 < s.2 := fun hlt => by
      rcases (h (t.1 + t.2)).1 (.inl ⟨by omega, by omega⟩) with h | h
      · omega
      · exact nm _ (by omega) h
    have e2 : s.2 = t.2 := by omega
    have est : s = t := Prod.ext e1 e2
    subst est
    have := runs_unique h4 k4 (fun n => by
      constructor
      · intro hi
        have hn := h4.from_ hi
        rcases (h n).1 (.inr hi) with g | g
        · omega
        · exact g
      · intro hi
        have hn := k4.from_ hi
        rcases (h n).2 (.inr hi) with g | g
        · omega
        · exact g)
    rw [this]
theorem Runs.up : ∀ {l : List (Int × Int)} {a b b' : Int}, Runs l a b → b ≤ b' → Runs l a b'
  | [], _, _, _, _, _ => trivial
  | _ :: _, _, _, _, ⟨h1, h2, h3, h4⟩, h => ⟨h1, h2, by omega, h4.up h⟩
theorem extL_runs : ∀ {l : List (Int × Int)} {a b x y : Int}, Runs l a b → x = b + 1 → a ≤ x → 1 ≤ y → Runs (extL l (x, y)) a (b + y) ∧ ∀ n, inS (extL l (x, y)) n ↔ inS l n ∨ x ≤ n ∧ n < x + y
  | [], a, b, x, y, _, hx, ha, hy => ⟨⟨by simpa using ha, hy, by simp; omega, trivial⟩, fun n => by simp [extL, inS]⟩
  | [q], a, b, x, y, ⟨h1, h2, h3, h4⟩, hx, ha, hy => by
    simp only [extL]
    split
    · exact ⟨⟨h1, by simp; omega, by simp; omega, trivial⟩, fun n => by simp only [inS, or_false]; omega⟩
    · exact ⟨⟨h1, h2, by omega, by simp; omega, by simpa using hy, by simp; omega, trivial⟩, fun n => by simp only [inS, or_false]⟩
  | q :: r :: l, a, b, x, y, ⟨h1, h2, h3, h4⟩, hx, ha, hy => by
    have h5 := h4
    obtain ⟨g1, g2, g3, g4⟩ := h5
    have ih := extL_runs h4 hx (by omega) hy
    rw [extL_cons _ _ _ (by simp)]
    exact ⟨⟨h1, h2, by omega, ih.1⟩, fun n => by
      have := ih.2 n
      constructor
      · rintro (h | h)
        · exact .inl (.inl h)
        · rcases this.1 h with h | h
          · exact .inl (.inr h)
          · exact .inr h
      · rintro ((h | h) | h)
        · exact .inl h
        · exact .inr (this.2 (.inl h))
        · exact .inr (this.2 (.inr h))⟩
end Go.Proofs.Ytnnbdjfeagcbdaa
namespace Go.Proofs.Ytnnbdjfeagcbdaa
set_option linter.unusedSimpArgs false
set_option linter.unusedVariables false
open Go.RowKit Go.Shelf

/-- The rest of a tiling from a pocket on that lies in its first piece. -/
def OpenT : List Pc → Int → Int → Prop
  | [], a, b => a = b + 1
  | p :: l, a, b => p.from_ ≤ a ∧ a ≤ p.to ∧ Tiles l (p.to + 1) b
theorem Tiles.openT {l : List Pc} {a b : Int} (h : Tiles l a b) : OpenT l a b := by
  cases l with
  | nil => exact h
  | cons p l => obtain ⟨h1, h2, h3⟩ := h; exact ⟨by omega, by omega, h3⟩
def diffL : Nat → List Pc → List Pc → Int → List (Int × Int) → List (Int × Int)
  | k + 1, p :: l, q :: m, a, out => diffL k (if p.to = min p.to q.to then l else p :: l) (if q.to = min p.to q.to then m else q :: m) (min p.to q.to + 1) (if p.cell = q.cell then out else extL out (a, min p.to q.to - a + 1))
  | _, _, _, _, out => out
theorem step_openT {p : Pc} {l : List Pc} {a b t : Int} (h : OpenT (p :: l) a b) (ha : a ≤ t) (ht : t ≤ p.to) : OpenT (if p.to = t then l else p :: l) (t + 1) b := by
  obtain ⟨h1, h2, h3⟩ := h
  split
  · rename_i e; rw [← e]; exact h3.openT
  · exact ⟨by omega, by omega, h3⟩
theorem step_val {p : Pc} {l : List Pc} {t n : Int} (hn : t < n) : valL (if p.to = t then l else p :: l) n = valL (p :: l) n := by
  split
  · rename_i e; rw [valL_tail (by omega)]
  · rfl
theorem diffL_spec : ∀ (k : Nat) {l m : List Pc} {a b : Int} {out : List (Int × Int)}, OpenT l a b → OpenT m a b → l.length + m.length ≤ k → Runs out 1 (a - 1) → 1 ≤ a →
    Runs (diffL k l m a out) 1 b ∧ ∀ n, inS (diffL k l m a out) n ↔ inS out n ∨ a ≤ n ∧ n ≤ b ∧ valL l n ≠ valL m n
  | 0, [], [], a, b, out, h, _, _, hr, _ => by
    simp only [OpenT] at h
    exact ⟨by rw [show a - 1 = b by omega] at hr; exact hr, fun n => ⟨.inl, fun h => h.elim id (fun h => by omega)⟩⟩
  | k + 1, [], [], a, b, out, h, _, _, hr, _ => by
    simp only [OpenT] at h
    exact ⟨by rw [show a - 1 = b by omega] at hr; exact hr, fun n => ⟨.inl, fun h => h.elim id (fun h => by omega)⟩⟩
  | _, [], q :: m, a, b, out, h, g, _, _, _ => by
    obtain ⟨g1, g2, g3⟩ := g; have := g3.le; simp only [OpenT] at h; omega
  | _, p :: l, [], a, b, out, g, h, _, _, _ => by
    obtain ⟨g1, g2, g3⟩ := g; have := g3.le; simp only [OpenT] at h; omega
  | 0, p :: l, q :: m, _, _, _, _, _, hk, _, _ => absurd hk (by simp)
  | k + 1, p :: l, q :: m, a, b, out, h, g, hk, hr, ha => by
    obtain ⟨t, ht⟩ : ∃ t, t = min p.to q.to := ⟨_, rfl⟩
    have hp := h
    have hq := g
    obtain ⟨h1, h2, h3⟩ := hp
    obtain ⟨g1, g2, g3⟩ := hq
    have lb := h3.le
    have lq := g3.le
    have e := extL_runs (l := out) (a := 1) (b := a - 1) (x := a) (y := t - a + 1) hr (by omega) ha (by omega)
    rw [diffL, ← ht]
    have hlen : (if p.to = t then l else p :: l).length + (if q.to = t then m else q :: m).length ≤ k := by
      have : p.to = t ∨ q.to = t := by omega
      simp only [List.length_cons] at hk
      split <;> split <;> (try simp only [List.length_cons]) <;> omega
    have hout : Runs (if p.cell = q.cell then out else extL out (a, t - a + 1)) 1 (t + 1 - 1) := by
      split
      · exact hr.up (by omega)
      · exact e.1.up (by omega)
    have ih := diffL_spec k (step_openT h (t := t) (by omega) (by omega)) (step_openT g (t := t) (by omega) (by omega)) hlen hout (by omega)
    refine ⟨ih.1, fun n => (ih.2 n).trans ?_⟩
    have hv : t < n → (valL (if p.to = t then l else p :: l) n ≠ valL (if q.to = t then m else q :: m) n ↔ valL (p :: l) n ≠ valL (q :: m) n) := fun hn => by rw [step_val hn, step_val hn]
    have hw : a ≤ n → n ≤ t → (valL (p :: l) n ≠ valL (q :: m) n ↔ p.cell ≠ q.cell) := fun h4 h5 => by rw [valL_head (by omega) (by omega), valL_head (by omega) (by omega)]
    have hi : inS (if p.cell = q.cell then out else extL out (a, t - a + 1)) n ↔ inS out n ∨ p.cell ≠ q.cell ∧ a ≤ n ∧ n ≤ t := by
      split
      · rename_i ec; simp [ec]
      · rename_i ec
        refine (e.2 n).trans ⟨fun h => h.imp id (fun h => ⟨ec, by omega, by omega⟩), fun h => h.imp id (fun h => ⟨by omega, by omega⟩)⟩
    rw [hi]
    constructor
    · rintro ((h | ⟨h4, h5, h6⟩) | ⟨h4, h5, h6⟩)
      · exact .inl h
      · exact .inr ⟨h5, by omega, (hw h5 h6).2 h4⟩
      · exact .inr ⟨by omega, h5, (hv (by omega)).1 h6⟩
    · rintro (h | ⟨h4, h5, h6⟩)
      · exact .inl (.inl h)
      · rcases Int.lt_or_le t n with hn | hn
        · exact .inr ⟨by omega, h5, (hv hn).2 h6⟩
        · exact .inl (.inr ⟨(hw h4 hn).1 h6, h4, hn⟩)
end Go.Proofs.Ytnnbdjfeagcbdaa
namespace Go.Proofs.Ytnnbdjfeagcbdaa
set_option linter.unusedSimpArgs false
set_option linter.unusedVariables false
open Go.RowKit Go.Shelf
attribute [local go_sem] Oper.semAt_some
attribute [local go_sem ↓] Go.wp_at_zero Go.wp_at_succ

/-- New blocks, and one block turned at most. -/
structure Grew (w w' : World) (row : Option Nat) : Prop where
  size : w.heap.size ≤ w'.heap.size
  block : ∀ k, k < w.heap.size → some k ≠ row → w'.heap[k]? = w.heap[k]?
theorem Grew.app {w W w' : World} {row : Option Nat} (hb : Below w.heap.size w W) (hg : W.grownBy w' row) : Grew w w' row :=
  ⟨Nat.le_trans hb.size hg.size, fun k hk hr => (hg.block k (Nat.lt_of_lt_of_le hk hb.size) hr).trans (hb.block k hk)⟩
theorem Grew.put {w W : World} (hb : Below w.heap.size w W) (a : Addr) (v : Value) : Grew w (W.setCell a v) (some a.block) :=
  ⟨by simpa [World.setCell] using hb.size, fun k hk hr => (Below.heap_setCell W a v k (fun e => hr (by rw [e]))).trans (hb.block k hk)⟩
theorem Grew.cells {w w' : World} {row : Option Nat} (h : Grew w w' row) {B : Nat} {cs : Array Value} {t : TypeId} (hc : Cells w B cs t) (hr : some B ≠ row) : Cells w' B cs t := (h.block B hc.lt hr).trans hc
theorem Grew.below {w w' : World} {row : Option Nat} (h : Grew w w' row) {B : Nat} {w0 : World} (hb : Below B w w') : Below B w w' := hb
theorem Grew.keeps {B : Nat} {w w' : World} {row : Option Nat} (h : Grew w w' row) (hr : ∀ r, row = some r → ∃ cs t fr, w.heap[r]? = some (Obj.cells cs t fr)) : KeepsFrom B w w' :=
  ⟨h.size, fun k o _ hk ho => (h.block k (Array.getElem?_eq_some_iff.1 hk).1 (fun e => by obtain ⟨cs, t, fr, h⟩ := hr k e.symm; rw [hk] at h; cases h; cases ho)).trans hk⟩

set_option maxRecDepth 100000 in
set_option maxHeartbeats 2000000 in
theorem extendedG_calls (B : Nat) (w : World) (hB : B ≤ w.heap.size) (v : Value) (l : List (Int × Int)) (hv : OwnE encS 2 37 B w v l) (hl : l.length ≤ 10000000) (hs : ∀ q ∈ l, 0 ≤ q.1 ∧ q.1 ≤ 1000000000 ∧ 0 ≤ q.2 ∧ q.2 ≤ 1000000000) (x y : Int) (hx : 0 ≤ x ∧ x ≤ 1000000000 ∧ 0 ≤ y ∧ y ≤ 1000000000) :
    Calls Try.prog 87 #[v, .agg #[.int .i64 x, .int .i64 y]] w fun e w' => ∃ u, e = .returned u ∧ OwnE encS 2 37 B w' u (extL l (x, y)) ∧ Below B w w' ∧ Grew w w' v.ownBlock := by
  obtain ⟨i0, hi, hz0, hz1, hz2⟩ := info_parts info_span
  have HV := hid hv
  have b1 : Below B w (w.alloc (.cells #[.int .i64 x, .int .i64 y] 37)) := (Below.refl _ _).alloc hB _
  have B1 := hid b1
  clear b1
  have o2 : ∀ k, (((w.alloc (.cells #[.int .i64 x, .int .i64 y] 37)).drewN k).alloc (.cells #[.int .i64 x, .int .i64 y] 37)).ownsRow B 37 2 v l.length (flatE encS l) := fun k =>
    World.ownsRow.alloc (ownsRow_moved (World.ownsRow.alloc HV.out (.cells #[.int .i64 x, .int .i64 y] 37)) fun _ _ _ _ => rfl) (.cells #[.int .i64 x, .int .i64 y] 37)
  have O2 := hid o2
  clear o2
  rcases List.eq_nil_or_concat l with rfl | ⟨L, q, rfl⟩
  · have hf : ∃ ptr cap, v = .slice ptr 0 cap := by
      rcases hv.2 with ⟨h, _⟩ | ⟨g, cap, cur, h, _⟩
      · exact ⟨_, _, h⟩
      · exact ⟨_, _, h⟩
    obtain ⟨ptr, cap, rfl⟩ := hf
    have hd : decide ((0 : Int) < 0) = false := by decide
    clear hv hs
    go_enter Try.func87, Try.ntmps87
    go_wp2
    go_quiet (fail)
    go_wp2_with (at_builtin; refine wpList_append_lies _ rfl (.tmp 40) (.tmp 42) 82 rfl B 37 i0 _ 2 16 under_spans hi hz0 hz1 hz2 rfl (by decide) (.slice ptr 0 cap) (0) (flatE encS []) rfl (O2.out nq) ⟨w.heap.size + 1, 0, none⟩ 1 1 [.int .i64 x, .int .i64 y] rfl rfl ?a1 ?a2 (by decide) ?a3 ?a4 ?a5 _ rfl ?_)
    case a1 => exact new_span w nq x y
    case a2 => intro u hu; simp at hu; rcases hu with rfl | rfl <;> rfl
    case a3 => unfold maxLen; omega
    case a4 => omega
    case a5 => simp; omega
    intro g1 cap1 w3 own1 gr1 at1 lt1
    have bb : Below B w w3 := Below.grown ((drewN_below B1.out nq).alloc (by simp; omega) _) gr1 (by simp; omega) (fun r h => (World.ownsRow.lt (O2.out nq) r h).1)
    have OW := hid own1
    have BB := hid (And.intro bb (Grew.app (w := w) ((drewN_below ((Below.refl w.heap.size w).alloc (Nat.le_refl _) (.cells #[.int .i64 x, .int .i64 y] 37)) nq).alloc (by simp) (.cells #[.int .i64 x, .int .i64 y] 37)) gr1))
    clear own1 gr1 at1 lt1 bb
    go_wp2
    refine bodyPost_ret (v := .slice (some ⟨g1, 0, none⟩) (0 + 1) cap1) (by simp [results, Try.results87, go_sem]) rfl ⟨_, rfl, ?_, BB.out⟩
    exact OW.out
  · rw [List.concat_eq_append] at hv hl hs O2 HV ⊢
    obtain ⟨m, hm⟩ : ∃ m, m = L.length := ⟨_, rfl⟩
    have hml : (L ++ [q]).length = m + 1 := by simp [hm]
    obtain ⟨p0, cap, rfl, hp⟩ := hv.form
    obtain ⟨g, rfl, hg1, hg2⟩ : ∃ g, p0 = some ⟨g, 0, none⟩ ∧ B ≤ g ∧ g < w.heap.size := by
      rcases hp with ⟨_, h⟩ | ⟨g, h⟩
      · simp at h
      · exact ⟨g, h⟩
    have key : ∀ j, j < 2 → w.cell? ⟨g, m * 2 + j, none⟩ = (encS q)[j]? := by
      intro j hj
      have h1 := World.ownsRow.cellAt hv (m * 2 + j) (by rw [hml]; omega)
      rw [h1, flatE_get encS_len (L ++ [q]) m (by rw [hml]; omega) j hj]
      simp [hm]
    have q0 := key 0 (by omega)
    have q1 := key 1 (by omega)
    simp [encS] at q0 q1
    rw [hml] at hl O2 hv ⊢
    have hq := hs q (by simp)
    have HROW := hid (World.ownsRow.alloc HV.out (.cells #[.int .i64 x, .int .i64 y] 37))
    have hfz := (World.ownsRow.frozenAt HV.out)
    have n1 : IntKind.i64.wrap ((m : Int) + 1 - 1) = (m : Int) := by rw [IntWalk.i64_in _ (by omega)]; omega
    have n2 : (0 : Int) ≤ (m : Int) := by omega
    have n3 : (m : Int) < (m : Int) + 1 := by omega
    have n7 : (m : Int) < ((m + 1 : Nat) : Int) := by omega
    have n8 : m < m + 1 := by omega
    have n4 : decide ((0 : Int) < (m : Int) + 1) = true := by rw [decide_eq_true_eq]; omega
    have n5 : IntKind.i64.wrap (q.1 + q.2) = q.1 + q.2 := IntWalk.i64_in _ (by omega)
    have n6 : IntKind.i64.wrap (q.2 + y) = q.2 + y := IntWalk.i64_in _ (by omega)
    have HM := hid hm
    have HH := hid hml
    clear key hs hv hp hml hm
    by_cases hc : q.1 + q.2 = x
    · have hcd : (q.1 + q.2 == x) = true := by simp [hc]
      have HC := hid hc
      clear hc
      go_enter Try.func87, Try.ntmps87
      go_wp2
      go_quiet (fail)
      go_wp2
      have a0 : ((w.alloc (.cells #[.int .i64 x, .int .i64 y] 37)).drewN nq).drew.cell? ⟨w.heap.size, 1, none⟩ = some (.int .i64 y) := by simp
      have a1 : ((w.alloc (.cells #[.int .i64 x, .int .i64 y] 37)).drewN nq).drew.cell? ⟨g, m * 2 + 1, none⟩ = some (.int .i64 q.2) := by
        have h := World.ownsRow.lt HROW.out g rfl
        exact (Below.cell ((Below.refl w.heap.size w).alloc (Nat.le_refl _) (.cells #[.int .i64 x, .int .i64 y] 37)) (p := ⟨g, m * 2 + 1, none⟩) hg2).trans q1
      have hz2 : ((w.alloc (.cells #[.int .i64 x, .int .i64 y] 37)).drewN nq).drew.frozen? ⟨g, m * 2 + 1, none⟩ = false := World.ownsRow.frozenAt HROW.out _
      go_region
      go_wp2
      refine bodyPost_ret (v := .slice (some ⟨g, 0, none⟩) (m + 1) cap) (by simp [results, Try.results87, go_sem]) rfl ⟨_, rfl, ?_, ?_⟩
      · rw [extL_last, if_pos HC.out]
        have h1 := World.ownsRow.stored HROW.out (m * 2 + 1) (.int .i64 (q.2 + y))
        have h2 : (flatE encS (L ++ [q])).set (m * 2 + 1) (.int .i64 (q.2 + y)) = flatE encS (L ++ [(q.1, q.2 + y)]) := by
          rw [HM.out, flatE_set_last encS_len, flatE_snoc]; rfl
        rw [h2] at h1
        unfold OwnE
        have e : (L ++ [(q.1, q.2 + y)]).length = m + 1 := by simp [HM.out]
        rw [e]
        have h3 := h1.1
        rw [HH.out] at h3
        exact ownsRow_moved h3 fun _ _ _ _ => rfl
      · refine ⟨?_, ?_⟩
        · have hB1 := B1.out
          repeat (first | exact hB1 | refine Below.setCell ?_ (by simp; try omega) _ | refine drewN_below ?_ _ | refine Below.drew ?_)
        · exact Grew.put (w := w) (Below.drew (drewN_below ((Below.refl w.heap.size w).alloc (Nat.le_refl _) (.cells #[.int .i64 x, .int .i64 y] 37)) nq)) _ _
    · have hcd : (q.1 + q.2 == x) = false := by simp [hc]
      have HC := hid hc
      clear hc
      go_enter Try.func87, Try.ntmps87
      go_wp2
      go_quiet (fail)
      go_wp2_with (at_builtin; refine wpList_append_lies _ rfl (.tmp 40) (.tmp 42) 82 rfl B 37 i0 _ 2 16 under_spans hi hz0 hz1 hz2 rfl (by decide) (.slice (some ⟨g, 0, none⟩) (m + 1) cap) ((m + 1)) (flatE encS (L ++ [q])) rfl (O2.out nq) ⟨w.heap.size + 1, 0, none⟩ 1 1 [.int .i64 x, .int .i64 y] rfl rfl ?b1 ?b2 (by decide) ?b3 ?b4 ?b5 _ rfl ?_)
      case b1 => exact new_span w nq x y
      case b2 => intro u hu; simp at hu; rcases hu with rfl | rfl <;> rfl
      case b3 => unfold maxLen; omega
      case b4 => omega
      case b5 => simp; omega
      intro g1 cap1 w3 own1 gr1 at1 lt1
      have bb : Below B w w3 := Below.grown ((drewN_below B1.out nq).alloc (by simp; omega) _) gr1 (by simp; omega) (fun r h => (World.ownsRow.lt (O2.out nq) r h).1)
      have OW := hid own1
      have BB := hid (And.intro bb (Grew.app (w := w) ((drewN_below ((Below.refl w.heap.size w).alloc (Nat.le_refl _) (.cells #[.int .i64 x, .int .i64 y] 37)) nq).alloc (by simp) (.cells #[.int .i64 x, .int .i64 y] 37)) gr1))
      clear own1 gr1 at1 lt1 bb
      go_wp2
      refine bodyPost_ret (v := .slice (some ⟨g1, 0, none⟩) ((m + 1) + 1) cap1) (by simp [results, Try.results87, go_sem]) rfl ⟨_, rfl, ?_, BB.out⟩
      rw [extL_last, if_neg HC.out]
      unfold OwnE
      have := OW.out
      have e : (L ++ [q, (x, y)]) = (L ++ [q]) ++ [(x, y)] := by simp
      rw [e, flatE_snoc, List.length_append, HH.out]
      exact this
end Go.Proofs.Ytnnbdjfeagcbdaa
