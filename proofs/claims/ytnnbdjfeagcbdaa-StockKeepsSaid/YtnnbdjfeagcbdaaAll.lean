/- all: the pieces of a tree that a closure allows, as long as they can be. -/
import Derived.Test.YtnnbdjfeagcbdaaAll0
import Derived.Test.YtnnbdjfeagcbdaaStk2
import Derived.Deep.AppendLies
import Derived.Test.YtnnbdjfeagcbdaaRow
import Derived.Test.YtnnbdjfeagcbdaaRegQ
namespace Go.Proofs.Ytnnbdjfeagcbdaa
set_option linter.unusedSimpArgs false
set_option linter.unusedVariables false
open Go.RowKit Go.Shelf
attribute [local go_sem] Oper.semAt_some
attribute [local go_sem ↓] Go.wp_at_zero Go.wp_at_succ

/-- A closure that allows a cell or not. -/
def AllowsOf (wf : FuncId) (caps : Array Value) (is : Cl → Bool) (w : World) : Prop :=
  ∀ (c : Cl) (W : World), Below w.heap.size w W → Calls Try.prog wf (#[c.val] ++ caps) W fun e W' => e = .returned (.bool (is c)) ∧ Below W.heap.size W W'
/-- A slice of pieces in an own row from block B on. -/
def PcsAt (B : Nat) (w : World) (v : Value) (l : List Pc) : Prop := w.ownsRow B 118 6 v l.length (flatP l)
theorem PcsAt.kept {B : Nat} {W W' : World} {v : Value} {l : List Pc} {row : Option Nat} (h : PcsAt B W v l) (hg : W.grownBy W' row) (hr : ∀ r, row = some r → ∃ o : Obj, W.heap[r]? = some o ∧ o.isCells = false) : PcsAt B W' v l :=
  ownsRow_moved h fun b cs _ hb => hg.block b (Array.getElem?_eq_some_iff.1 hb).1 (fun e => by obtain ⟨o, ho, hc⟩ := hr b e.symm; rw [hb] at ho; cases ho; cases hc)
theorem PcsAt.below {B : Nat} {W W' : World} {v : Value} {l : List Pc} (h : PcsAt B W v l) (hb : Below W.heap.size W W') : PcsAt B W' v l :=
  ownsRow_moved h fun b cs _ hb' => hb.block b (Array.getElem?_eq_some_iff.1 hb').1
theorem PcsAt.alloc {B : Nat} {W : World} {v : Value} {l : List Pc} (h : PcsAt B W v l) (o : Obj) : PcsAt B (W.alloc o) v l := h.below ((Below.refl _ _).alloc (Nat.le_refl _) _)
theorem PcsAt.drew {B : Nat} {W : World} {v : Value} {l : List Pc} (h : PcsAt B W v l) : PcsAt B W.drew v l := ownsRow_moved h fun _ _ _ _ => rfl

theorem appP_length' (xs : List Pc) (p : Pc) : (appP xs p).length ≤ xs.length + 1 := appP_length xs p
theorem allP_length (is : Cl → Bool) (l : List Pc) : (allP is l).length ≤ l.length := by
  have key : ∀ (l acc : List Pc), (l.foldl (fun acc p => if is p.cell then appP acc p else acc) acc).length ≤ acc.length + l.length := by
    intro l
    induction l with
    | nil => intro acc; simp
    | cons p l ih =>
      intro acc
      simp only [List.foldl_cons, List.length_cons]
      split
      · have := ih (appP acc p); have := appP_length acc p; omega
      · have := ih acc; omega
  simpa [allP] using key l []
theorem wpListIn_append_lies {P : Program} {F : Fence} {nF : Nat} (w : World) {ops : Array Oper} {rest : List Oper} {o : Oper} {a : Act} {Q : Exit → Act → World → Prop} (hgd : o.guard = none) (s x : Operand) (t : TypeId)
    (ho : o.op = .call { callee := .builtin .append, args := #[s, x], argTypes := #[t, t] })
    (base : Nat) (e : TypeId) (i : TypeInfo) (z : Value) (size bytes : Nat) (ht : P.underlying t = some (.slice e)) (hi : P.info? e = some i) (hz : i.zero = some z)
    (hsize : i.size = size) (hby : i.bytes = bytes) (hzs : z.cells.size = size) (hsz : 0 < size)
    (v : Value) (n : Nat) (xs : List Value) (hs : a.eval s = v) (hown : w.ownsRow base e size v n xs)
    (ad : Addr) (m c : Nat) (news : List Value) (hx : a.eval x = .slice (some ad) m c) (hl : news.length = m * size) (hnews : ∀ j u, news[j]? = some u → w.cell? (ad.add j) = some u) (h1 : ∀ u ∈ news, u.oneCell' = true)
    (hm : 0 < m) (h63 : n + m ≤ maxLen) (hbytes : (n + m) * bytes ≤ 140737488355328) (hbase : base ≤ w.heap.size) (H : Nat) (hH : w.heap.size = H)
    (h : ∀ g cap w', w'.ownsRow base e size (.slice (some ⟨g, 0, none⟩) (n + m) cap) (n + m) (xs ++ news) → w.grownBy w' v.ownBlock → (v.ownBlock = some g ∨ g = H) → g < w'.heap.size → wpListIn F nF P ops Q rest (a.put o.dst (.slice (some ⟨g, 0, none⟩) (n + m) cap)) w') : wpListIn F nF P ops Q (o :: rest) a w :=
  wpListIn_plain hgd fun K hK => wpIn_append_lies w s x t ho base e i z size bytes ht hi hz hsize hby hzs hsz v n xs hs hown ad m c news hx hl hnews h1 hm h63 hbytes hbase H hH fun g cap w' h2 h3 h4 h5 => hK _ _ (h g cap w' h2 h3 h4 h5)
theorem keepsFrom_grown {B : Nat} {W W' : World} {row : Option Nat} (hg : W.grownBy W' row) (hr : ∀ r, row = some r → ∃ cs t fr, W.heap[r]? = some (Obj.cells cs t fr)) : KeepsFrom B W W' :=
  ⟨hg.size, fun k o _ hk ho => (hg.block k (Array.getElem?_eq_some_iff.1 hk).1 (fun e => by obtain ⟨cs, t, fr, h⟩ := hr k e.symm; rw [hk] at h; cases h; cases ho)).trans hk⟩
theorem pc_oneCell (p : Pc) : ∀ u ∈ p.vals.toList, u.oneCell' = true := by intro u hu; simp at hu; rcases hu with rfl | rfl | rfl | rfl | rfl | rfl <;> rfl
theorem pc_news (W : World) (k : Nat) (p : Pc) : ∀ (j : Nat) (u : Value), [Value.int IntKind.i64 p.from_, Value.int IntKind.i64 p.to, Value.int IntKind.i64 p.cell.state, Value.int IntKind.i64 p.cell.lot, Value.int IntKind.i64 p.cell.owner, Value.int IntKind.i64 p.cell.holder][j]? = some u →
    ((W.drewN k).alloc (Obj.cells #[Value.int IntKind.i64 p.from_, Value.int IntKind.i64 p.to, Value.int IntKind.i64 p.cell.state, Value.int IntKind.i64 p.cell.lot, Value.int IntKind.i64 p.cell.owner, Value.int IntKind.i64 p.cell.holder] 118)).cell? ⟨W.heap.size, j, none⟩ = some u := fun j u hu => by
  have := World.news_of_block (new_block W k p.vals 118) j u hu
  have hadd : (⟨W.heap.size, 0, none⟩ : Addr).add j = ⟨W.heap.size, j, none⟩ := by unfold Addr.add; split <;> simp_all
  rwa [hadd] at this
theorem flatP_last (L : List Pc) (q : Pc) : flatP (L ++ [q]) = flatP L ++ q.vals.toList := by simp [flatP]
/-- The last piece of a row, in its cells. -/
theorem PcsAt.last {B : Nat} {W : World} {v : Value} {L : List Pc} {q : Pc} (h : PcsAt B W v (L ++ [q])) : ∃ g cap, v = .slice (some ⟨g, 0, none⟩) (L.length + 1) cap ∧ B ≤ g ∧ g < W.heap.size ∧
    W.ownsRow B 118 6 (.slice (some ⟨g, 0, none⟩) (L.length + 1) cap) (L.length + 1) (flatP (L ++ [q])) ∧ W.cell? ⟨g, L.length * 6, none⟩ = some (Value.int .i64 q.from_) ∧ W.cell? ⟨g, L.length * 6 + 1, none⟩ = some (Value.int .i64 q.to) ∧ W.cell? ⟨g, L.length * 6 + 2, none⟩ = some (Value.int .i64 q.cell.state) ∧ W.cell? ⟨g, L.length * 6 + 3, none⟩ = some (Value.int .i64 q.cell.lot) ∧ W.cell? ⟨g, L.length * 6 + 4, none⟩ = some (Value.int .i64 q.cell.owner) ∧ W.cell? ⟨g, L.length * 6 + 5, none⟩ = some (Value.int .i64 q.cell.holder) := by
  unfold PcsAt at h
  rw [List.length_append, List.length_singleton] at h
  obtain ⟨g, cap, rfl, hB, hlt⟩ := h.form (by omega)
  refine ⟨g, cap, rfl, hB, hlt, h, ?_⟩
  have key : ∀ j, j < 6 → W.cell? ⟨g, L.length * 6 + j, none⟩ = q.vals[j]? := by
    intro j hj
    rw [h.cellAt _ (by omega), flatP_last, List.getElem?_append_right (by rw [flatP_length]; omega), flatP_length, Nat.add_sub_cancel_left, Array.getElem?_toList]
  have k0 := key 0 (by omega)
  have k1 := key 1 (by omega)
  have k2 := key 2 (by omega)
  have k3 := key 3 (by omega)
  have k4 := key 4 (by omega)
  have k5 := key 5 (by omega)
  simp at k0 k1 k2 k3 k4 k5
  exact ⟨k0, k1, k2, k3, k4, k5⟩
theorem flatP_set (L : List Pc) (q : Pc) (to : Int) : (flatP (L ++ [q])).set (L.length * 6 + 1) (.int .i64 to) = flatP (L ++ [⟨q.from_, to, q.cell⟩]) := by
  rw [flatP_last, flatP_last, List.set_append_right _ _ (by rw [flatP_length]; omega), flatP_length, Nat.add_sub_cancel_left]
  rfl
theorem allP_toOk (is : Cl → Bool) (l : List Pc) (h : ∀ p ∈ l, p.Good) : ToOk (allP is l) := by
  have key : ∀ (l acc : List Pc), (∀ p ∈ l, p.Good) → ToOk acc → ToOk (l.foldl (fun acc p => if is p.cell then appP acc p else acc) acc) := by
    intro l
    induction l with
    | nil => intro acc _ h; exact h
    | cons p l ih =>
      intro acc hl hacc
      have hp := hl p (by simp)
      simp only [Pc.Good] at hp
      simp only [List.foldl_cons]
      refine ih _ (fun q hq => hl q (by simp [hq])) ?_
      split
      · exact appP_toOk acc _ hacc (by omega)
      · exact hacc
  exact key l [] h (by intro q hq; simp at hq)
theorem info_piece : (Try.prog.info? 118).map (fun i => (i.zero, i.size, i.bytes)) = some (some (.agg #[.int .i64 0, .int .i64 0, .int .i64 0, .int .i64 0, .int .i64 0, .int .i64 0]), 6, 48) := by kernel_rfl
theorem under_pieces : Try.prog.underlying 132 = some (.slice 118) := by kernel_rfl

set_option maxRecDepth 100000 in
set_option maxHeartbeats 4000000 in
theorem all_calls (w : World) (p : Option Addr) (t : T) (ht : TreeAt w p t) (hg : t.Good) (hs : Sorted t.toList) (hlen : t.toList.length ≤ 10000000) (wf : FuncId) (caps : Array Value) (is : Cl → Bool)
    (hwf : AllowsOf wf caps is w) (eg : ∀ args w, (callFunc wf args).run Try.prog w = .ok (.enter wf args) w) :
    Calls Try.prog 67 #[.pointer p, .func (.func wf) #[] caps] w fun e w' =>
      ∃ v, e = .returned v ∧ PcsAt w.heap.size w' v (allP is (visL t 1 1000000)) ∧ Below w.heap.size w w' := by
  have HT := hid ht
  have HW := hid hwf
  have EG := hid eg
  have hvl : (visL t 1 1000000).length ≤ 10000000 := by rw [visL_eq 1 1000000 t hs, visP_all _ hs.good]; exact hlen
  have HL := hid hvl
  clear ht hwf eg hlen hvl hs
  obtain ⟨i0, hi, hz0, hz1, hz2⟩ := info_parts info_piece
  obtain ⟨F, hFe⟩ : ∃ F, F = Fence.wide := ⟨_, rfl⟩
  have hF : Free F Try.prog := hFe ▸ free_wide _
  have hro : F.round = none := by rw [hFe]; rfl
  have FE := hid hFe
  clear hFe
  refine (callsIn_wide (n := 6)).1 ?_
  rw [← FE.out]
  refine callsIn_of_wp_marks Try.func67 rfl (hF.fn _) ?_ hro
  rw [FE.out]
  refine wpIn_wide.2 ?_
  simp only [Try.ntmps67, List.size_toArray, List.length_cons, List.length_nil, Nat.reduceAdd, Nat.reduceSub, Array.replicate_succ, Array.replicate_zero, List.push_toArray, List.append_toArray, List.nil_append, List.cons_append]
  have cA : Cells ((w.alloc (.cells #[.func (.func wf) #[] caps] 134)).alloc (.cells #[.slice none 0 0] 132)) w.heap.size #[.func (.func wf) #[] caps] 134 := (Cells.new w _ _).alloc _
  have cO : Cells ((w.alloc (.cells #[.func (.func wf) #[] caps] 134)).alloc (.cells #[.slice none 0 0] 132)) (w.heap.size + 1) #[.slice none 0 0] 132 := by
    have := Cells.new (w.alloc (.cells #[.func (.func wf) #[] caps] 134)) #[.slice none 0 0] 132
    rwa [World.size_alloc] at this
  have CA := hid cA
  have CO := hid cO
  clear cA cO
  go_wp2_with fail
  refine (within_made p 1 1000000 _).mono ?_
  rintro e w2 ⟨v, rfl, hi2, hb2⟩
  obtain ⟨B0, B1, B2, rfl, hB0, hB1, hB2⟩ := hi2
  have up : Below w.heap.size w w2 := Below.trans (by repeat (first | exact Below.refl _ _ | refine Below.alloc ?_ (by simp; try omega) _)) (hb2.mono (by simp; omega))
  have sz2 : w.heap.size + 1 + 1 ≤ w2.heap.size := by have := hb2.size; simpa using this
  have CA2 := hid (CA.out.below hb2 CA.out.lt)
  have CO2 := hid (CO.out.below hb2 CO.out.lt)
  have UP := hid up
  have T2 := hid (HT.out.below up)
  clear up hb2
  go_wp2
  refine (wpIn_wide (n := 6)).1 ?_
  rw [← FE.out]
  refine wpIn_rangeFunc_ownH hro (by omega) (gf := 102) (lb := #[.pointer (some ⟨B0, 0, none⟩), .pointer (some ⟨B1, 0, none⟩), .pointer (some ⟨B2, 0, none⟩)]) rfl (hF.fn _) (enters_of Try.func102 (by kernel_rfl) rfl)
    (within_stops F hF hro _ B0 B1 B2 w.heap.size p t hg 1 1000000 ⟨by omega, by omega, by omega⟩ w2 hB0.lt hB1.lt hB2.lt UP.out.size (by simp [hB0.cell]) (by simp [hB1.cell]) (by simp [hB2.cell]) (Tn.of_tree (Nat.le_refl _) UP.out HT.out))
    belowK_t (belowK_b UP.out.size) (Below.refl _ _) (fun _ => rfl)
    (fun pre W => (∃ v, Cells W (w.heap.size + 1) #[v] 132 ∧ PcsAt (w.heap.size + 1 + 1) W v (allP is (vals pre)) ∧ Cells W w.heap.size #[.func (.func wf) #[] caps] 134) ∧ Below w.heap.size w W ∧ w2.heap.size ≤ W.heap.size)
    (fun _ _ _ => False)
    (OwnFrom.and (fun s X Y row h hg hr => by obtain ⟨v, h1, h2, h3⟩ := h; exact ⟨v, h1.kept hg (fun r e => (hr r e).2), h2.kept hg (fun r e => (hr r e).2), h3.kept hg (fun r e => (hr r e).2)⟩) (OwnFrom.and (ownFrom_below (Nat.le_refl _) UP.out.size) (fun s X Y row h hg hr => Nat.le_trans h hg.size)))
    (fun _ _ _ _ _ h _ _ => h)
    ⟨⟨.slice none 0 0, CO2.out, ⟨rfl, .inl ⟨rfl, rfl⟩⟩, CA2.out⟩, UP.out, Nat.le_refl _⟩
    (fun x a' W => ∃ Bx, w2.heap.size ≤ Bx ∧ Cells W Bx x.1.vals 118 ∧ a' = { tmps := #[.pointer p, .func (.func wf) #[] caps, undef, .pointer (some ⟨w.heap.size, 0, none⟩), .slice none 0 0, .pointer (some ⟨w.heap.size + 1, 0, none⟩), .pointer (some ⟨Bx, 0, none⟩), undef, .pointer p,
      .func (.func 102) #[] #[.pointer (some ⟨B0, 0, none⟩), .pointer (some ⟨B1, 0, none⟩), .pointer (some ⟨B2, 0, none⟩)], x.1.val, undef, undef, undef, undef, undef, undef, undef, undef, undef, undef, undef, undef, undef, undef, undef, undef, undef, undef, undef, undef, undef, undef, undef, undef, undef, undef, undef, undef, undef, undef, undef, undef, undef, undef, undef, undef, undef, undef, undef, undef, undef, undef, undef, undef, undef, undef, undef, undef], defers := [] })
    (fun x a' s X Y row h hg hr => by obtain ⟨Bx, h1, h2, h3⟩ := h; exact ⟨Bx, h1, h2.kept hg (fun r e => (hr r e).2), h3⟩) ?assign ?body ?done ?stop
  case assign =>
    rintro l pre x W K ⟨⟨v, i1, i2, i0⟩, i3, i4⟩ hK
    gi_wp2
    exact hK _ _ ((KeepsOthers.alloc _ _).from _) ((Below.refl _ W).alloc i3.size _) ⟨⟨v, i1.alloc _, i2.alloc _, i0.alloc _⟩, i3.alloc i3.size _, by simp; omega⟩ ⟨W.heap.size, i4, Cells.new _ _ _, rfl⟩
  case body =>
    rintro l pre x a' W hl _ ⟨⟨v, i1, i2, i0⟩, i3, i4⟩ ⟨Bx, hBx, hcx, rfl⟩ hlt
    have k1 : W.cell? ⟨w.heap.size, 0, none⟩ = some (.func (.func wf) #[] caps) := by simp [i0.cell]
    obtain ⟨e0, e1, e2, e3, e4, e5⟩ := pc_facts hcx
    have I0 := hid i0
    have I1 := hid i1
    have I2 := hid i2
    have I3 := hid i3
    have CX := hid hcx
    have HI4 := hid i4
    have HBx := hid hBx
    have HLT := hid hlt
    have hfw : (F.inRound l).fn wf := hF.fn _
    have hfw' : F.fn wf := hF.fn _
    have hdd : ∀ k : Nat, (F.depth.isSome = true → 1 ≤ k) := fun k h => by rw [hF.depth] at h; cases h
    have eg' := EG.out
    clear i0 i1 i2 i3 i4 hcx hBx hlt
    gi_wp2_with fail
    (try refine ⟨hdd _, ?_⟩)
    refine (CallsIn.inRound l (hF.calls _ _ _ _ _ (HW.out x.1.cell W I3.out))).mono ?_
    rintro e W1 ⟨rfl, hb3⟩
    have B3 := hid hb3
    have J0 := hid (I0.out.below hb3 I0.out.lt)
    have J1 := hid (I1.out.below hb3 I1.out.lt)
    have J2 := hid (I2.out.below hb3)
    have J3 := hid (I3.out.trans (hb3.mono I3.out.size))
    have JX := hid (CX.out.below hb3 CX.out.lt)
    have bx : Bx < W1.heap.size := JX.out.lt
    have bo : w.heap.size + 1 < W1.heap.size := J1.out.lt
    clear hb3 eg' k1 e0 e1 e2 e3 e4 e5
    cases hz : is x.1.cell
    · gi_wp2
      exact ⟨keepsFrom_below B3.out, B3.out.mono I3.out.size, ⟨_, J1.out, by rw [vals_append, allP_snoc, hz, if_neg (by simp)]; exact J2.out, J0.out⟩, J3.out, Nat.le_trans HI4.out B3.out.size⟩
    · have HZ := hid hz
      clear hz
      have hlnB : (allP is (vals pre)).length ≤ 10000000 := by have h1 := allP_length is (vals pre); rw [vals_length] at h1; have h2 := HLT.out; have h3 := HL.out; omega
      have hmx : Try.prog.follows .mixedOrders = true := by kernel_rfl
      rcases List.eq_nil_or_concat (allP is (vals pre)) with hn | ⟨L, q, hn⟩
      · have hl0 : ∃ ptr cap, v = .slice ptr 0 cap := by
          have := J2.out
          unfold PcsAt at this
          rw [hn] at this
          rcases this.2 with ⟨h, _⟩ | ⟨g, cap, cur, h, _⟩
          · exact ⟨_, _, h⟩
          · exact ⟨_, _, h⟩
        obtain ⟨ptr, cap, rfl⟩ := hl0
        obtain ⟨e0, e1, e2, e3, e4, e5⟩ := pc_facts JX.out
        have k5 : W1.cell? ⟨w.heap.size + 1, 0, none⟩ = some (.slice ptr 0 cap) := by simp [J1.out.cell]
        have hd : decide ((0 : Int) < 0) = false := by decide
        have HN := hid hn
        clear hn
        gi_wp2
        have o2 : ∀ k, ((W1.drewN k).alloc (.cells x.1.vals 118)).ownsRow (w.heap.size + 1 + 1) 118 6 (.slice ptr 0 cap) (0) (flatP ([])) := by
          intro k
          have h := J2.out
          unfold PcsAt at h
          rw [HN.out] at h
          have h2 : (W1.drewN k).ownsRow (w.heap.size + 1 + 1) 118 6 (.slice ptr 0 cap) ([]).length (flatP ([])) := ownsRow_moved h fun _ _ _ _ => by simp [World.drewN]
          have h3 := World.ownsRow.alloc h2 (.cells x.1.vals 118)
          simpa using h3
        have O2 := hid o2
        clear o2
        refine wpIn_region_quietF (free_round hF l) hmx (by kernel_rfl) ?_
        repeat (go_big_quiet_step (fail))
        refine wpQuiet_nil ?_
        intro _ hw'
        obtain ⟨nq, hw''⟩ := hw'
        subst hw''
        gi_wp2_with (gi_at_builtin; refine wpListIn_append_lies _ rfl (.tmp 54) (.tmp 56) 132 rfl (w.heap.size + 1 + 1) 118 i0 _ 6 48 under_pieces hi hz0 hz1 hz2 rfl (by decide) (.slice ptr 0 cap) (0) (flatP ([])) rfl (O2.out nq) ⟨W1.heap.size, 0, none⟩ 1 1 x.1.vals.toList rfl rfl ?c1 ?c2 (by decide) ?c3 ?c4 ?c5 _ rfl ?_)
        case c1 => exact pc_news W1 nq x.1
        case c2 => exact ⟨rfl, rfl, rfl, rfl, rfl, rfl⟩
        case c3 => unfold maxLen; omega
        case c4 => omega
        case c5 => have := J1.out.lt; simp; omega
        intro g' cap' w3 hown hgr hat hlt3
        have hrow := fun k h => (World.ownsRow.lt (O2.out nq) k h).1
        have c3o : Cells w3 (w.heap.size + 1) #[.slice ptr 0 cap] 132 := (hgr.block _ ((J1.out.drewN nq).alloc _).lt (fun e => by have := hrow _ e.symm; omega)).trans ((J1.out.drewN nq).alloc _)
        have c3i : Cells w3 w.heap.size #[.func (.func wf) #[] caps] 134 := (hgr.block _ ((J0.out.drewN nq).alloc _).lt (fun e => by have := hrow _ e.symm; omega)).trans ((J0.out.drewN nq).alloc _)
        have k6 : w3.cell? ⟨w.heap.size + 1, 0, none⟩ = some (.slice ptr 0 cap) := by simp [c3o.cell]
        have f6 : w3.frozen? ⟨w.heap.size + 1, 0, none⟩ = false := c3o.frozen 0
        have hg1 : w.heap.size + 1 + 1 ≤ g' := by
          rcases hat with h | h
          · exact hrow _ h
          · rw [h]; simp; omega
        have up3 : Below w.heap.size w w3 := (((drewN_below J3.out nq).alloc (by simpa using J3.out.size) _)).grown hgr (by have := J3.out.size; simp; omega) (fun k h => by have := hrow _ h; omega)
        have kf3 : KeepsFrom w2.heap.size W w3 := ((keepsFrom_below B3.out).trans (keepsFrom_below (W := W1) (((drewN_below (Below.refl _ _) nq).alloc (by simp) (.cells x.1.vals 118))))).trans (keepsFrom_grown hgr (ownsRow_isCells (O2.out nq)))
        have kb3 : Below w.heap.size W w3 := (((drewN_below (B3.out.mono I3.out.size) nq).alloc (by have := J3.out.size; simpa using this) _)).grown hgr (by have := J3.out.size; simp; omega) (fun k h => by have := hrow _ h; omega)
        have P3 := hid (And.intro hown (And.intro c3o (And.intro c3i (And.intro up3 (And.intro kf3 kb3)))))
        clear hown hgr hat hrow c3o c3i up3 kf3 kb3
        gi_wp2
        have hP := P3.out
        refine ⟨hP.2.2.2.2.1.trans keepsFrom_set, hP.2.2.2.2.2.setCell (p := ⟨w.heap.size + 1, 0, none⟩) (by simp) _, ⟨_, hP.2.1.set 0 _, ?_, hP.2.2.1.set_far 0 _ (by omega)⟩, hP.2.2.2.1.setCell (p := ⟨w.heap.size + 1, 0, none⟩) (by simp) _, ?_⟩
        · unfold PcsAt
          rw [vals_append, allP_snoc, HZ.out, if_pos rfl, HN.out]
          exact ownsRow_moved hP.1 fun b cs hb _ => Below.heap_setCell w3 ⟨w.heap.size + 1, 0, none⟩ _ b (by simp; omega)
        · have := hP.2.2.2.2.1.size; have := HI4.out; simp [World.setCell]; omega
      · have hl1 := J2.out
        rw [List.concat_eq_append] at hn
        rw [hn] at hl1
        obtain ⟨g, cap, rfl, hg1, hg2, hrow, q0, q1, q2, q3, q4, q5⟩ := hl1.last
        obtain ⟨m, hm⟩ : ∃ m, m = L.length := ⟨_, rfl⟩
        rw [← hm] at hrow q0 q1 q2 q3 q4 q5 J1 J2 I1 I2
        have hlm : m + 1 ≤ 10000000 := by rw [hn] at hlnB; simp at hlnB; omega
        have HROW := hid hrow
        have HM := hid hm
        have HN := hid hn
        clear hl1 hrow hm hn hlnB
        obtain ⟨e0, e1, e2, e3, e4, e5⟩ := pc_facts JX.out
        have k5 : W1.cell? ⟨w.heap.size + 1, 0, none⟩ = some (.slice (some ⟨g, 0, none⟩) (m + 1) cap) := by simp [J1.out.cell]
        have hw1 : IntKind.i64.wrap ((m : Int) + 1 - 1) = (m : Int) := by rw [IntWalk.i64_in _ (by omega)]; omega
        have n1 : (0 : Int) ≤ (m : Int) := by omega
        have n2 : (m : Int) < (m : Int) + 1 := by omega
        have n3 : decide ((0 : Int) < (m : Int) + 1) = true := by rw [decide_eq_true_eq]; omega
        have hto := hid (allP_toOk is (vals pre) (fun p hp => by simp only [vals, List.mem_map] at hp; obtain ⟨y, _, rfl⟩ := hp; exact y.2))
        have hq := hto.out q (by rw [HN.out]; simp)
        have hw2 : IntKind.i64.wrap (q.to + 1) = q.to + 1 := IntWalk.i64_in _ (by omega)
        by_cases hc : q.cell = x.1.cell
        · have he : ∀ w, (Op.equalIn 10000 116 (.agg #[.int .i64 q.cell.state, .int .i64 q.cell.lot, .int .i64 q.cell.owner, .int .i64 q.cell.holder]) (.agg #[.int .i64 x.1.cell.state, .int .i64 x.1.cell.lot, .int .i64 x.1.cell.owner, .int .i64 x.1.cell.holder])).run Try.prog w = .ok true w := fun w => (run_eqCell q.cell x.1.cell w).trans (by simp [hc])
          have HC := hid hc
          clear hc
          by_cases hf : q.to + 1 = x.1.from_
          · have hfd : (q.to + 1 == x.1.from_) = true := by simp [hf]
            have HF := hid hf
            clear hf
            have hfz : ∀ k j, (W1.drewN k).frozen? ⟨g, j, none⟩ = false := fun k j => HROW.out.frozenAt j
            have fz := hfz
            gi_wp2
            refine wpIn_region_quietF (free_round hF l) hmx (by kernel_rfl) ?_
            repeat (go_big_quiet_step (fail))
            refine wpQuiet_nil ?_
            intro _ hw'
            obtain ⟨nq, hw''⟩ := hw'
            subst hw''
            gi_wp2
            have hst := World.ownsRow.stored (ownsRow_moved (w' := W1.drewN nq) HROW.out fun _ _ _ _ => by simp [World.drewN]) (m * 6 + 1) (.int .i64 x.1.to)
            refine ⟨?_, ?_, ⟨.slice (some ⟨g, 0, none⟩) (m + 1) cap, ?_, ?_, ?_⟩, ?_, ?_⟩
            · exact (keepsFrom_below (drewN_below B3.out nq)).trans keepsFrom_set
            · exact (drewN_below (B3.out.mono I3.out.size) nq).setCell (p := ⟨g, m * 6 + 1, none⟩) (by simp; omega) _
            · exact (J1.out.drewN nq).set_far _ _ (by omega)
            · unfold PcsAt
              rw [vals_append, allP_snoc, HZ.out, if_pos rfl, HN.out, appP_last, if_pos ⟨HC.out, HF.out⟩, List.length_append, List.length_singleton, ← flatP_set, ← HM.out]
              exact hst.1
            · exact (J0.out.drewN nq).set_far _ _ (by omega)
            · exact (drewN_below J3.out nq).setCell (p := ⟨g, m * 6 + 1, none⟩) (by simp; omega) _
            · have := HI4.out; have := B3.out.size; simp [World.setCell]; omega
          · have hfd : (q.to + 1 == x.1.from_) = false := by simp [hf]
            have HF := hid hf
            clear hf
            have o2 : ∀ k, ((W1.drewN k).alloc (.cells x.1.vals 118)).ownsRow (w.heap.size + 1 + 1) 118 6 (.slice (some ⟨g, 0, none⟩) (m + 1) cap) (m + 1) (flatP (L ++ [q])) := by
              intro k
              have h2 : (W1.drewN k).ownsRow (w.heap.size + 1 + 1) 118 6 (.slice (some ⟨g, 0, none⟩) (m + 1) cap) (m + 1) (flatP (L ++ [q])) := ownsRow_moved HROW.out fun _ _ _ _ => by simp [World.drewN]
              exact World.ownsRow.alloc h2 (.cells x.1.vals 118)
            have O2 := hid o2
            clear o2
            gi_wp2
            refine wpIn_region_quietF (free_round hF l) hmx (by kernel_rfl) ?_
            repeat (go_big_quiet_step (fail))
            refine wpQuiet_nil ?_
            intro _ hw'
            obtain ⟨nq, hw''⟩ := hw'
            subst hw''
            gi_wp2_with (gi_at_builtin; refine wpListIn_append_lies _ rfl (.tmp 54) (.tmp 56) 132 rfl (w.heap.size + 1 + 1) 118 i0 _ 6 48 under_pieces hi hz0 hz1 hz2 rfl (by decide) (.slice (some ⟨g, 0, none⟩) (m + 1) cap) (m + 1) (flatP (L ++ [q])) rfl (O2.out nq) ⟨W1.heap.size, 0, none⟩ 1 1 x.1.vals.toList rfl rfl ?c1 ?c2 (by decide) ?c3 ?c4 ?c5 _ rfl ?_)
            case c1 => exact pc_news W1 nq x.1
            case c2 => exact ⟨rfl, rfl, rfl, rfl, rfl, rfl⟩
            case c3 => unfold maxLen; omega
            case c4 => omega
            case c5 => have := J1.out.lt; simp; omega
            intro g' cap' w3 hown hgr hat hlt3
            have hrow := fun k h => (World.ownsRow.lt (O2.out nq) k h).1
            have c3o : Cells w3 (w.heap.size + 1) #[.slice (some ⟨g, 0, none⟩) (m + 1) cap] 132 := (hgr.block _ ((J1.out.drewN nq).alloc _).lt (fun e => by have := hrow _ e.symm; omega)).trans ((J1.out.drewN nq).alloc _)
            have c3i : Cells w3 w.heap.size #[.func (.func wf) #[] caps] 134 := (hgr.block _ ((J0.out.drewN nq).alloc _).lt (fun e => by have := hrow _ e.symm; omega)).trans ((J0.out.drewN nq).alloc _)
            have k6 : w3.cell? ⟨w.heap.size + 1, 0, none⟩ = some (.slice (some ⟨g, 0, none⟩) (m + 1) cap) := by simp [c3o.cell]
            have f6 : w3.frozen? ⟨w.heap.size + 1, 0, none⟩ = false := c3o.frozen 0
            have hg3 : w.heap.size + 1 + 1 ≤ g' := by
              rcases hat with h | h
              · exact hrow _ h
              · rw [h]; simp; omega
            have up3 : Below w.heap.size w w3 := (((drewN_below J3.out nq).alloc (by simpa using J3.out.size) _)).grown hgr (by have := J3.out.size; simp; omega) (fun k h => by have := hrow _ h; omega)
            have kf3 : KeepsFrom w2.heap.size W w3 := ((keepsFrom_below B3.out).trans (keepsFrom_below (W := W1) (((drewN_below (Below.refl _ _) nq).alloc (by simp) (.cells x.1.vals 118))))).trans (keepsFrom_grown hgr (ownsRow_isCells (O2.out nq)))
            have kb3 : Below w.heap.size W w3 := (((drewN_below (B3.out.mono I3.out.size) nq).alloc (by have := J3.out.size; simpa using this) _)).grown hgr (by have := J3.out.size; simp; omega) (fun k h => by have := hrow _ h; omega)
            have P3 := hid (And.intro hown (And.intro c3o (And.intro c3i (And.intro up3 (And.intro kf3 kb3)))))
            clear hown hgr hat hrow c3o c3i up3 kf3 kb3
            gi_wp2
            have hP := P3.out
            refine ⟨hP.2.2.2.2.1.trans keepsFrom_set, hP.2.2.2.2.2.setCell (p := ⟨w.heap.size + 1, 0, none⟩) (by simp) _, ⟨_, hP.2.1.set 0 _, ?_, hP.2.2.1.set_far 0 _ (by omega)⟩, hP.2.2.2.1.setCell (p := ⟨w.heap.size + 1, 0, none⟩) (by simp) _, ?_⟩
            · unfold PcsAt
              rw [vals_append, allP_snoc, HZ.out, if_pos rfl, HN.out, appP_last, if_neg (fun h => HF.out h.2)]
              have hfl : (L ++ [q, x.1]).length = m + 1 + 1 := by simp [HM.out]
              rw [hfl, show L ++ [q, x.1] = (L ++ [q]) ++ [x.1] by simp, flatP_last]
              exact ownsRow_moved hP.1 fun b cs hb _ => Below.heap_setCell w3 ⟨w.heap.size + 1, 0, none⟩ _ b (by simp; omega)
            · have := hP.2.2.2.2.1.size; have := HI4.out; simp [World.setCell]; omega
        · have he : ∀ w, (Op.equalIn 10000 116 (.agg #[.int .i64 q.cell.state, .int .i64 q.cell.lot, .int .i64 q.cell.owner, .int .i64 q.cell.holder]) (.agg #[.int .i64 x.1.cell.state, .int .i64 x.1.cell.lot, .int .i64 x.1.cell.owner, .int .i64 x.1.cell.holder])).run Try.prog w = .ok false w := fun w => (run_eqCell q.cell x.1.cell w).trans (by simp [hc])
          have HC := hid hc
          clear hc
          have o2 : ∀ k, ((W1.drewN k).alloc (.cells x.1.vals 118)).ownsRow (w.heap.size + 1 + 1) 118 6 (.slice (some ⟨g, 0, none⟩) (m + 1) cap) (m + 1) (flatP (L ++ [q])) := by
            intro k
            have h2 : (W1.drewN k).ownsRow (w.heap.size + 1 + 1) 118 6 (.slice (some ⟨g, 0, none⟩) (m + 1) cap) (m + 1) (flatP (L ++ [q])) := ownsRow_moved HROW.out fun _ _ _ _ => by simp [World.drewN]
            exact World.ownsRow.alloc h2 (.cells x.1.vals 118)
          have O2 := hid o2
          clear o2
          gi_wp2
          refine wpIn_region_quietF (free_round hF l) hmx (by kernel_rfl) ?_
          repeat (go_big_quiet_step (fail))
          refine wpQuiet_nil ?_
          intro _ hw'
          obtain ⟨nq, hw''⟩ := hw'
          subst hw''
          gi_wp2_with (gi_at_builtin; refine wpListIn_append_lies _ rfl (.tmp 54) (.tmp 56) 132 rfl (w.heap.size + 1 + 1) 118 i0 _ 6 48 under_pieces hi hz0 hz1 hz2 rfl (by decide) (.slice (some ⟨g, 0, none⟩) (m + 1) cap) (m + 1) (flatP (L ++ [q])) rfl (O2.out nq) ⟨W1.heap.size, 0, none⟩ 1 1 x.1.vals.toList rfl rfl ?c1 ?c2 (by decide) ?c3 ?c4 ?c5 _ rfl ?_)
          case c1 => exact pc_news W1 nq x.1
          case c2 => exact ⟨rfl, rfl, rfl, rfl, rfl, rfl⟩
          case c3 => unfold maxLen; omega
          case c4 => omega
          case c5 => have := J1.out.lt; simp; omega
          intro g' cap' w3 hown hgr hat hlt3
          have hrow := fun k h => (World.ownsRow.lt (O2.out nq) k h).1
          have c3o : Cells w3 (w.heap.size + 1) #[.slice (some ⟨g, 0, none⟩) (m + 1) cap] 132 := (hgr.block _ ((J1.out.drewN nq).alloc _).lt (fun e => by have := hrow _ e.symm; omega)).trans ((J1.out.drewN nq).alloc _)
          have c3i : Cells w3 w.heap.size #[.func (.func wf) #[] caps] 134 := (hgr.block _ ((J0.out.drewN nq).alloc _).lt (fun e => by have := hrow _ e.symm; omega)).trans ((J0.out.drewN nq).alloc _)
          have k6 : w3.cell? ⟨w.heap.size + 1, 0, none⟩ = some (.slice (some ⟨g, 0, none⟩) (m + 1) cap) := by simp [c3o.cell]
          have f6 : w3.frozen? ⟨w.heap.size + 1, 0, none⟩ = false := c3o.frozen 0
          have hg3 : w.heap.size + 1 + 1 ≤ g' := by
            rcases hat with h | h
            · exact hrow _ h
            · rw [h]; simp; omega
          have up3 : Below w.heap.size w w3 := (((drewN_below J3.out nq).alloc (by simpa using J3.out.size) _)).grown hgr (by have := J3.out.size; simp; omega) (fun k h => by have := hrow _ h; omega)
          have kf3 : KeepsFrom w2.heap.size W w3 := ((keepsFrom_below B3.out).trans (keepsFrom_below (W := W1) (((drewN_below (Below.refl _ _) nq).alloc (by simp) (.cells x.1.vals 118))))).trans (keepsFrom_grown hgr (ownsRow_isCells (O2.out nq)))
          have kb3 : Below w.heap.size W w3 := (((drewN_below (B3.out.mono I3.out.size) nq).alloc (by have := J3.out.size; simpa using this) _)).grown hgr (by have := J3.out.size; simp; omega) (fun k h => by have := hrow _ h; omega)
          have P3 := hid (And.intro hown (And.intro c3o (And.intro c3i (And.intro up3 (And.intro kf3 kb3)))))
          clear hown hgr hat hrow c3o c3i up3 kf3 kb3
          gi_wp2
          have hP := P3.out
          refine ⟨hP.2.2.2.2.1.trans keepsFrom_set, hP.2.2.2.2.2.setCell (p := ⟨w.heap.size + 1, 0, none⟩) (by simp) _, ⟨_, hP.2.1.set 0 _, ?_, hP.2.2.1.set_far 0 _ (by omega)⟩, hP.2.2.2.1.setCell (p := ⟨w.heap.size + 1, 0, none⟩) (by simp) _, ?_⟩
          · unfold PcsAt
            rw [vals_append, allP_snoc, HZ.out, if_pos rfl, HN.out, appP_last, if_neg (fun h => HC.out h.1)]
            have hfl : (L ++ [q, x.1]).length = m + 1 + 1 := by simp [HM.out]
            rw [hfl, show L ++ [q, x.1] = (L ++ [q]) ++ [x.1] by simp, flatP_last]
            exact ownsRow_moved hP.1 fun b cs hb _ => Below.heap_setCell w3 ⟨w.heap.size + 1, 0, none⟩ _ b (by simp; omega)
          · have := hP.2.2.2.2.1.size; have := HI4.out; simp [World.setCell]; omega
  case done =>
    rintro D ys W hD hS ⟨⟨v, i1, i2, i0⟩, i3, i4⟩ hK
    have k1 : W.cell? ⟨w.heap.size + 1, 0, none⟩ = some v := by simp [i1.cell]
    have I1 := hid i1
    have I2 := hid i2
    have I3 := hid i3
    have HD := hid hK
    clear i1 i2 i3 hK
    go_wp2
    refine ⟨by simp, .inl ⟨_, _, rfl, run_takeDeferred (b := D) (ds := []) HD.out, ?_⟩⟩
    refine ⟨_, results_tmp rfl _ _ _, _, rfl, ?_, ?_⟩
    · have := I2.out.kept (grownBy_putObj' W D (.deferred none)) (fun r e => by cases e; exact ⟨_, HD.out, rfl⟩)
      rw [hS] at this
      exact World.ownsRow.mono this (by omega)
    · exact I3.out.trans (belowK_b (w := w2) UP.out.size W D _ _ hD HD.out rfl rfl)
  case stop =>
    rintro D k pre W _ _ h _
    exact h.elim
end Go.Proofs.Ytnnbdjfeagcbdaa
