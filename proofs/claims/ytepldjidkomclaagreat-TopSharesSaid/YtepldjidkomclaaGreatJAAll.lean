/- all: the pieces of a tree that a closure allows, as long as they can be. span, holds: pieces as holds. Holds, Pledged, Count. Pocket: the state of one pocket at a version. Lengths of pieces in some state; holds of a canonical tiling; who owns a pocket. No program in sight. Runs as the reference keeps them: rising, none outside, as long as they can be; they are fixed by the states they give. No program in sight. The reference's change of runs is the change of the tiling. No program in sight. -/
import Derived.Deep.AppendLies
import Derived.Test.YtepldjidkomclaaGreatJAMake2
import Derived.Test.YtepldjidkomclaaGreatJAStk2
import Derived.Test.YtepldjidkomclaaGreatJARow
namespace Go.Proofs.YtepldjidkomclaaGreat.St
set_option linter.unusedSimpArgs false
set_option linter.unusedVariables false
open Go.RowKit Go.Shelf
attribute [local go_sem] Oper.semAt_some
attribute [local go_sem ↓] Go.wp_at_zero Go.wp_at_succ
def AllowsOf (wf : FuncId) (caps : Array Value) (is : Cl → Bool) (w : World) : Prop :=
  ∀ (c : Cl) (W : World), Below w.heap.size w W → Calls Tryz.prog wf (#[c.val] ++ caps) W fun e W' => e = .returned (.bool (is c)) ∧ Below W.heap.size W W'
def PcsAt (B : Nat) (w : World) (v : Value) (l : List Pc) : Prop := w.ownsRow B 97 6 v l.length (flatP l)
theorem PcsAt.kept {B : Nat} {W W' : World} {v : Value} {l : List Pc} {row : Option Nat} (h : PcsAt B W v l) (hg : W.grownBy W' row) (hr : ∀ r, row = some r → ∃ o : Obj, W.heap[r]? = some o ∧ o.isCells = false) : PcsAt B W' v l :=
  ownsRow_moved h fun b cs _ hb => hg.block b (Array.getElem?_eq_some_iff.1 hb).1 (fun e => by obtain ⟨o, ho, hc⟩ := hr b e.symm; rw [hb] at ho; cases ho; cases hc)
theorem PcsAt.below {B : Nat} {W W' : World} {v : Value} {l : List Pc} (h : PcsAt B W v l) (hb : Below W.heap.size W W') : PcsAt B W' v l :=
  ownsRow_moved h fun b cs _ hb' => hb.block b (Array.getElem?_eq_some_iff.1 hb').1
theorem PcsAt.alloc {B : Nat} {W : World} {v : Value} {l : List Pc} (h : PcsAt B W v l) (o : Obj) : PcsAt B (W.alloc o) v l := h.below ((Below.refl _ _).alloc (Nat.le_refl _) _)
theorem PcsAt.drew {B : Nat} {W : World} {v : Value} {l : List Pc} (h : PcsAt B W v l) : PcsAt B W.drew v l := ownsRow_moved h fun _ _ _ _ => rfl
theorem allP_length (is : Cl → Bool) (l : List Pc) : (allP is l).length ≤ l.length := by
  have key : ∀ (l acc : List Pc), (l.foldl (fun acc p => if is p.cell then appP acc p else acc) acc).length ≤ acc.length + l.length := by
    intro l
    induction l with
    | nil => intro acc; simp
    | cons p l ih =>
      intro acc
      simp only [List.foldl_cons, List.length_cons]
      split
      · have := ih (appP acc p); have := appP_length acc p; omega
      · have := ih acc; omega
  simpa [allP] using key l []
theorem wpListIn_append_lies {P : Program} {F : Fence} {nF : Nat} (w : World) {ops : Array Oper} {rest : List Oper} {o : Oper} {a : Act} {Q : Exit → Act → World → Prop} (hgd : o.guard = none) (s x : Operand) (t : TypeId)
    (ho : o.op = .call { callee := .builtin .append, args := #[s, x], argTypes := #[t, t] })
    (base : Nat) (e : TypeId) (i : TypeInfo) (z : Value) (size bytes : Nat) (ht : P.underlying t = some (.slice e)) (hi : P.info? e = some i) (hz : i.zero = some z)
    (hsize : i.size = size) (hby : i.bytes = bytes) (hzs : z.cells.size = size) (hsz : 0 < size)
    (v : Value) (n : Nat) (xs : List Value) (hs : a.eval s = v) (hown : w.ownsRow base e size v n xs)
    (ad : Addr) (m c : Nat) (news : List Value) (hx : a.eval x = .slice (some ad) m c) (hl : news.length = m * size) (hnews : ∀ j u, news[j]? = some u → w.cell? (ad.add j) = some u) (h1 : ∀ u ∈ news, u.oneCell' = true)
    (hm : 0 < m) (h63 : n + m ≤ maxLen) (hbytes : (n + m) * bytes ≤ 140737488355328) (hbase : base ≤ w.heap.size) (H : Nat) (hH : w.heap.size = H)
    (h : ∀ g cap w', w'.ownsRow base e size (.slice (some ⟨g, 0, none⟩) (n + m) cap) (n + m) (xs ++ news) → w.grownBy w' v.ownBlock → (v.ownBlock = some g ∨ g = H) → g < w'.heap.size → wpListIn F nF P ops Q rest (a.put o.dst (.slice (some ⟨g, 0, none⟩) (n + m) cap)) w') : wpListIn F nF P ops Q (o :: rest) a w :=
  wpListIn_plain hgd fun K hK => wpIn_append_lies w s x t ho base e i z size bytes ht hi hz hsize hby hzs hsz v n xs hs hown ad m c news hx hl hnews h1 hm h63 hbytes hbase H hH fun g cap w' h2 h3 h4 h5 => hK _ _ (h g cap w' h2 h3 h4 h5)
theorem keepsFrom_grown {B : Nat} {W W' : World} {row : Option Nat} (hg : W.grownBy W' row) (hr : ∀ r, row = some r → ∃ cs t fr, W.heap[r]? = some (Obj.cells cs t fr)) : KeepsFrom B W W' :=
  ⟨hg.size, fun k o _ hk ho => (hg.block k (Array.getElem?_eq_some_iff.1 hk).1 (fun e => by obtain ⟨cs, t, fr, h⟩ := hr k e.symm; rw [hk] at h; cases h; cases ho)).trans hk⟩
theorem pc_news (W : World) (k : Nat) (p : Pc) : ∀ (j : Nat) (u : Value), [Value.int IntKind.i64 p.from_, Value.int IntKind.i64 p.to, Value.int IntKind.i64 p.cell.state, Value.int IntKind.i64 p.cell.lot, Value.int IntKind.i64 p.cell.owner, Value.int IntKind.i64 p.cell.holder][j]? = some u →
    ((W.drewN k).alloc (Obj.cells #[Value.int IntKind.i64 p.from_, Value.int IntKind.i64 p.to, Value.int IntKind.i64 p.cell.state, Value.int IntKind.i64 p.cell.lot, Value.int IntKind.i64 p.cell.owner, Value.int IntKind.i64 p.cell.holder] 97)).cell? ⟨W.heap.size, j, none⟩ = some u := fun j u hu => by
  have := World.news_of_block (new_block W k p.vals 97) j u hu
  have hadd : (⟨W.heap.size, 0, none⟩ : Addr).add j = ⟨W.heap.size, j, none⟩ := by unfold Addr.add; split <;> simp_all
  rwa [hadd] at this
theorem flatP_last (L : List Pc) (q : Pc) : flatP (L ++ [q]) = flatP L ++ q.vals.toList := by simp [flatP]
theorem PcsAt.last {B : Nat} {W : World} {v : Value} {L : List Pc} {q : Pc} (h : PcsAt B W v (L ++ [q])) : ∃ g cap, v = .slice (some ⟨g, 0, none⟩) (L.length + 1) cap ∧ B ≤ g ∧ g < W.heap.size ∧
    W.ownsRow B 97 6 (.slice (some ⟨g, 0, none⟩) (L.length + 1) cap) (L.length + 1) (flatP (L ++ [q])) ∧ W.cell? ⟨g, L.length * 6, none⟩ = some (Value.int .i64 q.from_) ∧ W.cell? ⟨g, L.length * 6 + 1, none⟩ = some (Value.int .i64 q.to) ∧ W.cell? ⟨g, L.length * 6 + 2, none⟩ = some (Value.int .i64 q.cell.state) ∧ W.cell? ⟨g, L.length * 6 + 3, none⟩ = some (Value.int .i64 q.cell.lot) ∧ W.cell? ⟨g, L.length * 6 + 4, none⟩ = some (Value.int .i64 q.cell.owner) ∧ W.cell? ⟨g, L.length * 6 + 5, none⟩ = some (Value.int .i64 q.cell.holder) := by
  unfold PcsAt at h
  rw [List.length_append, List.length_singleton] at h
  obtain ⟨g, cap, rfl, hB, hlt⟩ := h.form (by omega)
  refine ⟨g, cap, rfl, hB, hlt, h, ?_⟩
  have key : ∀ j, j < 6 → W.cell? ⟨g, L.length * 6 + j, none⟩ = q.vals[j]? := by
    intro j hj
    rw [h.cellAt _ (by omega), flatP_last, List.getElem?_append_right (by rw [flatP_length]; omega), flatP_length, Nat.add_sub_cancel_left, Array.getElem?_toList]
  have k0 := key 0 (by omega)
  have k1 := key 1 (by omega)
  have k2 := key 2 (by omega)
  have k3 := key 3 (by omega)
  have k4 := key 4 (by omega)
  have k5 := key 5 (by omega)
  simp at k0 k1 k2 k3 k4 k5
  exact ⟨k0, k1, k2, k3, k4, k5⟩
theorem flatP_set (L : List Pc) (q : Pc) (to : Int) : (flatP (L ++ [q])).set (L.length * 6 + 1) (.int .i64 to) = flatP (L ++ [⟨q.from_, to, q.cell⟩]) := by
  rw [flatP_last, flatP_last, List.set_append_right _ _ (by rw [flatP_length]; omega), flatP_length, Nat.add_sub_cancel_left]
  rfl
theorem allP_toOk (is : Cl → Bool) (l : List Pc) (h : ∀ p ∈ l, p.Good) : ToOk (allP is l) := by
  have key : ∀ (l acc : List Pc), (∀ p ∈ l, p.Good) → ToOk acc → ToOk (l.foldl (fun acc p => if is p.cell then appP acc p else acc) acc) := by
    intro l
    induction l with
    | nil => intro acc _ h; exact h
    | cons p l ih =>
      intro acc hl hacc
      have hp := hl p (by simp)
      simp only [Pc.Good] at hp
      simp only [List.foldl_cons]
      refine ih _ (fun q hq => hl q (by simp [hq])) ?_
      split
      · exact appP_toOk acc _ hacc (by omega)
      · exact hacc
  exact key l [] h (by intro q hq; simp at hq)
theorem info_piece : (Tryz.prog.info? 97).map (fun i => (i.zero, i.size, i.bytes)) = some (some (.agg #[.int .i64 0, .int .i64 0, .int .i64 0, .int .i64 0, .int .i64 0, .int .i64 0]), 6, 48) := by kernel_rfl
theorem under_pieces : Tryz.prog.underlying 164 = some (.slice 97) := by kernel_rfl
set_option maxRecDepth 100000 in
set_option maxHeartbeats 4000000 in
theorem all_calls (w : World) (p : Option Addr) (t : T) (ht : TreeAt w p t) (hg : t.Good) (hs : Sorted t.toList) (hlen : t.toList.length ≤ 10000000) (wf : FuncId) (caps : Array Value) (is : Cl → Bool)
    (hwf : AllowsOf wf caps is w) (eg : ∀ args w, (callFunc wf args).run Tryz.prog w = .ok (.enter wf args) w) :
    Calls Tryz.prog 87 #[.pointer p, .func (.func wf) #[] caps] w fun e w' =>
      ∃ v, e = .returned v ∧ PcsAt w.heap.size w' v (allP is (visL t 1 1000000)) ∧ Below w.heap.size w w' := by
  have HT := hid ht
  have HW := hid hwf
  have EG := hid eg
  have hvl : (visL t 1 1000000).length ≤ 10000000 := by rw [visL_eq 1 1000000 t hs, visP_all _ hs.good]; exact hlen
  have HL := hid hvl
  clear ht hwf eg hlen hvl hs
  obtain ⟨i0, hi, hz0, hz1, hz2⟩ := info_parts info_piece
  obtain ⟨F, hFe⟩ : ∃ F, F = Fence.wide := ⟨_, rfl⟩
  have hF : Free F Tryz.prog := hFe ▸ free_wide _
  have hro : F.round = none := by rw [hFe]; rfl
  have FE := hid hFe
  clear hFe
  refine (callsIn_wide (n := 6)).1 ?_
  rw [← FE.out]
  refine callsIn_of_wp_marks Tryz.func87 rfl (hF.fn _) ?_ hro
  rw [FE.out]
  refine wpIn_wide.2 ?_
  simp only [Tryz.ntmps87, List.size_toArray, List.length_cons, List.length_nil, Nat.reduceAdd, Nat.reduceSub, Array.replicate_succ, Array.replicate_zero, List.push_toArray, List.append_toArray, List.nil_append, List.cons_append]
  have cA : Cells ((w.alloc (.cells #[.func (.func wf) #[] caps] 166)).alloc (.cells #[.slice none 0 0] 164)) w.heap.size #[.func (.func wf) #[] caps] 166 := (Cells.new w _ _).alloc _
  have cO : Cells ((w.alloc (.cells #[.func (.func wf) #[] caps] 166)).alloc (.cells #[.slice none 0 0] 164)) (w.heap.size + 1) #[.slice none 0 0] 164 := by
    have := Cells.new (w.alloc (.cells #[.func (.func wf) #[] caps] 166)) #[.slice none 0 0] 164
    rwa [World.size_alloc] at this
  have CA := hid cA
  have CO := hid cO
  clear cA cO
  go_wp2_with fail
  refine (within_made p 1 1000000 _).mono ?_
  rintro e w2 ⟨v, rfl, hi2, hb2⟩
  obtain ⟨B0, B1, B2, rfl, hB0, hB1, hB2⟩ := hi2
  have up : Below w.heap.size w w2 := Below.trans (by repeat (first | exact Below.refl _ _ | refine Below.alloc ?_ (by simp; try omega) _)) (hb2.mono (by simp; omega))
  have sz2 : w.heap.size + 1 + 1 ≤ w2.heap.size := by have := hb2.size; simpa using this
  have CA2 := hid (CA.out.below hb2 CA.out.lt)
  have CO2 := hid (CO.out.below hb2 CO.out.lt)
  have UP := hid up
  have T2 := hid (HT.out.below up)
  clear up hb2
  go_wp2
  refine (wpIn_wide (n := 6)).1 ?_
  rw [← FE.out]
  refine wpIn_rangeFunc_ownH hro (by omega) (gf := 82) (lb := #[.pointer (some ⟨B0, 0, none⟩), .pointer (some ⟨B1, 0, none⟩), .pointer (some ⟨B2, 0, none⟩)]) rfl (hF.fn _) (enters_of Tryz.func82 (by kernel_rfl) rfl)
    (within_stops F hF hro _ B0 B1 B2 w.heap.size p t hg 1 1000000 ⟨by omega, by omega, by omega⟩ w2 hB0.lt hB1.lt hB2.lt UP.out.size (by simp [hB0.cell]) (by simp [hB1.cell]) (by simp [hB2.cell]) (Tn.of_tree (Nat.le_refl _) UP.out HT.out))
    belowK_t (belowK_b UP.out.size) (Below.refl _ _) (fun _ => rfl)
    (fun pre W => (∃ v, Cells W (w.heap.size + 1) #[v] 164 ∧ PcsAt (w.heap.size + 1 + 1) W v (allP is (vals pre)) ∧ Cells W w.heap.size #[.func (.func wf) #[] caps] 166) ∧ Below w.heap.size w W ∧ w2.heap.size ≤ W.heap.size)
    (fun _ _ _ => False)
    (OwnFrom.and (fun s X Y row h hg hr => by obtain ⟨v, h1, h2, h3⟩ := h; exact ⟨v, h1.kept hg (fun r e => (hr r e).2), h2.kept hg (fun r e => (hr r e).2), h3.kept hg (fun r e => (hr r e).2)⟩) (OwnFrom.and (ownFrom_below (Nat.le_refl _) UP.out.size) (fun s X Y row h hg hr => Nat.le_trans h hg.size)))
    (fun _ _ _ _ _ h _ _ => h)
    ⟨⟨.slice none 0 0, CO2.out, ⟨rfl, .inl ⟨rfl, rfl⟩⟩, CA2.out⟩, UP.out, Nat.le_refl _⟩
    (fun x a' W => ∃ Bx, w2.heap.size ≤ Bx ∧ Cells W Bx x.1.vals 97 ∧ a' = { tmps := #[.pointer p, .func (.func wf) #[] caps, undef, .pointer (some ⟨w.heap.size, 0, none⟩), .slice none 0 0, .pointer (some ⟨w.heap.size + 1, 0, none⟩), .pointer (some ⟨Bx, 0, none⟩), undef, .pointer p,
      .func (.func 82) #[] #[.pointer (some ⟨B0, 0, none⟩), .pointer (some ⟨B1, 0, none⟩), .pointer (some ⟨B2, 0, none⟩)], x.1.val, undef, undef, undef, undef, undef, undef, undef, undef, undef, undef, undef, undef, undef, undef, undef, undef, undef, undef, undef, undef, undef, undef, undef, undef, undef, undef, undef, undef, undef, undef, undef, undef, undef, undef, undef, undef, undef, undef, undef, undef, undef, undef, undef, undef, undef, undef, undef, undef], defers := [] })
    (fun x a' s X Y row h hg hr => by obtain ⟨Bx, h1, h2, h3⟩ := h; exact ⟨Bx, h1, h2.kept hg (fun r e => (hr r e).2), h3⟩) ?assign ?body ?done ?stop
  case assign =>
    rintro l pre x W K ⟨⟨v, i1, i2, i0⟩, i3, i4⟩ hK
    gi_wp2
    exact hK _ _ ((KeepsOthers.alloc _ _).from _) ((Below.refl _ W).alloc i3.size _) ⟨⟨v, i1.alloc _, i2.alloc _, i0.alloc _⟩, i3.alloc i3.size _, by simp; omega⟩ ⟨W.heap.size, i4, Cells.new _ _ _, rfl⟩
  case body =>
    rintro l pre x a' W hl _ ⟨⟨v, i1, i2, i0⟩, i3, i4⟩ ⟨Bx, hBx, hcx, rfl⟩ hlt
    have k1 : W.cell? ⟨w.heap.size, 0, none⟩ = some (.func (.func wf) #[] caps) := by simp [i0.cell]
    obtain ⟨e0, e1, e2, e3, e4, e5⟩ := pc_facts hcx
    have I0 := hid i0
    have I1 := hid i1
    have I2 := hid i2
    have I3 := hid i3
    have CX := hid hcx
    have HI4 := hid i4
    have HBx := hid hBx
    have HLT := hid hlt
    have hfw : (F.inRound l).fn wf := hF.fn _
    have hfw' : F.fn wf := hF.fn _
    have hdd : ∀ k : Nat, (F.depth.isSome = true → 1 ≤ k) := fun k h => by rw [hF.depth] at h; cases h
    have eg' := EG.out
    clear i0 i1 i2 i3 i4 hcx hBx hlt
    gi_wp2_with fail
    (try refine ⟨hdd _, ?_⟩)
    refine (CallsIn.inRound l (hF.calls _ _ _ _ _ (HW.out x.1.cell W I3.out))).mono ?_
    rintro e W1 ⟨rfl, hb3⟩
    have B3 := hid hb3
    have J0 := hid (I0.out.below hb3 I0.out.lt)
    have J1 := hid (I1.out.below hb3 I1.out.lt)
    have J2 := hid (I2.out.below hb3)
    have J3 := hid (I3.out.trans (hb3.mono I3.out.size))
    have JX := hid (CX.out.below hb3 CX.out.lt)
    have bx : Bx < W1.heap.size := JX.out.lt
    have bo : w.heap.size + 1 < W1.heap.size := J1.out.lt
    clear hb3 eg' k1 e0 e1 e2 e3 e4 e5
    cases hz : is x.1.cell
    · gi_wp2
      exact ⟨keepsFrom_below B3.out, B3.out.mono I3.out.size, ⟨_, J1.out, by rw [vals_append, allP_snoc, hz, if_neg (by simp)]; exact J2.out, J0.out⟩, J3.out, Nat.le_trans HI4.out B3.out.size⟩
    · have HZ := hid hz
      clear hz
      have hlnB : (allP is (vals pre)).length ≤ 10000000 := by have h1 := allP_length is (vals pre); rw [vals_length] at h1; have h2 := HLT.out; have h3 := HL.out; omega
      have hmx : Tryz.prog.follows .mixedOrders = true := by kernel_rfl
      rcases List.eq_nil_or_concat (allP is (vals pre)) with hn | ⟨L, q, hn⟩
      · have hl0 : ∃ ptr cap, v = .slice ptr 0 cap := by
          have := J2.out
          unfold PcsAt at this
          rw [hn] at this
          rcases this.2 with ⟨h, _⟩ | ⟨g, cap, cur, h, _⟩
          · exact ⟨_, _, h⟩
          · exact ⟨_, _, h⟩
        obtain ⟨ptr, cap, rfl⟩ := hl0
        obtain ⟨e0, e1, e2, e3, e4, e5⟩ := pc_facts JX.out
        have k5 : W1.cell? ⟨w.heap.size + 1, 0, none⟩ = some (.slice ptr 0 cap) := by simp [J1.out.cell]
        have hd : decide ((0 : Int) < 0) = false := by decide
        have HN := hid hn
        clear hn
        gi_wp2
        have o2 : ∀ k, ((W1.drewN k).alloc (.cells x.1.vals 97)).ownsRow (w.heap.size + 1 + 1) 97 6 (.slice ptr 0 cap) (0) (flatP ([])) := by
          intro k
          have h := J2.out
          unfold PcsAt at h
          rw [HN.out] at h
          have h2 : (W1.drewN k).ownsRow (w.heap.size + 1 + 1) 97 6 (.slice ptr 0 cap) ([]).length (flatP ([])) := ownsRow_moved h fun _ _ _ _ => by simp [World.drewN]
          have h3 := World.ownsRow.alloc h2 (.cells x.1.vals 97)
          simpa using h3
        have O2 := hid o2
        clear o2
        refine wpIn_region_quietF (free_round hF l) hmx (by kernel_rfl) ?_
        repeat (go_big_quiet_step (fail))
        refine wpQuiet_nil ?_
        intro _ hw'
        obtain ⟨nq, hw''⟩ := hw'
        subst hw''
        gi_wp2_with (gi_at_builtin; refine wpListIn_append_lies _ rfl (.tmp 54) (.tmp 56) 164 rfl (w.heap.size + 1 + 1) 97 i0 _ 6 48 under_pieces hi hz0 hz1 hz2 rfl (by decide) (.slice ptr 0 cap) (0) (flatP ([])) rfl (O2.out nq) ⟨W1.heap.size, 0, none⟩ 1 1 x.1.vals.toList rfl rfl ?c1 ?c2 (by decide) ?c3 ?c4 ?c5 _ rfl ?_)
        case c1 => exact pc_news W1 nq x.1
        case c2 => exact ⟨rfl, rfl, rfl, rfl, rfl, rfl⟩
        case c3 => unfold maxLen; omega
        case c4 => omega
        case c5 => have := J1.out.lt; simp; omega
        intro g' cap' w3 hown hgr hat hlt3
        have hrow := fun k h => (World.ownsRow.lt (O2.out nq) k h).1
        have c3o : Cells w3 (w.heap.size + 1) #[.slice ptr 0 cap] 164 := (hgr.block _ ((J1.out.drewN nq).alloc _).lt (fun e => by have := hrow _ e.symm; omega)).trans ((J1.out.drewN nq).alloc _)
        have c3i : Cells w3 w.heap.size #[.func (.func wf) #[] caps] 166 := (hgr.block _ ((J0.out.drewN nq).alloc _).lt (fun e => by have := hrow _ e.symm; omega)).trans ((J0.out.drewN nq).alloc _)
        have k6 : w3.cell? ⟨w.heap.size + 1, 0, none⟩ = some (.slice ptr 0 cap) := by simp [c3o.cell]
        have f6 : w3.frozen? ⟨w.heap.size + 1, 0, none⟩ = false := c3o.frozen 0
        have hg1 : w.heap.size + 1 + 1 ≤ g' := by
          rcases hat with h | h
          · exact hrow _ h
          · rw [h]; simp; omega
        have up3 : Below w.heap.size w w3 := (((drewN_below J3.out nq).alloc (by simpa using J3.out.size) _)).grown hgr (by have := J3.out.size; simp; omega) (fun k h => by have := hrow _ h; omega)
        have kf3 : KeepsFrom w2.heap.size W w3 := ((keepsFrom_below B3.out).trans (keepsFrom_below (W := W1) (((drewN_below (Below.refl _ _) nq).alloc (by simp) (.cells x.1.vals 97))))).trans (keepsFrom_grown hgr (ownsRow_isCells (O2.out nq)))
        have kb3 : Below w.heap.size W w3 := (((drewN_below (B3.out.mono I3.out.size) nq).alloc (by have := J3.out.size; simpa using this) _)).grown hgr (by have := J3.out.size; simp; omega) (fun k h => by have := hrow _ h; omega)
        have P3 := hid (And.intro hown (And.intro c3o (And.intro c3i (And.intro up3 (And.intro kf3 kb3)))))
        clear hown hgr hat hrow c3o c3i up3 kf3 kb3
        gi_wp2
        have hP := P3.out
        refine ⟨hP.2.2.2.2.1.trans keepsFrom_set, hP.2.2.2.2.2.setCell (p := ⟨w.heap.size + 1, 0, none⟩) (by simp) _, ⟨_, hP.2.1.set 0 _, ?_, hP.2.2.1.set_far 0 _ (by omega)⟩, hP.2.2.2.1.setCell (p := ⟨w.heap.size + 1, 0, none⟩) (by simp) _, ?_⟩
        · unfold PcsAt
          rw [vals_append, allP_snoc, HZ.out, if_pos rfl, HN.out]
          exact ownsRow_moved hP.1 fun b cs hb _ => Below.heap_setCell w3 ⟨w.heap.size + 1, 0, none⟩ _ b (by simp; omega)
        · have := hP.2.2.2.2.1.size; have := HI4.out; simp [World.setCell]; omega
      · have hl1 := J2.out
        rw [List.concat_eq_append] at hn
        rw [hn] at hl1
        obtain ⟨g, cap, rfl, hg1, hg2, hrow, q0, q1, q2, q3, q4, q5⟩ := hl1.last
        obtain ⟨m, hm⟩ : ∃ m, m = L.length := ⟨_, rfl⟩
        rw [← hm] at hrow q0 q1 q2 q3 q4 q5 J1 J2 I1 I2
        have hlm : m + 1 ≤ 10000000 := by rw [hn] at hlnB; simp at hlnB; omega
        have HROW := hid hrow
        have HM := hid hm
        have HN := hid hn
        clear hl1 hrow hm hn hlnB
        obtain ⟨e0, e1, e2, e3, e4, e5⟩ := pc_facts JX.out
        have k5 : W1.cell? ⟨w.heap.size + 1, 0, none⟩ = some (.slice (some ⟨g, 0, none⟩) (m + 1) cap) := by simp [J1.out.cell]
        have hw1 : IntKind.i64.wrap ((m : Int) + 1 - 1) = (m : Int) := by rw [IntWalk.i64_in _ (by omega)]; omega
        have n1 : (0 : Int) ≤ (m : Int) := by omega
        have n2 : (m : Int) < (m : Int) + 1 := by omega
        have n3 : decide ((0 : Int) < (m : Int) + 1) = true := by rw [decide_eq_true_eq]; omega
        have hto := hid (allP_toOk is (vals pre) (fun p hp => by simp only [vals, List.mem_map] at hp; obtain ⟨y, _, rfl⟩ := hp; exact y.2))
        have hq := hto.out q (by rw [HN.out]; simp)
        have hw2 : IntKind.i64.wrap (q.to + 1) = q.to + 1 := IntWalk.i64_in _ (by omega)
        by_cases hc : q.cell = x.1.cell
        · have he : ∀ w, (Op.equalIn 10000 95 (.agg #[.int .i64 q.cell.state, .int .i64 q.cell.lot, .int .i64 q.cell.owner, .int .i64 q.cell.holder]) (.agg #[.int .i64 x.1.cell.state, .int .i64 x.1.cell.lot, .int .i64 x.1.cell.owner, .int .i64 x.1.cell.holder])).run Tryz.prog w = .ok true w := fun w => (run_eqCell q.cell x.1.cell w).trans (by simp [hc])
          have HC := hid hc
          clear hc
          by_cases hf : q.to + 1 = x.1.from_
          · have hfd : (q.to + 1 == x.1.from_) = true := by simp [hf]
            have HF := hid hf
            clear hf
            have hfz : ∀ k j, (W1.drewN k).frozen? ⟨g, j, none⟩ = false := fun k j => HROW.out.frozenAt j
            have fz := hfz
            gi_wp2
            refine wpIn_region_quietF (free_round hF l) hmx (by kernel_rfl) ?_
            repeat (go_big_quiet_step (fail))
            refine wpQuiet_nil ?_
            intro _ hw'
            obtain ⟨nq, hw''⟩ := hw'
            subst hw''
            gi_wp2
            have hst := World.ownsRow.stored (ownsRow_moved (w' := W1.drewN nq) HROW.out fun _ _ _ _ => by simp [World.drewN]) (m * 6 + 1) (.int .i64 x.1.to)
            refine ⟨?_, ?_, ⟨.slice (some ⟨g, 0, none⟩) (m + 1) cap, ?_, ?_, ?_⟩, ?_, ?_⟩
            · exact (keepsFrom_below (drewN_below B3.out nq)).trans keepsFrom_set
            · exact (drewN_below (B3.out.mono I3.out.size) nq).setCell (p := ⟨g, m * 6 + 1, none⟩) (by simp; omega) _
            · exact (J1.out.drewN nq).set_far _ _ (by omega)
            · unfold PcsAt
              rw [vals_append, allP_snoc, HZ.out, if_pos rfl, HN.out, appP_last, if_pos ⟨HC.out, HF.out⟩, List.length_append, List.length_singleton, ← flatP_set, ← HM.out]
              exact hst.1
            · exact (J0.out.drewN nq).set_far _ _ (by omega)
            · exact (drewN_below J3.out nq).setCell (p := ⟨g, m * 6 + 1, none⟩) (by simp; omega) _
            · have := HI4.out; have := B3.out.size; simp [World.setCell]; omega
          · have hfd : (q.to + 1 == x.1.from_) = false := by simp [hf]
            have HF := hid hf
            clear hf
            have o2 : ∀ k, ((W1.drewN k).alloc (.cells x.1.vals 97)).ownsRow (w.heap.size + 1 + 1) 97 6 (.slice (some ⟨g, 0, none⟩) (m + 1) cap) (m + 1) (flatP (L ++ [q])) := by
              intro k
              have h2 : (W1.drewN k).ownsRow (w.heap.size + 1 + 1) 97 6 (.slice (some ⟨g, 0, none⟩) (m + 1) cap) (m + 1) (flatP (L ++ [q])) := ownsRow_moved HROW.out fun _ _ _ _ => by simp [World.drewN]
              exact World.ownsRow.alloc h2 (.cells x.1.vals 97)
            have O2 := hid o2
            clear o2
            gi_wp2
            refine wpIn_region_quietF (free_round hF l) hmx (by kernel_rfl) ?_
            repeat (go_big_quiet_step (fail))
            refine wpQuiet_nil ?_
            intro _ hw'
            obtain ⟨nq, hw''⟩ := hw'
            subst hw''
            gi_wp2_with (gi_at_builtin; refine wpListIn_append_lies _ rfl (.tmp 54) (.tmp 56) 164 rfl (w.heap.size + 1 + 1) 97 i0 _ 6 48 under_pieces hi hz0 hz1 hz2 rfl (by decide) (.slice (some ⟨g, 0, none⟩) (m + 1) cap) (m + 1) (flatP (L ++ [q])) rfl (O2.out nq) ⟨W1.heap.size, 0, none⟩ 1 1 x.1.vals.toList rfl rfl ?c1 ?c2 (by decide) ?c3 ?c4 ?c5 _ rfl ?_)
            case c1 => exact pc_news W1 nq x.1
            case c2 => exact ⟨rfl, rfl, rfl, rfl, rfl, rfl⟩
            case c3 => unfold maxLen; omega
            case c4 => omega
            case c5 => have := J1.out.lt; simp; omega
            intro g' cap' w3 hown hgr hat hlt3
            have hrow := fun k h => (World.ownsRow.lt (O2.out nq) k h).1
            have c3o : Cells w3 (w.heap.size + 1) #[.slice (some ⟨g, 0, none⟩) (m + 1) cap] 164 := (hgr.block _ ((J1.out.drewN nq).alloc _).lt (fun e => by have := hrow _ e.symm; omega)).trans ((J1.out.drewN nq).alloc _)
            have c3i : Cells w3 w.heap.size #[.func (.func wf) #[] caps] 166 := (hgr.block _ ((J0.out.drewN nq).alloc _).lt (fun e => by have := hrow _ e.symm; omega)).trans ((J0.out.drewN nq).alloc _)
            have k6 : w3.cell? ⟨w.heap.size + 1, 0, none⟩ = some (.slice (some ⟨g, 0, none⟩) (m + 1) cap) := by simp [c3o.cell]
            have f6 : w3.frozen? ⟨w.heap.size + 1, 0, none⟩ = false := c3o.frozen 0
            have hg3 : w.heap.size + 1 + 1 ≤ g' := by
              rcases hat with h | h
              · exact hrow _ h
              · rw [h]; simp; omega
            have up3 : Below w.heap.size w w3 := (((drewN_below J3.out nq).alloc (by simpa using J3.out.size) _)).grown hgr (by have := J3.out.size; simp; omega) (fun k h => by have := hrow _ h; omega)
            have kf3 : KeepsFrom w2.heap.size W w3 := ((keepsFrom_below B3.out).trans (keepsFrom_below (W := W1) (((drewN_below (Below.refl _ _) nq).alloc (by simp) (.cells x.1.vals 97))))).trans (keepsFrom_grown hgr (ownsRow_isCells (O2.out nq)))
            have kb3 : Below w.heap.size W w3 := (((drewN_below (B3.out.mono I3.out.size) nq).alloc (by have := J3.out.size; simpa using this) _)).grown hgr (by have := J3.out.size; simp; omega) (fun k h => by have := hrow _ h; omega)
            have P3 := hid (And.intro hown (And.intro c3o (And.intro c3i (And.intro up3 (And.intro kf3 kb3)))))
            clear hown hgr hat hrow c3o c3i up3 kf3 kb3
            gi_wp2
            have hP := P3.out
            refine ⟨hP.2.2.2.2.1.trans keepsFrom_set, hP.2.2.2.2.2.setCell (p := ⟨w.heap.size + 1, 0, none⟩) (by simp) _, ⟨_, hP.2.1.set 0 _, ?_, hP.2.2.1.set_far 0 _ (by omega)⟩, hP.2.2.2.1.setCell (p := ⟨w.heap.size + 1, 0, none⟩) (by simp) _, ?_⟩
            · unfold PcsAt
              rw [vals_append, allP_snoc, HZ.out, if_pos rfl, HN.out, appP_last, if_neg (fun h => HF.out h.2)]
              have hfl : (L ++ [q, x.1]).length = m + 1 + 1 := by simp [HM.out]
              rw [hfl, show L ++ [q, x.1] = (L ++ [q]) ++ [x.1] by simp, flatP_last]
              exact ownsRow_moved hP.1 fun b cs hb _ => Below.heap_setCell w3 ⟨w.heap.size + 1, 0, none⟩ _ b (by simp; omega)
            · have := hP.2.2.2.2.1.size; have := HI4.out; simp [World.setCell]; omega
        · have he : ∀ w, (Op.equalIn 10000 95 (.agg #[.int .i64 q.cell.state, .int .i64 q.cell.lot, .int .i64 q.cell.owner, .int .i64 q.cell.holder]) (.agg #[.int .i64 x.1.cell.state, .int .i64 x.1.cell.lot, .int .i64 x.1.cell.owner, .int .i64 x.1.cell.holder])).run Tryz.prog w = .ok false w := fun w => (run_eqCell q.cell x.1.cell w).trans (by simp [hc])
          have HC := hid hc
          clear hc
          have o2 : ∀ k, ((W1.drewN k).alloc (.cells x.1.vals 97)).ownsRow (w.heap.size + 1 + 1) 97 6 (.slice (some ⟨g, 0, none⟩) (m + 1) cap) (m + 1) (flatP (L ++ [q])) := by
            intro k
            have h2 : (W1.drewN k).ownsRow (w.heap.size + 1 + 1) 97 6 (.slice (some ⟨g, 0, none⟩) (m + 1) cap) (m + 1) (flatP (L ++ [q])) := ownsRow_moved HROW.out fun _ _ _ _ => by simp [World.drewN]
            exact World.ownsRow.alloc h2 (.cells x.1.vals 97)
          have O2 := hid o2
          clear o2
          gi_wp2
          refine wpIn_region_quietF (free_round hF l) hmx (by kernel_rfl) ?_
          repeat (go_big_quiet_step (fail))
          refine wpQuiet_nil ?_
          intro _ hw'
          obtain ⟨nq, hw''⟩ := hw'
          subst hw''
          gi_wp2_with (gi_at_builtin; refine wpListIn_append_lies _ rfl (.tmp 54) (.tmp 56) 164 rfl (w.heap.size + 1 + 1) 97 i0 _ 6 48 under_pieces hi hz0 hz1 hz2 rfl (by decide) (.slice (some ⟨g, 0, none⟩) (m + 1) cap) (m + 1) (flatP (L ++ [q])) rfl (O2.out nq) ⟨W1.heap.size, 0, none⟩ 1 1 x.1.vals.toList rfl rfl ?c1 ?c2 (by decide) ?c3 ?c4 ?c5 _ rfl ?_)
          case c1 => exact pc_news W1 nq x.1
          case c2 => exact ⟨rfl, rfl, rfl, rfl, rfl, rfl⟩
          case c3 => unfold maxLen; omega
          case c4 => omega
          case c5 => have := J1.out.lt; simp; omega
          intro g' cap' w3 hown hgr hat hlt3
          have hrow := fun k h => (World.ownsRow.lt (O2.out nq) k h).1
          have c3o : Cells w3 (w.heap.size + 1) #[.slice (some ⟨g, 0, none⟩) (m + 1) cap] 164 := (hgr.block _ ((J1.out.drewN nq).alloc _).lt (fun e => by have := hrow _ e.symm; omega)).trans ((J1.out.drewN nq).alloc _)
          have c3i : Cells w3 w.heap.size #[.func (.func wf) #[] caps] 166 := (hgr.block _ ((J0.out.drewN nq).alloc _).lt (fun e => by have := hrow _ e.symm; omega)).trans ((J0.out.drewN nq).alloc _)
          have k6 : w3.cell? ⟨w.heap.size + 1, 0, none⟩ = some (.slice (some ⟨g, 0, none⟩) (m + 1) cap) := by simp [c3o.cell]
          have f6 : w3.frozen? ⟨w.heap.size + 1, 0, none⟩ = false := c3o.frozen 0
          have hg3 : w.heap.size + 1 + 1 ≤ g' := by
            rcases hat with h | h
            · exact hrow _ h
            · rw [h]; simp; omega
          have up3 : Below w.heap.size w w3 := (((drewN_below J3.out nq).alloc (by simpa using J3.out.size) _)).grown hgr (by have := J3.out.size; simp; omega) (fun k h => by have := hrow _ h; omega)
          have kf3 : KeepsFrom w2.heap.size W w3 := ((keepsFrom_below B3.out).trans (keepsFrom_below (W := W1) (((drewN_below (Below.refl _ _) nq).alloc (by simp) (.cells x.1.vals 97))))).trans (keepsFrom_grown hgr (ownsRow_isCells (O2.out nq)))
          have kb3 : Below w.heap.size W w3 := (((drewN_below (B3.out.mono I3.out.size) nq).alloc (by have := J3.out.size; simpa using this) _)).grown hgr (by have := J3.out.size; simp; omega) (fun k h => by have := hrow _ h; omega)
          have P3 := hid (And.intro hown (And.intro c3o (And.intro c3i (And.intro up3 (And.intro kf3 kb3)))))
          clear hown hgr hat hrow c3o c3i up3 kf3 kb3
          gi_wp2
          have hP := P3.out
          refine ⟨hP.2.2.2.2.1.trans keepsFrom_set, hP.2.2.2.2.2.setCell (p := ⟨w.heap.size + 1, 0, none⟩) (by simp) _, ⟨_, hP.2.1.set 0 _, ?_, hP.2.2.1.set_far 0 _ (by omega)⟩, hP.2.2.2.1.setCell (p := ⟨w.heap.size + 1, 0, none⟩) (by simp) _, ?_⟩
          · unfold PcsAt
            rw [vals_append, allP_snoc, HZ.out, if_pos rfl, HN.out, appP_last, if_neg (fun h => HC.out h.1)]
            have hfl : (L ++ [q, x.1]).length = m + 1 + 1 := by simp [HM.out]
            rw [hfl, show L ++ [q, x.1] = (L ++ [q]) ++ [x.1] by simp, flatP_last]
            exact ownsRow_moved hP.1 fun b cs hb _ => Below.heap_setCell w3 ⟨w.heap.size + 1, 0, none⟩ _ b (by simp; omega)
          · have := hP.2.2.2.2.1.size; have := HI4.out; simp [World.setCell]; omega
  case done =>
    rintro D ys W hD hS ⟨⟨v, i1, i2, i0⟩, i3, i4⟩ hK
    have k1 : W.cell? ⟨w.heap.size + 1, 0, none⟩ = some v := by simp [i1.cell]
    have I1 := hid i1
    have I2 := hid i2
    have I3 := hid i3
    have HD := hid hK
    clear i1 i2 i3 hK
    go_wp2
    refine ⟨by simp, .inl ⟨_, _, rfl, run_takeDeferred (b := D) (ds := []) HD.out, ?_⟩⟩
    refine ⟨_, results_tmp rfl _ _ _, _, rfl, ?_, ?_⟩
    · have := I2.out.kept (grownBy_putObj' W D (.deferred none)) (fun r e => by cases e; exact ⟨_, HD.out, rfl⟩)
      rw [hS] at this
      exact World.ownsRow.mono this (by omega)
    · exact I3.out.trans (belowK_b (w := w2) UP.out.size W D _ _ hD HD.out rfl rfl)
  case stop =>
    rintro D k pre W _ _ h _
    exact h.elim
end Go.Proofs.YtepldjidkomclaaGreat.St
namespace Go.Proofs.YtepldjidkomclaaGreat.St
set_option linter.unusedSimpArgs false
set_option linter.unusedVariables false
open Go.RowKit Go.Shelf
attribute [local go_sem] Oper.semAt_some
attribute [local go_sem ↓] Go.wp_at_zero Go.wp_at_succ
def encP (p : Pc) : List Value := p.vals.toList
theorem encP_len (p : Pc) : (encP p).length = 6 := rfl
theorem flatP_eq (l : List Pc) : flatP l = flatE encP l := rfl
theorem PcsAt.own {B : Nat} {w : World} {v : Value} {l : List Pc} (h : PcsAt B w v l) : OwnE encP 6 97 B w v l := h
def encH (p : Pc) : List Value := [.int .i64 p.from_, .int .i64 (p.to - p.from_ + 1), .int .i64 p.cell.lot, .int .i64 p.cell.owner, .int .i64 p.cell.holder]
theorem encH_len (p : Pc) : (encH p).length = 5 := rfl
theorem info_hold : (Tryz.prog.info? 118).map (fun i => (i.zero, i.size, i.bytes)) = some (some (.agg #[.int .i64 0, .int .i64 0, .int .i64 0, .int .i64 0, .int .i64 0]), 5, 40) := by kernel_rfl
theorem under_holds : Tryz.prog.underlying 114 = some (.slice 118) := by kernel_rfl
set_option maxRecDepth 100000 in
set_option maxHeartbeats 1000000 in
theorem span_calls (p : Pc) (hp : p.Good) (w : World) : Calls Tryz.prog 43 #[p.val] w fun e w' => e = .returned (.agg #[.int .i64 p.from_, .int .i64 (p.to - p.from_ + 1)]) ∧ Below w.heap.size w w' := by
  simp only [Pc.Good] at hp
  have hw1 : IntKind.i64.wrap (p.to - p.from_) = p.to - p.from_ := IntWalk.i64_in _ (by omega)
  have hw2 : IntKind.i64.wrap (p.to - p.from_ + 1) = p.to - p.from_ + 1 := IntWalk.i64_in _ (by omega)
  have l1 : w.heap.size < w.heap.size + 1 + 1 := by omega
  go_enter Tryz.func43, Tryz.ntmps43
  go_wp2
  refine bodyPost_ret (v := .agg #[.int .i64 p.from_, .int .i64 (p.to - p.from_ + 1)]) (by simp [results, Tryz.results43, go_sem]) rfl ⟨rfl, ?_⟩
  repeat (first | exact Below.refl _ _ | refine Below.setCell ?_ (by simp; try omega) _ | refine Below.alloc ?_ (by simp; try omega) _)
set_option maxRecDepth 100000 in
set_option maxHeartbeats 2000000 in
theorem holds_calls (w : World) (v : Value) (l : List Pc) (hv : ReadsE encP 6 w v l) (hl : l.length ≤ 10000000) (hg : ∀ p ∈ l, p.Good) :
    Calls Tryz.prog 86 #[v] w fun e w' => ∃ u, e = .returned u ∧ OwnE encH 5 118 w.heap.size w' u l ∧ Below w.heap.size w w' := by
  obtain ⟨i0, hi, hz0, hz1, hz2⟩ := info_parts info_hold
  obtain ⟨hm, p, cap, b, off, rfl, hp, hc⟩ := hv
  obtain ⟨n, hn⟩ : ∃ n, n = l.length := ⟨_, rfl⟩
  rw [← hn] at hp hl hm ⊢
  have HP := hid hp
  have HC := hid hc
  have HG := hid hg
  have HN := hid hn
  clear hp hc hg hn
  go_enter Tryz.func86, Tryz.ntmps86
  go_wp2
  go_loopw [3, 8] (fun u i wr => ∃ k : Nat, k ≤ n ∧ i = .int .i64 k ∧ OwnE encH 5 118 w.heap.size wr u (l.take k) ∧ Below w.heap.size w wr) (fun _ i _ => n - (intOf i).toNat)
  case atStart => exact ⟨0, Nat.zero_le _, rfl, OwnE.nil _ _, Below.refl _ _⟩
  case round =>
    obtain ⟨k, hk, rfl, ho, hb⟩ := hrel
    have HB := hid hb
    by_cases hlk : k < n
    · obtain ⟨rfl, hbl⟩ := HP.out (by omega)
      have hkl : k < l.length := by rw [← HN.out]; exact hlk
      obtain ⟨q, hq⟩ : ∃ q, q = l[k] := ⟨_, rfl⟩
      have hqg : q.Good := HG.out q (by rw [hq]; exact List.getElem_mem hkl)
      have key : ∀ j, j < 6 → wr.cell? ⟨b, off + k * 6 + j, none⟩ = (encP q)[j]? := fun j hj => by rw [hq]; exact (hb.cell (p := ⟨b, off + k * 6 + j, none⟩) hbl).trans (HC.out k hkl j hj)
      have c0 := key 0 (by omega)
      have c1 := key 1 (by omega)
      have c2 := key 2 (by omega)
      have c3 := key 3 (by omega)
      have c4 := key 4 (by omega)
      have c5 := key 5 (by omega)
      simp [encP] at c0 c1 c2 c3 c4 c5
      have HQ := hid hq
      have HO := hid ho
      have hlt : (l.take k).length = k := by rw [List.length_take]; omega
      have h64 : IntKind.i64.wrap ((k : Int) + 1) = (k : Int) + 1 := IntWalk.i64_in _ (by omega)
      have HO := hid (show wr.ownsRow w.heap.size 118 5 u3 k (flatE encH (l.take k)) by have := ho; unfold OwnE at this; rwa [hlt] at this)
      have HE := hid (show flatE encH (l.take (k + 1)) = flatE encH (l.take k) ++ encH q by rw [List.take_succ_eq_append_getElem hkl, flatE_snoc, hq])
      have l1 : wr.heap.size < wr.heap.size + 1 := by omega
      clear key hq ho hb hlt
      have HOW := hid (fun (w1 : World) (hb1 : Below (wr.alloc (.cells q.vals 97)).drew.heap.size (wr.alloc (.cells q.vals 97)).drew w1) => World.ownsRow.alloc (ownsRow_moved HO.out fun b cs _ hb' => (hb1.block b (by have := (Array.getElem?_eq_some_iff.1 hb').1; simp; omega)).trans (Below.heap_alloc wr _ b (Array.getElem?_eq_some_iff.1 hb').1)) (.cells #[.int .i64 q.from_, .int .i64 (q.to - q.from_ + 1), .int .i64 q.cell.lot, .int .i64 q.cell.owner, .int .i64 q.cell.holder] 118))
      have hb63 : k + 1 ≤ maxLen := by unfold maxLen; omega
      have hb47 : (k + 1) * 40 ≤ 140737488355328 := by omega
      have hwl : w.heap.size ≤ wr.heap.size := HB.out.size
      have hne : u3.ownBlock ≠ some wr.heap.size := fun e => by have := (World.ownsRow.lt HO.out _ e).2; omega
      go_wp2
      go_region_held3 (fun w' => w'.cell? ⟨wr.heap.size, 0, none⟩ = some (.int .i64 q.from_) ∧ w'.cell? ⟨wr.heap.size, 1, none⟩ = some (.int .i64 q.to) ∧ w'.cell? ⟨wr.heap.size, 2, none⟩ = some (.int .i64 q.cell.state) ∧ w'.cell? ⟨wr.heap.size, 3, none⟩ = some (.int .i64 q.cell.lot) ∧ w'.cell? ⟨wr.heap.size, 4, none⟩ = some (.int .i64 q.cell.owner) ∧ w'.cell? ⟨wr.heap.size, 5, none⟩ = some (.int .i64 q.cell.holder))
        (first
          | go_keep
          | (go_split_ands
             refine ⟨?_, ?_, ?_, ?_, ?_, ?_⟩
             all_goals (rw [hgr.cell_far _ (by simp; omega) (Ne.symm hne)]; assumption)))
        (first
          | ((with_reducible refine (span_calls q hqg _).mono ?_); rintro e w1 ⟨rfl, hb1⟩; obtain ⟨hc1, hf1⟩ := bcell hb1; have lo1 : wr.heap.size < w1.heap.size := (by have := hb1.size; (try simp at this); omega))
          | (refine step_append_lies _ (by rfl) _ _ _ (by rfl) w.heap.size 118 i0 _ 5 40 under_holds hi hz0 hz1 hz2 rfl (by omega) u3 k (flatE encH (l.take k)) (by rfl) (HOW.out w1 hb1) ⟨w1.heap.size, 0, none⟩ 1 1 (encH q) (by rfl) (by rfl) (news_of (Cells.new w1 _ _)) (by simp [Value.oneCell', encH]) (by omega) hb63 hb47 (by simp; omega) (w1.heap.size + 1) (by simp) ?_; intro g' cap' w3 hown hgr hat hlt3))
      have hb3 : Below w.heap.size w w3 := Below.grown (Below.alloc (((HB.out.alloc hwl _).drew).trans (hb1.mono (by simp; omega))) (by have := hb1.size; simp at this; omega) _) hgr (by simp; omega) (fun r h => (World.ownsRow.lt HO.out r h).1)
      have HB3 := hid hb3
      have HW := hid hown
      clear hb3 hown hgr hat hb1 hc1 hf1 lo1
      go_wp2
      go_roundw
      case rel => exact ⟨k + 1, by omega, by go_num, by unfold OwnE; rw [HE.out, List.length_take, ← HN.out, Nat.min_eq_left (by omega)]; exact HW.out, HB3.out⟩
      case measure => simp [intOf]; omega
    · have hkn : k = n := by omega
      subst hkn
      have HO := hid ho
      clear ho hb
      go_wp2
      go_ret
      exact ⟨_, rfl, by have := HO.out; rwa [List.take_of_length_le (by rw [← HN.out]; exact Nat.le_refl _)] at this, HB.out⟩
end Go.Proofs.YtepldjidkomclaaGreat.St
namespace Go.Proofs.YtepldjidkomclaaGreat.St
set_option linter.unusedSimpArgs false
set_option linter.unusedVariables false
open Go.RowKit Go.Shelf
attribute [local go_sem] Oper.semAt_some
attribute [local go_sem ↓] Go.wp_at_zero Go.wp_at_succ
def ownB (o : Int) (c : Cl) : Bool := decide (c.state = 1) && decide (c.owner = o)
def askL (is : Cl → Bool) (vs : List T) (v : Int) (r : Int) : List Pc := if r = 0 then allP is (vs[v.toNat]?.getD .nil).toList else []
def AskPost (w : World) (r : Int) (l : List Pc) (e : Ending) (w' : World) : Prop :=
  ∃ u, e = .returned (.tuple #[u, .int .i64 r]) ∧ OwnE encH 5 118 w.heap.size w' u l ∧ Below w.heap.size w w'
theorem visL_fine {t : T} (h : Fine t) : visL t 1 1000000 = t.toList := by rw [visL_eq 1 1000000 t h.sorted, visP_all _ h.sorted.good]
theorem appP_good (l : List Pc) (p : Pc) (h : ∀ q ∈ l, q.Good) (hp : p.Good) : ∀ q ∈ appP l p, q.Good := by
  induction l with
  | nil => intro q hq; simp [appP] at hq; subst hq; exact hp
  | cons a l ih =>
    cases l with
    | nil =>
      rw [appP_one]
      have ha := h a (by simp)
      intro q hq
      split at hq
      · rename_i hc
        simp at hq; subst hq
        simp only [Pc.Good] at *
        omega
      · simp at hq; rcases hq with rfl | rfl
        · exact ha
        · exact hp
    | cons b l =>
      rw [appP_cons _ _ _ (by simp)]
      intro q hq
      rcases List.mem_cons.1 hq with rfl | hq
      · exact h _ (by simp)
      · exact ih (fun x hx => h x (List.mem_cons_of_mem _ hx)) q hq
theorem allP_good (is : Cl → Bool) (l : List Pc) (h : ∀ p ∈ l, p.Good) : ∀ p ∈ allP is l, p.Good := by
  have key : ∀ (l acc : List Pc), (∀ p ∈ l, p.Good) → (∀ p ∈ acc, p.Good) → ∀ p ∈ l.foldl (fun acc p => if is p.cell then appP acc p else acc) acc, p.Good := by
    intro l
    induction l with
    | nil => intro acc _ h; exact h
    | cons p l ih =>
      intro acc hl hacc
      simp only [List.foldl_cons]
      refine ih _ (fun q hq => hl q (by simp [hq])) ?_
      split
      · exact appP_good acc p hacc (hl p (by simp))
      · exact hacc
  exact key l [] h (by intro q hq; simp at hq)
theorem atE_zero {n : Nat} {v : Int} {ok : Bool} (h : atE n v ok = 0) : 0 ≤ v ∧ v < n ∧ ok = true := by
  unfold atE at h
  split at h
  · omega
  · split at h
    · exact ⟨by omega, by omega, by assumption⟩
    · omega
set_option maxHeartbeats 2000000 in
theorem Holds1_calls (c : Cl) (o : Int) (B : Nat) (w : World) (h0 : w.cell? ⟨B, 0, none⟩ = some (.int .i64 o)) :
    Calls Tryz.prog 88 #[c.val, .pointer (some ⟨B, 0, none⟩)] w fun e w' => e = .returned (.bool (ownB o c)) ∧ Below w.heap.size w w' := by
  have hlt := World.block_lt_of_cell? _ _ h0
  by_cases h : c.state = 1
  · have hb : (c.state == 1) = true := by simp [h]
    by_cases h2 : c.owner = o
    · have hb2 : (c.owner == o) = true := by simp [h2]
      have e : ownB o c = true := by simp [ownB, h, h2]
      rw [e]
      clear h h2
      go_enter Tryz.func88, Tryz.ntmps88
      go_wp2
      go_ret
      exact ⟨rfl, Below.alloc (Below.refl _ _) (Nat.le_refl _) _⟩
    · have hb2 : (c.owner == o) = false := by simp [h2]
      have e : ownB o c = false := by simp [ownB, h2]
      rw [e]
      clear h h2
      go_enter Tryz.func88, Tryz.ntmps88
      go_wp2
      go_ret
      exact ⟨rfl, Below.alloc (Below.refl _ _) (Nat.le_refl _) _⟩
  · have hb : (c.state == 1) = false := by simp [h]
    have e : ownB o c = false := by simp [ownB, h]
    rw [e]
    clear h
    go_enter Tryz.func88, Tryz.ntmps88
    go_wp2
    go_ret
    exact ⟨rfl, Below.alloc (Below.refl _ _) (Nat.le_refl _) _⟩
set_option maxRecDepth 100000 in
set_option maxHeartbeats 4000000 in
theorem Holds_calls (w : World) (sB vB : Nat) (vs : List T) (hst : StAt w sB vB vs) (hn : vs.length ≤ 1000) (hf : ∀ t ∈ vs, Fine t) (o v : Int) :
    Calls Tryz.prog 47 #[.pointer (some ⟨sB, 0, none⟩), .int .i64 o, .int .i64 v] w
      (AskPost w (atE vs.length v (inB 1000 o)) (askL (ownB o) vs v (atE vs.length v (inB 1000 o)))) := by
  have hmf : ∀ (fn : Fn) (first cap : Array Value) (w : World), (Instr.makeFunc fn first cap).run Tryz.prog w = .ok (.func fn first cap) w := fun _ _ _ _ => rfl
  have ST := hid hst
  have FI := hid hf
  have I1 := hid (show IntsAt ((w.alloc (.cells #[.int .i64 o] 3)).alloc (.cells #[.int .i64 o] 3)) (.slice (some ⟨w.heap.size + 1, 0, none⟩) 1 1) [o] by
    have := ints_one (w.alloc (.cells #[.int .i64 o] 3)) o 3
    rwa [World.size_alloc] at this)
  have C0 := hid ((Cells.new w #[.int .i64 o] 3).alloc (.cells #[.int .i64 o] 3))
  have U0 := hid (show Below w.heap.size w ((w.alloc (.cells #[.int .i64 o] 3)).alloc (.cells #[.int .i64 o] 3)) from (((Below.refl _ _).alloc (Nat.le_refl _) _).alloc (by simp) _))
  clear hst hf
  go_enter Tryz.func47, Tryz.ntmps47
  go_wp2_with fail
  refine (are_calls 1000 _ _ [o] I1.out).mono ?_
  rintro e w1 ⟨rfl, hb1⟩
  rw [all_one]
  have B1 := hid (U0.out.trans (hb1.mono U0.out.size))
  have C1 := hid (C0.out.below hb1 C0.out.lt)
  clear hb1
  go_wp2_with fail
  refine (at_calls w1 sB vB vs (ST.out.below B1.out) (by omega) v (inB 1000 o)).mono ?_
  rintro e w2 ⟨rfl, p, rfl, htr⟩
  have HT := hid htr
  obtain ⟨r, hr⟩ : ∃ r, r = atE vs.length v (inB 1000 o) := ⟨_, rfl⟩
  have HR := hid hr
  rw [← hr]
  clear htr hr
  have l1 : w.heap.size < w2.heap.size := C1.out.lt
  by_cases hz : r = 0
  · subst hz
    have hv := atE_zero HR.out.symm
    obtain ⟨t, htt⟩ : ∃ t, t = vs[v.toNat]?.getD .nil := ⟨_, rfl⟩
    have fi : Fine t := FI.out t (by rw [htt, List.getElem?_eq_getElem (by omega)]; exact List.getElem_mem _)
    have tr : TreeAt w2 p t := by rw [htt]; exact HT.out HR.out.symm
    have al : ∀ (d : Cl) (W : World), Below w2.heap.size w2 W → W.cell? ⟨w.heap.size, 0, none⟩ = some (.int .i64 o) := fun d W hb => by rw [(C1.out.below hb C1.out.lt).cell]; rfl
    have FT := hid fi
    have TR := hid tr
    have AL := hid al
    have EQ := hid (show askL (ownB o) vs v 0 = allP (ownB o) t.toList by unfold askL; rw [if_pos rfl, htt])
    clear fi tr al htt hv
    go_wp2_with fail
    refine (all_calls w2 p t TR.out FT.out.good FT.out.sorted FT.out.few 88 #[.pointer (some ⟨w.heap.size, 0, none⟩)] (ownB o) (fun d W hb => Holds1_calls d o _ W (AL.out d W hb)) (enters_of Tryz.func88 (by kernel_rfl) rfl)).mono ?_
    rintro e w3 ⟨u, rfl, hu, hb3⟩
    rw [visL_fine FT.out] at hu
    have lu : (allP (ownB o) t.toList).length ≤ 10000000 := by have := allP_length (ownB o) t.toList; have := FT.out.few; omega
    have RU := hid (hu.own.reads encP_len (by omega))
    have B3 := hid (B1.out.trans (hb3.mono B1.out.size))
    clear hu hb3
    go_wp2_with fail
    refine (holds_calls w3 u _ RU.out lu (allP_good _ _ FT.out.sorted.good)).mono ?_
    rintro e w4 ⟨y, rfl, hy, hb4⟩
    have HY := hid hy
    have B4 := hid (B3.out.trans (hb4.mono B3.out.size))
    clear hy hb4
    go_wp2
    rw [← HR.out, EQ.out]
    refine bodyPost_ret (v := .tuple #[y, .int .i64 0]) (by simp [results, Tryz.results47, go_sem]) rfl ⟨y, rfl, HY.out.mono B3.out.size, B4.out⟩
  · have hz' : (r != 0) = true := by simp [hz]
    have EQ := hid (show askL (ownB o) vs v r = [] from if_neg hz)
    clear hz
    go_wp2
    rw [← HR.out, EQ.out]
    refine bodyPost_ret (v := .tuple #[.slice none 0 0, .int .i64 r]) (by simp [results, Tryz.results47, go_sem]) rfl ⟨_, rfl, OwnE.nil _ _, B1.out⟩
def cntL : List Pc → Int
  | [] => 0
  | p :: l => (p.to - p.from_ + 1) + cntL l
theorem cntL_snoc (l : List Pc) (p : Pc) : cntL (l ++ [p]) = cntL l + (p.to - p.from_ + 1) := by
  induction l with
  | nil => simp [cntL]
  | cons a l ih => simp only [List.cons_append, cntL, ih]; omega
theorem cntL_bound (l : List Pc) (h : ∀ p ∈ l, p.Good) : 0 ≤ cntL l ∧ cntL l ≤ 1000000 * l.length := by
  induction l with
  | nil => simp [cntL]
  | cons p l ih =>
    have := ih (fun q hq => h q (by simp [hq]))
    have hp := h p (by simp)
    simp only [Pc.Good] at hp
    simp only [cntL, List.length_cons]
    omega
theorem askL_good (is : Cl → Bool) (vs : List T) (hf : ∀ t ∈ vs, Fine t) (v r : Int) (h : r = 0 → 0 ≤ v ∧ v < vs.length) : (askL is vs v r).length ≤ 10000000 ∧ ∀ p ∈ askL is vs v r, p.Good := by
  unfold askL
  split
  · rename_i hr
    have hv := h hr
    have fi : Fine (vs[v.toNat]?.getD .nil) := hf _ (by rw [List.getElem?_eq_getElem (by omega)]; exact List.getElem_mem _)
    exact ⟨Nat.le_trans (allP_length _ _) fi.few, allP_good _ _ fi.sorted.good⟩
  · exact ⟨by simp, fun p hp => by simp at hp⟩
set_option maxRecDepth 100000 in
set_option maxHeartbeats 4000000 in
theorem Count_calls (w : World) (sB vB : Nat) (vs : List T) (hst : StAt w sB vB vs) (hn : vs.length ≤ 1000) (hf : ∀ t ∈ vs, Fine t) (o v : Int) :
    Calls Tryz.prog 18 #[.pointer (some ⟨sB, 0, none⟩), .int .i64 o, .int .i64 v] w fun e w' =>
      e = .returned (.tuple #[.int .i64 (cntL (askL (ownB o) vs v (atE vs.length v (inB 1000 o)))), .int .i64 (atE vs.length v (inB 1000 o))]) ∧ Below w.heap.size w w' := by
  have AG := askL_good (ownB o) vs hf v (atE vs.length v (inB 1000 o)) (fun h => ⟨(atE_zero h).1, (atE_zero h).2.1⟩)
  obtain ⟨l, hl⟩ : ∃ l, l = askL (ownB o) vs v (atE vs.length v (inB 1000 o)) := ⟨_, rfl⟩
  have HC := hid (Holds_calls w sB vB vs hst hn hf o v)
  rw [← hl] at AG HC ⊢
  obtain ⟨r, hr⟩ : ∃ r, r = atE vs.length v (inB 1000 o) := ⟨_, rfl⟩
  rw [← hr] at HC ⊢
  clear hl hr hst hf hn
  have HG := hid AG.2
  have hlen := AG.1
  clear AG
  obtain ⟨n, hn⟩ : ∃ n, n = l.length := ⟨_, rfl⟩
  rw [← hn] at hlen
  have HN := hid hn
  clear hn
  go_enter Tryz.func18, Tryz.ntmps18
  go_wp2_with fail
  refine HC.out.mono ?_
  rintro e w1 ⟨u, rfl, hu, hb1⟩
  obtain ⟨hm, p, cap, b, off, rfl, hp, hc⟩ := hu.reads encH_len (by rw [← HN.out]; omega)
  rw [← HN.out] at hp
  have HP := hid hp
  have HCC := hid hc
  have HB1 := hid hb1
  rw [← HN.out]
  clear hu hb1 hp hc hm
  go_wp2
  go_loopw [10, 22] (fun s i wr => ∃ k : Nat, k ≤ n ∧ i = .int .i64 k ∧ s = .int .i64 (cntL (l.take k)) ∧ Below w1.heap.size w1 wr) (fun _ i _ => n - (intOf i).toNat)
  case atStart => exact ⟨0, Nat.zero_le _, rfl, rfl, Below.refl _ _⟩
  case round =>
    obtain ⟨k, hk, rfl, rfl, hb⟩ := hrel
    have HB := hid hb
    by_cases hlk : k < n
    · obtain ⟨rfl, hbl⟩ := HP.out (by omega)
      have hkl : k < l.length := by rw [← HN.out]; exact hlk
      obtain ⟨q, hq⟩ : ∃ q, q = l[k] := ⟨_, rfl⟩
      have hqg : q.Good := HG.out q (by rw [hq]; exact List.getElem_mem hkl)
      have key : ∀ j, j < 5 → wr.cell? ⟨b, off + k * 5 + j, none⟩ = (encH q)[j]? := fun j hj => by rw [hq]; exact (hb.cell (p := ⟨b, off + k * 5 + j, none⟩) hbl).trans (HCC.out k hkl j hj)
      have c0 := key 0 (by omega)
      have c1 := key 1 (by omega)
      have c2 := key 2 (by omega)
      have c3 := key 3 (by omega)
      have c4 := key 4 (by omega)
      simp [encH] at c0 c1 c2 c3 c4
      have SN := hid (show cntL (l.take (k + 1)) = cntL (l.take k) + (q.to - q.from_ + 1) by rw [List.take_succ_eq_append_getElem hkl, cntL_snoc, hq])
      have bd := cntL_bound (l.take k) (fun p hp => HG.out p (List.mem_of_mem_take hp))
      have bl : (l.take k).length ≤ k := List.length_take_le _ _
      simp only [Pc.Good] at hqg
      obtain ⟨S, hS⟩ : ∃ S, S = cntL (l.take k) := ⟨_, rfl⟩
      rw [← hS] at bd SN ⊢
      have w1' : IntKind.i64.wrap (S + (q.to - q.from_ + 1)) = S + (q.to - q.from_ + 1) := IntWalk.i64_in _ (by omega)
      have h64 : IntKind.i64.wrap ((k : Int) + 1) = (k : Int) + 1 := IntWalk.i64_in _ (by omega)
      clear key hq hb bd bl hS hkl
      have l1 : wr.heap.size < wr.heap.size + 1 := by omega
      go_wp2
      go_roundw
      case rel => exact ⟨k + 1, by omega, by go_num, by rw [SN.out], (by have hbb := HB.out.size; have h0 := HB.out; repeat (first | exact h0 | refine Below.setCell ?_ (by first | omega | (simp; omega)) _ | refine Below.alloc ?_ (by first | omega | (simp; omega)) _))⟩
      case measure => simp [intOf]; omega
    · have hkn : k = n := by omega
      subst hkn
      have ht : l.take k = l := List.take_of_length_le (by rw [← HN.out]; exact Nat.le_refl _)
      rw [ht]
      clear hb ht
      go_wp2
      refine bodyPost_ret (v := .tuple #[.int .i64 (cntL l), .int .i64 r]) (by simp [results, Tryz.results18, go_sem]) rfl ⟨rfl, HB1.out.trans (HB.out.mono HB1.out.size)⟩
end Go.Proofs.YtepldjidkomclaaGreat.St
namespace Go.Proofs.YtepldjidkomclaaGreat.St
set_option linter.unusedSimpArgs false
set_option linter.unusedVariables false
open Go.RowKit Go.Shelf
attribute [local go_sem] Oper.semAt_some
attribute [local go_sem ↓] Go.wp_at_zero Go.wp_at_succ
end Go.Proofs.YtepldjidkomclaaGreat.St
namespace Go.Proofs.YtepldjidkomclaaGreat.St
set_option linter.unusedSimpArgs false
set_option linter.unusedVariables false
open Go.RowKit
def sumP (is : Cl → Bool) : List Pc → Int
  | [] => 0
  | p :: l => (if is p.cell = true then p.to - p.from_ + 1 else 0) + sumP is l
theorem sumP_appP (is : Cl → Bool) : ∀ (l : List Pc) (p : Pc), sumP is (appP l p) = sumP is l + (if is p.cell = true then p.to - p.from_ + 1 else 0)
  | [], p => by simp [appP, sumP]
  | [q], p => by
    rw [appP_one]
    split
    · rename_i h
      simp only [sumP, h.1]
      split <;> omega
    · simp only [sumP]; omega
  | q :: r :: l, p => by
    rw [appP_cons _ _ _ (by simp)]
    simp only [sumP, sumP_appP is (r :: l) p]
    omega
theorem sumP_all (is : Cl → Bool) (l : List Pc) : cntL (allP is l) = sumP is l := by
  have c : ∀ m : List Pc, cntL m = sumP (fun _ => true) m := by
    intro m
    induction m with
    | nil => rfl
    | cons p m ih => simp [cntL, sumP, ih]
  rw [c]
  have key : ∀ (l acc : List Pc), sumP (fun _ => true) (l.foldl (fun acc p => if is p.cell then appP acc p else acc) acc) = sumP (fun _ => true) acc + sumP is l := by
    intro l
    induction l with
    | nil => intro acc; simp [sumP]
    | cons p l ih =>
      intro acc
      rw [List.foldl_cons, ih]
      simp only [sumP]
      split
      · rename_i h
        rw [sumP_appP]; simp; omega
      · rename_i h
        omega
  have := key l []
  rw [show allP is l = l.foldl (fun acc p => if is p.cell then appP acc p else acc) [] from rfl, this]
  simp [sumP]
theorem Tiles.val : ∀ {l : List Pc} {a b : Int}, Tiles l a b → ∀ p ∈ l, ∀ n, p.from_ ≤ n → n ≤ p.to → valL l n = p.cell
  | [], _, _, _ => by simp
  | q :: l, a, b, ⟨h1, h2, h3⟩ => by
    intro p hp n hn1 hn2
    rcases List.mem_cons.1 hp with rfl | hp
    · rw [valL, if_pos ⟨hn1, hn2⟩]
    · have := h3.mem p hp
      rw [valL, if_neg (by omega)]
      exact h3.val p hp n hn1 hn2
theorem canon_ne : ∀ {l : List Pc} {a b : Int}, Tiles l a b → Canon l → ∀ p ∈ l, ∀ q ∈ l, p.to + 1 = q.from_ → p.cell ≠ q.cell
  | [], _, _, _, _ => by simp
  | r :: l, a, b, ht, hc => by
    intro p hp q hq e
    obtain ⟨h1, h2, h3⟩ := ht
    have key := canon_ne h3 hc.tail
    have mem := h3.mem
    rcases List.mem_cons.1 hp with hp1 | hp1
    · subst hp1
      rcases List.mem_cons.1 hq with hq | hq
      · subst hq; omega
      · cases l with
        | nil => simp at hq
        | cons s l =>
          rcases List.mem_cons.1 hq with hq | hq
          · subst hq; intro hcell; exact hc.1 hcell e
          · have hs := h3.1
            have hs2 := h3.2.1
            have := h3.2.2.mem q hq
            omega
    · rcases List.mem_cons.1 hq with hq | hq
      · subst hq
        have := mem p hp1
        omega
      · exact key p hp1 q hq e
structure Kept (l : List Pc) : Prop where
  tiles : Tiles l 1 1000000
  canon : Canon l
  owner : ∀ n, (valL l n).state = 1 → 1 ≤ (valL l n).owner ∧ (valL l n).owner ≤ 4 ∧ 1 ≤ n ∧ n < 80
theorem Kept.changed {l : List Pc} (h : Kept l) (a c : Int) (g : Cl → Cl) (ha : 1 ≤ a ∧ 1 ≤ c ∧ a + c - 1 ≤ 74)
    (hg : ∀ d, (g d).state = 1 → (d.state = 1 ∧ (g d).owner = d.owner) ∨ 1 ≤ (g d).owner ∧ (g d).owner ≤ 4) : Kept (changedP l a c g) where
  tiles := changedP_tiles g h.tiles ha.1 ha.2.1 (by omega)
  canon := changedP_canon g a c h.canon
  owner := by
    intro n
    rw [changedP_val g h.tiles ha.1 ha.2.1 (by omega) n]
    split
    · rename_i hn
      intro hs
      rcases hg _ hs with ⟨h1, h2⟩ | h1
      · have := h.owner n h1
        rw [h2]; exact this
      · omega
    · exact h.owner n
end Go.Proofs.YtepldjidkomclaaGreat.St
namespace Go.Proofs.YtepldjidkomclaaGreat.St
set_option linter.unusedSimpArgs false
set_option linter.unusedVariables false
open Go.RowKit
structure RunsP (l : List Pc) : Prop where
  rise : l.Pairwise (fun p q => p.to < q.from_)
  good : ∀ p ∈ l, p.Good
  state : ∀ p ∈ l, p.cell.state ≠ 0
  canon : ∀ p ∈ l, ∀ q ∈ l, p.to + 1 = q.from_ → p.cell ≠ q.cell
theorem RunsP.nil : RunsP [] := ⟨List.Pairwise.nil, by simp, by simp, by simp⟩
theorem RunsP.tail {p : Pc} {l : List Pc} (h : RunsP (p :: l)) : RunsP l :=
  ⟨(List.pairwise_cons.1 h.rise).2, fun q hq => h.good q (by simp [hq]), fun q hq => h.state q (by simp [hq]), fun q hq r hr => h.canon q (by simp [hq]) r (by simp [hr])⟩
theorem RunsP.head {p : Pc} {l : List Pc} (h : RunsP (p :: l)) : ∀ q ∈ l, p.to < q.from_ := (List.pairwise_cons.1 h.rise).1
theorem RunsP.sorted {l : List Pc} (h : RunsP l) : Sorted l := ⟨h.rise, h.good⟩
theorem Pc.Good.le {p : Pc} (h : p.Good) : 1 ≤ p.from_ ∧ p.from_ ≤ p.to ∧ p.to ≤ 1000000 := by simp only [Pc.Good] at h; omega
theorem valL_low {l : List Pc} {n : Int} (h : ∀ q ∈ l, n < q.from_) : valL l n = cl0 := valL_out (fun q hq hh => by have := h q hq; omega)
theorem RunsP.val : ∀ {l : List Pc}, RunsP l → ∀ p ∈ l, ∀ n, p.from_ ≤ n → n ≤ p.to → valL l n = p.cell
  | [], _ => by simp
  | q :: l, h => by
    intro p hp n h1 h2
    rcases List.mem_cons.1 hp with rfl | hp
    · rw [valL, if_pos ⟨h1, h2⟩]
    · have := h.head p hp
      rw [valL, if_neg (by omega)]
      exact h.tail.val p hp n h1 h2
def addR (l : List Pc) (r : Pc) : List Pc := if r.to < r.from_ ∨ r.cell.state = 0 then l else appP l r
def inL (l : List Pc) : List Pc := l.filter fun p => decide (p.cell.state ≠ 0)
theorem inL_runs {l : List Pc} (ht : Tiles l 1 1000000) (hc : Canon l) : RunsP (inL l) := by
  have hs := ht.sorted (by omega) (by omega)
  refine ⟨hs.rise.filter _, fun p hp => hs.good p (List.mem_filter.1 hp).1, fun p hp => by simpa using (List.mem_filter.1 hp).2, fun p hp q hq => canon_ne ht hc p (List.mem_filter.1 hp).1 q (List.mem_filter.1 hq).1⟩
theorem inL_val {l : List Pc} {a b : Int} (ht : Tiles l a b) (h0 : ∀ n, (valL l n).state = 0 → valL l n = cl0) (n : Int) : valL (inL l) n = valL l n := by
  have key : ∀ (l : List Pc) (a : Int), Tiles l a b → (∀ p ∈ l, p.cell.state = 0 → p.cell = cl0) → valL (inL l) n = valL l n := by
    intro l
    induction l with
    | nil => intro _ _ _; rfl
    | cons p l ih =>
      intro a h hz
      obtain ⟨h1, h2, h3⟩ := h
      have ih := ih _ h3 (fun q hq => hz q (by simp [hq]))
      unfold inL at ih ⊢
      rw [List.filter_cons]
      by_cases hs : p.cell.state = 0
      · rw [if_neg (by simp [hs]), ih, valL]
        split
        · rename_i hn
          rw [hz p (by simp) hs]
          exact valL_low (fun q hq => by have := h3.mem q hq; omega)
        · rfl
      · rw [if_pos (by simp [hs]), valL, valL, ih]
  refine key l a ht fun p hp hs => ?_
  have hm := ht.mem p hp
  have := ht.val p hp p.from_ (by omega) (by omega)
  rw [← this]
  exact h0 _ (by rw [this]; exact hs)
end Go.Proofs.YtepldjidkomclaaGreat.St
namespace Go.Proofs.YtepldjidkomclaaGreat.St
set_option linter.unusedSimpArgs false
set_option linter.unusedVariables false
open Go.RowKit
end Go.Proofs.YtepldjidkomclaaGreat.St
