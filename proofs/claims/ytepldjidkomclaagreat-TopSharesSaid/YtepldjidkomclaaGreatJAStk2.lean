/- changed: the tree with the states of a span as a closure has them. Slices of integers that are read; slices.IndexFunc, ContainsFunc; are. The small functions of the stock package: valid spans, the closures of the changes. The closures that make cells; owned, held; Version; at. A register with all its versions; make. A quiet region that draws its order, within a fence that lets all by. Alpha. -/
import Derived.BigQuiet
import Derived.Test.YtepldjidkomclaaGreatJAReg
import Derived.Test.YtepldjidkomclaaGreatJAVis0
namespace Go.Proofs.YtepldjidkomclaaGreat.St
set_option linter.unusedSimpArgs false
set_option linter.unusedVariables false
open Go.RowKit Go.Shelf
attribute [local go_sem] Oper.semAt_some
attribute [local go_sem ↓] Go.wp_at_zero Go.wp_at_succ
def MapsOf (wf : FuncId) (caps : Array Value) (g : Cl → Cl) (w : World) : Prop :=
  ∀ (c : Cl) (W : World), Below w.heap.size w W → Calls Tryz.prog wf (#[c.val] ++ caps) W fun e W' => e = .returned (g c).val ∧ Below W.heap.size W W'
theorem treeAt_kept {W W' : World} {t : T} {p : Option Addr} {row : Option Nat} (h : TreeAt W p t) (hg : W.grownBy W' row) (hr : ∀ r, row = some r → ∃ o : Obj, W.heap[r]? = some o ∧ o.isCells = false) : TreeAt W' p t :=
  h.keepT fun b cs hb => hg.block b (Array.getElem?_eq_some_iff.1 hb).1 (fun e => by obtain ⟨o, ho, hc⟩ := hr b e.symm; rw [hb] at ho; cases ho; cases hc)
set_option maxRecDepth 100000 in
set_option maxHeartbeats 4000000 in
theorem changed_calls (w : World) (t : T) (p0 : Option Addr) (ht : TreeAt w p0 t) (ok : t.Ok) (hs : Sorted t.toList) (hlen : t.toList.length ≤ 10000000) (a c : Int) (hac : 1 ≤ a ∧ 1 ≤ c ∧ a + c - 1 ≤ 1000000) (wf : FuncId) (caps : Array Value) (g : Cl → Cl)
    (hwf : MapsOf wf caps g w) (eg : ∀ args w, (callFunc wf args).run Tryz.prog w = .ok (.enter wf args) w) :
    Calls Tryz.prog 81 #[.pointer p0, .agg #[.int .i64 a, .int .i64 c], .func (.func wf) #[] caps] w (GlueMade (changedP t.toList a c g) w) := by
  have HT := hid ht
  have HOK := hid ok
  have HS := hid hs
  have HW := hid hwf
  have EG := hid eg
  have HLEN := hid hlen
  clear ht ok hs hwf eg hlen
  have hw1 : IntKind.i64.wrap (a + c) = a + c := IntWalk.i64_in _ (by omega)
  obtain ⟨F, hFe⟩ : ∃ F, F = Fence.wide := ⟨_, rfl⟩
  have hF : Free F Tryz.prog := hFe ▸ free_wide _
  have hro : F.round = none := by rw [hFe]; rfl
  have FE := hid hFe
  clear hFe
  refine (callsIn_wide (n := 6)).1 ?_
  rw [← FE.out]
  refine callsIn_of_wp_marks Tryz.func81 rfl (hF.fn _) ?_ hro
  rw [FE.out]
  refine wpIn_wide.2 ?_
  simp only [Tryz.ntmps81, List.size_toArray, List.length_cons, List.length_nil, Nat.reduceAdd, Nat.reduceSub, Array.replicate_succ, Array.replicate_zero, List.push_toArray, List.append_toArray, List.nil_append, List.cons_append]
  have cA : Cells ((w.alloc (.cells #[.int .i64 a, .int .i64 c] 56)).alloc (.cells #[.func (.func wf) #[] caps] 106)) (w.heap.size + 1) #[.func (.func wf) #[] caps] 106 := by
    have := Cells.new (w.alloc (.cells #[.int .i64 a, .int .i64 c] 56)) #[.func (.func wf) #[] caps] 106
    rw [World.size_alloc] at this
    exact this
  have cS := (Cells.new w #[.int .i64 a, .int .i64 c] 56).alloc (.cells #[.func (.func wf) #[] caps] 106)
  have CA := hid cA
  have CS := hid cS
  clear cA cS
  go_wp2_with fail
  refine (split_calls t a p0 _ ((HT.out.alloc _).alloc _) HOK.out (by have := HLEN.out; omega) (by omega)).mono ?_
  rintro e w1 ⟨q1, q2, t1, t2, rfl, ht1, ht2, ok1, ok2, el1, el2, hb1⟩
  have up1 : Below w.heap.size w w1 := Below.trans (by repeat (first | exact Below.refl _ _ | refine Below.alloc ?_ (by simp; try omega) _)) (hb1.mono (by simp; omega))
  rw [splitT_eq a t HS.out] at el1 el2
  have ss := splitP_sorted t.toList a HS.out
  have sl := splitP_length t.toList a
  have s2 : Sorted t2.toList := by rw [el2]; exact ss.2.1
  have S1 := hid (And.intro el1 (And.intro el2 (And.intro ss sl)))
  have S2 := hid s2
  have T1 := hid (And.intro ht1 (And.intro ht2 (And.intro ok1 ok2)))
  have CA1 := hid (CA.out.below hb1 (by simp))
  have CS1 := hid (CS.out.below hb1 (by simp; omega))
  have UP1 := hid up1
  have n1 : w1.cell? ⟨w.heap.size, 0, none⟩ = some (.int .i64 a) := by simp [CS1.out.cell]
  have n2 : w1.cell? ⟨w.heap.size, 1, none⟩ = some (.int .i64 c) := by simp [CS1.out.cell]
  clear ht1 ht2 ok1 ok2 el1 el2 ss sl s2 up1 hb1
  go_wp2_with fail
  refine (split_calls t2 (a + c) q2 _ T1.out.2.1 T1.out.2.2.2 (by have := S1.out; have := HLEN.out; rw [S1.out.2.1]; omega) (by omega)).mono ?_
  rintro e w2 ⟨q3, q4, t3, t4, rfl, ht3, ht4, ok3, ok4, el3, el4, hb2⟩
  rw [splitT_eq (a + c) t2 S2.out] at el3 el4
  have ss := splitP_sorted t2.toList (a + c) S2.out
  have sl := splitP_length t2.toList (a + c)
  have hg3 : t3.Good := good_iff t3 (by rw [el3]; exact ss.1.good)
  have hs3 : Sorted t3.toList := by rw [el3]; exact ss.1
  have S3 := hid (And.intro el3 (And.intro el4 (And.intro ss (And.intro sl (And.intro hg3 hs3)))))
  have T3 := hid (And.intro ht3 (And.intro ht4 (And.intro ok3 ok4)))
  have T1' := hid (T1.out.1.below hb2)
  have CA2 := hid (CA1.out.below hb2 CA1.out.lt)
  have UP2 := hid (UP1.out.trans (hb2.mono UP1.out.size))
  clear ht3 ht4 ok3 ok4 el3 el4 ss sl hg3 hs3 hb2 n1 n2
  go_wp2_with fail
  refine (within_made q3 1 1000000 _).mono ?_
  rintro e w3 ⟨v, rfl, ⟨B0, B1, B2, rfl, hB0, hB1, hB2⟩, hb3⟩
  have co := (Cells.new w2 #[.pointer none] 90).below hb3 (by simp)
  have CO := hid co
  have B3 := hid (Below.trans ((Below.refl _ w2).alloc (Nat.le_refl _) (.cells #[.pointer none] 90)) (hb3.mono (by simp)))
  clear co hb3
  go_wp2
  refine (wpIn_wide (n := 6)).1 ?_
  rw [← FE.out]
  refine wpIn_rangeFunc_ownH hro (by omega) (gf := 82) (lb := #[.pointer (some ⟨B0, 0, none⟩), .pointer (some ⟨B1, 0, none⟩), .pointer (some ⟨B2, 0, none⟩)]) rfl (hF.fn _) (enters_of Tryz.func82 (by kernel_rfl) rfl)
    (within_stops F hF hro _ B0 B1 B2 w2.heap.size q3 t3 S3.out.2.2.2.2.1 1 1000000 ⟨by omega, by omega, by omega⟩ w3 hB0.lt hB1.lt hB2.lt B3.out.size (by simp [hB0.cell]) (by simp [hB1.cell]) (by simp [hB2.cell]) (Tn.of_tree (Nat.le_refl _) B3.out T3.out.1))
    belowK_t (belowK_b B3.out.size) (Below.refl _ _) (fun _ => rfl)
    (fun pre W => (∃ (q : Option Addr) (o : T), Cells W w2.heap.size #[.pointer q] 90 ∧ TreeAt W q o ∧ o.Ok ∧ o.toList = ownP g (vals pre)) ∧ Below w2.heap.size w2 W ∧ w3.heap.size ≤ W.heap.size)
    (fun _ _ _ => False)
    (OwnFrom.and (fun s X Y row h hg hr => by obtain ⟨q, o, h1, h2, h3⟩ := h; exact ⟨q, o, h1.kept hg (fun r e => (hr r e).2), treeAt_kept h2 hg (fun r e => (hr r e).2), h3⟩) (OwnFrom.and (ownFrom_below (Nat.le_refl _) B3.out.size) (fun s X Y row h hg hr => Nat.le_trans h hg.size)))
    (fun _ _ _ _ _ h _ _ => h)
    ⟨⟨none, .nil, CO.out, rfl, trivial, rfl⟩, B3.out, Nat.le_refl _⟩
    (fun x a' W => ∃ Bx, w3.heap.size ≤ Bx ∧ Cells W Bx x.1.vals 97 ∧ a' = { tmps := #[.pointer p0, .agg #[.int .i64 a, .int .i64 c], .func (.func wf) #[] caps, undef, .pointer (some ⟨w.heap.size, 0, none⟩), .pointer (some ⟨w.heap.size + 1, 0, none⟩), .pointer none, .pointer q1, .pointer q2, .pointer q3, .pointer q4, .pointer (some ⟨w2.heap.size, 0, none⟩), .pointer (some ⟨Bx, 0, none⟩), .tuple #[.pointer q1, .pointer q2], .pointer p0, .pointer (some ⟨w.heap.size, 0, none⟩), .int .i64 a, .tuple #[.pointer q1, .pointer q2], .pointer q1, .pointer q2, .tuple #[.pointer q3, .pointer q4], .pointer q2, .pointer (some ⟨w.heap.size, 0, none⟩), .int .i64 a, .pointer (some ⟨w.heap.size, 1, none⟩), .int .i64 c, .int .i64 (a + c), .tuple #[.pointer q3, .pointer q4], .pointer q3, .pointer q4, .pointer q3,
      .func (.func 82) #[] #[.pointer (some ⟨B0, 0, none⟩), .pointer (some ⟨B1, 0, none⟩), .pointer (some ⟨B2, 0, none⟩)], x.1.val, undef, undef, undef, undef, undef, undef, undef, undef, undef, undef, undef, undef, undef, undef], defers := [] })
    (fun x a' s X Y row h hg hr => by obtain ⟨Bx, h1, h2, h3⟩ := h; exact ⟨Bx, h1, h2.kept hg (fun r e => (hr r e).2), h3⟩) ?assign ?body ?done ?stop
  case assign =>
    rintro l pre x W K ⟨⟨q, o, i1, i2, i3⟩, i4, i5⟩ hK
    gi_wp2
    exact hK _ _ ((KeepsOthers.alloc _ _).from _) ((Below.refl _ W).alloc i4.size _) ⟨⟨q, o, i1.alloc _, i2.alloc _, i3⟩, i4.alloc i4.size _, by simp; omega⟩ ⟨W.heap.size, i5, Cells.new _ _ _, rfl⟩
  case body =>
    rintro l pre x a' W hl _ ⟨⟨q, o, i1, i2, i3, i4⟩, i5, i6⟩ ⟨Bx, hBx, hcx, rfl⟩ hlt
    obtain ⟨e0, e1, e2, e3, e4, e5⟩ := pc_facts hcx
    have k11 : W.cell? ⟨w2.heap.size, 0, none⟩ = some (.pointer q) := by simp [i1.cell]
    have k5 : W.cell? ⟨w.heap.size + 1, 0, none⟩ = some (.func (.func wf) #[] caps) := by
      simp [((CA2.out.below i5 CA2.out.lt).cell)]
    have hdd : ∀ k : Nat, (F.depth.isSome = true → 1 ≤ k) := fun k h => by rw [hF.depth] at h; cases h
    have hmx : Tryz.prog.follows .mixedOrders = true := by kernel_rfl
    have hfw : (F.inRound l).fn wf := hF.fn _
    have hfw' : F.fn wf := hF.fn _
    have hfa : F.fn 106 := hF.fn _
    have eg' := EG.out
    have II := hid (And.intro i1 (And.intro i2 (And.intro i3 (And.intro i4 (And.intro i5 i6)))))
    have HCX := hid hcx
    clear i1 i2 i3 i4 i5 i6 hcx
    gi_wp2
    have hFr := free_round hF l
    refine wpIn_region_heldIn (S := fun w' => Cells w' w2.heap.size #[.pointer q] 90 ∧ Cells w' Bx x.1.vals 97 ∧ Cells w' (w.heap.size + 1) #[.func (.func wf) #[] caps] 106) (f := 9) hmx ?_
    have hS0 := And.intro (II.out.1.drew) (And.intro (show Cells W.drew Bx x.1.vals 97 from HCX.out.drew) (show Cells W.drew (w.heap.size + 1) #[.func (.func wf) #[] caps] 106 from (CA2.out.below II.out.2.2.2.2.1 CA2.out.lt).drew))
    have HS0 := hid hS0
    clear hS0
    refine wpAnyHIn_take hFr (by kernel_rfl) (i := 0) (v := .pointer q) rfl (by kernel_rfl) (by kernel_rfl) (by kernel_rfl) (fun _ _ _ h => h) (.inl ⟨rfl, fun w' hs => ?_⟩) HS0.out ?_
    · have z0 := hs.1.cell 0
      have z1 := hs.2.2.cell 0
      obtain ⟨y0, y1, y2, y3, y4, y5⟩ := pc_facts hs.2.1
      simp at z0 z1
      clear hs
      go_simp
    refine wpAnyHIn_take hFr (by kernel_rfl) (i := 1) (v := .pointer (some ⟨Bx, 0, none⟩)) rfl (by kernel_rfl) (by kernel_rfl) (by kernel_rfl) (fun _ _ _ h => h) (.inl ⟨rfl, fun w' hs => ?_⟩) HS0.out ?_
    · have z0 := hs.1.cell 0
      have z1 := hs.2.2.cell 0
      obtain ⟨y0, y1, y2, y3, y4, y5⟩ := pc_facts hs.2.1
      simp at z0 z1
      clear hs
      go_simp
    refine wpAnyHIn_take hFr (by kernel_rfl) (i := 2) (v := .agg #[.int .i64 x.1.from_, .int .i64 x.1.to]) rfl (by kernel_rfl) (by kernel_rfl) (by kernel_rfl) (fun _ _ _ h => h) (.inl ⟨rfl, fun w' hs => ?_⟩) HS0.out ?_
    · have z0 := hs.1.cell 0
      have z1 := hs.2.2.cell 0
      obtain ⟨y0, y1, y2, y3, y4, y5⟩ := pc_facts hs.2.1
      simp at z0 z1
      clear hs
      go_simp
    refine wpAnyHIn_take hFr (by kernel_rfl) (i := 3) (v := .func (.func wf) #[] caps) rfl (by kernel_rfl) (by kernel_rfl) (by kernel_rfl) (fun _ _ _ h => h) (.inl ⟨rfl, fun w' hs => ?_⟩) HS0.out ?_
    · have z0 := hs.1.cell 0
      have z1 := hs.2.2.cell 0
      obtain ⟨y0, y1, y2, y3, y4, y5⟩ := pc_facts hs.2.1
      simp at z0 z1
      clear hs
      go_simp
    refine wpAnyHIn_take hFr (by kernel_rfl) (i := 4) (v := .pointer (some ⟨Bx, 2, none⟩)) rfl (by kernel_rfl) (by kernel_rfl) (by kernel_rfl) (fun _ _ _ h => h) (.inl ⟨rfl, fun w' hs => ?_⟩) HS0.out ?_
    · have z0 := hs.1.cell 0
      have z1 := hs.2.2.cell 0
      obtain ⟨y0, y1, y2, y3, y4, y5⟩ := pc_facts hs.2.1
      simp at z0 z1
      clear hs
      go_simp
    refine wpAnyHIn_take hFr (by kernel_rfl) (i := 5) (v := x.1.cell.val) rfl (by kernel_rfl) (by kernel_rfl) (by kernel_rfl) (fun _ _ _ h => h) (.inl ⟨rfl, fun w' hs => ?_⟩) HS0.out ?_
    · have z0 := hs.1.cell 0
      have z1 := hs.2.2.cell 0
      obtain ⟨y0, y1, y2, y3, y4, y5⟩ := pc_facts hs.2.1
      simp at z0 z1
      clear hs
      go_simp
    refine wpAnyHIn_one (i := 6) rfl (by kernel_rfl) rfl ?_
    gi_wp2_with fail
    (try refine ⟨hdd _, ?_⟩)
    refine (CallsIn.inRound l (hF.calls _ _ _ _ _ (HW.out x.1.cell W.drew ((UP2.out.trans (II.out.2.2.2.2.1.mono UP2.out.size)).drew)))).mono ?_
    rintro e W1 ⟨rfl, hb4⟩
    have hb5 : Below W.heap.size W W1 := undrew hb4
    have HB5 := hid hb5
    have HX := hid x.2
    have hx : x.1.Good := x.2
    simp only [Pc.Good] at hx
    clear hb4 hb5 eg' k11 k5
    have of := ownP_facts g (vals pre) (fun p hp => by simp only [vals, List.mem_map] at hp; obtain ⟨y, _, rfl⟩ := hp; exact y.2)
    have OF := hid of
    have hl4 : o.toList.length ≤ 90000000 := by
      rw [II.out.2.2.2.1]
      have h1 := OF.out.1
      rw [vals_length] at h1
      have h2 := S3.out
      have h3 := HLEN.out
      have h4 := S1.out
      have h5 : (visL t3 1 1000000).length ≤ t3.toList.length := by rw [visL_eq 1 1000000 t3 h2.2.2.2.2.2, visP_all _ h2.2.2.2.2.2.good]; exact Nat.le_refl _
      rw [h2.1] at h5
      have h6 := h2.2.2.2.1.1
      have h8 : t2.toList.length ≤ t.toList.length + 1 := by rw [h4.2.1]; exact h4.2.2.2.2
      omega
    have k11' : W1.cell? ⟨w2.heap.size, 0, none⟩ = some (.pointer q) := by simp [(II.out.1.below HB5.out II.out.1.lt).cell]
    have f11' : W1.frozen? ⟨w2.heap.size, 0, none⟩ = false := (II.out.1.below HB5.out II.out.1.lt).frozen 0
    clear of
    have S5 := hid (And.intro (II.out.1.below HB5.out II.out.1.lt) (And.intro (HCX.out.below HB5.out HCX.out.lt) ((CA2.out.below II.out.2.2.2.2.1 CA2.out.lt).below HB5.out (CA2.out.below II.out.2.2.2.2.1 CA2.out.lt).lt)))
    gi_wp2_with fail
    refine ⟨S5.out, ?_⟩
    refine wpAnyHIn_one (i := 7) rfl (by kernel_rfl) rfl ?_
    gi_wp2_with fail
    refine ⟨S5.out, ?_⟩
    refine wpAnyHIn_one (i := 8) rfl (by kernel_rfl) rfl ?_
    gi_wp2_with fail
    (try refine ⟨hdd _, ?_⟩)
    refine (CallsIn.inRound l (hF.calls _ _ _ _ _ (appended_calls o ⟨x.1.from_, x.1.to, g x.1.cell⟩ q W1 (II.out.2.1.below HB5.out) II.out.2.2.1 hl4 (by rw [II.out.2.2.2.1]; exact OF.out.2)))).mono ?_
    rintro e W2 ⟨q5, t5, rfl, ht5, ok5, el5, hb6⟩
    have c11 : Cells W2 w2.heap.size #[.pointer q] 90 := (II.out.1.below HB5.out II.out.1.lt).below hb6 (II.out.1.below HB5.out II.out.1.lt).lt
    have k11'' : W2.cell? ⟨w2.heap.size, 0, none⟩ = some (.pointer q) := by simp [c11.cell]
    have f11'' : W2.frozen? ⟨w2.heap.size, 0, none⟩ = false := c11.frozen 0
    have E5 := hid (And.intro ht5 (And.intro ok5 (And.intro el5 (And.intro hb6 c11))))
    clear ht5 ok5 el5 hb6 c11 k11' f11'
    gi_wp2_with fail
    refine ⟨⟨E5.out.2.2.2.2, S5.out.2.1.below E5.out.2.2.2.1 S5.out.2.1.lt, S5.out.2.2.below E5.out.2.2.2.1 S5.out.2.2.lt⟩, ?_⟩
    refine wpAnyHIn_one (i := 9) rfl (by kernel_rfl) rfl ?_
    gi_wp2_with fail
    refine wpAnyHIn_done (by kernel_rfl) ?_ _
    gi_wp2
    have b56 : Below W.heap.size W W2 := HB5.out.trans (E5.out.2.2.2.1.mono HB5.out.size)
    have hs5 := II.out.2.2.2.2.2
    have hi5 := II.out.2.2.2.2.1
    refine ⟨(keepsFrom_below b56).trans keepsFrom_set, (b56.mono hi5.size).setCell (p := ⟨w2.heap.size, 0, none⟩) (Nat.le_refl _) _, ⟨q5, t5, E5.out.2.2.2.2.set 0 _, ?_, E5.out.2.1, ?_⟩, ?_, ?_⟩
    · exact E5.out.1.set E5.out.2.2.2.2 (by decide) 0 _
    · rw [E5.out.2.2.1, II.out.2.2.2.1, vals_append, ownP_snoc]
    · exact (hi5.trans (b56.mono hi5.size)).setCell (p := ⟨w2.heap.size, 0, none⟩) (Nat.le_refl _) _
    · have := b56.size
      simp [World.setCell]; omega
  case done =>
    rintro D ys W hD hS ⟨⟨q, o, i1, i2, i3, i4⟩, i5, i6⟩ hK
    have k11 : W.cell? ⟨w2.heap.size, 0, none⟩ = some (.pointer q) := by simp [i1.cell]
    have e1 : vals ys = (splitP (splitP t.toList a).2 (a + c)).1 := by
      have h2 := S3.out
      rw [hS, visL_eq 1 1000000 t3 h2.2.2.2.2.2, visP_all _ h2.2.2.2.2.2.good, h2.1, S1.out.2.1]
    have of := ownP_facts g (vals ys) (fun p hp => by simp only [vals, List.mem_map] at hp; obtain ⟨y, _, rfl⟩ := hp; exact y.2)
    have hln : (vals ys).length ≤ 10000002 := by
      have h2 := S3.out
      have h4 := S1.out
      have h3 := HLEN.out
      have h6 := h2.2.2.2.1.1
      rw [h4.2.1] at h6
      have h7 := h4.2.2.2.2
      rw [e1]; omega
    have hlo : o.toList.length ≤ 10000002 := by rw [i4]; omega
    have hl1 : t1.toList.length ≤ 10000001 := by have h4 := S1.out; have h3 := HLEN.out; rw [h4.1]; omega
    have II := hid (And.intro i1 (And.intro i2 (And.intro i3 (And.intro i4 (And.intro i5 (And.intro i6 (And.intro e1 of)))))))
    have HK := hid hK
    have HD := hid hD
    clear i1 i2 i3 i4 i5 i6 e1 of hK
    go_wp2_with fail
    refine (joined_calls t1 o q1 q W (T1'.out.below II.out.2.2.2.2.1) II.out.2.1 T1.out.2.2.1 II.out.2.2.1 (by omega) (by rw [S1.out.1]; exact S1.out.2.2.1.1.toOk)).mono ?_
    rintro e W1 ⟨q5, t5, rfl, ht5, ok5, el5, hb5⟩
    have hi5 := II.out.2.2.2.2.1
    have l5 : t5.toList.length ≤ 20000003 := by rw [el5]; have := joinP_length t1.toList o.toList; omega
    have l6 : t4.toList.length ≤ 10000002 := by
      have h2 := S3.out
      have h4 := S1.out
      have h3 := HLEN.out
      have h8 : t2.toList.length ≤ t.toList.length + 1 := by rw [h4.2.1]; exact h4.2.2.2.2
      rw [h2.2.1]
      have := h2.2.2.2.1.2
      omega
    have hto : ToOk t5.toList := by
      rw [el5, S1.out.1, II.out.2.2.2.1]
      exact joinP_toOk _ _ S1.out.2.2.1.1.toOk II.out.2.2.2.2.2.2.2.2
    have ht4' := (T3.out.2.1.below hi5).below (hb5.mono (Nat.le_refl _))
    have E5 := hid (And.intro ht5 (And.intro ok5 (And.intro el5 (And.intro hb5 (And.intro hto ht4')))))
    clear ht5 ok5 el5 hb5 hto ht4' hi5
    go_wp2_with fail
    refine (joined_calls t5 t4 q5 q4 W1 E5.out.1 E5.out.2.2.2.2.2 E5.out.2.1 T3.out.2.2.2 (by omega) E5.out.2.2.2.2.1).mono ?_
    rintro e W2 ⟨q6, t6, rfl, ht6, ok6, el6, hb6⟩
    have E6 := hid (And.intro ht6 (And.intro ok6 (And.intro el6 hb6)))
    clear ht6 ok6 el6 hb6
    go_wp2
    have hi5 := II.out.2.2.2.2.1
    have b5 := E5.out.2.2.2.1
    have b6 := E6.out.2.2.2
    have hKD : W2.heap[D]? = some (.deferred (some [])) := by
      have hl := (Array.getElem?_eq_some_iff.1 HK.out).1
      rw [b6.block D (by have := b5.size; omega), b5.block D hl]; exact HK.out
    refine ⟨by simp, .inl ⟨_, _, rfl, run_takeDeferred (b := D) (ds := []) hKD, ?_⟩⟩
    refine ⟨_, results_tmp rfl _ _ _, q6, t6, rfl, ?_, E6.out.2.1, ?_, ?_⟩
    · exact treeAt_kept E6.out.1 (grownBy_putObj' W2 D _) (fun r e => by cases e; exact ⟨_, hKD, rfl⟩)
    · rw [E6.out.2.2.1, E5.out.2.2.1, S1.out.1, II.out.2.2.2.1, II.out.2.2.2.2.2.2.1, S3.out.2.1, S1.out.2.1]; rfl
    · have up := UP2.out
      have b7 : Below w.heap.size w W2 := ((up.trans (hi5.mono up.size)).trans (b5.mono (Nat.le_trans up.size hi5.size))).trans (b6.mono (Nat.le_trans (Nat.le_trans up.size hi5.size) b5.size))
      exact b7.trans (belowK_b (w := w3) (by have := B3.out.size; have := up.size; omega) W2 D _ _ HD.out hKD rfl rfl)
  case stop =>
    rintro D k pre W _ _ h _
    exact h.elim
end Go.Proofs.YtepldjidkomclaaGreat.St
namespace Go.Proofs.YtepldjidkomclaaGreat.St
set_option linter.unusedSimpArgs false
set_option linter.unusedVariables false
open Go.RowKit Go.Shelf
def IntsAt (w : World) (v : Value) (xs : List Int) : Prop :=
  xs.length ≤ 1000000000 ∧ ((∃ a cap, v = .slice a 0 cap ∧ xs = []) ∨ ∃ b off cap, v = .slice (some ⟨b, off, none⟩) xs.length cap ∧ b < w.heap.size ∧ ∀ k, k < xs.length → w.cell? ⟨b, off + k, none⟩ = some (.int .i64 (xs[k]?.getD 0)))
theorem IntsAt.below {w w' : World} {v : Value} {xs : List Int} (h : IntsAt w v xs) (hb : Below w.heap.size w w') : IntsAt w' v xs := by
  refine ⟨h.1, h.2.imp id ?_⟩
  rintro ⟨b, off, cap, hv, hlt, hc⟩
  exact ⟨b, off, cap, hv, Nat.lt_of_lt_of_le hlt hb.size, fun k hk => (hb.cell (p := ⟨b, off + k, none⟩) hlt).trans (hc k hk)⟩
def TestsOf (wf : FuncId) (caps : Array Value) (pr : Int → Bool) (w : World) : Prop :=
  ∀ (n : Int) (W : World), Below w.heap.size w W → Calls Tryz.prog wf (#[.int .i64 n] ++ caps) W fun e W' => e = .returned (.bool (pr n)) ∧ Below W.heap.size W W'
def ixOf (pr : Int → Bool) (xs : List Int) : Int := match xs.findIdx? pr with | some i => i | none => -1
theorem ixOf_at (pr : Int → Bool) (xs : List Int) (k : Nat) (hk : k < xs.length) (h : ∀ j, j < k → pr (xs[j]?.getD 0) = false) (hp : pr (xs[k]?.getD 0) = true) : ixOf pr xs = k := by
  have : xs.findIdx? pr = some k := by
    rw [List.findIdx?_eq_some_iff_getElem]
    refine ⟨hk, ?_, fun j hj => ?_⟩
    · simpa [List.getElem?_eq_getElem hk] using hp
    · have := h j hj; simpa [List.getElem?_eq_getElem (Nat.lt_trans hj hk)] using this
  simp [ixOf, this]
theorem ixOf_none (pr : Int → Bool) (xs : List Int) (h : ∀ j, j < xs.length → pr (xs[j]?.getD 0) = false) : ixOf pr xs = -1 := by
  have : xs.findIdx? pr = none := by
    rw [List.findIdx?_eq_none_iff]
    intro x hx
    obtain ⟨j, hj, rfl⟩ := List.getElem_of_mem hx
    have := h j hj
    simpa [List.getElem?_eq_getElem hj] using this
  simp [ixOf, this]
theorem ixOf_ge (pr : Int → Bool) (xs : List Int) : decide (0 ≤ ixOf pr xs) = xs.any pr := by
  unfold ixOf
  cases h : xs.findIdx? pr with
  | none =>
    rw [List.findIdx?_eq_none_iff] at h
    have : xs.any pr = false := by rw [List.any_eq_false]; intro x hx; simp [h x hx]
    simp [this]
  | some i =>
    rw [List.findIdx?_eq_some_iff_getElem] at h
    obtain ⟨hi, hp, _⟩ := h
    have : xs.any pr = true := List.any_eq_true.2 ⟨_, List.getElem_mem hi, hp⟩
    simp [this]
set_option maxRecDepth 100000 in
set_option maxHeartbeats 2000000 in
theorem indexFunc_calls (w : World) (v : Value) (xs : List Int) (hv : IntsAt w v xs) (wf : FuncId) (caps : Array Value) (pr : Int → Bool)
    (hwf : TestsOf wf caps pr w) (eg : ∀ args w, (callFunc wf args).run Tryz.prog w = .ok (.enter wf args) w) :
    Calls Tryz.prog 104 #[v, .func (.func wf) #[] caps] w fun e w' => e = .returned (.int .i64 (ixOf pr xs)) ∧ Below w.heap.size w w' := by
  obtain ⟨hm, ⟨a, cap, rfl, rfl⟩ | ⟨b, off, cap, rfl, hlt, hc⟩⟩ := hv
  · clear hwf eg
    go_enter Tryz.func104, Tryz.ntmps104
    go_wp2
    refine wp_loop_rounds 1 ?_
    rw [rounds_succ]
    go_wp2
    go_ret
    exact ⟨by rw [ixOf_none pr [] (fun j hj => absurd hj (by simp))]; rfl, Below.refl _ _⟩
  · have HW := hid hwf
    have EG := hid eg
    have HC := hid hc
    clear hwf eg hc
    obtain ⟨len, hl⟩ : ∃ len, len = xs.length := ⟨_, rfl⟩
    rw [← hl] at hm ⊢
    have HL := hid hl
    clear hl
    go_enter Tryz.func104, Tryz.ntmps104
    go_wp2
    go_loopw [5, 8] (fun _ i wr => ∃ k : Nat, k ≤ len ∧ i = .int .i64 k ∧ (∀ j, j < k → pr (xs[j]?.getD 0) = false) ∧ Below w.heap.size w wr) (fun _ i _ => len - (intOf i).toNat)
    case atStart => exact ⟨0, Nat.zero_le _, rfl, fun j hj => absurd hj (by omega), Below.refl _ _⟩
    case round =>
      obtain ⟨k, hk, rfl, hno, hb⟩ := hrel
      have HN := hid hno
      have HB := hid hb
      clear hno hb
      by_cases hlk : k < len
      · have c0 : wr.cell? ⟨b, off + k, none⟩ = some (.int .i64 (xs[k]?.getD 0)) := (HB.out.cell (p := ⟨b, off + k, none⟩) hlt).trans (HC.out k (by rw [← HL.out]; exact hlk))
        have eg' := EG.out
        go_wp2_with fail
        refine (HW.out _ _ HB.out).mono ?_
        rintro e w1 ⟨rfl, hb1⟩
        have HB1 := hid hb1
        clear hb1 eg' c0
        cases hp : pr (xs[k]?.getD 0)
        · have HP := hid hp
          clear hp
          go_wp2
          go_roundw
          case rel => exact ⟨k + 1, by omega, by go_num, fun j hj => (by rcases Nat.lt_succ_iff_lt_or_eq.1 hj with h | h; exact HN.out j h; rw [h]; exact HP.out), HB.out.trans (HB1.out.mono HB.out.size)⟩
          case measure => simp [intOf]; omega
        · have HP := hid hp
          clear hp
          go_wp2
          go_ret
          exact ⟨by rw [ixOf_at pr xs k (by rw [← HL.out]; exact hlk) HN.out HP.out]; rfl, HB.out.trans (HB1.out.mono HB.out.size)⟩
      · go_wp2
        go_ret
        exact ⟨by rw [ixOf_none pr xs (fun j hj => HN.out j (by rw [← HL.out] at hj; omega))]; rfl, HB.out⟩
set_option maxHeartbeats 1000000 in
theorem containsFunc_calls (w : World) (v : Value) (xs : List Int) (hv : IntsAt w v xs) (wf : FuncId) (caps : Array Value) (pr : Int → Bool)
    (hwf : TestsOf wf caps pr w) (eg : ∀ args w, (callFunc wf args).run Tryz.prog w = .ok (.enter wf args) w) :
    Calls Tryz.prog 79 #[v, .func (.func wf) #[] caps] w fun e w' => e = .returned (.bool (xs.any pr)) ∧ Below w.heap.size w w' := by
  have H := hid (indexFunc_calls w v xs hv wf caps pr hwf eg)
  have HX := hid (ixOf_ge pr xs)
  clear hv hwf eg
  go_enter Tryz.func79, Tryz.ntmps79
  go_wp2_with fail
  refine H.out.mono ?_
  rintro e w1 ⟨rfl, hb1⟩
  go_wp2
  go_ret
  exact ⟨by rw [← HX.out]; rfl, hb1⟩
def inB (most n : Int) : Bool := decide (1 ≤ n) && decide (n ≤ most)
set_option maxHeartbeats 1000000 in
theorem are1_calls (n most : Int) (B : Nat) (w : World) (h : w.cell? ⟨B, 0, none⟩ = some (.int .i64 most)) :
    Calls Tryz.prog 80 #[.int .i64 n, .pointer (some ⟨B, 0, none⟩)] w fun e w' => e = .returned (.bool (!inB most n)) ∧ Below w.heap.size w w' := by
  by_cases h1 : n < 1
  · go_enter Tryz.func80, Tryz.ntmps80
    go_wp2
    go_ret
    exact ⟨by simp [inB]; omega, Below.refl _ _⟩
  · by_cases h2 : most < n
    · go_enter Tryz.func80, Tryz.ntmps80
      go_wp2
      go_ret
      exact ⟨by simp [inB]; omega, Below.refl _ _⟩
    · go_enter Tryz.func80, Tryz.ntmps80
      go_wp2
      go_ret
      exact ⟨by simp [inB]; omega, Below.refl _ _⟩
set_option maxHeartbeats 1000000 in
theorem are_calls (most : Int) (w : World) (v : Value) (xs : List Int) (hv : IntsAt w v xs) :
    Calls Tryz.prog 36 #[.int .i64 most, v] w fun e w' => e = .returned (.bool (xs.all (inB most))) ∧ Below w.heap.size w w' := by
  have HV := hid hv
  clear hv
  have hmf : ∀ (fn : Fn) (first cap : Array Value) (w : World), (Instr.makeFunc fn first cap).run Tryz.prog w = .ok (.func fn first cap) w := fun _ _ _ _ => rfl
  go_enter Tryz.func36, Tryz.ntmps36
  go_wp2_with fail
  refine (containsFunc_calls _ v xs (HV.out.below ((Below.refl _ _).alloc (Nat.le_refl _) _)) 80 #[.pointer (some ⟨w.heap.size, 0, none⟩)] (fun n => !inB most n) ?_ (enters_of Tryz.func80 (by kernel_rfl) rfl)).mono ?_
  · intro n W hb
    exact are1_calls n most w.heap.size W (by rw [hb.cell (p := ⟨w.heap.size, 0, none⟩) (by simp)]; simp [(Cells.new w #[.int .i64 most] 3).cell])
  · rintro e w1 ⟨rfl, hb1⟩
    go_wp2
    go_ret
    exact ⟨by simp [List.all_eq_not_any_not], Below.trans ((Below.refl _ _).alloc (Nat.le_refl _) _) (hb1.mono (by simp))⟩
end Go.Proofs.YtepldjidkomclaaGreat.St
namespace Go.Proofs.YtepldjidkomclaaGreat.St
set_option linter.unusedSimpArgs false
set_option linter.unusedVariables false
open Go.RowKit Go.Shelf
def okSpan (a c : Int) : Bool := decide (1 ≤ a) && (decide (1 ≤ c) && (decide (a ≤ 1000000) && decide (c ≤ 1000000 - a + 1)))
theorem okSpan_iff (a c : Int) : okSpan a c = true ↔ 1 ≤ a ∧ 1 ≤ c ∧ a + c - 1 ≤ 1000000 := by
  simp [okSpan]; omega
set_option maxHeartbeats 1000000 in
theorem isSpan_calls (a c : Int) (w : World) :
    Calls Tryz.prog 35 #[.agg #[.int .i64 a, .int .i64 c]] w fun e w' => e = .returned (.bool (okSpan a c)) ∧ Below w.heap.size w w' := by
  by_cases h1 : 1 ≤ a
  · by_cases h2 : 1 ≤ c
    · by_cases h3 : a ≤ 1000000
      · have hw1 : IntKind.i64.wrap (1000000 - a) = 1000000 - a := IntWalk.i64_in _ (by omega)
        have hw2 : IntKind.i64.wrap (1000000 - a + 1) = 1000000 - a + 1 := IntWalk.i64_in _ (by omega)
        by_cases h4 : c ≤ 1000000 - a + 1
        · have e : okSpan a c = true := (okSpan_iff a c).2 (by omega)
          rw [e]
          go_enter Tryz.func35, Tryz.ntmps35
          go_wp2
          go_ret
          exact ⟨rfl, Below.alloc (Below.refl _ _) (Nat.le_refl _) _⟩
        · have e : okSpan a c = false := by rw [Bool.eq_false_iff]; intro h; exact h4 (by have := (okSpan_iff a c).1 h; omega)
          rw [e]
          go_enter Tryz.func35, Tryz.ntmps35
          go_wp2
          go_ret
          exact ⟨rfl, Below.alloc (Below.refl _ _) (Nat.le_refl _) _⟩
      · have e : okSpan a c = false := by rw [Bool.eq_false_iff]; intro h; exact h3 (by have := (okSpan_iff a c).1 h; omega)
        rw [e]
        go_enter Tryz.func35, Tryz.ntmps35
        go_wp2
        go_ret
        exact ⟨rfl, Below.alloc (Below.refl _ _) (Nat.le_refl _) _⟩
    · have e : okSpan a c = false := by rw [Bool.eq_false_iff]; intro h; exact h2 (by have := (okSpan_iff a c).1 h; omega)
      rw [e]
      go_enter Tryz.func35, Tryz.ntmps35
      go_wp2
      go_ret
      exact ⟨rfl, Below.alloc (Below.refl _ _) (Nat.le_refl _) _⟩
  · have e : okSpan a c = false := by rw [Bool.eq_false_iff]; intro h; exact h1 (by have := (okSpan_iff a c).1 h; omega)
    rw [e]
    go_enter Tryz.func35, Tryz.ntmps35
    go_wp2
    go_ret
    exact ⟨rfl, Below.alloc (Below.refl _ _) (Nat.le_refl _) _⟩
def enterE (c : Cl) : Int := if c.state ≠ 0 then 5 else 0
def ownedE (o : Int) (c : Cl) : Int := if c.state ≠ 1 then 4 else if c.owner ≠ o then 8 else if c.holder ≠ 0 then 10 else 0
set_option maxHeartbeats 1000000 in
theorem enter1_calls (c : Cl) (w : World) :
    Calls Tryz.prog 38 #[c.val] w fun e w' => e = .returned (.int .i64 (enterE c)) ∧ Below w.heap.size w w' := by
  by_cases h : c.state = 0
  · have hb : (c.state != 0) = false := by simp [h]
    have e : enterE c = 0 := by simp [enterE, h]
    rw [e]
    go_enter Tryz.func38, Tryz.ntmps38
    go_wp2
    go_ret
    exact ⟨rfl, Below.alloc (Below.refl _ _) (Nat.le_refl _) _⟩
  · have hb : (c.state != 0) = true := by simp [h]
    have e : enterE c = 5 := by simp [enterE, h]
    rw [e]
    go_enter Tryz.func38, Tryz.ntmps38
    go_wp2
    go_ret
    exact ⟨rfl, Below.alloc (Below.refl _ _) (Nat.le_refl _) _⟩
set_option maxHeartbeats 2000000 in
theorem owned1_calls (c : Cl) (o : Int) (B : Nat) (w : World) (h0 : w.cell? ⟨B, 0, none⟩ = some (.int .i64 o)) :
    Calls Tryz.prog 84 #[c.val, .pointer (some ⟨B, 0, none⟩)] w fun e w' => e = .returned (.int .i64 (ownedE o c)) ∧ Below w.heap.size w w' := by
  have hlt := World.block_lt_of_cell? _ _ h0
  by_cases h : c.state = 1
  · have hb : (c.state != 1) = false := by simp [h]
    by_cases h2 : c.owner = o
    · have hb2 : (c.owner != o) = false := by simp [h2]
      by_cases h3 : c.holder = 0
      · have hb3 : (c.holder != 0) = false := by simp [h3]
        have e : ownedE o c = 0 := by simp [ownedE, h, h2, h3]
        rw [e]
        clear h h2 h3
        go_enter Tryz.func84, Tryz.ntmps84
        go_wp2
        go_ret
        exact ⟨rfl, Below.alloc (Below.refl _ _) (Nat.le_refl _) _⟩
      · have hb3 : (c.holder != 0) = true := by simp [h3]
        have e : ownedE o c = 10 := by simp [ownedE, h, h2, h3]
        rw [e]
        clear h h2 h3
        go_enter Tryz.func84, Tryz.ntmps84
        go_wp2
        go_ret
        exact ⟨rfl, Below.alloc (Below.refl _ _) (Nat.le_refl _) _⟩
    · have hb2 : (c.owner != o) = true := by simp [h2]
      have e : ownedE o c = 8 := by simp [ownedE, h, h2]
      rw [e]
      clear h h2
      go_enter Tryz.func84, Tryz.ntmps84
      go_wp2
      go_ret
      exact ⟨rfl, Below.alloc (Below.refl _ _) (Nat.le_refl _) _⟩
  · have hb : (c.state != 1) = true := by simp [h]
    have e : ownedE o c = 4 := by simp [ownedE, h]
    rw [e]
    clear h
    go_enter Tryz.func84, Tryz.ntmps84
    go_wp2
    go_ret
    exact ⟨rfl, Below.alloc (Below.refl _ _) (Nat.le_refl _) _⟩
def enterG (lot owner : Int) (_ : Cl) : Cl := ⟨1, lot, owner, 0⟩
def moveG (to : Int) (c : Cl) : Cl := { c with owner := to }
set_option maxHeartbeats 1000000 in
theorem enter2_calls (c : Cl) (lot owner : Int) (B C : Nat) (w : World) (h0 : w.cell? ⟨B, 0, none⟩ = some (.int .i64 lot)) (h1 : w.cell? ⟨C, 0, none⟩ = some (.int .i64 owner)) :
    Calls Tryz.prog 40 #[c.val, .pointer (some ⟨B, 0, none⟩), .pointer (some ⟨C, 0, none⟩)] w fun e w' => e = .returned (enterG lot owner c).val ∧ Below w.heap.size w w' := by
  have hlt := World.block_lt_of_cell? _ _ h0
  have hlt1 := World.block_lt_of_cell? _ _ h1
  go_enter Tryz.func40, Tryz.ntmps40
  go_wp2
  have l1 : w.heap.size < w.heap.size + 1 + 1 := by omega
  refine bodyPost_ret (v := (enterG lot owner c).val) (by simp [results, Tryz.results40, go_sem, enterG]) rfl ⟨rfl, ?_⟩
  repeat (first | exact Below.refl _ _ | refine Below.setCell ?_ (by simp; try omega) _ | refine Below.alloc ?_ (by simp; try omega) _)
end Go.Proofs.YtepldjidkomclaaGreat.St
namespace Go.Proofs.YtepldjidkomclaaGreat.St
set_option linter.unusedSimpArgs false
set_option linter.unusedVariables false
open Go.RowKit Go.Shelf
attribute [local go_sem] Oper.semAt_some
set_option maxHeartbeats 1000000 in
theorem move1_calls (c : Cl) (o : Int) (B : Nat) (w : World) (h0 : w.cell? ⟨B, 0, none⟩ = some (.int .i64 o)) :
    Calls Tryz.prog 46 #[c.val, .pointer (some ⟨B, 0, none⟩)] w fun e w' => e = .returned (moveG o c).val ∧ Below w.heap.size w w' := by
  have hlt := World.block_lt_of_cell? _ _ h0
  have l1 : w.heap.size < w.heap.size + 1 + 1 := by omega
  go_enter Tryz.func46, Tryz.ntmps46
  go_wp2
  refine bodyPost_ret (v := (moveG o c).val) (by simp [results, Tryz.results46, go_sem, moveG]) rfl ⟨rfl, ?_⟩
  repeat (first | exact Below.refl _ _ | refine Below.setCell ?_ (by simp; try omega) _ | refine Below.alloc ?_ (by simp; try omega) _)
theorem new_cell1 (w : World) (x : Value) (ty : TypeId) : (w.alloc (.cells #[x] ty)).cell? ⟨w.heap.size, 0, none⟩ = some x := by simp [(Cells.new w #[x] ty).cell]
set_option maxHeartbeats 1000000 in
theorem owned_calls (w : World) (sB : Nat) (t : T) (hs : NowAt w sB t) (hg : t.Good) (a c : Int) (hac : 1 ≤ a ∧ 1 ≤ c ∧ a + c - 1 ≤ 1000000) (o : Int) :
    Calls Tryz.prog 45 #[.pointer (some ⟨sB, 0, none⟩), .agg #[.int .i64 a, .int .i64 c], .int .i64 o] w fun e w' =>
      e = .returned (.int .i64 (firstE (ownedE o) (visL t a (a + c - 1)))) ∧ Below w.heap.size w w' := by
  have HS := hid hs
  clear hs
  have hmf : ∀ (fn : Fn) (first cap : Array Value) (w : World), (Instr.makeFunc fn first cap).run Tryz.prog w = .ok (.func fn first cap) w := fun _ _ _ _ => rfl
  have l1 : w.heap.size < w.heap.size + 1 + 1 := by omega
  go_enter Tryz.func45, Tryz.ntmps45
  go_wp2_with fail
  have hB : Below w.heap.size w ((w.alloc (.cells #[.int .i64 a, .int .i64 c] 56)).alloc (.cells #[.int .i64 o] 3)) := ((Below.refl _ _).alloc (Nat.le_refl _) _).alloc (by simp) _
  refine (each_calls _ sB t (HS.out.below hB) hg a c hac 84 #[.pointer (some ⟨w.heap.size + 1, 0, none⟩)] (ownedE o) ?_ (enters_of Tryz.func84 (by kernel_rfl) rfl)).mono ?_
  · intro d W hb
    refine owned1_calls d o (w.heap.size + 1) W ?_
    rw [hb.cell (p := ⟨w.heap.size + 1, 0, none⟩) (by simp)]
    have := new_cell1 (w.alloc (.cells #[.int .i64 a, .int .i64 c] 56)) (.int .i64 o) 3
    rwa [World.size_alloc] at this
  · rintro e w1 ⟨rfl, hb1⟩
    go_wp2
    go_ret
    exact ⟨rfl, hB.trans (hb1.mono hB.size)⟩
set_option maxHeartbeats 1000000 in
theorem version_calls (w : World) (sB : Nat) (v : Value) (n cap : Nat) (p : Option Addr) (hn : n ≤ 1000000000) (h0 : w.cell? ⟨sB, 0, none⟩ = some (.slice p n cap)) : Calls Tryz.prog 19 #[.pointer (some ⟨sB, 0, none⟩)] w fun e w' => e = .returned (.int .i64 (n - 1)) ∧ w' = w := by
  have hlt := World.block_lt_of_cell? _ _ h0
  have hw1 : IntKind.i64.wrap ((n : Int) - 1) = n - 1 := IntWalk.i64_in _ (by omega)
  go_enter Tryz.func19, Tryz.ntmps19
  go_wp2
  go_ret
  exact ⟨rfl, rfl⟩
end Go.Proofs.YtepldjidkomclaaGreat.St
namespace Go.Proofs.YtepldjidkomclaaGreat.St
set_option linter.unusedSimpArgs false
set_option linter.unusedVariables false
open Go.RowKit Go.Shelf
attribute [local go_sem] Oper.semAt_some
attribute [local go_sem ↓] Go.wp_at_zero Go.wp_at_succ
structure Turned (sB vB : Nat) (w w' : World) : Prop where
  os : w'.os = w.os
  tape : w'.tape = w.tape
  output : w'.output = w.output
  size : w.heap.size ≤ w'.heap.size
  block : ∀ k, k < w.heap.size → k ≠ sB → k ≠ vB → w'.heap[k]? = w.heap[k]?
theorem Turned.of_below {sB vB : Nat} {w w' : World} (h : Below w.heap.size w w') : Turned sB vB w w' := ⟨h.os, h.tape, h.output, h.size, fun k hk _ _ => h.block k hk⟩
structure StAt (w : World) (sB vB : Nat) (vs : List T) : Prop where
  full : vs ≠ []
  at_ : ∃ (cap : Nat) (ps : List (Option Addr)), Cells w sB #[.slice (some ⟨vB, 0, none⟩) vs.length cap] 100 ∧
    w.ownsRow 0 90 1 (.slice (some ⟨vB, 0, none⟩) vs.length cap) vs.length (ps.map Value.pointer) ∧ (∀ k, k < vs.length → TreeAt w (ps[k]?.getD none) (vs[k]?.getD .nil))
theorem ownsRow_block {w : World} {e : TypeId} {vB n cap : Nat} {xs : List Value} (h : w.ownsRow 0 e 1 (.slice (some ⟨vB, 0, none⟩) n cap) n xs) : ∃ cur, Cells w vB cur e := by
  rcases h.2 with ⟨h, _⟩ | ⟨g, c, cur, h, _, hc, _⟩
  · cases h
  · injection h with h1 h2 h3
    injection h1 with h1
    injection h1 with h1 h4
    subst h1
    exact ⟨cur, hc⟩
theorem ownsRow_keep {w w' : World} {e : TypeId} {vB n cap : Nat} {xs : List Value} (h : w.ownsRow 0 e 1 (.slice (some ⟨vB, 0, none⟩) n cap) n xs) (hb : w'.heap[vB]? = w.heap[vB]?) : w'.ownsRow 0 e 1 (.slice (some ⟨vB, 0, none⟩) n cap) n xs := by
  refine ⟨h.1, h.2.imp id ?_⟩
  rintro ⟨g, c, cur, h1, h2, h3, h4⟩
  refine ⟨g, c, cur, h1, h2, ?_, h4⟩
  have : g = vB := by injection h1 with h1; injection h1 with h1; injection h1 with h1; exact h1.symm
  subst this
  exact hb.trans h3
theorem StAt.lt {w : World} {sB vB : Nat} {vs : List T} (h : StAt w sB vB vs) : sB < w.heap.size ∧ vB < w.heap.size := by
  obtain ⟨cap, ps, hc, ho, _⟩ := h.at_
  obtain ⟨cur, hv⟩ := ownsRow_block ho
  exact ⟨hc.lt, hv.lt⟩
theorem StAt.keep {w w' : World} {sB vB : Nat} {vs : List T} (h : StAt w sB vB vs) (hs : w'.heap[sB]? = w.heap[sB]?) (hv : w'.heap[vB]? = w.heap[vB]?)
    (hk : ∀ (b : Nat) (cs : Array Value), w.heap[b]? = some (Obj.cells cs 156) → w'.heap[b]? = w.heap[b]?) : StAt w' sB vB vs := by
  obtain ⟨cap, ps, hc, ho, ht⟩ := h.at_
  exact ⟨h.full, cap, ps, hs.trans hc, ownsRow_keep ho hv, fun k hk' => (ht k hk').keepT hk⟩
theorem StAt.below {w w' : World} {sB vB : Nat} {vs : List T} (h : StAt w sB vB vs) (hb : Below w.heap.size w w') : StAt w' sB vB vs :=
  h.keep (hb.block _ h.lt.1) (hb.block _ h.lt.2) fun b cs hh => hb.block b (Array.getElem?_eq_some_iff.1 hh).1
theorem cells_type {w : World} {b : Nat} {cs cs' : Array Value} {t t' : TypeId} (h : Cells w b cs t) (h' : w.heap[b]? = some (Obj.cells cs' t')) : t = t' := by
  have := (show w.heap[b]? = _ from h).symm.trans h'
  simp at this
  exact this.2
theorem StAt.turned {w w' : World} {sB vB rB uB : Nat} {vs us : List T} (h : StAt w sB vB vs) (o : StAt w rB uB us) (ht : Turned rB uB w w') (h1 : sB ≠ rB) (h2 : vB ≠ uB) : StAt w' sB vB vs := by
  obtain ⟨cap, ps, hc, ho, _⟩ := h.at_
  obtain ⟨cap', ps', hc', ho', _⟩ := o.at_
  obtain ⟨cur, hv⟩ := ownsRow_block ho
  obtain ⟨cur', hv'⟩ := ownsRow_block ho'
  refine h.keep (ht.block _ hc.lt h1 ?_) (ht.block _ hv.lt ?_ h2) fun b cs hh => ht.block b (Array.getElem?_eq_some_iff.1 hh).1 ?_ ?_
  · rintro rfl; exact absurd (cells_type hc hv') (by decide)
  · rintro rfl; exact absurd (cells_type hv hc') (by decide)
  · rintro rfl; exact absurd (cells_type hc' hh) (by decide)
  · rintro rfl; exact absurd (cells_type hv' hh) (by decide)
theorem StAt.now {w : World} {sB vB : Nat} {vs : List T} (h : StAt w sB vB vs) (hn : vs.length ≤ 1000000) : NowAt w sB (vs.getLast h.full) := by
  obtain ⟨cap, ps, hc, ho, ht⟩ := h.at_
  have hpos : 0 < vs.length := List.length_pos_iff.2 h.full
  have hl : ps.length = vs.length := by have := ho.1; simpa using this
  refine ⟨vB, vs.length - 1, cap, ps[vs.length - 1]?.getD none, ?_, by omega, ?_, ?_⟩
  · rw [show vs.length - 1 + 1 = vs.length by omega]; exact hc
  · have hx := ho.cells (g := vB) rfl (vs.length - 1) (.pointer (ps[vs.length - 1]?.getD none)) (by
      rw [List.getElem?_map, List.getElem?_eq_getElem (by omega)]; rfl)
    have ha : (⟨vB, 0, none⟩ : Addr).add (vs.length - 1) = ⟨vB, vs.length - 1, none⟩ := by unfold Addr.add; split <;> simp_all
    rw [ha] at hx
    exact hx
  · have := ht (vs.length - 1) (by omega)
    rw [List.getElem?_eq_getElem (l := vs) (by omega)] at this
    rw [List.getLast_eq_getElem]
    exact this
end Go.Proofs.YtepldjidkomclaaGreat.St
namespace Go.Proofs.YtepldjidkomclaaGreat.St
set_option linter.unusedSimpArgs false
set_option linter.unusedVariables false
open Go.RowKit Go.Shelf
section
variable {P : Program} {ops : Array Oper} {F : Fence} {n : Nat} {md : Region.Mode} {C : World → Prop}
theorem wpIn_of_quietF (hF : Free F P) {o : Oper} {a : Act} {K : Act → Prop} {K' : Act → World → Prop} {Q' : Exit → Act → World → Prop} {w : World} (hw : C w) (h : ∀ a w', C w' → K a → K' a w') (hh : o.quiet P a C K) : o.wpIn F n P a w K' Q' := by
  obtain ⟨v, h1, h2⟩ := hh
  have h3 := h1 w hw
  unfold Oper.quietAt at h3
  have hnd : ∀ c, o.op ≠ .defer c := by
    intro c hc
    unfold execOp at h3
    rw [hc] at h3
    simp only [Sem.run_bind] at h3
    cases hr : (resolve a.eval c o.type).run P w with
    | ok d w' => rw [hr] at h3; simp [Result.andThen, Sem.run, Oper.quietUpon] at h3
    | halt x w' => rw [hr] at h3; simp [Result.andThen, Oper.quietUpon] at h3
  refine ⟨fun f _ => hF.fn f, ?_⟩
  rw [semAt_of hnd]
  generalize (execOp a.eval o).run P w = r at *
  cases r with
  | ok nx w' =>
    cases nx <;> simp only [Oper.quietUpon] at h3 <;> simp only [Oper.uponIn]
    case value u =>
      obtain ⟨e1, e2⟩ := h3
      rw [e1, e2]
      exact h _ _ hw h2
    case skip =>
      obtain ⟨e1, e2⟩ := h3
      rw [e1, ← e2]
      exact h _ _ hw h2
    case enter f args =>
      obtain ⟨e1, hc⟩ := h3
      rw [e1]
      refine ⟨fun hd => (by rw [hF.depth] at hd; cases hd), hF.calls _ _ _ _ _ (hc.mono fun e w'' ⟨he, hw''⟩ => by subst he; exact h _ _ hw'' h2)⟩
  | halt x w' => simp only [Oper.quietUpon] at h3
theorem wpOpIn_of_qOp (hF : Free F P) {i : Nat} {a : Act} {K : Act → Prop} {K' : Act → World → Prop} {Q' : Exit → Act → World → Prop} {w : World} (hC : C w) (h : ∀ a w', C w' → K a → K' a w') (hh : qOp P ops C i K a) : wpOpIn F n P ops Q' i K' a w := by
  unfold qOp at hh
  unfold wpOpIn
  split
  · rename_i ho; simp only [ho] at hh; exact h _ _ hC hh
  · rename_i o ho
    simp only [ho] at hh
    split
    · rename_i hw; simp only [hw, if_true] at hh; exact wpIn_of_quietF hF hC h hh
    · rename_i hw; simp only [hw] at hh; exact ⟨fun f _ => hF.fn f, h _ _ hC hh⟩
theorem wpAnyIn_of_quietF (hF : Free F P) {Q : Act → Prop} {Q' : Exit → Act → World → Prop} (hQ : ∀ a w, C w → Q a → Q' .normal a w) : ∀ (fuel : Nat) (listed : Array Bool) (a : Act) (w : World), C w →
    wpAnyQ P md ops C Q fuel listed a → wpAnyIn F n P md ops Q' fuel listed a w
  | 0, _, _, _, hw, h => ⟨h.1, hQ _ _ hw h.2⟩
  | fuel + 1, _, _, _, hw, h => ⟨fun h0 => hQ _ _ hw (h.1 h0), fun i hi => wpOpIn_of_qOp hF hw (fun a' w' hw' => wpAnyIn_of_quietF hF hQ fuel _ a' w' hw') (h.2 i hi)⟩
theorem wpIn_region_quietF (hF : Free F P) {id : Nat} {Q : Exit → Act → World → Prop} {a : Act} {w : World} {l : List Oper} (hm : P.follows .mixedOrders = true) (hB : Region.lexB .any l.toArray = true)
    (h : wpQuiet P l.toArray (fun w' => ∃ n, w' = w.drewN n) (fun a' => ∀ w', (∃ n, w' = w.drewN n) → Q .normal a' w') l a) : (Code.region id l.toArray true).wpIn F n P Q a w := by
  simp only [Region.lexB, Bool.and_eq_true] at hB
  refine wpIn_region_any hm (wpAnyIn_of_quietF (C := fun w' => ∃ n, w' = w.drewN n) hF (Q := fun a' => ∀ w', (∃ n, w' = w.drewN n) → Q .normal a' w') (fun _ w' hw' h => h w' hw') _ _ _ _ ⟨1, rfl⟩ ?_)
  have := wpAnyQ_lex (C := fun w' => ∃ n, w' = w.drewN n) (md := .any) hB.1 l 0 (Array.replicate l.toArray.size false) a (by simp) (by simpa using hB.2) h
  simpa using this
end
end Go.Proofs.YtepldjidkomclaaGreat.St
namespace Go.Proofs.YtepldjidkomclaaGreat.St
set_option linter.unusedSimpArgs false
set_option linter.unusedVariables false
open Go.RowKit Go.Shelf
attribute [local go_sem] Oper.semAt_some
def PairsAt (w : World) (v : Value) (xs : List (Int × Int)) : Prop :=
  xs.length ≤ 1000000000 ∧ ((∃ a cap, v = .slice a 0 cap ∧ xs = []) ∨ ∃ b off cap, v = .slice (some ⟨b, off, none⟩) xs.length cap ∧ b < w.heap.size ∧
    ∀ k, k < xs.length → w.cell? ⟨b, off + k * 2, none⟩ = some (.int .i64 (xs[k]?.getD (0, 0)).1) ∧ w.cell? ⟨b, off + k * 2 + 1, none⟩ = some (.int .i64 (xs[k]?.getD (0, 0)).2))
theorem PairsAt.below {w w' : World} {v : Value} {xs : List (Int × Int)} (h : PairsAt w v xs) (hb : Below w.heap.size w w') : PairsAt w' v xs := by
  refine ⟨h.1, h.2.imp id ?_⟩
  rintro ⟨b, off, cap, hv, hlt, hc⟩
  exact ⟨b, off, cap, hv, Nat.lt_of_lt_of_le hlt hb.size, fun k hk => ⟨(hb.cell (p := ⟨b, off + k * 2, none⟩) hlt).trans (hc k hk).1, (hb.cell (p := ⟨b, off + k * 2 + 1, none⟩) hlt).trans (hc k hk).2⟩⟩
def okT (x : Int × Int) : Prop := 1 ≤ x.1 ∧ x.1 ≤ 1000000000 ∧ 0 ≤ x.2 ∧ x.2 ≤ 3000
instance (x : Int × Int) : Decidable (okT x) := by unfold okT; infer_instance
end Go.Proofs.YtepldjidkomclaaGreat.St
