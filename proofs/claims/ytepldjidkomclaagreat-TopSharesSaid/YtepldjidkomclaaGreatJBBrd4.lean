/- The parts of a board in memory, and how they change. No function of the program in sight. tell, take, add, and the map's changes, in terms of a board's parts; board.trade. board.trade. board.rest. board.comeIn. -/
import Derived.Test.YtepldjidkomclaaGreatJBPure
namespace Go.Proofs.YtepldjidkomclaaGreat.Bo
set_option linter.unusedSimpArgs false
set_option linter.unusedVariables false
open Go.RowKit Go.Shelf
structure PtC (O : Nat → Nat) (q : Nat) (w : World) (b : Nat) (G : Mm) (nums last : Int) (evs : List Ev) (m : List (Int × Nat)) : Prop where
  top : TopC O (q + 3) w b G.hb G.hs G.mb G.wt nums last evs
  buy : HlfC O (q + 1) w G.hb 1 G.lb G.en
  sell : HlfC O (q + 2) w G.hs 2 G.ls G.en
  map : MpC O (q + 6) w G.mb m
  wait : WtC O (q + 4) w G.wt G.en
theorem PtC.step {C : Nat → Prop} {O O' : Nat → Nat} {q : Nat} {w w' : World} {b : Nat} {G : Mm} {nums last : Int} {evs : List Ev} {m : List (Int × Nat)} (h : PtC O q w b G nums last evs m) (s : Step C O w O' w') (hc : ∀ x, colB q x → x ≠ q + 5 → ¬ C x) : PtC O' q w' b G nums last evs m :=
  ⟨h.top.step s (hc _ ⟨by omega, by omega⟩ (by omega)), h.buy.step s (hc _ ⟨by omega, by omega⟩ (by omega)) (fun _ _ => rfl), h.sell.step s (hc _ ⟨by omega, by omega⟩ (by omega)) (fun _ _ => rfl), h.map.step s (hc _ ⟨by omega, by omega⟩ (by omega)), h.wait.step s (hc _ ⟨by omega, by omega⟩ (by omega)) (fun _ _ => rfl)⟩
theorem PtC.below {O : Nat → Nat} {q : Nat} {w w' : World} {b : Nat} {G : Mm} {nums last : Int} {evs : List Ev} {m : List (Int × Nat)} (h : PtC O q w b G nums last evs m) (hb : Below w.heap.size w w') : PtC O q w' b G nums last evs m := h.step (Step.of_below hb (fun _ => False)) (fun _ _ _ => not_false)
theorem HdC.below {O : Nat → Nat} {c : Nat} {w w' : World} {X : Nat} {e : En} {b : Bool} (h : HdC O c w X e b) (hb : Below w.heap.size w w') : HdC O c w' X e b := h.step (Step.of_below hb (fun _ => False)) not_false
theorem PtC.side {O : Nat → Nat} {q : Nat} {w : World} {b : Nat} {G : Mm} {nums last : Int} {evs : List Ev} {m : List (Int × Nat)} (h : PtC O q w b G nums last evs m) {s : Int} (hs : s = 1 ∨ s = 2) : HlfC O (colS q s) w (G.H s) s (G.L s) G.en := by
  rcases hs with rfl | rfl
  · exact h.buy
  · exact h.sell
theorem BdC.parts {O : Nat → Nat} {q : Nat} {w : World} {b : Nat} {G : Mm} {nums last : Int} {evs : List Ev} (h : BdC O q w b G nums last evs) : PtC O q w b G nums last evs (prs G.en G.live) := ⟨h.top, h.buy, h.sell, h.map, h.wait⟩
theorem PtC.board {O : Nat → Nat} {q : Nat} {w : World} {b : Nat} {G : Mm} {nums last : Int} {evs : List Ev} (h : PtC O q w b G nums last evs (prs G.en G.live)) (ok : BdOk (G.bd nums last)) (few : G.live.length ≤ 4096) : BdC O q w b G nums last evs := ⟨h.top, h.buy, h.sell, h.map, h.wait, ok, few⟩
def Mm.put (G : Mm) (s : Int) (ls : List Lv) (en : Nat → En) : Mm := if s = 1 then { G with lb := ls, en := en } else { G with ls := ls, en := en }
structure SameB (s : Int) (G G' : Mm) : Prop where
  hb : G'.hb = G.hb
  hs : G'.hs = G.hs
  mb : G'.mb = G.mb
  wt : G'.wt = G.wt
  far : G'.L (3 - s) = G.L (3 - s)
  enF : ∀ E ∈ ensL (G.L (3 - s)), G'.en E = G.en E
  enW : ∀ E ∈ G.wt, G'.en E = G.en E
theorem SameB.refl (s : Int) (G : Mm) : SameB s G G := ⟨rfl, rfl, rfl, rfl, rfl, fun _ _ => rfl, fun _ _ => rfl⟩
theorem SameB.trans {s : Int} {G G' G'' : Mm} (h : SameB s G G') (g : SameB s G' G'') : SameB s G G'' :=
  ⟨g.hb.trans h.hb, g.hs.trans h.hs, g.mb.trans h.mb, g.wt.trans h.wt, g.far.trans h.far, fun E hE => (g.enF E (by rw [h.far]; exact hE)).trans (h.enF E hE), fun E hE => (g.enW E (by rw [h.wt]; exact hE)).trans (h.enW E hE)⟩
theorem SameB.H {s t : Int} {G G' : Mm} (h : SameB s G G') : G'.H t = G.H t := by unfold Mm.H; rw [h.hb, h.hs]
theorem SameB.plainF {s : Int} {G G' : Mm} (h : SameB s G G') : plainH (G'.L (3 - s)) G'.en = plainH (G.L (3 - s)) G.en := by rw [h.far]; exact plainH_congr h.enF
theorem SameB.plainW {s : Int} {G G' : Mm} (h : SameB s G G') : G'.wt.map G'.en = G.wt.map G.en := by rw [h.wt]; exact List.map_congr_left h.enW
theorem Mm.put_same {s : Int} (hs : s = 1 ∨ s = 2) (G : Mm) (ls : List Lv) (en : Nat → En) (h1 : ∀ E ∈ ensL (G.L (3 - s)), en E = G.en E) (h2 : ∀ E ∈ G.wt, en E = G.en E) : SameB s G (G.put s ls en) ∧ (G.put s ls en).L s = ls ∧ (G.put s ls en).en = en := by
  rcases hs with rfl | rfl
  · exact ⟨⟨rfl, rfl, rfl, rfl, rfl, h1, h2⟩, rfl, rfl⟩
  · exact ⟨⟨rfl, rfl, rfl, rfl, rfl, h1, h2⟩, rfl, rfl⟩
theorem Mm.put_live {s : Int} (hs : s = 1 ∨ s = 2) (G : Mm) (ls : List Lv) (en : Nat → En) : G.live.Perm (ensL (G.L s) ++ (ensL (G.L (3 - s)) ++ G.wt)) ∧ (G.put s ls en).live.Perm (ensL ls ++ (ensL (G.L (3 - s)) ++ G.wt)) := by
  rcases hs with rfl | rfl
  · exact ⟨List.Perm.refl _, List.Perm.refl _⟩
  · refine ⟨?_, ?_⟩
    · show (ensL G.lb ++ (ensL G.ls ++ G.wt)).Perm (ensL G.ls ++ (ensL G.lb ++ G.wt))
      rw [← List.append_assoc, ← List.append_assoc]
      exact (List.perm_append_comm).append_right _
    · show (ensL G.lb ++ (ensL ls ++ G.wt)).Perm (ensL ls ++ (ensL G.lb ++ G.wt))
      rw [← List.append_assoc, ← List.append_assoc]
      exact (List.perm_append_comm).append_right _
theorem colS_ne (q : Nat) {s : Int} (hs : s = 1 ∨ s = 2) : colS q (3 - s) ≠ colS q s ∧ colS q s ≠ q + 3 ∧ colS q s ≠ q + 4 ∧ colS q s ≠ q + 5 ∧ colS q s ≠ q + 6 := by rcases hs with rfl | rfl <;> simp [colS]
theorem PtC.putSide {O O' : Nat → Nat} {q : Nat} {w w' : World} {b : Nat} {G : Mm} {nums last : Int} {evs : List Ev} {m : List (Int × Nat)} (h : PtC O q w b G nums last evs m) {s : Int} (hs : s = 1 ∨ s = 2) (st : Step (fun x => x = colS q s) O w O' w') {ls : List Lv} {en : Nat → En}
    (hl : HlfC O' (colS q s) w' (G.H s) s ls en) (h1 : ∀ E ∈ ensL (G.L (3 - s)), en E = G.en E) (h2 : ∀ E ∈ G.wt, en E = G.en E) : PtC O' q w' b (G.put s ls en) nums last evs m := by
  obtain ⟨c1, c2, c3, c4, c5⟩ := colS_ne q hs
  have t := h.top.step st (fun e => c2 e.symm)
  have mp := h.map.step st (fun e => c5 e.symm)
  have wt := h.wait.step st (fun e => c3 e.symm) h2
  rcases hs with rfl | rfl
  · exact ⟨t, hl, h.sell.step st (by simp [colS]) h1, mp, wt⟩
  · exact ⟨t, h.buy.step st (by simp [colS]) h1, hl, mp, wt⟩
theorem PtC.enF {O : Nat → Nat} {q : Nat} {w : World} {b : Nat} {G : Mm} {nums last : Int} {evs : List Ev} {m : List (Int × Nat)} (h : PtC O q w b G nums last evs m) {s : Int} (hs : s = 1 ∨ s = 2) {Y : Nat} (hY : O Y = colS q s) (e : En) : (∀ E ∈ ensL (G.L (3 - s)), setEn G.en Y e E = G.en E) ∧ ∀ E ∈ G.wt, setEn G.en Y e E = G.en E := by
  obtain ⟨c1, c2, c3, c4, c5⟩ := colS_ne q hs
  refine ⟨fun E hE => setEn_far _ _ (fun e => ?_), fun E hE => setEn_far _ _ (fun e => ?_)⟩
  · have := ((h.side (other_side hs)).entry hE).1
    rw [e, hY] at this
    exact c1 this.symm
  · have := (h.wait.ent E hE).1
    rw [e, hY] at this
    exact c3 this
theorem prs_congr {en en' : Nat → En} {l : List Nat} (h : ∀ E ∈ l, (en' E).n = (en E).n) : prs en' l = prs en l := List.map_congr_left fun E hE => by rw [h E hE]
theorem prs_perm (en : Nat → En) {l m : List Nat} (h : l.Perm m) : (prs en l).Perm (prs en m) := h.map _
theorem setEn_n (en : Nat → En) (Y : Nat) (e : En) (h : e.n = (en Y).n) (E : Nat) : (setEn en Y e E).n = (en E).n := by
  unfold setEn
  split
  · rename_i hE; rw [h, hE]
  · rfl
theorem TopC.setLast {O : Nat → Nat} {c : Nat} {w : World} {b hb hs mb : Nat} {wt : List Nat} {nums last : Int} {evs : List Ev} (h : TopC O c w b hb hs mb wt nums last evs) (l : Int) : TopC O c (w.setCell ⟨b, 6, none⟩ (.int .i64 l)) b hb hs mb wt nums l evs := by
  obtain ⟨vw, ve, h1, h2, h3, h4, h5⟩ := h.cell
  exact ⟨⟨vw, ve, h1.set 6 (.int .i64 l), h2.set h1 (by decide) 6 _, h3.set h1 (by decide) 6 _, h4, h5⟩, h.col⟩
theorem TopC.setNums {O : Nat → Nat} {c : Nat} {w : World} {b hb hs mb : Nat} {wt : List Nat} {nums last : Int} {evs : List Ev} (h : TopC O c w b hb hs mb wt nums last evs) (l : Int) : TopC O c (w.setCell ⟨b, 5, none⟩ (.int .i64 l)) b hb hs mb wt l last evs := by
  obtain ⟨vw, ve, h1, h2, h3, h4, h5⟩ := h.cell
  exact ⟨⟨vw, ve, h1.set 5 (.int .i64 l), h2.set h1 (by decide) 5 _, h3.set h1 (by decide) 5 _, h4, h5⟩, h.col⟩
theorem EnC.setL {w : World} {X : Nat} {e : En} {b : Bool} {p : Option Nat} (h : EnC w X e b p) (l : Int) : EnC (w.setCell ⟨X, 9, none⟩ (.int .i64 l)) X { e with l := l } b p := Cells.set h 9 (.int .i64 l)
theorem EnC.setH {w : World} {X : Nat} {e : En} {b : Bool} {p : Option Nat} (h : EnC w X e b p) (l : Int) : EnC (w.setCell ⟨X, 10, none⟩ (.int .i64 l)) X { e with h := l } b p := Cells.set h 10 (.int .i64 l)
theorem EnC.far {w : World} {X C : Nat} {e : En} {b : Bool} {p : Option Nat} (h : EnC w X e b p) (j : Nat) (v : Value) (hne : X ≠ C) : EnC (w.setCell ⟨C, j, none⟩ v) X e b p := Cells.set_far h j v hne
theorem Step.B {O O' : Nat → Nat} {q c : Nat} {w w' : World} (h : Step (fun x => x = c) O w O' w') (h1 : q < c) (h2 : c ≤ q + 6) : Step (colB q) O w O' w' := h.wider (colB_of h1 h2)
def Trk (O : Nat → Nat) (w : World) (G : Mm) (X : Nat) (n : Int) : Prop := (X ∈ G.live ∧ (G.en X).n = n) ∨ (O X = 0 ∧ X < w.heap.size ∧ w.cell? ⟨X, 0, none⟩ = some (.int .i64 n))
theorem Trk.move {O O' : Nat → Nat} {q : Nat} {w w' : World} {G G' : Mm} (st : Step (colB q) O w O' w') (hl : ∀ E ∈ G.live, (E ∈ G'.live ∧ (G'.en E).n = (G.en E).n) ∨ (O' E = 0 ∧ E < w'.heap.size ∧ w'.cell? ⟨E, 0, none⟩ = some (.int .i64 (G.en E).n))) {X : Nat} {n : Int} (h : Trk O w G X n) : Trk O' w' G' X n := by
  rcases h with ⟨h1, h2⟩ | ⟨h1, h2, h3⟩
  · rw [← h2]
    exact hl X h1
  · obtain ⟨g1, g2⟩ := st.old X h2 (by rw [h1]; exact fun e => absurd e.1 (by omega))
    refine .inr ⟨by rw [g2, h1], Nat.lt_of_lt_of_le h2 st.size, ?_⟩
    rw [← h3]
    simp [World.cell?, World.cells?, g1]
theorem Trk.same {O O' : Nat → Nat} {q : Nat} {w w' : World} {G : Mm} (st : Step (colB q) O w O' w') {X : Nat} {n : Int} (h : Trk O w G X n) : Trk O' w' G X n := Trk.move st (fun E hE => .inl ⟨hE, rfl⟩) h
theorem HlfC.recol {O O' : Nat → Nat} {c : Nat} {w : World} {H : Nat} {side : Int} {ls : List Lv} {en : Nat → En} (h : HlfC O c w H side ls en) {Y : Nat} {y : En} {wy : Bool} {py : Option Nat} (hY : EnC w Y y wy py) (hn : Y ∉ ensL ls) (hO : ∀ k, k ≠ Y → O' k = O k) : HlfC O' c w H side ls en := by
  obtain ⟨v, h1, h2, h3⟩ := h.cell
  refine ⟨⟨v, h1, h2, fun b hb => ?_⟩, ?_, fun x hx => ?_, h.nodL, h.nodE, h.nodN⟩
  · obtain ⟨cs, hcs⟩ := own_lt h2 hb
    rw [hO b (hcs.ne hY (by decide)), h3 b hb]
  · rw [hO H (h1.ne hY (by decide)), h.col]
  · obtain ⟨g1, g2, g3⟩ := h.lv x hx
    refine ⟨g1, by rw [hO _ (g1.c.ne hY (by decide)), g2], fun y' hy' => ?_⟩
    obtain ⟨k1, k2, k3⟩ := g3 y' hy'
    obtain ⟨cs, hcs⟩ := g1.l.mem y' hy'
    exact ⟨by rw [hO _ (hcs.ne hY (by decide)), k1], by rw [hO _ (fun e => hn (by rw [← e]; exact mem_ens hx hy')), k2], k3⟩
theorem PtC.bury {O : Nat → Nat} {q : Nat} {w : World} {b : Nat} {G : Mm} {nums last : Int} {evs : List Ev} {m : List (Int × Nat)} (h : PtC O q w b G nums last evs m) {s : Int} (hs : s = 1 ∨ s = 2) {Y : Nat} {y : En} {wy : Bool} (hY : HdC O (colS q s) w Y y wy) (hn : Y ∉ ensL (G.L s)) :
    PtC (paint O Y 0) q w b G nums last evs m ∧ Step (colB q) O w (paint O Y 0) w ∧ (paint O Y 0) Y = 0 ∧ Y < w.heap.size ∧ w.cell? ⟨Y, 0, none⟩ = some (.int .i64 y.n) := by
  obtain ⟨c1, c2, c3, c4, c5⟩ := colS_ne q hs
  have st : Step (fun c => c = colS q s) O w (paint O Y 0) w := Step.paint O w hY.col (.inr rfl)
  have hl := (h.side hs).recol (O' := paint O Y 0) hY.ent hn (fun k hk => paint_far O hk)
  have hc := colS_cases q hs
  have t := h.top.step st (fun e => c2 e.symm)
  have mp := h.map.step st (fun e => c5 e.symm)
  have wt := h.wait.step st (fun e => c3 e.symm) (fun _ _ => rfl)
  refine ⟨?_, st.B hc.1 hc.2, paint_self _ _ _, hY.ent.lt, by rw [Cells.cell hY.ent]; rfl⟩
  rcases hs with rfl | rfl
  · exact ⟨t, hl, h.sell.step st (by simp [colS]) (fun _ _ => rfl), mp, wt⟩
  · exact ⟨t, h.buy.step st (by simp [colS]) (fun _ _ => rfl), hl, mp, wt⟩
theorem PtC.bury5 {O : Nat → Nat} {q : Nat} {w : World} {b : Nat} {G : Mm} {nums last : Int} {evs : List Ev} {m : List (Int × Nat)} (h : PtC O q w b G nums last evs m) {Y : Nat} {y : En} {wy : Bool} (hY : HdC O (q + 5) w Y y wy) :
    PtC (paint O Y 0) q w b G nums last evs m ∧ Step (colB q) O w (paint O Y 0) w ∧ (paint O Y 0) Y = 0 ∧ Y < w.heap.size ∧ w.cell? ⟨Y, 0, none⟩ = some (.int .i64 y.n) := by
  have st : Step (fun c => c = q + 5) O w (paint O Y 0) w := Step.paint O w hY.col (.inr rfl)
  exact ⟨h.step st (fun c _ h5 e => h5 e), st.B (by omega) (by omega), paint_self _ _ _, hY.ent.lt, by rw [Cells.cell hY.ent]; rfl⟩
theorem trade_mid {O : Nat → Nat} {q : Nat} {w : World} {b : Nat} {G : Mm} {nums last : Int} {evs : List Ev} {m : List (Int × Nat)} (h : PtC O q w b G nums last evs m) {X : Nat} {x : En} (hX : HdC O (q + 5) w X x false) {s : Int} (hs : s = 1 ∨ s = 2) {Y : Nat} (hY : frontL (G.L s) = some Y) (k : Int) (w' : World)
    (hw : w' = (((w.setCell ⟨X, 9, none⟩ (.int .i64 (x.l - k))).setCell ⟨Y, 9, none⟩ (.int .i64 ((G.en Y).l - k))).setCell ⟨Y, 10, none⟩ (.int .i64 ((G.en Y).h - k))).setCell ⟨b, 6, none⟩ (.int .i64 (G.en Y).o.p)) :
    PtC O q w' b (G.put s (G.L s) (setEn G.en Y { (G.en Y) with l := (G.en Y).l - k, h := (G.en Y).h - k })) nums (G.en Y).o.p evs m ∧ HdC O (q + 5) w' X { x with l := x.l - k } false ∧ plainH (G.L s) (setEn G.en Y { (G.en Y) with l := (G.en Y).l - k, h := (G.en Y).h - k }) = setH { (G.en Y) with l := (G.en Y).l - k, h := (G.en Y).h - k } (plainH (G.L s) G.en) ∧ Step (colB q) O w O w' := by
  obtain ⟨c1, c2, c3, c4, c5⟩ := colS_ne q hs
  obtain ⟨hOY, E, eY⟩ := (h.side hs).front hY
  have hXY : X ≠ Y := fun e => by have := hX.col; rw [e, hOY] at this; omega
  obtain ⟨vw, ve, t1, _⟩ := h.top.cell
  have hbX : b ≠ X := t1.ne hX.ent (by decide)
  have hbY : b ≠ Y := t1.ne eY (by decide)
  -- the entry in hand
  have s1 : Step (fun c => c = q + 5) O w O (w.setCell ⟨X, 9, none⟩ (.int .i64 (x.l - k))) := Step.set hX.col 9 _
  have p1 := h.step s1 (fun c _ hn e => hn e)
  have x1 : HdC O (q + 5) (w.setCell ⟨X, 9, none⟩ (.int .i64 (x.l - k))) X { x with l := x.l - k } false := ⟨hX.ent.setL _, hX.col⟩
  obtain ⟨w1, hw1⟩ : ∃ w1, w1 = w.setCell ⟨X, 9, none⟩ (.int .i64 (x.l - k)) := ⟨_, rfl⟩
  rw [← hw1] at s1 p1 x1 hw
  -- the front
  obtain ⟨w3, hw3⟩ : ∃ w3, w3 = (w1.setCell ⟨Y, 9, none⟩ (.int .i64 ((G.en Y).l - k))).setCell ⟨Y, 10, none⟩ (.int .i64 ((G.en Y).h - k)) := ⟨_, rfl⟩
  rw [← hw3] at hw
  have kY : Kept (fun c => c = Y) w1 w3 := by rw [hw3]; exact ((Kept.refl (fun c => c = Y) w1).set (C := Y) rfl 9 _).set (C := Y) rfl 10 _
  have s3 : Step (fun c => c = colS q s) O w1 O w3 := Step.of_kept0 kY (fun c _ e => by rw [e]; exact hOY)
  obtain ⟨g1, g2⟩ := (p1.side hs).setFront hY kY (e := { (G.en Y) with l := (G.en Y).l - k, h := (G.en Y).h - k }) (fun P eP => by rw [hw3]; exact (eP.setL _).setH _)
  obtain ⟨f1, f2⟩ := p1.enF hs hOY { (G.en Y) with l := (G.en Y).l - k, h := (G.en Y).h - k }
  have p3 := p1.putSide hs s3 g1 f1 f2
  have x3 : HdC O (q + 5) w3 X { x with l := x.l - k } false := x1.step s3 (fun e => c4 e.symm)
  -- the last price
  have s4 : Step (fun c => c = q + 3) O w3 O w' := by rw [hw]; exact Step.set h.top.col 6 _
  refine ⟨⟨?_, p3.buy.step s4 (by omega) (fun _ _ => rfl), p3.sell.step s4 (by omega) (fun _ _ => rfl), p3.map.step s4 (by omega), p3.wait.step s4 (by omega) (fun _ _ => rfl)⟩, x3.step s4 (by omega), g2, ?_⟩
  · rw [hw]; exact p3.top.setLast _
  · have hc := colS_cases q hs
    exact ((s1.B (by omega) (by omega)).trans (s3.B hc.1 hc.2)).trans (s4.B (by omega) (by omega))
end Go.Proofs.YtepldjidkomclaaGreat.Bo
namespace Go.Proofs.YtepldjidkomclaaGreat.Bo
set_option linter.unusedSimpArgs false
set_option linter.unusedVariables false
open Go.RowKit Go.Shelf
attribute [local go_sem] Oper.semAt_some
attribute [local go_sem ↓] Go.wp_at_zero Go.wp_at_succ
theorem wpList_delete_run {P : Program} {w : World} {ops : Array Oper} {rest : List Oper} {o : Oper} {a : Act} {Q : Exit → Act → World → Prop} (hgd : o.guard = none) (s x : Operand) (t k : TypeId)
    (ho : o.op = .call { callee := .builtin .delete, args := #[s, x], argTypes := #[t, k] }) (sv xv : Value) (w' : World) (hs : a.eval s = sv) (hx : a.eval x = xv) (hrun : (Builtin.delete_ #[t, k] o.type #[sv, xv]).run P w = .ok (.tuple #[]) w') (h : wpList P ops Q rest (a.put o.dst (.tuple #[])) w') :
    wpList P ops Q (o :: rest) a w := by
  refine wpList_plain hgd fun K hK => ?_
  unfold Oper.wp
  simp [execOp, ho, resolve, invoke, builtin, hs, hx, hrun, Result.andThen]
  exact hK _ _ h
theorem wpList_mapUpdate_run {P : Program} {w : World} {ops : Array Oper} {rest : List Oper} {o : Oper} {a : Act} {Q : Exit → Act → World → Prop} (hgd : o.guard = none) (m x v : Operand) (t : TypeId)
    (ho : o.op = .mapUpdate t m x v) (mv xv vv : Value) (w' : World) (hm : a.eval m = mv) (hx : a.eval x = xv) (hv : a.eval v = vv) (hrun : (Instr.mapUpdate t mv xv vv).run P w = .ok () w') (h : wpList P ops Q rest (a.put o.dst undef) w') :
    wpList P ops Q (o :: rest) a w := by
  refine wpList_plain hgd fun K hK => ?_
  unfold Oper.wp
  simp [execOp, ho, hm, hx, hv, hrun, Result.andThen]
  exact hK _ _ h
section
variable {O : Nat → Nat} {q : Nat} {w : World} {b : Nat} {G : Mm} {nums last : Int} {evs : List Ev} {m : List (Int × Nat)}
def ToldP (O : Nat → Nat) (q : Nat) (w : World) (b : Nat) (G : Mm) (nums last : Int) (evs : List Ev) (m : List (Int × Nat)) (e : Ending) (w' : World) : Prop :=
  e = .returned (.tuple #[]) ∧ ∃ O', PtC O' q w' b G nums last evs m ∧ Step (fun x => x = q + 3) O w O' w'
theorem tell_pt (h : PtC O q w b G nums last evs m) (hlen : evs.length ≤ 3000000000000) {X : Nat} {x : En} {wts : Bool} {pl : Option Nat} (hX : EnC w X x wts pl) (what other price qty : Int) :
    Calls Tryz.prog 24 #[pt b, .int .i64 what, pt X, .int .i64 other, .int .i64 price, .int .i64 qty] w (ToldP O q w b G nums last (evs ++ [⟨what, x.n, other, price, qty⟩]) m) :=
  (tell_calls h.top hlen hX what other price qty).mono fun e w' ⟨h1, h2, h3⟩ =>
    have st : Step (fun x => x = q + 3) O w (grow O w (q + 3)) w' := Step.grow h3
    ⟨h1, _, ⟨h2, h.buy.step st (by omega) (fun _ _ => rfl), h.sell.step st (by omega) (fun _ _ => rfl), h.map.step st (by omega), h.wait.step st (by omega) (fun _ _ => rfl)⟩, st⟩
def TakenP (O : Nat → Nat) (q : Nat) (w : World) (b : Nat) (G : Mm) (nums last : Int) (evs : List Ev) (m : List (Int × Nat)) (s : Int) (Y : Nat) (e : Ending) (w' : World) : Prop :=
  e = .returned (.tuple #[]) ∧ ∃ O' ls', PtC O' q w' b (G.put s ls' G.en) nums last evs m ∧ plainH ls' G.en = popH (plainH (G.L s) G.en) ∧ ensL (G.L s) = Y :: ensL ls' ∧ HdC O' (colS q s) w' Y (G.en Y) false ∧ Step (fun x => x = colS q s) O w O' w'
theorem take_pt (h : PtC O q w b G nums last evs m) {s : Int} (hs : s = 1 ∨ s = 2) (hsh : HSh s (plainH (G.L s) G.en)) (hlen : (ensL (G.L s)).length ≤ 5000) {Y : Nat} (hY : frontL (G.L s) = some Y) :
    Calls Tryz.prog 56 #[pt (G.H s), pt Y] w (TakenP O q w b G nums last evs m s Y) :=
  (half_pop (h.side hs) hsh hlen hY).mono fun e w' ⟨h1, ⟨ls', h2, h3, h4⟩, h5, h6⟩ =>
    have st : Step (fun x => x = colS q s) O w (grow O w (colS q s)) w' := Step.grow h6
    ⟨h1, _, ls', h.putSide hs st h2 (fun _ _ => rfl) (fun _ _ => rfl), h3, h4, ⟨h5, grow_same ((h.side hs).front hY).1⟩, st⟩
def AddedP (O : Nat → Nat) (q : Nat) (w : World) (b : Nat) (G : Mm) (nums last : Int) (evs : List Ev) (m : List (Int × Nat)) (s : Int) (X : Nat) (e : Ending) (w' : World) : Prop :=
  e = .returned (.tuple #[]) ∧ ∃ O' ls', PtC O' q w' b (G.put s ls' G.en) nums last evs m ∧ plainH ls' G.en = addH s (G.en X) (plainH (G.L s) G.en) ∧ (ensL ls').Perm (X :: ensL (G.L s)) ∧ Step (fun x => x = colS q s) O w O' w'
theorem add_pt (h : PtC O q w b G nums last evs m) {s : Int} (hs : s = 1 ∨ s = 2) (hsh : HSh s (plainH (G.L s) G.en)) (hlen : (ensL (G.L s)).length ≤ 5000) {X : Nat} (hX : X ∉ ensL (G.L s)) (eX : HdC O (colS q s) w X (G.en X) false) :
    Calls Tryz.prog 93 #[pt (G.H s), pt X] w (AddedP O q w b G nums last evs m s X) :=
  (half_add (h.side hs) hsh hlen hX eX.col eX.ent).mono fun e w' ⟨h1, ⟨ls', h2, h3, h4⟩, h6⟩ =>
    have st : Step (fun x => x = colS q s) O w (grow O w (colS q s)) w' := Step.grow h6
    ⟨h1, _, ls', h.putSide hs st h2 (fun _ _ => rfl) (fun _ _ => rfl), h3, h4, st⟩
theorem drop_pt {n : Int} {E : Nat} {m' : List (Int × Nat)} (h : PtC O q w b G nums last evs m) (hp : m.Perm ((n, E) :: m')) (ty : TypeId) :
    ∃ w', (Builtin.delete_ #[67, 3] ty #[.map (some G.mb), .int .i64 n]).run Tryz.prog w = .ok (.tuple #[]) w' ∧ PtC O q w' b G nums last evs m' ∧ Step (fun x => x = q + 6) O w O w' := by
  obtain ⟨w', r1, r2, r3⟩ := (h.map.map.perm hp).drop ty
  have st : Step (fun x => x = q + 6) O w O w' := Step.of_kept0 r3 (fun k _ e => by rw [e]; exact h.map.col)
  exact ⟨w', r1, ⟨h.top.step st (by omega), h.buy.step st (by omega) (fun _ _ => rfl), h.sell.step st (by omega) (fun _ _ => rfl), ⟨r2, h.map.col⟩, h.wait.step st (by omega) (fun _ _ => rfl)⟩, st⟩
theorem put_pt {n : Int} {E : Nat} (h : PtC O q w b G nums last evs m) (hlen : m.length ≤ 1000000) (hn : (Lit.int .i64 n).wf = true) (hnew : n ∉ m.map Prod.fst) :
    ∃ w', (Instr.mapUpdate 67 (.map (some G.mb)) (.int .i64 n) (pt E)).run Tryz.prog w = .ok () w' ∧ PtC O q w' b G nums last evs ((n, E) :: m) ∧ Step (fun x => x = q + 6) O w O w' := by
  obtain ⟨w', r1, r2, r3⟩ := h.map.map.put hlen hn hnew (e := E)
  have st : Step (fun x => x = q + 6) O w O w' := Step.of_kept0 r3 (fun k _ e => by rw [e]; exact h.map.col)
  exact ⟨w', r1, ⟨h.top.step st (by omega), h.buy.step st (by omega) (fun _ _ => rfl), h.sell.step st (by omega) (fun _ _ => rfl), ⟨r2, h.map.col⟩, h.wait.step st (by omega) (fun _ _ => rfl)⟩, st⟩
end
end Go.Proofs.YtepldjidkomclaaGreat.Bo
namespace Go.Proofs.YtepldjidkomclaaGreat.Bo
set_option linter.unusedSimpArgs false
set_option linter.unusedVariables false
open Go.RowKit Go.Shelf
attribute [local go_sem] Oper.semAt_some
attribute [local go_sem ↓] Go.wp_at_zero Go.wp_at_succ
theorem popH_setH {y y' : En} {h : Half} (hf : frontH h = some y') : popH (setH y h) = popH h := by
  match h with
  | [] => rfl
  | (_, []) :: _ => cases hf
  | (_, _ :: _) :: _ => rfl
def TradedP (O : Nat → Nat) (q : Nat) (w : World) (b : Nat) (G : Mm) (nums : Int) (evs : List Ev) (s : Int) (X : Nat) (x : En) (y : En) (k : Int) (e : Ending) (w' : World) : Prop :=
  e = .returned (.tuple #[]) ∧ ∃ O' G', PtC O' q w' b G' nums y.o.p (evs ++ [⟨1, x.n, y.n, y.o.p, k⟩]) (prs G'.en G'.live) ∧ HdC O' (q + 5) w' X { x with l := x.l - k } false ∧ plainH (G'.L s) G'.en = tradeH s y k (plainH (G.L s) G.en) ∧ SameB s G G' ∧ G'.live.length ≤ G.live.length ∧ Step (colB q) O w O' w' ∧ ∀ D n, Trk O w G D n → Trk O' w' G' D n
theorem PtC.perm {O : Nat → Nat} {q : Nat} {w : World} {b : Nat} {G : Mm} {nums last : Int} {evs : List Ev} {m m' : List (Int × Nat)} (h : PtC O q w b G nums last evs m) (hp : m.Perm m') : PtC O q w b G nums last evs m' := ⟨h.top, h.buy, h.sell, ⟨h.map.map.perm hp, h.map.col⟩, h.wait⟩
theorem PtC.cells {O : Nat → Nat} {q : Nat} {w : World} {b : Nat} {G : Mm} {nums last : Int} {evs : List Ev} {m : List (Int × Nat)} (h : PtC O q w b G nums last evs m) {s : Int} (hs : s = 1 ∨ s = 2) : w.cell? ⟨b, s.toNat, none⟩ = some (pt (G.H s)) ∧ w.cell? ⟨b, 3, none⟩ = some (.map (some G.mb)) ∧ w.cell? ⟨b, 5, none⟩ = some (.int .i64 nums) ∧ w.cell? ⟨b, 6, none⟩ = some (.int .i64 last) ∧ b < w.heap.size ∧ w.frozen? ⟨b, 6, none⟩ = false ∧ w.frozen? ⟨b, 5, none⟩ = false := by
  obtain ⟨c1, c2, c3, c4, c5⟩ := h.top.half
  obtain ⟨vw, ve, t1, _⟩ := h.top.cell
  refine ⟨?_, c3, c4, c5, h.top.lt, t1.frozen 6, t1.frozen 5⟩
  rcases hs with rfl | rfl
  · exact c1
  · exact c2
theorem EnC.cells {w : World} {X : Nat} {x : En} {wx : Bool} {px : Option Nat} (h : EnC w X x wx px) : w.cell? ⟨X, 0, none⟩ = some (.int .i64 x.n) ∧ w.cell? ⟨X, 1, none⟩ = some (.int .i64 x.o.m) ∧ w.cell? ⟨X, 2, none⟩ = some (.int .i64 x.o.s) ∧ w.cell? ⟨X, 5, none⟩ = some (.int .i64 x.o.p) ∧ w.cell? ⟨X, 8, none⟩ = some (.int .i64 x.o.pk) ∧ w.cell? ⟨X, 9, none⟩ = some (.int .i64 x.l) ∧ w.cell? ⟨X, 10, none⟩ = some (.int .i64 x.h) ∧ X < w.heap.size ∧ w.frozen? ⟨X, 9, none⟩ = false ∧ w.frozen? ⟨X, 10, none⟩ = false := by
  refine ⟨?_, ?_, ?_, ?_, ?_, ?_, ?_, h.lt, Cells.frozen h 9, Cells.frozen h 10⟩ <;> (rw [Cells.cell h]; rfl)
set_option maxRecDepth 100000 in
set_option maxHeartbeats 4000000 in
theorem trade_calls {O : Nat → Nat} {q : Nat} {w : World} {b : Nat} {G : Mm} {nums last : Int} {evs : List Ev} (h : PtC O q w b G nums last evs (prs G.en G.live)) {X : Nat} {x : En} (hX : HdC O (q + 5) w X x false) {s : Int} (hs : s = 1 ∨ s = 2) (hok : HOk s nums (plainH (G.L s) G.en))
    (hlen : evs.length ≤ 3000000000000) (few : G.live.length ≤ 4096) {Y : Nat} (hY : frontL (G.L s) = some Y) (hl : 0 < x.l ∧ x.l ≤ 1000000000) :
    Calls Tryz.prog 57 #[pt b, pt X, pt Y] w (TradedP O q w b G nums evs s X x (G.en Y) (min x.l (G.en Y).h)) := by
  obtain ⟨c1, c2, c3, c4, c5⟩ := colS_ne q hs
  obtain ⟨hOY, P, eY⟩ := (h.side hs).front hY
  have yok : EnOk s nums (G.en Y) := hok.mem _ (by rw [plainH_all]; exact List.mem_map.2 ⟨Y, front_mem hY, rfl⟩)
  obtain ⟨yn, yo, ys, yl, yh, yk, ypk⟩ := yok
  have hq := okQ yo
  obtain ⟨k, hk⟩ : ∃ k, k = min x.l (G.en Y).h := ⟨_, rfl⟩
  have hk1 : 1 ≤ k ∧ k ≤ x.l ∧ k ≤ (G.en Y).h := by omega
  rw [← hk]
  have hXY : X ≠ Y := fun e => by have := hX.col; rw [e, hOY] at this; omega
  obtain ⟨vw, ve, t1, _⟩ := h.top.cell
  have hbX : b ≠ X := t1.ne hX.ent (by decide)
  have hbY : b ≠ Y := t1.ne eY (by decide)
  clear t1
  obtain ⟨_, _, _, _, _, x9, _, hXl, fx9, _⟩ := hX.ent.cells
  obtain ⟨_, _, _, y5, _, y9, y10, hYl, fy9, fy10⟩ := eY.cells
  obtain ⟨_, _, _, b6, hbl, fb6, _⟩ := h.cells hs
  have HH := hid h
  have HX := hid hX
  have HK := hid hk
  have HOKY := hid hok
  have HYF := hid hY
  clear h hX hok eY hY hk
  go_enter Tryz.func57, Tryz.ntmps57
  go_upto_region 1 with fail
  go_cut [6] (fun s6 wx => s6 = .int .i64 k ∧ ∃ n, wx = w.drewN n)
  case first =>
    go_quiet (fail)
    all_goals go_wp2
    all_goals (
      go_meet
      exact ⟨by rw [HK.out]; congr 1; omega, _, rfl⟩)
  case rest =>
    obtain ⟨rfl, n, hw⟩ := hcut
    have hbw : Below w.heap.size w wc := by rw [hw]; exact Below.of_drewN w n
    have hsz : wc.heap.size = w.heap.size := by rw [hw]; rfl
    have HST := hid (Step.of_below (O := O) hbw (colB q))
    have h := HH.out.below hbw
    have hX := HX.out.below hbw
    obtain ⟨_, P, eY⟩ := (h.side hs).front HYF.out
    clear x9 hXl fx9 y5 y9 y10 hYl fy9 fy10 b6 hbl fb6
    obtain ⟨_, _, _, _, _, x9, _, hXl, fx9, _⟩ := hX.ent.cells
    obtain ⟨_, _, _, y5, _, y9, y10, hYl, fy9, fy10⟩ := eY.cells
    obtain ⟨_, _, _, b6, hbl, fb6, _⟩ := h.cells hs
    obtain ⟨W, hW⟩ : ∃ W, W = (((wc.setCell ⟨X, 9, none⟩ (.int .i64 (x.l - k))).setCell ⟨Y, 9, none⟩ (.int .i64 ((G.en Y).l - k))).setCell ⟨Y, 10, none⟩ (.int .i64 ((G.en Y).h - k))).setCell ⟨b, 6, none⟩ (.int .i64 (G.en Y).o.p) := ⟨_, rfl⟩
    obtain ⟨m1, m2, m3, m4⟩ := trade_mid h hX hs HYF.out k W hW
    have M1 := hid m1
    have M2 := hid m2
    have M3 := hid m3
    have M4 := hid (HST.out.trans m4)
    obtain ⟨f1, f2⟩ := h.enF hs hOY { (G.en Y) with l := (G.en Y).l - k, h := (G.en Y).h - k }
    obtain ⟨G1, hG1⟩ : ∃ G1, G1 = G.put s (G.L s) (setEn G.en Y { (G.en Y) with l := (G.en Y).l - k, h := (G.en Y).h - k }) := ⟨_, rfl⟩
    obtain ⟨u1, u2, u3⟩ := Mm.put_same hs G (G.L s) _ f1 f2
    rw [← hG1] at u1 u2 u3
    have U1 := hid u1
    have U2 := hid u2
    have U3 := hid u3
    have HG1 := hid hG1
    have HW := hid hW
    clear h hX eY m1 m2 m3 m4 hbw hsz hw hW f1 f2 hG1 u1 u2 u3 HST
    go_wp2
    refine region_tail 11 (by kernel_rfl) (by kernel_rfl) ?_
    simp only [List.take_succ_cons, List.take_zero, List.drop_succ_cons, List.drop_zero]
    repeat still_step
    refine wpStill_nil ?_
    go_wp2_with fail
    rw [← HW.out]
    refine (tell_pt (M1.out.below ((Below.refl _ W).drew)) hlen (M2.out.below ((Below.refl _ W).drew)).ent 1 (G.en Y).n (G.en Y).o.p k).mono ?_
    rintro e w5 ⟨rfl, O5, p5, s5⟩
    have hd5 := (M2.out.below ((Below.refl _ W).drew)).step s5 (by omega)
    have S5 := hid ((M4.out.trans (Step.of_below ((Below.refl _ W).drew) (colB q))).trans (s5.B (by omega) (by omega)))
    rw [← HG1.out] at p5
    simp only at p5
    have hY5 : frontL (G1.L s) = some Y := by rw [U2.out]; exact HYF.out
    obtain ⟨hOY5, P5, eY5⟩ := (p5.side hs).front hY5
    have en5 : G1.en Y = { (G.en Y) with l := (G.en Y).l - k, h := (G.en Y).h - k } := by rw [U3.out, setEn_self]
    have EY5 := hid eY5
    rw [en5] at eY5
    obtain ⟨y0, _, y2, _, y8, y9, y10, hYl, fy9, fy10⟩ := eY5.cells
    simp only at y0 y2 y8 y9 y10
    rw [ys] at y2
    obtain ⟨bs, _, _, _, hbl, _, _⟩ := p5.cells hs
    have PH5 := hid (show plainH (G1.L s) G1.en = setH { (G.en Y) with l := (G.en Y).l - k, h := (G.en Y).h - k } (plainH (G.L s) G.en) by rw [U2.out, U3.out]; exact M3.out)
    have LV5 := hid (show G1.live.Perm G.live by
      have := Mm.put_live hs G (G.L s) (setEn G.en Y { (G.en Y) with l := (G.en Y).l - k, h := (G.en Y).h - k })
      rw [HG1.out]; exact this.2.trans this.1.symm)
    have PRS := hid (show (prs G.en G.live).Perm (prs G1.en G1.live) by
      refine List.Perm.trans ?_ (prs_perm _ LV5.out.symm)
      rw [U3.out]
      have := prs_congr (en := G.en) (en' := setEn G.en Y { (G.en Y) with l := (G.en Y).l - k, h := (G.en Y).h - k }) (l := G.live) (fun E _ => setEn_n G.en Y { (G.en Y) with l := (G.en Y).l - k, h := (G.en Y).h - k } rfl E)
      rw [this])
    have NUM5 := hid (show ∀ E, (G1.en E).n = (G.en E).n from fun E => by rw [U3.out]; exact setEn_n G.en Y { (G.en Y) with l := (G.en Y).l - k, h := (G.en Y).h - k } rfl E)
    have P5 := hid p5
    have HD5 := hid hd5
    have HY5 := hid hY5
    have HOY5 := hid hOY5
    have EN5 := hid en5
    have hs3 : 0 ≤ s ∧ s < 3 := by omega
    clear p5 hd5 hY5 hOY5 en5 eY5 s5
    by_cases g1 : 0 < (G.en Y).h - k
    · have g1' : k < (G.en Y).h := by omega
      go_wp2
      go_end0
      refine ⟨rfl, O5, G1, P5.out.perm PRS.out, HD5.out, ?_, U1.out, Nat.le_of_eq LV5.out.length_eq, S5.out, fun D n => Trk.move S5.out (fun E hE => .inl ⟨LV5.out.mem_iff.2 hE, NUM5.out E⟩)⟩
      rw [PH5.out]
      unfold tradeH
      rw [if_pos g1]
    · have NG1 := hid g1
      have hsh5 : HSh s (plainH (G1.L s) G1.en) := by
        rw [PH5.out]
        exact HOKY.out.sh.set (y := G.en Y) (by rw [front_plain HOKY.out.sh, HYF.out]; rfl) rfl
      have HSH5 := hid hsh5
      have few5 : (ensL (G1.L s)).length ≤ 5000 := by
        have := few_side (G := G) hs
        rw [U2.out]; omega
      clear hsh5
      go_wp2
      go_quiet (fail)
      go_wp2_with fail
      refine (take_pt (P5.out.below (Below.of_drewN w5 nq)) hs HSH5.out few5 HY5.out).mono ?_
      rintro e w6 ⟨rfl, O6, ls6, p6, a6, b6', d6, s6⟩
      have hc := colS_cases q hs
      have hd6 := (HD5.out.below (Below.of_drewN w5 nq)).step s6 (fun e => c4 e.symm)
      have S6 := hid ((S5.out.trans (Step.of_below (Below.of_drewN w5 nq) (colB q))).trans (s6.B hc.1 hc.2))
      obtain ⟨G2, hG2⟩ : ∃ G2, G2 = G1.put s ls6 G1.en := ⟨_, rfl⟩
      obtain ⟨v1, v2, v3⟩ := Mm.put_same hs G1 ls6 G1.en (fun _ _ => rfl) (fun _ _ => rfl)
      have LV6 := hid (show G1.live.Perm (Y :: G2.live) by
        have := Mm.put_live hs G1 ls6 G1.en
        rw [hG2]
        refine this.1.trans ?_
        rw [b6']
        exact (this.2.symm.cons Y))
      rw [← hG2] at p6 v1 v2 v3
      have hY6 : Y ∉ ensL (G2.L s) := by
        have := ((P5.out.side hs).nodN)
        show Y ∉ ensL (G2.L s)
        rw [v2]
        have h7 : (ensL (G1.L s)).Nodup := this
        rw [b6'] at h7
        exact (List.nodup_cons.1 h7).1
      have hl6 : (ensL (G2.L s)).length ≤ 5000 := by
        rw [v2]
        rw [b6'] at few5
        simp only [List.length_cons] at few5
        omega
      have hsh6 : HSh s (plainH (G2.L s) G2.en) := by rw [v2, v3, a6]; exact HSH5.out.pop
      have PH6 := hid (show plainH (G2.L s) G2.en = popH (setH { (G.en Y) with l := (G.en Y).l - k, h := (G.en Y).h - k } (plainH (G.L s) G.en)) by rw [v2, v3, a6, PH5.out])
      have eY6 := d6.ent
      rw [EN5.out] at eY6
      obtain ⟨y0, _, y2, _, y8, y9, y10, hYl, fy9, fy10⟩ := eY6.cells
      simp only at y0 y2 y8 y9 y10
      obtain ⟨_, bm, _, _, hbl, _, _⟩ := p6.cells hs
      have V1 := hid v1
      have V3 := hid v3
      have P6 := hid p6
      have D6 := hid d6
      have HD6 := hid hd6
      have HY6 := hid hY6
      have HSH6 := hid hsh6
      have hGH : G1.H s = G2.H s := v1.H.symm
      rw [hGH]
      clear p6 a6 b6' d6 s6 hd6 hG2 v1 v2 v3 hY6 hsh6 eY6 hGH few5
      have hnl : (prs G1.en G2.live) = prs G2.en G2.live := by rw [V3.out]
      by_cases g2 : (G.en Y).l - k = 0
      · have g2' : ((G.en Y).l - k == 0) = true := by simpa using g2
        have G2E := hid g2
        have FIN := hid (show tradeH s (G.en Y) k (plainH (G.L s) G.en) = popH (plainH (G.L s) G.en) by unfold tradeH; rw [if_neg (Int.not_lt.2 NG1.out), if_pos g2])
        clear g2
        go_wp2
        refine region_tail 8 (by kernel_rfl) (by kernel_rfl) ?_
        simp only [List.take_succ_cons, List.take_zero, List.drop_succ_cons, List.drop_zero]
        repeat still_step
        refine wpStill_nil ?_
        obtain ⟨w7, r1, r2, r3⟩ := drop_pt (n := (G.en Y).n) (E := Y) (m' := prs G2.en G2.live) ((P6.out.perm PRS.out).below ((Below.refl _ w6).drew)) (by
          refine (prs_perm _ LV6.out).trans ?_
          rw [← hnl]
          show (((G1.en Y).n, Y) :: prs G1.en G2.live).Perm _
          rw [EN5.out]) 3
        refine wpList_delete_run rfl (.tmp 87) (.tmp 91) 67 3 rfl _ _ w7 rfl rfl r1 ?_
        have hd7 := (HD6.out.below ((Below.refl _ w6).drew)).step r3 (by omega)
        have fin : TradedP O q w b G nums evs s X x (G.en Y) k (.returned (.tuple #[])) w7 := by
          have dY := (D6.out.below ((Below.refl _ w6).drew)).step r3 c5
          obtain ⟨u1, u2, u3, u4, u5⟩ := r2.bury hs dY HY6.out
          have hne : X ≠ Y := hXY
          have st := ((S6.out.trans (Step.of_below ((Below.refl _ w6).drew) (colB q))).trans (r3.B (by omega) (by omega))).trans u2
          refine ⟨rfl, _, G2, u1, ⟨hd7.ent, by rw [paint_far _ hne]; exact hd7.col⟩, ?_, U1.out.trans V1.out, ?_, st, fun D n => Trk.move st (fun E hE => ?_)⟩
          rotate_left 2
          · have hE1 := LV6.out.mem_iff.1 (LV5.out.mem_iff.2 hE)
            rcases List.mem_cons.1 hE1 with rfl | hE1
            · right
              rw [EN5.out] at u5
              exact ⟨u3, u4, u5⟩
            · left
              exact ⟨hE1, by rw [V3.out, NUM5.out]⟩
          · rw [PH6.out, FIN.out, popH_setH (show frontH (plainH (G.L s) G.en) = some (G.en Y) by rw [front_plain HOKY.out.sh, HYF.out]; rfl)]
          · have := LV6.out.length_eq
            rw [LV5.out.length_eq, List.length_cons] at this
            omega
        have FN := hid fin
        clear fin r1 r2 r3 hd7
        go_wp2
        first | exact FN.out | (go_end0; exact FN.out)
      · have g2' : ((G.en Y).l - k == 0) = false := by simpa using g2
        obtain ⟨k2, hk2⟩ : ∃ k2, k2 = min (G.en Y).o.pk ((G.en Y).l - k) := ⟨_, rfl⟩
        have FIN := hid (show tradeH s (G.en Y) k (plainH (G.L s) G.en) = addH s { (G.en Y) with l := (G.en Y).l - k, h := k2 } (popH (plainH (G.L s) G.en)) by unfold tradeH; rw [if_neg (Int.not_lt.2 NG1.out), if_neg g2, hk2])
        have K2 := hid hk2
        clear g2 hk2
        go_wp2
        go_upto_region 12 with fail
        go_cut [] (fun wx => wx = w6.drew.setCell ⟨Y, 10, none⟩ (.int .i64 k2))
        case first =>
          go_region
          all_goals go_wp2
          all_goals go_meet
          all_goals (rw [K2.out]; exact congrArg (fun z => w6.drew.setCell ⟨Y, 10, none⟩ (Value.int .i64 z)) (by omega))
        case rest =>
          obtain ⟨w7, hw7⟩ : ∃ w7, w7 = w6.drew := ⟨_, rfl⟩
          have b7 : Below w6.heap.size w6 w7 := by rw [hw7]; exact (Below.refl _ w6).drew
          rw [← hw7] at hcut
          have p7 := P6.out.below b7
          have d7 := D6.out.below b7
          have hd7 := HD6.out.below b7
          have hOY2 := d7.col
          have kY : Kept (fun c => c = Y) w7 wc := by rw [hcut]; exact (Kept.refl (fun c => c = Y) w7).set (C := Y) rfl 10 _
          have s7 : Step (fun c => c = colS q s) O6 w7 O6 wc := Step.of_kept0 kY (fun c _ e => by rw [e]; exact hOY2)
          have eY7 : EnC wc Y { (G.en Y) with l := (G.en Y).l - k, h := k2 } false none := by
            have := d7.ent.setH k2
            rw [EN5.out] at this
            rw [hcut]
            exact this
          obtain ⟨f1, f2⟩ := p7.enF hs hOY2 { (G.en Y) with l := (G.en Y).l - k, h := k2 }
          have far : ∀ E ∈ ensL (G2.L s), setEn G2.en Y { (G.en Y) with l := (G.en Y).l - k, h := k2 } E = G2.en E := fun E hE => setEn_far _ _ (fun e => HY6.out (by rw [← e]; exact hE))
          have h8 : HlfC O6 (colS q s) wc (G2.H s) s (G2.L s) (setEn G2.en Y { (G.en Y) with l := (G.en Y).l - k, h := k2 }) := by
            have hh := p7.side hs
            obtain ⟨v, hv, _⟩ := hh.cell
            refine hh.keptG kY (hv.ne d7.ent (by decide)) (fun b cs _ hb => hb.ne d7.ent (by decide)) (fun x hx => ⟨(hh.lv x hx).1.c.ne d7.ent (by decide), fun y hy => ⟨?_, fun e => HY6.out (by rw [← e]; exact mem_ens hx hy)⟩⟩) (fun _ _ h => h) (fun x hx y hy => far _ (mem_ens hx hy))
            obtain ⟨cs, hc⟩ := (hh.lv x hx).el hy
            exact hc.ne d7.ent (by decide)
          obtain ⟨G3, hG3⟩ : ∃ G3, G3 = G2.put s (G2.L s) (setEn G2.en Y { (G.en Y) with l := (G.en Y).l - k, h := k2 }) := ⟨_, rfl⟩
          obtain ⟨z1, z2, z3⟩ := Mm.put_same hs G2 (G2.L s) _ f1 f2
          have p8 := p7.putSide hs s7 h8 f1 f2
          have hd8 := hd7.step s7 (fun e => c4 e.symm)
          have lv8 := Mm.put_live hs G2 (G2.L s) (setEn G2.en Y { (G.en Y) with l := (G.en Y).l - k, h := k2 })
          rw [← hG3] at z1 z2 z3 p8 lv8
          have en8 : G3.en Y = { (G.en Y) with l := (G.en Y).l - k, h := k2 } := by rw [z3, setEn_self]
          have ph8 : plainH (G3.L s) G3.en = plainH (G2.L s) G2.en := by rw [z2, z3]; exact plainH_congr far
          have hnn : ∀ E, (G3.en E).n = (G1.en E).n := fun E => by
            rw [z3, setEn_n G2.en Y { (G.en Y) with l := (G.en Y).l - k, h := k2 } (by rw [V3.out, EN5.out]) E, V3.out]
          have hl8 : (ensL (G3.L s)).length ≤ 5000 := by rw [z2]; exact hl6
          have hsh8 : HSh s (plainH (G3.L s) G3.en) := by rw [ph8]; exact HSH6.out
          have hY8 : Y ∉ ensL (G3.L s) := by rw [z2]; exact HY6.out
          have e8 : HdC O6 (colS q s) wc Y (G3.en Y) false := ⟨by rw [en8]; exact eY7, hOY2⟩
          have hGH : G2.H s = G3.H s := z1.H.symm
          have ad := add_pt p8 hs hsh8 hl8 hY8 e8
          have S8 := hid (((S6.out.trans (Step.of_below b7 (colB q))).trans (s7.B hc.1 hc.2)))
          have fin : ∀ e w9, AddedP O6 q wc b G3 nums (G.en Y).o.p (evs ++ [⟨1, x.n, (G.en Y).n, (G.en Y).o.p, k⟩]) (prs G.en G.live) s Y e w9 → e = .returned (.tuple #[]) ∧ TradedP O q w b G nums evs s X x (G.en Y) k (.returned (.tuple #[])) w9 := by
            rintro e w9 ⟨r1, O9, ls9, r2, r3, r4, r5⟩
            obtain ⟨y1, y2', y3⟩ := Mm.put_same hs G3 ls9 G3.en (fun _ _ => rfl) (fun _ _ => rfl)
            have lv9 := Mm.put_live hs G3 ls9 G3.en
            have lvY : (G3.put s ls9 G3.en).live.Perm (Y :: G3.live) := lv9.2.trans ((r4.append_right _).trans (lv9.1.symm.cons Y))
            have lvG : (G3.put s ls9 G3.en).live.Perm G1.live := by
              refine lvY.trans (List.Perm.trans ?_ LV6.out.symm)
              exact (lv8.2.trans lv8.1.symm).cons Y
            have st := S8.out.trans (r5.B hc.1 hc.2)
            refine ⟨r1, rfl, O9, _, r2.perm ?_, hd8.step r5 (fun e => c4 e.symm), ?_, ((U1.out.trans V1.out).trans z1).trans y1, ?_, st, fun D n => Trk.move st (fun E hE => .inl ⟨lvG.mem_iff.2 (LV5.out.mem_iff.2 hE), by rw [y3, hnn, NUM5.out]⟩)⟩
            · refine PRS.out.trans ((prs_perm _ lvG.symm).trans ?_)
              rw [y3]
              have := prs_congr (en := G1.en) (en' := G3.en) (l := (G3.put s ls9 G3.en).live) (fun E _ => hnn E)
              rw [this]
            · rw [y2', y3, r3, ph8, en8, FIN.out, PH6.out, popH_setH (show frontH (plainH (G.L s) G.en) = some (G.en Y) by rw [front_plain HOKY.out.sh, HYF.out]; rfl)]
            · rw [lvG.length_eq, LV5.out.length_eq]
              exact Nat.le_refl _
          have AD := hid (ad.mono fin)
          rw [hGH]
          clear fin ad hGH e8 hY8 hsh8 hl8 hnn ph8 en8 lv8 hd8 p8 z1 z2 z3 hG3 h8 far f1 f2 eY7 s7 kY hOY2 hd7 d7 p7 b7 hw7 hcut y0 y2 y8 y9 y10 hYl fy9 fy10 bm
          generalize TradedP O q w b G nums evs s X x (G.en Y) k = R at *
          go_wp2_with fail
          refine AD.out.mono ?_
          rintro e w9 ⟨rfl, r⟩
          have RR := hid r
          clear r
          go_wp2
          first | exact RR.out | (go_end0; exact RR.out)
end Go.Proofs.YtepldjidkomclaaGreat.Bo
namespace Go.Proofs.YtepldjidkomclaaGreat.Bo
set_option linter.unusedSimpArgs false
set_option linter.unusedVariables false
open Go.RowKit Go.Shelf
attribute [local go_sem] Oper.semAt_some
attribute [local go_sem ↓] Go.wp_at_zero Go.wp_at_succ
theorem PtC.putSideC {C : Nat → Prop} {O O' : Nat → Nat} {q : Nat} {w w' : World} {b : Nat} {G : Mm} {nums last : Int} {evs : List Ev} {m : List (Int × Nat)} (h : PtC O q w b G nums last evs m) {s : Int} (hs : s = 1 ∨ s = 2) (st : Step C O w O' w') (hC : ∀ x, colB q x → x ≠ q + 5 → x ≠ colS q s → ¬ C x) {ls : List Lv} {en : Nat → En}
    (hl : HlfC O' (colS q s) w' (G.H s) s ls en) (h1 : ∀ E ∈ ensL (G.L (3 - s)), en E = G.en E) (h2 : ∀ E ∈ G.wt, en E = G.en E) : PtC O' q w' b (G.put s ls en) nums last evs m := by
  obtain ⟨c1, c2, c3, c4, c5⟩ := colS_ne q hs
  have t := h.top.step st (hC _ ⟨by omega, by omega⟩ (by omega) (fun e => c2 e.symm))
  have mp := h.map.step st (hC _ ⟨by omega, by omega⟩ (by omega) (fun e => c5 e.symm))
  have wt := h.wait.step st (hC _ ⟨by omega, by omega⟩ (by omega) (fun e => c3 e.symm)) h2
  rcases hs with rfl | rfl
  · exact ⟨t, hl, h.sell.step st (hC _ ⟨by omega, by omega⟩ (by omega) (by simp [colS])) h1, mp, wt⟩
  · exact ⟨t, h.buy.step st (hC _ ⟨by omega, by omega⟩ (by omega) (by simp [colS])) h1, hl, mp, wt⟩
theorem PtC.give {O : Nat → Nat} {q : Nat} {w : World} {b : Nat} {G : Mm} {nums last : Int} {evs : List Ev} {m : List (Int × Nat)} (h : PtC O q w b G nums last evs m) {X : Nat} {x : En} (hX : HdC O (q + 5) w X x false) {s : Int} (hs : s = 1 ∨ s = 2) :
    PtC (paint O X (colS q s)) q w b (G.put s (G.L s) (setEn G.en X x)) nums last evs m ∧ HdC (paint O X (colS q s)) (colS q s) w X x false ∧ Step (colB q) O w (paint O X (colS q s)) w ∧ SameB s G (G.put s (G.L s) (setEn G.en X x)) ∧ X ∉ G.live ∧ (∀ E ∈ G.live, setEn G.en X x E = G.en E) := by
  obtain ⟨c1, c2, c3, c4, c5⟩ := colS_ne q hs
  have hc := colS_cases q hs
  have nS : ∀ {t : Int}, t = 1 ∨ t = 2 → X ∉ ensL (G.L t) := fun {t} ht hm => by
    have := ((h.side ht).entry hm).1
    rw [hX.col] at this
    have := (colS_ne q ht).2.2.2.1
    omega
  have nW : X ∉ G.wt := fun hm => by have := (h.wait.ent X hm).1; rw [hX.col] at this; omega
  have far : ∀ {t : Int}, t = 1 ∨ t = 2 → ∀ E ∈ ensL (G.L t), setEn G.en X x E = G.en E := fun {t} ht E hE => setEn_far _ _ (fun e => nS ht (by rw [← e]; exact hE))
  have farW : ∀ E ∈ G.wt, setEn G.en X x E = G.en E := fun E hE => setEn_far _ _ (fun e => nW (by rw [← e]; exact hE))
  have st : Step (fun c => c = q + 5 ∨ c = colS q s) O w (paint O X (colS q s)) w := Step.paint O w (.inl hX.col) (.inl (.inr rfl))
  have hl : HlfC (paint O X (colS q s)) (colS q s) w (G.H s) s (G.L s) (setEn G.en X x) :=
    (h.side hs).keptG (Kept.refl (fun _ => False) w) not_false (fun _ _ _ _ => not_false) (fun _ _ => ⟨not_false, fun _ _ => ⟨not_false, not_false⟩⟩) (fun k _ hk => by unfold paint; split; rfl; exact hk) (fun x hx y hy => far hs _ (mem_ens hx hy))
  refine ⟨h.putSideC hs st (fun c _ h5 hn => by rintro (e | e); exact h5 e; exact hn e) hl (far (other_side hs)) farW, ⟨hX.ent, paint_self _ _ _⟩, st.wider (fun c hc' => ?_), (Mm.put_same hs G (G.L s) _ (far (other_side hs)) farW).1, fun hm => ?_, fun E hE => ?_⟩
  · rcases hc' with rfl | rfl
    · exact ⟨by omega, by omega⟩
    · exact hc
  · have := (Mm.put_live hs G [] G.en).1.mem_iff.1 hm
    rcases List.mem_append.1 this with h1 | h1
    · exact nS hs h1
    · rcases List.mem_append.1 h1 with h1 | h1
      · exact nS (other_side hs) h1
      · exact nW h1
  · have := (Mm.put_live hs G [] G.en).1.mem_iff.1 hE
    rcases List.mem_append.1 this with h1 | h1
    · exact far hs E h1
    · rcases List.mem_append.1 h1 with h1 | h1
      · exact far (other_side hs) E h1
      · exact farW E h1
def RestedP (O : Nat → Nat) (q : Nat) (w : World) (b : Nat) (G : Mm) (nums last : Int) (evs : List Ev) (s : Int) (X : Nat) (x : En) (e : Ending) (w' : World) : Prop :=
  e = .returned (.tuple #[]) ∧ ∃ O' G', PtC O' q w' b G' nums last (evs ++ [⟨2, x.n, 0, x.o.p, x.l⟩]) (prs G'.en G'.live) ∧ plainH (G'.L s) G'.en = addH s { x with h := if 0 < x.o.pk then min x.o.pk x.l else x.l } (plainH (G.L s) G.en) ∧ SameB s G G' ∧ G'.live.Perm (X :: G.live) ∧ Step (colB q) O w O' w' ∧ (∀ E ∈ G.live, (G'.en E).n = (G.en E).n) ∧ (G'.en X).n = x.n
set_option maxRecDepth 100000 in
set_option maxHeartbeats 4000000 in
theorem rest_calls {O : Nat → Nat} {q : Nat} {w : World} {b : Nat} {G : Mm} {nums last : Int} {evs : List Ev} (h : PtC O q w b G nums last evs (prs G.en G.live)) {X : Nat} {x : En} (hX : HdC O (q + 5) w X x false) {s : Int} (hxs : x.o.s = s) (hs : s = 1 ∨ s = 2) (hok : HSh s (plainH (G.L s) G.en))
    (hlen : evs.length ≤ 3000000000000) (few : G.live.length ≤ 4096) (hn : (Lit.int .i64 x.n).wf = true) (hnew : x.n ∉ numsL (G.live.map G.en)) :
    Calls Tryz.prog 58 #[pt b, pt X] w (RestedP O q w b G nums last evs s X x) := by
  obtain ⟨c1, c2, c3, c4, c5⟩ := colS_ne q hs
  obtain ⟨hh, hhe⟩ : ∃ hh, hh = if 0 < x.o.pk then min x.o.pk x.l else x.l := ⟨_, rfl⟩
  obtain ⟨_, _, _, _, x8, x9, x10, hXl, fx9, fx10⟩ := hX.ent.cells
  have HH := hid h
  have HX := hid hX
  have HHE := hid hhe
  have HOK := hid hok
  have HXS := hid hxs
  have HN := hid hn
  have HNEW := hid hnew
  clear h hX hhe hok hxs hn hnew
  go_enter Tryz.func58, Tryz.ntmps58
  go_upto_if 16 with fail
  go_cut [] (fun wx => HdC O (q + 5) wx X { x with h := hh } false ∧ Kept (fun k => k = X) w wx)
  case first =>
    by_cases hp : 0 < x.o.pk
    · have hd : decide (0 < x.o.pk) = true := by simpa using hp
      have hmn : hh = min x.o.pk x.l := by rw [HHE.out, if_pos hp]
      have HMN := hid hmn
      clear hmn
      go_wp2
      go_region
      all_goals go_wp2
      all_goals go_meet
      all_goals (
        have hz : hh = min x.o.pk x.l := HMN.out
        refine ⟨⟨?_, HX.out.col⟩, (((Kept.refl (fun k => k = X) w).set (C := X) rfl 10 _).drew).set (C := X) rfl 10 _⟩
        first
        | (have h2 : hh = x.o.pk := by omega
           rw [h2]
           exact EnC.setH (Cells.drew (HX.out.ent.setH x.l)) x.o.pk)
        | (have h2 : hh = x.l := by omega
           rw [h2]
           exact EnC.setH (Cells.drew (HX.out.ent.setH x.l)) x.l))
    · have hp' : x.o.pk ≤ 0 := by omega
      have hmn : hh = x.l := by rw [HHE.out, if_neg (by omega)]
      have HMN := hid hmn
      clear hmn hp
      go_wp2
      go_meet
      refine ⟨⟨?_, HX.out.col⟩, (Kept.refl (fun k => k = X) w).set (C := X) rfl 10 _⟩
      rw [HMN.out]
      exact HX.out.ent.setH x.l
  case rest =>
    obtain ⟨hX, hk⟩ := hcut
    have s0 : Step (fun c => c = q + 5) O w O wc := Step.of_kept0 hk (fun k _ e => by rw [e]; exact HX.out.col)
    have h := HH.out.step s0 (fun c _ h5 e => h5 e)
    obtain ⟨x0, _, x2, _, _, _, _, hXl, _, _⟩ := hX.ent.cells
    obtain ⟨_, bm, _, _, hbl, _, _⟩ := h.cells hs
    simp only at x0 x2
    obtain ⟨w2, r1, r2, r3⟩ := put_pt (n := x.n) (E := X) (h.below ((Below.refl _ wc).drew)) (by simp [prs]; omega) HN.out (by rw [prs_fst]; exact HNEW.out)
    have S2 := hid (((s0.B (by omega) (by omega)).trans (Step.of_below ((Below.refl _ wc).drew) (colB q))).trans (r3.B (by omega) (by omega)))
    have H2 := hid r2
    have X2 := hid ((hX.below ((Below.refl _ wc).drew)).step r3 (by omega))
    have R1 := hid r1
    clear h hX hk s0 r1 r2 r3 x8 x9 x10 fx9 fx10
    go_wp2
    refine region_tail 9 (by kernel_rfl) (by kernel_rfl) ?_
    simp only [List.take_succ_cons, List.take_zero, List.drop_succ_cons, List.drop_zero]
    repeat still_step
    refine wpStill_nil ?_
    refine wpList_mapUpdate_run rfl (.tmp 33) (.tmp 37) (.tmp 38) _ rfl _ _ _ w2 rfl rfl rfl R1.out ?_
    obtain ⟨w3, hw3⟩ : ∃ w3, w3 = w2.drew := ⟨_, rfl⟩
    have b3 : Below w2.heap.size w2 w3 := by rw [hw3]; exact (Below.refl _ w2).drew
    have X3 := X2.out.below b3
    obtain ⟨p4, d4, s4, v4, n4, f4⟩ := (H2.out.below b3).give X3 hs
    obtain ⟨G2, hG2⟩ : ∃ G2, G2 = G.put s (G.L s) (setEn G.en X { x with h := hh }) := ⟨_, rfl⟩
    have z := Mm.put_same hs G (G.L s) (setEn G.en X { x with h := hh }) (fun E hE => f4 E ((Mm.put_live hs G [] G.en).1.mem_iff.2 (List.mem_append_right _ (List.mem_append_left _ hE)))) (fun E hE => f4 E ((Mm.put_live hs G [] G.en).1.mem_iff.2 (List.mem_append_right _ (List.mem_append_right _ hE))))
    have lv := Mm.put_live hs G (G.L s) (setEn G.en X { x with h := hh })
    rw [← hG2] at p4 v4 z lv
    have en2 : G2.en X = { x with h := hh } := by rw [z.2.2, setEn_self]
    have farL : ∀ E ∈ ensL (G.L s), setEn G.en X { x with h := hh } E = G.en E := fun E hE => f4 E ((Mm.put_live hs G [] G.en).1.mem_iff.2 (List.mem_append_left _ hE))
    have ph2 : plainH (G2.L s) G2.en = plainH (G.L s) G.en := by rw [z.2.1, z.2.2]; exact plainH_congr farL
    have hX2 : X ∉ ensL (G2.L s) := by rw [z.2.1]; exact fun hm => n4 ((Mm.put_live hs G [] G.en).1.mem_iff.2 (List.mem_append_left _ hm))
    have hl2 : (ensL (G2.L s)).length ≤ 5000 := by rw [z.2.1]; have := few_side (G := G) hs; omega
    have ad := add_pt p4 hs (by rw [ph2]; exact HOK.out) hl2 hX2 (by rw [en2]; exact d4)
    have S3 := hid ((S2.out.trans (Step.of_below b3 (colB q))).trans s4)
    have hgh : G.H s = G2.H s := v4.H.symm
    rw [← hgh] at ad
    have PL := hid (show ∀ ls9, (G2.put s ls9 G2.en).live.Perm (ensL ls9 ++ (ensL (G2.L (3 - s)) ++ G2.wt)) ∧ G2.live.Perm (ensL (G2.L s) ++ (ensL (G2.L (3 - s)) ++ G2.wt)) from fun ls9 => ⟨(Mm.put_live hs G2 ls9 G2.en).2, (Mm.put_live hs G2 ls9 G2.en).1⟩)
    have LV := hid (lv.2.trans lv.1.symm : G2.live.Perm G.live)
    have PRS := hid (show prs G2.en G.live = prs G.en G.live from prs_congr (fun E hE => by rw [z.2.2, f4 E hE]))
    have NE2 := hid (show ∀ E ∈ G.live, (G2.en E).n = (G.en E).n from fun E hE => by rw [z.2.2, f4 E hE])
    have EN2 := hid en2
    have V4 := hid v4
    have PH2 := hid ph2
    have AD := hid ad
    obtain ⟨_, _, x2, _, _, _, _, hXl, _, _⟩ := X2.out.ent.cells
    simp only at x2
    rw [HXS.out] at x2
    obtain ⟨bs, _, _, _, hbl, _, _⟩ := H2.out.cells hs
    have hs3 : 0 ≤ s ∧ s < 3 := by omega
    have HW3 := hid hw3
    clear p4 d4 s4 v4 n4 f4 hG2 z lv en2 farL ph2 hX2 hl2 ad hgh X3 b3 x0 hw3 bm
    go_wp2
    refine region_tail 11 (by kernel_rfl) (by kernel_rfl) ?_
    simp only [List.take_succ_cons, List.take_zero, List.drop_succ_cons, List.drop_zero]
    repeat still_step
    refine wpStill_nil ?_
    go_wp2_with fail
    rw [← HW3.out]
    refine AD.out.mono ?_
    rintro e w4 ⟨rfl, O4, ls4, p4, a4, l4, s4⟩
    obtain ⟨y1, y2, y3⟩ := Mm.put_same hs G2 ls4 G2.en (fun _ _ => rfl) (fun _ _ => rfl)
    have lv4 := PL.out ls4
    have PL4 := hid (show (G2.put s ls4 G2.en).live.Perm (X :: G.live) from lv4.1.trans ((l4.append_right _).trans ((lv4.2.symm.cons X).trans (LV.out.cons X))))
    obtain ⟨G4, hG4⟩ : ∃ G4, G4 = G2.put s ls4 G2.en := ⟨_, rfl⟩
    rw [← hG4] at p4 y1 y2 y3 PL4
    obtain ⟨P, eX⟩ := ((p4.side hs).entry (E := X) (by rw [y2]; exact l4.mem_iff.2 (by simp))).2
    rw [y3, EN2.out] at eX
    obtain ⟨_, _, _, x5, _, x9, _, hXl, _, _⟩ := eX.cells
    simp only at x5 x9
    have fin : ∀ e w', ToldP O4 q w4.drew b G4 nums last (evs ++ [⟨2, x.n, 0, x.o.p, x.l⟩]) ((x.n, X) :: prs G.en G.live) e w' → e = .returned (.tuple #[]) ∧ RestedP O q w b G nums last evs s X x (.returned (.tuple #[])) w' := by
      rintro e w' ⟨r1, O', r2, r3⟩
      have hc := colS_cases q hs
      refine ⟨r1, rfl, O', G4, r2.perm ?_, ?_, V4.out.trans y1, PL4.out, (((S3.out.trans (s4.B hc.1 hc.2)).trans (Step.of_below ((Below.refl _ w4).drew) (colB q))).trans (r3.B (by omega) (by omega))), fun E hE => by rw [y3]; exact NE2.out E hE, by rw [y3, EN2.out]⟩
      · refine List.Perm.trans ?_ (prs_perm _ PL4.out.symm)
        rw [y3]
        show List.Perm _ (((G2.en X).n, X) :: prs G2.en G.live)
        rw [EN2.out, PRS.out]
      · rw [y2, y3, a4, PH2.out, EN2.out, HHE.out]
    have TL := hid ((tell_pt (p4.below ((Below.refl _ w4).drew)) hlen (EnC.kept eX (X := fun _ => False) (((Kept.refl _ w4).drew)) not_false) 2 0 x.o.p x.l).mono fin)
    clear fin p4 a4 l4 s4 y1 y2 y3 lv4 hG4 eX x2 bs
    generalize RestedP O q w b G nums last evs s X x = R at *
    go_wp2
    refine region_tail 11 (by kernel_rfl) (by kernel_rfl) ?_
    simp only [List.take_succ_cons, List.take_zero, List.drop_succ_cons, List.drop_zero]
    repeat still_step
    refine wpStill_nil ?_
    go_wp2_with fail
    refine TL.out.mono ?_
    rintro e w9 ⟨rfl, r⟩
    have RR := hid r
    clear r
    go_wp2
    first | exact RR.out | (go_end0; exact RR.out)
end Go.Proofs.YtepldjidkomclaaGreat.Bo
namespace Go.Proofs.YtepldjidkomclaaGreat.Bo
set_option linter.unusedSimpArgs false
set_option linter.unusedVariables false
open Go.RowKit Go.Shelf
attribute [local go_sem] Oper.semAt_some
attribute [local go_sem ↓] Go.wp_at_zero Go.wp_at_succ
structure MtC (O0 O : Nat → Nat) (q : Nat) (w0 w : World) (b : Nat) (G0 G : Mm) (nums : Int) (X : Nat) (x : En) (B4 : Nat) (s : Mt) : Prop where
  pt : PtC O q w b G nums s.last s.evs (prs G.en G.live)
  hd : HdC O (q + 5) w X { x with l := s.left } false
  ok : MtOk (3 - x.o.s) nums x.n s
  ph : plainH (G.L (3 - x.o.s)) G.en = s.h
  same : SameB (3 - x.o.s) G0 G
  len : G.live.length ≤ G0.live.length
  box : Cells w B4 x.o.vals 34
  colb : O B4 = q
  step : Step (colB q) O0 w0 O w
  sum : s.evs.length + sizeH s.h ≤ 2999999999998
  trk : ∀ D n, Trk O0 w0 G0 D n → Trk O w G D n
theorem meetF_stop {o : Od} {n S : Int} {s : Mt} (h : ¬ 0 < s.left ∨ meetsH o s.h = false) : ∀ k, meetF o n S k s = s
  | 0 => rfl
  | k + 1 => by
    unfold meetF
    rcases h with h | h
    · rw [if_neg h]
    · split
      · unfold meetsH at h
        cases hf : frontH s.h with
        | none => rfl
        | some y =>
          rw [hf] at h
          simp only at h ⊢
          rw [h]
          rfl
      · rfl
theorem meetF_go {o : Od} {n S : Int} {s : Mt} {y : En} (h1 : 0 < s.left) (h2 : frontH s.h = some y) (h3 : o.good y.o.p = true) (k : Nat) : meetF o n S (k + 1) s = meetF o n S k (meet1 o n S y s) := by
  rw [meetF, if_pos h1, h2]
  simp only
  rw [h3]
  rfl
theorem meetsH_front {o : Od} {h : Half} (hm : meetsH o h = true) : ∃ y, frontH h = some y ∧ o.good y.o.p = true := by
  unfold meetsH at hm
  cases hf : frontH h with
  | none => rw [hf] at hm; cases hm
  | some y => rw [hf] at hm; exact ⟨y, rfl, hm⟩
theorem size_front {side nums : Int} {h : Half} (hh : HOk side nums h) {y : En} (hf : frontH h = some y) : 1 ≤ sizeH h := by
  rcases hh.cases with ⟨_, h2⟩ | ⟨p, y', q, r, hr, h2, hp, he⟩
  · rw [h2] at hf; cases hf
  · rw [hr, sizeH_eq, all_cons]
    show 1 ≤ y'.l.toNat + 1 + _
    omega
def ComeP (O : Nat → Nat) (q : Nat) (w : World) (b : Nat) (G : Mm) (nums last : Int) (evs : List Ev) (X : Nat) (x : En) (e : Ending) (w' : World) : Prop :=
  e = .returned (.tuple #[]) ∧ ∃ O' G' last', BdC O' q w' b G' nums last' (comeF (G.bd nums last) x.n x.o x.l evs).2 ∧ G'.bd nums last' = (comeF (G.bd nums last) x.n x.o x.l evs).1 ∧ G'.live.length ≤ G.live.length + 1 ∧ Step (colB q) O w O' w' ∧ (∀ D n, Trk O w G D n → Trk O' w' G' D n) ∧ Trk O' w' G' X x.n
end Go.Proofs.YtepldjidkomclaaGreat.Bo
