/- The parts of a board in memory, and how they change. No function of the program in sight. tell, take, add, and the map's changes, in terms of a board's parts; board.trade. -/
import Derived.Test.YtdjhpldiifdifaaJBrd1
namespace Go.Proofs.Ytdjhpldiifdifaa
set_option linter.unusedSimpArgs false
set_option linter.unusedVariables false
open Go.RowKit Go.Shelf

/-- The parts of a board in memory. -/
structure PtC (O : Nat → Nat) (q : Nat) (w : World) (b : Nat) (G : Mm) (nums last : Int) (evs : List Ev) (m : List (Int × Nat)) : Prop where
  top : TopC O (q + 3) w b G.hb G.hs G.mb G.wt nums last evs
  buy : HlfC O (q + 1) w G.hb 1 G.lb G.en
  sell : HlfC O (q + 2) w G.hs 2 G.ls G.en
  map : MpC O (q + 6) w G.mb m
  wait : WtC O (q + 4) w G.wt G.en
theorem PtC.step {C : Nat → Prop} {O O' : Nat → Nat} {q : Nat} {w w' : World} {b : Nat} {G : Mm} {nums last : Int} {evs : List Ev} {m : List (Int × Nat)} (h : PtC O q w b G nums last evs m) (s : Step C O w O' w') (hc : ∀ x, colB q x → x ≠ q + 5 → ¬ C x) : PtC O' q w' b G nums last evs m :=
  ⟨h.top.step s (hc _ ⟨by omega, by omega⟩ (by omega)), h.buy.step s (hc _ ⟨by omega, by omega⟩ (by omega)) (fun _ _ => rfl), h.sell.step s (hc _ ⟨by omega, by omega⟩ (by omega)) (fun _ _ => rfl), h.map.step s (hc _ ⟨by omega, by omega⟩ (by omega)), h.wait.step s (hc _ ⟨by omega, by omega⟩ (by omega)) (fun _ _ => rfl)⟩
theorem PtC.below {O : Nat → Nat} {q : Nat} {w w' : World} {b : Nat} {G : Mm} {nums last : Int} {evs : List Ev} {m : List (Int × Nat)} (h : PtC O q w b G nums last evs m) (hb : Below w.heap.size w w') : PtC O q w' b G nums last evs m := h.step (Step.of_below hb (fun _ => False)) (fun _ _ _ => not_false)
theorem HdC.below {O : Nat → Nat} {c : Nat} {w w' : World} {X : Nat} {e : En} {b : Bool} (h : HdC O c w X e b) (hb : Below w.heap.size w w') : HdC O c w' X e b := h.step (Step.of_below hb (fun _ => False)) not_false
theorem PtC.side {O : Nat → Nat} {q : Nat} {w : World} {b : Nat} {G : Mm} {nums last : Int} {evs : List Ev} {m : List (Int × Nat)} (h : PtC O q w b G nums last evs m) {s : Int} (hs : s = 1 ∨ s = 2) : HlfC O (colS q s) w (G.H s) s (G.L s) G.en := by
  rcases hs with rfl | rfl
  · exact h.buy
  · exact h.sell
theorem BdC.parts {O : Nat → Nat} {q : Nat} {w : World} {b : Nat} {G : Mm} {nums last : Int} {evs : List Ev} (h : BdC O q w b G nums last evs) : PtC O q w b G nums last evs (prs G.en G.live) := ⟨h.top, h.buy, h.sell, h.map, h.wait⟩
theorem PtC.board {O : Nat → Nat} {q : Nat} {w : World} {b : Nat} {G : Mm} {nums last : Int} {evs : List Ev} (h : PtC O q w b G nums last evs (prs G.en G.live)) (ok : BdOk (G.bd nums last)) (few : G.live.length ≤ 4096) : BdC O q w b G nums last evs := ⟨h.top, h.buy, h.sell, h.map, h.wait, ok, few⟩
/-- The board with another side. -/
def Mm.put (G : Mm) (s : Int) (ls : List Lv) (en : Nat → En) : Mm := if s = 1 then { G with lb := ls, en := en } else { G with ls := ls, en := en }
/-- What a change of a side leaves alone. -/
structure SameB (s : Int) (G G' : Mm) : Prop where
  hb : G'.hb = G.hb
  hs : G'.hs = G.hs
  mb : G'.mb = G.mb
  wt : G'.wt = G.wt
  far : G'.L (3 - s) = G.L (3 - s)
  enF : ∀ E ∈ ensL (G.L (3 - s)), G'.en E = G.en E
  enW : ∀ E ∈ G.wt, G'.en E = G.en E
theorem SameB.refl (s : Int) (G : Mm) : SameB s G G := ⟨rfl, rfl, rfl, rfl, rfl, fun _ _ => rfl, fun _ _ => rfl⟩
theorem SameB.trans {s : Int} {G G' G'' : Mm} (h : SameB s G G') (g : SameB s G' G'') : SameB s G G'' :=
  ⟨g.hb.trans h.hb, g.hs.trans h.hs, g.mb.trans h.mb, g.wt.trans h.wt, g.far.trans h.far, fun E hE => (g.enF E (by rw [h.far]; exact hE)).trans (h.enF E hE), fun E hE => (g.enW E (by rw [h.wt]; exact hE)).trans (h.enW E hE)⟩
theorem SameB.H {s t : Int} {G G' : Mm} (h : SameB s G G') : G'.H t = G.H t := by unfold Mm.H; rw [h.hb, h.hs]
theorem SameB.plainF {s : Int} {G G' : Mm} (h : SameB s G G') : plainH (G'.L (3 - s)) G'.en = plainH (G.L (3 - s)) G.en := by rw [h.far]; exact plainH_congr h.enF
theorem SameB.plainW {s : Int} {G G' : Mm} (h : SameB s G G') : G'.wt.map G'.en = G.wt.map G.en := by rw [h.wt]; exact List.map_congr_left h.enW
theorem Mm.put_same {s : Int} (hs : s = 1 ∨ s = 2) (G : Mm) (ls : List Lv) (en : Nat → En) (h1 : ∀ E ∈ ensL (G.L (3 - s)), en E = G.en E) (h2 : ∀ E ∈ G.wt, en E = G.en E) : SameB s G (G.put s ls en) ∧ (G.put s ls en).L s = ls ∧ (G.put s ls en).en = en := by
  rcases hs with rfl | rfl
  · exact ⟨⟨rfl, rfl, rfl, rfl, rfl, h1, h2⟩, rfl, rfl⟩
  · exact ⟨⟨rfl, rfl, rfl, rfl, rfl, h1, h2⟩, rfl, rfl⟩
theorem Mm.put_live {s : Int} (hs : s = 1 ∨ s = 2) (G : Mm) (ls : List Lv) (en : Nat → En) : G.live.Perm (ensL (G.L s) ++ (ensL (G.L (3 - s)) ++ G.wt)) ∧ (G.put s ls en).live.Perm (ensL ls ++ (ensL (G.L (3 - s)) ++ G.wt)) := by
  rcases hs with rfl | rfl
  · exact ⟨List.Perm.refl _, List.Perm.refl _⟩
  · refine ⟨?_, ?_⟩
    · show (ensL G.lb ++ (ensL G.ls ++ G.wt)).Perm (ensL G.ls ++ (ensL G.lb ++ G.wt))
      rw [← List.append_assoc, ← List.append_assoc]
      exact (List.perm_append_comm).append_right _
    · show (ensL G.lb ++ (ensL ls ++ G.wt)).Perm (ensL ls ++ (ensL G.lb ++ G.wt))
      rw [← List.append_assoc, ← List.append_assoc]
      exact (List.perm_append_comm).append_right _
theorem colS_ne (q : Nat) {s : Int} (hs : s = 1 ∨ s = 2) : colS q (3 - s) ≠ colS q s ∧ colS q s ≠ q + 3 ∧ colS q s ≠ q + 4 ∧ colS q s ≠ q + 5 ∧ colS q s ≠ q + 6 := by rcases hs with rfl | rfl <;> simp [colS]
/-- A side is another one. -/
theorem PtC.putSide {O O' : Nat → Nat} {q : Nat} {w w' : World} {b : Nat} {G : Mm} {nums last : Int} {evs : List Ev} {m : List (Int × Nat)} (h : PtC O q w b G nums last evs m) {s : Int} (hs : s = 1 ∨ s = 2) (st : Step (fun x => x = colS q s) O w O' w') {ls : List Lv} {en : Nat → En}
    (hl : HlfC O' (colS q s) w' (G.H s) s ls en) (h1 : ∀ E ∈ ensL (G.L (3 - s)), en E = G.en E) (h2 : ∀ E ∈ G.wt, en E = G.en E) : PtC O' q w' b (G.put s ls en) nums last evs m := by
  obtain ⟨c1, c2, c3, c4, c5⟩ := colS_ne q hs
  have t := h.top.step st (fun e => c2 e.symm)
  have mp := h.map.step st (fun e => c5 e.symm)
  have wt := h.wait.step st (fun e => c3 e.symm) h2
  rcases hs with rfl | rfl
  · exact ⟨t, hl, h.sell.step st (by simp [colS]) h1, mp, wt⟩
  · exact ⟨t, h.buy.step st (by simp [colS]) h1, hl, mp, wt⟩
theorem PtC.enF {O : Nat → Nat} {q : Nat} {w : World} {b : Nat} {G : Mm} {nums last : Int} {evs : List Ev} {m : List (Int × Nat)} (h : PtC O q w b G nums last evs m) {s : Int} (hs : s = 1 ∨ s = 2) {Y : Nat} (hY : O Y = colS q s) (e : En) : (∀ E ∈ ensL (G.L (3 - s)), setEn G.en Y e E = G.en E) ∧ ∀ E ∈ G.wt, setEn G.en Y e E = G.en E := by
  obtain ⟨c1, c2, c3, c4, c5⟩ := colS_ne q hs
  refine ⟨fun E hE => setEn_far _ _ (fun e => ?_), fun E hE => setEn_far _ _ (fun e => ?_)⟩
  · have := ((h.side (other_side hs)).entry hE).1
    rw [e, hY] at this
    exact c1 this.symm
  · have := (h.wait.ent E hE).1
    rw [e, hY] at this
    exact c3 this
theorem prs_congr {en en' : Nat → En} {l : List Nat} (h : ∀ E ∈ l, (en' E).n = (en E).n) : prs en' l = prs en l := List.map_congr_left fun E hE => by rw [h E hE]
theorem prs_perm (en : Nat → En) {l m : List Nat} (h : l.Perm m) : (prs en l).Perm (prs en m) := h.map _
theorem setEn_n (en : Nat → En) (Y : Nat) (e : En) (h : e.n = (en Y).n) (E : Nat) : (setEn en Y e E).n = (en E).n := by
  unfold setEn
  split
  · rename_i hE; rw [h, hE]
  · rfl
/-- The board's own cells change. -/
theorem TopC.setLast {O : Nat → Nat} {c : Nat} {w : World} {b hb hs mb : Nat} {wt : List Nat} {nums last : Int} {evs : List Ev} (h : TopC O c w b hb hs mb wt nums last evs) (l : Int) : TopC O c (w.setCell ⟨b, 6, none⟩ (.int .i64 l)) b hb hs mb wt nums l evs := by
  obtain ⟨vw, ve, h1, h2, h3, h4, h5⟩ := h.cell
  exact ⟨⟨vw, ve, h1.set 6 (.int .i64 l), h2.set h1 (by decide) 6 _, h3.set h1 (by decide) 6 _, h4, h5⟩, h.col⟩
theorem TopC.setNums {O : Nat → Nat} {c : Nat} {w : World} {b hb hs mb : Nat} {wt : List Nat} {nums last : Int} {evs : List Ev} (h : TopC O c w b hb hs mb wt nums last evs) (l : Int) : TopC O c (w.setCell ⟨b, 5, none⟩ (.int .i64 l)) b hb hs mb wt l last evs := by
  obtain ⟨vw, ve, h1, h2, h3, h4, h5⟩ := h.cell
  exact ⟨⟨vw, ve, h1.set 5 (.int .i64 l), h2.set h1 (by decide) 5 _, h3.set h1 (by decide) 5 _, h4, h5⟩, h.col⟩
/-- An entry's left, shown. -/
theorem EnC.setL {w : World} {X : Nat} {e : En} {b : Bool} {p : Option Nat} (h : EnC w X e b p) (l : Int) : EnC (w.setCell ⟨X, 9, none⟩ (.int .i64 l)) X { e with l := l } b p := Cells.set h 9 (.int .i64 l)
theorem EnC.setH {w : World} {X : Nat} {e : En} {b : Bool} {p : Option Nat} (h : EnC w X e b p) (l : Int) : EnC (w.setCell ⟨X, 10, none⟩ (.int .i64 l)) X { e with h := l } b p := Cells.set h 10 (.int .i64 l)
theorem EnC.far {w : World} {X C : Nat} {e : En} {b : Bool} {p : Option Nat} (h : EnC w X e b p) (j : Nat) (v : Value) (hne : X ≠ C) : EnC (w.setCell ⟨C, j, none⟩ v) X e b p := Cells.set_far h j v hne
theorem Step.B {O O' : Nat → Nat} {q c : Nat} {w w' : World} (h : Step (fun x => x = c) O w O' w') (h1 : q < c) (h2 : c ≤ q + 6) : Step (colB q) O w O' w' := h.wider (colB_of h1 h2)

/-- An entry is known: it is on the board, or dead (of colour 0), and its number is what it was. -/
def Trk (O : Nat → Nat) (w : World) (G : Mm) (X : Nat) (n : Int) : Prop := (X ∈ G.live ∧ (G.en X).n = n) ∨ (O X = 0 ∧ X < w.heap.size ∧ w.cell? ⟨X, 0, none⟩ = some (.int .i64 n))
theorem Trk.move {O O' : Nat → Nat} {q : Nat} {w w' : World} {G G' : Mm} (st : Step (colB q) O w O' w') (hl : ∀ E ∈ G.live, (E ∈ G'.live ∧ (G'.en E).n = (G.en E).n) ∨ (O' E = 0 ∧ E < w'.heap.size ∧ w'.cell? ⟨E, 0, none⟩ = some (.int .i64 (G.en E).n))) {X : Nat} {n : Int} (h : Trk O w G X n) : Trk O' w' G' X n := by
  rcases h with ⟨h1, h2⟩ | ⟨h1, h2, h3⟩
  · rw [← h2]
    exact hl X h1
  · obtain ⟨g1, g2⟩ := st.old X h2 (by rw [h1]; exact fun e => absurd e.1 (by omega))
    refine .inr ⟨by rw [g2, h1], Nat.lt_of_lt_of_le h2 st.size, ?_⟩
    rw [← h3]
    simp [World.cell?, World.cells?, g1]
theorem Trk.same {O O' : Nat → Nat} {q : Nat} {w w' : World} {G : Mm} (st : Step (colB q) O w O' w') {X : Nat} {n : Int} (h : Trk O w G X n) : Trk O' w' G X n := Trk.move st (fun E hE => .inl ⟨hE, rfl⟩) h
/-- An entry that is in none of the queues gets another colour. -/
theorem HlfC.recol {O O' : Nat → Nat} {c : Nat} {w : World} {H : Nat} {side : Int} {ls : List Lv} {en : Nat → En} (h : HlfC O c w H side ls en) {Y : Nat} {y : En} {wy : Bool} {py : Option Nat} (hY : EnC w Y y wy py) (hn : Y ∉ ensL ls) (hO : ∀ k, k ≠ Y → O' k = O k) : HlfC O' c w H side ls en := by
  obtain ⟨v, h1, h2, h3⟩ := h.cell
  refine ⟨⟨v, h1, h2, fun b hb => ?_⟩, ?_, fun x hx => ?_, h.nodL, h.nodE, h.nodN⟩
  · obtain ⟨cs, hcs⟩ := own_lt h2 hb
    rw [hO b (hcs.ne hY (by decide)), h3 b hb]
  · rw [hO H (h1.ne hY (by decide)), h.col]
  · obtain ⟨g1, g2, g3⟩ := h.lv x hx
    refine ⟨g1, by rw [hO _ (g1.c.ne hY (by decide)), g2], fun y' hy' => ?_⟩
    obtain ⟨k1, k2, k3⟩ := g3 y' hy'
    obtain ⟨cs, hcs⟩ := g1.l.mem y' hy'
    exact ⟨by rw [hO _ (hcs.ne hY (by decide)), k1], by rw [hO _ (fun e => hn (by rw [← e]; exact mem_ens hx hy')), k2], k3⟩
/-- A dead entry. -/
theorem PtC.bury {O : Nat → Nat} {q : Nat} {w : World} {b : Nat} {G : Mm} {nums last : Int} {evs : List Ev} {m : List (Int × Nat)} (h : PtC O q w b G nums last evs m) {s : Int} (hs : s = 1 ∨ s = 2) {Y : Nat} {y : En} {wy : Bool} (hY : HdC O (colS q s) w Y y wy) (hn : Y ∉ ensL (G.L s)) :
    PtC (paint O Y 0) q w b G nums last evs m ∧ Step (colB q) O w (paint O Y 0) w ∧ (paint O Y 0) Y = 0 ∧ Y < w.heap.size ∧ w.cell? ⟨Y, 0, none⟩ = some (.int .i64 y.n) := by
  obtain ⟨c1, c2, c3, c4, c5⟩ := colS_ne q hs
  have st : Step (fun c => c = colS q s) O w (paint O Y 0) w := Step.paint O w hY.col (.inr rfl)
  have hl := (h.side hs).recol (O' := paint O Y 0) hY.ent hn (fun k hk => paint_far O hk)
  have hc := colS_cases q hs
  have t := h.top.step st (fun e => c2 e.symm)
  have mp := h.map.step st (fun e => c5 e.symm)
  have wt := h.wait.step st (fun e => c3 e.symm) (fun _ _ => rfl)
  refine ⟨?_, st.B hc.1 hc.2, paint_self _ _ _, hY.ent.lt, by rw [Cells.cell hY.ent]; rfl⟩
  rcases hs with rfl | rfl
  · exact ⟨t, hl, h.sell.step st (by simp [colS]) (fun _ _ => rfl), mp, wt⟩
  · exact ⟨t, h.buy.step st (by simp [colS]) (fun _ _ => rfl), hl, mp, wt⟩
/-- The entry in hand dies. -/
theorem PtC.bury5 {O : Nat → Nat} {q : Nat} {w : World} {b : Nat} {G : Mm} {nums last : Int} {evs : List Ev} {m : List (Int × Nat)} (h : PtC O q w b G nums last evs m) {Y : Nat} {y : En} {wy : Bool} (hY : HdC O (q + 5) w Y y wy) :
    PtC (paint O Y 0) q w b G nums last evs m ∧ Step (colB q) O w (paint O Y 0) w ∧ (paint O Y 0) Y = 0 ∧ Y < w.heap.size ∧ w.cell? ⟨Y, 0, none⟩ = some (.int .i64 y.n) := by
  have st : Step (fun c => c = q + 5) O w (paint O Y 0) w := Step.paint O w hY.col (.inr rfl)
  exact ⟨h.step st (fun c _ h5 e => h5 e), st.B (by omega) (by omega), paint_self _ _ _, hY.ent.lt, by rw [Cells.cell hY.ent]; rfl⟩

/-- The front has traded: before it is taken off. -/
theorem trade_mid {O : Nat → Nat} {q : Nat} {w : World} {b : Nat} {G : Mm} {nums last : Int} {evs : List Ev} {m : List (Int × Nat)} (h : PtC O q w b G nums last evs m) {X : Nat} {x : En} (hX : HdC O (q + 5) w X x false) {s : Int} (hs : s = 1 ∨ s = 2) {Y : Nat} (hY : frontL (G.L s) = some Y) (k : Int) (w' : World)
    (hw : w' = (((w.setCell ⟨X, 9, none⟩ (.int .i64 (x.l - k))).setCell ⟨Y, 9, none⟩ (.int .i64 ((G.en Y).l - k))).setCell ⟨Y, 10, none⟩ (.int .i64 ((G.en Y).h - k))).setCell ⟨b, 6, none⟩ (.int .i64 (G.en Y).o.p)) :
    PtC O q w' b (G.put s (G.L s) (setEn G.en Y { (G.en Y) with l := (G.en Y).l - k, h := (G.en Y).h - k })) nums (G.en Y).o.p evs m ∧ HdC O (q + 5) w' X { x with l := x.l - k } false ∧ plainH (G.L s) (setEn G.en Y { (G.en Y) with l := (G.en Y).l - k, h := (G.en Y).h - k }) = setH { (G.en Y) with l := (G.en Y).l - k, h := (G.en Y).h - k } (plainH (G.L s) G.en) ∧ Step (colB q) O w O w' := by
  obtain ⟨c1, c2, c3, c4, c5⟩ := colS_ne q hs
  obtain ⟨hOY, E, eY⟩ := (h.side hs).front hY
  have hXY : X ≠ Y := fun e => by have := hX.col; rw [e, hOY] at this; omega
  obtain ⟨vw, ve, t1, _⟩ := h.top.cell
  have hbX : b ≠ X := t1.ne hX.ent (by decide)
  have hbY : b ≠ Y := t1.ne eY (by decide)
  -- the entry in hand
  have s1 : Step (fun c => c = q + 5) O w O (w.setCell ⟨X, 9, none⟩ (.int .i64 (x.l - k))) := Step.set hX.col 9 _
  have p1 := h.step s1 (fun c _ hn e => hn e)
  have x1 : HdC O (q + 5) (w.setCell ⟨X, 9, none⟩ (.int .i64 (x.l - k))) X { x with l := x.l - k } false := ⟨hX.ent.setL _, hX.col⟩
  obtain ⟨w1, hw1⟩ : ∃ w1, w1 = w.setCell ⟨X, 9, none⟩ (.int .i64 (x.l - k)) := ⟨_, rfl⟩
  rw [← hw1] at s1 p1 x1 hw
  -- the front
  obtain ⟨w3, hw3⟩ : ∃ w3, w3 = (w1.setCell ⟨Y, 9, none⟩ (.int .i64 ((G.en Y).l - k))).setCell ⟨Y, 10, none⟩ (.int .i64 ((G.en Y).h - k)) := ⟨_, rfl⟩
  rw [← hw3] at hw
  have kY : Kept (fun c => c = Y) w1 w3 := by rw [hw3]; exact ((Kept.refl (fun c => c = Y) w1).set (C := Y) rfl 9 _).set (C := Y) rfl 10 _
  have s3 : Step (fun c => c = colS q s) O w1 O w3 := Step.of_kept0 kY (fun c _ e => by rw [e]; exact hOY)
  obtain ⟨g1, g2⟩ := (p1.side hs).setFront hY kY (e := { (G.en Y) with l := (G.en Y).l - k, h := (G.en Y).h - k }) (fun P eP => by rw [hw3]; exact (eP.setL _).setH _)
  obtain ⟨f1, f2⟩ := p1.enF hs hOY { (G.en Y) with l := (G.en Y).l - k, h := (G.en Y).h - k }
  have p3 := p1.putSide hs s3 g1 f1 f2
  have x3 : HdC O (q + 5) w3 X { x with l := x.l - k } false := x1.step s3 (fun e => c4 e.symm)
  -- the last price
  have s4 : Step (fun c => c = q + 3) O w3 O w' := by rw [hw]; exact Step.set h.top.col 6 _
  refine ⟨⟨?_, p3.buy.step s4 (by omega) (fun _ _ => rfl), p3.sell.step s4 (by omega) (fun _ _ => rfl), p3.map.step s4 (by omega), p3.wait.step s4 (by omega) (fun _ _ => rfl)⟩, x3.step s4 (by omega), g2, ?_⟩
  · rw [hw]; exact p3.top.setLast _
  · have hc := colS_cases q hs
    exact ((s1.B (by omega) (by omega)).trans (s3.B hc.1 hc.2)).trans (s4.B (by omega) (by omega))
end Go.Proofs.Ytdjhpldiifdifaa
namespace Go.Proofs.Ytdjhpldiifdifaa
set_option linter.unusedSimpArgs false
set_option linter.unusedVariables false
open Go.RowKit Go.Shelf
attribute [local go_sem] Oper.semAt_some
attribute [local go_sem ↓] Go.wp_at_zero Go.wp_at_succ

theorem wpList_delete_run {P : Program} {w : World} {ops : Array Oper} {rest : List Oper} {o : Oper} {a : Act} {Q : Exit → Act → World → Prop} (hgd : o.guard = none) (s x : Operand) (t k : TypeId)
    (ho : o.op = .call { callee := .builtin .delete, args := #[s, x], argTypes := #[t, k] }) (sv xv : Value) (w' : World) (hs : a.eval s = sv) (hx : a.eval x = xv) (hrun : (Builtin.delete_ #[t, k] o.type #[sv, xv]).run P w = .ok (.tuple #[]) w') (h : wpList P ops Q rest (a.put o.dst (.tuple #[])) w') :
    wpList P ops Q (o :: rest) a w := by
  refine wpList_plain hgd fun K hK => ?_
  unfold Oper.wp
  simp [execOp, ho, resolve, invoke, builtin, hs, hx, hrun, Result.andThen]
  exact hK _ _ h
theorem wpList_mapUpdate_run {P : Program} {w : World} {ops : Array Oper} {rest : List Oper} {o : Oper} {a : Act} {Q : Exit → Act → World → Prop} (hgd : o.guard = none) (m x v : Operand) (t : TypeId)
    (ho : o.op = .mapUpdate t m x v) (mv xv vv : Value) (w' : World) (hm : a.eval m = mv) (hx : a.eval x = xv) (hv : a.eval v = vv) (hrun : (Instr.mapUpdate t mv xv vv).run P w = .ok () w') (h : wpList P ops Q rest (a.put o.dst undef) w') :
    wpList P ops Q (o :: rest) a w := by
  refine wpList_plain hgd fun K hK => ?_
  unfold Oper.wp
  simp [execOp, ho, hm, hx, hv, hrun, Result.andThen]
  exact hK _ _ h

section
variable {O : Nat → Nat} {q : Nat} {w : World} {b : Nat} {G : Mm} {nums last : Int} {evs : List Ev} {m : List (Int × Nat)}
def ToldP (O : Nat → Nat) (q : Nat) (w : World) (b : Nat) (G : Mm) (nums last : Int) (evs : List Ev) (m : List (Int × Nat)) (e : Ending) (w' : World) : Prop :=
  e = .returned (.tuple #[]) ∧ ∃ O', PtC O' q w' b G nums last evs m ∧ Step (fun x => x = q + 3) O w O' w'
theorem tell_pt (h : PtC O q w b G nums last evs m) (hlen : evs.length ≤ 3000000000000) {X : Nat} {x : En} {wts : Bool} {pl : Option Nat} (hX : EnC w X x wts pl) (what other price qty : Int) :
    Calls Try.prog 41 #[pt b, .int .i64 what, pt X, .int .i64 other, .int .i64 price, .int .i64 qty] w (ToldP O q w b G nums last (evs ++ [⟨what, x.n, other, price, qty⟩]) m) :=
  (tell_calls h.top hlen hX what other price qty).mono fun e w' ⟨h1, h2, h3⟩ =>
    have st : Step (fun x => x = q + 3) O w (grow O w (q + 3)) w' := Step.grow h3
    ⟨h1, _, ⟨h2, h.buy.step st (by omega) (fun _ _ => rfl), h.sell.step st (by omega) (fun _ _ => rfl), h.map.step st (by omega), h.wait.step st (by omega) (fun _ _ => rfl)⟩, st⟩
def TakenP (O : Nat → Nat) (q : Nat) (w : World) (b : Nat) (G : Mm) (nums last : Int) (evs : List Ev) (m : List (Int × Nat)) (s : Int) (Y : Nat) (e : Ending) (w' : World) : Prop :=
  e = .returned (.tuple #[]) ∧ ∃ O' ls', PtC O' q w' b (G.put s ls' G.en) nums last evs m ∧ plainH ls' G.en = popH (plainH (G.L s) G.en) ∧ ensL (G.L s) = Y :: ensL ls' ∧ HdC O' (colS q s) w' Y (G.en Y) false ∧ Step (fun x => x = colS q s) O w O' w'
theorem take_pt (h : PtC O q w b G nums last evs m) {s : Int} (hs : s = 1 ∨ s = 2) (hsh : HSh s (plainH (G.L s) G.en)) (hlen : (ensL (G.L s)).length ≤ 5000) {Y : Nat} (hY : frontL (G.L s) = some Y) :
    Calls Try.prog 72 #[pt (G.H s), pt Y] w (TakenP O q w b G nums last evs m s Y) :=
  (half_pop (h.side hs) hsh hlen hY).mono fun e w' ⟨h1, ⟨ls', h2, h3, h4⟩, h5, h6⟩ =>
    have st : Step (fun x => x = colS q s) O w (grow O w (colS q s)) w' := Step.grow h6
    ⟨h1, _, ls', h.putSide hs st h2 (fun _ _ => rfl) (fun _ _ => rfl), h3, h4, ⟨h5, grow_same ((h.side hs).front hY).1⟩, st⟩
def AddedP (O : Nat → Nat) (q : Nat) (w : World) (b : Nat) (G : Mm) (nums last : Int) (evs : List Ev) (m : List (Int × Nat)) (s : Int) (X : Nat) (e : Ending) (w' : World) : Prop :=
  e = .returned (.tuple #[]) ∧ ∃ O' ls', PtC O' q w' b (G.put s ls' G.en) nums last evs m ∧ plainH ls' G.en = addH s (G.en X) (plainH (G.L s) G.en) ∧ (ensL ls').Perm (X :: ensL (G.L s)) ∧ Step (fun x => x = colS q s) O w O' w'
theorem add_pt (h : PtC O q w b G nums last evs m) {s : Int} (hs : s = 1 ∨ s = 2) (hsh : HSh s (plainH (G.L s) G.en)) (hlen : (ensL (G.L s)).length ≤ 5000) {X : Nat} (hX : X ∉ ensL (G.L s)) (eX : HdC O (colS q s) w X (G.en X) false) :
    Calls Try.prog 67 #[pt (G.H s), pt X] w (AddedP O q w b G nums last evs m s X) :=
  (half_add (h.side hs) hsh hlen hX eX.col eX.ent).mono fun e w' ⟨h1, ⟨ls', h2, h3, h4⟩, h6⟩ =>
    have st : Step (fun x => x = colS q s) O w (grow O w (colS q s)) w' := Step.grow h6
    ⟨h1, _, ls', h.putSide hs st h2 (fun _ _ => rfl) (fun _ _ => rfl), h3, h4, st⟩
/-- delete(entries, number) -/
theorem drop_pt {n : Int} {E : Nat} {m' : List (Int × Nat)} (h : PtC O q w b G nums last evs m) (hp : m.Perm ((n, E) :: m')) (ty : TypeId) :
    ∃ w', (Builtin.delete_ #[88, 3] ty #[.map (some G.mb), .int .i64 n]).run Try.prog w = .ok (.tuple #[]) w' ∧ PtC O q w' b G nums last evs m' ∧ Step (fun x => x = q + 6) O w O w' := by
  obtain ⟨w', r1, r2, r3⟩ := (h.map.map.perm hp).drop ty
  have st : Step (fun x => x = q + 6) O w O w' := Step.of_kept0 r3 (fun k _ e => by rw [e]; exact h.map.col)
  exact ⟨w', r1, ⟨h.top.step st (by omega), h.buy.step st (by omega) (fun _ _ => rfl), h.sell.step st (by omega) (fun _ _ => rfl), ⟨r2, h.map.col⟩, h.wait.step st (by omega) (fun _ _ => rfl)⟩, st⟩
/-- entries[number] = entry -/
theorem put_pt {n : Int} {E : Nat} (h : PtC O q w b G nums last evs m) (hlen : m.length ≤ 1000000) (hn : (Lit.int .i64 n).wf = true) (hnew : n ∉ m.map Prod.fst) :
    ∃ w', (Instr.mapUpdate 88 (.map (some G.mb)) (.int .i64 n) (pt E)).run Try.prog w = .ok () w' ∧ PtC O q w' b G nums last evs ((n, E) :: m) ∧ Step (fun x => x = q + 6) O w O w' := by
  obtain ⟨w', r1, r2, r3⟩ := h.map.map.put hlen hn hnew (e := E)
  have st : Step (fun x => x = q + 6) O w O w' := Step.of_kept0 r3 (fun k _ e => by rw [e]; exact h.map.col)
  exact ⟨w', r1, ⟨h.top.step st (by omega), h.buy.step st (by omega) (fun _ _ => rfl), h.sell.step st (by omega) (fun _ _ => rfl), ⟨r2, h.map.col⟩, h.wait.step st (by omega) (fun _ _ => rfl)⟩, st⟩
end
theorem Mm.put_put {s : Int} (hs : s = 1 ∨ s = 2) (G : Mm) (l1 l2 : List Lv) (e1 e2 : Nat → En) : (G.put s l1 e1).put s l2 e2 = G.put s l2 e2 := by rcases hs with rfl | rfl <;> rfl
end Go.Proofs.Ytdjhpldiifdifaa
