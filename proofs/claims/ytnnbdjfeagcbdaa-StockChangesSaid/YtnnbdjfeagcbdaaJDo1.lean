/- The law's do: a call done to the register and to the reference. The reference's questions; the law's members, holds. The law's holds: holds and runs compared. Questions about any version of a register, by the reference's runs. The law's shows: a version of the register shows what the runs say. A register and the reference, in step. Changed: the pockets that differ between two versions. The reference: edge, Version; spans of two lists. StockReturns: its plain law. A hold moved away and back, pledged and released: the same tiling again; where the versions between differ. No program in sight. The reference's Version; Changed at versions that there are not; two lists of spans compared. The reference: Changed. -/
import Derived.Deep.CutBlock
import Derived.Test.YtnnbdjfeagcbdaaJRf3
import Derived.Test.YtnnbdjfeagcbdaaJActs
import Derived.Test.YtnnbdjfeagcbdaaJRf2
import Derived.Test.YtnnbdjfeagcbdaaJAll
namespace Go.Proofs.Ytnnbdjfeagcbdaa
set_option linter.unusedSimpArgs false
set_option linter.unusedVariables false
open Go.RowKit Go.Shelf
attribute [local go_sem] Oper.semAt_some

theorem Reg.set {B : Nat} {W w : World} {sB vB : Nat} {vs : List T} (h : Reg B W w sB vB vs) {C : Nat} {cs : Array Value} {ty : TypeId} (hc : Cells w C cs ty) (h1 : C ≠ sB) (h2 : C ≠ vB) (h3 : ty ≠ 158) (hB : B ≤ C) (j : Nat) (v : Value) : Reg B W (w.setCell ⟨C, j, none⟩ v) sB vB vs := by
  refine ⟨h.st.keep (Below.heap_setCell w ⟨C, j, none⟩ v sB (fun e => h1 e.symm)) (Below.heap_setCell w ⟨C, j, none⟩ v vB (fun e => h2 e.symm)) (fun b cs' hb => Below.heap_setCell w ⟨C, j, none⟩ v b (fun e => ?_)), h.fine, h.tiles, h.canon, h.zero, h.below.setCell (p := ⟨C, j, none⟩) hB v, h.ls, h.lv⟩
  have e' : b = C := e
  subst e'
  exact h3 (cells_type hc hb)
/-- Within do: what is boxed. -/
structure DoSt (w : World) (s : Value) (k f c lt a b : Int) (wx : World) : Prop where
  c4 : Cells wx w.heap.size #[s] 58
  c5 : Cells wx (w.heap.size + 1) #[.int .i64 k, .int .i64 f, .int .i64 c, .int .i64 lt, .int .i64 a, .int .i64 b] 39
  c6 : Cells wx (w.heap.size + 1 + 1) #[.slice none 0 0] 58
theorem DoSt.start (w : World) (s : Value) (k f c lt a b : Int) : DoSt w s k f c lt a b (((w.alloc (.cells #[s] 58)).alloc (.cells #[.int .i64 k, .int .i64 f, .int .i64 c, .int .i64 lt, .int .i64 a, .int .i64 b] 39)).alloc (.cells #[.slice none 0 0] 58)) := by
  refine ⟨((Cells.new w _ _).alloc _).alloc _, ?_, ?_⟩
  · have := Cells.new (w.alloc (.cells #[s] 58)) #[.int .i64 k, .int .i64 f, .int .i64 c, .int .i64 lt, .int .i64 a, .int .i64 b] 39
    rw [World.size_alloc] at this
    exact this.alloc _
  · have := Cells.new ((w.alloc (.cells #[s] 58)).alloc (.cells #[.int .i64 k, .int .i64 f, .int .i64 c, .int .i64 lt, .int .i64 a, .int .i64 b] 39)) #[.slice none 0 0] 58
    rwa [World.size_alloc, World.size_alloc] at this
theorem DoSt.after {w : World} {s : Value} {k f c lt a b : Int} {wx wy : World} (h : DoSt w s k f c lt a b wx) (hb : Below wx.heap.size wx wy) : DoSt w s k f c lt a b wy :=
  ⟨h.c4.below hb h.c4.lt, h.c5.below hb h.c5.lt, h.c6.below hb h.c6.lt⟩
theorem DoSt.set {w : World} {s : Value} {k f c lt a b : Int} {wx : World} (h : DoSt w s k f c lt a b wx) (u : Value) : DoSt w u k f c lt a b (wx.setCell ⟨w.heap.size, 0, none⟩ u) :=
  ⟨h.c4.set 0 u, h.c5.set_far 0 u (by omega), h.c6.set_far 0 u (by omega)⟩
theorem DoSt.turned {w : World} {s : Value} {k f c lt a b : Int} {wx wy : World} (h : DoSt w s k f c lt a b wx) {sB vB : Nat} (tu : Turned sB vB wx wy) (h1 : sB < w.heap.size) (h2 : vB < w.heap.size) : DoSt w s k f c lt a b wy :=
  ⟨(tu.block _ h.c4.lt (by omega) (by omega)).trans h.c4, (tu.block _ h.c5.lt (by omega) (by omega)).trans h.c5, (tu.block _ h.c6.lt (by omega) (by omega)).trans h.c6⟩
theorem DoSt.facts {w : World} {s : Value} {k f c lt a b : Int} {wx : World} (h : DoSt w s k f c lt a b wx) :
    wx.cell? ⟨w.heap.size, 0, none⟩ = some s ∧ wx.cell? ⟨w.heap.size + 1, 0, none⟩ = some (.int .i64 k) ∧ wx.cell? ⟨w.heap.size + 1, 1, none⟩ = some (.int .i64 f) ∧ wx.cell? ⟨w.heap.size + 1, 2, none⟩ = some (.int .i64 c) ∧ wx.cell? ⟨w.heap.size + 1, 3, none⟩ = some (.int .i64 lt) ∧ wx.cell? ⟨w.heap.size + 1, 4, none⟩ = some (.int .i64 a) ∧ wx.cell? ⟨w.heap.size + 1, 5, none⟩ = some (.int .i64 b) := by
  refine ⟨?_, ?_, ?_, ?_, ?_, ?_, ?_⟩ <;> simp [h.c4.cell, h.c5.cell]
theorem DoSt.more {w : World} {s : Value} {k f c lt a b : Int} {wx : World} (h : DoSt w s k f c lt a b wx) :
    wx.frozen? ⟨w.heap.size, 0, none⟩ = false ∧ w.heap.size < wx.heap.size ∧ wx.cell? ⟨w.heap.size + 1 + 1, 0, none⟩ = some (.slice none 0 0) ∧ wx.frozen? ⟨w.heap.size + 1 + 1, 0, none⟩ = false ∧ w.heap.size + 1 + 1 < wx.heap.size := by
  refine ⟨h.c4.frozen 0, h.c4.lt, ?_, h.c6.frozen 0, h.c6.lt⟩
  simp [h.c6.cell]

set_option maxRecDepth 100000 in
set_option maxHeartbeats 8000000 in
theorem do_rcalls {B : Nat} {W w : World} {sB vB : Nat} {vs : List T} (h : Reg B W w sB vB vs) (hB : B ≤ w.heap.size) (hn : vs.length ≤ 999) {t : T} (ht : vs.getLast? = some t) (v : Value) (xs : List (List Pc)) (hv : RefAt w v xs) (hxn : xs.length ≤ 999)
    (l : List Pc) (hl : xs.getLast? = some l) (hr : RunsP l) (hln : l.length ≤ 1000000) (k f c lt a b : Int) :
    Calls Try.prog 30 #[.pointer (some ⟨sB, 0, none⟩), v, .agg #[.int .i64 k, .int .i64 f, .int .i64 c, .int .i64 lt, .int .i64 a, .int .i64 b]] w (Did B W w sB vB vs t xs l) := by
  have RG := hid h
  have HT := hid ht
  have TO := hid (h.tr (List.mem_of_getLast? ht))
  have RV := hid hv
  have HR := hid hr
  have HL := hid hl
  obtain ⟨hls, hlv⟩ := h.st.lt
  obtain ⟨bs, ns, cs, rfl⟩ := hv.agg
  have D0 := hid (DoSt.start w (.slice (some ⟨bs, 0, none⟩) ns cs) k f c lt a b)
  have B0 := hid (show Below w.heap.size w (((w.alloc (.cells #[.slice (some ⟨bs, 0, none⟩) ns cs] 58)).alloc (.cells #[.int .i64 k, .int .i64 f, .int .i64 c, .int .i64 lt, .int .i64 a, .int .i64 b] 39)).alloc (.cells #[.slice none 0 0] 58)) from (((Below.refl _ _).alloc (Nat.le_refl _) _).alloc (by simp) _).alloc (by simp; omega) _)
  have hn1 : xs.length ≤ 1000 := by omega
  have hn2 : vs.length ≤ 1000 := by omega
  obtain ⟨q, hq1, hq2, hq⟩ := kind_mod k
  clear h ht hv hr hl
  go_enter Try.func30, Try.ntmps30
  rcases hq with hk | hk | hk | hk | hk | hk | hk | hk
  · subst hk
    as_aux_lemma =>
      go_wp2_with fail
      refine (enter_rcalls _ (.agg #[.slice (some ⟨bs, 0, none⟩) ns cs]) xs (RV.out.below B0.out) hn1 l HL.out HR.out hln f c lt a).mono ?_
      rintro e w1 ⟨r', v', ys, rfl, ra1, hb1, p0, p1, p2, p3⟩
      obtain ⟨bt, nt, ct, rfl⟩ := ra1.agg
      have TI := hid (enter_tied TO.out p0 p1)
      have RQ := hid (And.intro p2 p3)
      have A1 := hid ra1
      have D1 := hid (D0.out.after hb1)
      have B1 := hid (B0.out.trans (hb1.mono B0.out.size))
      obtain ⟨y0, y1, y2, y3, y4, y5, y6⟩ := D1.out.facts
      obtain ⟨z0, z1, z2, z3, z4⟩ := D1.out.more
      clear hb1 p0 p1 p2 p3 ra1 D0
      go_wp2_with fail
      have A2 := hid (A1.out.set D1.out.c4 (.slice (some ⟨bt, 0, none⟩) nt ct))
      have D2 := hid (D1.out.set (.slice (some ⟨bt, 0, none⟩) nt ct))
      have B2 := hid (B1.out.setCell (p := ⟨w.heap.size, 0, none⟩) (Nat.le_refl _) (.slice (some ⟨bt, 0, none⟩) nt ct))
      have R2 := hid (RG.out.after hB B2.out)
      refine (enter_reg R2.out (Nat.le_trans hB B2.out.size) hn2 HT.out f c lt a).mono ?_
      rintro e w2 ⟨rfl, us, uB, rg2, tu2, g1, g2⟩
      have A3 := hid (A2.out.turned R2.out.st tu2)
      have D3 := hid (D2.out.turned tu2 hls hlv)
      have R3 := hid rg2
      have T3 := hid (show Turned sB vB w w2 from ⟨tu2.os.trans B2.out.os, tu2.tape.trans B2.out.tape, tu2.output.trans B2.out.output, Nat.le_trans B2.out.size tu2.size, fun x hx h1 h2 => (tu2.block x (Nat.lt_of_lt_of_le hx B2.out.size) h1 h2).trans (B2.out.block x hx)⟩)
      have hsz := B2.out.size
      obtain ⟨y0, y1, y2, y3, y4, y5, y6⟩ := D3.out.facts
      obtain ⟨z0, z1, z2, z3, z4⟩ := D3.out.more
      obtain ⟨r, hr⟩ : ∃ r, r = enterR t f c lt a := ⟨_, rfl⟩
      rw [← hr] at TI g1 g2 ⊢
      have G := hid (And.intro g1 g2)
      have hlv2 := rg2.st.lt
      clear g1 g2 hr rg2 tu2 A1 A2 D1 D2
      go_wp2
      have f6 := D3.out.c6.set 0 (.slice (some ⟨bt, 0, none⟩) nt ct)
      have uu : uB = vB ∨ w.heap.size ≤ uB := by
        by_cases hz : r = 0
        · rcases (G.out.2 hz).1 with h | h
          · exact .inl h
          · exact .inr (Nat.le_trans hsz h)
        · exact .inl (G.out.1 hz).2
      have uc : w.heap.size + 1 + 1 ≠ uB := by
        by_cases hz : r = 0
        · rcases (G.out.2 hz).1 with h | h
          · omega
          · have := B1.out.size; simp at h; omega
        · have := (G.out.1 hz).2; omega
      refine bodyPost_ret (v := .tuple #[.agg #[.slice (some ⟨bt, 0, none⟩) nt ct], .bool (r == r')]) (by simp [results, Try.results30, go_sem, f6.cell]) rfl ?_
      exact Did.of TI.out TO.out.tiles (R3.out.set D3.out.c6 (by omega) uc (by decide) (by omega) 0 (.slice (some ⟨bt, 0, none⟩) nt ct)) (A3.out.set D3.out.c6 (.slice (some ⟨bt, 0, none⟩) nt ct)) ⟨T3.out.os, T3.out.tape, T3.out.output, by simpa [World.setCell] using T3.out.size, fun x hx h1 h2 => (Below.heap_setCell w2 ⟨w.heap.size + 1 + 1, 0, none⟩ (.slice (some ⟨bt, 0, none⟩) nt ct) x (by simp; omega)).trans (T3.out.block x hx h1 h2)⟩ uu (fun hz => (G.out.1 hz).1) (fun hz => (G.out.2 hz).2) RQ.out.1 RQ.out.2
  · subst hk
    as_aux_lemma =>
      go_wp2_with fail
      refine (enter_rcalls _ (.agg #[.slice (some ⟨bs, 0, none⟩) ns cs]) xs (RV.out.below B0.out) hn1 l HL.out HR.out hln f c lt a).mono ?_
      rintro e w1 ⟨r', v', ys, rfl, ra1, hb1, p0, p1, p2, p3⟩
      obtain ⟨bt, nt, ct, rfl⟩ := ra1.agg
      have TI := hid (enter_tied TO.out p0 p1)
      have RQ := hid (And.intro p2 p3)
      have A1 := hid ra1
      have D1 := hid (D0.out.after hb1)
      have B1 := hid (B0.out.trans (hb1.mono B0.out.size))
      obtain ⟨y0, y1, y2, y3, y4, y5, y6⟩ := D1.out.facts
      obtain ⟨z0, z1, z2, z3, z4⟩ := D1.out.more
      clear hb1 p0 p1 p2 p3 ra1 D0
      go_wp2_with fail
      have A2 := hid (A1.out.set D1.out.c4 (.slice (some ⟨bt, 0, none⟩) nt ct))
      have D2 := hid (D1.out.set (.slice (some ⟨bt, 0, none⟩) nt ct))
      have B2 := hid (B1.out.setCell (p := ⟨w.heap.size, 0, none⟩) (Nat.le_refl _) (.slice (some ⟨bt, 0, none⟩) nt ct))
      have R2 := hid (RG.out.after hB B2.out)
      refine (enter_reg R2.out (Nat.le_trans hB B2.out.size) hn2 HT.out f c lt a).mono ?_
      rintro e w2 ⟨rfl, us, uB, rg2, tu2, g1, g2⟩
      have A3 := hid (A2.out.turned R2.out.st tu2)
      have D3 := hid (D2.out.turned tu2 hls hlv)
      have R3 := hid rg2
      have T3 := hid (show Turned sB vB w w2 from ⟨tu2.os.trans B2.out.os, tu2.tape.trans B2.out.tape, tu2.output.trans B2.out.output, Nat.le_trans B2.out.size tu2.size, fun x hx h1 h2 => (tu2.block x (Nat.lt_of_lt_of_le hx B2.out.size) h1 h2).trans (B2.out.block x hx)⟩)
      have hsz := B2.out.size
      obtain ⟨y0, y1, y2, y3, y4, y5, y6⟩ := D3.out.facts
      obtain ⟨z0, z1, z2, z3, z4⟩ := D3.out.more
      obtain ⟨r, hr⟩ : ∃ r, r = enterR t f c lt a := ⟨_, rfl⟩
      rw [← hr] at TI g1 g2 ⊢
      have G := hid (And.intro g1 g2)
      have hlv2 := rg2.st.lt
      clear g1 g2 hr rg2 tu2 A1 A2 D1 D2
      go_wp2
      have f6 := D3.out.c6.set 0 (.slice (some ⟨bt, 0, none⟩) nt ct)
      have uu : uB = vB ∨ w.heap.size ≤ uB := by
        by_cases hz : r = 0
        · rcases (G.out.2 hz).1 with h | h
          · exact .inl h
          · exact .inr (Nat.le_trans hsz h)
        · exact .inl (G.out.1 hz).2
      have uc : w.heap.size + 1 + 1 ≠ uB := by
        by_cases hz : r = 0
        · rcases (G.out.2 hz).1 with h | h
          · omega
          · have := B1.out.size; simp at h; omega
        · have := (G.out.1 hz).2; omega
      refine bodyPost_ret (v := .tuple #[.agg #[.slice (some ⟨bt, 0, none⟩) nt ct], .bool (r == r')]) (by simp [results, Try.results30, go_sem, f6.cell]) rfl ?_
      exact Did.of TI.out TO.out.tiles (R3.out.set D3.out.c6 (by omega) uc (by decide) (by omega) 0 (.slice (some ⟨bt, 0, none⟩) nt ct)) (A3.out.set D3.out.c6 (.slice (some ⟨bt, 0, none⟩) nt ct)) ⟨T3.out.os, T3.out.tape, T3.out.output, by simpa [World.setCell] using T3.out.size, fun x hx h1 h2 => (Below.heap_setCell w2 ⟨w.heap.size + 1 + 1, 0, none⟩ (.slice (some ⟨bt, 0, none⟩) nt ct) x (by simp; omega)).trans (T3.out.block x hx h1 h2)⟩ uu (fun hz => (G.out.1 hz).1) (fun hz => (G.out.2 hz).2) RQ.out.1 RQ.out.2
  · subst hk
    as_aux_lemma =>
      go_wp2_with fail
      refine (move_rcalls _ (.agg #[.slice (some ⟨bs, 0, none⟩) ns cs]) xs (RV.out.below B0.out) hn1 l HL.out HR.out hln f c a b).mono ?_
      rintro e w1 ⟨r', v', ys, rfl, ra1, hb1, p0, p1, p2, p3⟩
      obtain ⟨bt, nt, ct, rfl⟩ := ra1.agg
      have TI := hid (move_tied TO.out p0 p1)
      have RQ := hid (And.intro p2 p3)
      have A1 := hid ra1
      have D1 := hid (D0.out.after hb1)
      have B1 := hid (B0.out.trans (hb1.mono B0.out.size))
      obtain ⟨y0, y1, y2, y3, y4, y5, y6⟩ := D1.out.facts
      obtain ⟨z0, z1, z2, z3, z4⟩ := D1.out.more
      clear hb1 p0 p1 p2 p3 ra1 D0
      go_wp2_with fail
      have A2 := hid (A1.out.set D1.out.c4 (.slice (some ⟨bt, 0, none⟩) nt ct))
      have D2 := hid (D1.out.set (.slice (some ⟨bt, 0, none⟩) nt ct))
      have B2 := hid (B1.out.setCell (p := ⟨w.heap.size, 0, none⟩) (Nat.le_refl _) (.slice (some ⟨bt, 0, none⟩) nt ct))
      have R2 := hid (RG.out.after hB B2.out)
      refine (move_reg R2.out (Nat.le_trans hB B2.out.size) hn2 HT.out f c a b).mono ?_
      rintro e w2 ⟨rfl, us, uB, rg2, tu2, g1, g2⟩
      have A3 := hid (A2.out.turned R2.out.st tu2)
      have D3 := hid (D2.out.turned tu2 hls hlv)
      have R3 := hid rg2
      have T3 := hid (show Turned sB vB w w2 from ⟨tu2.os.trans B2.out.os, tu2.tape.trans B2.out.tape, tu2.output.trans B2.out.output, Nat.le_trans B2.out.size tu2.size, fun x hx h1 h2 => (tu2.block x (Nat.lt_of_lt_of_le hx B2.out.size) h1 h2).trans (B2.out.block x hx)⟩)
      have hsz := B2.out.size
      obtain ⟨y0, y1, y2, y3, y4, y5, y6⟩ := D3.out.facts
      obtain ⟨z0, z1, z2, z3, z4⟩ := D3.out.more
      obtain ⟨r, hr⟩ : ∃ r, r = moveR t f c a b := ⟨_, rfl⟩
      rw [← hr] at TI g1 g2 ⊢
      have G := hid (And.intro g1 g2)
      have hlv2 := rg2.st.lt
      clear g1 g2 hr rg2 tu2 A1 A2 D1 D2
      go_wp2
      have f6 := D3.out.c6.set 0 (.slice (some ⟨bt, 0, none⟩) nt ct)
      have uu : uB = vB ∨ w.heap.size ≤ uB := by
        by_cases hz : r = 0
        · rcases (G.out.2 hz).1 with h | h
          · exact .inl h
          · exact .inr (Nat.le_trans hsz h)
        · exact .inl (G.out.1 hz).2
      have uc : w.heap.size + 1 + 1 ≠ uB := by
        by_cases hz : r = 0
        · rcases (G.out.2 hz).1 with h | h
          · omega
          · have := B1.out.size; simp at h; omega
        · have := (G.out.1 hz).2; omega
      refine bodyPost_ret (v := .tuple #[.agg #[.slice (some ⟨bt, 0, none⟩) nt ct], .bool (r == r')]) (by simp [results, Try.results30, go_sem, f6.cell]) rfl ?_
      exact Did.of TI.out TO.out.tiles (R3.out.set D3.out.c6 (by omega) uc (by decide) (by omega) 0 (.slice (some ⟨bt, 0, none⟩) nt ct)) (A3.out.set D3.out.c6 (.slice (some ⟨bt, 0, none⟩) nt ct)) ⟨T3.out.os, T3.out.tape, T3.out.output, by simpa [World.setCell] using T3.out.size, fun x hx h1 h2 => (Below.heap_setCell w2 ⟨w.heap.size + 1 + 1, 0, none⟩ (.slice (some ⟨bt, 0, none⟩) nt ct) x (by simp; omega)).trans (T3.out.block x hx h1 h2)⟩ uu (fun hz => (G.out.1 hz).1) (fun hz => (G.out.2 hz).2) RQ.out.1 RQ.out.2
  · subst hk
    as_aux_lemma =>
      go_wp2_with fail
      refine (move_rcalls _ (.agg #[.slice (some ⟨bs, 0, none⟩) ns cs]) xs (RV.out.below B0.out) hn1 l HL.out HR.out hln f c a b).mono ?_
      rintro e w1 ⟨r', v', ys, rfl, ra1, hb1, p0, p1, p2, p3⟩
      obtain ⟨bt, nt, ct, rfl⟩ := ra1.agg
      have TI := hid (move_tied TO.out p0 p1)
      have RQ := hid (And.intro p2 p3)
      have A1 := hid ra1
      have D1 := hid (D0.out.after hb1)
      have B1 := hid (B0.out.trans (hb1.mono B0.out.size))
      obtain ⟨y0, y1, y2, y3, y4, y5, y6⟩ := D1.out.facts
      obtain ⟨z0, z1, z2, z3, z4⟩ := D1.out.more
      clear hb1 p0 p1 p2 p3 ra1 D0
      go_wp2_with fail
      have A2 := hid (A1.out.set D1.out.c4 (.slice (some ⟨bt, 0, none⟩) nt ct))
      have D2 := hid (D1.out.set (.slice (some ⟨bt, 0, none⟩) nt ct))
      have B2 := hid (B1.out.setCell (p := ⟨w.heap.size, 0, none⟩) (Nat.le_refl _) (.slice (some ⟨bt, 0, none⟩) nt ct))
      have R2 := hid (RG.out.after hB B2.out)
      refine (move_reg R2.out (Nat.le_trans hB B2.out.size) hn2 HT.out f c a b).mono ?_
      rintro e w2 ⟨rfl, us, uB, rg2, tu2, g1, g2⟩
      have A3 := hid (A2.out.turned R2.out.st tu2)
      have D3 := hid (D2.out.turned tu2 hls hlv)
      have R3 := hid rg2
      have T3 := hid (show Turned sB vB w w2 from ⟨tu2.os.trans B2.out.os, tu2.tape.trans B2.out.tape, tu2.output.trans B2.out.output, Nat.le_trans B2.out.size tu2.size, fun x hx h1 h2 => (tu2.block x (Nat.lt_of_lt_of_le hx B2.out.size) h1 h2).trans (B2.out.block x hx)⟩)
      have hsz := B2.out.size
      obtain ⟨y0, y1, y2, y3, y4, y5, y6⟩ := D3.out.facts
      obtain ⟨z0, z1, z2, z3, z4⟩ := D3.out.more
      obtain ⟨r, hr⟩ : ∃ r, r = moveR t f c a b := ⟨_, rfl⟩
      rw [← hr] at TI g1 g2 ⊢
      have G := hid (And.intro g1 g2)
      have hlv2 := rg2.st.lt
      clear g1 g2 hr rg2 tu2 A1 A2 D1 D2
      go_wp2
      have f6 := D3.out.c6.set 0 (.slice (some ⟨bt, 0, none⟩) nt ct)
      have uu : uB = vB ∨ w.heap.size ≤ uB := by
        by_cases hz : r = 0
        · rcases (G.out.2 hz).1 with h | h
          · exact .inl h
          · exact .inr (Nat.le_trans hsz h)
        · exact .inl (G.out.1 hz).2
      have uc : w.heap.size + 1 + 1 ≠ uB := by
        by_cases hz : r = 0
        · rcases (G.out.2 hz).1 with h | h
          · omega
          · have := B1.out.size; simp at h; omega
        · have := (G.out.1 hz).2; omega
      refine bodyPost_ret (v := .tuple #[.agg #[.slice (some ⟨bt, 0, none⟩) nt ct], .bool (r == r')]) (by simp [results, Try.results30, go_sem, f6.cell]) rfl ?_
      exact Did.of TI.out TO.out.tiles (R3.out.set D3.out.c6 (by omega) uc (by decide) (by omega) 0 (.slice (some ⟨bt, 0, none⟩) nt ct)) (A3.out.set D3.out.c6 (.slice (some ⟨bt, 0, none⟩) nt ct)) ⟨T3.out.os, T3.out.tape, T3.out.output, by simpa [World.setCell] using T3.out.size, fun x hx h1 h2 => (Below.heap_setCell w2 ⟨w.heap.size + 1 + 1, 0, none⟩ (.slice (some ⟨bt, 0, none⟩) nt ct) x (by simp; omega)).trans (T3.out.block x hx h1 h2)⟩ uu (fun hz => (G.out.1 hz).1) (fun hz => (G.out.2 hz).2) RQ.out.1 RQ.out.2
  · subst hk
    as_aux_lemma =>
      go_wp2_with fail
      refine (pledge_rcalls _ (.agg #[.slice (some ⟨bs, 0, none⟩) ns cs]) xs (RV.out.below B0.out) hn1 l HL.out HR.out hln f c a b).mono ?_
      rintro e w1 ⟨r', v', ys, rfl, ra1, hb1, p0, p1, p2, p3⟩
      obtain ⟨bt, nt, ct, rfl⟩ := ra1.agg
      have TI := hid (pledge_tied TO.out p0 p1)
      have RQ := hid (And.intro p2 p3)
      have A1 := hid ra1
      have D1 := hid (D0.out.after hb1)
      have B1 := hid (B0.out.trans (hb1.mono B0.out.size))
      obtain ⟨y0, y1, y2, y3, y4, y5, y6⟩ := D1.out.facts
      obtain ⟨z0, z1, z2, z3, z4⟩ := D1.out.more
      clear hb1 p0 p1 p2 p3 ra1 D0
      go_wp2_with fail
      have A2 := hid (A1.out.set D1.out.c4 (.slice (some ⟨bt, 0, none⟩) nt ct))
      have D2 := hid (D1.out.set (.slice (some ⟨bt, 0, none⟩) nt ct))
      have B2 := hid (B1.out.setCell (p := ⟨w.heap.size, 0, none⟩) (Nat.le_refl _) (.slice (some ⟨bt, 0, none⟩) nt ct))
      have R2 := hid (RG.out.after hB B2.out)
      refine (pledge_reg R2.out (Nat.le_trans hB B2.out.size) hn2 HT.out f c a b).mono ?_
      rintro e w2 ⟨rfl, us, uB, rg2, tu2, g1, g2⟩
      have A3 := hid (A2.out.turned R2.out.st tu2)
      have D3 := hid (D2.out.turned tu2 hls hlv)
      have R3 := hid rg2
      have T3 := hid (show Turned sB vB w w2 from ⟨tu2.os.trans B2.out.os, tu2.tape.trans B2.out.tape, tu2.output.trans B2.out.output, Nat.le_trans B2.out.size tu2.size, fun x hx h1 h2 => (tu2.block x (Nat.lt_of_lt_of_le hx B2.out.size) h1 h2).trans (B2.out.block x hx)⟩)
      have hsz := B2.out.size
      obtain ⟨y0, y1, y2, y3, y4, y5, y6⟩ := D3.out.facts
      obtain ⟨z0, z1, z2, z3, z4⟩ := D3.out.more
      obtain ⟨r, hr⟩ : ∃ r, r = pledgeR t f c a b := ⟨_, rfl⟩
      rw [← hr] at TI g1 g2 ⊢
      have G := hid (And.intro g1 g2)
      have hlv2 := rg2.st.lt
      clear g1 g2 hr rg2 tu2 A1 A2 D1 D2
      go_wp2
      have f6 := D3.out.c6.set 0 (.slice (some ⟨bt, 0, none⟩) nt ct)
      have uu : uB = vB ∨ w.heap.size ≤ uB := by
        by_cases hz : r = 0
        · rcases (G.out.2 hz).1 with h | h
          · exact .inl h
          · exact .inr (Nat.le_trans hsz h)
        · exact .inl (G.out.1 hz).2
      have uc : w.heap.size + 1 + 1 ≠ uB := by
        by_cases hz : r = 0
        · rcases (G.out.2 hz).1 with h | h
          · omega
          · have := B1.out.size; simp at h; omega
        · have := (G.out.1 hz).2; omega
      refine bodyPost_ret (v := .tuple #[.agg #[.slice (some ⟨bt, 0, none⟩) nt ct], .bool (r == r')]) (by simp [results, Try.results30, go_sem, f6.cell]) rfl ?_
      exact Did.of TI.out TO.out.tiles (R3.out.set D3.out.c6 (by omega) uc (by decide) (by omega) 0 (.slice (some ⟨bt, 0, none⟩) nt ct)) (A3.out.set D3.out.c6 (.slice (some ⟨bt, 0, none⟩) nt ct)) ⟨T3.out.os, T3.out.tape, T3.out.output, by simpa [World.setCell] using T3.out.size, fun x hx h1 h2 => (Below.heap_setCell w2 ⟨w.heap.size + 1 + 1, 0, none⟩ (.slice (some ⟨bt, 0, none⟩) nt ct) x (by simp; omega)).trans (T3.out.block x hx h1 h2)⟩ uu (fun hz => (G.out.1 hz).1) (fun hz => (G.out.2 hz).2) RQ.out.1 RQ.out.2
  · subst hk
    as_aux_lemma =>
      go_wp2_with fail
      refine (release_rcalls _ (.agg #[.slice (some ⟨bs, 0, none⟩) ns cs]) xs (RV.out.below B0.out) hn1 l HL.out HR.out hln f c a).mono ?_
      rintro e w1 ⟨r', v', ys, rfl, ra1, hb1, p0, p1, p2, p3⟩
      obtain ⟨bt, nt, ct, rfl⟩ := ra1.agg
      have TI := hid (release_tied TO.out p0 p1)
      have RQ := hid (And.intro p2 p3)
      have A1 := hid ra1
      have D1 := hid (D0.out.after hb1)
      have B1 := hid (B0.out.trans (hb1.mono B0.out.size))
      obtain ⟨y0, y1, y2, y3, y4, y5, y6⟩ := D1.out.facts
      obtain ⟨z0, z1, z2, z3, z4⟩ := D1.out.more
      clear hb1 p0 p1 p2 p3 ra1 D0
      go_wp2_with fail
      have A2 := hid (A1.out.set D1.out.c4 (.slice (some ⟨bt, 0, none⟩) nt ct))
      have D2 := hid (D1.out.set (.slice (some ⟨bt, 0, none⟩) nt ct))
      have B2 := hid (B1.out.setCell (p := ⟨w.heap.size, 0, none⟩) (Nat.le_refl _) (.slice (some ⟨bt, 0, none⟩) nt ct))
      have R2 := hid (RG.out.after hB B2.out)
      refine (release_reg R2.out (Nat.le_trans hB B2.out.size) hn2 HT.out f c a).mono ?_
      rintro e w2 ⟨rfl, us, uB, rg2, tu2, g1, g2⟩
      have A3 := hid (A2.out.turned R2.out.st tu2)
      have D3 := hid (D2.out.turned tu2 hls hlv)
      have R3 := hid rg2
      have T3 := hid (show Turned sB vB w w2 from ⟨tu2.os.trans B2.out.os, tu2.tape.trans B2.out.tape, tu2.output.trans B2.out.output, Nat.le_trans B2.out.size tu2.size, fun x hx h1 h2 => (tu2.block x (Nat.lt_of_lt_of_le hx B2.out.size) h1 h2).trans (B2.out.block x hx)⟩)
      have hsz := B2.out.size
      obtain ⟨y0, y1, y2, y3, y4, y5, y6⟩ := D3.out.facts
      obtain ⟨z0, z1, z2, z3, z4⟩ := D3.out.more
      obtain ⟨r, hr⟩ : ∃ r, r = heldR t f c a := ⟨_, rfl⟩
      rw [← hr] at TI g1 g2 ⊢
      have G := hid (And.intro g1 g2)
      have hlv2 := rg2.st.lt
      clear g1 g2 hr rg2 tu2 A1 A2 D1 D2
      go_wp2
      have f6 := D3.out.c6.set 0 (.slice (some ⟨bt, 0, none⟩) nt ct)
      have uu : uB = vB ∨ w.heap.size ≤ uB := by
        by_cases hz : r = 0
        · rcases (G.out.2 hz).1 with h | h
          · exact .inl h
          · exact .inr (Nat.le_trans hsz h)
        · exact .inl (G.out.1 hz).2
      have uc : w.heap.size + 1 + 1 ≠ uB := by
        by_cases hz : r = 0
        · rcases (G.out.2 hz).1 with h | h
          · omega
          · have := B1.out.size; simp at h; omega
        · have := (G.out.1 hz).2; omega
      refine bodyPost_ret (v := .tuple #[.agg #[.slice (some ⟨bt, 0, none⟩) nt ct], .bool (r == r')]) (by simp [results, Try.results30, go_sem, f6.cell]) rfl ?_
      exact Did.of TI.out TO.out.tiles (R3.out.set D3.out.c6 (by omega) uc (by decide) (by omega) 0 (.slice (some ⟨bt, 0, none⟩) nt ct)) (A3.out.set D3.out.c6 (.slice (some ⟨bt, 0, none⟩) nt ct)) ⟨T3.out.os, T3.out.tape, T3.out.output, by simpa [World.setCell] using T3.out.size, fun x hx h1 h2 => (Below.heap_setCell w2 ⟨w.heap.size + 1 + 1, 0, none⟩ (.slice (some ⟨bt, 0, none⟩) nt ct) x (by simp; omega)).trans (T3.out.block x hx h1 h2)⟩ uu (fun hz => (G.out.1 hz).1) (fun hz => (G.out.2 hz).2) RQ.out.1 RQ.out.2
  · subst hk
    as_aux_lemma =>
      go_wp2_with fail
      refine (seize_rcalls _ (.agg #[.slice (some ⟨bs, 0, none⟩) ns cs]) xs (RV.out.below B0.out) hn1 l HL.out HR.out hln f c a).mono ?_
      rintro e w1 ⟨r', v', ys, rfl, ra1, hb1, p0, p1, p2, p3⟩
      obtain ⟨bt, nt, ct, rfl⟩ := ra1.agg
      have TI := hid (seize_tied TO.out p0 p1)
      have RQ := hid (And.intro p2 p3)
      have A1 := hid ra1
      have D1 := hid (D0.out.after hb1)
      have B1 := hid (B0.out.trans (hb1.mono B0.out.size))
      obtain ⟨y0, y1, y2, y3, y4, y5, y6⟩ := D1.out.facts
      obtain ⟨z0, z1, z2, z3, z4⟩ := D1.out.more
      clear hb1 p0 p1 p2 p3 ra1 D0
      go_wp2_with fail
      have A2 := hid (A1.out.set D1.out.c4 (.slice (some ⟨bt, 0, none⟩) nt ct))
      have D2 := hid (D1.out.set (.slice (some ⟨bt, 0, none⟩) nt ct))
      have B2 := hid (B1.out.setCell (p := ⟨w.heap.size, 0, none⟩) (Nat.le_refl _) (.slice (some ⟨bt, 0, none⟩) nt ct))
      have R2 := hid (RG.out.after hB B2.out)
      refine (seize_reg R2.out (Nat.le_trans hB B2.out.size) hn2 HT.out f c a).mono ?_
      rintro e w2 ⟨rfl, us, uB, rg2, tu2, g1, g2⟩
      have A3 := hid (A2.out.turned R2.out.st tu2)
      have D3 := hid (D2.out.turned tu2 hls hlv)
      have R3 := hid rg2
      have T3 := hid (show Turned sB vB w w2 from ⟨tu2.os.trans B2.out.os, tu2.tape.trans B2.out.tape, tu2.output.trans B2.out.output, Nat.le_trans B2.out.size tu2.size, fun x hx h1 h2 => (tu2.block x (Nat.lt_of_lt_of_le hx B2.out.size) h1 h2).trans (B2.out.block x hx)⟩)
      have hsz := B2.out.size
      obtain ⟨y0, y1, y2, y3, y4, y5, y6⟩ := D3.out.facts
      obtain ⟨z0, z1, z2, z3, z4⟩ := D3.out.more
      obtain ⟨r, hr⟩ : ∃ r, r = heldR t f c a := ⟨_, rfl⟩
      rw [← hr] at TI g1 g2 ⊢
      have G := hid (And.intro g1 g2)
      have hlv2 := rg2.st.lt
      clear g1 g2 hr rg2 tu2 A1 A2 D1 D2
      go_wp2
      have f6 := D3.out.c6.set 0 (.slice (some ⟨bt, 0, none⟩) nt ct)
      have uu : uB = vB ∨ w.heap.size ≤ uB := by
        by_cases hz : r = 0
        · rcases (G.out.2 hz).1 with h | h
          · exact .inl h
          · exact .inr (Nat.le_trans hsz h)
        · exact .inl (G.out.1 hz).2
      have uc : w.heap.size + 1 + 1 ≠ uB := by
        by_cases hz : r = 0
        · rcases (G.out.2 hz).1 with h | h
          · omega
          · have := B1.out.size; simp at h; omega
        · have := (G.out.1 hz).2; omega
      refine bodyPost_ret (v := .tuple #[.agg #[.slice (some ⟨bt, 0, none⟩) nt ct], .bool (r == r')]) (by simp [results, Try.results30, go_sem, f6.cell]) rfl ?_
      exact Did.of TI.out TO.out.tiles (R3.out.set D3.out.c6 (by omega) uc (by decide) (by omega) 0 (.slice (some ⟨bt, 0, none⟩) nt ct)) (A3.out.set D3.out.c6 (.slice (some ⟨bt, 0, none⟩) nt ct)) ⟨T3.out.os, T3.out.tape, T3.out.output, by simpa [World.setCell] using T3.out.size, fun x hx h1 h2 => (Below.heap_setCell w2 ⟨w.heap.size + 1 + 1, 0, none⟩ (.slice (some ⟨bt, 0, none⟩) nt ct) x (by simp; omega)).trans (T3.out.block x hx h1 h2)⟩ uu (fun hz => (G.out.1 hz).1) (fun hz => (G.out.2 hz).2) RQ.out.1 RQ.out.2
  · subst hk
    as_aux_lemma =>
      go_wp2_with fail
      refine (leave_rcalls _ (.agg #[.slice (some ⟨bs, 0, none⟩) ns cs]) xs (RV.out.below B0.out) hn1 l HL.out HR.out hln f c a).mono ?_
      rintro e w1 ⟨r', v', ys, rfl, ra1, hb1, p0, p1, p2, p3⟩
      obtain ⟨bt, nt, ct, rfl⟩ := ra1.agg
      have TI := hid (leave_tied TO.out p0 p1)
      have RQ := hid (And.intro p2 p3)
      have A1 := hid ra1
      have D1 := hid (D0.out.after hb1)
      have B1 := hid (B0.out.trans (hb1.mono B0.out.size))
      obtain ⟨y0, y1, y2, y3, y4, y5, y6⟩ := D1.out.facts
      obtain ⟨z0, z1, z2, z3, z4⟩ := D1.out.more
      clear hb1 p0 p1 p2 p3 ra1 D0
      go_wp2_with fail
      have A2 := hid (A1.out.set D1.out.c4 (.slice (some ⟨bt, 0, none⟩) nt ct))
      have D2 := hid (D1.out.set (.slice (some ⟨bt, 0, none⟩) nt ct))
      have B2 := hid (B1.out.setCell (p := ⟨w.heap.size, 0, none⟩) (Nat.le_refl _) (.slice (some ⟨bt, 0, none⟩) nt ct))
      have R2 := hid (RG.out.after hB B2.out)
      refine (leave_reg R2.out (Nat.le_trans hB B2.out.size) hn2 HT.out f c a).mono ?_
      rintro e w2 ⟨rfl, us, uB, rg2, tu2, g1, g2⟩
      have A3 := hid (A2.out.turned R2.out.st tu2)
      have D3 := hid (D2.out.turned tu2 hls hlv)
      have R3 := hid rg2
      have T3 := hid (show Turned sB vB w w2 from ⟨tu2.os.trans B2.out.os, tu2.tape.trans B2.out.tape, tu2.output.trans B2.out.output, Nat.le_trans B2.out.size tu2.size, fun x hx h1 h2 => (tu2.block x (Nat.lt_of_lt_of_le hx B2.out.size) h1 h2).trans (B2.out.block x hx)⟩)
      have hsz := B2.out.size
      obtain ⟨y0, y1, y2, y3, y4, y5, y6⟩ := D3.out.facts
      obtain ⟨z0, z1, z2, z3, z4⟩ := D3.out.more
      obtain ⟨r, hr⟩ : ∃ r, r = leaveR t f c a := ⟨_, rfl⟩
      rw [← hr] at TI g1 g2 ⊢
      have G := hid (And.intro g1 g2)
      have hlv2 := rg2.st.lt
      clear g1 g2 hr rg2 tu2 A1 A2 D1 D2
      go_wp2
      have f6 := D3.out.c6.set 0 (.slice (some ⟨bt, 0, none⟩) nt ct)
      have uu : uB = vB ∨ w.heap.size ≤ uB := by
        by_cases hz : r = 0
        · rcases (G.out.2 hz).1 with h | h
          · exact .inl h
          · exact .inr (Nat.le_trans hsz h)
        · exact .inl (G.out.1 hz).2
      have uc : w.heap.size + 1 + 1 ≠ uB := by
        by_cases hz : r = 0
        · rcases (G.out.2 hz).1 with h | h
          · omega
          · have := B1.out.size; simp at h; omega
        · have := (G.out.1 hz).2; omega
      refine bodyPost_ret (v := .tuple #[.agg #[.slice (some ⟨bt, 0, none⟩) nt ct], .bool (r == r')]) (by simp [results, Try.results30, go_sem, f6.cell]) rfl ?_
      exact Did.of TI.out TO.out.tiles (R3.out.set D3.out.c6 (by omega) uc (by decide) (by omega) 0 (.slice (some ⟨bt, 0, none⟩) nt ct)) (A3.out.set D3.out.c6 (.slice (some ⟨bt, 0, none⟩) nt ct)) ⟨T3.out.os, T3.out.tape, T3.out.output, by simpa [World.setCell] using T3.out.size, fun x hx h1 h2 => (Below.heap_setCell w2 ⟨w.heap.size + 1 + 1, 0, none⟩ (.slice (some ⟨bt, 0, none⟩) nt ct) x (by simp; omega)).trans (T3.out.block x hx h1 h2)⟩ uu (fun hz => (G.out.1 hz).1) (fun hz => (G.out.2 hz).2) RQ.out.1 RQ.out.2
end Go.Proofs.Ytnnbdjfeagcbdaa
namespace Go.Proofs.Ytnnbdjfeagcbdaa
set_option linter.unusedSimpArgs false
set_option linter.unusedVariables false
open Go.RowKit Go.Shelf
attribute [local go_sem] Oper.semAt_some

theorem run_cell {w wr : World} {b i : Nat} {r : Pc} (hb : Below w.heap.size w wr) (hl : b < w.heap.size) (h : w.cell? ⟨b, i * 6, none⟩ = some (Value.int .i64 r.from_) ∧ w.cell? ⟨b, i * 6 + 1, none⟩ = some (Value.int .i64 r.to) ∧ w.cell? ⟨b, i * 6 + 2, none⟩ = some (Value.int .i64 r.cell.state) ∧ w.cell? ⟨b, i * 6 + 3, none⟩ = some (Value.int .i64 r.cell.lot) ∧ w.cell? ⟨b, i * 6 + 4, none⟩ = some (Value.int .i64 r.cell.owner) ∧ w.cell? ⟨b, i * 6 + 5, none⟩ = some (Value.int .i64 r.cell.holder)) : wr.cell? ⟨b, i * 6, none⟩ = some (Value.int .i64 r.from_) ∧ wr.cell? ⟨b, i * 6 + 1, none⟩ = some (Value.int .i64 r.to) ∧ wr.cell? ⟨b, i * 6 + 2, none⟩ = some (Value.int .i64 r.cell.state) ∧ wr.cell? ⟨b, i * 6 + 3, none⟩ = some (Value.int .i64 r.cell.lot) ∧ wr.cell? ⟨b, i * 6 + 4, none⟩ = some (Value.int .i64 r.cell.owner) ∧ wr.cell? ⟨b, i * 6 + 5, none⟩ = some (Value.int .i64 r.cell.holder) := by
  obtain ⟨c0, c1, c2, c3, c4, c5⟩ := h
  exact ⟨(hb.cell (p := ⟨b, i * 6, none⟩) hl).trans c0, (hb.cell (p := ⟨b, i * 6 + 1, none⟩) hl).trans c1, (hb.cell (p := ⟨b, i * 6 + 2, none⟩) hl).trans c2, (hb.cell (p := ⟨b, i * 6 + 3, none⟩) hl).trans c3, (hb.cell (p := ⟨b, i * 6 + 4, none⟩) hl).trans c4, (hb.cell (p := ⟨b, i * 6 + 5, none⟩) hl).trans c5⟩

set_option maxRecDepth 100000 in
set_option maxHeartbeats 4000000 in
theorem at_rcalls (w : World) (v : Value) (l : List Pc) (hv : RunsV 0 w v l) (hl : l.length ≤ 1000000) (x : Int) :
    Calls Try.prog 76 #[v, .int .i64 x] w fun e w' => e = .returned (valL l x).val ∧ Below w.heap.size w w' := by
  obtain ⟨p, cap, b, rfl, hp, hc⟩ := hv.cells
  obtain ⟨n, hn⟩ : ∃ n, n = l.length := ⟨_, rfl⟩
  rw [← hn] at hp hl ⊢
  have HP := hid hp
  have HC := hid hc
  have HN := hid hn
  have C0 := hid (Cells.new w #[.int .i64 0, .int .i64 0, .int .i64 0, .int .i64 0] 88)
  have B0 := hid (show Below w.heap.size w (w.alloc (.cells #[.int .i64 0, .int .i64 0, .int .i64 0, .int .i64 0] 88)) from (Below.refl _ _).alloc (Nat.le_refl _) _)
  clear hp hc hn
  go_enter Try.func76, Try.ntmps76
  go_wp2_with fail
  go_loopg [5] n (fun k s5 wr => ∃ i : Nat, i + k = n ∧ s5 = .int .i64 i ∧ valL l x = valL (l.drop i) x ∧ Below w.heap.size w wr ∧ Cells wr w.heap.size #[.int .i64 0, .int .i64 0, .int .i64 0, .int .i64 0] 88)
  case atStart => exact ⟨0, by omega, rfl, rfl, B0.out, C0.out⟩
  case round =>
    obtain ⟨i, hik, rfl, hva, hb, hcc⟩ := hrel
    have HV := hid hva
    have HB := hid hb
    have CC := hid hcc
    have lz := hcc.lt
    have fz : ∀ j, wr.frozen? ⟨w.heap.size, j, none⟩ = false := fun j => hcc.frozen j
    have q0 : wr.cell? ⟨w.heap.size, 0, none⟩ = some (.int .i64 0) := by simp [hcc.cell]
    have q1 : wr.cell? ⟨w.heap.size, 1, none⟩ = some (.int .i64 0) := by simp [hcc.cell]
    have q2 : wr.cell? ⟨w.heap.size, 2, none⟩ = some (.int .i64 0) := by simp [hcc.cell]
    have q3 : wr.cell? ⟨w.heap.size, 3, none⟩ = some (.int .i64 0) := by simp [hcc.cell]
    by_cases hi : i < n
    · have hil : i < l.length := by rw [← HN.out]; exact hi
      obtain ⟨rfl, _, hbl⟩ := HP.out (by omega)
      obtain ⟨d0, d1, d2, d3, d4, d5⟩ := run_cell hb hbl (HC.out i hil)
      obtain ⟨r, hr⟩ : ∃ r, r = l[i] := ⟨_, rfl⟩
      rw [← hr] at d0 d1 d2 d3 d4 d5
      have DR := hid (show valL (l.drop i) x = if r.from_ ≤ x ∧ x ≤ r.to then r.cell else valL (l.drop (i + 1)) x by rw [List.drop_eq_getElem_cons hil, ← hr, valL])
      have i64 : IntKind.i64.wrap ((i : Int) + 1) = (i : Int) + 1 := IntWalk.i64_in _ (by omega)
      have g2 : decide ((i : Int) < (n : Int)) = true := by simpa using hi
      clear hr hb hcc hva
      by_cases h1 : r.from_ ≤ x
      · have g3 : decide (r.from_ ≤ x) = true := by simpa using h1
        by_cases h2 : x ≤ r.to
        · have g4 : decide (x ≤ r.to) = true := by simpa using h2
          have VE := hid (show valL l x = r.cell by rw [HV.out, DR.out, if_pos ⟨h1, h2⟩])
          clear h1 h2
          go_wp2
          have hs := (((CC.out.set 0 (.int .i64 r.cell.state)).set 1 (.int .i64 r.cell.lot)).set 2 (.int .i64 r.cell.owner)).set 3 (.int .i64 r.cell.holder)
          have bs := (((HB.out.setCell (p := ⟨w.heap.size, 0, none⟩) (Nat.le_refl _) (.int .i64 r.cell.state)).setCell (p := ⟨w.heap.size, 1, none⟩) (Nat.le_refl _) (.int .i64 r.cell.lot)).setCell (p := ⟨w.heap.size, 2, none⟩) (Nat.le_refl _) (.int .i64 r.cell.owner)).setCell (p := ⟨w.heap.size, 3, none⟩) (Nat.le_refl _) (.int .i64 r.cell.holder)
          refine bodyPost_ret (v := r.cell.val) (by simp [results, Try.results76, go_sem, hs.cell]) rfl ⟨by rw [VE.out], bs⟩
        · have g4 : decide (x ≤ r.to) = false := by simpa using h2
          have VE := hid (show valL l x = valL (l.drop (i + 1)) x by rw [HV.out, DR.out, if_neg (fun e => h2 e.2)])
          clear h1 h2
          go_wp2
          go_roundg (gk - 1)
          case measure => omega
          case rel => exact ⟨i + 1, by omega, rfl, VE.out, HB.out, CC.out⟩
      · have g3 : decide (r.from_ ≤ x) = false := by simpa using h1
        have VE := hid (show valL l x = valL (l.drop (i + 1)) x by rw [HV.out, DR.out, if_neg (fun e => h1 e.1)])
        clear h1
        go_wp2
        go_roundg (gk - 1)
        case measure => omega
        case rel => exact ⟨i + 1, by omega, rfl, VE.out, HB.out, CC.out⟩
    · have g2 : decide ((i : Int) < (n : Int)) = false := by simpa using hi
      have VE := hid (show valL l x = cl0 by rw [HV.out, List.drop_of_length_le (by have := HN.out; omega)]; rfl)
      clear hb hcc hva
      go_wp2
      have hs := (((CC.out.set 0 (.int .i64 0)).set 1 (.int .i64 0)).set 2 (.int .i64 0)).set 3 (.int .i64 0)
      have bs := (((HB.out.setCell (p := ⟨w.heap.size, 0, none⟩) (Nat.le_refl _) (.int .i64 0)).setCell (p := ⟨w.heap.size, 1, none⟩) (Nat.le_refl _) (.int .i64 0)).setCell (p := ⟨w.heap.size, 2, none⟩) (Nat.le_refl _) (.int .i64 0)).setCell (p := ⟨w.heap.size, 3, none⟩) (Nat.le_refl _) (.int .i64 0)
      refine bodyPost_ret (v := .agg #[.int .i64 0, .int .i64 0, .int .i64 0, .int .i64 0]) (by simp [results, Try.results76, go_sem, hs.cell]) rfl ⟨by rw [VE.out]; rfl, bs⟩

set_option maxRecDepth 100000 in
set_option maxHeartbeats 4000000 in
theorem rholds_calls (w : World) (v : Value) (l : List Pc) (hv : RunsV 0 w v l) (hl : l.length ≤ 1000000) (o : Int) :
    Calls Try.prog 79 #[v, .int .i64 o] w fun e w' => ∃ u, e = .returned u ∧ RunsV w.heap.size w' u (l.filter fun p => ownB o p.cell) ∧ Below w.heap.size w w' := by
  obtain ⟨i0, hi0, hz0, hz1, hz2⟩ := info_parts info_run
  obtain ⟨p, cap, b, rfl, hp, hc⟩ := hv.cells
  obtain ⟨n, hn⟩ : ∃ n, n = l.length := ⟨_, rfl⟩
  rw [← hn] at hp hl ⊢
  have HP := hid hp
  have HC := hid hc
  have HN := hid hn
  clear hp hc hn
  go_enter Try.func79, Try.ntmps79
  go_wp2_with fail
  go_loopg [5, 6] n (fun k s5 s6 wr => ∃ i : Nat, i + k = n ∧ s6 = .int .i64 i ∧ RunsV w.heap.size wr s5 ((l.take i).filter fun p => ownB o p.cell) ∧ Below w.heap.size w wr)
  case atStart => exact ⟨0, by omega, rfl, OwnE.nil _ _, Below.refl _ _⟩
  case round =>
    obtain ⟨i, hik, rfl, hu, hb⟩ := hrel
    have HU := hid hu
    have HB := hid hb
    have hsz := hb.size
    by_cases hi : i < n
    · have hil : i < l.length := by rw [← HN.out]; exact hi
      obtain ⟨rfl, _, hbl⟩ := HP.out (by omega)
      obtain ⟨d0, d1, d2, d3, d4, d5⟩ := run_cell hb hbl (HC.out i hil)
      obtain ⟨r, hr⟩ : ∃ r, r = l[i] := ⟨_, rfl⟩
      rw [← hr] at d0 d1 d2 d3 d4 d5
      have TK := hid (show (l.take (i + 1)).filter (fun p => ownB o p.cell) = (l.take i).filter (fun p => ownB o p.cell) ++ (if ownB o r.cell = true then [r] else []) by
        rw [List.take_succ_eq_append_getElem hil, List.filter_append, ← hr]
        congr 1
        by_cases hb : ownB o r.cell = true <;> simp [hb])
      have i64 : IntKind.i64.wrap ((i : Int) + 1) = (i : Int) + 1 := IntWalk.i64_in _ (by omega)
      have g2 : decide ((i : Int) < (n : Int)) = true := by simpa using hi
      obtain ⟨M, hM⟩ : ∃ M, M = (l.take i).filter (fun p => ownB o p.cell) := ⟨_, rfl⟩
      have hlM : M.length ≤ i := by
        rw [hM]
        have := List.length_filter_le (fun p : Pc => ownB o p.cell) (l.take i)
        rw [List.length_take] at this
        omega
      rw [← hM] at HU TK
      clear hr hb hu hM
      by_cases h1 : r.cell.state = 1
      · have g3 : (r.cell.state == 1) = true := by simpa using h1
        by_cases h2 : r.cell.owner = o
        · have g4 : (r.cell.owner == o) = true := by simpa using h2
          have TK2 := hid (show (l.take (i + 1)).filter (fun p => ownB o p.cell) = M ++ [r] by rw [TK.out, if_pos (by simp [ownB, h1, h2])])
          have O2 := hid (show (wr.alloc (.cells r.vals 90)).ownsRow w.heap.size 90 6 u5 M.length (flatE encP M) from HU.out.alloc _)
          clear h1 h2
          go_wp2_with (at_builtin; refine wpList_append_lies _ rfl (.tmp 30) (.tmp 35) 63 rfl w.heap.size 90 i0 _ 6 48 under_runs hi0 hz0 hz1 hz2 rfl (by decide) u5 M.length (flatE encP M) rfl O2.out ⟨wr.heap.size, 0, none⟩ 1 1 (encP r) rfl rfl ?a1 ?a2 (by decide) ?a3 ?a4 ?a5 _ rfl ?_)
          case a1 => first | exact news_of (Cells.new wr r.vals 90) | exact fun j u hu => hu
          case a2 => intro u hu; simp [encP] at hu; rcases hu with rfl | rfl | rfl | rfl | rfl | rfl <;> rfl
          case a3 => unfold maxLen; omega
          case a4 => omega
          case a5 => first | omega | (simp; omega)
          intro g1 cap1 w3 own1 gr1 at1 lt1
          have bb : Below w.heap.size w w3 := Below.grown (HB.out.alloc hsz _) gr1 (by simp; omega) (fun r h => (World.ownsRow.lt O2.out r h).1)
          have OW := hid (show RunsV w.heap.size w3 (.slice (some ⟨g1, 0, none⟩) (M.length + 1) cap1) (M ++ [r]) by unfold RunsV OwnE; rw [flatE_snoc, List.length_append]; exact own1)
          have BB := hid bb
          clear own1 gr1 at1 lt1 bb
          go_wp2
          go_roundg (gk - 1)
          case measure => omega
          case rel => exact ⟨i + 1, by omega, rfl, by rw [TK2.out]; exact OW.out, BB.out⟩
        · have g4 : (r.cell.owner == o) = false := by simpa using h2
          have TK2 := hid (show (l.take (i + 1)).filter (fun p => ownB o p.cell) = M by rw [TK.out, if_neg (by simp [ownB, h2]), List.append_nil])
          clear h1 h2
          go_wp2
          go_roundg (gk - 1)
          case measure => omega
          case rel => exact ⟨i + 1, by omega, rfl, by rw [TK2.out]; exact HU.out, HB.out⟩
      · have g3 : (r.cell.state == 1) = false := by simpa using h1
        have TK2 := hid (show (l.take (i + 1)).filter (fun p => ownB o p.cell) = M by rw [TK.out, if_neg (by simp [ownB, h1]), List.append_nil])
        clear h1
        go_wp2
        go_roundg (gk - 1)
        case measure => omega
        case rel => exact ⟨i + 1, by omega, rfl, by rw [TK2.out]; exact HU.out, HB.out⟩
    · have g2 : decide ((i : Int) < (n : Int)) = false := by simpa using hi
      rw [List.take_of_length_le (by have := HN.out; omega)] at HU
      clear hb hu
      go_wp2
      refine bodyPost_ret (v := u5) (by simp [results, Try.results79, go_sem]) rfl ⟨_, rfl, HU.out, HB.out⟩

set_option maxRecDepth 100000 in
set_option maxHeartbeats 4000000 in
theorem rpledged_calls (w : World) (v : Value) (l : List Pc) (hv : RunsV 0 w v l) (hl : l.length ≤ 1000000) (o : Int) :
    Calls Try.prog 80 #[v, .int .i64 o] w fun e w' => ∃ u, e = .returned u ∧ RunsV w.heap.size w' u (l.filter fun p => plgB o p.cell) ∧ Below w.heap.size w w' := by
  obtain ⟨i0, hi0, hz0, hz1, hz2⟩ := info_parts info_run
  obtain ⟨p, cap, b, rfl, hp, hc⟩ := hv.cells
  obtain ⟨n, hn⟩ : ∃ n, n = l.length := ⟨_, rfl⟩
  rw [← hn] at hp hl ⊢
  have HP := hid hp
  have HC := hid hc
  have HN := hid hn
  clear hp hc hn
  go_enter Try.func80, Try.ntmps80
  go_wp2_with fail
  go_loopg [5, 6] n (fun k s5 s6 wr => ∃ i : Nat, i + k = n ∧ s6 = .int .i64 i ∧ RunsV w.heap.size wr s5 ((l.take i).filter fun p => plgB o p.cell) ∧ Below w.heap.size w wr)
  case atStart => exact ⟨0, by omega, rfl, OwnE.nil _ _, Below.refl _ _⟩
  case round =>
    obtain ⟨i, hik, rfl, hu, hb⟩ := hrel
    have HU := hid hu
    have HB := hid hb
    have hsz := hb.size
    by_cases hi : i < n
    · have hil : i < l.length := by rw [← HN.out]; exact hi
      obtain ⟨rfl, _, hbl⟩ := HP.out (by omega)
      obtain ⟨d0, d1, d2, d3, d4, d5⟩ := run_cell hb hbl (HC.out i hil)
      obtain ⟨r, hr⟩ : ∃ r, r = l[i] := ⟨_, rfl⟩
      rw [← hr] at d0 d1 d2 d3 d4 d5
      have TK := hid (show (l.take (i + 1)).filter (fun p => plgB o p.cell) = (l.take i).filter (fun p => plgB o p.cell) ++ (if plgB o r.cell = true then [r] else []) by
        rw [List.take_succ_eq_append_getElem hil, List.filter_append, ← hr]
        congr 1
        by_cases hb : plgB o r.cell = true <;> simp [hb])
      have i64 : IntKind.i64.wrap ((i : Int) + 1) = (i : Int) + 1 := IntWalk.i64_in _ (by omega)
      have g2 : decide ((i : Int) < (n : Int)) = true := by simpa using hi
      obtain ⟨M, hM⟩ : ∃ M, M = (l.take i).filter (fun p => plgB o p.cell) := ⟨_, rfl⟩
      have hlM : M.length ≤ i := by
        rw [hM]
        have := List.length_filter_le (fun p : Pc => plgB o p.cell) (l.take i)
        rw [List.length_take] at this
        omega
      rw [← hM] at HU TK
      clear hr hb hu hM
      by_cases h1 : r.cell.state = 1
      · have g3 : (r.cell.state == 1) = true := by simpa using h1
        by_cases h2 : r.cell.holder = o
        · have g4 : (r.cell.holder == o) = true := by simpa using h2
          have TK2 := hid (show (l.take (i + 1)).filter (fun p => plgB o p.cell) = M ++ [r] by rw [TK.out, if_pos (by simp [plgB, h1, h2])])
          have O2 := hid (show (wr.alloc (.cells r.vals 90)).ownsRow w.heap.size 90 6 u5 M.length (flatE encP M) from HU.out.alloc _)
          clear h1 h2
          go_wp2_with (at_builtin; refine wpList_append_lies _ rfl (.tmp 30) (.tmp 35) 63 rfl w.heap.size 90 i0 _ 6 48 under_runs hi0 hz0 hz1 hz2 rfl (by decide) u5 M.length (flatE encP M) rfl O2.out ⟨wr.heap.size, 0, none⟩ 1 1 (encP r) rfl rfl ?a1 ?a2 (by decide) ?a3 ?a4 ?a5 _ rfl ?_)
          case a1 => first | exact news_of (Cells.new wr r.vals 90) | exact fun j u hu => hu
          case a2 => intro u hu; simp [encP] at hu; rcases hu with rfl | rfl | rfl | rfl | rfl | rfl <;> rfl
          case a3 => unfold maxLen; omega
          case a4 => omega
          case a5 => first | omega | (simp; omega)
          intro g1 cap1 w3 own1 gr1 at1 lt1
          have bb : Below w.heap.size w w3 := Below.grown (HB.out.alloc hsz _) gr1 (by simp; omega) (fun r h => (World.ownsRow.lt O2.out r h).1)
          have OW := hid (show RunsV w.heap.size w3 (.slice (some ⟨g1, 0, none⟩) (M.length + 1) cap1) (M ++ [r]) by unfold RunsV OwnE; rw [flatE_snoc, List.length_append]; exact own1)
          have BB := hid bb
          clear own1 gr1 at1 lt1 bb
          go_wp2
          go_roundg (gk - 1)
          case measure => omega
          case rel => exact ⟨i + 1, by omega, rfl, by rw [TK2.out]; exact OW.out, BB.out⟩
        · have g4 : (r.cell.holder == o) = false := by simpa using h2
          have TK2 := hid (show (l.take (i + 1)).filter (fun p => plgB o p.cell) = M by rw [TK.out, if_neg (by simp [plgB, h2]), List.append_nil])
          clear h1 h2
          go_wp2
          go_roundg (gk - 1)
          case measure => omega
          case rel => exact ⟨i + 1, by omega, rfl, by rw [TK2.out]; exact HU.out, HB.out⟩
      · have g3 : (r.cell.state == 1) = false := by simpa using h1
        have TK2 := hid (show (l.take (i + 1)).filter (fun p => plgB o p.cell) = M by rw [TK.out, if_neg (by simp [plgB, h1]), List.append_nil])
        clear h1
        go_wp2
        go_roundg (gk - 1)
        case measure => omega
        case rel => exact ⟨i + 1, by omega, rfl, by rw [TK2.out]; exact HU.out, HB.out⟩
    · have g2 : decide ((i : Int) < (n : Int)) = false := by simpa using hi
      rw [List.take_of_length_le (by have := HN.out; omega)] at HU
      clear hb hu
      go_wp2
      refine bodyPost_ret (v := u5) (by simp [results, Try.results80, go_sem]) rfl ⟨_, rfl, HU.out, HB.out⟩

set_option maxRecDepth 100000 in
set_option maxHeartbeats 4000000 in
theorem rcount_calls (w : World) (v : Value) (l : List Pc) (hv : RunsV 0 w v l) (hl : l.length ≤ 1000000) (hin : InR l) :
    Calls Try.prog 81 #[v] w fun e w' => e = .returned (.int .i64 (cntL l)) ∧ Below w.heap.size w w' := by
  obtain ⟨p, cap, b, rfl, hp, hc⟩ := hv.cells
  obtain ⟨n, hn⟩ : ∃ n, n = l.length := ⟨_, rfl⟩
  rw [← hn] at hp hl ⊢
  have HP := hid hp
  have HC := hid hc
  have HN := hid hn
  have HI := hid hin
  clear hp hc hn hin
  go_enter Try.func81, Try.ntmps81
  go_wp2_with fail
  go_loopg [3, 4] n (fun k s3 s4 wr => ∃ (i : Nat) (s : Int), i + k = n ∧ s4 = .int .i64 i ∧ s3 = .int .i64 s ∧ s + cntL (l.drop i) = cntL l ∧ -1000002 * (i : Int) ≤ s ∧ s ≤ 1000002 * (i : Int) ∧ Below w.heap.size w wr)
  case atStart => exact ⟨0, 0, by omega, rfl, rfl, by simp, by omega, by omega, Below.refl _ _⟩
  case round =>
    obtain ⟨i, s, hik, rfl, rfl, hsum, hs1, hs2, hb⟩ := hrel
    have HS := hid hsum
    have HB := hid hb
    by_cases hi : i < n
    · have hil : i < l.length := by rw [← HN.out]; exact hi
      obtain ⟨rfl, _, hbl⟩ := HP.out (by omega)
      obtain ⟨d0, d1, _⟩ := run_cell hb hbl (HC.out i hil)
      obtain ⟨r, hr⟩ : ∃ r, r = l[i] := ⟨_, rfl⟩
      rw [← hr] at d0 d1
      have DR := hid (show cntL (l.drop i) = (r.to - r.from_ + 1) + cntL (l.drop (i + 1)) by rw [List.drop_eq_getElem_cons hil, ← hr]; rfl)
      have hri := HI.out r (by rw [hr]; exact List.getElem_mem hil)
      have w1 : IntKind.i64.wrap (s + r.to) = s + r.to := IntWalk.i64_in _ (by omega)
      have w2 : IntKind.i64.wrap (s + r.to - r.from_) = s + r.to - r.from_ := IntWalk.i64_in _ (by omega)
      have w3 : IntKind.i64.wrap (s + r.to - r.from_ + 1) = s + r.to - r.from_ + 1 := IntWalk.i64_in _ (by omega)
      have i64 : IntKind.i64.wrap ((i : Int) + 1) = (i : Int) + 1 := IntWalk.i64_in _ (by omega)
      have g2 : decide ((i : Int) < (n : Int)) = true := by simpa using hi
      clear hr hb hsum
      go_wp2
      go_big_quiet (fail)
      go_wp2
      go_roundg (gk - 1)
      case measure => omega
      case rel => exact ⟨i + 1, _, by omega, rfl, rfl, by have := HS.out; have := DR.out; omega, by omega, by omega, drewN_below HB.out nq⟩
    · have g2 : decide ((i : Int) < (n : Int)) = false := by simpa using hi
      have FI := hid (show s = cntL l by have := HS.out; rw [List.drop_of_length_le (by have := HN.out; omega)] at this; simp [cntL] at this; exact this)
      clear hb hsum
      go_wp2
      refine bodyPost_ret (v := .int .i64 s) (by simp [results, Try.results81, go_sem]) rfl ⟨by rw [FI.out], HB.out⟩

def encZ (x : Int) : List Value := [.int .i64 x]
theorem encZ_len (x : Int) : (encZ x).length = 1 := rfl
/-- The members that occur, and one that does not. -/
def memL (l : List Pc) : List Int := 1000 :: l.flatMap fun p => [p.cell.owner, p.cell.holder]

set_option maxRecDepth 100000 in
set_option maxHeartbeats 4000000 in
theorem members_calls (w : World) (v : Value) (l : List Pc) (hv : RunsV 0 w v l) (hl : l.length ≤ 1000000) :
    Calls Try.prog 77 #[v] w fun e w' => ∃ u, e = .returned u ∧ OwnE encZ 1 3 w.heap.size w' u (memL l) ∧ Below w.heap.size w w' := by
  obtain ⟨i0, hi0, hz0, hz1, hz2⟩ := info_parts info_int
  obtain ⟨p, cap, b, rfl, hp, hc⟩ := hv.cells
  obtain ⟨n, hn⟩ : ∃ n, n = l.length := ⟨_, rfl⟩
  rw [← hn] at hp hl ⊢
  have HP := hid hp
  have HC := hid hc
  have HN := hid hn
  have O0 := hid (show OwnE encZ 1 3 w.heap.size (w.alloc (.cells #[.int .i64 1000] 3)) (.slice (some ⟨w.heap.size, 0, none⟩) 1 1) (memL (l.take 0)) from
    World.ownsRow_lit (base := w.heap.size) (size := 1) (e := 3) w #[.int .i64 1000] 1 (Nat.le_refl _) (by decide) rfl)
  have B0 := hid (show Below w.heap.size w (w.alloc (.cells #[.int .i64 1000] 3)) from (Below.refl _ _).alloc (Nat.le_refl _) _)
  clear hp hc hn
  go_enter Try.func77, Try.ntmps77
  go_wp2_with fail
  go_loopg [3, 4] n (fun k s3 s4 wr => ∃ i : Nat, i + k = n ∧ s4 = .int .i64 i ∧ OwnE encZ 1 3 w.heap.size wr s3 (memL (l.take i)) ∧ Below w.heap.size w wr)
  case atStart => exact ⟨0, by omega, rfl, O0.out, B0.out⟩
  case round =>
    obtain ⟨i, hik, rfl, hu, hb⟩ := hrel
    have HU := hid hu
    have HB := hid hb
    have hsz := hb.size
    by_cases hi : i < n
    · have hil : i < l.length := by rw [← HN.out]; exact hi
      obtain ⟨rfl, _, hbl⟩ := HP.out (by omega)
      obtain ⟨r, hr⟩ : ∃ r, r = l[i] := ⟨_, rfl⟩
      have cells := hid (fun (wx : World) (hx : Below w.heap.size w wx) => run_cell hx hbl (HC.out i hil))
      rw [← hr] at cells
      obtain ⟨_, _, d2, d3, d4, d5⟩ := cells.out wr hb
      have TK := hid (show memL (l.take (i + 1)) = (memL (l.take i) ++ [r.cell.owner]) ++ [r.cell.holder] by
        unfold memL
        rw [List.take_succ_eq_append_getElem hil, List.flatMap_append, ← hr]
        simp)
      have LM := hid (show (memL (l.take i)).length ≤ 2 * i + 1 by
        have key : ∀ m : List Pc, (memL m).length = 2 * m.length + 1 := by
          intro m
          induction m with
          | nil => rfl
          | cons x m ih => simp [memL] at ih ⊢; omega
        rw [key, List.length_take]; omega)
      have i64 : IntKind.i64.wrap ((i : Int) + 1) = (i : Int) + 1 := IntWalk.i64_in _ (by omega)
      have g2 : decide ((i : Int) < (n : Int)) = true := by simpa using hi
      obtain ⟨M, hM⟩ : ∃ M, M = memL (l.take i) := ⟨_, rfl⟩
      rw [← hM] at HU TK LM
      have hlM := LM.out
      have O2 := hid (show (wr.alloc (.cells #[.int .i64 r.cell.owner] 3)).ownsRow w.heap.size 3 1 u3 M.length (flatE encZ M) from HU.out.alloc _)
      clear hr hb hu hM d2 d3 d5
      go_wp2_with (at_builtin; refine wpList_append_lies _ rfl (.tmp 12) (.tmp 19) 23 rfl w.heap.size 3 i0 _ 1 8 under_ints hi0 hz0 hz1 hz2 rfl (by decide) u3 M.length (flatE encZ M) rfl O2.out ⟨wr.heap.size, 0, none⟩ 1 1 (encZ r.cell.owner) rfl rfl ?a1 ?a2 (by decide) ?a3 ?a4 ?a5 _ rfl ?_)
      case a1 => first | exact news_of (Cells.new wr #[.int .i64 r.cell.owner] 3) | exact fun j u hu => hu
      case a2 => intro u hu; simp [encZ] at hu; rw [hu]; rfl
      case a3 => unfold maxLen; omega
      case a4 => omega
      case a5 => first | omega | (simp; omega)
      intro g1 cap1 w3 own1 gr1 at1 lt1
      have bb : Below w.heap.size w w3 := Below.grown (HB.out.alloc hsz _) gr1 (by simp; omega) (fun r h => (World.ownsRow.lt O2.out r h).1)
      have OW := hid (show OwnE encZ 1 3 w.heap.size w3 (.slice (some ⟨g1, 0, none⟩) (M.length + 1) cap1) (M ++ [r.cell.owner]) by unfold OwnE; rw [flatE_snoc, List.length_append]; exact own1)
      have BB := hid bb
      have hsz3 := bb.size
      obtain ⟨_, _, _, _, _, d5⟩ := cells.out w3 bb
      have O3 := hid (show (w3.alloc (.cells #[.int .i64 r.cell.holder] 3)).ownsRow w.heap.size 3 1 (.slice (some ⟨g1, 0, none⟩) (M.length + 1) cap1) (M.length + 1) (flatE encZ (M ++ [r.cell.owner])) by
        have := OW.out.alloc (.cells #[.int .i64 r.cell.holder] 3)
        unfold OwnE at this
        rwa [List.length_append] at this)
      clear own1 gr1 at1 lt1 bb d4
      go_wp2_with (at_builtin; refine wpList_append_lies _ rfl (.tmp 21) (.tmp 28) 23 rfl w.heap.size 3 i0 _ 1 8 under_ints hi0 hz0 hz1 hz2 rfl (by decide) (.slice (some ⟨g1, 0, none⟩) (M.length + 1) cap1) (M.length + 1) (flatE encZ (M ++ [r.cell.owner])) rfl O3.out ⟨w3.heap.size, 0, none⟩ 1 1 (encZ r.cell.holder) rfl rfl ?b1 ?b2 (by decide) ?b3 ?b4 ?b5 _ rfl ?_)
      case b1 => first | exact news_of (Cells.new w3 #[.int .i64 r.cell.holder] 3) | exact fun j u hu => hu
      case b2 => intro u hu; simp [encZ] at hu; rw [hu]; rfl
      case b3 => unfold maxLen; omega
      case b4 => omega
      case b5 => first | omega | (simp; omega)
      intro g2' cap2 w4 own2 gr2 at2 lt2
      have bb : Below w.heap.size w w4 := Below.grown (BB.out.alloc hsz3 _) gr2 (by simp; omega) (fun r h => (World.ownsRow.lt O3.out r h).1)
      have OW4 := hid (show OwnE encZ 1 3 w.heap.size w4 (.slice (some ⟨g2', 0, none⟩) (M.length + 1 + 1) cap2) ((M ++ [r.cell.owner]) ++ [r.cell.holder]) by unfold OwnE; rw [flatE_snoc, List.length_append, List.length_append]; exact own2)
      have B4 := hid bb
      clear own2 gr2 at2 lt2 bb
      go_wp2
      go_roundg (gk - 1)
      case measure => omega
      case rel => exact ⟨i + 1, by omega, rfl, by rw [TK.out]; exact OW4.out, B4.out⟩
    · have g2 : decide ((i : Int) < (n : Int)) = false := by simpa using hi
      rw [List.take_of_length_le (by have := HN.out; omega)] at HU
      clear hb hu
      go_wp2
      refine bodyPost_ret (v := u3) (by simp [results, Try.results77, go_sem]) rfl ⟨_, rfl, HU.out, HB.out⟩
end Go.Proofs.Ytnnbdjfeagcbdaa
namespace Go.Proofs.Ytnnbdjfeagcbdaa
set_option linter.unusedSimpArgs false
set_option linter.unusedVariables false
open Go.RowKit Go.Shelf
attribute [local go_sem] Oper.semAt_some

theorem HoldsV.cells {B : Nat} {w : World} {v : Value} {l : List Pc} (h : OwnE encH 5 50 B w v l) : ∃ p cap b, v = .slice p l.length cap ∧ (0 < l.length → p = some ⟨b, 0, none⟩ ∧ B ≤ b ∧ b < w.heap.size) ∧
    ∀ (k : Nat) (hk : k < l.length), w.cell? ⟨b, k * 5, none⟩ = some (.int .i64 l[k].from_) ∧ w.cell? ⟨b, k * 5 + 1, none⟩ = some (.int .i64 (l[k].to - l[k].from_ + 1)) ∧ w.cell? ⟨b, k * 5 + 2, none⟩ = some (.int .i64 l[k].cell.lot) ∧ w.cell? ⟨b, k * 5 + 3, none⟩ = some (.int .i64 l[k].cell.owner) ∧ w.cell? ⟨b, k * 5 + 4, none⟩ = some (.int .i64 l[k].cell.holder) := by
  rcases h.2 with ⟨h1, h2⟩ | ⟨g, cap, cur, hv, hb, hg, h3⟩
  · exact ⟨none, 0, 0, by rw [h1, h2], fun h0 => by omega, fun k hk => by omega⟩
  · subst hv
    have key : ∀ (k : Nat) (hk : k < l.length) (j : Nat), j < 5 → w.cell? ⟨g, k * 5 + j, none⟩ = (encH l[k])[j]? := fun k hk j hj => by
      rw [World.ownsRow.cellAt h _ (by have : k * 5 + 5 ≤ l.length * 5 := by { rw [← Nat.succ_mul]; exact Nat.mul_le_mul_right _ hk }; omega), flatE_get encH_len l k hk j hj]
    refine ⟨_, cap, g, rfl, fun _ => ⟨rfl, hb, (Array.getElem?_eq_some_iff.1 hg).1⟩, fun k hk => ?_⟩
    have k0 := key k hk 0 (by omega)
    have k1 := key k hk 1 (by omega)
    have k2 := key k hk 2 (by omega)
    have k3 := key k hk 3 (by omega)
    have k4 := key k hk 4 (by omega)
    simp [encH] at k0 k1 k2 k3 k4
    exact ⟨k0, k1, k2, k3, k4⟩

set_option maxRecDepth 100000 in
set_option maxHeartbeats 4000000 in
theorem holds_same (w : World) (u v : Value) (l : List Pc) (hu : OwnE encH 5 50 0 w u l) (hv : RunsV 0 w v l) (hl : l.length ≤ 1000000) (hin : InR l) :
    Calls Try.prog 78 #[u, v] w fun e w' => e = .returned (.bool true) ∧ Below w.heap.size w w' := by
  obtain ⟨p, cap, b, rfl, hp, hc⟩ := hv.cells
  obtain ⟨p2, cap2, b2, rfl, hp2, hc2⟩ := HoldsV.cells hu
  obtain ⟨n, hn⟩ : ∃ n, n = l.length := ⟨_, rfl⟩
  rw [← hn] at hp hp2 hl ⊢
  have HP := hid hp
  have HC := hid hc
  have HP2 := hid hp2
  have HC2 := hid hc2
  have HN := hid hn
  have HI := hid hin
  clear hp hc hn hin hp2 hc2 hu hv
  go_enter Try.func78, Try.ntmps78
  go_wp2_with fail
  go_loopg [5] n (fun k s5 wr => ∃ i : Nat, i + k = n ∧ s5 = .int .i64 i ∧ Below w.heap.size w wr)
  case atStart => exact ⟨0, by omega, rfl, Below.refl _ _⟩
  case round =>
    obtain ⟨i, hik, rfl, hb⟩ := hrel
    have HB := hid hb
    have hsz := hb.size
    by_cases hi : i < n
    · have hil : i < l.length := by rw [← HN.out]; exact hi
      obtain ⟨rfl, _, hbl⟩ := HP.out (by omega)
      obtain ⟨rfl, _, hbl2⟩ := HP2.out (by omega)
      obtain ⟨d0, d1, d2, d3, d4, d5⟩ := run_cell hb hbl (HC.out i hil)
      obtain ⟨c0, c1, c2, c3, c4⟩ := HC2.out i hil
      obtain ⟨r, hr⟩ : ∃ r, r = l[i] := ⟨_, rfl⟩
      rw [← hr] at d0 d1 d2 d3 d4 d5 c0 c1 c2 c3 c4
      have hri := HI.out r (by rw [hr]; exact List.getElem_mem hil)
      obtain ⟨C, hC⟩ : ∃ C, C = r.to - r.from_ + 1 := ⟨_, rfl⟩
      rw [← hC] at c1
      have e0 : wr.cell? ⟨b2, i * 5, none⟩ = some (.int .i64 r.from_) := (hb.cell (p := ⟨b2, i * 5, none⟩) hbl2).trans c0
      have e1 : wr.cell? ⟨b2, i * 5 + 1, none⟩ = some (.int .i64 C) := (hb.cell (p := ⟨b2, i * 5 + 1, none⟩) hbl2).trans c1
      have e2 : wr.cell? ⟨b2, i * 5 + 2, none⟩ = some (.int .i64 r.cell.lot) := (hb.cell (p := ⟨b2, i * 5 + 2, none⟩) hbl2).trans c2
      have e3 : wr.cell? ⟨b2, i * 5 + 3, none⟩ = some (.int .i64 r.cell.owner) := (hb.cell (p := ⟨b2, i * 5 + 3, none⟩) hbl2).trans c3
      have e4 : wr.cell? ⟨b2, i * 5 + 4, none⟩ = some (.int .i64 r.cell.holder) := (hb.cell (p := ⟨b2, i * 5 + 4, none⟩) hbl2).trans c4
      have l1 : b2 < wr.heap.size := Nat.lt_of_lt_of_le hbl2 hsz
      have w1 : IntKind.i64.wrap (r.to - r.from_) = r.to - r.from_ := IntWalk.i64_in _ (by omega)
      have w2 : IntKind.i64.wrap (r.to - r.from_ + 1) = C := by rw [IntWalk.i64_in _ (by omega)]; exact hC.symm
      have i64 : IntKind.i64.wrap ((i : Int) + 1) = (i : Int) + 1 := IntWalk.i64_in _ (by omega)
      have g2 : decide ((i : Int) < (n : Int)) = true := by simpa using hi
      have BA := hid (HB.out.alloc hsz (.cells r.vals 90))
      clear hr hb hC c0 c1 c2 c3 c4
      go_wp2
      go_big_quiet (fail)
      go_wp2
      go_roundg (gk - 1)
      case measure => omega
      case rel => exact ⟨i + 1, by omega, rfl, drewN_below BA.out nq⟩
    · have g2 : decide ((i : Int) < (n : Int)) = false := by simpa using hi
      clear hb
      go_wp2
      refine bodyPost_ret (v := .bool true) (by simp [results, Try.results78, go_sem]) rfl ⟨rfl, HB.out⟩
end Go.Proofs.Ytnnbdjfeagcbdaa
namespace Go.Proofs.Ytnnbdjfeagcbdaa
set_option linter.unusedSimpArgs false
set_option linter.unusedVariables false
open Go.RowKit Go.Shelf

theorem inT_own (t : T) (o : Int) : (inT t).filter (fun p => ownB o p.cell) = t.toList.filter fun p => ownB o p.cell := by
  unfold inT inL
  rw [List.filter_filter]
  congr 1
  funext p
  unfold ownB
  by_cases h : p.cell.state = 1 <;> simp [h]
theorem inT_plg (t : T) (o : Int) : (inT t).filter (fun p => plgB o p.cell) = t.toList.filter fun p => plgB o p.cell := by
  unfold inT inL
  rw [List.filter_filter]
  congr 1
  funext p
  unfold plgB
  by_cases h : p.cell.state = 1 <;> simp [h]
theorem inB_false {m x : Int} (h : ¬ (1 ≤ x ∧ x ≤ m)) : inB m x = false := by rw [Bool.eq_false_iff]; exact fun e => h (inB_range e)
theorem inB_true {m x : Int} (h : 1 ≤ x ∧ x ≤ m) : inB m x = true := by simp only [inB, Bool.and_eq_true, decide_eq_true_eq]; exact h
theorem ver_lt {vs : List T} {ver : Nat} {t : T} (ht : vs[ver]? = some t) : ver < vs.length := (List.getElem?_eq_some_iff.1 ht).1
theorem ver_get {vs : List T} {ver : Nat} {t : T} (ht : vs[ver]? = some t) : vs[((ver : Int)).toNat]?.getD .nil = t := by rw [Int.toNat_natCast, ht]; rfl
theorem ver_tr {B : Nat} {W w : World} {sB vB : Nat} {vs : List T} (h : Reg B W w sB vB vs) {ver : Nat} {t : T} (ht : vs[ver]? = some t) : TrOk t := h.tr (List.mem_of_getElem? ht)
theorem ver_in {vs : List T} {ver : Nat} {t : T} (ht : vs[ver]? = some t) : atE vs.length (ver : Int) true = 0 := by
  have := ver_lt ht
  unfold atE; rw [if_neg (by omega), if_pos rfl]
theorem ver_out {vs : List T} {ver : Nat} {t : T} (ht : vs[ver]? = some t) : atE vs.length (ver : Int) false = 1 := by
  have := ver_lt ht
  unfold atE; rw [if_neg (by omega), if_neg (by simp)]
section
variable {B : Nat} {W w : World} {sB vB : Nat} {vs : List T} (h : Reg B W w sB vB vs) (hn : vs.length ≤ 1000) {ver : Nat} {t : T} (ht : vs[ver]? = some t)
include h hn ht
theorem pocket_ver (x : Int) (hx : 1 ≤ x ∧ x ≤ 1000000) : Calls Try.prog 28 #[.pointer (some ⟨sB, 0, none⟩), .int .i64 x, .int .i64 ver] w
    fun e w' => e = .returned (.tuple #[(valL (inT t) x).val, .int .i64 0]) ∧ Below w.heap.size w w' := by
  have tr := ver_tr h ht
  refine (Pocket_calls w sB vB vs h.st hn h.fine x (ver : Int)).mono ?_
  rintro e w' ⟨he, hb⟩
  rw [inB_true hx, ver_in ht, pocC, if_pos rfl, ver_get ht, visL_eq _ _ _ tr.fine.sorted, endC_visP tr.tiles hx.1 hx.2, ← tr.val] at he
  exact ⟨he, hb⟩
theorem pocket_out (x : Int) (hx : ¬ (1 ≤ x ∧ x ≤ 1000000)) : Calls Try.prog 28 #[.pointer (some ⟨sB, 0, none⟩), .int .i64 x, .int .i64 ver] w
    fun e w' => e = .returned (.tuple #[(⟨0, 0, 0, 0⟩ : Cl).val, .int .i64 1]) ∧ Below w.heap.size w w' := by
  refine (Pocket_calls w sB vB vs h.st hn h.fine x (ver : Int)).mono ?_
  rintro e w' ⟨he, hb⟩
  rw [inB_false hx, ver_out ht, pocC, if_neg (by decide)] at he
  exact ⟨he, hb⟩
theorem holds_ver (o : Int) (ho : 1 ≤ o ∧ o ≤ 1000) : Calls Try.prog 26 #[.pointer (some ⟨sB, 0, none⟩), .int .i64 o, .int .i64 ver] w
    fun e w' => ∃ u, e = .returned (.tuple #[u, .int .i64 0]) ∧ OwnE encH 5 50 w.heap.size w' u ((inT t).filter fun p => ownB o p.cell) ∧ Below w.heap.size w w' := by
  have tr := ver_tr h ht
  refine (Holds_calls w sB vB vs h.st hn h.fine o (ver : Int)).mono ?_
  rintro e w' ⟨u, he, ho', hb⟩
  rw [inB_true ho, ver_in ht] at he ho'
  rw [askL, if_pos rfl, ver_get ht, allP_filter (ownB o) tr.tiles tr.canon, ← inT_own] at ho'
  exact ⟨u, he, ho', hb⟩
theorem holds_out (o : Int) (ho : ¬ (1 ≤ o ∧ o ≤ 1000)) : Calls Try.prog 26 #[.pointer (some ⟨sB, 0, none⟩), .int .i64 o, .int .i64 ver] w
    fun e w' => ∃ u, e = .returned (.tuple #[u, .int .i64 1]) ∧ Below w.heap.size w w' := by
  refine (Holds_calls w sB vB vs h.st hn h.fine o (ver : Int)).mono ?_
  rintro e w' ⟨u, he, ho', hb⟩
  rw [inB_false ho, ver_out ht] at he
  exact ⟨u, he, hb⟩
theorem pledged_ver (o : Int) (ho : 1 ≤ o ∧ o ≤ 1000) : Calls Try.prog 34 #[.pointer (some ⟨sB, 0, none⟩), .int .i64 o, .int .i64 ver] w
    fun e w' => ∃ u, e = .returned (.tuple #[u, .int .i64 0]) ∧ OwnE encH 5 50 w.heap.size w' u ((inT t).filter fun p => plgB o p.cell) ∧ Below w.heap.size w w' := by
  have tr := ver_tr h ht
  refine (Pledged_calls w sB vB vs h.st hn h.fine o (ver : Int)).mono ?_
  rintro e w' ⟨u, he, ho', hb⟩
  rw [inB_true ho, ver_in ht] at he ho'
  rw [askL, if_pos rfl, ver_get ht, allP_filter (plgB o) tr.tiles tr.canon, ← inT_plg] at ho'
  exact ⟨u, he, ho', hb⟩
theorem pledged_out (o : Int) (ho : ¬ (1 ≤ o ∧ o ≤ 1000)) : Calls Try.prog 34 #[.pointer (some ⟨sB, 0, none⟩), .int .i64 o, .int .i64 ver] w
    fun e w' => ∃ u, e = .returned (.tuple #[u, .int .i64 1]) ∧ Below w.heap.size w w' := by
  refine (Pledged_calls w sB vB vs h.st hn h.fine o (ver : Int)).mono ?_
  rintro e w' ⟨u, he, ho', hb⟩
  rw [inB_false ho, ver_out ht] at he
  exact ⟨u, he, hb⟩
theorem count_ver (o : Int) (ho : 1 ≤ o ∧ o ≤ 1000) : Calls Try.prog 27 #[.pointer (some ⟨sB, 0, none⟩), .int .i64 o, .int .i64 ver] w
    fun e w' => e = .returned (.tuple #[.int .i64 (cntL ((inT t).filter fun p => ownB o p.cell)), .int .i64 0]) ∧ Below w.heap.size w w' := by
  have tr := ver_tr h ht
  refine (Count_calls w sB vB vs h.st hn h.fine o (ver : Int)).mono ?_
  rintro e w' ⟨he, hb⟩
  rw [inB_true ho, ver_in ht, askL, if_pos rfl, ver_get ht, allP_filter (ownB o) tr.tiles tr.canon, ← inT_own] at he
  exact ⟨he, hb⟩
theorem count_out (o : Int) (ho : ¬ (1 ≤ o ∧ o ≤ 1000)) : Calls Try.prog 27 #[.pointer (some ⟨sB, 0, none⟩), .int .i64 o, .int .i64 ver] w
    fun e w' => (∃ n, e = .returned (.tuple #[.int .i64 n, .int .i64 1])) ∧ Below w.heap.size w w' := by
  refine (Count_calls w sB vB vs h.st hn h.fine o (ver : Int)).mono ?_
  rintro e w' ⟨he, hb⟩
  rw [inB_false ho, ver_out ht] at he
  exact ⟨⟨_, he⟩, hb⟩
end
/-- Members that occur are from 0 to 1000. -/
theorem mem_range {t : T} (tr : TrOk t) (hb : Bc t) : ∀ x ∈ memL (inT t), 0 ≤ x ∧ x ≤ 1000 := by
  intro x hx
  rcases List.mem_cons.1 hx with rfl | hx
  · omega
  · obtain ⟨p, hp, h1⟩ := List.mem_flatMap.1 hx
    have gp := (tr.runs.good p hp).le
    have hv := tr.runs.val p hp p.from_ (by omega) (by omega)
    rw [tr.val] at hv
    have := hb p.from_
    rw [hv] at this
    unfold BC at this
    simp only [List.mem_cons, List.not_mem_nil, or_false] at h1
    rcases h1 with rfl | rfl <;> omega
end Go.Proofs.Ytnnbdjfeagcbdaa
namespace Go.Proofs.Ytnnbdjfeagcbdaa
set_option linter.unusedSimpArgs false
set_option linter.unusedVariables false
open Go.RowKit Go.Shelf
attribute [local go_sem] Oper.semAt_some

theorem four_at (a b c d : Int) (hr : (-1 ≤ a ∧ a ≤ 1000001) ∧ (-1 ≤ b ∧ b ≤ 1000001) ∧ (-1 ≤ c ∧ c ≤ 1000001) ∧ (-1 ≤ d ∧ d ≤ 1000001)) (j : Nat) (hj : j < 4) : ∃ x : Int, (#[Value.int .i64 a, .int .i64 b, .int .i64 c, .int .i64 d] : Array Value)[j]? = some (.int .i64 x) ∧ -1 ≤ x ∧ x ≤ 1000001 := by
  have : j = 0 ∨ j = 1 ∨ j = 2 ∨ j = 3 := by omega
  rcases this with rfl | rfl | rfl | rfl
  · exact ⟨a, rfl, hr.1⟩
  · exact ⟨b, rfl, hr.2.1⟩
  · exact ⟨c, rfl, hr.2.2.1⟩
  · exact ⟨d, rfl, hr.2.2.2⟩

theorem IntsV.cells {B : Nat} {w : World} {v : Value} {l : List Int} (h : OwnE encZ 1 3 B w v l) : ∃ p cap b, v = .slice p l.length cap ∧ (0 < l.length → p = some ⟨b, 0, none⟩ ∧ B ≤ b ∧ b < w.heap.size) ∧ ∀ (k : Nat) (hk : k < l.length), w.cell? ⟨b, k, none⟩ = some (.int .i64 l[k]) := by
  rcases h.2 with ⟨h1, h2⟩ | ⟨g, cap, cur, hv, hb, hg, h3⟩
  · exact ⟨none, 0, 0, by rw [h1, h2], fun h0 => by omega, fun k hk => by omega⟩
  · subst hv
    refine ⟨_, cap, g, rfl, fun _ => ⟨rfl, hb, (Array.getElem?_eq_some_iff.1 hg).1⟩, fun k hk => ?_⟩
    have h4 := World.ownsRow.cellAt h k (by omega)
    have h5 := flatE_get encZ_len l k hk 0 (by omega)
    rw [h4]
    simpa [encZ] using h5
theorem filter_in {l : List Pc} (h : InR l) (q : Pc → Bool) : InR (l.filter q) := fun p hp => h p (List.mem_filter.1 hp).1

set_option maxRecDepth 100000 in
set_option maxHeartbeats 8000000 in
theorem shows_calls {B : Nat} {W w : World} {sB vB : Nat} {vs : List T} (h : Reg B W w sB vB vs) (hB : B ≤ w.heap.size) (hn : vs.length ≤ 1000) {ver : Nat} {t : T} (ht : vs[ver]? = some t) (hbc : Bc t) (v : Value) (hv : RunsV 0 w v (inT t)) :
    Calls Try.prog 31 #[.pointer (some ⟨sB, 0, none⟩), .int .i64 ver, v] w fun e w' => e = .returned (.bool true) ∧ Below w.heap.size w w' := by
  have tr := ver_tr h ht
  have RG := hid h
  have HT := hid ht
  have MR := hid (mem_range tr hbc)
  have HR := hid tr.runs
  have hl := tr.short
  have HV := hid hv
  obtain ⟨L, hL⟩ : ∃ L, L = inT t := ⟨_, rfl⟩
  have HL := hid hL
  rw [← hL] at HV HR hl hv MR
  obtain ⟨p, cap, b, rfl, hp, hc⟩ := hv.cells
  obtain ⟨n, hnn⟩ : ∃ n, n = L.length := ⟨_, rfl⟩
  rw [← hnn] at hp hl ⊢
  have HP := hid hp
  have HC := hid hc
  have HN := hid hnn
  rw [← hnn] at HV
  clear hp hc hnn hL h ht hbc tr hv
  go_enter Try.func31, Try.ntmps31
  go_upto_block 0 with fail
  go_cut [7] (fun s7 wx => Below w.heap.size w wx)
  case first =>
    go_wp2_with fail
    go_loopg [7] n (fun k s7 wr => ∃ i : Nat, i + k = n ∧ s7 = .int .i64 i ∧ Below w.heap.size w wr)
    case atStart => exact ⟨0, by omega, rfl, Below.refl _ _⟩
    case round =>
      obtain ⟨i, hik, rfl, hb⟩ := hrel
      have HB := hid hb
      by_cases hi : i < n
      · have hil : i < L.length := by rw [← HN.out]; exact hi
        obtain ⟨rfl, _, hbl⟩ := HP.out (by omega)
        obtain ⟨d0, d1, _⟩ := run_cell hb hbl (HC.out i hil)
        obtain ⟨r, hr⟩ : ∃ r, r = L[i] := ⟨_, rfl⟩
        rw [← hr] at d0 d1
        have gr := (HR.out.good r (by rw [hr]; exact List.getElem_mem hil)).le
        have w1 : IntKind.i64.wrap (r.from_ - 1) = r.from_ - 1 := IntWalk.i64_in _ (by omega)
        have w2 : IntKind.i64.wrap (r.to + 1) = r.to + 1 := IntWalk.i64_in _ (by omega)
        have w3 : IntKind.i64.wrap ((i : Int) + 1) = (i : Int) + 1 := IntWalk.i64_in _ (by omega)
        have g1 : decide ((i : Int) < (n : Int)) = true := by simpa using hi
        have l1 : b < wr.heap.size := Nat.lt_of_lt_of_le hbl hb.size
        have hsz := hb.size
        obtain ⟨ki, hki⟩ : ∃ ki, ki = gk := ⟨_, rfl⟩
        clear hr hb
        go_wp2
        go_region_held3 (fun wh => wh.cell? ⟨b, i * 6, none⟩ = some (.int .i64 r.from_) ∧ wh.cell? ⟨b, i * 6 + 1, none⟩ = some (.int .i64 r.to))
          (first | assumption | go_keep)
          (fail)
        have CA := hid ((Cells.new wr #[.int .i64 (r.from_ - 1), .int .i64 r.from_, .int .i64 r.to, .int .i64 (r.to + 1)] 141).drew)
        have BA := hid ((HB.out.alloc hsz (.cells #[.int .i64 (r.from_ - 1), .int .i64 r.from_, .int .i64 r.to, .int .i64 (r.to + 1)] 141)).drew)
        obtain ⟨ab, hab⟩ : ∃ ab, ab = wr.heap.size := ⟨_, rfl⟩
        rw [← hab] at CA hsz ⊢
        have HAB := hid hab
        clear d0 d1 hab l1
        go_wp2_with fail
        go_loopg [9] 4 (fun k s9 wr => ∃ j : Nat, j + k = 4 ∧ s9 = .int .i64 j ∧ Below w.heap.size w wr ∧ Cells wr ab #[.int .i64 (r.from_ - 1), .int .i64 r.from_, .int .i64 r.to, .int .i64 (r.to + 1)] 141)
        case atStart => exact ⟨0, rfl, rfl, BA.out, CA.out⟩
        case round =>
          obtain ⟨j, hjk, rfl, hb, hca⟩ := hrel
          have HB1 := hid hb
          have CA1 := hid hca
          by_cases hj : j < 4
          · obtain ⟨x, hx, hx1, hx2⟩ := four_at (r.from_ - 1) r.from_ r.to (r.to + 1) (by omega) j hj
            have c0 : wr.cell? ⟨ab, j, none⟩ = some (.int .i64 x) := by rw [hca.cell, hx]
            have g2 : decide ((j : Int) < 4) = true := by simp; omega
            have n2 : (0 : Int) ≤ (j : Int) := by omega
            have n3 : (j : Int) < 4 := by omega
            have w4 : IntKind.i64.wrap ((j : Int) + 1) = (j : Int) + 1 := IntWalk.i64_in _ (by omega)
            have RG1 := hid (RG.out.after hB hb)
            have la := hca.lt
            clear hx hb hca
            by_cases hin : 1 ≤ x ∧ x ≤ 1000000
            · have f1 : decide (x < 1) = false := by simp; omega
              have f2 : decide (1000000 < x) = false := by simp; omega
              obtain ⟨hin1, hin2⟩ := hin
              go_wp2_with fail
              refine (pocket_ver RG1.out hn HT.out x ⟨hin1, hin2⟩).mono ?_
              rintro e w5 ⟨rfl, hb5⟩
              rw [← HL.out]
              obtain ⟨⟨s1, s2, s3, s4⟩, hcl⟩ : ∃ c : Cl, c = valL L x := ⟨_, rfl⟩
              rw [← hcl, show (Cl.mk s1 s2 s3 s4).val = .agg #[.int .i64 s1, .int .i64 s2, .int .i64 s3, .int .i64 s4] from rfl]
              have HCL := hid hcl
              have B5 := hid (HB1.out.trans (hb5.mono HB1.out.size))
              have CA5 := hid (CA1.out.below hb5 la)
              have c5 : w5.cell? ⟨ab, j, none⟩ = some (.int .i64 x) := (hb5.cell (p := ⟨ab, j, none⟩) la).trans c0
              have l5 : ab < w5.heap.size := CA5.out.lt
              have V5 := hid (HV.out.below B5.out)
              have he : ∀ w, (Op.equalIn 10000 88 (.agg #[.int .i64 s1, .int .i64 s2, .int .i64 s3, .int .i64 s4]) (.agg #[.int .i64 s1, .int .i64 s2, .int .i64 s3, .int .i64 s4])).run Try.prog w = .ok true w := fun w => (run_eqPocket ⟨s1, s2, s3, s4⟩ ⟨s1, s2, s3, s4⟩ w).trans (by simp)
              have V6 := hid (show RunsV 0 (w5.alloc (.cells #[.int .i64 s1, .int .i64 s2, .int .i64 s3, .int .i64 s4] 52)).drew (.slice (some ⟨b, 0, none⟩) n cap) L from (V5.out.alloc _).drew)
              have lL : L.length ≤ 1000000 := by have := HN.out; omega
              have AT := hid (fun (wx : World) (hx : RunsV 0 wx (.slice (some ⟨b, 0, none⟩) n cap) L) => show Calls Try.prog 76 #[.slice (some ⟨b, 0, none⟩) n cap, .int .i64 x] wx (fun e w' => e = .returned (.agg #[.int .i64 s1, .int .i64 s2, .int .i64 s3, .int .i64 s4]) ∧ Below wx.heap.size wx w') by
                have := at_rcalls wx _ L hx lL x
                rw [← HCL.out] at this
                exact this)
              have BP := hid ((B5.out.alloc B5.out.size (.cells #[.int .i64 s1, .int .i64 s2, .int .i64 s3, .int .i64 s4] 52)).drew)
              have CP := hid ((CA5.out.alloc (.cells #[.int .i64 s1, .int .i64 s2, .int .i64 s3, .int .i64 s4] 52)).drew)
              have l6 : w5.heap.size < w5.heap.size + 1 := by omega
              have l7 : ab < w5.heap.size + 1 := by omega
              clear hb5 hcl c0
              go_wp2
              go_region_held3 (fun wh => wh.cell? ⟨w5.heap.size, 0, none⟩ = some (.int .i64 s1) ∧ wh.cell? ⟨w5.heap.size, 1, none⟩ = some (.int .i64 s2) ∧ wh.cell? ⟨w5.heap.size, 2, none⟩ = some (.int .i64 s3) ∧ wh.cell? ⟨w5.heap.size, 3, none⟩ = some (.int .i64 s4) ∧ wh.cell? ⟨ab, j, none⟩ = some (.int .i64 x))
                (first | assumption | go_keep)
                ((go_at_call 76; (refine (AT.out _ V6.out).mono ?_); rintro e w6 ⟨rfl, hb6⟩; obtain ⟨hc6, hf6⟩ := bcell hb6))
              have B6 := hid (BP.out.trans (hb6.mono BP.out.size))
              have CA6 := hid (CP.out.below hb6 CP.out.lt)
              clear hc6 hf6 hb6
              go_wp2
              go_roundg (gk - 1)
              case measure => omega
              case rel => exact ⟨j + 1, by omega, rfl, B6.out, CA6.out⟩
            · have ho : x < 1 ∨ 1000000 < x := by omega
              have HIN := hid hin
              clear hin
              rcases ho with ho | ho
              · have f1 : decide (x < 1) = true := by simp; omega
                go_wp2_with fail
                refine (pocket_out RG1.out hn HT.out x HIN.out).mono ?_
                rintro e w5 ⟨rfl, hb5⟩
                have B5 := hid (HB1.out.trans (hb5.mono HB1.out.size))
                have CA5 := hid (CA1.out.below hb5 la)
                have c5 : w5.cell? ⟨ab, j, none⟩ = some (.int .i64 x) := (hb5.cell (p := ⟨ab, j, none⟩) la).trans c0
                have l5 : ab < w5.heap.size := CA5.out.lt
                have B6 := hid (B5.out.alloc B5.out.size (.cells #[.int .i64 0, .int .i64 0, .int .i64 0, .int .i64 0] 52))
                have CA6 := hid (CA5.out.alloc (.cells #[.int .i64 0, .int .i64 0, .int .i64 0, .int .i64 0] 52))
                clear hb5 c0
                go_wp2
                go_roundg (gk - 1)
                case measure => omega
                case rel => exact ⟨j + 1, by omega, rfl, B6.out, CA6.out⟩
              · have f1 : decide (x < 1) = false := by simp; omega
                have f2 : decide (1000000 < x) = true := by simp; omega
                go_wp2_with fail
                refine (pocket_out RG1.out hn HT.out x HIN.out).mono ?_
                rintro e w5 ⟨rfl, hb5⟩
                have B5 := hid (HB1.out.trans (hb5.mono HB1.out.size))
                have CA5 := hid (CA1.out.below hb5 la)
                have c5 : w5.cell? ⟨ab, j, none⟩ = some (.int .i64 x) := (hb5.cell (p := ⟨ab, j, none⟩) la).trans c0
                have l5 : ab < w5.heap.size := CA5.out.lt
                have B6 := hid (B5.out.alloc B5.out.size (.cells #[.int .i64 0, .int .i64 0, .int .i64 0, .int .i64 0] 52))
                have CA6 := hid (CA5.out.alloc (.cells #[.int .i64 0, .int .i64 0, .int .i64 0, .int .i64 0] 52))
                clear hb5 c0
                go_wp2
                go_roundg (gk - 1)
                case measure => omega
                case rel => exact ⟨j + 1, by omega, rfl, B6.out, CA6.out⟩
          · have g2 : decide ((j : Int) < 4) = false := by simp; omega
            clear hb hca
            go_wp2
            go_roundg (ki - 1)
            case measure => omega
            case rel => exact ⟨i + 1, by omega, rfl, HB1.out⟩
      · have g1 : decide ((i : Int) < (n : Int)) = false := by simpa using hi
        clear hb
        go_wp2
        go_meet
        case rel => exact HB.out
  case rest =>
    have HB := hid hcut
    have V1 := hid (HV.out.below hcut)
    have hsz := hcut.size
    have lL : L.length ≤ 1000000 := by have := HN.out; omega
    clear hcut
    go_wp2_with fail
    refine (members_calls wc _ L V1.out lL).mono ?_
    rintro e w2 ⟨um, rfl, om, hb2⟩
    have B2 := hid (HB.out.trans (hb2.mono hsz))
    have V2 := hid (V1.out.below hb2)
    obtain ⟨M, hM⟩ : ∃ M, M = memL L := ⟨_, rfl⟩
    rw [← hM] at MR om
    obtain ⟨pm, capm, bm, rfl, hpm, hcm⟩ := IntsV.cells om
    have HPM := hid hpm
    have HCM := hid hcm
    have hsz2 := hb2.size
    obtain ⟨nm, hnm⟩ : ∃ nm, nm = M.length := ⟨_, rfl⟩
    have HNM := hid hnm
    rw [← hnm] at HPM ⊢
    clear hb2 om hM hpm hcm hnm V1 HV
    go_wp2_with fail
    go_loopg [13] nm (fun k s13 wr => ∃ i : Nat, i + k = nm ∧ s13 = .int .i64 i ∧ Below w2.heap.size w2 wr)
    case atStart => exact ⟨0, by omega, rfl, Below.refl _ _⟩
    case round =>
      obtain ⟨i, hik, rfl, hb⟩ := hrel
      have HB3 := hid hb
      have BW := hid (B2.out.trans (hb.mono B2.out.size))
      by_cases hi : i < nm
      · have g1 : decide ((i : Int) < (nm : Int)) = true := by simpa using hi
        by_cases h12 : i < 12
        · have g2 : decide ((i : Int) < 12) = true := by simp; omega
          have w4 : IntKind.i64.wrap ((i : Int) + 1) = (i : Int) + 1 := IntWalk.i64_in _ (by omega)
          have him : i < M.length := by rw [← HNM.out]; exact hi
          obtain ⟨rfl, _, hbl⟩ := HPM.out (by omega)
          obtain ⟨x, hx⟩ : ∃ x, x = M[i] := ⟨_, rfl⟩
          have hxr := MR.out x (by rw [hx]; exact List.getElem_mem him)
          have c0 : wr.cell? ⟨bm, i, none⟩ = some (.int .i64 x) := by rw [hx]; exact (hb.cell (p := ⟨bm, i, none⟩) hbl).trans (HCM.out i him)
          have RG1 := hid (RG.out.after hB BW.out)
          have V3 := hid (V2.out.below hb)
          have lb : bm < wr.heap.size := Nat.lt_of_lt_of_le hbl hb.size
          clear hx hb
          by_cases hx1 : 1 ≤ x
          · have f1 : decide (x < 1) = false := by simp; omega
            have hx2 : x ≤ 1000 := hxr.2
            go_wp2_with fail
            refine (holds_ver RG1.out hn HT.out x ⟨hx1, hx2⟩).mono ?_
            rintro e w5 ⟨uh, rfl, oh, hb5⟩
            rw [← HL.out] at oh
            have c5 : w5.cell? ⟨bm, i, none⟩ = some (.int .i64 x) := (hb5.cell (p := ⟨bm, i, none⟩) lb).trans c0
            have l5 : bm < w5.heap.size := Nat.lt_of_lt_of_le lb hb5.size
            have BW5 := hid (BW.out.trans (hb5.mono BW.out.size))
            have B5 := hid (HB3.out.trans (hb5.mono HB3.out.size))
            have RG5 := hid (RG.out.after hB BW5.out)
            have V5 := hid (V3.out.below hb5)
            have OH5 := hid oh
            clear oh hb5 c0 RG1 V3 BW
            go_wp2_with fail
            refine (pledged_ver RG5.out hn HT.out x ⟨hx1, hx2⟩).mono ?_
            rintro e w6 ⟨up, rfl, op, hb6⟩
            rw [← HL.out] at op
            have c6 : w6.cell? ⟨bm, i, none⟩ = some (.int .i64 x) := (hb6.cell (p := ⟨bm, i, none⟩) l5).trans c5
            have l6 : bm < w6.heap.size := Nat.lt_of_lt_of_le l5 hb6.size
            have BW6 := hid (BW5.out.trans (hb6.mono BW5.out.size))
            have B6 := hid (B5.out.trans (hb6.mono B5.out.size))
            have RG6 := hid (RG.out.after hB BW6.out)
            have V6 := hid (V5.out.below hb6)
            have OH6 := hid (OH5.out.below hb6)
            have OP6 := hid op
            clear op hb6 c5 RG5 V5 BW5 OH5 B5
            go_wp2_with fail
            refine (count_ver RG6.out hn HT.out x ⟨hx1, hx2⟩).mono ?_
            rintro e w7 ⟨rfl, hb7⟩
            rw [← HL.out]
            have c7 : w7.cell? ⟨bm, i, none⟩ = some (.int .i64 x) := (hb7.cell (p := ⟨bm, i, none⟩) l6).trans c6
            have l7 : bm < w7.heap.size := Nat.lt_of_lt_of_le l6 hb7.size
            have B7 := hid (B6.out.trans (hb7.mono B6.out.size))
            have V7 := hid (V6.out.below hb7)
            have OH7 := hid (OH6.out.below hb7)
            have OP7 := hid (OP6.out.below hb7)
            have IR := hid HR.out.inR
            obtain ⟨CT, hCT⟩ : ∃ CT, CT = cntL (L.filter fun p => ownB x p.cell) := ⟨_, rfl⟩
            rw [← hCT]
            have HCT := hid hCT
            clear hb7 c6 RG6 V6 BW6 OH6 OP6 B6 hCT
            go_wp2_with fail
            refine (rholds_calls w7 _ L V7.out lL x).mono ?_
            rintro e w8 ⟨u8, rfl, r8, hb8⟩
            have c8 : w8.cell? ⟨bm, i, none⟩ = some (.int .i64 x) := (hb8.cell (p := ⟨bm, i, none⟩) l7).trans c7
            have l8 : bm < w8.heap.size := Nat.lt_of_lt_of_le l7 hb8.size
            have B8 := hid (B7.out.trans (hb8.mono B7.out.size))
            have V8 := hid (V7.out.below hb8)
            have OH8 := hid ((OH7.out.below hb8).mono (Nat.zero_le _))
            have OP8 := hid (OP7.out.below hb8)
            have R8 := hid (r8.mono (Nat.zero_le _))
            have lf1 : (L.filter fun p => ownB x p.cell).length ≤ 1000000 := Nat.le_trans (List.length_filter_le _ _) lL
            have lf2 : (L.filter fun p => plgB x p.cell).length ≤ 1000000 := Nat.le_trans (List.length_filter_le _ _) lL
            clear r8 hb8 c7 V7 OH7 OP7 B7
            go_wp2_with fail
            refine (holds_same w8 uh u8 _ OH8.out R8.out lf1 (filter_in IR.out _)).mono ?_
            rintro e w9 ⟨rfl, hb9⟩
            have c9 : w9.cell? ⟨bm, i, none⟩ = some (.int .i64 x) := (hb9.cell (p := ⟨bm, i, none⟩) l8).trans c8
            have l9 : bm < w9.heap.size := Nat.lt_of_lt_of_le l8 hb9.size
            have B9 := hid (B8.out.trans (hb9.mono B8.out.size))
            have V9 := hid (V8.out.below hb9)
            have OP9 := hid (OP8.out.below hb9)
            clear hb9 c8 V8 OH8 OP8 B8 R8
            go_wp2_with fail
            refine (rpledged_calls w9 _ L V9.out lL x).mono ?_
            rintro e w10 ⟨u10, rfl, r10, hb10⟩
            have c10 : w10.cell? ⟨bm, i, none⟩ = some (.int .i64 x) := (hb10.cell (p := ⟨bm, i, none⟩) l9).trans c9
            have l10 : bm < w10.heap.size := Nat.lt_of_lt_of_le l9 hb10.size
            have B10 := hid (B9.out.trans (hb10.mono B9.out.size))
            have V10 := hid (V9.out.below hb10)
            have OP10 := hid ((OP9.out.below hb10).mono (Nat.zero_le _))
            have R10 := hid (r10.mono (Nat.zero_le _))
            clear r10 hb10 c9 V9 OP9 B9
            go_wp2_with fail
            refine (holds_same w10 up u10 _ OP10.out R10.out lf2 (filter_in IR.out _)).mono ?_
            rintro e w11 ⟨rfl, hb11⟩
            have c11 : w11.cell? ⟨bm, i, none⟩ = some (.int .i64 x) := (hb11.cell (p := ⟨bm, i, none⟩) l10).trans c10
            have l11 : bm < w11.heap.size := Nat.lt_of_lt_of_le l10 hb11.size
            have B11 := hid (B10.out.trans (hb11.mono B10.out.size))
            have V11 := hid (V10.out.below hb11)
            clear hb11 c10 V10 OP10 B10 R10
            go_wp2_with fail
            refine (rholds_calls w11 _ L V11.out lL x).mono ?_
            rintro e w12 ⟨u12, rfl, r12, hb12⟩
            have B12 := hid (B11.out.trans (hb12.mono B11.out.size))
            have R12 := hid (r12.mono (Nat.zero_le _))
            clear r12 hb12 c11 V11 B11
            go_wp2_with fail
            refine (rcount_calls w12 u12 _ R12.out lf1 (filter_in IR.out _)).mono ?_
            rintro e w13 ⟨rfl, hb13⟩
            rw [← HCT.out]
            have B13 := hid (B12.out.trans (hb13.mono B12.out.size))
            clear hb13 R12 B12
            go_wp2
            go_roundg (gk - 1)
            case measure => omega
            case rel => exact ⟨i + 1, by omega, rfl, B13.out⟩
          · have f1 : decide (x < 1) = true := by simp; omega
            have hxo : ¬ (1 ≤ x ∧ x ≤ 1000) := fun e => hx1 e.1
            have HXO := hid hxo
            clear hx1 hxo hxr
            go_wp2_with fail
            refine (holds_out RG1.out hn HT.out x HXO.out).mono ?_
            rintro e w5 ⟨uh, rfl, hb5⟩
            have c5 : w5.cell? ⟨bm, i, none⟩ = some (.int .i64 x) := (hb5.cell (p := ⟨bm, i, none⟩) lb).trans c0
            have l5 : bm < w5.heap.size := Nat.lt_of_lt_of_le lb hb5.size
            have BW5 := hid (BW.out.trans (hb5.mono BW.out.size))
            have B5 := hid (HB3.out.trans (hb5.mono HB3.out.size))
            have RG5 := hid (RG.out.after hB BW5.out)
            clear hb5 c0 RG1 V3 BW
            go_wp2_with fail
            refine (pledged_out RG5.out hn HT.out x HXO.out).mono ?_
            rintro e w6 ⟨up, rfl, hb6⟩
            have c6 : w6.cell? ⟨bm, i, none⟩ = some (.int .i64 x) := (hb6.cell (p := ⟨bm, i, none⟩) l5).trans c5
            have l6 : bm < w6.heap.size := Nat.lt_of_lt_of_le l5 hb6.size
            have BW6 := hid (BW5.out.trans (hb6.mono BW5.out.size))
            have B6 := hid (B5.out.trans (hb6.mono B5.out.size))
            have RG6 := hid (RG.out.after hB BW6.out)
            clear hb6 c5 RG5 BW5 B5
            go_wp2_with fail
            refine (count_out RG6.out hn HT.out x HXO.out).mono ?_
            rintro e w7 ⟨⟨n7, rfl⟩, hb7⟩
            have c7 : w7.cell? ⟨bm, i, none⟩ = some (.int .i64 x) := (hb7.cell (p := ⟨bm, i, none⟩) l6).trans c6
            have l7 : bm < w7.heap.size := Nat.lt_of_lt_of_le l6 hb7.size
            have B7 := hid (B6.out.trans (hb7.mono B6.out.size))
            clear hb7 c6 RG6 BW6 B6
            go_wp2
            go_roundg (gk - 1)
            case measure => omega
            case rel => exact ⟨i + 1, by omega, rfl, B7.out⟩
        · have g2 : decide ((i : Int) < 12) = false := by simp; omega
          clear hb
          go_wp2
          refine bodyPost_ret (v := .bool true) (by simp [results, Try.results31, go_sem]) rfl ⟨rfl, BW.out⟩
      · have g1 : decide ((i : Int) < (nm : Int)) = false := by simpa using hi
        clear hb
        go_wp2
        refine bodyPost_ret (v := .bool true) (by simp [results, Try.results31, go_sem]) rfl ⟨rfl, BW.out⟩
end Go.Proofs.Ytnnbdjfeagcbdaa
namespace Go.Proofs.Ytnnbdjfeagcbdaa
set_option linter.unusedSimpArgs false
set_option linter.unusedVariables false
open Go.RowKit Go.Shelf
attribute [local go_sem] Oper.semAt_some

/-- Both have the same versions. -/
structure Lk (B : Nat) (W w : World) (sB vB : Nat) (vs : List T) (v : Value) : Prop where
  reg : Reg B W w sB vB vs
  ref : RefAt w v (vs.map inT)
  bc : ∀ t ∈ vs, Bc t
theorem Lk.after {B : Nat} {W w w' : World} {sB vB : Nat} {vs : List T} {v : Value} (h : Lk B W w sB vB vs v) (hB : B ≤ w.heap.size) (hb : Below w.heap.size w w') : Lk B W w' sB vB vs v := ⟨h.reg.after hB hb, h.ref.below hb, h.bc⟩
theorem Lk.last {B : Nat} {W w : World} {sB vB : Nat} {vs : List T} {v : Value} (h : Lk B W w sB vB vs v) : ∃ (n : Nat) (t : T), vs.length = n + 1 ∧ vs.getLast? = some t ∧ vs[n]? = some t ∧ Bc t ∧ (vs.map inT).getLast? = some (inT t) := by
  obtain ⟨t, ht, hm⟩ := h.reg.last
  have hl := List.length_pos_iff.2 h.reg.st.full
  refine ⟨vs.length - 1, t, by omega, ht, by rw [← List.getLast?_eq_getElem?]; exact ht, h.bc t hm, by rw [List.getLast?_map, ht]; rfl⟩
theorem inT_pc0 {t : T} (h : t.toList = [pc0]) : inT t = [] := by unfold inT inL; rw [h]; rfl
theorem bc_pc0 {t : T} (h : t.toList = [pc0]) : Bc t := fun n => by rw [h, valL_pc0]; unfold BC cl0; simp
/-- Both, new. -/
theorem Lk.start {B : Nat} {W w : World} {sB vB : Nat} {t : T} {v : Value} (h : Reg B W w sB vB [t]) (ht : t.toList = [pc0]) (hv : RefAt w v [[]]) : Lk B W w sB vB [t] v :=
  ⟨h, by simpa [inT_pc0 ht] using hv, fun u hu => by simp at hu; subst hu; exact bc_pc0 ht⟩
/-- What a call done to both comes to. -/
def Went2 (B : Nat) (W w : World) (sB vB : Nat) (vs : List T) (e : Ending) (w' : World) : Prop :=
  ∃ (v' : Value) (us : List T) (uB : Nat), e = .returned (.tuple #[v', .bool true]) ∧ Lk B W w' sB uB us v' ∧ Turned sB vB w w' ∧ (uB = vB ∨ w.heap.size ≤ uB) ∧ (us = vs ∨ ∃ t', us = vs ++ [t'])
theorem do_lk {B : Nat} {W w : World} {sB vB : Nat} {vs : List T} {v : Value} (h : Lk B W w sB vB vs v) (hB : B ≤ w.heap.size) (hn : vs.length ≤ 999) (k f c lt a b : Int) :
    Calls Try.prog 30 #[.pointer (some ⟨sB, 0, none⟩), v, .agg #[.int .i64 k, .int .i64 f, .int .i64 c, .int .i64 lt, .int .i64 a, .int .i64 b]] w (Went2 B W w sB vB vs) := by
  obtain ⟨n, t, hl, ht, _, hbt, hlast⟩ := h.last
  have tr := h.reg.tr (List.mem_of_getLast? ht)
  refine (do_rcalls h.reg hB hn ht v _ h.ref (by simpa using hn) (inT t) hlast tr.runs tr.short k f c lt a b).mono ?_
  rintro e w' ⟨r, r', v', us, uB, ys, he, rg, ra, tu, hu, hus, hlk⟩
  obtain ⟨hrr, hy⟩ := hlk rfl
  have key : Lk B W w' sB uB us v' ∧ (us = vs ∨ ∃ t', us = vs ++ [t']) := by
    rcases hy with ⟨h1, h2⟩ | ⟨t', h1, h2⟩
    · subst h1
      refine ⟨⟨rg, by rw [h2] at ra; exact ra, h.bc⟩, .inl rfl⟩
    · subst h1
      refine ⟨⟨rg, by rw [h2] at ra; simpa using ra, fun u hu => ?_⟩, .inr ⟨t', rfl⟩⟩
      rcases List.mem_append.1 hu with h3 | h3
      · exact h.bc u h3
      · have e3 : u = t' := List.mem_singleton.1 h3
        rw [e3]
        rcases hus with h4 | ⟨t'', h4, h5, _⟩
        · have := congrArg List.length h4; simp at this
        · have : t' = t'' := by simpa using h4
          rw [this]; exact h5 hbt
  exact ⟨v', us, uB, by rw [he, hrr]; simp, key.1, tu, hu, key.2⟩
theorem Lk.set {B : Nat} {W w : World} {sB vB : Nat} {vs : List T} {v : Value} (h : Lk B W w sB vB vs v) {C : Nat} {cs : Array Value} (hc : Cells w C cs 58) (h1 : C ≠ sB) (h2 : C ≠ vB) (hB : B ≤ C) (u : Value) : Lk B W (w.setCell ⟨C, 0, none⟩ u) sB vB vs v :=
  ⟨h.reg.set hc h1 h2 (by decide) hB 0 u, h.ref.set hc u, h.bc⟩
end Go.Proofs.Ytnnbdjfeagcbdaa
namespace Go.Proofs.Ytnnbdjfeagcbdaa
set_option linter.unusedSimpArgs false
set_option linter.unusedVariables false
open Go.RowKit Go.Shelf
attribute [local go_sem] Oper.semAt_some

theorem PcsV.cells {B : Nat} {w : World} {v : Value} {l : List Pc} (h : PcsAt B w v l) : ∃ p cap b, v = .slice p l.length cap ∧ l.length ≤ cap ∧ (0 < l.length → p = some ⟨b, 0, none⟩ ∧ B ≤ b ∧ b < w.heap.size) ∧
    ∀ (k : Nat) (hk : k < l.length), w.cell? ⟨b, k * 6, none⟩ = some (Value.int .i64 l[k].from_) ∧ w.cell? ⟨b, k * 6 + 1, none⟩ = some (Value.int .i64 l[k].to) ∧ w.cell? ⟨b, k * 6 + 2, none⟩ = some (Value.int .i64 l[k].cell.state) ∧ w.cell? ⟨b, k * 6 + 3, none⟩ = some (Value.int .i64 l[k].cell.lot) ∧ w.cell? ⟨b, k * 6 + 4, none⟩ = some (Value.int .i64 l[k].cell.owner) ∧ w.cell? ⟨b, k * 6 + 5, none⟩ = some (Value.int .i64 l[k].cell.holder) := by
  rcases h.2 with ⟨h1, h2⟩ | ⟨g, cap, cur, hv, hb, hg, hnc, h3⟩
  · exact ⟨none, 0, 0, by rw [h1, h2], by omega, fun h0 => by omega, fun k hk => by omega⟩
  · subst hv
    have key : ∀ (k : Nat) (hk : k < l.length) (j : Nat), j < 6 → w.cell? ⟨g, k * 6 + j, none⟩ = (encP l[k])[j]? := fun k hk j hj => by
      rw [World.ownsRow.cellAt h _ (by have : k * 6 + 6 ≤ l.length * 6 := by { rw [← Nat.succ_mul]; exact Nat.mul_le_mul_right _ hk }; omega), flatP_eq, flatE_get encP_len l k hk j hj]
    refine ⟨_, cap, g, rfl, hnc, fun _ => ⟨rfl, hb, (Array.getElem?_eq_some_iff.1 hg).1⟩, fun k hk => ?_⟩
    have k0 := key k hk 0 (by omega)
    have k1 := key k hk 1 (by omega)
    have k2 := key k hk 2 (by omega)
    have k3 := key k hk 3 (by omega)
    have k4 := key k hk 4 (by omega)
    have k5 := key k hk 5 (by omega)
    simp [encP] at k0 k1 k2 k3 k4 k5
    exact ⟨k0, k1, k2, k3, k4, k5⟩
theorem chg1_calls (c : Cl) (w : World) : Calls Try.prog 90 #[c.val] w fun e w' => e = .returned (.bool true) ∧ Below w.heap.size w w' := by
  go_enter Try.func90, Try.ntmps90
  go_wp2
  go_ret
  exact ⟨rfl, Below.alloc (Below.refl _ _) (Nat.le_refl _) _⟩
theorem chg2_calls (c : Cl) (w : World) : Calls Try.prog 91 #[c.val] w fun e w' => e = .returned (.bool true) ∧ Below w.heap.size w w' := by
  go_enter Try.func91, Try.ntmps91
  go_wp2
  go_ret
  exact ⟨rfl, Below.alloc (Below.refl _ _) (Nat.le_refl _) _⟩
theorem all_true {t : T} (tr : TrOk t) : allP (fun _ => true) (visL t 1 1000000) = t.toList := by
  rw [visL_fine tr.fine, allP_filter _ tr.tiles tr.canon]
  simp
theorem runs_mem : ∀ {l : List (Int × Int)} {a b : Int}, Runs l a b → ∀ q ∈ l, a ≤ q.1 ∧ 1 ≤ q.2 ∧ q.1 + q.2 ≤ b + 1
  | s :: l, a, b, ⟨h1, h2, h3, h4⟩, q, hq => by
    rcases List.mem_cons.1 hq with rfl | hq
    · exact ⟨h1, h2, h3⟩
    · have := runs_mem h4 q hq
      omega
theorem pred_of {n i : Nat} (h : i < n) : ∃ m, n - i = m + 1 := ⟨n - i - 1, by omega⟩
/-- What Changed comes to. -/
def diffT (ta tb : T) : List (Int × Int) := diffL (ta.toList.length + tb.toList.length) ta.toList tb.toList 1 []

set_option maxRecDepth 100000 in
set_option maxHeartbeats 8000000 in
theorem changed_ver {B : Nat} {W w : World} {sB vB : Nat} {vs : List T} (h : Reg B W w sB vB vs) (hn : vs.length ≤ 1000) {va vb : Nat} {ta tb : T} (hta : vs[va]? = some ta) (htb : vs[vb]? = some tb) :
    Calls Try.prog 42 #[.pointer (some ⟨sB, 0, none⟩), .int .i64 va, .int .i64 vb] w fun e w' => ∃ u, e = .returned (.tuple #[u, .int .i64 0]) ∧ OwnE encS 2 37 w.heap.size w' u (diffT ta tb) ∧ Below w.heap.size w w' := by
  have TA := hid (ver_tr h hta)
  have TB := hid (ver_tr h htb)
  have RG := hid h
  have HTA := hid hta
  have HTB := hid htb
  clear h hta htb
  go_enter Try.func42, Try.ntmps42
  go_wp2_with fail
  refine (at_calls w sB vB vs RG.out.st (by omega) (va : Int) true).mono ?_
  rintro e w1 ⟨hw1, pa, rfl, hpa⟩
  rw [hw1]
  rw [ver_in HTA.out] at hpa ⊢
  have PA := hid (show TreeAt w pa ta by have := hpa rfl; rw [ver_get HTA.out] at this; exact this)
  clear hw1 hpa
  go_wp2_with fail
  refine (at_calls w sB vB vs RG.out.st (by omega) (vb : Int) true).mono ?_
  rintro e w1 ⟨hw1, pb, rfl, hpb⟩
  rw [hw1]
  rw [ver_in HTB.out] at hpb ⊢
  have PB := hid (show TreeAt w pb tb by have := hpb rfl; rw [ver_get HTB.out] at this; exact this)
  clear hw1 hpb
  go_wp2_with fail
  refine (all_calls w pa ta PA.out TA.out.fine.good TA.out.fine.sorted TA.out.fine.few 90 #[] (fun _ => true) (fun d W _ => chg1_calls d W) (enters_of Try.func90 (by kernel_rfl) rfl)).mono ?_
  rintro e w2 ⟨ua, rfl, oa, hb2⟩
  rw [all_true TA.out] at oa
  have OA := hid oa
  have B2 := hid hb2
  have PB2 := hid (PB.out.below hb2)
  clear oa hb2
  go_wp2_with fail
  refine (all_calls w2 pb tb PB2.out TB.out.fine.good TB.out.fine.sorted TB.out.fine.few 91 #[] (fun _ => true) (fun d W _ => chg2_calls d W) (enters_of Try.func91 (by kernel_rfl) rfl)).mono ?_
  rintro e w3 ⟨ub, rfl, ob, hb3⟩
  rw [all_true TB.out] at ob
  have oa3 : PcsAt w.heap.size w3 ua ta.toList := OwnE.below (OA.out.own) hb3
  obtain ⟨pA, capA, bA, rfl, hcA, hpA, hA⟩ := PcsV.cells oa3
  obtain ⟨pB, capB, bB, rfl, hcB, hpB, hBc⟩ := PcsV.cells ob
  have B3 := hid (B2.out.trans (hb3.mono B2.out.size))
  have HPA := hid hpA
  have HPB := hid hpB
  have HCA := hid hA
  have HCB := hid hBc
  have tA := hid TA.out.tiles.openT
  have tB := hid TB.out.tiles.openT
  have lA : ta.toList.length ≤ 1000000 := by have := TA.out.tiles.few; omega
  have lB : tb.toList.length ≤ 1000000 := by have := TB.out.tiles.few; omega
  have GA := hid TA.out.fine.sorted.good
  have GB := hid TB.out.fine.sorted.good
  have DT := hid (show diffT ta tb = diffL (ta.toList.length + tb.toList.length) ta.toList tb.toList 1 [] from rfl)
  obtain ⟨R, hR⟩ : ∃ R, R = diffT ta tb := ⟨_, rfl⟩
  have HR := hid hR
  rw [← hR] at DT
  obtain ⟨la, hla⟩ : ∃ la, la = ta.toList := ⟨_, rfl⟩
  obtain ⟨lb, hlb⟩ : ∃ lb, lb = tb.toList := ⟨_, rfl⟩
  rw [← hla] at HPA HCA tA GA DT lA hcA ⊢
  rw [← hlb] at HPB HCB tB GB DT lB hcB ⊢
  have hsz3 := B3.out.size
  clear oa3 ob hb3 hpA hpB hA hBc hR hla hlb OA PA PB PB2 HTA HTB TA TB
  go_wp2_with fail
  go_loopg [11, 12, 13, 14] (la.length + lb.length) (fun k s11 s12 s13 s14 wr => ∃ (i j fu : Nat) (a : Int) (out : List (Int × Int)), s14 = .int .i64 a ∧ i ≤ la.length ∧ j ≤ lb.length ∧ k = (la.length - i) + (lb.length - j) ∧
    (i < la.length → ∃ c, s11 = .slice (some ⟨bA, i * 6, none⟩) (la.length - i) c ∧ la.length - i ≤ c) ∧ (j < lb.length → ∃ c, s12 = .slice (some ⟨bB, j * 6, none⟩) (lb.length - j) c ∧ lb.length - j ≤ c) ∧
    OpenT (la.drop i) a 1000000 ∧ OpenT (lb.drop j) a 1000000 ∧ OwnE encS 2 37 w3.heap.size wr s13 out ∧ Runs out 1 (a - 1) ∧ out.length ≤ i + j ∧ 1 ≤ a ∧ k ≤ fu ∧ diffL fu (la.drop i) (lb.drop j) a out = R ∧ Below w3.heap.size w3 wr)
  case atStart =>
    refine ⟨0, 0, la.length + lb.length, 1, [], rfl, by omega, by omega, by omega, fun h0 => ?_, fun h0 => ?_, by simpa using tA.out, by simpa using tB.out, OwnE.nil _ _, trivial, by simp, by omega, by omega, by simpa using DT.out.symm, Below.refl _ _⟩
    · obtain ⟨e, _⟩ := HPA.out h0
      rw [e]
      exact ⟨capA, by simp, by omega⟩
    · obtain ⟨e, _⟩ := HPB.out h0
      rw [e]
      exact ⟨capB, by simp, by omega⟩
  case round =>
    obtain ⟨i, j, fu, a, out, rfl, hi, hj, hk, h11, h12, oA, oB, hu, hruns, hol, ha1, hfu, hd, hb⟩ := hrel
    have HUU := hid hu
    have RUN := hid hruns
    have OA := hid oA
    have OB := hid oB
    have HD := hid hd
    have HB := hid hb
    have hszr := hb.size
    by_cases ha : a ≤ 1000000
    · have g1 : decide (a ≤ 1000000) = true := by simpa using ha
      have hil : i < la.length := by
        rcases Nat.lt_or_ge i la.length with h | h
        · exact h
        · rw [List.drop_of_length_le h] at oA; simp only [OpenT] at oA; omega
      have hjl : j < lb.length := by
        rcases Nat.lt_or_ge j lb.length with h | h
        · exact h
        · rw [List.drop_of_length_le h] at oB; simp only [OpenT] at oB; omega
      obtain ⟨cA, rfl, hcA2⟩ := h11 hil
      obtain ⟨cB, rfl, hcB2⟩ := h12 hjl
      obtain ⟨hpA, _, hbA⟩ := HPA.out (by omega)
      obtain ⟨hpB, _, hbB⟩ := HPB.out (by omega)
      obtain ⟨d0, d1, d2, d3, d4, d5⟩ := run_cell hb hbA (HCA.out i hil)
      obtain ⟨e0, e1, e2, e3, e4, e5⟩ := run_cell hb hbB (HCB.out j hjl)
      have FA := hid (fun (wx : World) (hx : Below w3.heap.size w3 wx) => run_cell hx hbA (HCA.out i hil))
      have FB := hid (fun (wx : World) (hx : Below w3.heap.size w3 wx) => run_cell hx hbB (HCB.out j hjl))
      obtain ⟨P, hP⟩ : ∃ P, P = la[i] := ⟨_, rfl⟩
      obtain ⟨Q, hQ⟩ : ∃ Q, Q = lb[j] := ⟨_, rfl⟩
      rw [← hP] at d0 d1 d2 d3 d4 d5 FA
      rw [← hQ] at e0 e1 e2 e3 e4 e5 FB
      have eA : la.drop i = P :: la.drop (i + 1) := by rw [List.drop_eq_getElem_cons hil, ← hP]
      have eB : lb.drop j = Q :: lb.drop (j + 1) := by rw [List.drop_eq_getElem_cons hjl, ← hQ]
      obtain ⟨mA, hmA⟩ : ∃ mA, la.length - i = mA + 1 := pred_of hil
      obtain ⟨mB, hmB⟩ : ∃ mB, lb.length - j = mB + 1 := pred_of hjl
      have gP := (GA.out P (by rw [hP]; exact List.getElem_mem hil)).le
      have gQ := (GB.out Q (by rw [hQ]; exact List.getElem_mem hjl)).le
      have hoA := oA
      have hoB := oB
      rw [eA] at hoA
      rw [eB] at hoB
      obtain ⟨a1, a2, _⟩ := hoA
      obtain ⟨b1, b2, _⟩ := hoB
      rw [hmA] at hcA2 ⊢
      rw [hmB] at hcB2 ⊢
      have lbA : bA < wr.heap.size := Nat.lt_of_lt_of_le hbA hszr
      have lbB : bB < wr.heap.size := Nat.lt_of_lt_of_le hbB hszr
      have EA := hid eA
      have EB := hid eB
      have HMA := hid hmA
      have HMB := hid hmB
      have HK := hid hk
      obtain ⟨tt, htt⟩ : ∃ tt, tt = min P.to Q.to := ⟨_, rfl⟩
      have HTT := hid htt
      have htb : a ≤ tt ∧ tt ≤ 1000000 ∧ tt ≤ P.to ∧ tt ≤ Q.to := by omega
      have BR := hid hb
      clear hu hruns oA oB hd hb eA eB hP hQ hpA hpB h11 h12 hmA hmB hk htt
      go_upto_region 11 with fail
      go_cut [15] (fun s15 wx => s15 = .int .i64 tt ∧ OwnE encS 2 37 w3.heap.size wx u13 out ∧ Below w3.heap.size w3 wx)
      case first =>
        by_cases hmin : P.to ≤ Q.to
        · have hx : (Q.to < P.to) = False := by simp; omega
          have E := hid (show P.to = tt by rw [HTT.out]; omega)
          clear hmin
          go_wp2
          go_region_held3 (fun wh => wh.cell? ⟨bA, i * 6 + 1, none⟩ = some (.int .i64 P.to) ∧ wh.cell? ⟨bB, j * 6 + 1, none⟩ = some (.int .i64 Q.to))
            (first | assumption | go_keep)
            (fail)
          all_goals (
            go_wp2
            go_meet
            exact ⟨by rw [E.out], HUU.out.drewN 1, drewN_below HB.out 1⟩)
        · have hx : Q.to < P.to := by omega
          have E := hid (show Q.to = tt by rw [HTT.out]; omega)
          clear hmin
          go_wp2
          go_region_held3 (fun wh => wh.cell? ⟨bA, i * 6 + 1, none⟩ = some (.int .i64 P.to) ∧ wh.cell? ⟨bB, j * 6 + 1, none⟩ = some (.int .i64 Q.to))
            (first | assumption | go_keep)
            (fail)
          all_goals (
            go_wp2
            go_meet
            exact ⟨by rw [E.out], HUU.out.drewN 1, drewN_below HB.out 1⟩)
      case rest =>
        obtain ⟨rfl, hu2, hb2⟩ := hcut
        have HU2 := hid hu2
        have HB2 := hid hb2
        obtain ⟨d0, d1, d2, d3, d4, d5⟩ := FA.out wc hb2
        obtain ⟨e0, e1, e2, e3, e4, e5⟩ := FB.out wc hb2
        have lbA : bA < wc.heap.size := Nat.lt_of_lt_of_le hbA hb2.size
        have lbB : bB < wc.heap.size := Nat.lt_of_lt_of_le hbB hb2.size
        clear hu2 hb2
        go_upto_region 12 with fail
        go_cut [59] (fun s59 wx => s59 = .bool (!decide (P.cell = Q.cell)) ∧ OwnE encS 2 37 w3.heap.size wx u13 out ∧ Below w3.heap.size w3 wx)
        case first =>
          by_cases hc : P.cell = Q.cell
          · have he : ∀ w, (Op.equalIn 10000 116 (.agg #[.int .i64 P.cell.state, .int .i64 P.cell.lot, .int .i64 P.cell.owner, .int .i64 P.cell.holder]) (.agg #[.int .i64 Q.cell.state, .int .i64 Q.cell.lot, .int .i64 Q.cell.owner, .int .i64 Q.cell.holder])).run Try.prog w = .ok true w := fun w => (run_eqCell P.cell Q.cell w).trans (by simp [hc])
            have E := hid (show decide (P.cell = Q.cell) = true by simpa using hc)
            clear hc
            go_big_quiet (fail)
            go_wp2
            go_meet
            case rel => exact ⟨by rw [E.out]; rfl, HU2.out.drewN nq, drewN_below HB2.out nq⟩
          · have he : ∀ w, (Op.equalIn 10000 116 (.agg #[.int .i64 P.cell.state, .int .i64 P.cell.lot, .int .i64 P.cell.owner, .int .i64 P.cell.holder]) (.agg #[.int .i64 Q.cell.state, .int .i64 Q.cell.lot, .int .i64 Q.cell.owner, .int .i64 Q.cell.holder])).run Try.prog w = .ok false w := fun w => (run_eqCell P.cell Q.cell w).trans (by simp [hc])
            have E := hid (show decide (P.cell = Q.cell) = false by simpa using hc)
            clear hc
            go_big_quiet (fail)
            go_wp2
            go_meet
            case rel => exact ⟨by rw [E.out]; rfl, HU2.out.drewN nq, drewN_below HB2.out nq⟩
        case rest =>
          obtain ⟨rfl, hu3, hb3⟩ := hcut
          have HU3 := hid hu3
          have HB3 := hid hb3
          have hw3 : w3.heap.size ≤ wc.heap.size := hb3.size
          clear hu3 hb3
          go_upto_if 59 with fail
          go_cut [13] (fun s13 wx => ∃ out2, out2 = (if P.cell = Q.cell then out else extL out (a, tt - a + 1)) ∧ OwnE encS 2 37 w3.heap.size wx s13 out2 ∧ Below w3.heap.size w3 wx)
          case first =>
            by_cases hc : P.cell = Q.cell
            · have E := hid hc
              have E2 : (!decide (P.cell = Q.cell)) = false := by simpa using hc
              rw [E2]
              clear hc E2
              go_wp2
              go_meet
              case rel => exact ⟨out, by rw [if_pos E.out], HU3.out, HB3.out⟩
            · have E := hid hc
              have E2 : (!decide (P.cell = Q.cell)) = true := by simpa using hc
              rw [E2]
              have v1 : IntKind.i64.wrap (tt - a) = tt - a := IntWalk.i64_in _ (by omega)
              have v2 : IntKind.i64.wrap (tt - a + 1) = tt - a + 1 := IntWalk.i64_in _ (by omega)
              have hol2 : out.length ≤ 10000000 := by omega
              clear hc E2
              go_wp2_with fail
              refine (extended_calls w3.heap.size _ hw3 u13 out HU3.out hol2 (fun q hq => by have := runs_mem RUN.out q hq; omega) a (tt - a + 1) (by omega)).mono ?_
              rintro e w5 ⟨u5, rfl, o5, b5⟩
              have O5 := hid o5
              have B5 := hid (HB3.out.trans b5)
              clear o5 b5
              go_wp2
              go_meet
              case rel => exact ⟨_, by rw [if_neg E.out], O5.out, B5.out⟩
          case rest =>
            obtain ⟨out2, hout2, o5, b5⟩ := hcut
            have HO2 := hid hout2
            have O5 := hid o5
            have B5 := hid b5
            obtain ⟨d0, d1, d2, d3, d4, d5⟩ := FA.out wc b5
            obtain ⟨e0, e1, e2, e3, e4, e5⟩ := FB.out wc b5
            have v3 : IntKind.i64.wrap (tt + 1) = tt + 1 := IntWalk.i64_in _ (by omega)
            have n1 : (1 : Int) ≤ (mA : Int) + 1 := by omega
            have n2 : (1 : Int) ≤ (mB : Int) + 1 := by omega
            have n3 : mA + 1 ≤ cA := hcA2
            have n4 : mB + 1 ≤ cB := hcB2
            have wA : bA < wc.heap.size := Nat.lt_of_lt_of_le hbA b5.size
            have wB : bB < wc.heap.size := Nat.lt_of_lt_of_le hbB b5.size
            clear hout2 o5 b5
            have SO := hid (step_openT (by rw [← EA.out]; exact OA.out : OpenT (P :: la.drop (i + 1)) a 1000000) htb.1 htb.2.2.1)
            have SP := hid (step_openT (by rw [← EB.out]; exact OB.out : OpenT (Q :: lb.drop (j + 1)) a 1000000) htb.1 htb.2.2.2)
            have HDN := hid (show diffL (fu - 1) (if P.to = tt then la.drop (i + 1) else P :: la.drop (i + 1)) (if Q.to = tt then lb.drop (j + 1) else Q :: lb.drop (j + 1)) (tt + 1) out2 = R by
              have hd := HD.out
              rw [EA.out, EB.out, show fu = (fu - 1) + 1 by have := HK.out; omega, diffL, ← HTT.out, ← HO2.out] at hd
              exact hd)
            have RUN2 := hid (show Runs out2 1 (tt + 1 - 1) by
              have e := extL_runs (l := out) (a := 1) (b := a - 1) (x := a) (y := tt - a + 1) RUN.out (by omega) ha1 (by omega)
              rw [HO2.out]
              split
              · exact RUN.out.up (by omega)
              · exact e.1.up (by omega))
            have LEN2 := hid (show out2.length ≤ i + j + 1 by
              rw [HO2.out]
              split
              · omega
              · have := extL_length out (a, tt - a + 1); omega)
            have hmn : P.to = tt ∨ Q.to = tt := by have := HTT.out; omega
            by_cases hA : P.to = tt
            · by_cases hB : Q.to = tt
              · clear hmn
                have so := SO.out
                have sp := SP.out
                have hdn := HDN.out
                rw [if_pos hA] at so hdn
                rw [if_pos hB] at sp hdn
                have SO2 := hid so
                have SP2 := hid sp
                have HD2 := hid hdn
                have f1 : (P.to == tt) = true := by simpa using hA
                have f2 : (Q.to == tt) = true := by simpa using hB
                clear hA hB so sp hdn
                by_cases zA : cA - 1 = 0
                · have ZA := hid zA
                  by_cases zB : cB - 1 = 0
                  · have ZB := hid zB
                    go_wp2
                    go_roundg ((la.length - (i + 1)) + (lb.length - (j + 1)))
                    · exact ⟨(i + 1), (j + 1), fu - 1, tt + 1, out2, rfl, by omega, by omega, rfl, (fun h0 => absurd h0 (by have := ZA.out; have := HMA.out; omega)), (fun h0 => absurd h0 (by have := ZB.out; have := HMB.out; omega)), SO2.out, SP2.out, O5.out, RUN2.out, by have := LEN2.out; omega, by omega, by have := HK.out; omega, HD2.out, B5.out⟩
                    · have := HK.out; omega
                  · have zB' : (cB - 1 = 0) = False := by simp only [eq_iff_iff, iff_false]; exact zB
                    have ZB := hid zB
                    go_wp2
                    go_roundg ((la.length - (i + 1)) + (lb.length - (j + 1)))
                    · exact ⟨(i + 1), (j + 1), fu - 1, tt + 1, out2, rfl, by omega, by omega, rfl, (fun h0 => absurd h0 (by have := ZA.out; have := HMA.out; omega)), (fun _ => ⟨cB - 1, by rw [show (j + 1) * 6 = j * 6 + 6 by omega, show lb.length - (j + 1) = mB by have := HMB.out; omega], by have := HMB.out; omega⟩), SO2.out, SP2.out, O5.out, RUN2.out, by have := LEN2.out; omega, by omega, by have := HK.out; omega, HD2.out, B5.out⟩
                    · have := HK.out; omega
                · have zA' : (cA - 1 = 0) = False := by simp only [eq_iff_iff, iff_false]; exact zA
                  have ZA := hid zA
                  by_cases zB : cB - 1 = 0
                  · have ZB := hid zB
                    go_wp2
                    go_roundg ((la.length - (i + 1)) + (lb.length - (j + 1)))
                    · exact ⟨(i + 1), (j + 1), fu - 1, tt + 1, out2, rfl, by omega, by omega, rfl, (fun _ => ⟨cA - 1, by rw [show (i + 1) * 6 = i * 6 + 6 by omega, show la.length - (i + 1) = mA by have := HMA.out; omega], by have := HMA.out; omega⟩), (fun h0 => absurd h0 (by have := ZB.out; have := HMB.out; omega)), SO2.out, SP2.out, O5.out, RUN2.out, by have := LEN2.out; omega, by omega, by have := HK.out; omega, HD2.out, B5.out⟩
                    · have := HK.out; omega
                  · have zB' : (cB - 1 = 0) = False := by simp only [eq_iff_iff, iff_false]; exact zB
                    have ZB := hid zB
                    go_wp2
                    go_roundg ((la.length - (i + 1)) + (lb.length - (j + 1)))
                    · exact ⟨(i + 1), (j + 1), fu - 1, tt + 1, out2, rfl, by omega, by omega, rfl, (fun _ => ⟨cA - 1, by rw [show (i + 1) * 6 = i * 6 + 6 by omega, show la.length - (i + 1) = mA by have := HMA.out; omega], by have := HMA.out; omega⟩), (fun _ => ⟨cB - 1, by rw [show (j + 1) * 6 = j * 6 + 6 by omega, show lb.length - (j + 1) = mB by have := HMB.out; omega], by have := HMB.out; omega⟩), SO2.out, SP2.out, O5.out, RUN2.out, by have := LEN2.out; omega, by omega, by have := HK.out; omega, HD2.out, B5.out⟩
                    · have := HK.out; omega
              · clear hmn
                have so := SO.out
                have sp := SP.out
                have hdn := HDN.out
                rw [if_pos hA] at so hdn
                rw [if_neg hB, ← EB.out] at sp hdn
                have SO2 := hid so
                have SP2 := hid sp
                have HD2 := hid hdn
                have f1 : (P.to == tt) = true := by simpa using hA
                have f2 : (Q.to == tt) = false := by simpa using hB
                clear hA hB so sp hdn
                by_cases zA : cA - 1 = 0
                · have ZA := hid zA
                  go_wp2
                  go_roundg ((la.length - (i + 1)) + (lb.length - j))
                  · exact ⟨(i + 1), j, fu - 1, tt + 1, out2, rfl, by omega, by omega, rfl, (fun h0 => absurd h0 (by have := ZA.out; have := HMA.out; omega)), (fun _ => ⟨cB, by rw [HMB.out], by have := HMB.out; omega⟩), SO2.out, SP2.out, O5.out, RUN2.out, by have := LEN2.out; omega, by omega, by have := HK.out; omega, HD2.out, B5.out⟩
                  · have := HK.out; omega
                · have zA' : (cA - 1 = 0) = False := by simp only [eq_iff_iff, iff_false]; exact zA
                  have ZA := hid zA
                  go_wp2
                  go_roundg ((la.length - (i + 1)) + (lb.length - j))
                  · exact ⟨(i + 1), j, fu - 1, tt + 1, out2, rfl, by omega, by omega, rfl, (fun _ => ⟨cA - 1, by rw [show (i + 1) * 6 = i * 6 + 6 by omega, show la.length - (i + 1) = mA by have := HMA.out; omega], by have := HMA.out; omega⟩), (fun _ => ⟨cB, by rw [HMB.out], by have := HMB.out; omega⟩), SO2.out, SP2.out, O5.out, RUN2.out, by have := LEN2.out; omega, by omega, by have := HK.out; omega, HD2.out, B5.out⟩
                  · have := HK.out; omega
            · have hB : Q.to = tt := hmn.resolve_left hA
              clear hmn
              have so := SO.out
              have sp := SP.out
              have hdn := HDN.out
              rw [if_neg hA, ← EA.out] at so hdn
              rw [if_pos hB] at sp hdn
              have SO2 := hid so
              have SP2 := hid sp
              have HD2 := hid hdn
              have f1 : (P.to == tt) = false := by simpa using hA
              have f2 : (Q.to == tt) = true := by simpa using hB
              clear hA hB so sp hdn
              by_cases zB : cB - 1 = 0
              · have ZB := hid zB
                go_wp2
                go_roundg ((la.length - i) + (lb.length - (j + 1)))
                · exact ⟨i, (j + 1), fu - 1, tt + 1, out2, rfl, by omega, by omega, rfl, (fun _ => ⟨cA, by rw [HMA.out], by have := HMA.out; omega⟩), (fun h0 => absurd h0 (by have := ZB.out; have := HMB.out; omega)), SO2.out, SP2.out, O5.out, RUN2.out, by have := LEN2.out; omega, by omega, by have := HK.out; omega, HD2.out, B5.out⟩
                · have := HK.out; omega
              · have zB' : (cB - 1 = 0) = False := by simp only [eq_iff_iff, iff_false]; exact zB
                have ZB := hid zB
                go_wp2
                go_roundg ((la.length - i) + (lb.length - (j + 1)))
                · exact ⟨i, (j + 1), fu - 1, tt + 1, out2, rfl, by omega, by omega, rfl, (fun _ => ⟨cA, by rw [HMA.out], by have := HMA.out; omega⟩), (fun _ => ⟨cB - 1, by rw [show (j + 1) * 6 = j * 6 + 6 by omega, show lb.length - (j + 1) = mB by have := HMB.out; omega], by have := HMB.out; omega⟩), SO2.out, SP2.out, O5.out, RUN2.out, by have := LEN2.out; omega, by omega, by have := HK.out; omega, HD2.out, B5.out⟩
                · have := HK.out; omega
    · have g1 : decide (a ≤ 1000000) = false := by simpa using ha
      have FI := hid (show out = R by
        have ea : la.drop i = [] := by
          cases h : la.drop i with
          | nil => rfl
          | cons p l => rw [h] at oA; obtain ⟨h1, h2, h3⟩ := oA; have := h3.le; omega
        rw [ea] at hd
        cases fu <;> simpa [diffL] using hd)
      clear hu hruns oA oB hd hb h11 h12
      go_wp2
      refine bodyPost_ret (v := .tuple #[u13, .int .i64 0]) (by simp [results, Try.results42, go_sem]) rfl ⟨u13, rfl, ?_, B3.out.trans (HB.out.mono hsz3)⟩
      rw [← HR.out, ← FI.out]
      exact HUU.out.mono hsz3
end Go.Proofs.Ytnnbdjfeagcbdaa
namespace Go.Proofs.Ytnnbdjfeagcbdaa
set_option linter.unusedSimpArgs false
set_option linter.unusedVariables false
open Go.RowKit Go.Shelf
attribute [local go_sem] Oper.semAt_some

/-- One run's part in edge. -/
def edgeS (n o : Int) (r : Pc) : Int := if r.to + 1 > n then min (if r.from_ > n then min o r.from_ else o) (r.to + 1) else (if r.from_ > n then min o r.from_ else o)
def edgeL (l : List Pc) (n : Int) : Int := l.foldl (edgeS n) 1000001
theorem edgeS_spec {n o : Int} (r : Pc) (h : n < o) : n < edgeS n o r ∧ edgeS n o r ≤ o ∧ (r.from_ ≤ n ∨ edgeS n o r ≤ r.from_) ∧ (r.to + 1 ≤ n ∨ edgeS n o r ≤ r.to + 1) := by
  unfold edgeS
  split <;> split <;> omega
theorem edge_fold : ∀ (l : List Pc) {n o : Int}, n < o → n < l.foldl (edgeS n) o ∧ l.foldl (edgeS n) o ≤ o ∧ ∀ r ∈ l, (r.from_ ≤ n ∨ l.foldl (edgeS n) o ≤ r.from_) ∧ (r.to + 1 ≤ n ∨ l.foldl (edgeS n) o ≤ r.to + 1)
  | [], n, o, h => ⟨h, Int.le_refl _, fun r hr => by cases hr⟩
  | r :: l, n, o, h => by
    obtain ⟨h1, h2, h3, h4⟩ := edgeS_spec r h
    obtain ⟨k1, k2, k3⟩ := edge_fold l h1
    rw [List.foldl_cons]
    refine ⟨k1, Int.le_trans k2 h2, fun q hq => ?_⟩
    rcases List.mem_cons.1 hq with rfl | hq
    · omega
    · exact k3 q hq
theorem valL_near : ∀ {l : List Pc} {n m : Int}, (∀ r ∈ l, (r.from_ ≤ n ∧ n ≤ r.to ↔ r.from_ ≤ m ∧ m ≤ r.to)) → valL l m = valL l n
  | [], _, _, _ => rfl
  | r :: l, n, m, h => by
    have h1 := h r (by simp)
    have ih := valL_near (l := l) (n := n) (m := m) fun q hq => h q (List.mem_cons_of_mem _ hq)
    unfold valL
    by_cases hn : r.from_ ≤ n ∧ n ≤ r.to
    · rw [if_pos hn, if_pos (h1.1 hn)]
    · rw [if_neg hn, if_neg (fun e => hn (h1.2 e)), ih]
theorem edge_spec {l : List Pc} {n : Int} (h : n ≤ 1000000) : n < edgeL l n ∧ edgeL l n ≤ 1000001 ∧ ∀ m, n ≤ m → m < edgeL l n → valL l m = valL l n := by
  obtain ⟨h1, h2, h3⟩ := edge_fold l (n := n) (o := 1000001) (by omega)
  refine ⟨h1, h2, fun m m1 m2 => valL_near fun r hr => ?_⟩
  have := h3 r hr
  unfold edgeL at m2
  omega

set_option maxRecDepth 100000 in
set_option maxHeartbeats 4000000 in
theorem edge_rcalls (w : World) (v : Value) (l : List Pc) (hv : RunsV 0 w v l) (hl : l.length ≤ 1000000) (hr : RunsP l) (x : Int) :
    Calls Try.prog 92 #[v, .int .i64 x] w fun e w' => e = .returned (.int .i64 (edgeL l x)) ∧ Below w.heap.size w w' := by
  obtain ⟨p, cap, b, rfl, hp, hc⟩ := hv.cells
  obtain ⟨n, hn⟩ : ∃ n, n = l.length := ⟨_, rfl⟩
  rw [← hn] at hp hl ⊢
  have HP := hid hp
  have HC := hid hc
  have HN := hid hn
  have HR := hid hr
  obtain ⟨R, hR⟩ : ∃ R, R = edgeL l x := ⟨_, rfl⟩
  have HE := hid hR
  rw [← hR]
  clear hp hc hn hr hR
  go_enter Try.func92, Try.ntmps92
  go_wp2_with fail
  go_loopg [5, 6] n (fun k s5 s6 wr => ∃ (i : Nat) (o : Int), i + k = n ∧ s6 = .int .i64 i ∧ s5 = .int .i64 o ∧ (l.drop i).foldl (edgeS x) o = R ∧ Below w.heap.size w wr)
  case atStart => exact ⟨0, 1000001, by omega, rfl, rfl, HE.out.symm, Below.refl _ _⟩
  case round =>
    obtain ⟨i, o, hik, rfl, rfl, hfo, hb⟩ := hrel
    have HF := hid hfo
    have HB := hid hb
    by_cases hi : i < n
    · have hil : i < l.length := by rw [← HN.out]; exact hi
      obtain ⟨rfl, _, hbl⟩ := HP.out (by omega)
      obtain ⟨d0, d1, d2, d3, d4, d5⟩ := run_cell hb hbl (HC.out i hil)
      obtain ⟨r, hr⟩ : ∃ r, r = l[i] := ⟨_, rfl⟩
      have gr := (HR.out.good r (by rw [hr]; exact List.getElem_mem hil)).le
      rw [← hr] at d0 d1 d2 d3 d4 d5
      have DR := hid (show (l.drop (i + 1)).foldl (edgeS x) (edgeS x o r) = R by rw [← HF.out, List.drop_eq_getElem_cons hil, ← hr, List.foldl_cons])
      have i64 : IntKind.i64.wrap ((i : Int) + 1) = (i : Int) + 1 := IntWalk.i64_in _ (by omega)
      have t64 : IntKind.i64.wrap (r.to + 1) = r.to + 1 := IntWalk.i64_in _ (by omega)
      have g2 : decide ((i : Int) < (n : Int)) = true := by simpa using hi
      clear hr hb hfo
      by_cases h1 : x < r.from_
      · have g3 : decide (x < r.from_) = true := by simpa using h1
        by_cases h2 : r.from_ < o
        · by_cases k1 : x < r.to + 1
          · have g4 : decide (x < r.to + 1) = true := by simpa using k1
            by_cases k2 : r.to + 1 < r.from_
            · exact absurd k2 (by omega)
            · have k3 : (r.to + 1 < r.from_) = False := by simp only [eq_iff_iff, iff_false]; exact k2
              have E := hid (show edgeS x o r = r.from_ by unfold edgeS; split <;> (try split) <;> omega)
              clear k1 k2 h1; go_wp2
              go_roundg (gk - 1)
              case measure => omega
              case rel => exact ⟨i + 1, _, by omega, rfl, rfl, by rw [← E.out]; exact DR.out, HB.out⟩
          · have g4 : decide (x < r.to + 1) = false := by simpa using k1
            have E := hid (show edgeS x o r = r.from_ by unfold edgeS; split <;> (try split) <;> omega)
            clear k1 h1; go_wp2
            go_roundg (gk - 1)
            case measure => omega
            case rel => exact ⟨i + 1, _, by omega, rfl, rfl, by rw [← E.out]; exact DR.out, HB.out⟩
        · have h3 : (r.from_ < o) = False := by simp only [eq_iff_iff, iff_false]; exact h2
          by_cases k1 : x < r.to + 1
          · have g4 : decide (x < r.to + 1) = true := by simpa using k1
            by_cases k2 : r.to + 1 < o
            · have E := hid (show edgeS x o r = r.to + 1 by unfold edgeS; split <;> (try split) <;> omega)
              clear k1 h1 h2; go_wp2
              go_roundg (gk - 1)
              case measure => omega
              case rel => exact ⟨i + 1, _, by omega, rfl, rfl, by rw [← E.out]; exact DR.out, HB.out⟩
            · have k3 : (r.to + 1 < o) = False := by simp only [eq_iff_iff, iff_false]; exact k2
              have E := hid (show edgeS x o r = o by unfold edgeS; split <;> (try split) <;> omega)
              clear k1 k2 h1 h2; go_wp2
              go_roundg (gk - 1)
              case measure => omega
              case rel => exact ⟨i + 1, _, by omega, rfl, rfl, by rw [← E.out]; exact DR.out, HB.out⟩
          · have g4 : decide (x < r.to + 1) = false := by simpa using k1
            have E := hid (show edgeS x o r = o by unfold edgeS; split <;> (try split) <;> omega)
            clear k1 h1 h2; go_wp2
            go_roundg (gk - 1)
            case measure => omega
            case rel => exact ⟨i + 1, _, by omega, rfl, rfl, by rw [← E.out]; exact DR.out, HB.out⟩
      · have g3 : decide (x < r.from_) = false := by simpa using h1
        by_cases k1 : x < r.to + 1
        · have g4 : decide (x < r.to + 1) = true := by simpa using k1
          by_cases k2 : r.to + 1 < o
          · have E := hid (show edgeS x o r = r.to + 1 by unfold edgeS; split <;> (try split) <;> omega)
            clear k1 h1; go_wp2
            go_roundg (gk - 1)
            case measure => omega
            case rel => exact ⟨i + 1, _, by omega, rfl, rfl, by rw [← E.out]; exact DR.out, HB.out⟩
          · have k3 : (r.to + 1 < o) = False := by simp only [eq_iff_iff, iff_false]; exact k2
            have E := hid (show edgeS x o r = o by unfold edgeS; split <;> (try split) <;> omega)
            clear k1 k2 h1; go_wp2
            go_roundg (gk - 1)
            case measure => omega
            case rel => exact ⟨i + 1, _, by omega, rfl, rfl, by rw [← E.out]; exact DR.out, HB.out⟩
        · have g4 : decide (x < r.to + 1) = false := by simpa using k1
          have E := hid (show edgeS x o r = o by unfold edgeS; split <;> (try split) <;> omega)
          clear k1 h1; go_wp2
          go_roundg (gk - 1)
          case measure => omega
          case rel => exact ⟨i + 1, _, by omega, rfl, rfl, by rw [← E.out]; exact DR.out, HB.out⟩
    · have g2 : decide ((i : Int) < (n : Int)) = false := by simpa using hi
      have FI := hid (show o = R by
        have e : l.drop i = [] := List.drop_of_length_le (by have := HN.out; omega)
        rw [← hfo, e]; rfl)
      clear hb hfo
      go_wp2
      exact bodyPost_ret (v := .int .i64 o) (by simp [results, Try.results92, go_sem]) rfl ⟨by rw [FI.out], HB.out⟩
end Go.Proofs.Ytnnbdjfeagcbdaa
namespace Go.Proofs.Ytnnbdjfeagcbdaa
set_option linter.unusedSimpArgs false
set_option linter.unusedVariables false
open Go.RowKit Go.Shelf

theorem first_zero {t : T} (tr : TrOk t) {e : Cl → Int} {a b : Int} (h1 : 1 ≤ a) (hab : a ≤ b) (h2 : b ≤ 1000000) (h : ∀ n, a ≤ n → n ≤ b → e (valL t.toList n) = 0) : firstE e (visL t a b) = 0 := by
  rw [visL_eq _ _ t tr.fine.sorted]
  rcases firstE_at e tr.tiles h1 hab h2 with ⟨h3, _⟩ | ⟨h3, n, n1, n2, n3, _⟩
  · exact h3
  · rw [h n n1 n2] at n3; exact absurd n3.symm h3
/-- A span in one state. -/
def Sp (t : T) (a c : Int) (d : Cl) : Prop := ∀ n, a ≤ n → n ≤ a + c - 1 → valL t.toList n = d
/-- Two versions that are the same outside a span. -/
def Off (t u : T) (a c : Int) : Prop := ∀ n, ¬ (a ≤ n ∧ n ≤ a + c - 1) → valL u.toList n = valL t.toList n
theorem Off.refl (t : T) (a c : Int) : Off t t a c := fun _ _ => rfl
theorem Off.trans {t u v : T} {a c : Int} (h : Off t u a c) (k : Off u v a c) : Off t v a c := fun n hn => (k n hn).trans (h n hn)
theorem Off.symm {t u : T} {a c : Int} (h : Off t u a c) : Off u t a c := fun n hn => (h n hn).symm
theorem Sp.step {t t' : T} {a c : Int} {d : Cl} (tr : TrOk t) (h : Sp t a c d) (hac : 1 ≤ a ∧ 1 ≤ c ∧ a + c - 1 ≤ 1000000) {g : Cl → Cl} (hl : t'.toList = changedP t.toList a c g) : Sp t' a c (g d) ∧ Off t t' a c := by
  refine ⟨fun n h1 h2 => ?_, fun n hn => ?_⟩
  · rw [hl, changedP_val g tr.tiles hac.1 hac.2.1 hac.2.2, if_pos ⟨h1, h2⟩, h n h1 h2]
  · rw [hl, changedP_val g tr.tiles hac.1 hac.2.1 hac.2.2, if_neg hn]
/-- The same states: the same tiling. -/
theorem same_list {t u : T} (ht : TrOk t) (hu : TrOk u) (h : ∀ n, valL u.toList n = valL t.toList n) : u.toList = t.toList :=
  canon_unique hu.tiles ht.tiles hu.canon ht.canon fun n _ _ => h n
theorem sp_same {t u : T} (ht : TrOk t) (hu : TrOk u) {a c : Int} {d : Cl} (h1 : Sp t a c d) (h2 : Sp u a c d) (ho : Off t u a c) : u.toList = t.toList :=
  same_list ht hu fun n => by
    by_cases hn : a ≤ n ∧ n ≤ a + c - 1
    · rw [h1 n hn.1 hn.2, h2 n hn.1 hn.2]
    · exact ho n hn
theorem diff_in {t u : T} (ht : TrOk t) (hu : TrOk u) : Runs (diffT t u) 1 1000000 ∧ ∀ n, inS (diffT t u) n ↔ 1 ≤ n ∧ n ≤ 1000000 ∧ valL t.toList n ≠ valL u.toList n := by
  have h := diffL_spec (t.toList.length + u.toList.length) (out := []) ht.tiles.openT hu.tiles.openT (Nat.le_refl _) trivial (Int.le_refl _)
  refine ⟨h.1, fun n => (h.2 n).trans ?_⟩
  simp [inS]
theorem diff_same {t u : T} (ht : TrOk t) (hu : TrOk u) (h : u.toList = t.toList) : diffT t u = [] := by
  obtain ⟨h1, h2⟩ := diff_in ht hu
  refine runs_unique h1 (m := []) trivial fun n => ?_
  rw [h2, h]
  simp [inS]
theorem diff_span {t u : T} (ht : TrOk t) (hu : TrOk u) {a c : Int} (hac : 1 ≤ a ∧ 1 ≤ c ∧ a + c - 1 ≤ 1000000) {d e : Cl} (hde : d ≠ e) (h1 : Sp t a c d) (h2 : Sp u a c e) (ho : Off t u a c) : diffT t u = [(a, c)] := by
  obtain ⟨k1, k2⟩ := diff_in ht hu
  refine runs_unique k1 (m := [(a, c)]) ⟨hac.1, hac.2.1, by simp only; omega, trivial⟩ fun n => ?_
  rw [k2]
  simp only [inS, or_false]
  constructor
  · rintro ⟨h3, h4, h5⟩
    by_cases hn : a ≤ n ∧ n ≤ a + c - 1
    · omega
    · exact absurd (ho n hn).symm h5
  · rintro ⟨h3, h4⟩
    refine ⟨by omega, by omega, ?_⟩
    rw [h1 n h3 (by omega), h2 n h3 (by omega)]
    exact hde
/-- The four calls of a round: each of them comes to 0. -/
theorem move_zero {t : T} (tr : TrOk t) {a c m o : Int} {l : Int} (hac : 1 ≤ a ∧ 1 ≤ c ∧ a + c - 1 ≤ 1000000) (hm : 1 ≤ m ∧ m ≤ 1000) (ho : 1 ≤ o ∧ o ≤ 1000) (hmo : m ≠ o) (h : Sp t a c ⟨1, l, m, 0⟩) : moveR t a c m o = 0 := by
  rw [moveR, if_pos ⟨(okSpan_iff a c).2 hac, by rw [inB_true hm, inB_true ho]; rfl, hmo⟩]
  exact first_zero tr hac.1 (by omega) hac.2.2 fun n h1 h2 => by rw [h n h1 h2]; simp [ownedE]
theorem pledge_zero {t : T} (tr : TrOk t) {a c m o : Int} {l : Int} (hac : 1 ≤ a ∧ 1 ≤ c ∧ a + c - 1 ≤ 1000000) (hm : 1 ≤ m ∧ m ≤ 1000) (ho : 1 ≤ o ∧ o ≤ 1000) (h : Sp t a c ⟨1, l, m, 0⟩) : pledgeR t a c m o = 0 := by
  rw [pledgeR, if_pos ⟨(okSpan_iff a c).2 hac, by rw [inB_true hm, inB_true ho]; rfl⟩]
  exact first_zero tr hac.1 (by omega) hac.2.2 fun n h1 h2 => by rw [h n h1 h2]; simp [ownedE]
theorem release_zero {t : T} (tr : TrOk t) {a c m o : Int} {l : Int} (hac : 1 ≤ a ∧ 1 ≤ c ∧ a + c - 1 ≤ 1000000) (ho : 1 ≤ o ∧ o ≤ 1000) (h : Sp t a c ⟨1, l, m, o⟩) : heldR t a c o = 0 := by
  rw [heldR, if_pos ⟨(okSpan_iff a c).2 hac, inB_true ho⟩]
  exact first_zero tr hac.1 (by omega) hac.2.2 fun n h1 h2 => by rw [h n h1 h2]; simp [heldE]
/-- The versions around the four calls of a round. -/
theorem round_diffs {t u v x y : T} {a c l m o : Int} (ht : TrOk t) (hu : TrOk u) (hv : TrOk v) (hx : TrOk x) (hy : TrOk y) (hac : 1 ≤ a ∧ 1 ≤ c ∧ a + c - 1 ≤ 1000000) (hmo : m ≠ o) (ho : 1 ≤ o)
    (s0 : Sp t a c ⟨1, l, m, 0⟩) (s1 : Sp u a c ⟨1, l, o, 0⟩) (s2 : Sp v a c ⟨1, l, m, 0⟩) (s3 : Sp x a c ⟨1, l, m, o⟩) (s4 : Sp y a c ⟨1, l, m, 0⟩)
    (o1 : Off t u a c) (o2 : Off u v a c) (o3 : Off v x a c) (o4 : Off x y a c) :
    y.toList = t.toList ∧ diffT t y = [] ∧ diffT t u = [(a, c)] ∧ diffT x v = [(a, c)] := by
  have e := sp_same ht hy s0 s4 (((o1.trans o2).trans o3).trans o4)
  refine ⟨e, diff_same ht hy e, diff_span ht hu hac (fun h => ?_) s0 s1 o1, diff_span hx hv hac (fun h => ?_) s3 s2 o3.symm⟩
  · injection h with _ _ h _
    exact hmo h
  · injection h with _ _ _ h
    omega
theorem app4 {vs : List T} {t u v x y : T} {n : Nat} (hn : vs.length = n + 1) (ht : vs[n]? = some t) : ((((vs ++ [u]) ++ [v]) ++ [x]) ++ [y]).length = n + 5 ∧ ((((vs ++ [u]) ++ [v]) ++ [x]) ++ [y])[n]? = some t ∧ ((((vs ++ [u]) ++ [v]) ++ [x]) ++ [y])[n + 1]? = some u ∧ ((((vs ++ [u]) ++ [v]) ++ [x]) ++ [y])[n + 2]? = some v ∧ ((((vs ++ [u]) ++ [v]) ++ [x]) ++ [y])[n + 3]? = some x ∧ ((((vs ++ [u]) ++ [v]) ++ [x]) ++ [y])[n + 4]? = some y := by
  simp only [List.append_assoc, List.cons_append, List.nil_append]
  refine ⟨by simp [hn], by rw [List.getElem?_append_left (by omega)]; exact ht, ?_, ?_, ?_, ?_⟩ <;> rw [List.getElem?_append_right (by omega), hn]
  · rw [show n + 1 - (n + 1) = 0 by omega]; rfl
  · rw [show n + 2 - (n + 1) = 1 by omega]; rfl
  · rw [show n + 3 - (n + 1) = 2 by omega]; rfl
  · rw [show n + 4 - (n + 1) = 3 by omega]; rfl
theorem spans_none {e : TypeId} {B : Nat} {w : World} {v : Value} (h : OwnE encS 2 e B w v []) : ∃ p cap, v = .slice p 0 cap := by
  obtain ⟨p, cap, h1, _⟩ := h.form
  exact ⟨p, cap, h1⟩
theorem spans_one {e : TypeId} {B : Nat} {w : World} {v : Value} {a c : Int} (h : OwnE encS 2 e B w v [(a, c)]) : ∃ g cap, v = .slice (some ⟨g, 0, none⟩) 1 cap ∧ B ≤ g ∧ g < w.heap.size ∧ w.cell? ⟨g, 0, none⟩ = some (.int .i64 a) ∧ w.cell? ⟨g, 1, none⟩ = some (.int .i64 c) := by
  obtain ⟨p, cap, h1, h2⟩ := h.form
  rcases h2 with ⟨_, h2⟩ | ⟨g, h2, h3, h4⟩
  · cases h2
  · subst h2
    subst h1
    have k0 := World.ownsRow.cellAt h 0 (by simp)
    have k1 := World.ownsRow.cellAt h 1 (by simp)
    exact ⟨g, cap, rfl, h3, h4, k0, k1⟩
theorem run_eqSpan (a b c d : Int) (w : World) : (Op.equalIn 10000 37 (.agg #[.int .i64 a, .int .i64 b]) (.agg #[.int .i64 c, .int .i64 d])).run Try.prog w = .ok (decide (a = c ∧ b = d)) w := by
  by_cases h1 : a = c <;> by_cases h2 : b = d <;> simp [go_sem, h1, h2]
end Go.Proofs.Ytnnbdjfeagcbdaa
namespace Go.Proofs.Ytnnbdjfeagcbdaa
set_option linter.unusedSimpArgs false
set_option linter.unusedVariables false
open Go.RowKit Go.Shelf
attribute [local go_sem] Oper.semAt_some

/-- Is there such a version? -/
def verB (n : Nat) (v : Int) : Bool := decide (0 ≤ v) && decide (v < (n : Int))
theorem verB_true {n : Nat} {v : Int} (h : 0 ≤ v ∧ v < (n : Int)) : verB n v = true := by unfold verB; simp [h.1, h.2]
theorem verB_false {n : Nat} {v : Int} (h : ¬ (0 ≤ v ∧ v < (n : Int))) : verB n v = false := by
  unfold verB
  by_cases h1 : 0 ≤ v
  · have h2 : ¬ v < (n : Int) := fun h2 => h ⟨h1, h2⟩
    simp [h2]
  · simp [h1]
theorem atE_ver (n : Nat) (v : Int) : atE n v true = if verB n v = true then 0 else 4 := by
  unfold atE verB
  by_cases h1 : 0 ≤ v
  · by_cases h2 : v < (n : Int)
    · rw [if_neg (by omega)]; simp [h1, h2]
    · rw [if_pos (by omega)]; simp [h2]
  · rw [if_pos (by omega)]; simp [h1]

set_option maxRecDepth 100000 in
set_option maxHeartbeats 4000000 in
theorem changed_bad {B : Nat} {W w : World} {sB vB : Nat} {vs : List T} (h : Reg B W w sB vB vs) (hn : vs.length ≤ 1000) {a b : Int} (hab : verB vs.length a = false ∨ verB vs.length a = true ∧ verB vs.length b = false) :
    Calls Try.prog 42 #[.pointer (some ⟨sB, 0, none⟩), .int .i64 a, .int .i64 b] w fun e w' => e = .returned (.tuple #[.slice none 0 0, .int .i64 4]) ∧ Below w.heap.size w w' := by
  have RG := hid h
  clear h
  rcases hab with ha | ⟨ha, hb⟩
  · have HA := hid (show atE vs.length a true = 4 by rw [atE_ver, ha]; rfl)
    clear ha
    go_enter Try.func42, Try.ntmps42
    go_wp2_with fail
    refine (at_calls w sB vB vs RG.out.st (by omega) a true).mono ?_
    rintro e w1 ⟨hw1, pa, rfl, hpa⟩
    rw [hw1, HA.out]
    clear hw1 hpa
    go_wp2_with fail
    exact bodyPost_ret (v := .tuple #[.slice none 0 0, .int .i64 4]) (by simp [results, Try.results42, go_sem]) rfl ⟨rfl, Below.refl _ _⟩
  · have HA := hid (show atE vs.length a true = 0 by rw [atE_ver, ha]; rfl)
    have HB := hid (show atE vs.length b true = 4 by rw [atE_ver, hb]; rfl)
    clear ha hb
    go_enter Try.func42, Try.ntmps42
    go_wp2_with fail
    refine (at_calls w sB vB vs RG.out.st (by omega) a true).mono ?_
    rintro e w1 ⟨hw1, pa, rfl, hpa⟩
    rw [hw1, HA.out]
    clear hw1 hpa
    go_wp2_with fail
    refine (at_calls w sB vB vs RG.out.st (by omega) b true).mono ?_
    rintro e w1 ⟨hw1, pb, rfl, hpa⟩
    rw [hw1, HB.out]
    clear hw1 hpa
    go_wp2_with fail
    exact bodyPost_ret (v := .tuple #[.slice none 0 0, .int .i64 4]) (by simp [results, Try.results42, go_sem]) rfl ⟨rfl, Below.refl _ _⟩

set_option maxRecDepth 100000 in
set_option maxHeartbeats 4000000 in
theorem version_rcalls (w : World) (v : Value) (xs : List (List Pc)) (hv : RefAt w v xs) (hn : xs.length ≤ 1000) (a : Int) :
    Calls Try.prog 43 #[v, .int .i64 a] w fun e w' => ∃ u, e = .returned (.tuple #[u, .bool (verB xs.length a)]) ∧ (verB xs.length a = true → RunsV 0 w' u (xs[a.toNat]?.getD [])) ∧ Below w.heap.size w w' := by
  obtain ⟨b, cap, us, rfl, hb, hu, hk⟩ := hv.cell
  have FULL := hid hv.full
  obtain ⟨n, hnn⟩ : ∃ n, n = xs.length := ⟨_, rfl⟩
  rw [← hnn] at hn hk ⊢
  have HK := hid hk
  clear hk hu hnn hv
  by_cases h0 : 0 ≤ a
  · by_cases h1 : a < (n : Int)
    · rw [verB_true ⟨h0, h1⟩]
      obtain ⟨m, rfl⟩ := Int.eq_ofNat_of_zero_le h0
      rw [Int.toNat_natCast]
      have hmn : m < n := by omega
      obtain ⟨u, hue⟩ : ∃ u, u = us[m]?.getD (.slice none 0 0) := ⟨_, rfl⟩
      have hk := HK.out m hmn
      rw [← hue] at hk
      have c0 := hk.1
      have RV := hid hk.2
      have g1 : decide ((m : Int) < 0) = false := by simp
      have g2 : decide ((n : Int) ≤ (m : Int)) = false := by simp; omega
      have n2 : (0 : Int) ≤ (m : Int) := by omega
      have n3 : (m : Int) < (n : Int) := by omega
      clear hk hue h0 h1
      go_enter Try.func43, Try.ntmps43
      go_wp2_with fail
      exact bodyPost_ret (v := .tuple #[u, .bool true]) (by simp [results, Try.results43, go_sem]) rfl ⟨u, rfl, fun _ => RV.out.below ((Below.refl _ _).alloc (Nat.le_refl _) _), (Below.refl _ _).alloc (Nat.le_refl _) _⟩
    · rw [verB_false (fun h => h1 h.2)]
      have g1 : decide (a < 0) = false := by simp; omega
      have g2 : decide ((n : Int) ≤ a) = true := by simp; omega
      clear h0 h1
      go_enter Try.func43, Try.ntmps43
      go_wp2_with fail
      exact bodyPost_ret (v := .tuple #[.slice none 0 0, .bool false]) (by simp [results, Try.results43, go_sem]) rfl ⟨_, rfl, fun h => by simp at h, (Below.refl _ _).alloc (Nat.le_refl _) _⟩
  · rw [verB_false (fun h => h0 h.1)]
    have g1 : decide (a < 0) = true := by simp; omega
    clear h0
    go_enter Try.func43, Try.ntmps43
    go_wp2_with fail
    exact bodyPost_ret (v := .tuple #[.slice none 0 0, .bool false]) (by simp [results, Try.results43, go_sem]) rfl ⟨_, rfl, fun h => by simp at h, (Below.refl _ _).alloc (Nat.le_refl _) _⟩

theorem SpansV.cells {B : Nat} {w : World} {v : Value} {l : List (Int × Int)} (h : OwnE encS 2 37 B w v l) : ∃ p cap b, v = .slice p l.length cap ∧ (0 < l.length → p = some ⟨b, 0, none⟩ ∧ B ≤ b ∧ b < w.heap.size) ∧
    ∀ (k : Nat) (hk : k < l.length), w.cell? ⟨b, k * 2, none⟩ = some (.int .i64 l[k].1) ∧ w.cell? ⟨b, k * 2 + 1, none⟩ = some (.int .i64 l[k].2) := by
  rcases h.2 with ⟨h1, h2⟩ | ⟨g, cap, cur, hv, hb, hg, h3⟩
  · exact ⟨none, 0, 0, by rw [h1, h2], fun h0 => by omega, fun k hk => by omega⟩
  · subst hv
    have key : ∀ (k : Nat) (hk : k < l.length) (j : Nat), j < 2 → w.cell? ⟨g, k * 2 + j, none⟩ = (encS l[k])[j]? := fun k hk j hj => by
      rw [World.ownsRow.cellAt h _ (by have : k * 2 + 2 ≤ l.length * 2 := by { rw [← Nat.succ_mul]; exact Nat.mul_le_mul_right _ hk }; omega), flatE_get encS_len l k hk j hj]
    refine ⟨_, cap, g, rfl, fun _ => ⟨rfl, hb, (Array.getElem?_eq_some_iff.1 hg).1⟩, fun k hk => ?_⟩
    have k0 := key k hk 0 (by omega)
    have k1 := key k hk 1 (by omega)
    simp [encS] at k0 k1
    exact ⟨k0, k1⟩

set_option maxRecDepth 100000 in
set_option maxHeartbeats 4000000 in
theorem spans_same (w : World) (u v : Value) (l : List (Int × Int)) (hu : OwnE encS 2 37 0 w u l) (hv : OwnE encS 2 37 0 w v l) (hl : l.length ≤ 1000000) :
    Calls Try.prog 41 #[u, v] w fun e w' => e = .returned (.bool true) ∧ Below w.heap.size w w' := by
  obtain ⟨p, cap, b, rfl, hp, hc⟩ := SpansV.cells hv
  obtain ⟨p2, cap2, b2, rfl, hp2, hc2⟩ := SpansV.cells hu
  obtain ⟨n, hn⟩ : ∃ n, n = l.length := ⟨_, rfl⟩
  rw [← hn] at hp hp2 hl ⊢
  have HP := hid hp
  have HC := hid hc
  have HP2 := hid hp2
  have HC2 := hid hc2
  have HN := hid hn
  have hnn : ((n : Int) == (n : Int)) = true := by simp
  have hnm : ((n : Int) != (n : Int)) = false := by simp
  clear hp hc hn hp2 hc2 hu hv
  go_enter Try.func41, Try.ntmps41
  go_wp2_with fail
  go_loopg [5] n (fun k s5 wr => ∃ i : Nat, i + k = n ∧ s5 = .int .i64 i ∧ Below w.heap.size w wr)
  case atStart => exact ⟨0, by omega, rfl, Below.refl _ _⟩
  case round =>
    obtain ⟨i, hik, rfl, hb⟩ := hrel
    have HB := hid hb
    have hsz := hb.size
    by_cases hi : i < n
    · have hil : i < l.length := by rw [← HN.out]; exact hi
      obtain ⟨rfl, _, hbl⟩ := HP.out (by omega)
      obtain ⟨rfl, _, hbl2⟩ := HP2.out (by omega)
      obtain ⟨d0, d1⟩ := HC.out i hil
      obtain ⟨c0, c1⟩ := HC2.out i hil
      obtain ⟨r, hr⟩ : ∃ r, r = l[i] := ⟨_, rfl⟩
      rw [← hr] at d0 d1 c0 c1
      have e0 : wr.cell? ⟨b2, i * 2, none⟩ = some (.int .i64 r.1) := (hb.cell (p := ⟨b2, i * 2, none⟩) hbl2).trans c0
      have e1 : wr.cell? ⟨b2, i * 2 + 1, none⟩ = some (.int .i64 r.2) := (hb.cell (p := ⟨b2, i * 2 + 1, none⟩) hbl2).trans c1
      have f0 : wr.cell? ⟨b, i * 2, none⟩ = some (.int .i64 r.1) := (hb.cell (p := ⟨b, i * 2, none⟩) hbl).trans d0
      have f1 : wr.cell? ⟨b, i * 2 + 1, none⟩ = some (.int .i64 r.2) := (hb.cell (p := ⟨b, i * 2 + 1, none⟩) hbl).trans d1
      have l1 : b2 < wr.heap.size := Nat.lt_of_lt_of_le hbl2 hsz
      have l2 : b < wr.heap.size := Nat.lt_of_lt_of_le hbl hsz
      have i64 : IntKind.i64.wrap ((i : Int) + 1) = (i : Int) + 1 := IntWalk.i64_in _ (by omega)
      have g2 : decide ((i : Int) < (n : Int)) = true := by simpa using hi
      have n2 : (0 : Int) ≤ (i : Int) := by omega
      have n3 : (i : Int) < (n : Int) := by omega
      have he : ∀ w, (Op.equalIn 10000 37 (.agg #[.int .i64 r.1, .int .i64 r.2]) (.agg #[.int .i64 r.1, .int .i64 r.2])).run Try.prog w = .ok true w := fun w => (run_eqSpan r.1 r.2 r.1 r.2 w).trans (by simp)
      clear hr hb d0 d1 c0 c1
      go_wp2
      go_big_quiet (fail)
      go_wp2
      go_roundg (gk - 1)
      case measure => omega
      case rel => exact ⟨i + 1, by omega, rfl, drewN_below HB.out nq⟩
    · have g2 : decide ((i : Int) < (n : Int)) = false := by simpa using hi
      clear hb
      go_wp2
      refine bodyPost_ret (v := .bool true) (by simp [results, Try.results41, go_sem]) rfl ⟨rfl, HB.out⟩
end Go.Proofs.Ytnnbdjfeagcbdaa
namespace Go.Proofs.Ytnnbdjfeagcbdaa
set_option linter.unusedSimpArgs false
set_option linter.unusedVariables false
open Go.RowKit Go.Shelf
attribute [local go_sem] Oper.semAt_some

theorem runs_len : ∀ {l : List (Int × Int)} {a b : Int}, Runs l a b → a ≤ b + 1 → (l.length : Int) ≤ b + 1 - a
  | [], a, b, _, h => by simp; omega
  | s :: l, a, b, ⟨h1, h2, h3, h4⟩, h => by
    have := runs_len h4
    by_cases hx : s.1 + s.2 + 1 ≤ b + 1
    · have := this hx
      rw [List.length_cons]
      omega
    · cases l with
      | nil => simp; omega
      | cons t l =>
        obtain ⟨k1, k2, k3, k4⟩ := h4
        omega
theorem runs_grow {la lb : List Pc} {out : List (Int × Int)} {a en : Int} (ha : 1 ≤ a) (hae : a < en) (hr : Runs out 1 (a - 1)) (hi : ∀ n, inS out n ↔ 1 ≤ n ∧ n < a ∧ valL la n ≠ valL lb n)
    (hA : ∀ m, a ≤ m → m < en → valL la m = valL la a) (hB : ∀ m, a ≤ m → m < en → valL lb m = valL lb a) :
    Runs (if valL la a = valL lb a then out else extL out (a, en - a)) 1 (en - 1) ∧ ∀ n, inS (if valL la a = valL lb a then out else extL out (a, en - a)) n ↔ 1 ≤ n ∧ n < en ∧ valL la n ≠ valL lb n := by
  split
  · rename_i he
    refine ⟨hr.up (by omega), fun n => (hi n).trans ⟨fun h => ⟨h.1, by omega, h.2.2⟩, fun h => ⟨h.1, ?_, h.2.2⟩⟩⟩
    rcases Int.lt_or_le n a with hn | hn
    · exact hn
    · exact absurd (by rw [hA n hn h.2.1, hB n hn h.2.1, he]) h.2.2
  · rename_i he
    have e := extL_runs (l := out) (a := 1) (b := a - 1) (x := a) (y := en - a) hr (by omega) ha (by omega)
    refine ⟨e.1.up (by omega), fun n => (e.2 n).trans ?_⟩
    rw [hi n]
    constructor
    · rintro (h | h)
      · exact ⟨h.1, by omega, h.2.2⟩
      · refine ⟨by omega, by omega, ?_⟩
        rw [hA n h.1 (by omega), hB n h.1 (by omega)]
        exact he
    · rintro ⟨k1, k2, k3⟩
      rcases Int.lt_or_le n a with hn | hn
      · exact .inl ⟨k1, hn, k3⟩
      · exact .inr ⟨hn, by omega⟩

set_option maxRecDepth 100000 in
set_option maxHeartbeats 8000000 in
theorem rchanged_calls (w : World) (v1 v2 : Value) (la lb : List Pc) (h1 : RunsV 0 w v1 la) (h2 : RunsV 0 w v2 lb) (l1 : la.length ≤ 1000000) (l2 : lb.length ≤ 1000000) (r1 : RunsP la) (r2 : RunsP lb) :
    Calls Try.prog 44 #[v1, v2] w fun e w' => ∃ u R, e = .returned u ∧ OwnE encS 2 37 w.heap.size w' u R ∧ (Runs R 1 1000000 ∧ ∀ n, inS R n ↔ 1 ≤ n ∧ n ≤ 1000000 ∧ valL la n ≠ valL lb n) ∧ Below w.heap.size w w' := by
  obtain ⟨i0, hi, hz0, hz1, hz2⟩ := info_parts info_span
  have HV1 := hid h1
  have HV2 := hid h2
  have R1 := hid r1
  have R2 := hid r2
  clear h1 h2 r1 r2
  go_enter Try.func44, Try.ntmps44
  go_wp2_with fail
  go_loopg [5, 6] 1000000 (fun k s5 s6 wr => ∃ (a : Int) (out : List (Int × Int)), s6 = .int .i64 a ∧ 1 ≤ a ∧ a ≤ 1000001 ∧ k = (1000001 - a).toNat ∧ OwnE encS 2 37 w.heap.size wr s5 out ∧ Runs out 1 (a - 1) ∧ (∀ n, inS out n ↔ 1 ≤ n ∧ n < a ∧ valL la n ≠ valL lb n) ∧ Below w.heap.size w wr)
  case atStart => exact ⟨1, [], rfl, by omega, by omega, rfl, OwnE.nil _ _, trivial, fun n => ⟨fun h => h.elim, fun h => by omega⟩, Below.refl _ _⟩
  case round =>
    obtain ⟨a, out, rfl, ha1, ha2, hk, hu, hruns, hin, hb⟩ := hrel
    have HU := hid hu
    have RUN := hid hruns
    have HIN := hid hin
    have HB := hid hb
    have HK := hid hk
    have hsz := hb.size
    clear hu hruns hin hb hk
    by_cases ha : a ≤ 1000000
    · have g1 : decide (a ≤ 1000000) = true := by simpa using ha
      obtain ⟨ea1, ea2, ea3⟩ := edge_spec (l := la) ha
      obtain ⟨eb1, eb2, eb3⟩ := edge_spec (l := lb) ha
      obtain ⟨ea, hea⟩ : ∃ ea, ea = edgeL la a := ⟨_, rfl⟩
      obtain ⟨eb, heb⟩ : ∃ eb, eb = edgeL lb a := ⟨_, rfl⟩
      rw [← hea] at ea1 ea2 ea3
      rw [← heb] at eb1 eb2 eb3
      obtain ⟨en, hen⟩ : ∃ en, en = min ea eb := ⟨_, rfl⟩
      have EN := hid hen
      have hen1 : a < en ∧ en ≤ 1000001 := by omega
      have EA := hid (show ∀ m, a ≤ m → m < en → valL la m = valL la a from fun m m1 m2 => ea3 m m1 (by omega))
      have EB := hid (show ∀ m, a ≤ m → m < en → valL lb m = valL lb a from fun m m1 m2 => eb3 m m1 (by omega))
      have GROW := hid (runs_grow ha1 hen1.1 RUN.out HIN.out EA.out EB.out)
      have HEA := hid hea
      have HEB := hid heb
      have C1 := hid (fun (wx : World) (hx : Below w.heap.size w wx) => show RunsV 0 wx v1 la from HV1.out.below hx)
      have C2 := hid (fun (wx : World) (hx : Below w.heap.size w wx) => show RunsV 0 wx v2 lb from HV2.out.below hx)
      have hol : out.length ≤ 1000000 := by have := runs_len RUN.out (by omega); omega
      clear ea3 eb3 hen hea heb
      go_upto_region 4 with fail
      go_cut [7] (fun s7 wx => s7 = .int .i64 en ∧ OwnE encS 2 37 w.heap.size wx u5 out ∧ Below w.heap.size w wx)
      case first =>
        go_wp2_with fail
        refine (edge_rcalls _ v1 la (C1.out _ HB.out) l1 R1.out a).mono ?_
        rintro e w2 ⟨rfl, hb2⟩
        rw [← HEA.out]
        have HB2 := hid (HB.out.trans (hb2.mono hsz))
        have HU2 := hid (HU.out.below (hb2))
        clear hb2
        go_wp2_with fail
        refine (edge_rcalls _ v2 lb (C2.out _ HB2.out) l2 R2.out a).mono ?_
        rintro e w3 ⟨rfl, hb3⟩
        rw [← HEB.out]
        have HB3 := hid (HB2.out.trans (hb3.mono HB2.out.size))
        have HU3 := hid (HU2.out.below hb3)
        clear hb3
        by_cases hx : eb < ea
        · have E := hid (show eb = en by have := EN.out; omega)
          go_wp2
          go_meet
          case rel => exact ⟨by rw [E.out], HU3.out, HB3.out⟩
        · have E := hid (show ea = en by have := EN.out; omega)
          have hx2 : (eb < ea) = False := by simp only [eq_iff_iff, iff_false]; exact hx
          clear hx
          go_wp2
          go_meet
          case rel => exact ⟨by rw [E.out], HU3.out, HB3.out⟩
      case rest =>
        obtain ⟨rfl, hu4, hb4⟩ := hcut
        have HU4 := hid hu4
        have HB4 := hid hb4
        have hsz4 := hb4.size
        clear hu4 hb4
        go_upto_region 5 with fail
        go_cut [24] (fun s24 wx => s24 = .bool (!decide (valL la a = valL lb a)) ∧ OwnE encS 2 37 w.heap.size wx u5 out ∧ Below w.heap.size w wx)
        case first =>
          have he : ∀ w, (Op.equalIn 10000 88 (valL la a).val (valL lb a).val).run Try.prog w = .ok (decide (valL la a = valL lb a)) w := fun w => run_eqPocket _ _ w
          go_wp2_with fail
          refine (at_rcalls _ v1 la (C1.out _ HB4.out) l1 a).mono ?_
          rintro e w2 ⟨rfl, hb2⟩
          have HB5 := hid (HB4.out.trans (hb2.mono hsz4))
          have HU5 := hid (HU4.out.below (hb2))
          clear hb2
          go_wp2_with fail
          refine (at_rcalls _ v2 lb (C2.out _ HB5.out) l2 a).mono ?_
          rintro e w3 ⟨rfl, hb3⟩
          have HB6 := hid (HB5.out.trans (hb3.mono HB5.out.size))
          have HU6 := hid (HU5.out.below hb3)
          clear hb3
          go_wp2
          go_meet
          case rel => exact ⟨rfl, HU6.out, HB6.out⟩
        case rest =>
          obtain ⟨rfl, hu4, hb4⟩ := hcut
          have HU7 := hid hu4
          have HB7 := hid hb4
          have hsz7 := hb4.size
          clear hu4 hb4
          go_upto_if 24 with fail
          go_cut [5] (fun s5 wx => ∃ out2, out2 = (if valL la a = valL lb a then out else extL out (a, en - a)) ∧ OwnE encS 2 37 w.heap.size wx s5 out2 ∧ Below w.heap.size w wx)
          case first =>
            by_cases hc : valL la a = valL lb a
            · have E := hid hc
              have E2 : (!decide (valL la a = valL lb a)) = false := by simpa using hc
              rw [E2]
              clear hc E2
              go_wp2
              go_meet
              case rel => exact ⟨out, by rw [if_pos E.out], HU7.out, HB7.out⟩
            · have E := hid hc
              have E2 : (!decide (valL la a = valL lb a)) = true := by simpa using hc
              rw [E2]
              have v1' : IntKind.i64.wrap (en - a) = en - a := IntWalk.i64_in _ (by omega)
              clear hc E2
              have O2 := hid (fun n => show ((wc.drewN n).alloc (.cells #[.int .i64 a, .int .i64 (en - a)] 37)).ownsRow w.heap.size 37 2 u5 out.length (flatE encS out) from World.ownsRow.alloc (HU7.out.drewN n) _)
              rcases List.eq_nil_or_concat out with ho | ⟨L, q, ho⟩
              · subst ho
                obtain ⟨p0, cap, rfl, _⟩ := HU7.out.form
                have hd : decide ((0 : Int) < 0) = false := by decide
                simp only [List.length_nil] at O2
                go_wp2
                go_quiet (fail)
                go_wp2_with (at_builtin; refine wpList_append_lies _ rfl (.tmp 61) (.tmp 67) 82 rfl w.heap.size 37 i0 _ 2 16 under_spans hi hz0 hz1 hz2 rfl (by decide) (.slice p0 0 cap) (0) (flatE encS ([])) rfl (O2.out nq) ⟨wc.heap.size, 0, none⟩ 1 1 [.int .i64 a, .int .i64 (en - a)] rfl rfl ?a1 ?a2 (by decide) ?a3 ?a4 ?a5 _ rfl ?_)
                case a1 => exact news_of (Cells.new (wc.drewN nq) #[.int .i64 a, .int .i64 (en - a)] 37)
                case a2 => intro u hu; simp at hu; rcases hu with rfl | rfl <;> rfl
                case a3 => unfold maxLen; omega
                case a4 => omega
                case a5 => simp; omega
                intro g1 cap1 w9 own1 gr1 at1 lt1
                have bb : Below w.heap.size w w9 := Below.grown ((drewN_below HB7.out nq).alloc (by rw [World.heap_drewN]; exact hsz7) _) gr1 (by rw [World.size_alloc, World.heap_drewN]; omega) (fun r h => (World.ownsRow.lt (O2.out nq) r h).1)
                have OW := hid own1
                have BB := hid bb
                clear own1 gr1 at1 lt1 bb
                go_wp2
                go_meet
                case rel => exact ⟨[(a, en - a)], by rw [if_neg E.out]; rfl, OW.out, BB.out⟩
              · rw [List.concat_eq_append] at ho
                subst ho
                obtain ⟨m, hm⟩ : ∃ m, m = L.length := ⟨_, rfl⟩
                have hml : (L ++ [q]).length = m + 1 := by simp [hm]
                obtain ⟨p0, cap, rfl, hp⟩ := HU7.out.form
                obtain ⟨g, rfl, hg1, hg2⟩ : ∃ g, p0 = some ⟨g, 0, none⟩ ∧ w.heap.size ≤ g ∧ g < wc.heap.size := by
                  rcases hp with ⟨_, h⟩ | ⟨g, h⟩
                  · simp at h
                  · exact ⟨g, h⟩
                have key : ∀ j, j < 2 → wc.cell? ⟨g, m * 2 + j, none⟩ = (encS q)[j]? := by
                  intro j hj
                  have h1 := World.ownsRow.cellAt HU7.out (m * 2 + j) (by rw [hml]; omega)
                  rw [h1, flatE_get encS_len (L ++ [q]) m (by rw [hml]; omega) j hj]
                  simp [hm]
                have q0 := key 0 (by omega)
                have q1 := key 1 (by omega)
                simp [encS] at q0 q1
                have hfz : wc.frozen? ⟨g, m * 2 + 1, none⟩ = false := World.ownsRow.frozenAt HU7.out _
                rw [hml] at O2 hol ⊢
                have hq := runs_mem RUN.out q (by simp)
                have c1 : IntKind.i64.wrap ((m : Int) + 1 - 1) = (m : Int) := by rw [IntWalk.i64_in _ (by omega)]; omega
                have c2 : (0 : Int) ≤ (m : Int) := by omega
                have c3 : (m : Int) < (m : Int) + 1 := by omega
                have c7 : (m : Int) < ((m + 1 : Nat) : Int) := by omega
                have c8 : m < m + 1 := by omega
                have c4 : decide ((0 : Int) < (m : Int) + 1) = true := by rw [decide_eq_true_eq]; omega
                have c5 : IntKind.i64.wrap (q.1 + q.2) = q.1 + q.2 := IntWalk.i64_in _ (by omega)
                have c6 : IntKind.i64.wrap (q.2 + en) = q.2 + en := IntWalk.i64_in _ (by omega)
                have c9 : IntKind.i64.wrap (q.2 + en - a) = q.2 + (en - a) := by rw [IntWalk.i64_in _ (by omega)]; omega
                have HM := hid hm
                have HH := hid hml
                clear key hp hml hm
                by_cases hc : q.1 + q.2 = a
                · have hcd : (q.1 + q.2 == a) = true := by simp [hc]
                  have HC := hid hc
                  clear hc
                  go_wp2
                  go_quiet (fail)
                  go_wp2
                  go_meet
                  case rel =>
                    refine ⟨_, rfl, ?_, ?_⟩
                    · rw [if_neg E.out, extL_last, if_pos HC.out]
                      have h1 := World.ownsRow.stored (HU7.out.drewN nq) (m * 2 + 1) (.int .i64 (q.2 + (en - a)))
                      have h2 : (flatE encS (L ++ [q])).set (m * 2 + 1) (.int .i64 (q.2 + (en - a))) = flatE encS (L ++ [(q.1, q.2 + (en - a))]) := by
                        rw [HM.out, flatE_set_last encS_len, flatE_snoc]; rfl
                      rw [h2] at h1
                      unfold OwnE
                      have e : (L ++ [(q.1, q.2 + (en - a))]).length = m + 1 := by simp [HM.out]
                      rw [e]
                      have h3 := h1.1
                      rw [HH.out] at h3
                      exact h3
                    · exact (drewN_below HB7.out nq).setCell hg1 _
                · have hcd : (q.1 + q.2 == a) = false := by simp [hc]
                  have HC := hid hc
                  clear hc
                  go_wp2
                  go_quiet (fail)
                  go_wp2_with (at_builtin; refine wpList_append_lies _ rfl (.tmp 61) (.tmp 67) 82 rfl w.heap.size 37 i0 _ 2 16 under_spans hi hz0 hz1 hz2 rfl (by decide) (.slice (some ⟨g, 0, none⟩) (m + 1) cap) ((m + 1)) (flatE encS (L ++ [q])) rfl (O2.out nq) ⟨wc.heap.size, 0, none⟩ 1 1 [.int .i64 a, .int .i64 (en - a)] rfl rfl ?a1 ?a2 (by decide) ?a3 ?a4 ?a5 _ rfl ?_)
                  case a1 => exact news_of (Cells.new (wc.drewN nq) #[.int .i64 a, .int .i64 (en - a)] 37)
                  case a2 => intro u hu; simp at hu; rcases hu with rfl | rfl <;> rfl
                  case a3 => unfold maxLen; omega
                  case a4 => omega
                  case a5 => simp; omega
                  intro g1 cap1 w9 own1 gr1 at1 lt1
                  have bb : Below w.heap.size w w9 := Below.grown ((drewN_below HB7.out nq).alloc (by rw [World.heap_drewN]; exact hsz7) _) gr1 (by rw [World.size_alloc, World.heap_drewN]; omega) (fun r h => (World.ownsRow.lt (O2.out nq) r h).1)
                  have OW := hid own1
                  have BB := hid bb
                  clear own1 gr1 at1 lt1 bb
                  go_wp2
                  go_meet
                  case rel =>
                    refine ⟨_, rfl, ?_, BB.out⟩
                    rw [if_neg E.out, extL_last, if_neg HC.out]
                    unfold OwnE
                    have := OW.out
                    have e : (L ++ [q, (a, en - a)]) = (L ++ [q]) ++ [(a, en - a)] := by simp
                    rw [e, flatE_snoc, List.length_append, HH.out]
                    exact this
          case rest =>
            obtain ⟨out2, hout2, o5, b5⟩ := hcut
            have HO2 := hid hout2
            have O5 := hid o5
            have B5 := hid b5
            clear hout2 o5 b5
            go_wp2
            go_roundg ((1000001 - en).toNat)
            case measure => have := HK.out; omega
            case rel =>
              have := GROW.out
              rw [← HO2.out] at this
              exact ⟨en, out2, rfl, by omega, by omega, rfl, O5.out, this.1, this.2, B5.out⟩
    · have g1 : decide (a ≤ 1000000) = false := by simpa using ha
      have FI := hid (show Runs out 1 1000000 ∧ ∀ n, inS out n ↔ 1 ≤ n ∧ n ≤ 1000000 ∧ valL la n ≠ valL lb n by
        have e : a = 1000001 := by omega
        have h1 := RUN.out
        have h2 := HIN.out
        rw [e] at h1 h2
        refine ⟨h1, fun n => (h2 n).trans ⟨fun h => ⟨h.1, by omega, h.2.2⟩, fun h => ⟨h.1, by omega, h.2.2⟩⟩⟩)
      go_wp2
      refine bodyPost_ret (v := u5) (by simp [results, Try.results44, go_sem]) rfl ?_
      exact ⟨u5, rfl, out, HU.out, FI.out, HB.out⟩
end Go.Proofs.Ytnnbdjfeagcbdaa
