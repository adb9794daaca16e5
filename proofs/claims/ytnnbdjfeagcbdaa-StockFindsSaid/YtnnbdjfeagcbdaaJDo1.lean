/- The law's do: a call done to the register and to the reference. The reference's questions; the law's members, holds. The law's holds: holds and runs compared. Questions about any version of a register, by the reference's runs. The law's shows: a version of the register shows what the runs say. A register and the reference, in step. Changed: the pockets that differ between two versions. Find: its plain law. The first pockets of a lot that an owner has: as the program adds them up and as the reference takes them. No program in sight. The reference: Find. Find: the first pockets of a lot that an owner has. The reference: edge, Version; spans of two lists. StockReturns: its plain law. A hold moved away and back, pledged and released: the same tiling again; where the versions between differ. No program in sight. -/
import Derived.Deep.CutBlock
import Derived.Test.YtnnbdjfeagcbdaaJRf3
import Derived.Test.YtnnbdjfeagcbdaaJActs
import Derived.Test.YtnnbdjfeagcbdaaJRf2
import Derived.Test.YtnnbdjfeagcbdaaJAll
namespace Go.Proofs.Ytnnbdjfeagcbdaa
set_option linter.unusedSimpArgs false
set_option linter.unusedVariables false
open Go.RowKit Go.Shelf
attribute [local go_sem] Oper.semAt_some

theorem Reg.set {B : Nat} {W w : World} {sB vB : Nat} {vs : List T} (h : Reg B W w sB vB vs) {C : Nat} {cs : Array Value} {ty : TypeId} (hc : Cells w C cs ty) (h1 : C ≠ sB) (h2 : C ≠ vB) (h3 : ty ≠ 158) (hB : B ≤ C) (j : Nat) (v : Value) : Reg B W (w.setCell ⟨C, j, none⟩ v) sB vB vs := by
  refine ⟨h.st.keep (Below.heap_setCell w ⟨C, j, none⟩ v sB (fun e => h1 e.symm)) (Below.heap_setCell w ⟨C, j, none⟩ v vB (fun e => h2 e.symm)) (fun b cs' hb => Below.heap_setCell w ⟨C, j, none⟩ v b (fun e => ?_)), h.fine, h.tiles, h.canon, h.zero, h.below.setCell (p := ⟨C, j, none⟩) hB v, h.ls, h.lv⟩
  have e' : b = C := e
  subst e'
  exact h3 (cells_type hc hb)
/-- Within do: what is boxed. -/
structure DoSt (w : World) (s : Value) (k f c lt a b : Int) (wx : World) : Prop where
  c4 : Cells wx w.heap.size #[s] 58
  c5 : Cells wx (w.heap.size + 1) #[.int .i64 k, .int .i64 f, .int .i64 c, .int .i64 lt, .int .i64 a, .int .i64 b] 39
  c6 : Cells wx (w.heap.size + 1 + 1) #[.slice none 0 0] 58
theorem DoSt.start (w : World) (s : Value) (k f c lt a b : Int) : DoSt w s k f c lt a b (((w.alloc (.cells #[s] 58)).alloc (.cells #[.int .i64 k, .int .i64 f, .int .i64 c, .int .i64 lt, .int .i64 a, .int .i64 b] 39)).alloc (.cells #[.slice none 0 0] 58)) := by
  refine ⟨((Cells.new w _ _).alloc _).alloc _, ?_, ?_⟩
  · have := Cells.new (w.alloc (.cells #[s] 58)) #[.int .i64 k, .int .i64 f, .int .i64 c, .int .i64 lt, .int .i64 a, .int .i64 b] 39
    rw [World.size_alloc] at this
    exact this.alloc _
  · have := Cells.new ((w.alloc (.cells #[s] 58)).alloc (.cells #[.int .i64 k, .int .i64 f, .int .i64 c, .int .i64 lt, .int .i64 a, .int .i64 b] 39)) #[.slice none 0 0] 58
    rwa [World.size_alloc, World.size_alloc] at this
theorem DoSt.after {w : World} {s : Value} {k f c lt a b : Int} {wx wy : World} (h : DoSt w s k f c lt a b wx) (hb : Below wx.heap.size wx wy) : DoSt w s k f c lt a b wy :=
  ⟨h.c4.below hb h.c4.lt, h.c5.below hb h.c5.lt, h.c6.below hb h.c6.lt⟩
theorem DoSt.set {w : World} {s : Value} {k f c lt a b : Int} {wx : World} (h : DoSt w s k f c lt a b wx) (u : Value) : DoSt w u k f c lt a b (wx.setCell ⟨w.heap.size, 0, none⟩ u) :=
  ⟨h.c4.set 0 u, h.c5.set_far 0 u (by omega), h.c6.set_far 0 u (by omega)⟩
theorem DoSt.turned {w : World} {s : Value} {k f c lt a b : Int} {wx wy : World} (h : DoSt w s k f c lt a b wx) {sB vB : Nat} (tu : Turned sB vB wx wy) (h1 : sB < w.heap.size) (h2 : vB < w.heap.size) : DoSt w s k f c lt a b wy :=
  ⟨(tu.block _ h.c4.lt (by omega) (by omega)).trans h.c4, (tu.block _ h.c5.lt (by omega) (by omega)).trans h.c5, (tu.block _ h.c6.lt (by omega) (by omega)).trans h.c6⟩
theorem DoSt.facts {w : World} {s : Value} {k f c lt a b : Int} {wx : World} (h : DoSt w s k f c lt a b wx) :
    wx.cell? ⟨w.heap.size, 0, none⟩ = some s ∧ wx.cell? ⟨w.heap.size + 1, 0, none⟩ = some (.int .i64 k) ∧ wx.cell? ⟨w.heap.size + 1, 1, none⟩ = some (.int .i64 f) ∧ wx.cell? ⟨w.heap.size + 1, 2, none⟩ = some (.int .i64 c) ∧ wx.cell? ⟨w.heap.size + 1, 3, none⟩ = some (.int .i64 lt) ∧ wx.cell? ⟨w.heap.size + 1, 4, none⟩ = some (.int .i64 a) ∧ wx.cell? ⟨w.heap.size + 1, 5, none⟩ = some (.int .i64 b) := by
  refine ⟨?_, ?_, ?_, ?_, ?_, ?_, ?_⟩ <;> simp [h.c4.cell, h.c5.cell]
theorem DoSt.more {w : World} {s : Value} {k f c lt a b : Int} {wx : World} (h : DoSt w s k f c lt a b wx) :
    wx.frozen? ⟨w.heap.size, 0, none⟩ = false ∧ w.heap.size < wx.heap.size ∧ wx.cell? ⟨w.heap.size + 1 + 1, 0, none⟩ = some (.slice none 0 0) ∧ wx.frozen? ⟨w.heap.size + 1 + 1, 0, none⟩ = false ∧ w.heap.size + 1 + 1 < wx.heap.size := by
  refine ⟨h.c4.frozen 0, h.c4.lt, ?_, h.c6.frozen 0, h.c6.lt⟩
  simp [h.c6.cell]

set_option maxRecDepth 100000 in
set_option maxHeartbeats 8000000 in
theorem do_rcalls {B : Nat} {W w : World} {sB vB : Nat} {vs : List T} (h : Reg B W w sB vB vs) (hB : B ≤ w.heap.size) (hn : vs.length ≤ 999) {t : T} (ht : vs.getLast? = some t) (v : Value) (xs : List (List Pc)) (hv : RefAt w v xs) (hxn : xs.length ≤ 999)
    (l : List Pc) (hl : xs.getLast? = some l) (hr : RunsP l) (hln : l.length ≤ 1000000) (k f c lt a b : Int) :
    Calls Try.prog 30 #[.pointer (some ⟨sB, 0, none⟩), v, .agg #[.int .i64 k, .int .i64 f, .int .i64 c, .int .i64 lt, .int .i64 a, .int .i64 b]] w (Did B W w sB vB vs t xs l) := by
  have RG := hid h
  have HT := hid ht
  have TO := hid (h.tr (List.mem_of_getLast? ht))
  have RV := hid hv
  have HR := hid hr
  have HL := hid hl
  obtain ⟨hls, hlv⟩ := h.st.lt
  obtain ⟨bs, ns, cs, rfl⟩ := hv.agg
  have D0 := hid (DoSt.start w (.slice (some ⟨bs, 0, none⟩) ns cs) k f c lt a b)
  have B0 := hid (show Below w.heap.size w (((w.alloc (.cells #[.slice (some ⟨bs, 0, none⟩) ns cs] 58)).alloc (.cells #[.int .i64 k, .int .i64 f, .int .i64 c, .int .i64 lt, .int .i64 a, .int .i64 b] 39)).alloc (.cells #[.slice none 0 0] 58)) from (((Below.refl _ _).alloc (Nat.le_refl _) _).alloc (by simp) _).alloc (by simp; omega) _)
  have hn1 : xs.length ≤ 1000 := by omega
  have hn2 : vs.length ≤ 1000 := by omega
  obtain ⟨q, hq1, hq2, hq⟩ := kind_mod k
  clear h ht hv hr hl
  go_enter Try.func30, Try.ntmps30
  rcases hq with hk | hk | hk | hk | hk | hk | hk | hk
  · subst hk
    as_aux_lemma =>
      go_wp2_with fail
      refine (enter_rcalls _ (.agg #[.slice (some ⟨bs, 0, none⟩) ns cs]) xs (RV.out.below B0.out) hn1 l HL.out HR.out hln f c lt a).mono ?_
      rintro e w1 ⟨r', v', ys, rfl, ra1, hb1, p0, p1, p2, p3⟩
      obtain ⟨bt, nt, ct, rfl⟩ := ra1.agg
      have TI := hid (enter_tied TO.out p0 p1)
      have RQ := hid (And.intro p2 p3)
      have A1 := hid ra1
      have D1 := hid (D0.out.after hb1)
      have B1 := hid (B0.out.trans (hb1.mono B0.out.size))
      obtain ⟨y0, y1, y2, y3, y4, y5, y6⟩ := D1.out.facts
      obtain ⟨z0, z1, z2, z3, z4⟩ := D1.out.more
      clear hb1 p0 p1 p2 p3 ra1 D0
      go_wp2_with fail
      have A2 := hid (A1.out.set D1.out.c4 (.slice (some ⟨bt, 0, none⟩) nt ct))
      have D2 := hid (D1.out.set (.slice (some ⟨bt, 0, none⟩) nt ct))
      have B2 := hid (B1.out.setCell (p := ⟨w.heap.size, 0, none⟩) (Nat.le_refl _) (.slice (some ⟨bt, 0, none⟩) nt ct))
      have R2 := hid (RG.out.after hB B2.out)
      refine (enter_reg R2.out (Nat.le_trans hB B2.out.size) hn2 HT.out f c lt a).mono ?_
      rintro e w2 ⟨rfl, us, uB, rg2, tu2, g1, g2⟩
      have A3 := hid (A2.out.turned R2.out.st tu2)
      have D3 := hid (D2.out.turned tu2 hls hlv)
      have R3 := hid rg2
      have T3 := hid (show Turned sB vB w w2 from ⟨tu2.os.trans B2.out.os, tu2.tape.trans B2.out.tape, tu2.output.trans B2.out.output, Nat.le_trans B2.out.size tu2.size, fun x hx h1 h2 => (tu2.block x (Nat.lt_of_lt_of_le hx B2.out.size) h1 h2).trans (B2.out.block x hx)⟩)
      have hsz := B2.out.size
      obtain ⟨y0, y1, y2, y3, y4, y5, y6⟩ := D3.out.facts
      obtain ⟨z0, z1, z2, z3, z4⟩ := D3.out.more
      obtain ⟨r, hr⟩ : ∃ r, r = enterR t f c lt a := ⟨_, rfl⟩
      rw [← hr] at TI g1 g2 ⊢
      have G := hid (And.intro g1 g2)
      have hlv2 := rg2.st.lt
      clear g1 g2 hr rg2 tu2 A1 A2 D1 D2
      go_wp2
      have f6 := D3.out.c6.set 0 (.slice (some ⟨bt, 0, none⟩) nt ct)
      have uu : uB = vB ∨ w.heap.size ≤ uB := by
        by_cases hz : r = 0
        · rcases (G.out.2 hz).1 with h | h
          · exact .inl h
          · exact .inr (Nat.le_trans hsz h)
        · exact .inl (G.out.1 hz).2
      have uc : w.heap.size + 1 + 1 ≠ uB := by
        by_cases hz : r = 0
        · rcases (G.out.2 hz).1 with h | h
          · omega
          · have := B1.out.size; simp at h; omega
        · have := (G.out.1 hz).2; omega
      refine bodyPost_ret (v := .tuple #[.agg #[.slice (some ⟨bt, 0, none⟩) nt ct], .bool (r == r')]) (by simp [results, Try.results30, go_sem, f6.cell]) rfl ?_
      exact Did.of TI.out TO.out.tiles (R3.out.set D3.out.c6 (by omega) uc (by decide) (by omega) 0 (.slice (some ⟨bt, 0, none⟩) nt ct)) (A3.out.set D3.out.c6 (.slice (some ⟨bt, 0, none⟩) nt ct)) ⟨T3.out.os, T3.out.tape, T3.out.output, by simpa [World.setCell] using T3.out.size, fun x hx h1 h2 => (Below.heap_setCell w2 ⟨w.heap.size + 1 + 1, 0, none⟩ (.slice (some ⟨bt, 0, none⟩) nt ct) x (by simp; omega)).trans (T3.out.block x hx h1 h2)⟩ uu (fun hz => (G.out.1 hz).1) (fun hz => (G.out.2 hz).2) RQ.out.1 RQ.out.2
  · subst hk
    as_aux_lemma =>
      go_wp2_with fail
      refine (enter_rcalls _ (.agg #[.slice (some ⟨bs, 0, none⟩) ns cs]) xs (RV.out.below B0.out) hn1 l HL.out HR.out hln f c lt a).mono ?_
      rintro e w1 ⟨r', v', ys, rfl, ra1, hb1, p0, p1, p2, p3⟩
      obtain ⟨bt, nt, ct, rfl⟩ := ra1.agg
      have TI := hid (enter_tied TO.out p0 p1)
      have RQ := hid (And.intro p2 p3)
      have A1 := hid ra1
      have D1 := hid (D0.out.after hb1)
      have B1 := hid (B0.out.trans (hb1.mono B0.out.size))
      obtain ⟨y0, y1, y2, y3, y4, y5, y6⟩ := D1.out.facts
      obtain ⟨z0, z1, z2, z3, z4⟩ := D1.out.more
      clear hb1 p0 p1 p2 p3 ra1 D0
      go_wp2_with fail
      have A2 := hid (A1.out.set D1.out.c4 (.slice (some ⟨bt, 0, none⟩) nt ct))
      have D2 := hid (D1.out.set (.slice (some ⟨bt, 0, none⟩) nt ct))
      have B2 := hid (B1.out.setCell (p := ⟨w.heap.size, 0, none⟩) (Nat.le_refl _) (.slice (some ⟨bt, 0, none⟩) nt ct))
      have R2 := hid (RG.out.after hB B2.out)
      refine (enter_reg R2.out (Nat.le_trans hB B2.out.size) hn2 HT.out f c lt a).mono ?_
      rintro e w2 ⟨rfl, us, uB, rg2, tu2, g1, g2⟩
      have A3 := hid (A2.out.turned R2.out.st tu2)
      have D3 := hid (D2.out.turned tu2 hls hlv)
      have R3 := hid rg2
      have T3 := hid (show Turned sB vB w w2 from ⟨tu2.os.trans B2.out.os, tu2.tape.trans B2.out.tape, tu2.output.trans B2.out.output, Nat.le_trans B2.out.size tu2.size, fun x hx h1 h2 => (tu2.block x (Nat.lt_of_lt_of_le hx B2.out.size) h1 h2).trans (B2.out.block x hx)⟩)
      have hsz := B2.out.size
      obtain ⟨y0, y1, y2, y3, y4, y5, y6⟩ := D3.out.facts
      obtain ⟨z0, z1, z2, z3, z4⟩ := D3.out.more
      obtain ⟨r, hr⟩ : ∃ r, r = enterR t f c lt a := ⟨_, rfl⟩
      rw [← hr] at TI g1 g2 ⊢
      have G := hid (And.intro g1 g2)
      have hlv2 := rg2.st.lt
      clear g1 g2 hr rg2 tu2 A1 A2 D1 D2
      go_wp2
      have f6 := D3.out.c6.set 0 (.slice (some ⟨bt, 0, none⟩) nt ct)
      have uu : uB = vB ∨ w.heap.size ≤ uB := by
        by_cases hz : r = 0
        · rcases (G.out.2 hz).1 with h | h
          · exact .inl h
          · exact .inr (Nat.le_trans hsz h)
        · exact .inl (G.out.1 hz).2
      have uc : w.heap.size + 1 + 1 ≠ uB := by
        by_cases hz : r = 0
        · rcases (G.out.2 hz).1 with h | h
          · omega
          · have := B1.out.size; simp at h; omega
        · have := (G.out.1 hz).2; omega
      refine bodyPost_ret (v := .tuple #[.agg #[.slice (some ⟨bt, 0, none⟩) nt ct], .bool (r == r')]) (by simp [results, Try.results30, go_sem, f6.cell]) rfl ?_
      exact Did.of TI.out TO.out.tiles (R3.out.set D3.out.c6 (by omega) uc (by decide) (by omega) 0 (.slice (some ⟨bt, 0, none⟩) nt ct)) (A3.out.set D3.out.c6 (.slice (some ⟨bt, 0, none⟩) nt ct)) ⟨T3.out.os, T3.out.tape, T3.out.output, by simpa [World.setCell] using T3.out.size, fun x hx h1 h2 => (Below.heap_setCell w2 ⟨w.heap.size + 1 + 1, 0, none⟩ (.slice (some ⟨bt, 0, none⟩) nt ct) x (by simp; omega)).trans (T3.out.block x hx h1 h2)⟩ uu (fun hz => (G.out.1 hz).1) (fun hz => (G.out.2 hz).2) RQ.out.1 RQ.out.2
  · subst hk
    as_aux_lemma =>
      go_wp2_with fail
      refine (move_rcalls _ (.agg #[.slice (some ⟨bs, 0, none⟩) ns cs]) xs (RV.out.below B0.out) hn1 l HL.out HR.out hln f c a b).mono ?_
      rintro e w1 ⟨r', v', ys, rfl, ra1, hb1, p0, p1, p2, p3⟩
      obtain ⟨bt, nt, ct, rfl⟩ := ra1.agg
      have TI := hid (move_tied TO.out p0 p1)
      have RQ := hid (And.intro p2 p3)
      have A1 := hid ra1
      have D1 := hid (D0.out.after hb1)
      have B1 := hid (B0.out.trans (hb1.mono B0.out.size))
      obtain ⟨y0, y1, y2, y3, y4, y5, y6⟩ := D1.out.facts
      obtain ⟨z0, z1, z2, z3, z4⟩ := D1.out.more
      clear hb1 p0 p1 p2 p3 ra1 D0
      go_wp2_with fail
      have A2 := hid (A1.out.set D1.out.c4 (.slice (some ⟨bt, 0, none⟩) nt ct))
      have D2 := hid (D1.out.set (.slice (some ⟨bt, 0, none⟩) nt ct))
      have B2 := hid (B1.out.setCell (p := ⟨w.heap.size, 0, none⟩) (Nat.le_refl _) (.slice (some ⟨bt, 0, none⟩) nt ct))
      have R2 := hid (RG.out.after hB B2.out)
      refine (move_reg R2.out (Nat.le_trans hB B2.out.size) hn2 HT.out f c a b).mono ?_
      rintro e w2 ⟨rfl, us, uB, rg2, tu2, g1, g2⟩
      have A3 := hid (A2.out.turned R2.out.st tu2)
      have D3 := hid (D2.out.turned tu2 hls hlv)
      have R3 := hid rg2
      have T3 := hid (show Turned sB vB w w2 from ⟨tu2.os.trans B2.out.os, tu2.tape.trans B2.out.tape, tu2.output.trans B2.out.output, Nat.le_trans B2.out.size tu2.size, fun x hx h1 h2 => (tu2.block x (Nat.lt_of_lt_of_le hx B2.out.size) h1 h2).trans (B2.out.block x hx)⟩)
      have hsz := B2.out.size
      obtain ⟨y0, y1, y2, y3, y4, y5, y6⟩ := D3.out.facts
      obtain ⟨z0, z1, z2, z3, z4⟩ := D3.out.more
      obtain ⟨r, hr⟩ : ∃ r, r = moveR t f c a b := ⟨_, rfl⟩
      rw [← hr] at TI g1 g2 ⊢
      have G := hid (And.intro g1 g2)
      have hlv2 := rg2.st.lt
      clear g1 g2 hr rg2 tu2 A1 A2 D1 D2
      go_wp2
      have f6 := D3.out.c6.set 0 (.slice (some ⟨bt, 0, none⟩) nt ct)
      have uu : uB = vB ∨ w.heap.size ≤ uB := by
        by_cases hz : r = 0
        · rcases (G.out.2 hz).1 with h | h
          · exact .inl h
          · exact .inr (Nat.le_trans hsz h)
        · exact .inl (G.out.1 hz).2
      have uc : w.heap.size + 1 + 1 ≠ uB := by
        by_cases hz : r = 0
        · rcases (G.out.2 hz).1 with h | h
          · omega
          · have := B1.out.size; simp at h; omega
        · have := (G.out.1 hz).2; omega
      refine bodyPost_ret (v := .tuple #[.agg #[.slice (some ⟨bt, 0, none⟩) nt ct], .bool (r == r')]) (by simp [results, Try.results30, go_sem, f6.cell]) rfl ?_
      exact Did.of TI.out TO.out.tiles (R3.out.set D3.out.c6 (by omega) uc (by decide) (by omega) 0 (.slice (some ⟨bt, 0, none⟩) nt ct)) (A3.out.set D3.out.c6 (.slice (some ⟨bt, 0, none⟩) nt ct)) ⟨T3.out.os, T3.out.tape, T3.out.output, by simpa [World.setCell] using T3.out.size, fun x hx h1 h2 => (Below.heap_setCell w2 ⟨w.heap.size + 1 + 1, 0, none⟩ (.slice (some ⟨bt, 0, none⟩) nt ct) x (by simp; omega)).trans (T3.out.block x hx h1 h2)⟩ uu (fun hz => (G.out.1 hz).1) (fun hz => (G.out.2 hz).2) RQ.out.1 RQ.out.2
  · subst hk
    as_aux_lemma =>
      go_wp2_with fail
      refine (move_rcalls _ (.agg #[.slice (some ⟨bs, 0, none⟩) ns cs]) xs (RV.out.below B0.out) hn1 l HL.out HR.out hln f c a b).mono ?_
      rintro e w1 ⟨r', v', ys, rfl, ra1, hb1, p0, p1, p2, p3⟩
      obtain ⟨bt, nt, ct, rfl⟩ := ra1.agg
      have TI := hid (move_tied TO.out p0 p1)
      have RQ := hid (And.intro p2 p3)
      have A1 := hid ra1
      have D1 := hid (D0.out.after hb1)
      have B1 := hid (B0.out.trans (hb1.mono B0.out.size))
      obtain ⟨y0, y1, y2, y3, y4, y5, y6⟩ := D1.out.facts
      obtain ⟨z0, z1, z2, z3, z4⟩ := D1.out.more
      clear hb1 p0 p1 p2 p3 ra1 D0
      go_wp2_with fail
      have A2 := hid (A1.out.set D1.out.c4 (.slice (some ⟨bt, 0, none⟩) nt ct))
      have D2 := hid (D1.out.set (.slice (some ⟨bt, 0, none⟩) nt ct))
      have B2 := hid (B1.out.setCell (p := ⟨w.heap.size, 0, none⟩) (Nat.le_refl _) (.slice (some ⟨bt, 0, none⟩) nt ct))
      have R2 := hid (RG.out.after hB B2.out)
      refine (move_reg R2.out (Nat.le_trans hB B2.out.size) hn2 HT.out f c a b).mono ?_
      rintro e w2 ⟨rfl, us, uB, rg2, tu2, g1, g2⟩
      have A3 := hid (A2.out.turned R2.out.st tu2)
      have D3 := hid (D2.out.turned tu2 hls hlv)
      have R3 := hid rg2
      have T3 := hid (show Turned sB vB w w2 from ⟨tu2.os.trans B2.out.os, tu2.tape.trans B2.out.tape, tu2.output.trans B2.out.output, Nat.le_trans B2.out.size tu2.size, fun x hx h1 h2 => (tu2.block x (Nat.lt_of_lt_of_le hx B2.out.size) h1 h2).trans (B2.out.block x hx)⟩)
      have hsz := B2.out.size
      obtain ⟨y0, y1, y2, y3, y4, y5, y6⟩ := D3.out.facts
      obtain ⟨z0, z1, z2, z3, z4⟩ := D3.out.more
      obtain ⟨r, hr⟩ : ∃ r, r = moveR t f c a b := ⟨_, rfl⟩
      rw [← hr] at TI g1 g2 ⊢
      have G := hid (And.intro g1 g2)
      have hlv2 := rg2.st.lt
      clear g1 g2 hr rg2 tu2 A1 A2 D1 D2
      go_wp2
      have f6 := D3.out.c6.set 0 (.slice (some ⟨bt, 0, none⟩) nt ct)
      have uu : uB = vB ∨ w.heap.size ≤ uB := by
        by_cases hz : r = 0
        · rcases (G.out.2 hz).1 with h | h
          · exact .inl h
          · exact .inr (Nat.le_trans hsz h)
        · exact .inl (G.out.1 hz).2
      have uc : w.heap.size + 1 + 1 ≠ uB := by
        by_cases hz : r = 0
        · rcases (G.out.2 hz).1 with h | h
          · omega
          · have := B1.out.size; simp at h; omega
        · have := (G.out.1 hz).2; omega
      refine bodyPost_ret (v := .tuple #[.agg #[.slice (some ⟨bt, 0, none⟩) nt ct], .bool (r == r')]) (by simp [results, Try.results30, go_sem, f6.cell]) rfl ?_
      exact Did.of TI.out TO.out.tiles (R3.out.set D3.out.c6 (by omega) uc (by decide) (by omega) 0 (.slice (some ⟨bt, 0, none⟩) nt ct)) (A3.out.set D3.out.c6 (.slice (some ⟨bt, 0, none⟩) nt ct)) ⟨T3.out.os, T3.out.tape, T3.out.output, by simpa [World.setCell] using T3.out.size, fun x hx h1 h2 => (Below.heap_setCell w2 ⟨w.heap.size + 1 + 1, 0, none⟩ (.slice (some ⟨bt, 0, none⟩) nt ct) x (by simp; omega)).trans (T3.out.block x hx h1 h2)⟩ uu (fun hz => (G.out.1 hz).1) (fun hz => (G.out.2 hz).2) RQ.out.1 RQ.out.2
  · subst hk
    as_aux_lemma =>
      go_wp2_with fail
      refine (pledge_rcalls _ (.agg #[.slice (some ⟨bs, 0, none⟩) ns cs]) xs (RV.out.below B0.out) hn1 l HL.out HR.out hln f c a b).mono ?_
      rintro e w1 ⟨r', v', ys, rfl, ra1, hb1, p0, p1, p2, p3⟩
      obtain ⟨bt, nt, ct, rfl⟩ := ra1.agg
      have TI := hid (pledge_tied TO.out p0 p1)
      have RQ := hid (And.intro p2 p3)
      have A1 := hid ra1
      have D1 := hid (D0.out.after hb1)
      have B1 := hid (B0.out.trans (hb1.mono B0.out.size))
      obtain ⟨y0, y1, y2, y3, y4, y5, y6⟩ := D1.out.facts
      obtain ⟨z0, z1, z2, z3, z4⟩ := D1.out.more
      clear hb1 p0 p1 p2 p3 ra1 D0
      go_wp2_with fail
      have A2 := hid (A1.out.set D1.out.c4 (.slice (some ⟨bt, 0, none⟩) nt ct))
      have D2 := hid (D1.out.set (.slice (some ⟨bt, 0, none⟩) nt ct))
      have B2 := hid (B1.out.setCell (p := ⟨w.heap.size, 0, none⟩) (Nat.le_refl _) (.slice (some ⟨bt, 0, none⟩) nt ct))
      have R2 := hid (RG.out.after hB B2.out)
      refine (pledge_reg R2.out (Nat.le_trans hB B2.out.size) hn2 HT.out f c a b).mono ?_
      rintro e w2 ⟨rfl, us, uB, rg2, tu2, g1, g2⟩
      have A3 := hid (A2.out.turned R2.out.st tu2)
      have D3 := hid (D2.out.turned tu2 hls hlv)
      have R3 := hid rg2
      have T3 := hid (show Turned sB vB w w2 from ⟨tu2.os.trans B2.out.os, tu2.tape.trans B2.out.tape, tu2.output.trans B2.out.output, Nat.le_trans B2.out.size tu2.size, fun x hx h1 h2 => (tu2.block x (Nat.lt_of_lt_of_le hx B2.out.size) h1 h2).trans (B2.out.block x hx)⟩)
      have hsz := B2.out.size
      obtain ⟨y0, y1, y2, y3, y4, y5, y6⟩ := D3.out.facts
      obtain ⟨z0, z1, z2, z3, z4⟩ := D3.out.more
      obtain ⟨r, hr⟩ : ∃ r, r = pledgeR t f c a b := ⟨_, rfl⟩
      rw [← hr] at TI g1 g2 ⊢
      have G := hid (And.intro g1 g2)
      have hlv2 := rg2.st.lt
      clear g1 g2 hr rg2 tu2 A1 A2 D1 D2
      go_wp2
      have f6 := D3.out.c6.set 0 (.slice (some ⟨bt, 0, none⟩) nt ct)
      have uu : uB = vB ∨ w.heap.size ≤ uB := by
        by_cases hz : r = 0
        · rcases (G.out.2 hz).1 with h | h
          · exact .inl h
          · exact .inr (Nat.le_trans hsz h)
        · exact .inl (G.out.1 hz).2
      have uc : w.heap.size + 1 + 1 ≠ uB := by
        by_cases hz : r = 0
        · rcases (G.out.2 hz).1 with h | h
          · omega
          · have := B1.out.size; simp at h; omega
        · have := (G.out.1 hz).2; omega
      refine bodyPost_ret (v := .tuple #[.agg #[.slice (some ⟨bt, 0, none⟩) nt ct], .bool (r == r')]) (by simp [results, Try.results30, go_sem, f6.cell]) rfl ?_
      exact Did.of TI.out TO.out.tiles (R3.out.set D3.out.c6 (by omega) uc (by decide) (by omega) 0 (.slice (some ⟨bt, 0, none⟩) nt ct)) (A3.out.set D3.out.c6 (.slice (some ⟨bt, 0, none⟩) nt ct)) ⟨T3.out.os, T3.out.tape, T3.out.output, by simpa [World.setCell] using T3.out.size, fun x hx h1 h2 => (Below.heap_setCell w2 ⟨w.heap.size + 1 + 1, 0, none⟩ (.slice (some ⟨bt, 0, none⟩) nt ct) x (by simp; omega)).trans (T3.out.block x hx h1 h2)⟩ uu (fun hz => (G.out.1 hz).1) (fun hz => (G.out.2 hz).2) RQ.out.1 RQ.out.2
  · subst hk
    as_aux_lemma =>
      go_wp2_with fail
      refine (release_rcalls _ (.agg #[.slice (some ⟨bs, 0, none⟩) ns cs]) xs (RV.out.below B0.out) hn1 l HL.out HR.out hln f c a).mono ?_
      rintro e w1 ⟨r', v', ys, rfl, ra1, hb1, p0, p1, p2, p3⟩
      obtain ⟨bt, nt, ct, rfl⟩ := ra1.agg
      have TI := hid (release_tied TO.out p0 p1)
      have RQ := hid (And.intro p2 p3)
      have A1 := hid ra1
      have D1 := hid (D0.out.after hb1)
      have B1 := hid (B0.out.trans (hb1.mono B0.out.size))
      obtain ⟨y0, y1, y2, y3, y4, y5, y6⟩ := D1.out.facts
      obtain ⟨z0, z1, z2, z3, z4⟩ := D1.out.more
      clear hb1 p0 p1 p2 p3 ra1 D0
      go_wp2_with fail
      have A2 := hid (A1.out.set D1.out.c4 (.slice (some ⟨bt, 0, none⟩) nt ct))
      have D2 := hid (D1.out.set (.slice (some ⟨bt, 0, none⟩) nt ct))
      have B2 := hid (B1.out.setCell (p := ⟨w.heap.size, 0, none⟩) (Nat.le_refl _) (.slice (some ⟨bt, 0, none⟩) nt ct))
      have R2 := hid (RG.out.after hB B2.out)
      refine (release_reg R2.out (Nat.le_trans hB B2.out.size) hn2 HT.out f c a).mono ?_
      rintro e w2 ⟨rfl, us, uB, rg2, tu2, g1, g2⟩
      have A3 := hid (A2.out.turned R2.out.st tu2)
      have D3 := hid (D2.out.turned tu2 hls hlv)
      have R3 := hid rg2
      have T3 := hid (show Turned sB vB w w2 from ⟨tu2.os.trans B2.out.os, tu2.tape.trans B2.out.tape, tu2.output.trans B2.out.output, Nat.le_trans B2.out.size tu2.size, fun x hx h1 h2 => (tu2.block x (Nat.lt_of_lt_of_le hx B2.out.size) h1 h2).trans (B2.out.block x hx)⟩)
      have hsz := B2.out.size
      obtain ⟨y0, y1, y2, y3, y4, y5, y6⟩ := D3.out.facts
      obtain ⟨z0, z1, z2, z3, z4⟩ := D3.out.more
      obtain ⟨r, hr⟩ : ∃ r, r = heldR t f c a := ⟨_, rfl⟩
      rw [← hr] at TI g1 g2 ⊢
      have G := hid (And.intro g1 g2)
      have hlv2 := rg2.st.lt
      clear g1 g2 hr rg2 tu2 A1 A2 D1 D2
      go_wp2
      have f6 := D3.out.c6.set 0 (.slice (some ⟨bt, 0, none⟩) nt ct)
      have uu : uB = vB ∨ w.heap.size ≤ uB := by
        by_cases hz : r = 0
        · rcases (G.out.2 hz).1 with h | h
          · exact .inl h
          · exact .inr (Nat.le_trans hsz h)
        · exact .inl (G.out.1 hz).2
      have uc : w.heap.size + 1 + 1 ≠ uB := by
        by_cases hz : r = 0
        · rcases (G.out.2 hz).1 with h | h
          · omega
          · have := B1.out.size; simp at h; omega
        · have := (G.out.1 hz).2; omega
      refine bodyPost_ret (v := .tuple #[.agg #[.slice (some ⟨bt, 0, none⟩) nt ct], .bool (r == r')]) (by simp [results, Try.results30, go_sem, f6.cell]) rfl ?_
      exact Did.of TI.out TO.out.tiles (R3.out.set D3.out.c6 (by omega) uc (by decide) (by omega) 0 (.slice (some ⟨bt, 0, none⟩) nt ct)) (A3.out.set D3.out.c6 (.slice (some ⟨bt, 0, none⟩) nt ct)) ⟨T3.out.os, T3.out.tape, T3.out.output, by simpa [World.setCell] using T3.out.size, fun x hx h1 h2 => (Below.heap_setCell w2 ⟨w.heap.size + 1 + 1, 0, none⟩ (.slice (some ⟨bt, 0, none⟩) nt ct) x (by simp; omega)).trans (T3.out.block x hx h1 h2)⟩ uu (fun hz => (G.out.1 hz).1) (fun hz => (G.out.2 hz).2) RQ.out.1 RQ.out.2
  · subst hk
    as_aux_lemma =>
      go_wp2_with fail
      refine (seize_rcalls _ (.agg #[.slice (some ⟨bs, 0, none⟩) ns cs]) xs (RV.out.below B0.out) hn1 l HL.out HR.out hln f c a).mono ?_
      rintro e w1 ⟨r', v', ys, rfl, ra1, hb1, p0, p1, p2, p3⟩
      obtain ⟨bt, nt, ct, rfl⟩ := ra1.agg
      have TI := hid (seize_tied TO.out p0 p1)
      have RQ := hid (And.intro p2 p3)
      have A1 := hid ra1
      have D1 := hid (D0.out.after hb1)
      have B1 := hid (B0.out.trans (hb1.mono B0.out.size))
      obtain ⟨y0, y1, y2, y3, y4, y5, y6⟩ := D1.out.facts
      obtain ⟨z0, z1, z2, z3, z4⟩ := D1.out.more
      clear hb1 p0 p1 p2 p3 ra1 D0
      go_wp2_with fail
      have A2 := hid (A1.out.set D1.out.c4 (.slice (some ⟨bt, 0, none⟩) nt ct))
      have D2 := hid (D1.out.set (.slice (some ⟨bt, 0, none⟩) nt ct))
      have B2 := hid (B1.out.setCell (p := ⟨w.heap.size, 0, none⟩) (Nat.le_refl _) (.slice (some ⟨bt, 0, none⟩) nt ct))
      have R2 := hid (RG.out.after hB B2.out)
      refine (seize_reg R2.out (Nat.le_trans hB B2.out.size) hn2 HT.out f c a).mono ?_
      rintro e w2 ⟨rfl, us, uB, rg2, tu2, g1, g2⟩
      have A3 := hid (A2.out.turned R2.out.st tu2)
      have D3 := hid (D2.out.turned tu2 hls hlv)
      have R3 := hid rg2
      have T3 := hid (show Turned sB vB w w2 from ⟨tu2.os.trans B2.out.os, tu2.tape.trans B2.out.tape, tu2.output.trans B2.out.output, Nat.le_trans B2.out.size tu2.size, fun x hx h1 h2 => (tu2.block x (Nat.lt_of_lt_of_le hx B2.out.size) h1 h2).trans (B2.out.block x hx)⟩)
      have hsz := B2.out.size
      obtain ⟨y0, y1, y2, y3, y4, y5, y6⟩ := D3.out.facts
      obtain ⟨z0, z1, z2, z3, z4⟩ := D3.out.more
      obtain ⟨r, hr⟩ : ∃ r, r = heldR t f c a := ⟨_, rfl⟩
      rw [← hr] at TI g1 g2 ⊢
      have G := hid (And.intro g1 g2)
      have hlv2 := rg2.st.lt
      clear g1 g2 hr rg2 tu2 A1 A2 D1 D2
      go_wp2
      have f6 := D3.out.c6.set 0 (.slice (some ⟨bt, 0, none⟩) nt ct)
      have uu : uB = vB ∨ w.heap.size ≤ uB := by
        by_cases hz : r = 0
        · rcases (G.out.2 hz).1 with h | h
          · exact .inl h
          · exact .inr (Nat.le_trans hsz h)
        · exact .inl (G.out.1 hz).2
      have uc : w.heap.size + 1 + 1 ≠ uB := by
        by_cases hz : r = 0
        · rcases (G.out.2 hz).1 with h | h
          · omega
          · have := B1.out.size; simp at h; omega
        · have := (G.out.1 hz).2; omega
      refine bodyPost_ret (v := .tuple #[.agg #[.slice (some ⟨bt, 0, none⟩) nt ct], .bool (r == r')]) (by simp [results, Try.results30, go_sem, f6.cell]) rfl ?_
      exact Did.of TI.out TO.out.tiles (R3.out.set D3.out.c6 (by omega) uc (by decide) (by omega) 0 (.slice (some ⟨bt, 0, none⟩) nt ct)) (A3.out.set D3.out.c6 (.slice (some ⟨bt, 0, none⟩) nt ct)) ⟨T3.out.os, T3.out.tape, T3.out.output, by simpa [World.setCell] using T3.out.size, fun x hx h1 h2 => (Below.heap_setCell w2 ⟨w.heap.size + 1 + 1, 0, none⟩ (.slice (some ⟨bt, 0, none⟩) nt ct) x (by simp; omega)).trans (T3.out.block x hx h1 h2)⟩ uu (fun hz => (G.out.1 hz).1) (fun hz => (G.out.2 hz).2) RQ.out.1 RQ.out.2
  · subst hk
    as_aux_lemma =>
      go_wp2_with fail
      refine (leave_rcalls _ (.agg #[.slice (some ⟨bs, 0, none⟩) ns cs]) xs (RV.out.below B0.out) hn1 l HL.out HR.out hln f c a).mono ?_
      rintro e w1 ⟨r', v', ys, rfl, ra1, hb1, p0, p1, p2, p3⟩
      obtain ⟨bt, nt, ct, rfl⟩ := ra1.agg
      have TI := hid (leave_tied TO.out p0 p1)
      have RQ := hid (And.intro p2 p3)
      have A1 := hid ra1
      have D1 := hid (D0.out.after hb1)
      have B1 := hid (B0.out.trans (hb1.mono B0.out.size))
      obtain ⟨y0, y1, y2, y3, y4, y5, y6⟩ := D1.out.facts
      obtain ⟨z0, z1, z2, z3, z4⟩ := D1.out.more
      clear hb1 p0 p1 p2 p3 ra1 D0
      go_wp2_with fail
      have A2 := hid (A1.out.set D1.out.c4 (.slice (some ⟨bt, 0, none⟩) nt ct))
      have D2 := hid (D1.out.set (.slice (some ⟨bt, 0, none⟩) nt ct))
      have B2 := hid (B1.out.setCell (p := ⟨w.heap.size, 0, none⟩) (Nat.le_refl _) (.slice (some ⟨bt, 0, none⟩) nt ct))
      have R2 := hid (RG.out.after hB B2.out)
      refine (leave_reg R2.out (Nat.le_trans hB B2.out.size) hn2 HT.out f c a).mono ?_
      rintro e w2 ⟨rfl, us, uB, rg2, tu2, g1, g2⟩
      have A3 := hid (A2.out.turned R2.out.st tu2)
      have D3 := hid (D2.out.turned tu2 hls hlv)
      have R3 := hid rg2
      have T3 := hid (show Turned sB vB w w2 from ⟨tu2.os.trans B2.out.os, tu2.tape.trans B2.out.tape, tu2.output.trans B2.out.output, Nat.le_trans B2.out.size tu2.size, fun x hx h1 h2 => (tu2.block x (Nat.lt_of_lt_of_le hx B2.out.size) h1 h2).trans (B2.out.block x hx)⟩)
      have hsz := B2.out.size
      obtain ⟨y0, y1, y2, y3, y4, y5, y6⟩ := D3.out.facts
      obtain ⟨z0, z1, z2, z3, z4⟩ := D3.out.more
      obtain ⟨r, hr⟩ : ∃ r, r = leaveR t f c a := ⟨_, rfl⟩
      rw [← hr] at TI g1 g2 ⊢
      have G := hid (And.intro g1 g2)
      have hlv2 := rg2.st.lt
      clear g1 g2 hr rg2 tu2 A1 A2 D1 D2
      go_wp2
      have f6 := D3.out.c6.set 0 (.slice (some ⟨bt, 0, none⟩) nt ct)
      have uu : uB = vB ∨ w.heap.size ≤ uB := by
        by_cases hz : r = 0
        · rcases (G.out.2 hz).1 with h | h
          · exact .inl h
          · exact .inr (Nat.le_trans hsz h)
        · exact .inl (G.out.1 hz).2
      have uc : w.heap.size + 1 + 1 ≠ uB := by
        by_cases hz : r = 0
        · rcases (G.out.2 hz).1 with h | h
          · omega
          · have := B1.out.size; simp at h; omega
        · have := (G.out.1 hz).2; omega
      refine bodyPost_ret (v := .tuple #[.agg #[.slice (some ⟨bt, 0, none⟩) nt ct], .bool (r == r')]) (by simp [results, Try.results30, go_sem, f6.cell]) rfl ?_
      exact Did.of TI.out TO.out.tiles (R3.out.set D3.out.c6 (by omega) uc (by decide) (by omega) 0 (.slice (some ⟨bt, 0, none⟩) nt ct)) (A3.out.set D3.out.c6 (.slice (some ⟨bt, 0, none⟩) nt ct)) ⟨T3.out.os, T3.out.tape, T3.out.output, by simpa [World.setCell] using T3.out.size, fun x hx h1 h2 => (Below.heap_setCell w2 ⟨w.heap.size + 1 + 1, 0, none⟩ (.slice (some ⟨bt, 0, none⟩) nt ct) x (by simp; omega)).trans (T3.out.block x hx h1 h2)⟩ uu (fun hz => (G.out.1 hz).1) (fun hz => (G.out.2 hz).2) RQ.out.1 RQ.out.2
end Go.Proofs.Ytnnbdjfeagcbdaa
namespace Go.Proofs.Ytnnbdjfeagcbdaa
set_option linter.unusedSimpArgs false
set_option linter.unusedVariables false
open Go.RowKit Go.Shelf
attribute [local go_sem] Oper.semAt_some

theorem run_cell {w wr : World} {b i : Nat} {r : Pc} (hb : Below w.heap.size w wr) (hl : b < w.heap.size) (h : w.cell? ⟨b, i * 6, none⟩ = some (Value.int .i64 r.from_) ∧ w.cell? ⟨b, i * 6 + 1, none⟩ = some (Value.int .i64 r.to) ∧ w.cell? ⟨b, i * 6 + 2, none⟩ = some (Value.int .i64 r.cell.state) ∧ w.cell? ⟨b, i * 6 + 3, none⟩ = some (Value.int .i64 r.cell.lot) ∧ w.cell? ⟨b, i * 6 + 4, none⟩ = some (Value.int .i64 r.cell.owner) ∧ w.cell? ⟨b, i * 6 + 5, none⟩ = some (Value.int .i64 r.cell.holder)) : wr.cell? ⟨b, i * 6, none⟩ = some (Value.int .i64 r.from_) ∧ wr.cell? ⟨b, i * 6 + 1, none⟩ = some (Value.int .i64 r.to) ∧ wr.cell? ⟨b, i * 6 + 2, none⟩ = some (Value.int .i64 r.cell.state) ∧ wr.cell? ⟨b, i * 6 + 3, none⟩ = some (Value.int .i64 r.cell.lot) ∧ wr.cell? ⟨b, i * 6 + 4, none⟩ = some (Value.int .i64 r.cell.owner) ∧ wr.cell? ⟨b, i * 6 + 5, none⟩ = some (Value.int .i64 r.cell.holder) := by
  obtain ⟨c0, c1, c2, c3, c4, c5⟩ := h
  exact ⟨(hb.cell (p := ⟨b, i * 6, none⟩) hl).trans c0, (hb.cell (p := ⟨b, i * 6 + 1, none⟩) hl).trans c1, (hb.cell (p := ⟨b, i * 6 + 2, none⟩) hl).trans c2, (hb.cell (p := ⟨b, i * 6 + 3, none⟩) hl).trans c3, (hb.cell (p := ⟨b, i * 6 + 4, none⟩) hl).trans c4, (hb.cell (p := ⟨b, i * 6 + 5, none⟩) hl).trans c5⟩

set_option maxRecDepth 100000 in
set_option maxHeartbeats 4000000 in
theorem at_rcalls (w : World) (v : Value) (l : List Pc) (hv : RunsV 0 w v l) (hl : l.length ≤ 1000000) (x : Int) :
    Calls Try.prog 76 #[v, .int .i64 x] w fun e w' => e = .returned (valL l x).val ∧ Below w.heap.size w w' := by
  obtain ⟨p, cap, b, rfl, hp, hc⟩ := hv.cells
  obtain ⟨n, hn⟩ : ∃ n, n = l.length := ⟨_, rfl⟩
  rw [← hn] at hp hl ⊢
  have HP := hid hp
  have HC := hid hc
  have HN := hid hn
  have C0 := hid (Cells.new w #[.int .i64 0, .int .i64 0, .int .i64 0, .int .i64 0] 88)
  have B0 := hid (show Below w.heap.size w (w.alloc (.cells #[.int .i64 0, .int .i64 0, .int .i64 0, .int .i64 0] 88)) from (Below.refl _ _).alloc (Nat.le_refl _) _)
  clear hp hc hn
  go_enter Try.func76, Try.ntmps76
  go_wp2_with fail
  go_loopg [5] n (fun k s5 wr => ∃ i : Nat, i + k = n ∧ s5 = .int .i64 i ∧ valL l x = valL (l.drop i) x ∧ Below w.heap.size w wr ∧ Cells wr w.heap.size #[.int .i64 0, .int .i64 0, .int .i64 0, .int .i64 0] 88)
  case atStart => exact ⟨0, by omega, rfl, rfl, B0.out, C0.out⟩
  case round =>
    obtain ⟨i, hik, rfl, hva, hb, hcc⟩ := hrel
    have HV := hid hva
    have HB := hid hb
    have CC := hid hcc
    have lz := hcc.lt
    have fz : ∀ j, wr.frozen? ⟨w.heap.size, j, none⟩ = false := fun j => hcc.frozen j
    have q0 : wr.cell? ⟨w.heap.size, 0, none⟩ = some (.int .i64 0) := by simp [hcc.cell]
    have q1 : wr.cell? ⟨w.heap.size, 1, none⟩ = some (.int .i64 0) := by simp [hcc.cell]
    have q2 : wr.cell? ⟨w.heap.size, 2, none⟩ = some (.int .i64 0) := by simp [hcc.cell]
    have q3 : wr.cell? ⟨w.heap.size, 3, none⟩ = some (.int .i64 0) := by simp [hcc.cell]
    by_cases hi : i < n
    · have hil : i < l.length := by rw [← HN.out]; exact hi
      obtain ⟨rfl, _, hbl⟩ := HP.out (by omega)
      obtain ⟨d0, d1, d2, d3, d4, d5⟩ := run_cell hb hbl (HC.out i hil)
      obtain ⟨r, hr⟩ : ∃ r, r = l[i] := ⟨_, rfl⟩
      rw [← hr] at d0 d1 d2 d3 d4 d5
      have DR := hid (show valL (l.drop i) x = if r.from_ ≤ x ∧ x ≤ r.to then r.cell else valL (l.drop (i + 1)) x by rw [List.drop_eq_getElem_cons hil, ← hr, valL])
      have i64 : IntKind.i64.wrap ((i : Int) + 1) = (i : Int) + 1 := IntWalk.i64_in _ (by omega)
      have g2 : decide ((i : Int) < (n : Int)) = true := by simpa using hi
      clear hr hb hcc hva
      by_cases h1 : r.from_ ≤ x
      · have g3 : decide (r.from_ ≤ x) = true := by simpa using h1
        by_cases h2 : x ≤ r.to
        · have g4 : decide (x ≤ r.to) = true := by simpa using h2
          have VE := hid (show valL l x = r.cell by rw [HV.out, DR.out, if_pos ⟨h1, h2⟩])
          clear h1 h2
          go_wp2
          have hs := (((CC.out.set 0 (.int .i64 r.cell.state)).set 1 (.int .i64 r.cell.lot)).set 2 (.int .i64 r.cell.owner)).set 3 (.int .i64 r.cell.holder)
          have bs := (((HB.out.setCell (p := ⟨w.heap.size, 0, none⟩) (Nat.le_refl _) (.int .i64 r.cell.state)).setCell (p := ⟨w.heap.size, 1, none⟩) (Nat.le_refl _) (.int .i64 r.cell.lot)).setCell (p := ⟨w.heap.size, 2, none⟩) (Nat.le_refl _) (.int .i64 r.cell.owner)).setCell (p := ⟨w.heap.size, 3, none⟩) (Nat.le_refl _) (.int .i64 r.cell.holder)
          refine bodyPost_ret (v := r.cell.val) (by simp [results, Try.results76, go_sem, hs.cell]) rfl ⟨by rw [VE.out], bs⟩
        · have g4 : decide (x ≤ r.to) = false := by simpa using h2
          have VE := hid (show valL l x = valL (l.drop (i + 1)) x by rw [HV.out, DR.out, if_neg (fun e => h2 e.2)])
          clear h1 h2
          go_wp2
          go_roundg (gk - 1)
          case measure => omega
          case rel => exact ⟨i + 1, by omega, rfl, VE.out, HB.out, CC.out⟩
      · have g3 : decide (r.from_ ≤ x) = false := by simpa using h1
        have VE := hid (show valL l x = valL (l.drop (i + 1)) x by rw [HV.out, DR.out, if_neg (fun e => h1 e.1)])
        clear h1
        go_wp2
        go_roundg (gk - 1)
        case measure => omega
        case rel => exact ⟨i + 1, by omega, rfl, VE.out, HB.out, CC.out⟩
    · have g2 : decide ((i : Int) < (n : Int)) = false := by simpa using hi
      have VE := hid (show valL l x = cl0 by rw [HV.out, List.drop_of_length_le (by have := HN.out; omega)]; rfl)
      clear hb hcc hva
      go_wp2
      have hs := (((CC.out.set 0 (.int .i64 0)).set 1 (.int .i64 0)).set 2 (.int .i64 0)).set 3 (.int .i64 0)
      have bs := (((HB.out.setCell (p := ⟨w.heap.size, 0, none⟩) (Nat.le_refl _) (.int .i64 0)).setCell (p := ⟨w.heap.size, 1, none⟩) (Nat.le_refl _) (.int .i64 0)).setCell (p := ⟨w.heap.size, 2, none⟩) (Nat.le_refl _) (.int .i64 0)).setCell (p := ⟨w.heap.size, 3, none⟩) (Nat.le_refl _) (.int .i64 0)
      refine bodyPost_ret (v := .agg #[.int .i64 0, .int .i64 0, .int .i64 0, .int .i64 0]) (by simp [results, Try.results76, go_sem, hs.cell]) rfl ⟨by rw [VE.out]; rfl, bs⟩

set_option maxRecDepth 100000 in
set_option maxHeartbeats 4000000 in
theorem rholds_calls (w : World) (v : Value) (l : List Pc) (hv : RunsV 0 w v l) (hl : l.length ≤ 1000000) (o : Int) :
    Calls Try.prog 79 #[v, .int .i64 o] w fun e w' => ∃ u, e = .returned u ∧ RunsV w.heap.size w' u (l.filter fun p => ownB o p.cell) ∧ Below w.heap.size w w' := by
  obtain ⟨i0, hi0, hz0, hz1, hz2⟩ := info_parts info_run
  obtain ⟨p, cap, b, rfl, hp, hc⟩ := hv.cells
  obtain ⟨n, hn⟩ : ∃ n, n = l.length := ⟨_, rfl⟩
  rw [← hn] at hp hl ⊢
  have HP := hid hp
  have HC := hid hc
  have HN := hid hn
  clear hp hc hn
  go_enter Try.func79, Try.ntmps79
  go_wp2_with fail
  go_loopg [5, 6] n (fun k s5 s6 wr => ∃ i : Nat, i + k = n ∧ s6 = .int .i64 i ∧ RunsV w.heap.size wr s5 ((l.take i).filter fun p => ownB o p.cell) ∧ Below w.heap.size w wr)
  case atStart => exact ⟨0, by omega, rfl, OwnE.nil _ _, Below.refl _ _⟩
  case round =>
    obtain ⟨i, hik, rfl, hu, hb⟩ := hrel
    have HU := hid hu
    have HB := hid hb
    have hsz := hb.size
    by_cases hi : i < n
    · have hil : i < l.length := by rw [← HN.out]; exact hi
      obtain ⟨rfl, _, hbl⟩ := HP.out (by omega)
      obtain ⟨d0, d1, d2, d3, d4, d5⟩ := run_cell hb hbl (HC.out i hil)
      obtain ⟨r, hr⟩ : ∃ r, r = l[i] := ⟨_, rfl⟩
      rw [← hr] at d0 d1 d2 d3 d4 d5
      have TK := hid (show (l.take (i + 1)).filter (fun p => ownB o p.cell) = (l.take i).filter (fun p => ownB o p.cell) ++ (if ownB o r.cell = true then [r] else []) by
        rw [List.take_succ_eq_append_getElem hil, List.filter_append, ← hr]
        congr 1
        by_cases hb : ownB o r.cell = true <;> simp [hb])
      have i64 : IntKind.i64.wrap ((i : Int) + 1) = (i : Int) + 1 := IntWalk.i64_in _ (by omega)
      have g2 : decide ((i : Int) < (n : Int)) = true := by simpa using hi
      obtain ⟨M, hM⟩ : ∃ M, M = (l.take i).filter (fun p => ownB o p.cell) := ⟨_, rfl⟩
      have hlM : M.length ≤ i := by
        rw [hM]
        have := List.length_filter_le (fun p : Pc => ownB o p.cell) (l.take i)
        rw [List.length_take] at this
        omega
      rw [← hM] at HU TK
      clear hr hb hu hM
      by_cases h1 : r.cell.state = 1
      · have g3 : (r.cell.state == 1) = true := by simpa using h1
        by_cases h2 : r.cell.owner = o
        · have g4 : (r.cell.owner == o) = true := by simpa using h2
          have TK2 := hid (show (l.take (i + 1)).filter (fun p => ownB o p.cell) = M ++ [r] by rw [TK.out, if_pos (by simp [ownB, h1, h2])])
          have O2 := hid (show (wr.alloc (.cells r.vals 90)).ownsRow w.heap.size 90 6 u5 M.length (flatE encP M) from HU.out.alloc _)
          clear h1 h2
          go_wp2_with (at_builtin; refine wpList_append_lies _ rfl (.tmp 30) (.tmp 35) 63 rfl w.heap.size 90 i0 _ 6 48 under_runs hi0 hz0 hz1 hz2 rfl (by decide) u5 M.length (flatE encP M) rfl O2.out ⟨wr.heap.size, 0, none⟩ 1 1 (encP r) rfl rfl ?a1 ?a2 (by decide) ?a3 ?a4 ?a5 _ rfl ?_)
          case a1 => first | exact news_of (Cells.new wr r.vals 90) | exact fun j u hu => hu
          case a2 => intro u hu; simp [encP] at hu; rcases hu with rfl | rfl | rfl | rfl | rfl | rfl <;> rfl
          case a3 => unfold maxLen; omega
          case a4 => omega
          case a5 => first | omega | (simp; omega)
          intro g1 cap1 w3 own1 gr1 at1 lt1
          have bb : Below w.heap.size w w3 := Below.grown (HB.out.alloc hsz _) gr1 (by simp; omega) (fun r h => (World.ownsRow.lt O2.out r h).1)
          have OW := hid (show RunsV w.heap.size w3 (.slice (some ⟨g1, 0, none⟩) (M.length + 1) cap1) (M ++ [r]) by unfold RunsV OwnE; rw [flatE_snoc, List.length_append]; exact own1)
          have BB := hid bb
          clear own1 gr1 at1 lt1 bb
          go_wp2
          go_roundg (gk - 1)
          case measure => omega
          case rel => exact ⟨i + 1, by omega, rfl, by rw [TK2.out]; exact OW.out, BB.out⟩
        · have g4 : (r.cell.owner == o) = false := by simpa using h2
          have TK2 := hid (show (l.take (i + 1)).filter (fun p => ownB o p.cell) = M by rw [TK.out, if_neg (by simp [ownB, h2]), List.append_nil])
          clear h1 h2
          go_wp2
          go_roundg (gk - 1)
          case measure => omega
          case rel => exact ⟨i + 1, by omega, rfl, by rw [TK2.out]; exact HU.out, HB.out⟩
      · have g3 : (r.cell.state == 1) = false := by simpa using h1
        have TK2 := hid (show (l.take (i + 1)).filter (fun p => ownB o p.cell) = M by rw [TK.out, if_neg (by simp [ownB, h1]), List.append_nil])
        clear h1
        go_wp2
        go_roundg (gk - 1)
        case measure => omega
        case rel => exact ⟨i + 1, by omega, rfl, by rw [TK2.out]; exact HU.out, HB.out⟩
    · have g2 : decide ((i : Int) < (n : Int)) = false := by simpa using hi
      rw [List.take_of_length_le (by have := HN.out; omega)] at HU
      clear hb hu
      go_wp2
      refine bodyPost_ret (v := u5) (by simp [results, Try.results79, go_sem]) rfl ⟨_, rfl, HU.out, HB.out⟩

set_option maxRecDepth 100000 in
set_option maxHeartbeats 4000000 in
theorem rpledged_calls (w : World) (v : Value) (l : List Pc) (hv : RunsV 0 w v l) (hl : l.length ≤ 1000000) (o : Int) :
    Calls Try.prog 80 #[v, .int .i64 o] w fun e w' => ∃ u, e = .returned u ∧ RunsV w.heap.size w' u (l.filter fun p => plgB o p.cell) ∧ Below w.heap.size w w' := by
  obtain ⟨i0, hi0, hz0, hz1, hz2⟩ := info_parts info_run
  obtain ⟨p, cap, b, rfl, hp, hc⟩ := hv.cells
  obtain ⟨n, hn⟩ : ∃ n, n = l.length := ⟨_, rfl⟩
  rw [← hn] at hp hl ⊢
  have HP := hid hp
  have HC := hid hc
  have HN := hid hn
  clear hp hc hn
  go_enter Try.func80, Try.ntmps80
  go_wp2_with fail
  go_loopg [5, 6] n (fun k s5 s6 wr => ∃ i : Nat, i + k = n ∧ s6 = .int .i64 i ∧ RunsV w.heap.size wr s5 ((l.take i).filter fun p => plgB o p.cell) ∧ Below w.heap.size w wr)
  case atStart => exact ⟨0, by omega, rfl, OwnE.nil _ _, Below.refl _ _⟩
  case round =>
    obtain ⟨i, hik, rfl, hu, hb⟩ := hrel
    have HU := hid hu
    have HB := hid hb
    have hsz := hb.size
    by_cases hi : i < n
    · have hil : i < l.length := by rw [← HN.out]; exact hi
      obtain ⟨rfl, _, hbl⟩ := HP.out (by omega)
      obtain ⟨d0, d1, d2, d3, d4, d5⟩ := run_cell hb hbl (HC.out i hil)
      obtain ⟨r, hr⟩ : ∃ r, r = l[i] := ⟨_, rfl⟩
      rw [← hr] at d0 d1 d2 d3 d4 d5
      have TK := hid (show (l.take (i + 1)).filter (fun p => plgB o p.cell) = (l.take i).filter (fun p => plgB o p.cell) ++ (if plgB o r.cell = true then [r] else []) by
        rw [List.take_succ_eq_append_getElem hil, List.filter_append, ← hr]
        congr 1
        by_cases hb : plgB o r.cell = true <;> simp [hb])
      have i64 : IntKind.i64.wrap ((i : Int) + 1) = (i : Int) + 1 := IntWalk.i64_in _ (by omega)
      have g2 : decide ((i : Int) < (n : Int)) = true := by simpa using hi
      obtain ⟨M, hM⟩ : ∃ M, M = (l.take i).filter (fun p => plgB o p.cell) := ⟨_, rfl⟩
      have hlM : M.length ≤ i := by
        rw [hM]
        have := List.length_filter_le (fun p : Pc => plgB o p.cell) (l.take i)
        rw [List.length_take] at this
        omega
      rw [← hM] at HU TK
      clear hr hb hu hM
      by_cases h1 : r.cell.state = 1
      · have g3 : (r.cell.state == 1) = true := by simpa using h1
        by_cases h2 : r.cell.holder = o
        · have g4 : (r.cell.holder == o) = true := by simpa using h2
          have TK2 := hid (show (l.take (i + 1)).filter (fun p => plgB o p.cell) = M ++ [r] by rw [TK.out, if_pos (by simp [plgB, h1, h2])])
          have O2 := hid (show (wr.alloc (.cells r.vals 90)).ownsRow w.heap.size 90 6 u5 M.length (flatE encP M) from HU.out.alloc _)
          clear h1 h2
          go_wp2_with (at_builtin; refine wpList_append_lies _ rfl (.tmp 30) (.tmp 35) 63 rfl w.heap.size 90 i0 _ 6 48 under_runs hi0 hz0 hz1 hz2 rfl (by decide) u5 M.length (flatE encP M) rfl O2.out ⟨wr.heap.size, 0, none⟩ 1 1 (encP r) rfl rfl ?a1 ?a2 (by decide) ?a3 ?a4 ?a5 _ rfl ?_)
          case a1 => first | exact news_of (Cells.new wr r.vals 90) | exact fun j u hu => hu
          case a2 => intro u hu; simp [encP] at hu; rcases hu with rfl | rfl | rfl | rfl | rfl | rfl <;> rfl
          case a3 => unfold maxLen; omega
          case a4 => omega
          case a5 => first | omega | (simp; omega)
          intro g1 cap1 w3 own1 gr1 at1 lt1
          have bb : Below w.heap.size w w3 := Below.grown (HB.out.alloc hsz _) gr1 (by simp; omega) (fun r h => (World.ownsRow.lt O2.out r h).1)
          have OW := hid (show RunsV w.heap.size w3 (.slice (some ⟨g1, 0, none⟩) (M.length + 1) cap1) (M ++ [r]) by unfold RunsV OwnE; rw [flatE_snoc, List.length_append]; exact own1)
          have BB := hid bb
          clear own1 gr1 at1 lt1 bb
          go_wp2
          go_roundg (gk - 1)
          case measure => omega
          case rel => exact ⟨i + 1, by omega, rfl, by rw [TK2.out]; exact OW.out, BB.out⟩
        · have g4 : (r.cell.holder == o) = false := by simpa using h2
          have TK2 := hid (show (l.take (i + 1)).filter (fun p => plgB o p.cell) = M by rw [TK.out, if_neg (by simp [plgB, h2]), List.append_nil])
          clear h1 h2
          go_wp2
          go_roundg (gk - 1)
          case measure => omega
          case rel => exact ⟨i + 1, by omega, rfl, by rw [TK2.out]; exact HU.out, HB.out⟩
      · have g3 : (r.cell.state == 1) = false := by simpa using h1
        have TK2 := hid (show (l.take (i + 1)).filter (fun p => plgB o p.cell) = M by rw [TK.out, if_neg (by simp [plgB, h1]), List.append_nil])
        clear h1
        go_wp2
        go_roundg (gk - 1)
        case measure => omega
        case rel => exact ⟨i + 1, by omega, rfl, by rw [TK2.out]; exact HU.out, HB.out⟩
    · have g2 : decide ((i : Int) < (n : Int)) = false := by simpa using hi
      rw [List.take_of_length_le (by have := HN.out; omega)] at HU
      clear hb hu
      go_wp2
      refine bodyPost_ret (v := u5) (by simp [results, Try.results80, go_sem]) rfl ⟨_, rfl, HU.out, HB.out⟩

set_option maxRecDepth 100000 in
set_option maxHeartbeats 4000000 in
theorem rcount_calls (w : World) (v : Value) (l : List Pc) (hv : RunsV 0 w v l) (hl : l.length ≤ 1000000) (hin : InR l) :
    Calls Try.prog 81 #[v] w fun e w' => e = .returned (.int .i64 (cntL l)) ∧ Below w.heap.size w w' := by
  obtain ⟨p, cap, b, rfl, hp, hc⟩ := hv.cells
  obtain ⟨n, hn⟩ : ∃ n, n = l.length := ⟨_, rfl⟩
  rw [← hn] at hp hl ⊢
  have HP := hid hp
  have HC := hid hc
  have HN := hid hn
  have HI := hid hin
  clear hp hc hn hin
  go_enter Try.func81, Try.ntmps81
  go_wp2_with fail
  go_loopg [3, 4] n (fun k s3 s4 wr => ∃ (i : Nat) (s : Int), i + k = n ∧ s4 = .int .i64 i ∧ s3 = .int .i64 s ∧ s + cntL (l.drop i) = cntL l ∧ -1000002 * (i : Int) ≤ s ∧ s ≤ 1000002 * (i : Int) ∧ Below w.heap.size w wr)
  case atStart => exact ⟨0, 0, by omega, rfl, rfl, by simp, by omega, by omega, Below.refl _ _⟩
  case round =>
    obtain ⟨i, s, hik, rfl, rfl, hsum, hs1, hs2, hb⟩ := hrel
    have HS := hid hsum
    have HB := hid hb
    by_cases hi : i < n
    · have hil : i < l.length := by rw [← HN.out]; exact hi
      obtain ⟨rfl, _, hbl⟩ := HP.out (by omega)
      obtain ⟨d0, d1, _⟩ := run_cell hb hbl (HC.out i hil)
      obtain ⟨r, hr⟩ : ∃ r, r = l[i] := ⟨_, rfl⟩
      rw [← hr] at d0 d1
      have DR := hid (show cntL (l.drop i) = (r.to - r.from_ + 1) + cntL (l.drop (i + 1)) by rw [List.drop_eq_getElem_cons hil, ← hr]; rfl)
      have hri := HI.out r (by rw [hr]; exact List.getElem_mem hil)
      have w1 : IntKind.i64.wrap (s + r.to) = s + r.to := IntWalk.i64_in _ (by omega)
      have w2 : IntKind.i64.wrap (s + r.to - r.from_) = s + r.to - r.from_ := IntWalk.i64_in _ (by omega)
      have w3 : IntKind.i64.wrap (s + r.to - r.from_ + 1) = s + r.to - r.from_ + 1 := IntWalk.i64_in _ (by omega)
      have i64 : IntKind.i64.wrap ((i : Int) + 1) = (i : Int) + 1 := IntWalk.i64_in _ (by omega)
      have g2 : decide ((i : Int) < (n : Int)) = true := by simpa using hi
      clear hr hb hsum
      go_wp2
      go_big_quiet (fail)
      go_wp2
      go_roundg (gk - 1)
      case measure => omega
      case rel => exact ⟨i + 1, _, by omega, rfl, rfl, by have := HS.out; have := DR.out; omega, by omega, by omega, drewN_below HB.out nq⟩
    · have g2 : decide ((i : Int) < (n : Int)) = false := by simpa using hi
      have FI := hid (show s = cntL l by have := HS.out; rw [List.drop_of_length_le (by have := HN.out; omega)] at this; simp [cntL] at this; exact this)
      clear hb hsum
      go_wp2
      refine bodyPost_ret (v := .int .i64 s) (by simp [results, Try.results81, go_sem]) rfl ⟨by rw [FI.out], HB.out⟩

def encZ (x : Int) : List Value := [.int .i64 x]
theorem encZ_len (x : Int) : (encZ x).length = 1 := rfl
/-- The members that occur, and one that does not. -/
def memL (l : List Pc) : List Int := 1000 :: l.flatMap fun p => [p.cell.owner, p.cell.holder]

set_option maxRecDepth 100000 in
set_option maxHeartbeats 4000000 in
theorem members_calls (w : World) (v : Value) (l : List Pc) (hv : RunsV 0 w v l) (hl : l.length ≤ 1000000) :
    Calls Try.prog 77 #[v] w fun e w' => ∃ u, e = .returned u ∧ OwnE encZ 1 3 w.heap.size w' u (memL l) ∧ Below w.heap.size w w' := by
  obtain ⟨i0, hi0, hz0, hz1, hz2⟩ := info_parts info_int
  obtain ⟨p, cap, b, rfl, hp, hc⟩ := hv.cells
  obtain ⟨n, hn⟩ : ∃ n, n = l.length := ⟨_, rfl⟩
  rw [← hn] at hp hl ⊢
  have HP := hid hp
  have HC := hid hc
  have HN := hid hn
  have O0 := hid (show OwnE encZ 1 3 w.heap.size (w.alloc (.cells #[.int .i64 1000] 3)) (.slice (some ⟨w.heap.size, 0, none⟩) 1 1) (memL (l.take 0)) from
    World.ownsRow_lit (base := w.heap.size) (size := 1) (e := 3) w #[.int .i64 1000] 1 (Nat.le_refl _) (by decide) rfl)
  have B0 := hid (show Below w.heap.size w (w.alloc (.cells #[.int .i64 1000] 3)) from (Below.refl _ _).alloc (Nat.le_refl _) _)
  clear hp hc hn
  go_enter Try.func77, Try.ntmps77
  go_wp2_with fail
  go_loopg [3, 4] n (fun k s3 s4 wr => ∃ i : Nat, i + k = n ∧ s4 = .int .i64 i ∧ OwnE encZ 1 3 w.heap.size wr s3 (memL (l.take i)) ∧ Below w.heap.size w wr)
  case atStart => exact ⟨0, by omega, rfl, O0.out, B0.out⟩
  case round =>
    obtain ⟨i, hik, rfl, hu, hb⟩ := hrel
    have HU := hid hu
    have HB := hid hb
    have hsz := hb.size
    by_cases hi : i < n
    · have hil : i < l.length := by rw [← HN.out]; exact hi
      obtain ⟨rfl, _, hbl⟩ := HP.out (by omega)
      obtain ⟨r, hr⟩ : ∃ r, r = l[i] := ⟨_, rfl⟩
      have cells := hid (fun (wx : World) (hx : Below w.heap.size w wx) => run_cell hx hbl (HC.out i hil))
      rw [← hr] at cells
      obtain ⟨_, _, d2, d3, d4, d5⟩ := cells.out wr hb
      have TK := hid (show memL (l.take (i + 1)) = (memL (l.take i) ++ [r.cell.owner]) ++ [r.cell.holder] by
        unfold memL
        rw [List.take_succ_eq_append_getElem hil, List.flatMap_append, ← hr]
        simp)
      have LM := hid (show (memL (l.take i)).length ≤ 2 * i + 1 by
        have key : ∀ m : List Pc, (memL m).length = 2 * m.length + 1 := by
          intro m
          induction m with
          | nil => rfl
          | cons x m ih => simp [memL] at ih ⊢; omega
        rw [key, List.length_take]; omega)
      have i64 : IntKind.i64.wrap ((i : Int) + 1) = (i : Int) + 1 := IntWalk.i64_in _ (by omega)
      have g2 : decide ((i : Int) < (n : Int)) = true := by simpa using hi
      obtain ⟨M, hM⟩ : ∃ M, M = memL (l.take i) := ⟨_, rfl⟩
      rw [← hM] at HU TK LM
      have hlM := LM.out
      have O2 := hid (show (wr.alloc (.cells #[.int .i64 r.cell.owner] 3)).ownsRow w.heap.size 3 1 u3 M.length (flatE encZ M) from HU.out.alloc _)
      clear hr hb hu hM d2 d3 d5
      go_wp2_with (at_builtin; refine wpList_append_lies _ rfl (.tmp 12) (.tmp 19) 23 rfl w.heap.size 3 i0 _ 1 8 under_ints hi0 hz0 hz1 hz2 rfl (by decide) u3 M.length (flatE encZ M) rfl O2.out ⟨wr.heap.size, 0, none⟩ 1 1 (encZ r.cell.owner) rfl rfl ?a1 ?a2 (by decide) ?a3 ?a4 ?a5 _ rfl ?_)
      case a1 => first | exact news_of (Cells.new wr #[.int .i64 r.cell.owner] 3) | exact fun j u hu => hu
      case a2 => intro u hu; simp [encZ] at hu; rw [hu]; rfl
      case a3 => unfold maxLen; omega
      case a4 => omega
      case a5 => first | omega | (simp; omega)
      intro g1 cap1 w3 own1 gr1 at1 lt1
      have bb : Below w.heap.size w w3 := Below.grown (HB.out.alloc hsz _) gr1 (by simp; omega) (fun r h => (World.ownsRow.lt O2.out r h).1)
      have OW := hid (show OwnE encZ 1 3 w.heap.size w3 (.slice (some ⟨g1, 0, none⟩) (M.length + 1) cap1) (M ++ [r.cell.owner]) by unfold OwnE; rw [flatE_snoc, List.length_append]; exact own1)
      have BB := hid bb
      have hsz3 := bb.size
      obtain ⟨_, _, _, _, _, d5⟩ := cells.out w3 bb
      have O3 := hid (show (w3.alloc (.cells #[.int .i64 r.cell.holder] 3)).ownsRow w.heap.size 3 1 (.slice (some ⟨g1, 0, none⟩) (M.length + 1) cap1) (M.length + 1) (flatE encZ (M ++ [r.cell.owner])) by
        have := OW.out.alloc (.cells #[.int .i64 r.cell.holder] 3)
        unfold OwnE at this
        rwa [List.length_append] at this)
      clear own1 gr1 at1 lt1 bb d4
      go_wp2_with (at_builtin; refine wpList_append_lies _ rfl (.tmp 21) (.tmp 28) 23 rfl w.heap.size 3 i0 _ 1 8 under_ints hi0 hz0 hz1 hz2 rfl (by decide) (.slice (some ⟨g1, 0, none⟩) (M.length + 1) cap1) (M.length + 1) (flatE encZ (M ++ [r.cell.owner])) rfl O3.out ⟨w3.heap.size, 0, none⟩ 1 1 (encZ r.cell.holder) rfl rfl ?b1 ?b2 (by decide) ?b3 ?b4 ?b5 _ rfl ?_)
      case b1 => first | exact news_of (Cells.new w3 #[.int .i64 r.cell.holder] 3) | exact fun j u hu => hu
      case b2 => intro u hu; simp [encZ] at hu; rw [hu]; rfl
      case b3 => unfold maxLen; omega
      case b4 => omega
      case b5 => first | omega | (simp; omega)
      intro g2' cap2 w4 own2 gr2 at2 lt2
      have bb : Below w.heap.size w w4 := Below.grown (BB.out.alloc hsz3 _) gr2 (by simp; omega) (fun r h => (World.ownsRow.lt O3.out r h).1)
      have OW4 := hid (show OwnE encZ 1 3 w.heap.size w4 (.slice (some ⟨g2', 0, none⟩) (M.length + 1 + 1) cap2) ((M ++ [r.cell.owner]) ++ [r.cell.holder]) by unfold OwnE; rw [flatE_snoc, List.length_append, List.length_append]; exact own2)
      have B4 := hid bb
      clear own2 gr2 at2 lt2 bb
      go_wp2
      go_roundg (gk - 1)
      case measure => omega
      case rel => exact ⟨i + 1, by omega, rfl, by rw [TK.out]; exact OW4.out, B4.out⟩
    · have g2 : decide ((i : Int) < (n : Int)) = false := by simpa using hi
      rw [List.take_of_length_le (by have := HN.out; omega)] at HU
      clear hb hu
      go_wp2
      refine bodyPost_ret (v := u3) (by simp [results, Try.results77, go_sem]) rfl ⟨_, rfl, HU.out, HB.out⟩
end Go.Proofs.Ytnnbdjfeagcbdaa
namespace Go.Proofs.Ytnnbdjfeagcbdaa
set_option linter.unusedSimpArgs false
set_option linter.unusedVariables false
open Go.RowKit Go.Shelf
attribute [local go_sem] Oper.semAt_some

theorem HoldsV.cells {B : Nat} {w : World} {v : Value} {l : List Pc} (h : OwnE encH 5 50 B w v l) : ∃ p cap b, v = .slice p l.length cap ∧ (0 < l.length → p = some ⟨b, 0, none⟩ ∧ B ≤ b ∧ b < w.heap.size) ∧
    ∀ (k : Nat) (hk : k < l.length), w.cell? ⟨b, k * 5, none⟩ = some (.int .i64 l[k].from_) ∧ w.cell? ⟨b, k * 5 + 1, none⟩ = some (.int .i64 (l[k].to - l[k].from_ + 1)) ∧ w.cell? ⟨b, k * 5 + 2, none⟩ = some (.int .i64 l[k].cell.lot) ∧ w.cell? ⟨b, k * 5 + 3, none⟩ = some (.int .i64 l[k].cell.owner) ∧ w.cell? ⟨b, k * 5 + 4, none⟩ = some (.int .i64 l[k].cell.holder) := by
  rcases h.2 with ⟨h1, h2⟩ | ⟨g, cap, cur, hv, hb, hg, h3⟩
  · exact ⟨none, 0, 0, by rw [h1, h2], fun h0 => by omega, fun k hk => by omega⟩
  · subst hv
    have key : ∀ (k : Nat) (hk : k < l.length) (j : Nat), j < 5 → w.cell? ⟨g, k * 5 + j, none⟩ = (encH l[k])[j]? := fun k hk j hj => by
      rw [World.ownsRow.cellAt h _ (by have : k * 5 + 5 ≤ l.length * 5 := by { rw [← Nat.succ_mul]; exact Nat.mul_le_mul_right _ hk }; omega), flatE_get encH_len l k hk j hj]
    refine ⟨_, cap, g, rfl, fun _ => ⟨rfl, hb, (Array.getElem?_eq_some_iff.1 hg).1⟩, fun k hk => ?_⟩
    have k0 := key k hk 0 (by omega)
    have k1 := key k hk 1 (by omega)
    have k2 := key k hk 2 (by omega)
    have k3 := key k hk 3 (by omega)
    have k4 := key k hk 4 (by omega)
    simp [encH] at k0 k1 k2 k3 k4
    exact ⟨k0, k1, k2, k3, k4⟩

set_option maxRecDepth 100000 in
set_option maxHeartbeats 4000000 in
theorem holds_same (w : World) (u v : Value) (l : List Pc) (hu : OwnE encH 5 50 0 w u l) (hv : RunsV 0 w v l) (hl : l.length ≤ 1000000) (hin : InR l) :
    Calls Try.prog 78 #[u, v] w fun e w' => e = .returned (.bool true) ∧ Below w.heap.size w w' := by
  obtain ⟨p, cap, b, rfl, hp, hc⟩ := hv.cells
  obtain ⟨p2, cap2, b2, rfl, hp2, hc2⟩ := HoldsV.cells hu
  obtain ⟨n, hn⟩ : ∃ n, n = l.length := ⟨_, rfl⟩
  rw [← hn] at hp hp2 hl ⊢
  have HP := hid hp
  have HC := hid hc
  have HP2 := hid hp2
  have HC2 := hid hc2
  have HN := hid hn
  have HI := hid hin
  clear hp hc hn hin hp2 hc2 hu hv
  go_enter Try.func78, Try.ntmps78
  go_wp2_with fail
  go_loopg [5] n (fun k s5 wr => ∃ i : Nat, i + k = n ∧ s5 = .int .i64 i ∧ Below w.heap.size w wr)
  case atStart => exact ⟨0, by omega, rfl, Below.refl _ _⟩
  case round =>
    obtain ⟨i, hik, rfl, hb⟩ := hrel
    have HB := hid hb
    have hsz := hb.size
    by_cases hi : i < n
    · have hil : i < l.length := by rw [← HN.out]; exact hi
      obtain ⟨rfl, _, hbl⟩ := HP.out (by omega)
      obtain ⟨rfl, _, hbl2⟩ := HP2.out (by omega)
      obtain ⟨d0, d1, d2, d3, d4, d5⟩ := run_cell hb hbl (HC.out i hil)
      obtain ⟨c0, c1, c2, c3, c4⟩ := HC2.out i hil
      obtain ⟨r, hr⟩ : ∃ r, r = l[i] := ⟨_, rfl⟩
      rw [← hr] at d0 d1 d2 d3 d4 d5 c0 c1 c2 c3 c4
      have hri := HI.out r (by rw [hr]; exact List.getElem_mem hil)
      obtain ⟨C, hC⟩ : ∃ C, C = r.to - r.from_ + 1 := ⟨_, rfl⟩
      rw [← hC] at c1
      have e0 : wr.cell? ⟨b2, i * 5, none⟩ = some (.int .i64 r.from_) := (hb.cell (p := ⟨b2, i * 5, none⟩) hbl2).trans c0
      have e1 : wr.cell? ⟨b2, i * 5 + 1, none⟩ = some (.int .i64 C) := (hb.cell (p := ⟨b2, i * 5 + 1, none⟩) hbl2).trans c1
      have e2 : wr.cell? ⟨b2, i * 5 + 2, none⟩ = some (.int .i64 r.cell.lot) := (hb.cell (p := ⟨b2, i * 5 + 2, none⟩) hbl2).trans c2
      have e3 : wr.cell? ⟨b2, i * 5 + 3, none⟩ = some (.int .i64 r.cell.owner) := (hb.cell (p := ⟨b2, i * 5 + 3, none⟩) hbl2).trans c3
      have e4 : wr.cell? ⟨b2, i * 5 + 4, none⟩ = some (.int .i64 r.cell.holder) := (hb.cell (p := ⟨b2, i * 5 + 4, none⟩) hbl2).trans c4
      have l1 : b2 < wr.heap.size := Nat.lt_of_lt_of_le hbl2 hsz
      have w1 : IntKind.i64.wrap (r.to - r.from_) = r.to - r.from_ := IntWalk.i64_in _ (by omega)
      have w2 : IntKind.i64.wrap (r.to - r.from_ + 1) = C := by rw [IntWalk.i64_in _ (by omega)]; exact hC.symm
      have i64 : IntKind.i64.wrap ((i : Int) + 1) = (i : Int) + 1 := IntWalk.i64_in _ (by omega)
      have g2 : decide ((i : Int) < (n : Int)) = true := by simpa using hi
      have BA := hid (HB.out.alloc hsz (.cells r.vals 90))
      clear hr hb hC c0 c1 c2 c3 c4
      go_wp2
      go_big_quiet (fail)
      go_wp2
      go_roundg (gk - 1)
      case measure => omega
      case rel => exact ⟨i + 1, by omega, rfl, drewN_below BA.out nq⟩
    · have g2 : decide ((i : Int) < (n : Int)) = false := by simpa using hi
      clear hb
      go_wp2
      refine bodyPost_ret (v := .bool true) (by simp [results, Try.results78, go_sem]) rfl ⟨rfl, HB.out⟩
end Go.Proofs.Ytnnbdjfeagcbdaa
namespace Go.Proofs.Ytnnbdjfeagcbdaa
set_option linter.unusedSimpArgs false
set_option linter.unusedVariables false
open Go.RowKit Go.Shelf

theorem inT_own (t : T) (o : Int) : (inT t).filter (fun p => ownB o p.cell) = t.toList.filter fun p => ownB o p.cell := by
  unfold inT inL
  rw [List.filter_filter]
  congr 1
  funext p
  unfold ownB
  by_cases h : p.cell.state = 1 <;> simp [h]
theorem inT_plg (t : T) (o : Int) : (inT t).filter (fun p => plgB o p.cell) = t.toList.filter fun p => plgB o p.cell := by
  unfold inT inL
  rw [List.filter_filter]
  congr 1
  funext p
  unfold plgB
  by_cases h : p.cell.state = 1 <;> simp [h]
theorem inB_false {m x : Int} (h : ¬ (1 ≤ x ∧ x ≤ m)) : inB m x = false := by rw [Bool.eq_false_iff]; exact fun e => h (inB_range e)
theorem inB_true {m x : Int} (h : 1 ≤ x ∧ x ≤ m) : inB m x = true := by simp only [inB, Bool.and_eq_true, decide_eq_true_eq]; exact h
theorem ver_lt {vs : List T} {ver : Nat} {t : T} (ht : vs[ver]? = some t) : ver < vs.length := (List.getElem?_eq_some_iff.1 ht).1
theorem ver_get {vs : List T} {ver : Nat} {t : T} (ht : vs[ver]? = some t) : vs[((ver : Int)).toNat]?.getD .nil = t := by rw [Int.toNat_natCast, ht]; rfl
theorem ver_tr {B : Nat} {W w : World} {sB vB : Nat} {vs : List T} (h : Reg B W w sB vB vs) {ver : Nat} {t : T} (ht : vs[ver]? = some t) : TrOk t := h.tr (List.mem_of_getElem? ht)
theorem ver_in {vs : List T} {ver : Nat} {t : T} (ht : vs[ver]? = some t) : atE vs.length (ver : Int) true = 0 := by
  have := ver_lt ht
  unfold atE; rw [if_neg (by omega), if_pos rfl]
theorem ver_out {vs : List T} {ver : Nat} {t : T} (ht : vs[ver]? = some t) : atE vs.length (ver : Int) false = 1 := by
  have := ver_lt ht
  unfold atE; rw [if_neg (by omega), if_neg (by simp)]
section
variable {B : Nat} {W w : World} {sB vB : Nat} {vs : List T} (h : Reg B W w sB vB vs) (hn : vs.length ≤ 1000) {ver : Nat} {t : T} (ht : vs[ver]? = some t)
include h hn ht
theorem pocket_ver (x : Int) (hx : 1 ≤ x ∧ x ≤ 1000000) : Calls Try.prog 28 #[.pointer (some ⟨sB, 0, none⟩), .int .i64 x, .int .i64 ver] w
    fun e w' => e = .returned (.tuple #[(valL (inT t) x).val, .int .i64 0]) ∧ Below w.heap.size w w' := by
  have tr := ver_tr h ht
  refine (Pocket_calls w sB vB vs h.st hn h.fine x (ver : Int)).mono ?_
  rintro e w' ⟨he, hb⟩
  rw [inB_true hx, ver_in ht, pocC, if_pos rfl, ver_get ht, visL_eq _ _ _ tr.fine.sorted, endC_visP tr.tiles hx.1 hx.2, ← tr.val] at he
  exact ⟨he, hb⟩
theorem pocket_out (x : Int) (hx : ¬ (1 ≤ x ∧ x ≤ 1000000)) : Calls Try.prog 28 #[.pointer (some ⟨sB, 0, none⟩), .int .i64 x, .int .i64 ver] w
    fun e w' => e = .returned (.tuple #[(⟨0, 0, 0, 0⟩ : Cl).val, .int .i64 1]) ∧ Below w.heap.size w w' := by
  refine (Pocket_calls w sB vB vs h.st hn h.fine x (ver : Int)).mono ?_
  rintro e w' ⟨he, hb⟩
  rw [inB_false hx, ver_out ht, pocC, if_neg (by decide)] at he
  exact ⟨he, hb⟩
theorem holds_ver (o : Int) (ho : 1 ≤ o ∧ o ≤ 1000) : Calls Try.prog 26 #[.pointer (some ⟨sB, 0, none⟩), .int .i64 o, .int .i64 ver] w
    fun e w' => ∃ u, e = .returned (.tuple #[u, .int .i64 0]) ∧ OwnE encH 5 50 w.heap.size w' u ((inT t).filter fun p => ownB o p.cell) ∧ Below w.heap.size w w' := by
  have tr := ver_tr h ht
  refine (Holds_calls w sB vB vs h.st hn h.fine o (ver : Int)).mono ?_
  rintro e w' ⟨u, he, ho', hb⟩
  rw [inB_true ho, ver_in ht] at he ho'
  rw [askL, if_pos rfl, ver_get ht, allP_filter (ownB o) tr.tiles tr.canon, ← inT_own] at ho'
  exact ⟨u, he, ho', hb⟩
theorem holds_out (o : Int) (ho : ¬ (1 ≤ o ∧ o ≤ 1000)) : Calls Try.prog 26 #[.pointer (some ⟨sB, 0, none⟩), .int .i64 o, .int .i64 ver] w
    fun e w' => ∃ u, e = .returned (.tuple #[u, .int .i64 1]) ∧ Below w.heap.size w w' := by
  refine (Holds_calls w sB vB vs h.st hn h.fine o (ver : Int)).mono ?_
  rintro e w' ⟨u, he, ho', hb⟩
  rw [inB_false ho, ver_out ht] at he
  exact ⟨u, he, hb⟩
theorem pledged_ver (o : Int) (ho : 1 ≤ o ∧ o ≤ 1000) : Calls Try.prog 34 #[.pointer (some ⟨sB, 0, none⟩), .int .i64 o, .int .i64 ver] w
    fun e w' => ∃ u, e = .returned (.tuple #[u, .int .i64 0]) ∧ OwnE encH 5 50 w.heap.size w' u ((inT t).filter fun p => plgB o p.cell) ∧ Below w.heap.size w w' := by
  have tr := ver_tr h ht
  refine (Pledged_calls w sB vB vs h.st hn h.fine o (ver : Int)).mono ?_
  rintro e w' ⟨u, he, ho', hb⟩
  rw [inB_true ho, ver_in ht] at he ho'
  rw [askL, if_pos rfl, ver_get ht, allP_filter (plgB o) tr.tiles tr.canon, ← inT_plg] at ho'
  exact ⟨u, he, ho', hb⟩
theorem pledged_out (o : Int) (ho : ¬ (1 ≤ o ∧ o ≤ 1000)) : Calls Try.prog 34 #[.pointer (some ⟨sB, 0, none⟩), .int .i64 o, .int .i64 ver] w
    fun e w' => ∃ u, e = .returned (.tuple #[u, .int .i64 1]) ∧ Below w.heap.size w w' := by
  refine (Pledged_calls w sB vB vs h.st hn h.fine o (ver : Int)).mono ?_
  rintro e w' ⟨u, he, ho', hb⟩
  rw [inB_false ho, ver_out ht] at he
  exact ⟨u, he, hb⟩
theorem count_ver (o : Int) (ho : 1 ≤ o ∧ o ≤ 1000) : Calls Try.prog 27 #[.pointer (some ⟨sB, 0, none⟩), .int .i64 o, .int .i64 ver] w
    fun e w' => e = .returned (.tuple #[.int .i64 (cntL ((inT t).filter fun p => ownB o p.cell)), .int .i64 0]) ∧ Below w.heap.size w w' := by
  have tr := ver_tr h ht
  refine (Count_calls w sB vB vs h.st hn h.fine o (ver : Int)).mono ?_
  rintro e w' ⟨he, hb⟩
  rw [inB_true ho, ver_in ht, askL, if_pos rfl, ver_get ht, allP_filter (ownB o) tr.tiles tr.canon, ← inT_own] at he
  exact ⟨he, hb⟩
theorem count_out (o : Int) (ho : ¬ (1 ≤ o ∧ o ≤ 1000)) : Calls Try.prog 27 #[.pointer (some ⟨sB, 0, none⟩), .int .i64 o, .int .i64 ver] w
    fun e w' => (∃ n, e = .returned (.tuple #[.int .i64 n, .int .i64 1])) ∧ Below w.heap.size w w' := by
  refine (Count_calls w sB vB vs h.st hn h.fine o (ver : Int)).mono ?_
  rintro e w' ⟨he, hb⟩
  rw [inB_false ho, ver_out ht] at he
  exact ⟨⟨_, he⟩, hb⟩
end
/-- Members that occur are from 0 to 1000. -/
theorem mem_range {t : T} (tr : TrOk t) (hb : Bc t) : ∀ x ∈ memL (inT t), 0 ≤ x ∧ x ≤ 1000 := by
  intro x hx
  rcases List.mem_cons.1 hx with rfl | hx
  · omega
  · obtain ⟨p, hp, h1⟩ := List.mem_flatMap.1 hx
    have gp := (tr.runs.good p hp).le
    have hv := tr.runs.val p hp p.from_ (by omega) (by omega)
    rw [tr.val] at hv
    have := hb p.from_
    rw [hv] at this
    unfold BC at this
    simp only [List.mem_cons, List.not_mem_nil, or_false] at h1
    rcases h1 with rfl | rfl <;> omega
end Go.Proofs.Ytnnbdjfeagcbdaa
namespace Go.Proofs.Ytnnbdjfeagcbdaa
set_option linter.unusedSimpArgs false
set_option linter.unusedVariables false
open Go.RowKit Go.Shelf
attribute [local go_sem] Oper.semAt_some

theorem four_at (a b c d : Int) (hr : (-1 ≤ a ∧ a ≤ 1000001) ∧ (-1 ≤ b ∧ b ≤ 1000001) ∧ (-1 ≤ c ∧ c ≤ 1000001) ∧ (-1 ≤ d ∧ d ≤ 1000001)) (j : Nat) (hj : j < 4) : ∃ x : Int, (#[Value.int .i64 a, .int .i64 b, .int .i64 c, .int .i64 d] : Array Value)[j]? = some (.int .i64 x) ∧ -1 ≤ x ∧ x ≤ 1000001 := by
  have : j = 0 ∨ j = 1 ∨ j = 2 ∨ j = 3 := by omega
  rcases this with rfl | rfl | rfl | rfl
  · exact ⟨a, rfl, hr.1⟩
  · exact ⟨b, rfl, hr.2.1⟩
  · exact ⟨c, rfl, hr.2.2.1⟩
  · exact ⟨d, rfl, hr.2.2.2⟩

theorem IntsV.cells {B : Nat} {w : World} {v : Value} {l : List Int} (h : OwnE encZ 1 3 B w v l) : ∃ p cap b, v = .slice p l.length cap ∧ (0 < l.length → p = some ⟨b, 0, none⟩ ∧ B ≤ b ∧ b < w.heap.size) ∧ ∀ (k : Nat) (hk : k < l.length), w.cell? ⟨b, k, none⟩ = some (.int .i64 l[k]) := by
  rcases h.2 with ⟨h1, h2⟩ | ⟨g, cap, cur, hv, hb, hg, h3⟩
  · exact ⟨none, 0, 0, by rw [h1, h2], fun h0 => by omega, fun k hk => by omega⟩
  · subst hv
    refine ⟨_, cap, g, rfl, fun _ => ⟨rfl, hb, (Array.getElem?_eq_some_iff.1 hg).1⟩, fun k hk => ?_⟩
    have h4 := World.ownsRow.cellAt h k (by omega)
    have h5 := flatE_get encZ_len l k hk 0 (by omega)
    rw [h4]
    simpa [encZ] using h5
theorem filter_in {l : List Pc} (h : InR l) (q : Pc → Bool) : InR (l.filter q) := fun p hp => h p (List.mem_filter.1 hp).1

set_option maxRecDepth 100000 in
set_option maxHeartbeats 8000000 in
theorem shows_calls {B : Nat} {W w : World} {sB vB : Nat} {vs : List T} (h : Reg B W w sB vB vs) (hB : B ≤ w.heap.size) (hn : vs.length ≤ 1000) {ver : Nat} {t : T} (ht : vs[ver]? = some t) (hbc : Bc t) (v : Value) (hv : RunsV 0 w v (inT t)) :
    Calls Try.prog 31 #[.pointer (some ⟨sB, 0, none⟩), .int .i64 ver, v] w fun e w' => e = .returned (.bool true) ∧ Below w.heap.size w w' := by
  have tr := ver_tr h ht
  have RG := hid h
  have HT := hid ht
  have MR := hid (mem_range tr hbc)
  have HR := hid tr.runs
  have hl := tr.short
  have HV := hid hv
  obtain ⟨L, hL⟩ : ∃ L, L = inT t := ⟨_, rfl⟩
  have HL := hid hL
  rw [← hL] at HV HR hl hv MR
  obtain ⟨p, cap, b, rfl, hp, hc⟩ := hv.cells
  obtain ⟨n, hnn⟩ : ∃ n, n = L.length := ⟨_, rfl⟩
  rw [← hnn] at hp hl ⊢
  have HP := hid hp
  have HC := hid hc
  have HN := hid hnn
  rw [← hnn] at HV
  clear hp hc hnn hL h ht hbc tr hv
  go_enter Try.func31, Try.ntmps31
  go_upto_block 0 with fail
  go_cut [7] (fun s7 wx => Below w.heap.size w wx)
  case first =>
    go_wp2_with fail
    go_loopg [7] n (fun k s7 wr => ∃ i : Nat, i + k = n ∧ s7 = .int .i64 i ∧ Below w.heap.size w wr)
    case atStart => exact ⟨0, by omega, rfl, Below.refl _ _⟩
    case round =>
      obtain ⟨i, hik, rfl, hb⟩ := hrel
      have HB := hid hb
      by_cases hi : i < n
      · have hil : i < L.length := by rw [← HN.out]; exact hi
        obtain ⟨rfl, _, hbl⟩ := HP.out (by omega)
        obtain ⟨d0, d1, _⟩ := run_cell hb hbl (HC.out i hil)
        obtain ⟨r, hr⟩ : ∃ r, r = L[i] := ⟨_, rfl⟩
        rw [← hr] at d0 d1
        have gr := (HR.out.good r (by rw [hr]; exact List.getElem_mem hil)).le
        have w1 : IntKind.i64.wrap (r.from_ - 1) = r.from_ - 1 := IntWalk.i64_in _ (by omega)
        have w2 : IntKind.i64.wrap (r.to + 1) = r.to + 1 := IntWalk.i64_in _ (by omega)
        have w3 : IntKind.i64.wrap ((i : Int) + 1) = (i : Int) + 1 := IntWalk.i64_in _ (by omega)
        have g1 : decide ((i : Int) < (n : Int)) = true := by simpa using hi
        have l1 : b < wr.heap.size := Nat.lt_of_lt_of_le hbl hb.size
        have hsz := hb.size
        obtain ⟨ki, hki⟩ : ∃ ki, ki = gk := ⟨_, rfl⟩
        clear hr hb
        go_wp2
        go_region_held3 (fun wh => wh.cell? ⟨b, i * 6, none⟩ = some (.int .i64 r.from_) ∧ wh.cell? ⟨b, i * 6 + 1, none⟩ = some (.int .i64 r.to))
          (first | assumption | go_keep)
          (fail)
        have CA := hid ((Cells.new wr #[.int .i64 (r.from_ - 1), .int .i64 r.from_, .int .i64 r.to, .int .i64 (r.to + 1)] 141).drew)
        have BA := hid ((HB.out.alloc hsz (.cells #[.int .i64 (r.from_ - 1), .int .i64 r.from_, .int .i64 r.to, .int .i64 (r.to + 1)] 141)).drew)
        obtain ⟨ab, hab⟩ : ∃ ab, ab = wr.heap.size := ⟨_, rfl⟩
        rw [← hab] at CA hsz ⊢
        have HAB := hid hab
        clear d0 d1 hab l1
        go_wp2_with fail
        go_loopg [9] 4 (fun k s9 wr => ∃ j : Nat, j + k = 4 ∧ s9 = .int .i64 j ∧ Below w.heap.size w wr ∧ Cells wr ab #[.int .i64 (r.from_ - 1), .int .i64 r.from_, .int .i64 r.to, .int .i64 (r.to + 1)] 141)
        case atStart => exact ⟨0, rfl, rfl, BA.out, CA.out⟩
        case round =>
          obtain ⟨j, hjk, rfl, hb, hca⟩ := hrel
          have HB1 := hid hb
          have CA1 := hid hca
          by_cases hj : j < 4
          · obtain ⟨x, hx, hx1, hx2⟩ := four_at (r.from_ - 1) r.from_ r.to (r.to + 1) (by omega) j hj
            have c0 : wr.cell? ⟨ab, j, none⟩ = some (.int .i64 x) := by rw [hca.cell, hx]
            have g2 : decide ((j : Int) < 4) = true := by simp; omega
            have n2 : (0 : Int) ≤ (j : Int) := by omega
            have n3 : (j : Int) < 4 := by omega
            have w4 : IntKind.i64.wrap ((j : Int) + 1) = (j : Int) + 1 := IntWalk.i64_in _ (by omega)
            have RG1 := hid (RG.out.after hB hb)
            have la := hca.lt
            clear hx hb hca
            by_cases hin : 1 ≤ x ∧ x ≤ 1000000
            · have f1 : decide (x < 1) = false := by simp; omega
              have f2 : decide (1000000 < x) = false := by simp; omega
              obtain ⟨hin1, hin2⟩ := hin
              go_wp2_with fail
              refine (pocket_ver RG1.out hn HT.out x ⟨hin1, hin2⟩).mono ?_
              rintro e w5 ⟨rfl, hb5⟩
              rw [← HL.out]
              obtain ⟨⟨s1, s2, s3, s4⟩, hcl⟩ : ∃ c : Cl, c = valL L x := ⟨_, rfl⟩
              rw [← hcl, show (Cl.mk s1 s2 s3 s4).val = .agg #[.int .i64 s1, .int .i64 s2, .int .i64 s3, .int .i64 s4] from rfl]
              have HCL := hid hcl
              have B5 := hid (HB1.out.trans (hb5.mono HB1.out.size))
              have CA5 := hid (CA1.out.below hb5 la)
              have c5 : w5.cell? ⟨ab, j, none⟩ = some (.int .i64 x) := (hb5.cell (p := ⟨ab, j, none⟩) la).trans c0
              have l5 : ab < w5.heap.size := CA5.out.lt
              have V5 := hid (HV.out.below B5.out)
              have he : ∀ w, (Op.equalIn 10000 88 (.agg #[.int .i64 s1, .int .i64 s2, .int .i64 s3, .int .i64 s4]) (.agg #[.int .i64 s1, .int .i64 s2, .int .i64 s3, .int .i64 s4])).run Try.prog w = .ok true w := fun w => (run_eqPocket ⟨s1, s2, s3, s4⟩ ⟨s1, s2, s3, s4⟩ w).trans (by simp)
              have V6 := hid (show RunsV 0 (w5.alloc (.cells #[.int .i64 s1, .int .i64 s2, .int .i64 s3, .int .i64 s4] 52)).drew (.slice (some ⟨b, 0, none⟩) n cap) L from (V5.out.alloc _).drew)
              have lL : L.length ≤ 1000000 := by have := HN.out; omega
              have AT := hid (fun (wx : World) (hx : RunsV 0 wx (.slice (some ⟨b, 0, none⟩) n cap) L) => show Calls Try.prog 76 #[.slice (some ⟨b, 0, none⟩) n cap, .int .i64 x] wx (fun e w' => e = .returned (.agg #[.int .i64 s1, .int .i64 s2, .int .i64 s3, .int .i64 s4]) ∧ Below wx.heap.size wx w') by
                have := at_rcalls wx _ L hx lL x
                rw [← HCL.out] at this
                exact this)
              have BP := hid ((B5.out.alloc B5.out.size (.cells #[.int .i64 s1, .int .i64 s2, .int .i64 s3, .int .i64 s4] 52)).drew)
              have CP := hid ((CA5.out.alloc (.cells #[.int .i64 s1, .int .i64 s2, .int .i64 s3, .int .i64 s4] 52)).drew)
              have l6 : w5.heap.size < w5.heap.size + 1 := by omega
              have l7 : ab < w5.heap.size + 1 := by omega
              clear hb5 hcl c0
              go_wp2
              go_region_held3 (fun wh => wh.cell? ⟨w5.heap.size, 0, none⟩ = some (.int .i64 s1) ∧ wh.cell? ⟨w5.heap.size, 1, none⟩ = some (.int .i64 s2) ∧ wh.cell? ⟨w5.heap.size, 2, none⟩ = some (.int .i64 s3) ∧ wh.cell? ⟨w5.heap.size, 3, none⟩ = some (.int .i64 s4) ∧ wh.cell? ⟨ab, j, none⟩ = some (.int .i64 x))
                (first | assumption | go_keep)
                ((go_at_call 76; (refine (AT.out _ V6.out).mono ?_); rintro e w6 ⟨rfl, hb6⟩; obtain ⟨hc6, hf6⟩ := bcell hb6))
              have B6 := hid (BP.out.trans (hb6.mono BP.out.size))
              have CA6 := hid (CP.out.below hb6 CP.out.lt)
              clear hc6 hf6 hb6
              go_wp2
              go_roundg (gk - 1)
              case measure => omega
              case rel => exact ⟨j + 1, by omega, rfl, B6.out, CA6.out⟩
            · have ho : x < 1 ∨ 1000000 < x := by omega
              have HIN := hid hin
              clear hin
              rcases ho with ho | ho
              · have f1 : decide (x < 1) = true := by simp; omega
                go_wp2_with fail
                refine (pocket_out RG1.out hn HT.out x HIN.out).mono ?_
                rintro e w5 ⟨rfl, hb5⟩
                have B5 := hid (HB1.out.trans (hb5.mono HB1.out.size))
                have CA5 := hid (CA1.out.below hb5 la)
                have c5 : w5.cell? ⟨ab, j, none⟩ = some (.int .i64 x) := (hb5.cell (p := ⟨ab, j, none⟩) la).trans c0
                have l5 : ab < w5.heap.size := CA5.out.lt
                have B6 := hid (B5.out.alloc B5.out.size (.cells #[.int .i64 0, .int .i64 0, .int .i64 0, .int .i64 0] 52))
                have CA6 := hid (CA5.out.alloc (.cells #[.int .i64 0, .int .i64 0, .int .i64 0, .int .i64 0] 52))
                clear hb5 c0
                go_wp2
                go_roundg (gk - 1)
                case measure => omega
                case rel => exact ⟨j + 1, by omega, rfl, B6.out, CA6.out⟩
              · have f1 : decide (x < 1) = false := by simp; omega
                have f2 : decide (1000000 < x) = true := by simp; omega
                go_wp2_with fail
                refine (pocket_out RG1.out hn HT.out x HIN.out).mono ?_
                rintro e w5 ⟨rfl, hb5⟩
                have B5 := hid (HB1.out.trans (hb5.mono HB1.out.size))
                have CA5 := hid (CA1.out.below hb5 la)
                have c5 : w5.cell? ⟨ab, j, none⟩ = some (.int .i64 x) := (hb5.cell (p := ⟨ab, j, none⟩) la).trans c0
                have l5 : ab < w5.heap.size := CA5.out.lt
                have B6 := hid (B5.out.alloc B5.out.size (.cells #[.int .i64 0, .int .i64 0, .int .i64 0, .int .i64 0] 52))
                have CA6 := hid (CA5.out.alloc (.cells #[.int .i64 0, .int .i64 0, .int .i64 0, .int .i64 0] 52))
                clear hb5 c0
                go_wp2
                go_roundg (gk - 1)
                case measure => omega
                case rel => exact ⟨j + 1, by omega, rfl, B6.out, CA6.out⟩
          · have g2 : decide ((j : Int) < 4) = false := by simp; omega
            clear hb hca
            go_wp2
            go_roundg (ki - 1)
            case measure => omega
            case rel => exact ⟨i + 1, by omega, rfl, HB1.out⟩
      · have g1 : decide ((i : Int) < (n : Int)) = false := by simpa using hi
        clear hb
        go_wp2
        go_meet
        case rel => exact HB.out
  case rest =>
    have HB := hid hcut
    have V1 := hid (HV.out.below hcut)
    have hsz := hcut.size
    have lL : L.length ≤ 1000000 := by have := HN.out; omega
    clear hcut
    go_wp2_with fail
    refine (members_calls wc _ L V1.out lL).mono ?_
    rintro e w2 ⟨um, rfl, om, hb2⟩
    have B2 := hid (HB.out.trans (hb2.mono hsz))
    have V2 := hid (V1.out.below hb2)
    obtain ⟨M, hM⟩ : ∃ M, M = memL L := ⟨_, rfl⟩
    rw [← hM] at MR om
    obtain ⟨pm, capm, bm, rfl, hpm, hcm⟩ := IntsV.cells om
    have HPM := hid hpm
    have HCM := hid hcm
    have hsz2 := hb2.size
    obtain ⟨nm, hnm⟩ : ∃ nm, nm = M.length := ⟨_, rfl⟩
    have HNM := hid hnm
    rw [← hnm] at HPM ⊢
    clear hb2 om hM hpm hcm hnm V1 HV
    go_wp2_with fail
    go_loopg [13] nm (fun k s13 wr => ∃ i : Nat, i + k = nm ∧ s13 = .int .i64 i ∧ Below w2.heap.size w2 wr)
    case atStart => exact ⟨0, by omega, rfl, Below.refl _ _⟩
    case round =>
      obtain ⟨i, hik, rfl, hb⟩ := hrel
      have HB3 := hid hb
      have BW := hid (B2.out.trans (hb.mono B2.out.size))
      by_cases hi : i < nm
      · have g1 : decide ((i : Int) < (nm : Int)) = true := by simpa using hi
        by_cases h12 : i < 12
        · have g2 : decide ((i : Int) < 12) = true := by simp; omega
          have w4 : IntKind.i64.wrap ((i : Int) + 1) = (i : Int) + 1 := IntWalk.i64_in _ (by omega)
          have him : i < M.length := by rw [← HNM.out]; exact hi
          obtain ⟨rfl, _, hbl⟩ := HPM.out (by omega)
          obtain ⟨x, hx⟩ : ∃ x, x = M[i] := ⟨_, rfl⟩
          have hxr := MR.out x (by rw [hx]; exact List.getElem_mem him)
          have c0 : wr.cell? ⟨bm, i, none⟩ = some (.int .i64 x) := by rw [hx]; exact (hb.cell (p := ⟨bm, i, none⟩) hbl).trans (HCM.out i him)
          have RG1 := hid (RG.out.after hB BW.out)
          have V3 := hid (V2.out.below hb)
          have lb : bm < wr.heap.size := Nat.lt_of_lt_of_le hbl hb.size
          clear hx hb
          by_cases hx1 : 1 ≤ x
          · have f1 : decide (x < 1) = false := by simp; omega
            have hx2 : x ≤ 1000 := hxr.2
            go_wp2_with fail
            refine (holds_ver RG1.out hn HT.out x ⟨hx1, hx2⟩).mono ?_
            rintro e w5 ⟨uh, rfl, oh, hb5⟩
            rw [← HL.out] at oh
            have c5 : w5.cell? ⟨bm, i, none⟩ = some (.int .i64 x) := (hb5.cell (p := ⟨bm, i, none⟩) lb).trans c0
            have l5 : bm < w5.heap.size := Nat.lt_of_lt_of_le lb hb5.size
            have BW5 := hid (BW.out.trans (hb5.mono BW.out.size))
            have B5 := hid (HB3.out.trans (hb5.mono HB3.out.size))
            have RG5 := hid (RG.out.after hB BW5.out)
            have V5 := hid (V3.out.below hb5)
            have OH5 := hid oh
            clear oh hb5 c0 RG1 V3 BW
            go_wp2_with fail
            refine (pledged_ver RG5.out hn HT.out x ⟨hx1, hx2⟩).mono ?_
            rintro e w6 ⟨up, rfl, op, hb6⟩
            rw [← HL.out] at op
            have c6 : w6.cell? ⟨bm, i, none⟩ = some (.int .i64 x) := (hb6.cell (p := ⟨bm, i, none⟩) l5).trans c5
            have l6 : bm < w6.heap.size := Nat.lt_of_lt_of_le l5 hb6.size
            have BW6 := hid (BW5.out.trans (hb6.mono BW5.out.size))
            have B6 := hid (B5.out.trans (hb6.mono B5.out.size))
            have RG6 := hid (RG.out.after hB BW6.out)
            have V6 := hid (V5.out.below hb6)
            have OH6 := hid (OH5.out.below hb6)
            have OP6 := hid op
            clear op hb6 c5 RG5 V5 BW5 OH5 B5
            go_wp2_with fail
            refine (count_ver RG6.out hn HT.out x ⟨hx1, hx2⟩).mono ?_
            rintro e w7 ⟨rfl, hb7⟩
            rw [← HL.out]
            have c7 : w7.cell? ⟨bm, i, none⟩ = some (.int .i64 x) := (hb7.cell (p := ⟨bm, i, none⟩) l6).trans c6
            have l7 : bm < w7.heap.size := Nat.lt_of_lt_of_le l6 hb7.size
            have B7 := hid (B6.out.trans (hb7.mono B6.out.size))
            have V7 := hid (V6.out.below hb7)
            have OH7 := hid (OH6.out.below hb7)
            have OP7 := hid (OP6.out.below hb7)
            have IR := hid HR.out.inR
            obtain ⟨CT, hCT⟩ : ∃ CT, CT = cntL (L.filter fun p => ownB x p.cell) := ⟨_, rfl⟩
            rw [← hCT]
            have HCT := hid hCT
            clear hb7 c6 RG6 V6 BW6 OH6 OP6 B6 hCT
            go_wp2_with fail
            refine (rholds_calls w7 _ L V7.out lL x).mono ?_
            rintro e w8 ⟨u8, rfl, r8, hb8⟩
            have c8 : w8.cell? ⟨bm, i, none⟩ = some (.int .i64 x) := (hb8.cell (p := ⟨bm, i, none⟩) l7).trans c7
            have l8 : bm < w8.heap.size := Nat.lt_of_lt_of_le l7 hb8.size
            have B8 := hid (B7.out.trans (hb8.mono B7.out.size))
            have V8 := hid (V7.out.below hb8)
            have OH8 := hid ((OH7.out.below hb8).mono (Nat.zero_le _))
            have OP8 := hid (OP7.out.below hb8)
            have R8 := hid (r8.mono (Nat.zero_le _))
            have lf1 : (L.filter fun p => ownB x p.cell).length ≤ 1000000 := Nat.le_trans (List.length_filter_le _ _) lL
            have lf2 : (L.filter fun p => plgB x p.cell).length ≤ 1000000 := Nat.le_trans (List.length_filter_le _ _) lL
            clear r8 hb8 c7 V7 OH7 OP7 B7
            go_wp2_with fail
            refine (holds_same w8 uh u8 _ OH8.out R8.out lf1 (filter_in IR.out _)).mono ?_
            rintro e w9 ⟨rfl, hb9⟩
            have c9 : w9.cell? ⟨bm, i, none⟩ = some (.int .i64 x) := (hb9.cell (p := ⟨bm, i, none⟩) l8).trans c8
            have l9 : bm < w9.heap.size := Nat.lt_of_lt_of_le l8 hb9.size
            have B9 := hid (B8.out.trans (hb9.mono B8.out.size))
            have V9 := hid (V8.out.below hb9)
            have OP9 := hid (OP8.out.below hb9)
            clear hb9 c8 V8 OH8 OP8 B8 R8
            go_wp2_with fail
            refine (rpledged_calls w9 _ L V9.out lL x).mono ?_
            rintro e w10 ⟨u10, rfl, r10, hb10⟩
            have c10 : w10.cell? ⟨bm, i, none⟩ = some (.int .i64 x) := (hb10.cell (p := ⟨bm, i, none⟩) l9).trans c9
            have l10 : bm < w10.heap.size := Nat.lt_of_lt_of_le l9 hb10.size
            have B10 := hid (B9.out.trans (hb10.mono B9.out.size))
            have V10 := hid (V9.out.below hb10)
            have OP10 := hid ((OP9.out.below hb10).mono (Nat.zero_le _))
            have R10 := hid (r10.mono (Nat.zero_le _))
            clear r10 hb10 c9 V9 OP9 B9
            go_wp2_with fail
            refine (holds_same w10 up u10 _ OP10.out R10.out lf2 (filter_in IR.out _)).mono ?_
            rintro e w11 ⟨rfl, hb11⟩
            have c11 : w11.cell? ⟨bm, i, none⟩ = some (.int .i64 x) := (hb11.cell (p := ⟨bm, i, none⟩) l10).trans c10
            have l11 : bm < w11.heap.size := Nat.lt_of_lt_of_le l10 hb11.size
            have B11 := hid (B10.out.trans (hb11.mono B10.out.size))
            have V11 := hid (V10.out.below hb11)
            clear hb11 c10 V10 OP10 B10 R10
            go_wp2_with fail
            refine (rholds_calls w11 _ L V11.out lL x).mono ?_
            rintro e w12 ⟨u12, rfl, r12, hb12⟩
            have B12 := hid (B11.out.trans (hb12.mono B11.out.size))
            have R12 := hid (r12.mono (Nat.zero_le _))
            clear r12 hb12 c11 V11 B11
            go_wp2_with fail
            refine (rcount_calls w12 u12 _ R12.out lf1 (filter_in IR.out _)).mono ?_
            rintro e w13 ⟨rfl, hb13⟩
            rw [← HCT.out]
            have B13 := hid (B12.out.trans (hb13.mono B12.out.size))
            clear hb13 R12 B12
            go_wp2
            go_roundg (gk - 1)
            case measure => omega
            case rel => exact ⟨i + 1, by omega, rfl, B13.out⟩
          · have f1 : decide (x < 1) = true := by simp; omega
            have hxo : ¬ (1 ≤ x ∧ x ≤ 1000) := fun e => hx1 e.1
            have HXO := hid hxo
            clear hx1 hxo hxr
            go_wp2_with fail
            refine (holds_out RG1.out hn HT.out x HXO.out).mono ?_
            rintro e w5 ⟨uh, rfl, hb5⟩
            have c5 : w5.cell? ⟨bm, i, none⟩ = some (.int .i64 x) := (hb5.cell (p := ⟨bm, i, none⟩) lb).trans c0
            have l5 : bm < w5.heap.size := Nat.lt_of_lt_of_le lb hb5.size
            have BW5 := hid (BW.out.trans (hb5.mono BW.out.size))
            have B5 := hid (HB3.out.trans (hb5.mono HB3.out.size))
            have RG5 := hid (RG.out.after hB BW5.out)
            clear hb5 c0 RG1 V3 BW
            go_wp2_with fail
            refine (pledged_out RG5.out hn HT.out x HXO.out).mono ?_
            rintro e w6 ⟨up, rfl, hb6⟩
            have c6 : w6.cell? ⟨bm, i, none⟩ = some (.int .i64 x) := (hb6.cell (p := ⟨bm, i, none⟩) l5).trans c5
            have l6 : bm < w6.heap.size := Nat.lt_of_lt_of_le l5 hb6.size
            have BW6 := hid (BW5.out.trans (hb6.mono BW5.out.size))
            have B6 := hid (B5.out.trans (hb6.mono B5.out.size))
            have RG6 := hid (RG.out.after hB BW6.out)
            clear hb6 c5 RG5 BW5 B5
            go_wp2_with fail
            refine (count_out RG6.out hn HT.out x HXO.out).mono ?_
            rintro e w7 ⟨⟨n7, rfl⟩, hb7⟩
            have c7 : w7.cell? ⟨bm, i, none⟩ = some (.int .i64 x) := (hb7.cell (p := ⟨bm, i, none⟩) l6).trans c6
            have l7 : bm < w7.heap.size := Nat.lt_of_lt_of_le l6 hb7.size
            have B7 := hid (B6.out.trans (hb7.mono B6.out.size))
            clear hb7 c6 RG6 BW6 B6
            go_wp2
            go_roundg (gk - 1)
            case measure => omega
            case rel => exact ⟨i + 1, by omega, rfl, B7.out⟩
        · have g2 : decide ((i : Int) < 12) = false := by simp; omega
          clear hb
          go_wp2
          refine bodyPost_ret (v := .bool true) (by simp [results, Try.results31, go_sem]) rfl ⟨rfl, BW.out⟩
      · have g1 : decide ((i : Int) < (nm : Int)) = false := by simpa using hi
        clear hb
        go_wp2
        refine bodyPost_ret (v := .bool true) (by simp [results, Try.results31, go_sem]) rfl ⟨rfl, BW.out⟩
end Go.Proofs.Ytnnbdjfeagcbdaa
namespace Go.Proofs.Ytnnbdjfeagcbdaa
set_option linter.unusedSimpArgs false
set_option linter.unusedVariables false
open Go.RowKit Go.Shelf
attribute [local go_sem] Oper.semAt_some

/-- Both have the same versions. -/
structure Lk (B : Nat) (W w : World) (sB vB : Nat) (vs : List T) (v : Value) : Prop where
  reg : Reg B W w sB vB vs
  ref : RefAt w v (vs.map inT)
  bc : ∀ t ∈ vs, Bc t
theorem Lk.after {B : Nat} {W w w' : World} {sB vB : Nat} {vs : List T} {v : Value} (h : Lk B W w sB vB vs v) (hB : B ≤ w.heap.size) (hb : Below w.heap.size w w') : Lk B W w' sB vB vs v := ⟨h.reg.after hB hb, h.ref.below hb, h.bc⟩
theorem Lk.last {B : Nat} {W w : World} {sB vB : Nat} {vs : List T} {v : Value} (h : Lk B W w sB vB vs v) : ∃ (n : Nat) (t : T), vs.length = n + 1 ∧ vs.getLast? = some t ∧ vs[n]? = some t ∧ Bc t ∧ (vs.map inT).getLast? = some (inT t) := by
  obtain ⟨t, ht, hm⟩ := h.reg.last
  have hl := List.length_pos_iff.2 h.reg.st.full
  refine ⟨vs.length - 1, t, by omega, ht, by rw [← List.getLast?_eq_getElem?]; exact ht, h.bc t hm, by rw [List.getLast?_map, ht]; rfl⟩
theorem inT_pc0 {t : T} (h : t.toList = [pc0]) : inT t = [] := by unfold inT inL; rw [h]; rfl
theorem bc_pc0 {t : T} (h : t.toList = [pc0]) : Bc t := fun n => by rw [h, valL_pc0]; unfold BC cl0; simp
/-- Both, new. -/
theorem Lk.start {B : Nat} {W w : World} {sB vB : Nat} {t : T} {v : Value} (h : Reg B W w sB vB [t]) (ht : t.toList = [pc0]) (hv : RefAt w v [[]]) : Lk B W w sB vB [t] v :=
  ⟨h, by simpa [inT_pc0 ht] using hv, fun u hu => by simp at hu; subst hu; exact bc_pc0 ht⟩
/-- What a call done to both comes to. -/
def Went2 (B : Nat) (W w : World) (sB vB : Nat) (vs : List T) (e : Ending) (w' : World) : Prop :=
  ∃ (v' : Value) (us : List T) (uB : Nat), e = .returned (.tuple #[v', .bool true]) ∧ Lk B W w' sB uB us v' ∧ Turned sB vB w w' ∧ (uB = vB ∨ w.heap.size ≤ uB) ∧ (us = vs ∨ ∃ t', us = vs ++ [t'])
theorem do_lk {B : Nat} {W w : World} {sB vB : Nat} {vs : List T} {v : Value} (h : Lk B W w sB vB vs v) (hB : B ≤ w.heap.size) (hn : vs.length ≤ 999) (k f c lt a b : Int) :
    Calls Try.prog 30 #[.pointer (some ⟨sB, 0, none⟩), v, .agg #[.int .i64 k, .int .i64 f, .int .i64 c, .int .i64 lt, .int .i64 a, .int .i64 b]] w (Went2 B W w sB vB vs) := by
  obtain ⟨n, t, hl, ht, _, hbt, hlast⟩ := h.last
  have tr := h.reg.tr (List.mem_of_getLast? ht)
  refine (do_rcalls h.reg hB hn ht v _ h.ref (by simpa using hn) (inT t) hlast tr.runs tr.short k f c lt a b).mono ?_
  rintro e w' ⟨r, r', v', us, uB, ys, he, rg, ra, tu, hu, hus, hlk⟩
  obtain ⟨hrr, hy⟩ := hlk rfl
  have key : Lk B W w' sB uB us v' ∧ (us = vs ∨ ∃ t', us = vs ++ [t']) := by
    rcases hy with ⟨h1, h2⟩ | ⟨t', h1, h2⟩
    · subst h1
      refine ⟨⟨rg, by rw [h2] at ra; exact ra, h.bc⟩, .inl rfl⟩
    · subst h1
      refine ⟨⟨rg, by rw [h2] at ra; simpa using ra, fun u hu => ?_⟩, .inr ⟨t', rfl⟩⟩
      rcases List.mem_append.1 hu with h3 | h3
      · exact h.bc u h3
      · have e3 : u = t' := List.mem_singleton.1 h3
        rw [e3]
        rcases hus with h4 | ⟨t'', h4, h5, _⟩
        · have := congrArg List.length h4; simp at this
        · have : t' = t'' := by simpa using h4
          rw [this]; exact h5 hbt
  exact ⟨v', us, uB, by rw [he, hrr]; simp, key.1, tu, hu, key.2⟩
theorem Lk.set {B : Nat} {W w : World} {sB vB : Nat} {vs : List T} {v : Value} (h : Lk B W w sB vB vs v) {C : Nat} {cs : Array Value} (hc : Cells w C cs 58) (h1 : C ≠ sB) (h2 : C ≠ vB) (hB : B ≤ C) (u : Value) : Lk B W (w.setCell ⟨C, 0, none⟩ u) sB vB vs v :=
  ⟨h.reg.set hc h1 h2 (by decide) hB 0 u, h.ref.set hc u, h.bc⟩
end Go.Proofs.Ytnnbdjfeagcbdaa
namespace Go.Proofs.Ytnnbdjfeagcbdaa
set_option linter.unusedSimpArgs false
set_option linter.unusedVariables false
open Go.RowKit Go.Shelf
attribute [local go_sem] Oper.semAt_some

theorem PcsV.cells {B : Nat} {w : World} {v : Value} {l : List Pc} (h : PcsAt B w v l) : ∃ p cap b, v = .slice p l.length cap ∧ l.length ≤ cap ∧ (0 < l.length → p = some ⟨b, 0, none⟩ ∧ B ≤ b ∧ b < w.heap.size) ∧
    ∀ (k : Nat) (hk : k < l.length), w.cell? ⟨b, k * 6, none⟩ = some (Value.int .i64 l[k].from_) ∧ w.cell? ⟨b, k * 6 + 1, none⟩ = some (Value.int .i64 l[k].to) ∧ w.cell? ⟨b, k * 6 + 2, none⟩ = some (Value.int .i64 l[k].cell.state) ∧ w.cell? ⟨b, k * 6 + 3, none⟩ = some (Value.int .i64 l[k].cell.lot) ∧ w.cell? ⟨b, k * 6 + 4, none⟩ = some (Value.int .i64 l[k].cell.owner) ∧ w.cell? ⟨b, k * 6 + 5, none⟩ = some (Value.int .i64 l[k].cell.holder) := by
  rcases h.2 with ⟨h1, h2⟩ | ⟨g, cap, cur, hv, hb, hg, hnc, h3⟩
  · exact ⟨none, 0, 0, by rw [h1, h2], by omega, fun h0 => by omega, fun k hk => by omega⟩
  · subst hv
    have key : ∀ (k : Nat) (hk : k < l.length) (j : Nat), j < 6 → w.cell? ⟨g, k * 6 + j, none⟩ = (encP l[k])[j]? := fun k hk j hj => by
      rw [World.ownsRow.cellAt h _ (by have : k * 6 + 6 ≤ l.length * 6 := by { rw [← Nat.succ_mul]; exact Nat.mul_le_mul_right _ hk }; omega), flatP_eq, flatE_get encP_len l k hk j hj]
    refine ⟨_, cap, g, rfl, hnc, fun _ => ⟨rfl, hb, (Array.getElem?_eq_some_iff.1 hg).1⟩, fun k hk => ?_⟩
    have k0 := key k hk 0 (by omega)
    have k1 := key k hk 1 (by omega)
    have k2 := key k hk 2 (by omega)
    have k3 := key k hk 3 (by omega)
    have k4 := key k hk 4 (by omega)
    have k5 := key k hk 5 (by omega)
    simp [encP] at k0 k1 k2 k3 k4 k5
    exact ⟨k0, k1, k2, k3, k4, k5⟩
theorem chg1_calls (c : Cl) (w : World) : Calls Try.prog 90 #[c.val] w fun e w' => e = .returned (.bool true) ∧ Below w.heap.size w w' := by
  go_enter Try.func90, Try.ntmps90
  go_wp2
  go_ret
  exact ⟨rfl, Below.alloc (Below.refl _ _) (Nat.le_refl _) _⟩
theorem chg2_calls (c : Cl) (w : World) : Calls Try.prog 91 #[c.val] w fun e w' => e = .returned (.bool true) ∧ Below w.heap.size w w' := by
  go_enter Try.func91, Try.ntmps91
  go_wp2
  go_ret
  exact ⟨rfl, Below.alloc (Below.refl _ _) (Nat.le_refl _) _⟩
theorem all_true {t : T} (tr : TrOk t) : allP (fun _ => true) (visL t 1 1000000) = t.toList := by
  rw [visL_fine tr.fine, allP_filter _ tr.tiles tr.canon]
  simp
theorem runs_mem : ∀ {l : List (Int × Int)} {a b : Int}, Runs l a b → ∀ q ∈ l, a ≤ q.1 ∧ 1 ≤ q.2 ∧ q.1 + q.2 ≤ b + 1
  | s :: l, a, b, ⟨h1, h2, h3, h4⟩, q, hq => by
    rcases List.mem_cons.1 hq with rfl | hq
    · exact ⟨h1, h2, h3⟩
    · have := runs_mem h4 q hq
      omega
theorem pred_of {n i : Nat} (h : i < n) : ∃ m, n - i = m + 1 := ⟨n - i - 1, by omega⟩
/-- What Changed comes to. -/
def diffT (ta tb : T) : List (Int × Int) := diffL (ta.toList.length + tb.toList.length) ta.toList tb.toList 1 []

set_option maxRecDepth 100000 in
set_option maxHeartbeats 8000000 in
theorem changed_ver {B : Nat} {W w : World} {sB vB : Nat} {vs : List T} (h : Reg B W w sB vB vs) (hn : vs.length ≤ 1000) {va vb : Nat} {ta tb : T} (hta : vs[va]? = some ta) (htb : vs[vb]? = some tb) :
    Calls Try.prog 42 #[.pointer (some ⟨sB, 0, none⟩), .int .i64 va, .int .i64 vb] w fun e w' => ∃ u, e = .returned (.tuple #[u, .int .i64 0]) ∧ OwnE encS 2 37 w.heap.size w' u (diffT ta tb) ∧ Below w.heap.size w w' := by
  have TA := hid (ver_tr h hta)
  have TB := hid (ver_tr h htb)
  have RG := hid h
  have HTA := hid hta
  have HTB := hid htb
  clear h hta htb
  go_enter Try.func42, Try.ntmps42
  go_wp2_with fail
  refine (at_calls w sB vB vs RG.out.st (by omega) (va : Int) true).mono ?_
  rintro e w1 ⟨hw1, pa, rfl, hpa⟩
  rw [hw1]
  rw [ver_in HTA.out] at hpa ⊢
  have PA := hid (show TreeAt w pa ta by have := hpa rfl; rw [ver_get HTA.out] at this; exact this)
  clear hw1 hpa
  go_wp2_with fail
  refine (at_calls w sB vB vs RG.out.st (by omega) (vb : Int) true).mono ?_
  rintro e w1 ⟨hw1, pb, rfl, hpb⟩
  rw [hw1]
  rw [ver_in HTB.out] at hpb ⊢
  have PB := hid (show TreeAt w pb tb by have := hpb rfl; rw [ver_get HTB.out] at this; exact this)
  clear hw1 hpb
  go_wp2_with fail
  refine (all_calls w pa ta PA.out TA.out.fine.good TA.out.fine.sorted TA.out.fine.few 90 #[] (fun _ => true) (fun d W _ => chg1_calls d W) (enters_of Try.func90 (by kernel_rfl) rfl)).mono ?_
  rintro e w2 ⟨ua, rfl, oa, hb2⟩
  rw [all_true TA.out] at oa
  have OA := hid oa
  have B2 := hid hb2
  have PB2 := hid (PB.out.below hb2)
  clear oa hb2
  go_wp2_with fail
  refine (all_calls w2 pb tb PB2.out TB.out.fine.good TB.out.fine.sorted TB.out.fine.few 91 #[] (fun _ => true) (fun d W _ => chg2_calls d W) (enters_of Try.func91 (by kernel_rfl) rfl)).mono ?_
  rintro e w3 ⟨ub, rfl, ob, hb3⟩
  rw [all_true TB.out] at ob
  have oa3 : PcsAt w.heap.size w3 ua ta.toList := OwnE.below (OA.out.own) hb3
  obtain ⟨pA, capA, bA, rfl, hcA, hpA, hA⟩ := PcsV.cells oa3
  obtain ⟨pB, capB, bB, rfl, hcB, hpB, hBc⟩ := PcsV.cells ob
  have B3 := hid (B2.out.trans (hb3.mono B2.out.size))
  have HPA := hid hpA
  have HPB := hid hpB
  have HCA := hid hA
  have HCB := hid hBc
  have tA := hid TA.out.tiles.openT
  have tB := hid TB.out.tiles.openT
  have lA : ta.toList.length ≤ 1000000 := by have := TA.out.tiles.few; omega
  have lB : tb.toList.length ≤ 1000000 := by have := TB.out.tiles.few; omega
  have GA := hid TA.out.fine.sorted.good
  have GB := hid TB.out.fine.sorted.good
  have DT := hid (show diffT ta tb = diffL (ta.toList.length + tb.toList.length) ta.toList tb.toList 1 [] from rfl)
  obtain ⟨R, hR⟩ : ∃ R, R = diffT ta tb := ⟨_, rfl⟩
  have HR := hid hR
  rw [← hR] at DT
  obtain ⟨la, hla⟩ : ∃ la, la = ta.toList := ⟨_, rfl⟩
  obtain ⟨lb, hlb⟩ : ∃ lb, lb = tb.toList := ⟨_, rfl⟩
  rw [← hla] at HPA HCA tA GA DT lA hcA ⊢
  rw [← hlb] at HPB HCB tB GB DT lB hcB ⊢
  have hsz3 := B3.out.size
  clear oa3 ob hb3 hpA hpB hA hBc hR hla hlb OA PA PB PB2 HTA HTB TA TB
  go_wp2_with fail
  go_loopg [11, 12, 13, 14] (la.length + lb.length) (fun k s11 s12 s13 s14 wr => ∃ (i j fu : Nat) (a : Int) (out : List (Int × Int)), s14 = .int .i64 a ∧ i ≤ la.length ∧ j ≤ lb.length ∧ k = (la.length - i) + (lb.length - j) ∧
    (i < la.length → ∃ c, s11 = .slice (some ⟨bA, i * 6, none⟩) (la.length - i) c ∧ la.length - i ≤ c) ∧ (j < lb.length → ∃ c, s12 = .slice (some ⟨bB, j * 6, none⟩) (lb.length - j) c ∧ lb.length - j ≤ c) ∧
    OpenT (la.drop i) a 1000000 ∧ OpenT (lb.drop j) a 1000000 ∧ OwnE encS 2 37 w3.heap.size wr s13 out ∧ Runs out 1 (a - 1) ∧ out.length ≤ i + j ∧ 1 ≤ a ∧ k ≤ fu ∧ diffL fu (la.drop i) (lb.drop j) a out = R ∧ Below w3.heap.size w3 wr)
  case atStart =>
    refine ⟨0, 0, la.length + lb.length, 1, [], rfl, by omega, by omega, by omega, fun h0 => ?_, fun h0 => ?_, by simpa using tA.out, by simpa using tB.out, OwnE.nil _ _, trivial, by simp, by omega, by omega, by simpa using DT.out.symm, Below.refl _ _⟩
    · obtain ⟨e, _⟩ := HPA.out h0
      rw [e]
      exact ⟨capA, by simp, by omega⟩
    · obtain ⟨e, _⟩ := HPB.out h0
      rw [e]
      exact ⟨capB, by simp, by omega⟩
  case round =>
    obtain ⟨i, j, fu, a, out, rfl, hi, hj, hk, h11, h12, oA, oB, hu, hruns, hol, ha1, hfu, hd, hb⟩ := hrel
    have HUU := hid hu
    have RUN := hid hruns
    have OA := hid oA
    have OB := hid oB
    have HD := hid hd
    have HB := hid hb
    have hszr := hb.size
    by_cases ha : a ≤ 1000000
    · have g1 : decide (a ≤ 1000000) = true := by simpa using ha
      have hil : i < la.length := by
        rcases Nat.lt_or_ge i la.length with h | h
        · exact h
        · rw [List.drop_of_length_le h] at oA; simp only [OpenT] at oA; omega
      have hjl : j < lb.length := by
        rcases Nat.lt_or_ge j lb.length with h | h
        · exact h
        · rw [List.drop_of_length_le h] at oB; simp only [OpenT] at oB; omega
      obtain ⟨cA, rfl, hcA2⟩ := h11 hil
      obtain ⟨cB, rfl, hcB2⟩ := h12 hjl
      obtain ⟨hpA, _, hbA⟩ := HPA.out (by omega)
      obtain ⟨hpB, _, hbB⟩ := HPB.out (by omega)
      obtain ⟨d0, d1, d2, d3, d4, d5⟩ := run_cell hb hbA (HCA.out i hil)
      obtain ⟨e0, e1, e2, e3, e4, e5⟩ := run_cell hb hbB (HCB.out j hjl)
      have FA := hid (fun (wx : World) (hx : Below w3.heap.size w3 wx) => run_cell hx hbA (HCA.out i hil))
      have FB := hid (fun (wx : World) (hx : Below w3.heap.size w3 wx) => run_cell hx hbB (HCB.out j hjl))
      obtain ⟨P, hP⟩ : ∃ P, P = la[i] := ⟨_, rfl⟩
      obtain ⟨Q, hQ⟩ : ∃ Q, Q = lb[j] := ⟨_, rfl⟩
      rw [← hP] at d0 d1 d2 d3 d4 d5 FA
      rw [← hQ] at e0 e1 e2 e3 e4 e5 FB
      have eA : la.drop i = P :: la.drop (i + 1) := by rw [List.drop_eq_getElem_cons hil, ← hP]
      have eB : lb.drop j = Q :: lb.drop (j + 1) := by rw [List.drop_eq_getElem_cons hjl, ← hQ]
      obtain ⟨mA, hmA⟩ : ∃ mA, la.length - i = mA + 1 := pred_of hil
      obtain ⟨mB, hmB⟩ : ∃ mB, lb.length - j = mB + 1 := pred_of hjl
      have gP := (GA.out P (by rw [hP]; exact List.getElem_mem hil)).le
      have gQ := (GB.out Q (by rw [hQ]; exact List.getElem_mem hjl)).le
      have hoA := oA
      have hoB := oB
      rw [eA] at hoA
      rw [eB] at hoB
      obtain ⟨a1, a2, _⟩ := hoA
      obtain ⟨b1, b2, _⟩ := hoB
      rw [hmA] at hcA2 ⊢
      rw [hmB] at hcB2 ⊢
      have lbA : bA < wr.heap.size := Nat.lt_of_lt_of_le hbA hszr
      have lbB : bB < wr.heap.size := Nat.lt_of_lt_of_le hbB hszr
      have EA := hid eA
      have EB := hid eB
      have HMA := hid hmA
      have HMB := hid hmB
      have HK := hid hk
      obtain ⟨tt, htt⟩ : ∃ tt, tt = min P.to Q.to := ⟨_, rfl⟩
      have HTT := hid htt
      have htb : a ≤ tt ∧ tt ≤ 1000000 ∧ tt ≤ P.to ∧ tt ≤ Q.to := by omega
      have BR := hid hb
      clear hu hruns oA oB hd hb eA eB hP hQ hpA hpB h11 h12 hmA hmB hk htt
      go_upto_region 11 with fail
      go_cut [15] (fun s15 wx => s15 = .int .i64 tt ∧ OwnE encS 2 37 w3.heap.size wx u13 out ∧ Below w3.heap.size w3 wx)
      case first =>
        by_cases hmin : P.to ≤ Q.to
        · have hx : (Q.to < P.to) = False := by simp; omega
          have E := hid (show P.to = tt by rw [HTT.out]; omega)
          clear hmin
          go_wp2
          go_region_held3 (fun wh => wh.cell? ⟨bA, i * 6 + 1, none⟩ = some (.int .i64 P.to) ∧ wh.cell? ⟨bB, j * 6 + 1, none⟩ = some (.int .i64 Q.to))
            (first | assumption | go_keep)
            (fail)
          all_goals (
            go_wp2
            go_meet
            exact ⟨by rw [E.out], HUU.out.drewN 1, drewN_below HB.out 1⟩)
        · have hx : Q.to < P.to := by omega
          have E := hid (show Q.to = tt by rw [HTT.out]; omega)
          clear hmin
          go_wp2
          go_region_held3 (fun wh => wh.cell? ⟨bA, i * 6 + 1, none⟩ = some (.int .i64 P.to) ∧ wh.cell? ⟨bB, j * 6 + 1, none⟩ = some (.int .i64 Q.to))
            (first | assumption | go_keep)
            (fail)
          all_goals (
            go_wp2
            go_meet
            exact ⟨by rw [E.out], HUU.out.drewN 1, drewN_below HB.out 1⟩)
      case rest =>
        obtain ⟨rfl, hu2, hb2⟩ := hcut
        have HU2 := hid hu2
        have HB2 := hid hb2
        obtain ⟨d0, d1, d2, d3, d4, d5⟩ := FA.out wc hb2
        obtain ⟨e0, e1, e2, e3, e4, e5⟩ := FB.out wc hb2
        have lbA : bA < wc.heap.size := Nat.lt_of_lt_of_le hbA hb2.size
        have lbB : bB < wc.heap.size := Nat.lt_of_lt_of_le hbB hb2.size
        clear hu2 hb2
        go_upto_region 12 with fail
        go_cut [59] (fun s59 wx => s59 = .bool (!decide (P.cell = Q.cell)) ∧ OwnE encS 2 37 w3.heap.size wx u13 out ∧ Below w3.heap.size w3 wx)
        case first =>
          by_cases hc : P.cell = Q.cell
          · have he : ∀ w, (Op.equalIn 10000 116 (.agg #[.int .i64 P.cell.state, .int .i64 P.cell.lot, .int .i64 P.cell.owner, .int .i64 P.cell.holder]) (.agg #[.int .i64 Q.cell.state, .int .i64 Q.cell.lot, .int .i64 Q.cell.owner, .int .i64 Q.cell.holder])).run Try.prog w = .ok true w := fun w => (run_eqCell P.cell Q.cell w).trans (by simp [hc])
            have E := hid (show decide (P.cell = Q.cell) = true by simpa using hc)
            clear hc
            go_big_quiet (fail)
            go_wp2
            go_meet
            case rel => exact ⟨by rw [E.out]; rfl, HU2.out.drewN nq, drewN_below HB2.out nq⟩
          · have he : ∀ w, (Op.equalIn 10000 116 (.agg #[.int .i64 P.cell.state, .int .i64 P.cell.lot, .int .i64 P.cell.owner, .int .i64 P.cell.holder]) (.agg #[.int .i64 Q.cell.state, .int .i64 Q.cell.lot, .int .i64 Q.cell.owner, .int .i64 Q.cell.holder])).run Try.prog w = .ok false w := fun w => (run_eqCell P.cell Q.cell w).trans (by simp [hc])
            have E := hid (show decide (P.cell = Q.cell) = false by simpa using hc)
            clear hc
            go_big_quiet (fail)
            go_wp2
            go_meet
            case rel => exact ⟨by rw [E.out]; rfl, HU2.out.drewN nq, drewN_below HB2.out nq⟩
        case rest =>
          obtain ⟨rfl, hu3, hb3⟩ := hcut
          have HU3 := hid hu3
          have HB3 := hid hb3
          have hw3 : w3.heap.size ≤ wc.heap.size := hb3.size
          clear hu3 hb3
          go_upto_if 59 with fail
          go_cut [13] (fun s13 wx => ∃ out2, out2 = (if P.cell = Q.cell then out else extL out (a, tt - a + 1)) ∧ OwnE encS 2 37 w3.heap.size wx s13 out2 ∧ Below w3.heap.size w3 wx)
          case first =>
            by_cases hc : P.cell = Q.cell
            · have E := hid hc
              have E2 : (!decide (P.cell = Q.cell)) = false := by simpa using hc
              rw [E2]
              clear hc E2
              go_wp2
              go_meet
              case rel => exact ⟨out, by rw [if_pos E.out], HU3.out, HB3.out⟩
            · have E := hid hc
              have E2 : (!decide (P.cell = Q.cell)) = true := by simpa using hc
              rw [E2]
              have v1 : IntKind.i64.wrap (tt - a) = tt - a := IntWalk.i64_in _ (by omega)
              have v2 : IntKind.i64.wrap (tt - a + 1) = tt - a + 1 := IntWalk.i64_in _ (by omega)
              have hol2 : out.length ≤ 10000000 := by omega
              clear hc E2
              go_wp2_with fail
              refine (extended_calls w3.heap.size _ hw3 u13 out HU3.out hol2 (fun q hq => by have := runs_mem RUN.out q hq; omega) a (tt - a + 1) (by omega)).mono ?_
              rintro e w5 ⟨u5, rfl, o5, b5⟩
              have O5 := hid o5
              have B5 := hid (HB3.out.trans b5)
              clear o5 b5
              go_wp2
              go_meet
              case rel => exact ⟨_, by rw [if_neg E.out], O5.out, B5.out⟩
          case rest =>
            obtain ⟨out2, hout2, o5, b5⟩ := hcut
            have HO2 := hid hout2
            have O5 := hid o5
            have B5 := hid b5
            obtain ⟨d0, d1, d2, d3, d4, d5⟩ := FA.out wc b5
            obtain ⟨e0, e1, e2, e3, e4, e5⟩ := FB.out wc b5
            have v3 : IntKind.i64.wrap (tt + 1) = tt + 1 := IntWalk.i64_in _ (by omega)
            have n1 : (1 : Int) ≤ (mA : Int) + 1 := by omega
            have n2 : (1 : Int) ≤ (mB : Int) + 1 := by omega
            have n3 : mA + 1 ≤ cA := hcA2
            have n4 : mB + 1 ≤ cB := hcB2
            have wA : bA < wc.heap.size := Nat.lt_of_lt_of_le hbA b5.size
            have wB : bB < wc.heap.size := Nat.lt_of_lt_of_le hbB b5.size
            clear hout2 o5 b5
            have SO := hid (step_openT (by rw [← EA.out]; exact OA.out : OpenT (P :: la.drop (i + 1)) a 1000000) htb.1 htb.2.2.1)
            have SP := hid (step_openT (by rw [← EB.out]; exact OB.out : OpenT (Q :: lb.drop (j + 1)) a 1000000) htb.1 htb.2.2.2)
            have HDN := hid (show diffL (fu - 1) (if P.to = tt then la.drop (i + 1) else P :: la.drop (i + 1)) (if Q.to = tt then lb.drop (j + 1) else Q :: lb.drop (j + 1)) (tt + 1) out2 = R by
              have hd := HD.out
              rw [EA.out, EB.out, show fu = (fu - 1) + 1 by have := HK.out; omega, diffL, ← HTT.out, ← HO2.out] at hd
              exact hd)
            have RUN2 := hid (show Runs out2 1 (tt + 1 - 1) by
              have e := extL_runs (l := out) (a := 1) (b := a - 1) (x := a) (y := tt - a + 1) RUN.out (by omega) ha1 (by omega)
              rw [HO2.out]
              split
              · exact RUN.out.up (by omega)
              · exact e.1.up (by omega))
            have LEN2 := hid (show out2.length ≤ i + j + 1 by
              rw [HO2.out]
              split
              · omega
              · have := extL_length out (a, tt - a + 1); omega)
            have hmn : P.to = tt ∨ Q.to = tt := by have := HTT.out; omega
            by_cases hA : P.to = tt
            · by_cases hB : Q.to = tt
              · clear hmn
                have so := SO.out
                have sp := SP.out
                have hdn := HDN.out
                rw [if_pos hA] at so hdn
                rw [if_pos hB] at sp hdn
                have SO2 := hid so
                have SP2 := hid sp
                have HD2 := hid hdn
                have f1 : (P.to == tt) = true := by simpa using hA
                have f2 : (Q.to == tt) = true := by simpa using hB
                clear hA hB so sp hdn
                by_cases zA : cA - 1 = 0
                · have ZA := hid zA
                  by_cases zB : cB - 1 = 0
                  · have ZB := hid zB
                    go_wp2
                    go_roundg ((la.length - (i + 1)) + (lb.length - (j + 1)))
                    · exact ⟨(i + 1), (j + 1), fu - 1, tt + 1, out2, rfl, by omega, by omega, rfl, (fun h0 => absurd h0 (by have := ZA.out; have := HMA.out; omega)), (fun h0 => absurd h0 (by have := ZB.out; have := HMB.out; omega)), SO2.out, SP2.out, O5.out, RUN2.out, by have := LEN2.out; omega, by omega, by have := HK.out; omega, HD2.out, B5.out⟩
                    · have := HK.out; omega
                  · have zB' : (cB - 1 = 0) = False := by simp only [eq_iff_iff, iff_false]; exact zB
                    have ZB := hid zB
                    go_wp2
                    go_roundg ((la.length - (i + 1)) + (lb.length - (j + 1)))
                    · exact ⟨(i + 1), (j + 1), fu - 1, tt + 1, out2, rfl, by omega, by omega, rfl, (fun h0 => absurd h0 (by have := ZA.out; have := HMA.out; omega)), (fun _ => ⟨cB - 1, by rw [show (j + 1) * 6 = j * 6 + 6 by omega, show lb.length - (j + 1) = mB by have := HMB.out; omega], by have := HMB.out; omega⟩), SO2.out, SP2.out, O5.out, RUN2.out, by have := LEN2.out; omega, by omega, by have := HK.out; omega, HD2.out, B5.out⟩
                    · have := HK.out; omega
                · have zA' : (cA - 1 = 0) = False := by simp only [eq_iff_iff, iff_false]; exact zA
                  have ZA := hid zA
                  by_cases zB : cB - 1 = 0
                  · have ZB := hid zB
                    go_wp2
                    go_roundg ((la.length - (i + 1)) + (lb.length - (j + 1)))
                    · exact ⟨(i + 1), (j + 1), fu - 1, tt + 1, out2, rfl, by omega, by omega, rfl, (fun _ => ⟨cA - 1, by rw [show (i + 1) * 6 = i * 6 + 6 by omega, show la.length - (i + 1) = mA by have := HMA.out; omega], by have := HMA.out; omega⟩), (fun h0 => absurd h0 (by have := ZB.out; have := HMB.out; omega)), SO2.out, SP2.out, O5.out, RUN2.out, by have := LEN2.out; omega, by omega, by have := HK.out; omega, HD2.out, B5.out⟩
                    · have := HK.out; omega
                  · have zB' : (cB - 1 = 0) = False := by simp only [eq_iff_iff, iff_false]; exact zB
                    have ZB := hid zB
                    go_wp2
                    go_roundg ((la.length - (i + 1)) + (lb.length - (j + 1)))
                    · exact ⟨(i + 1), (j + 1), fu - 1, tt + 1, out2, rfl, by omega, by omega, rfl, (fun _ => ⟨cA - 1, by rw [show (i + 1) * 6 = i * 6 + 6 by omega, show la.length - (i + 1) = mA by have := HMA.out; omega], by have := HMA.out; omega⟩), (fun _ => ⟨cB - 1, by rw [show (j + 1) * 6 = j * 6 + 6 by omega, show lb.length - (j + 1) = mB by have := HMB.out; omega], by have := HMB.out; omega⟩), SO2.out, SP2.out, O5.out, RUN2.out, by have := LEN2.out; omega, by omega, by have := HK.out; omega, HD2.out, B5.out⟩
                    · have := HK.out; omega
              · clear hmn
                have so := SO.out
                have sp := SP.out
                have hdn := HDN.out
                rw [if_pos hA] at so hdn
                rw [if_neg hB, ← EB.out] at sp hdn
                have SO2 := hid so
                have SP2 := hid sp
                have HD2 := hid hdn
                have f1 : (P.to == tt) = true := by simpa using hA
                have f2 : (Q.to == tt) = false := by simpa using hB
                clear hA hB so sp hdn
                by_cases zA : cA - 1 = 0
                · have ZA := hid zA
                  go_wp2
                  go_roundg ((la.length - (i + 1)) + (lb.length - j))
                  · exact ⟨(i + 1), j, fu - 1, tt + 1, out2, rfl, by omega, by omega, rfl, (fun h0 => absurd h0 (by have := ZA.out; have := HMA.out; omega)), (fun _ => ⟨cB, by rw [HMB.out], by have := HMB.out; omega⟩), SO2.out, SP2.out, O5.out, RUN2.out, by have := LEN2.out; omega, by omega, by have := HK.out; omega, HD2.out, B5.out⟩
                  · have := HK.out; omega
                · have zA' : (cA - 1 = 0) = False := by simp only [eq_iff_iff, iff_false]; exact zA
                  have ZA := hid zA
                  go_wp2
                  go_roundg ((la.length - (i + 1)) + (lb.length - j))
                  · exact ⟨(i + 1), j, fu - 1, tt + 1, out2, rfl, by omega, by omega, rfl, (fun _ => ⟨cA - 1, by rw [show (i + 1) * 6 = i * 6 + 6 by omega, show la.length - (i + 1) = mA by have := HMA.out; omega], by have := HMA.out; omega⟩), (fun _ => ⟨cB, by rw [HMB.out], by have := HMB.out; omega⟩), SO2.out, SP2.out, O5.out, RUN2.out, by have := LEN2.out; omega, by omega, by have := HK.out; omega, HD2.out, B5.out⟩
                  · have := HK.out; omega
            · have hB : Q.to = tt := hmn.resolve_left hA
              clear hmn
              have so := SO.out
              have sp := SP.out
              have hdn := HDN.out
              rw [if_neg hA, ← EA.out] at so hdn
              rw [if_pos hB] at sp hdn
              have SO2 := hid so
              have SP2 := hid sp
              have HD2 := hid hdn
              have f1 : (P.to == tt) = false := by simpa using hA
              have f2 : (Q.to == tt) = true := by simpa using hB
              clear hA hB so sp hdn
              by_cases zB : cB - 1 = 0
              · have ZB := hid zB
                go_wp2
                go_roundg ((la.length - i) + (lb.length - (j + 1)))
                · exact ⟨i, (j + 1), fu - 1, tt + 1, out2, rfl, by omega, by omega, rfl, (fun _ => ⟨cA, by rw [HMA.out], by have := HMA.out; omega⟩), (fun h0 => absurd h0 (by have := ZB.out; have := HMB.out; omega)), SO2.out, SP2.out, O5.out, RUN2.out, by have := LEN2.out; omega, by omega, by have := HK.out; omega, HD2.out, B5.out⟩
                · have := HK.out; omega
              · have zB' : (cB - 1 = 0) = False := by simp only [eq_iff_iff, iff_false]; exact zB
                have ZB := hid zB
                go_wp2
                go_roundg ((la.length - i) + (lb.length - (j + 1)))
                · exact ⟨i, (j + 1), fu - 1, tt + 1, out2, rfl, by omega, by omega, rfl, (fun _ => ⟨cA, by rw [HMA.out], by have := HMA.out; omega⟩), (fun _ => ⟨cB - 1, by rw [show (j + 1) * 6 = j * 6 + 6 by omega, show lb.length - (j + 1) = mB by have := HMB.out; omega], by have := HMB.out; omega⟩), SO2.out, SP2.out, O5.out, RUN2.out, by have := LEN2.out; omega, by omega, by have := HK.out; omega, HD2.out, B5.out⟩
                · have := HK.out; omega
    · have g1 : decide (a ≤ 1000000) = false := by simpa using ha
      have FI := hid (show out = R by
        have ea : la.drop i = [] := by
          cases h : la.drop i with
          | nil => rfl
          | cons p l => rw [h] at oA; obtain ⟨h1, h2, h3⟩ := oA; have := h3.le; omega
        rw [ea] at hd
        cases fu <;> simpa [diffL] using hd)
      clear hu hruns oA oB hd hb h11 h12
      go_wp2
      refine bodyPost_ret (v := .tuple #[u13, .int .i64 0]) (by simp [results, Try.results42, go_sem]) rfl ⟨u13, rfl, ?_, B3.out.trans (HB.out.mono hsz3)⟩
      rw [← HR.out, ← FI.out]
      exact HUU.out.mono hsz3
end Go.Proofs.Ytnnbdjfeagcbdaa
namespace Go.Proofs.Ytnnbdjfeagcbdaa
set_option linter.unusedSimpArgs false
set_option linter.unusedVariables false
open Go.RowKit Go.Shelf

/-- The first n pockets of pieces: the spans, and what is left to find. -/
def takeN : List Pc → Int → List (Int × Int) × Int
  | [], n => ([], n)
  | p :: l, n => if n ≤ 0 then ([], n) else ((p.from_, min (p.to - p.from_ + 1) n) :: (takeN l (n - min (p.to - p.from_ + 1) n)).1, (takeN l (n - min (p.to - p.from_ + 1) n)).2)
theorem takeN_done (l : List Pc) {n : Int} (h : n ≤ 0) : takeN l n = ([], n) := by
  cases l with
  | nil => rfl
  | cons p l => rw [takeN, if_pos h]
theorem takeN_snoc (p : Pc) : ∀ (l : List Pc) (n : Int), takeN (l ++ [p]) n = if (takeN l n).2 ≤ 0 then takeN l n else ((takeN l n).1 ++ [(p.from_, min (p.to - p.from_ + 1) (takeN l n).2)], (takeN l n).2 - min (p.to - p.from_ + 1) (takeN l n).2)
  | [], n => by
    rw [List.nil_append, takeN, takeN]
    by_cases h : n ≤ 0
    · rw [if_pos h, if_pos h]
    · rw [if_neg h, if_neg h, takeN]; rfl
  | q :: l, n => by
    rw [List.cons_append, takeN, takeN]
    by_cases h : n ≤ 0
    · rw [if_pos h, if_pos h, if_pos h]
    · rw [if_neg h, if_neg h, takeN_snoc p l]
      simp only
      by_cases h2 : (takeN l (n - min (q.to - q.from_ + 1) n)).2 ≤ 0
      · rw [if_pos h2, if_pos h2]
      · rw [if_neg h2, if_neg h2]; rfl
theorem takeN_append : ∀ (l m : List Pc) (n : Int), (takeN l n).2 ≤ 0 → takeN (l ++ m) n = takeN l n
  | [], m, n, h => by rw [List.nil_append, takeN_done m (by rw [takeN] at h; exact h)]; rfl
  | q :: l, m, n, h => by
    rw [List.cons_append, takeN, takeN]
    by_cases h1 : n ≤ 0
    · rw [if_pos h1, if_pos h1]
    · rw [takeN, if_neg h1] at h
      rw [if_neg h1, if_neg h1, takeN_append l m _ h]
theorem takeN_rem : ∀ (l : List Pc) (n : Int), (∀ p ∈ l, p.Good) → 0 ≤ n → 0 ≤ (takeN l n).2 ∧ (takeN l n).2 ≤ n
  | [], n, _, h => by rw [takeN]; simp only; omega
  | q :: l, n, hg, h => by
    rw [takeN]
    have gq := hg q (by simp)
    simp only [Pc.Good] at gq
    split
    · simp only; omega
    · have := takeN_rem l (n - min (q.to - q.from_ + 1) n) (fun p hp => hg p (List.mem_cons_of_mem _ hp)) (by omega)
      simp only; omega
/-- While something is left every piece was taken whole. -/
theorem takeN_mem : ∀ (l : List Pc) (n : Int), (∀ p ∈ l, p.Good) → 0 < (takeN l n).2 → ∀ s ∈ (takeN l n).1, ∃ q ∈ l, s.1 = q.from_ ∧ s.1 + s.2 = q.to + 1
  | [], n, _, _, s, hs => by rw [takeN] at hs; simp at hs
  | q :: l, n, hg, h, s, hs => by
    have gq := hg q (by simp)
    simp only [Pc.Good] at gq
    rw [takeN] at h hs
    by_cases h1 : n ≤ 0
    · rw [if_pos h1] at h; simp only at h; omega
    · rw [if_neg h1] at h hs
      simp only at h hs
      by_cases h2 : q.to - q.from_ + 1 < n
      · rcases List.mem_cons.1 hs with rfl | hs
        · exact ⟨q, by simp, rfl, by simp only; omega⟩
        · obtain ⟨q', h3, h4⟩ := takeN_mem l _ (fun p hp => hg p (List.mem_cons_of_mem _ hp)) h s hs
          exact ⟨q', List.mem_cons_of_mem _ h3, h4⟩
      · rw [takeN_done l (by omega)] at h
        simp only at h; omega
theorem extL_app {l : List (Int × Int)} {s : Int × Int} (h : ∀ q ∈ l, q.1 + q.2 ≠ s.1) : extL l s = l ++ [s] := by
  rcases List.eq_nil_or_concat l with rfl | ⟨L, q, rfl⟩
  · rfl
  · rw [List.concat_eq_append] at h ⊢
    rw [extL_last, if_neg (h q (by simp)), List.append_assoc]; rfl
theorem snoc_ind {α : Type} {P : List α → Prop} (h0 : P []) (h1 : ∀ l a, P l → P (l ++ [a])) : ∀ l, P l := by
  have key : ∀ (n : Nat) (l : List α), l.length = n → P l := by
    intro n
    induction n with
    | zero => intro l hl; rw [List.length_eq_zero_iff.1 hl]; exact h0
    | succ n ih =>
      intro l hl
      rcases List.eq_nil_or_concat l with rfl | ⟨L, a, rfl⟩
      · simp at hl
      · rw [List.concat_eq_append] at hl ⊢
        exact h1 L a (ih L (by simpa using hl))
  exact fun l => key l.length l rfl
/-- What the program adds up, piece by piece. -/
def fStep (want : Cl) (st : List (Int × Int) × Int) (p : Pc) : List (Int × Int) × Int :=
  if p.cell = want then (extL st.1 (p.from_, min (p.to - p.from_ + 1) st.2), st.2 - min (p.to - p.from_ + 1) st.2) else st
def fFold (want : Cl) (n : Int) (l : List Pc) : List (Int × Int) × Int := l.foldl (fStep want) ([], n)
theorem fFold_snoc (want : Cl) (n : Int) (l : List Pc) (p : Pc) : fFold want n (l ++ [p]) = fStep want (fFold want n l) p := by simp [fFold]
theorem fFold_len (want : Cl) (n : Int) (l : List Pc) : (fFold want n l).1.length ≤ l.length := by
  refine snoc_ind (P := fun l => (fFold want n l).1.length ≤ l.length) (by simp [fFold]) (fun l p ih => ?_) l
  rw [fFold_snoc, fStep, List.length_append]
  split
  · have := extL_length (fFold want n l).1 (p.from_, min (p.to - p.from_ + 1) (fFold want n l).2)
    simp only [List.length_cons, List.length_nil]; omega
  · simp only [List.length_cons, List.length_nil]; omega
/-- Spans that extended abides. -/
def Okn (l : List (Int × Int)) : Prop := ∀ q ∈ l, 0 ≤ q.1 ∧ 0 ≤ q.2 ∧ q.1 + q.2 ≤ 1000001
theorem Okn.ext {l : List (Int × Int)} (h : Okn l) {s : Int × Int} (hs : 0 ≤ s.1 ∧ 0 ≤ s.2 ∧ s.1 + s.2 ≤ 1000001) : Okn (extL l s) := by
  rcases List.eq_nil_or_concat l with rfl | ⟨L, q, rfl⟩
  · intro r hr; simp [extL] at hr; subst hr; exact hs
  · rw [List.concat_eq_append] at h ⊢
    have hq := h q (by simp)
    have hL : ∀ r ∈ L, 0 ≤ r.1 ∧ 0 ≤ r.2 ∧ r.1 + r.2 ≤ 1000001 := fun r hr => h r (by simp [hr])
    rw [extL_last]
    split
    · intro r hr
      rcases List.mem_append.1 hr with hr | hr
      · exact hL r hr
      · simp only [List.mem_cons, List.not_mem_nil, or_false] at hr; subst hr; simp only; omega
    · intro r hr
      rcases List.mem_append.1 hr with hr | hr
      · exact hL r hr
      · simp only [List.mem_cons, List.not_mem_nil, or_false] at hr
        rcases hr with rfl | rfl
        · exact hq
        · exact hs
theorem fStep_ok {want : Cl} {st : List (Int × Int) × Int} {p : Pc} (h : Okn st.1) (hn : 0 ≤ st.2) (hp : p.Good) : Okn (fStep want st p).1 ∧ 0 ≤ (fStep want st p).2 ∧ (fStep want st p).2 ≤ st.2 := by
  simp only [Pc.Good] at hp
  unfold fStep
  split
  · exact ⟨h.ext (s := (p.from_, min (p.to - p.from_ + 1) st.2)) (by simp only; omega), by simp only; omega, by simp only; omega⟩
  · exact ⟨h, hn, Int.le_refl _⟩
/-- Pieces of one state never meet. -/
def Apart (l : List Pc) : Prop := ∀ p ∈ l, ∀ q ∈ l, p.to + 1 = q.from_ → p.cell ≠ q.cell
theorem Apart.sub {l m : List Pc} (h : Apart m) (hs : ∀ p ∈ l, p ∈ m) : Apart l := fun p hp q hq => h p (hs p hp) q (hs q hq)
def wantF (want : Cl) (l : List Pc) : List Pc := l.filter fun p => decide (p.cell = want)
theorem wantF_snoc (want : Cl) (l : List Pc) (p : Pc) : wantF want (l ++ [p]) = wantF want l ++ (if p.cell = want then [p] else []) := by
  unfold wantF
  rw [List.filter_append]
  by_cases h : p.cell = want <;> simp [h]
theorem fStep_take {want : Cl} {n : Int} {l : List Pc} {p : Pc} (hg : ∀ q ∈ l, q.Good) (ha : Apart (l ++ [p])) (h : fFold want n l = takeN (wantF want l) n) (hr : 0 < (fFold want n l).2) : fFold want n (l ++ [p]) = takeN (wantF want (l ++ [p])) n := by
  rw [fFold_snoc, wantF_snoc, fStep]
  split
  · rename_i hc
    rw [takeN_snoc, if_neg (by rw [← h]; omega), ← h]
    congr 1
    refine extL_app fun s hs => ?_
    rw [h] at hs hr
    obtain ⟨q, hq, _, h2⟩ := takeN_mem (wantF want l) n (fun q hq => hg q (List.mem_filter.1 hq).1) hr s hs
    obtain ⟨h3, h4⟩ := List.mem_filter.1 hq
    have h4 : q.cell = want := by simpa using h4
    intro he
    have he : s.1 + s.2 = p.from_ := he
    exact ha q (by simp [h3]) p (by simp) (by omega) (by rw [h4, hc])
  · rw [List.append_nil, h]
theorem fFold_take {want : Cl} {n : Int} : ∀ {l : List Pc}, (∀ q ∈ l, q.Good) → Apart l → 0 < (fFold want n l).2 → fFold want n l = takeN (wantF want l) n := by
  intro l
  refine snoc_ind (P := fun l => (∀ q ∈ l, q.Good) → Apart l → 0 < (fFold want n l).2 → fFold want n l = takeN (wantF want l) n) (fun _ _ _ => rfl) (fun l p ih => ?_) l
  · intro hg ha hr
    have hl : 0 < (fFold want n l).2 := by
      rw [fFold_snoc, fStep] at hr
      split at hr
      · simp only at hr
        have hp := hg p (by simp)
        simp only [Pc.Good] at hp
        omega
      · exact hr
    have hg' : ∀ q ∈ l, q.Good := fun q hq => hg q (by simp [hq])
    exact fStep_take hg' ha (ih hg' (ha.sub fun q hq => by simp [hq]) hl) hl
/-- What Find comes to: the spans and the error. -/
def findS (l : List Pc) (want : Cl) (n : Int) : List (Int × Int) := if (takeN (wantF want l) n).2 ≤ 0 then (takeN (wantF want l) n).1 else []
def findE (l : List Pc) (want : Cl) (n : Int) : Int := if (takeN (wantF want l) n).2 ≤ 0 then 0 else 4
/-- The whole list was looked at: something is left. -/
theorem find_none {want : Cl} {n : Int} {l : List Pc} (hg : ∀ q ∈ l, q.Good) (ha : Apart l) (hr : 0 < (fFold want n l).2) : findS l want n = [] ∧ findE l want n = 4 := by
  rw [fFold_take hg ha hr] at hr
  unfold findS findE
  rw [if_neg (by omega), if_neg (by omega)]
  exact ⟨rfl, rfl⟩
/-- Behind a piece nothing is left. -/
theorem find_done {want : Cl} {n : Int} {l pre : List Pc} {p : Pc} (hg : ∀ q ∈ l, q.Good) (ha : Apart l) (hp : pre ++ [p] <+: l) (hr : 0 < (fFold want n pre).2) (hz : (fFold want n (pre ++ [p])).2 = 0) : findS l want n = (fFold want n (pre ++ [p])).1 ∧ findE l want n = 0 := by
  obtain ⟨m, rfl⟩ := hp
  have hg' : ∀ q ∈ pre, q.Good := fun q hq => hg q (by simp [hq])
  have ha' : Apart (pre ++ [p]) := ha.sub fun q hq => by
    rcases List.mem_append.1 hq with h | h
    · simp [h]
    · simp at h; simp [h]
  have h1 := fFold_take hg' (ha'.sub fun q hq => by simp [hq]) hr
  have h2 := fStep_take hg' ha' h1 hr
  have h3 : takeN (wantF want (pre ++ [p] ++ m)) n = takeN (wantF want (pre ++ [p])) n := by
    unfold wantF
    rw [List.filter_append]
    exact takeN_append _ _ _ (by rw [h2] at hz; unfold wantF at hz; omega)
  unfold findS findE
  rw [h3, ← h2, hz]
  simp
/-- The runs that are in or gone serve as well. -/
theorem wantF_inL {want : Cl} (hw : want.state ≠ 0) (l : List Pc) : wantF want (inL l) = wantF want l := by
  unfold wantF inL
  rw [List.filter_filter]
  congr 1
  funext p
  by_cases h : p.cell = want
  · simp [h, hw]
  · simp [h]
theorem find_inT {want : Cl} (hw : want.state ≠ 0) (t : T) (n : Int) : findS (inT t) want n = findS t.toList want n ∧ findE (inT t) want n = findE t.toList want n := by
  unfold findS findE inT
  rw [wantF_inL hw]
  exact ⟨rfl, rfl⟩
theorem TrOk.apart {t : T} (h : TrOk t) : Apart t.toList := fun p hp q hq => canon_ne h.tiles h.canon p hp q hq
end Go.Proofs.Ytnnbdjfeagcbdaa
namespace Go.Proofs.Ytnnbdjfeagcbdaa
set_option linter.unusedSimpArgs false
set_option linter.unusedVariables false
open Go.RowKit Go.Shelf
attribute [local go_sem] Oper.semAt_some

/-- What Find returns: the error and the spans. -/
def findR (l : List Pc) (o lt n : Int) : Int := if (inB 1000 o && (inB 1000000 lt && inB 1000000 n)) = true then findE l ⟨1, lt, o, 0⟩ n else 1
def findL (l : List Pc) (o lt n : Int) : List (Int × Int) := if (inB 1000 o && (inB 1000000 lt && inB 1000000 n)) = true then findS l ⟨1, lt, o, 0⟩ n else []
theorem find_bad {l : List Pc} {o lt n : Int} (h : (inB 1000 o && (inB 1000000 lt && inB 1000000 n)) = false) : findR l o lt n = 1 ∧ findL l o lt n = [] := by
  unfold findR findL
  rw [h]
  exact ⟨rfl, rfl⟩
theorem find_good {l : List Pc} {o lt n : Int} (h : (inB 1000 o && (inB 1000000 lt && inB 1000000 n)) = true) : findR l o lt n = findE l ⟨1, lt, o, 0⟩ n ∧ findL l o lt n = findS l ⟨1, lt, o, 0⟩ n := by
  unfold findR findL
  rw [h]
  exact ⟨rfl, rfl⟩
theorem take_snocN {α : Type} (l : List α) {i : Nat} (h : i < l.length) : l.take (i + 1) = l.take i ++ [l[i]] := by rw [List.take_succ_eq_append_getElem h]
theorem takeN_len : ∀ (l : List Pc) (n : Int), (takeN l n).1.length ≤ l.length
  | [], n => by simp [takeN]
  | p :: l, n => by
    rw [takeN]
    split
    · simp
    · have := takeN_len l (n - min (p.to - p.from_ + 1) n)
      simp only [List.length_cons]; omega
theorem wantF_len (want : Cl) (l : List Pc) : (wantF want l).length ≤ l.length := List.length_filter_le _ _

set_option maxRecDepth 100000 in
set_option maxHeartbeats 8000000 in
theorem rfind_good (w : World) (v : Value) (xs : List (List Pc)) (hv : RefAt w v xs) (hn : xs.length ≤ 1000) (l : List Pc) (hl : xs.getLast? = some l) (hr : RunsP l) (hll : l.length ≤ 1000000) (o lt n : Int) (h1 : inB 1000 o = true) (h2 : inB 1000000 lt = true) (h3 : 1 ≤ n ∧ n ≤ 1000000) :
    Calls Try.prog 40 #[v, .int .i64 o, .int .i64 lt, .int .i64 n] w fun e w' => ∃ u, e = .returned (.tuple #[u, .int .i64 (findE l ⟨1, lt, o, 0⟩ n)]) ∧ OwnE encS 2 37 w.heap.size w' u (findS l ⟨1, lt, o, 0⟩ n) ∧ Below w.heap.size w w' := by
  obtain ⟨i0, hI0, hz0, hz1, hz2⟩ := info_parts info_span
  have HV := hid hv
  have HL := hid hl
  have HR := hid hr
  obtain ⟨b, cap, us, rfl, hb, hul, hk⟩ := hv.cell
  obtain ⟨nx, hnx⟩ : ∃ nx, nx = xs.length := ⟨_, rfl⟩
  rw [← hnx] at hn ⊢
  obtain ⟨W0, hW0⟩ : ∃ W0, W0 = w.alloc (.cells #[.slice (some ⟨b, 0, none⟩) nx cap] 58) := ⟨_, rfl⟩
  have CX := hid (show Cells W0 w.heap.size #[.slice (some ⟨b, 0, none⟩) nx cap] 58 by rw [hW0]; exact Cells.new _ _ _)
  have BX := hid (show Below w.heap.size w W0 by rw [hW0]; exact (Below.refl _ _).alloc (Nat.le_refl _) _)
  have x0 : W0.cell? ⟨w.heap.size, 0, none⟩ = some (.slice (some ⟨b, 0, none⟩) nx cap) := by simp [CX.out.cell]
  have lx : w.heap.size < W0.heap.size := CX.out.lt
  have HW0 := hid hW0
  have RV := hid (show RefAt W0 (.agg #[.slice (some ⟨b, 0, none⟩) nx cap]) xs by rw [hW0, hnx]; exact HV.out.alloc _)
  rw [hnx] at hn
  have g1 : decide (n < 1) = false := by simp; omega
  have g2 : decide (1000000 < n) = false := by simp; omega
  have NN := hid h3
  have H1 := hid h1
  have H2 := hid h2
  clear hk hul hb hnx hW0 hl hr hv h1 h2
  go_enter Try.func40, Try.ntmps40
  go_wp2_with fail
  rw [← HW0.out]
  refine (member_r_calls o _).mono ?_
  rintro e w1 ⟨rfl, hw1⟩
  rw [hw1, H1.out]
  clear hw1
  go_wp2_with fail
  refine (lot_r_calls lt _).mono ?_
  rintro e w1 ⟨rfl, hw1⟩
  rw [hw1, H2.out]
  clear hw1
  go_wp2_with fail
  refine (last_rcalls W0 _ xs RV.out hn l HL.out).mono ?_
  rintro e w2 ⟨u, rfl, hu2, hb2⟩
  obtain ⟨p, cp, bl, rfl, hp, hc⟩ := hu2.cells
  obtain ⟨m, hmm⟩ : ∃ m, m = l.length := ⟨_, rfl⟩
  rw [← hmm] at hp hll ⊢
  have HP := hid hp
  have HC := hid hc
  have HM := hid hmm
  have B2 := hid (BX.out.trans (hb2.mono BX.out.size))
  have hsz2 := B2.out.size
  clear hp hc hmm hu2 hb2 x0 lx RV CX
  go_wp2_with fail
  go_loopg [3, 10, 12] m (fun k s3 s10 s12 wr => ∃ (i : Nat) (r : Int) (out : List (Int × Int)), i + k = m ∧ s12 = .int .i64 i ∧ s3 = .int .i64 r ∧ (takeN (wantF ⟨1, lt, o, 0⟩ (l.take i)) n) = (out, r) ∧ OwnE encS 2 37 w2.heap.size wr s10 out ∧ Below w2.heap.size w2 wr)
  case atStart => exact ⟨0, n, [], by omega, rfl, rfl, rfl, OwnE.nil _ _, Below.refl _ _⟩
  case round =>
    obtain ⟨i, r, out, hik, rfl, rfl, htk, ho, hb⟩ := hrel
    have HT := hid htk
    have HO := hid ho
    have HB := hid hb
    have hszr := hb.size
    have hgood : ∀ q ∈ wantF ⟨1, lt, o, 0⟩ (l.take i), q.Good := fun q hq => HR.out.good q (List.mem_of_mem_take (List.mem_filter.1 hq).1)
    have hr01 := takeN_rem _ n hgood (by have := NN.out; omega)
    have hol := takeN_len (wantF ⟨1, lt, o, 0⟩ (l.take i)) n
    rw [htk] at hr01 hol
    have hr0 : 0 ≤ r := hr01.1
    have hr1 : r ≤ 1000000 := by have := hr01.2; have := NN.out; simp only at *; omega
    have hol1 : out.length ≤ 1000000 := by
      have h1 := wantF_len ⟨1, lt, o, 0⟩ (l.take i)
      have h2 := List.length_take_le i l
      simp only at hol
      omega
    clear htk ho hb hgood hr01 hol
    by_cases hi : i < m
    · have g1 : decide ((i : Int) < (m : Int)) = true := by simpa using hi
      have hil : i < l.length := by rw [← HM.out]; exact hi
      obtain ⟨rfl, _, hbl⟩ := HP.out (by omega)
      obtain ⟨d0, d1, d2, d3, d4, d5⟩ := run_cell HB.out hbl (HC.out i hil)
      have FR := hid (fun (wx : World) (hx : Below w2.heap.size w2 wx) => run_cell hx hbl (HC.out i hil))
      obtain ⟨q, hq⟩ : ∃ q, q = l[i] := ⟨_, rfl⟩
      rw [← hq] at d0 d1 d2 d3 d4 d5 FR
      have gq := HR.out.good q (by rw [hq]; exact List.getElem_mem hil)
      have gq1 := gq.le
      simp only [Pc.Good] at gq
      have TS := hid (show takeN (wantF ⟨1, lt, o, 0⟩ (l.take (i + 1))) n = if q.cell = ⟨1, lt, o, 0⟩ then (if r ≤ 0 then (out, r) else (out ++ [(q.from_, min (q.to - q.from_ + 1) r)], r - min (q.to - q.from_ + 1) r)) else (out, r) by
        rw [take_snocN l hil, ← hq, wantF_snoc]
        split
        · rw [takeN_snoc, HT.out]
        · rw [List.append_nil, HT.out])
      have i64 : IntKind.i64.wrap ((i : Int) + 1) = (i : Int) + 1 := IntWalk.i64_in _ (by omega)
      have n2 : (0 : Int) ≤ (i : Int) := by omega
      have n3 : (i : Int) < (m : Int) := by omega
      have lbl : bl < wr.heap.size := Nat.lt_of_lt_of_le hbl hszr
      clear hq
      by_cases hr2 : 0 < r
      · have g2 : decide (0 < r) = true := by simpa using hr2
        by_cases hc : q.cell = ⟨1, lt, o, 0⟩
        · have he : ∀ w, (Op.equalIn 10000 88 (.agg #[.int .i64 q.cell.state, .int .i64 q.cell.lot, .int .i64 q.cell.owner, .int .i64 q.cell.holder]) (.agg #[.int .i64 1, .int .i64 lt, .int .i64 o, .int .i64 0])).run Try.prog w = .ok true w := fun w => (run_eqPocket q.cell ⟨1, lt, o, 0⟩ w).trans (by simp [hc])
          have w1' : IntKind.i64.wrap (q.to - q.from_) = q.to - q.from_ := IntWalk.i64_in _ (by omega)
          have w2' : IntKind.i64.wrap (q.to - q.from_ + 1) = q.to - q.from_ + 1 := IntWalk.i64_in _ (by omega)
          obtain ⟨kk, hkk⟩ : ∃ kk, kk = min (q.to - q.from_ + 1) r := ⟨_, rfl⟩
          have TS2 := hid (show takeN (wantF ⟨1, lt, o, 0⟩ (l.take (i + 1))) n = (out ++ [(q.from_, kk)], r - kk) by rw [TS.out, if_pos hc, if_neg (by omega), ← hkk])
          have KK := hid hkk
          have hkb : 1 ≤ kk ∧ kk ≤ 1000000 ∧ kk ≤ r := by omega
          have w3' : IntKind.i64.wrap (r - kk) = r - kk := IntWalk.i64_in _ (by omega)
          clear hc hkk
          go_upto_region 9 with fail
          go_cut [13] (fun s13 wx => s13 = .int .i64 kk ∧ OwnE encS 2 37 w2.heap.size wx u10 out ∧ Below w2.heap.size w2 wx)
          case first =>
            by_cases hmin : q.to - q.from_ + 1 < r
            · have E := hid (show q.to - q.from_ + 1 = kk by rw [KK.out]; omega)
              go_region_held3 (fun wh => wh.cell? ⟨bl, i * 6, none⟩ = some (.int .i64 q.from_) ∧ wh.cell? ⟨bl, i * 6 + 1, none⟩ = some (.int .i64 q.to))
                (first | assumption | go_keep)
                (fail)
              all_goals (
                go_wp2
                go_meet
                exact ⟨by rw [E.out], HO.out.drewN 1, drewN_below HB.out 1⟩)
            · have hx : (q.to - q.from_ + 1 < r) = False := by simp only [eq_iff_iff, iff_false]; exact hmin
              have E := hid (show r = kk by rw [KK.out]; omega)
              clear hmin
              go_region_held3 (fun wh => wh.cell? ⟨bl, i * 6, none⟩ = some (.int .i64 q.from_) ∧ wh.cell? ⟨bl, i * 6 + 1, none⟩ = some (.int .i64 q.to))
                (first | assumption | go_keep)
                (fail)
              all_goals (
                go_wp2
                go_meet
                exact ⟨by rw [E.out], HO.out.drewN 1, drewN_below HB.out 1⟩)
          case rest =>
            obtain ⟨rfl, ho3, hb3⟩ := hcut
            have HO3 := hid ho3
            have HB3 := hid hb3
            have hsz3 := hb3.size
            obtain ⟨d0, d1, d2, d3, d4, d5⟩ := FR.out wc hb3
            have lbl : bl < wc.heap.size := Nat.lt_of_lt_of_le hbl hsz3
            obtain ⟨p0, cap0, rfl, hfrm⟩ := ho3.form
            have O2 := hid (show (wc.alloc (.cells #[.int .i64 q.from_, .int .i64 kk] 37)).ownsRow w2.heap.size 37 2 (.slice p0 out.length cap0) out.length (flatE encS out) from World.ownsRow.alloc HO3.out _)
            clear ho3 hb3 hfrm
            go_wp2_with (at_builtin; refine wpList_append_lies _ rfl (.tmp 65) (.tmp 73) 82 rfl w2.heap.size 37 i0 _ 2 16 under_spans hI0 hz0 hz1 hz2 rfl (by decide) (.slice p0 out.length cap0) (out.length) (flatE encS out) rfl O2.out ⟨wc.heap.size, 0, none⟩ 1 1 [.int .i64 q.from_, .int .i64 kk] rfl rfl ?a1 ?a2 (by decide) ?a3 ?a4 ?a5 _ rfl ?_)
            case a2 => exact ⟨rfl, rfl⟩
            case a3 => unfold maxLen; omega
            case a4 => omega
            case a5 => omega
            intro gg cap1 w9 own1 gr1 at1 lt1
            have bb : Below w2.heap.size w2 w9 := Below.grown (HB3.out.alloc hsz3 _) gr1 (by rw [World.size_alloc]; omega) (fun r h => (World.ownsRow.lt O2.out r h).1)
            have OW := hid own1
            have BB := hid bb
            clear own1 gr1 at1 lt1 bb d0 d1 d2 d3 d4 d5
            go_wp2
            go_roundg (gk - 1)
            case measure => omega
            case rel =>
              refine ⟨i + 1, r - kk, out ++ [(q.from_, kk)], by omega, rfl, rfl, TS2.out, ?_, BB.out⟩
              have := OW.out
              unfold OwnE
              rw [flatE_snoc, List.length_append]
              exact this
        · have he : ∀ w, (Op.equalIn 10000 88 (.agg #[.int .i64 q.cell.state, .int .i64 q.cell.lot, .int .i64 q.cell.owner, .int .i64 q.cell.holder]) (.agg #[.int .i64 1, .int .i64 lt, .int .i64 o, .int .i64 0])).run Try.prog w = .ok false w := fun w => (run_eqPocket q.cell ⟨1, lt, o, 0⟩ w).trans (by simp [hc])
          have TS2 := hid (show takeN (wantF ⟨1, lt, o, 0⟩ (l.take (i + 1))) n = (out, r) by rw [TS.out, if_neg hc])
          clear hc
          go_wp2
          go_roundg (gk - 1)
          case measure => omega
          case rel => exact ⟨i + 1, r, out, by omega, rfl, rfl, TS2.out, HO.out, HB.out⟩
      · have g2 : decide (0 < r) = false := by simpa using hr2
        have F := hid (show findS l ⟨1, lt, o, 0⟩ n = out ∧ findE l ⟨1, lt, o, 0⟩ n = 0 by
          have e : takeN (wantF ⟨1, lt, o, 0⟩ l) n = (out, r) := by
            have h1 : wantF ⟨1, lt, o, 0⟩ l = wantF ⟨1, lt, o, 0⟩ (l.take i) ++ wantF ⟨1, lt, o, 0⟩ (l.drop i) := by unfold wantF; rw [← List.filter_append, List.take_append_drop]
            rw [h1, takeN_append _ _ _ (by rw [HT.out]; simp only; omega), HT.out]
          unfold findS findE
          rw [e, if_pos (by simp only; omega), if_pos (by simp only; omega)]
          exact ⟨rfl, rfl⟩)
        clear hr2
        go_wp2
        refine bodyPost_ret (v := .tuple #[u10, .int .i64 0]) (by simp [results, Try.results40, go_sem]) rfl ⟨u10, by rw [F.out.2], by rw [F.out.1]; exact OwnE.mono HO.out hsz2, B2.out.trans (HB.out.mono hsz2)⟩
    · have g1 : decide ((i : Int) < (m : Int)) = false := by simpa using hi
      have e : takeN (wantF ⟨1, lt, o, 0⟩ l) n = (out, r) := by
        have h1 : l.take i = l := List.take_of_length_le (by have := HM.out; omega)
        have := HT.out
        rwa [h1] at this
      by_cases hr2 : 0 < r
      · have g2 : decide (0 < r) = true := by simpa using hr2
        have F := hid (show findS l ⟨1, lt, o, 0⟩ n = [] ∧ findE l ⟨1, lt, o, 0⟩ n = 4 by
          unfold findS findE
          rw [e, if_neg (by simp only; omega), if_neg (by simp only; omega)]
          exact ⟨rfl, rfl⟩)
        clear e
        go_wp2
        refine bodyPost_ret (v := .tuple #[.slice none 0 0, .int .i64 4]) (by simp [results, Try.results40, go_sem]) rfl ⟨_, by rw [F.out.2], by rw [F.out.1]; exact OwnE.nil _ _, B2.out.trans (HB.out.mono hsz2)⟩
      · have g2 : decide (0 < r) = false := by simpa using hr2
        have F := hid (show findS l ⟨1, lt, o, 0⟩ n = out ∧ findE l ⟨1, lt, o, 0⟩ n = 0 by
          unfold findS findE
          rw [e, if_pos (by simp only; omega), if_pos (by simp only; omega)]
          exact ⟨rfl, rfl⟩)
        clear e hr2
        go_wp2
        refine bodyPost_ret (v := .tuple #[u10, .int .i64 0]) (by simp [results, Try.results40, go_sem]) rfl ⟨u10, by rw [F.out.2], by rw [F.out.1]; exact OwnE.mono HO.out hsz2, B2.out.trans (HB.out.mono hsz2)⟩

set_option maxRecDepth 100000 in
set_option maxHeartbeats 8000000 in
theorem rfind_bad (w : World) (v : Value) (xs : List (List Pc)) (hv : RefAt w v xs) (o lt n : Int) (h : (inB 1000 o && (inB 1000000 lt && inB 1000000 n)) = false) :
    Calls Try.prog 40 #[v, .int .i64 o, .int .i64 lt, .int .i64 n] w fun e w' => e = .returned (.tuple #[.slice none 0 0, .int .i64 1]) ∧ Below w.heap.size w w' := by
  obtain ⟨b, cap, us, rfl, hb, hul, hk⟩ := hv.cell
  clear hb hul hk hv
  have BX := hid (show Below w.heap.size w (w.alloc (.cells #[.slice (some ⟨b, 0, none⟩) xs.length cap] 58)) from (Below.refl _ _).alloc (Nat.le_refl _) _)
  cases h1 : inB 1000 o
  · have H1 := hid h1
    clear h h1
    go_enter Try.func40, Try.ntmps40
    go_wp2_with fail
    refine (member_r_calls o _).mono ?_
    rintro e w1 ⟨rfl, hw1⟩
    rw [hw1, H1.out]
    clear hw1
    go_wp2_with fail
    refine bodyPost_ret (v := .tuple #[.slice none 0 0, .int .i64 1]) (by simp [results, Try.results40, go_sem]) rfl ⟨rfl, BX.out⟩
  · cases h2 : inB 1000000 lt
    · have H1 := hid h1
      have H2 := hid h2
      clear h h1 h2
      go_enter Try.func40, Try.ntmps40
      go_wp2_with fail
      refine (member_r_calls o _).mono ?_
      rintro e w1 ⟨rfl, hw1⟩
      rw [hw1, H1.out]
      clear hw1
      go_wp2_with fail
      refine (lot_r_calls lt _).mono ?_
      rintro e w1 ⟨rfl, hw1⟩
      rw [hw1, H2.out]
      clear hw1
      go_wp2_with fail
      refine bodyPost_ret (v := .tuple #[.slice none 0 0, .int .i64 1]) (by simp [results, Try.results40, go_sem]) rfl ⟨rfl, BX.out⟩
    · have hn : n < 1 ∨ ¬ n < 1 ∧ 1000000 < n := by
        rw [h1, h2] at h
        simp only [inB, Bool.true_and, Bool.and_eq_false_iff, decide_eq_false_iff_not] at h
        omega
      have H1 := hid h1
      have H2 := hid h2
      clear h h1 h2
      rcases hn with hn | ⟨hn1, hn⟩
      · have g1 : decide (n < 1) = true := by simpa using hn
        clear hn
        go_enter Try.func40, Try.ntmps40
        go_wp2_with fail
        refine (member_r_calls o _).mono ?_
        rintro e w1 ⟨rfl, hw1⟩
        rw [hw1, H1.out]
        clear hw1
        go_wp2_with fail
        refine (lot_r_calls lt _).mono ?_
        rintro e w1 ⟨rfl, hw1⟩
        rw [hw1, H2.out]
        clear hw1
        go_wp2_with fail
        refine bodyPost_ret (v := .tuple #[.slice none 0 0, .int .i64 1]) (by simp [results, Try.results40, go_sem]) rfl ⟨rfl, BX.out⟩
      · have g1 : decide (n < 1) = false := by simpa using hn1
        have g2 : decide (1000000 < n) = true := by simpa using hn
        clear hn hn1
        go_enter Try.func40, Try.ntmps40
        go_wp2_with fail
        refine (member_r_calls o _).mono ?_
        rintro e w1 ⟨rfl, hw1⟩
        rw [hw1, H1.out]
        clear hw1
        go_wp2_with fail
        refine (lot_r_calls lt _).mono ?_
        rintro e w1 ⟨rfl, hw1⟩
        rw [hw1, H2.out]
        clear hw1
        go_wp2_with fail
        refine bodyPost_ret (v := .tuple #[.slice none 0 0, .int .i64 1]) (by simp [results, Try.results40, go_sem]) rfl ⟨rfl, BX.out⟩

theorem rfind_calls (w : World) (v : Value) (xs : List (List Pc)) (hv : RefAt w v xs) (hn : xs.length ≤ 1000) (l : List Pc) (hl : xs.getLast? = some l) (hr : RunsP l) (hll : l.length ≤ 1000000) (o lt n : Int) :
    Calls Try.prog 40 #[v, .int .i64 o, .int .i64 lt, .int .i64 n] w fun e w' => ∃ u, e = .returned (.tuple #[u, .int .i64 (findR l o lt n)]) ∧ OwnE encS 2 37 w.heap.size w' u (findL l o lt n) ∧ Below w.heap.size w w' := by
  cases h : (inB 1000 o && (inB 1000000 lt && inB 1000000 n))
  · rw [(find_bad h).1, (find_bad h).2]
    refine (rfind_bad w v xs hv o lt n h).mono ?_
    rintro e w' ⟨he, hb⟩
    exact ⟨_, he, OwnE.nil _ _, hb⟩
  · rw [(find_good h).1, (find_good h).2]
    simp only [Bool.and_eq_true] at h
    refine rfind_good w v xs hv hn l hl hr hll o lt n h.1 h.2.1 ?_
    have := h.2.2
    simp only [inB, Bool.and_eq_true, decide_eq_true_eq] at this
    exact this
end Go.Proofs.Ytnnbdjfeagcbdaa
namespace Go.Proofs.Ytnnbdjfeagcbdaa
set_option linter.unusedSimpArgs false
set_option linter.unusedVariables false
open Go.RowKit Go.Shelf
attribute [local go_sem] Oper.semAt_some
attribute [local go_sem ↓] Go.wp_at_zero Go.wp_at_succ

/-- Three cells of their own: the number, the two results. -/
structure FCells (w : World) (n : Int) (W : World) : Prop where
  c0 : Cells W w.heap.size #[.int .i64 n] 3
  c1 : Cells W (w.heap.size + 1) #[.slice none 0 0] 82
  c2 : Cells W (w.heap.size + 1 + 1) #[.int .i64 0] 24
theorem FCells.below {w : World} {n : Int} {W W' : World} (h : FCells w n W) (hb : Below W.heap.size W W') : FCells w n W' := ⟨h.c0.below hb h.c0.lt, h.c1.below hb h.c1.lt, h.c2.below hb h.c2.lt⟩
theorem FCells.facts {w : World} {n : Int} {W : World} (h : FCells w n W) : W.cell? ⟨w.heap.size, 0, none⟩ = some (.int .i64 n) ∧ W.cell? ⟨w.heap.size + 1, 0, none⟩ = some (.slice none 0 0) ∧ W.cell? ⟨w.heap.size + 1 + 1, 0, none⟩ = some (.int .i64 0) ∧ w.heap.size + 1 + 1 < W.heap.size ∧ (∀ j, W.frozen? ⟨w.heap.size, j, none⟩ = false) ∧ (∀ j, W.frozen? ⟨w.heap.size + 1, j, none⟩ = false) ∧ (∀ j, W.frozen? ⟨w.heap.size + 1 + 1, j, none⟩ = false) := by
  have h0 := h.c0.cell 0
  have h1 := h.c1.cell 0
  have h2 := h.c2.cell 0
  simp at h0 h1 h2
  exact ⟨h0, h1, h2, h.c2.lt, h.c0.frozen, h.c1.frozen, h.c2.frozen⟩
theorem FCells.new (w : World) (n : Int) : FCells w n (((w.alloc (.cells #[.int .i64 n] 3)).alloc (.cells #[.slice none 0 0] 82)).alloc (.cells #[.int .i64 0] 24)) := by
  have h1 := (Cells.new (w.alloc (.cells #[.int .i64 n] 3)) #[.slice none 0 0] 82).alloc (.cells #[.int .i64 0] 24)
  have h2 := Cells.new ((w.alloc (.cells #[.int .i64 n] 3)).alloc (.cells #[.slice none 0 0] 82)) #[.int .i64 0] 24
  rw [World.size_alloc] at h1
  rw [World.size_alloc, World.size_alloc] at h2
  exact ⟨((Cells.new w _ _).alloc _).alloc _, h1, h2⟩
theorem ints_at {W : World} {x : Int} {k : Nat} (h : W.heap.size = k) : IntsAt (W.alloc (.cells #[.int .i64 x] 3)) (.slice (some ⟨k, 0, none⟩) 1 1) [x] := by
  have := ints_one W x 3
  rwa [h] at this

theorem FCells.kept {w : World} {n : Int} {W W' : World} {row : Option Nat} (h : FCells w n W) (hg : W.grownBy W' row) (hr : ∀ r, row = some r → ∃ o : Obj, W.heap[r]? = some o ∧ o.isCells = false) : FCells w n W' := ⟨h.c0.kept hg hr, h.c1.kept hg hr, h.c2.kept hg hr⟩
theorem FCells.grew {w : World} {n : Int} {W W' : World} {row : Option Nat} (h : FCells w n W) (hg : Grew W W' row) (hr : ∀ r, row = some r → w.heap.size + 1 + 1 < r) : FCells w n W' :=
  ⟨hg.cells h.c0 (fun e => by have := hr _ e.symm; omega), hg.cells h.c1 (fun e => by have := hr _ e.symm; omega), hg.cells h.c2 (fun e => by have := hr _ e.symm; omega)⟩
theorem OwnS.kept {B : Nat} {W W' : World} {v : Value} {l : List (Int × Int)} {row : Option Nat} (h : OwnE encS 2 37 B W v l) (hg : W.grownBy W' row) (hr : ∀ r, row = some r → ∃ o : Obj, W.heap[r]? = some o ∧ o.isCells = false) : OwnE encS 2 37 B W' v l :=
  h.moved fun b cs _ hb => hg.block b (Array.getElem?_eq_some_iff.1 hb).1 (fun e => by obtain ⟨o, ho, hc⟩ := hr b e.symm; rw [hb] at ho; cases ho; cases hc)
theorem OwnS.set {B : Nat} {W : World} {v : Value} {l : List (Int × Int)} (h : OwnE encS 2 37 B W v l) {C j : Nat} (hC : C < B) (u : Value) : OwnE encS 2 37 B (W.setCell ⟨C, j, none⟩ u) v l :=
  h.moved fun b cs hb _ => Below.heap_setCell W _ u b (by simp; omega)
/-- Find's state behind some pieces. -/
structure FSt (w : World) (C lo : Nat) (want : Cl) (m : Int) (out : List (Int × Int)) (W : World) : Prop where
  pos : 0 < m ∧ m ≤ 1000000
  ok : Okn out
  c : FCells w m W
  k : Cells W C want.vals 116
  u : ∃ u, Cells W (C + 1) #[u] 82 ∧ OwnE encS 2 37 lo W u out
  below : Below w.heap.size w W
  size : lo ≤ W.heap.size
theorem FSt.kept {w : World} {C lo : Nat} {want : Cl} {m : Int} {out : List (Int × Int)} {W W' : World} {row : Option Nat} (h : FSt w C lo want m out W) (hg : W.grownBy W' row) (hr : ∀ r, row = some r → ∃ o : Obj, W.heap[r]? = some o ∧ o.isCells = false) (hb : Below w.heap.size w W') : FSt w C lo want m out W' := by
  obtain ⟨u, h1, h2⟩ := h.u
  exact ⟨h.pos, h.ok, h.c.kept hg hr, h.k.kept hg hr, ⟨u, h1.kept hg hr, OwnS.kept h2 hg hr⟩, hb, Nat.le_trans h.size hg.size⟩
theorem FSt.after {w : World} {C lo : Nat} {want : Cl} {m : Int} {out : List (Int × Int)} {W W' : World} (h : FSt w C lo want m out W) (hb : Below W.heap.size W W') : FSt w C lo want m out W' := by
  obtain ⟨u, h1, h2⟩ := h.u
  exact ⟨h.pos, h.ok, h.c.below hb, h.k.below hb h.k.lt, ⟨u, h1.below hb h1.lt, h2.below hb⟩, h.below.trans (hb.mono h.below.size), Nat.le_trans h.size hb.size⟩
theorem FCells.put {w : World} {n : Int} {W : World} (h : FCells w n W) (m : Int) : FCells w m (W.setCell ⟨w.heap.size, 0, none⟩ (.int .i64 m)) := ⟨h.c0.set 0 _, h.c1.set_far 0 _ (by omega), h.c2.set_far 0 _ (by omega)⟩
theorem FCells.far {w : World} {n : Int} {W : World} (h : FCells w n W) {C : Nat} (hC : w.heap.size + 1 + 1 < C) (u : Value) : FCells w n (W.setCell ⟨C, 0, none⟩ u) := ⟨h.c0.set_far 0 _ (by omega), h.c1.set_far 0 _ (by omega), h.c2.set_far 0 _ (by omega)⟩
/-- Behind extended: what lies where. -/
structure FMid (w : World) (C lo : Nat) (want : Cl) (m kk : Int) (out2 : List (Int × Int)) (W1 : World) (u u2 : Value) (W2 : World) : Prop where
  c : FCells w m W2
  k : Cells W2 C want.vals 116
  u1 : Cells W2 (C + 1) #[u] 82
  o : OwnE encS 2 37 lo W2 u2 out2
  x : ∃ a, Cells W2 W1.heap.size #[.int .i64 a, .int .i64 kk] 37
  below : Below w.heap.size w W2
  below1 : Below w.heap.size W1 W2
  keeps : KeepsFrom lo W1 W2
  lo1 : lo ≤ W1.heap.size
theorem FSt.mid {w : World} {C lo : Nat} {want : Cl} {m : Int} {out : List (Int × Int)} {W1 : World} (h : FSt w C lo want m out W1) {u : Value} (h1 : Cells W1 (C + 1) #[u] 82) (h2 : OwnE encS 2 37 lo W1 u out) (hC : w.heap.size + 1 + 1 < C ∧ C + 1 < lo) {a kk : Int} {W2 : World} {u2 : Value} {out2 : List (Int × Int)}
    (ho : OwnE encS 2 37 lo W2 u2 out2) (hb : Below lo (W1.alloc (.cells #[.int .i64 a, .int .i64 kk] 37)) W2) (hg : Grew (W1.alloc (.cells #[.int .i64 a, .int .i64 kk] 37)) W2 u.ownBlock) : FMid w C lo want m kk out2 W1 u u2 W2 := by
  have hr : ∀ r, u.ownBlock = some r → lo ≤ r ∧ r < W1.heap.size := fun r e => World.ownsRow.lt h2 r e
  have ha : Below W1.heap.size W1 (W1.alloc (.cells #[.int .i64 a, .int .i64 kk] 37)) := (Below.refl _ _).alloc (Nat.le_refl _) _
  have h2' := h2.alloc (.cells #[.int .i64 a, .int .i64 kk] 37)
  have hb1 : Below w.heap.size W1 W2 := (ha.mono h.below.size).trans (hb.mono (by omega))
  exact ⟨(h.c.below ha).grew hg (fun r e => by have := hr r e; omega), hg.cells (h.k.alloc _) (fun e => by have := hr _ e.symm; omega), hg.cells (h1.alloc _) (fun e => by have := hr _ e.symm; omega), ho,
    ⟨a, hg.cells (Cells.new W1 _ _) (fun e => by have := hr _ e.symm; omega)⟩, h.below.trans hb1, hb1, (keepsFrom_below ha).trans (hg.keeps (ownsRow_isCells h2')), h.size⟩
theorem FMid.facts {w : World} {C lo : Nat} {want : Cl} {m kk : Int} {out2 : List (Int × Int)} {W1 : World} {u u2 : Value} {W2 : World} (h : FMid w C lo want m kk out2 W1 u u2 W2) :
    W2.cell? ⟨w.heap.size, 0, none⟩ = some (.int .i64 m) ∧ W2.frozen? ⟨w.heap.size, 0, none⟩ = false ∧ W2.cell? ⟨C + 1, 0, none⟩ = some u ∧ W2.frozen? ⟨C + 1, 0, none⟩ = false ∧ W2.cell? ⟨W1.heap.size, 1, none⟩ = some (.int .i64 kk) ∧ w.heap.size < W2.heap.size ∧ C + 1 < W2.heap.size ∧ W1.heap.size < W2.heap.size ∧ W2.cell? ⟨w.heap.size + 1, 0, none⟩ = some (.slice none 0 0) ∧ W2.frozen? ⟨w.heap.size + 1, 0, none⟩ = false ∧ W2.cell? ⟨w.heap.size + 1 + 1, 0, none⟩ = some (.int .i64 0) ∧ W2.frozen? ⟨w.heap.size + 1 + 1, 0, none⟩ = false := by
  obtain ⟨k0, k1, k2, k3, f0, f1, f2⟩ := h.c.facts
  have u0 := h.u1.cell 0
  obtain ⟨a, hx⟩ := h.x
  have x1 := hx.cell 1
  simp at u0 x1
  exact ⟨k0, f0 0, u0, h.u1.frozen 0, x1, by omega, h.u1.lt, hx.lt, k1, f1 0, k2, f2 0⟩
/-- Behind the stores of a round that goes on. -/
theorem FMid.on {w : World} {C lo : Nat} {want : Cl} {m kk : Int} {out2 : List (Int × Int)} {W1 : World} {u u2 : Value} {W2 : World} (h : FMid w C lo want m kk out2 W1 u u2 W2) (hC : w.heap.size + 1 + 1 < C ∧ C + 1 < lo) (hp : 0 < m - kk ∧ m - kk ≤ 1000000) (hok : Okn out2) :
    FSt w C lo want (m - kk) out2 ((W2.setCell ⟨C + 1, 0, none⟩ u2).setCell ⟨w.heap.size, 0, none⟩ (.int .i64 (m - kk))) ∧ KeepsFrom lo W1 ((W2.setCell ⟨C + 1, 0, none⟩ u2).setCell ⟨w.heap.size, 0, none⟩ (.int .i64 (m - kk))) ∧ Below w.heap.size W1 ((W2.setCell ⟨C + 1, 0, none⟩ u2).setCell ⟨w.heap.size, 0, none⟩ (.int .i64 (m - kk))) :=
  ⟨⟨hp, hok, (h.c.far (by omega) u2).put _, (h.k.set_far 0 _ (by omega)).set_far 0 _ (by omega), ⟨u2, (h.u1.set 0 u2).set_far 0 _ (by omega), OwnS.set (OwnS.set h.o (by omega) _) (by omega) _⟩, (h.below.setCell (p := ⟨C + 1, 0, none⟩) (by simp; omega) _).setCell (p := ⟨w.heap.size, 0, none⟩) (by simp) _, by have h1 := h.lo1; have h2 := h.keeps.size; simp only [World.setCell]; simp; omega⟩,
    (h.keeps.trans keepsFrom_set).trans keepsFrom_set, (h.below1.setCell (p := ⟨C + 1, 0, none⟩) (by simp; omega) _).setCell (p := ⟨w.heap.size, 0, none⟩) (by simp) _⟩
/-- Behind the stores of the round that found the last pocket. -/
theorem FMid.off {w : World} {C lo : Nat} {want : Cl} {m kk : Int} {out2 : List (Int × Int)} {W1 : World} {u u2 : Value} {W2 : World} (h : FMid w C lo want m kk out2 W1 u u2 W2) (hC : w.heap.size + 1 + 1 < C ∧ C + 1 < lo) (z : Value) {W9 : World}
    (h9 : W9 = (((W2.setCell ⟨C + 1, 0, none⟩ u2).setCell ⟨w.heap.size, 0, none⟩ z).setCell ⟨w.heap.size + 1, 0, none⟩ u2).setCell ⟨w.heap.size + 1 + 1, 0, none⟩ (.int .i64 0)) :
    Cells W9 (w.heap.size + 1) #[u2] 82 ∧ Cells W9 (w.heap.size + 1 + 1) #[.int .i64 0] 24 ∧ OwnE encS 2 37 w.heap.size W9 u2 out2 ∧ Below w.heap.size w W9 ∧ KeepsFrom lo W1 W9 := by
  subst h9
  refine ⟨?_, ?_, ?_, ?_, ?_⟩
  · exact ((((h.c.c1.set_far 0 _ (by omega)).set_far 0 _ (by omega)).set 0 u2).set_far 0 _ (by omega))
  · exact ((((h.c.c2.set_far 0 _ (by omega)).set_far 0 _ (by omega)).set_far 0 _ (by omega)).set 0 _)
  · exact OwnE.mono (OwnS.set (OwnS.set (OwnS.set (OwnS.set h.o (by omega) _) (by omega) _) (by omega) _) (by omega) _) (by omega)
  · exact ((((h.below.setCell (p := ⟨C + 1, 0, none⟩) (by simp; omega) _).setCell (p := ⟨w.heap.size, 0, none⟩) (by simp) _).setCell (p := ⟨w.heap.size + 1, 0, none⟩) (by simp) _).setCell (p := ⟨w.heap.size + 1 + 1, 0, none⟩) (by simp; omega) _)
  · exact (((h.keeps.trans keepsFrom_set).trans keepsFrom_set).trans keepsFrom_set).trans keepsFrom_set
/-- Find has found all. -/
def FEnd (w : World) (want : Cl) (n : Int) (pre : List Pc) (W : World) : Prop :=
  ∃ out pre' p', pre = pre' ++ [p'] ∧ 0 < (fFold want n pre').2 ∧ fFold want n pre = (out, 0) ∧ ∃ u, Cells W (w.heap.size + 1) #[u] 82 ∧ Cells W (w.heap.size + 1 + 1) #[.int .i64 0] 24 ∧ OwnE encS 2 37 w.heap.size W u out ∧ Below w.heap.size w W
/-- The last version's pointer. -/
def NowP (w : World) (sB : Nat) (p : Option Addr) : Prop :=
  ∃ (vB k cap : Nat), Cells w sB #[.slice (some ⟨vB, 0, none⟩) (k + 1) cap] 121 ∧ k ≤ 1000000 ∧ w.cell? ⟨vB, k, none⟩ = some (.pointer p)
theorem NowAt.split {w : World} {sB : Nat} {t : T} (h : NowAt w sB t) : ∃ p, NowP w sB p ∧ TreeAt w p t := by
  obtain ⟨vB, k, cap, p, hc, hk, hv, ht⟩ := h
  exact ⟨p, ⟨vB, k, cap, hc, hk, hv⟩, ht⟩
theorem NowP.below {w w' : World} {sB : Nat} {p : Option Addr} (h : NowP w sB p) (hb : Below w.heap.size w w') : NowP w' sB p := by
  obtain ⟨vB, k, cap, hc, hk, hv⟩ := h
  exact ⟨vB, k, cap, hc.below hb hc.lt, hk, (hb.cell (p := ⟨vB, k, none⟩) (World.block_lt_of_cell? _ _ hv)).trans hv⟩
set_option maxRecDepth 100000 in
set_option maxHeartbeats 2000000 in
theorem nowp_calls (w : World) (sB : Nat) (p : Option Addr) (h : NowP w sB p) :
    Calls Try.prog 85 #[.pointer (some ⟨sB, 0, none⟩)] w fun e w' => e = .returned (.pointer p) ∧ Below w.heap.size w w' := by
  obtain ⟨vB, k, cap, hc, hk, hv⟩ := h
  have h0 : w.cell? ⟨sB, 0, none⟩ = some (.slice (some ⟨vB, 0, none⟩) (k + 1) cap) := by simp [hc.cell]
  have hw1 : IntKind.i64.wrap ((k : Int) + 1 - 1) = (k : Int) := by rw [IntWalk.i64_in _ (by omega)]; omega
  clear hc
  have i1 : (0 : Int) ≤ (k : Int) := by omega
  have i2 : (k : Int) < (k : Int) + 1 := by omega
  go_enter Try.func85, Try.ntmps85
  go_wp2
  go_quiet (fail)
  go_wp2
  go_ret
  exact ⟨rfl, below_drewN (Below.refl _ _) _⟩

set_option maxRecDepth 100000 in
set_option maxHeartbeats 8000000 in
theorem find_good_calls (w : World) (sB vB : Nat) (vs : List T) (hst : StAt w sB vB vs) (hn : vs.length ≤ 1000) {t : T} (ht : vs.getLast? = some t) (tr : TrOk t) (o lt n : Int) (h1 : inB 1000 o = true) (h2 : inB 1000000 lt = true) (h3 : 1 ≤ n ∧ n ≤ 1000000) :
    Calls Try.prog 39 #[.pointer (some ⟨sB, 0, none⟩), .int .i64 o, .int .i64 lt, .int .i64 n] w fun e w' => ∃ u, e = .returned (.tuple #[u, .int .i64 (findE t.toList ⟨1, lt, o, 0⟩ n)]) ∧ OwnE encS 2 37 w.heap.size w' u (findS t.toList ⟨1, lt, o, 0⟩ n) ∧ Below w.heap.size w w' := by
  obtain ⟨want, hwant⟩ : ∃ want : Cl, want = ⟨1, lt, o, 0⟩ := ⟨_, rfl⟩
  have HWANT := hid hwant
  have HWV := hid (show want.vals = #[.int .i64 1, .int .i64 lt, .int .i64 o, .int .i64 0] by rw [hwant])
  rw [← hwant]
  clear hwant
  have ST := hid hst
  have TR := hid tr
  have HT := hid ht
  obtain ⟨p, np, tt⟩ := (now_at hst hn ht).split
  have NP := hid np
  have TT := hid tt
  have H1 := hid h1
  have H2 := hid h2
  have H3 := hid h3
  have hB3 := hid (show inB 1000000 n = true by simp [inB, h3.1, h3.2])
  obtain ⟨W0, hW0⟩ : ∃ W0, W0 = ((w.alloc (.cells #[.int .i64 n] 3)).alloc (.cells #[.slice none 0 0] 82)).alloc (.cells #[.int .i64 0] 24) := ⟨_, rfl⟩
  have F0 := hid (show FCells w n W0 by rw [hW0]; exact FCells.new w n)
  have hz0 : W0.heap.size = w.heap.size + 1 + 1 + 1 := by rw [hW0]; simp
  have B0 := hid (show Below w.heap.size w W0 by rw [hW0]; exact ((((Below.refl _ _).alloc (Nat.le_refl _) _).alloc (by simp) _).alloc (by simp; omega) _))
  have HZ0 := hid hz0
  have HW0 := hid hW0
  clear hst tr ht h1 h2 h3 hW0 hz0 np tt
  obtain ⟨F, hFe⟩ : ∃ F, F = Fence.wide := ⟨_, rfl⟩
  have hF : Free F Try.prog := hFe ▸ free_wide _
  have hro : F.round = none := by rw [hFe]; rfl
  have FE := hid hFe
  clear hFe
  refine (callsIn_wide (n := 6)).1 ?_
  rw [← FE.out]
  refine callsIn_of_wp_marks Try.func39 rfl (hF.fn _) ?_ hro
  rw [FE.out]
  refine wpIn_wide.2 ?_
  simp only [Try.ntmps39, List.size_toArray, List.length_cons, List.length_nil, Nat.reduceAdd, Nat.reduceSub, Array.replicate_succ, Array.replicate_zero, List.push_toArray, List.append_toArray, List.nil_append, List.cons_append]
  go_wp2_with fail
  rw [← HW0.out]
  refine (are_calls 1000 _ _ [o] (ints_at HZ0.out)).mono ?_
  rintro e w1 ⟨rfl, hb1⟩
  rw [all_one, H1.out]
  have B1 := hid (((Below.refl W0.heap.size W0).alloc (Nat.le_refl _) (.cells #[.int .i64 o] 3)).trans (hb1.mono (by simp)))
  have F1 := hid (F0.out.below B1.out)
  clear hb1
  go_wp2_with fail
  refine (are_calls 1000000 _ _ [lt] (ints_one w1 lt _)).mono ?_
  rintro e w2 ⟨rfl, hb2⟩
  rw [all_one, H2.out]
  have B2 := hid (((Below.refl w1.heap.size w1).alloc (Nat.le_refl _) (.cells #[.int .i64 lt] 3)).trans (hb2.mono (by simp)))
  have F2 := hid (F1.out.below B2.out)
  obtain ⟨k0, _, _, l0, _⟩ := F2.out.facts
  clear hb2
  go_wp2_with fail
  refine (are_calls 1000000 _ _ [n] (ints_one w2 n _)).mono ?_
  rintro e w3 ⟨rfl, hb3⟩
  rw [all_one, hB3.out]
  have B3 := hid (((Below.refl w2.heap.size w2).alloc (Nat.le_refl _) (.cells #[.int .i64 n] 3)).trans (hb3.mono (by simp)))
  have F3 := hid (F2.out.below B3.out)
  have BW := hid (B0.out.trans ((B1.out.trans ((B2.out.trans (B3.out.mono B2.out.size)).mono B1.out.size)).mono B0.out.size))
  clear hb3 k0 l0
  obtain ⟨W4, hW4⟩ : ∃ W4, W4 = (w3.alloc (.cells #[.int .i64 1, .int .i64 lt, .int .i64 o, .int .i64 0] 116)).alloc (.cells #[.slice none 0 0] 82) := ⟨_, rfl⟩
  have B4 := hid (show Below w3.heap.size w3 W4 by rw [hW4]; exact ((Below.refl _ _).alloc (Nat.le_refl _) _).alloc (by simp) _)
  have F4 := hid (F3.out.below B4.out)
  have K4 := hid (show Cells W4 w3.heap.size #[.int .i64 1, .int .i64 lt, .int .i64 o, .int .i64 0] 116 by rw [hW4]; exact (Cells.new _ _ _).alloc _)
  have U4 := hid (show Cells W4 (w3.heap.size + 1) #[.slice none 0 0] 82 by
    rw [hW4]
    have := Cells.new (w3.alloc (.cells #[.int .i64 1, .int .i64 lt, .int .i64 o, .int .i64 0] 116)) #[.slice none 0 0] 82
    rwa [World.size_alloc] at this)
  have BW4 := hid (BW.out.trans (B4.out.mono BW.out.size))
  have HW4 := hid hW4
  clear hW4
  go_wp2_with fail
  rw [← HW4.out]
  refine (nowp_calls _ sB p (NP.out.below BW4.out)).mono ?_
  rintro e w5 ⟨rfl, hb5⟩
  have B5 := hid hb5
  clear hb5
  go_wp2_with fail
  refine (within_made p 1 1000000 _).mono ?_
  rintro e w6 ⟨v, rfl, hi6, hb6⟩
  obtain ⟨C0, C1, C2, rfl, hC0, hC1, hC2⟩ := hi6
  have B6 := hid (B5.out.trans (hb6.mono B5.out.size))
  have BW6 := hid (BW4.out.trans (B6.out.mono BW4.out.size))
  have hz6 : w3.heap.size + 1 < w6.heap.size := (U4.out.below B6.out U4.out.lt).lt
  have hw3z : w.heap.size + 1 + 1 < w3.heap.size := F3.out.c2.lt
  have S6 := hid (show FSt w w3.heap.size w6.heap.size want n [] w6 from
    ⟨by have := H3.out; omega, (fun q hq => by cases hq), F4.out.below B6.out, (by rw [HWV.out]; exact K4.out.below B6.out K4.out.lt), ⟨.slice none 0 0, U4.out.below B6.out U4.out.lt, OwnE.nil _ _⟩, BW6.out, Nat.le_refl _⟩)
  have HL := hid (show (visL t 1 1000000).length ≤ 1000000 by rw [visL_fine TR.out.fine]; have := TR.out.tiles.few; omega)
  have VT := hid (visL_fine TR.out.fine)
  clear hb6
  go_wp2
  refine (wpIn_wide (n := 6)).1 ?_
  rw [← FE.out]
  refine wpIn_rangeFunc_ownH hro (by omega) (gf := 102) (lb := #[.pointer (some ⟨C0, 0, none⟩), .pointer (some ⟨C1, 0, none⟩), .pointer (some ⟨C2, 0, none⟩)]) rfl (hF.fn _) (enters_of Try.func102 (by kernel_rfl) rfl)
    (within_stops F hF hro _ C0 C1 C2 w.heap.size p t TR.out.fine.good 1 1000000 ⟨by omega, by omega, by omega⟩ w6 hC0.lt hC1.lt hC2.lt BW6.out.size (by simp [hC0.cell]) (by simp [hC1.cell]) (by simp [hC2.cell]) (Tn.of_tree (Nat.le_refl _) BW6.out TT.out))
    belowK_t (belowK_b BW6.out.size) (Below.refl _ _) (fun _ => rfl)
    (fun pre W => (∃ m out, fFold want n (vals pre) = (out, m) ∧ FSt w w3.heap.size w6.heap.size want m out W) ∧ Below w.heap.size w W)
    (fun k pre W => k = Code.ret ∧ FEnd w want n (vals pre) W)
    (fun s X Y row h hg hr => by
      have hb := ownFrom_below (n₀ := w.heap.size) (w₀ := w) (Nat.le_refl _) BW6.out.size s X Y row h.2 hg hr
      obtain ⟨⟨m, out, h1, h2⟩, _⟩ := h
      exact ⟨⟨m, out, h1, h2.kept hg (fun r e => (hr r e).2) hb⟩, hb⟩)
    (fun k s X Y row h hg hr => by
      obtain ⟨h0, out, pre', p', h1, h2, h3, u, h4, h5, h6, h7⟩ := h
      have hb := ownFrom_below (n₀ := w.heap.size) (w₀ := w) (Nat.le_refl _) BW6.out.size s X Y row h7 hg hr
      exact ⟨h0, out, pre', p', h1, h2, h3, u, h4.kept hg (fun r e => (hr r e).2), h5.kept hg (fun r e => (hr r e).2), OwnS.kept h6 hg (fun r e => (hr r e).2), hb⟩)
    ⟨⟨n, [], rfl, S6.out⟩, BW6.out⟩
    (fun x a' W => ∃ Bx, w6.heap.size ≤ Bx ∧ Cells W Bx x.1.vals 118 ∧ a' = { tmps := #[.pointer (some ⟨sB, 0, none⟩), .int .i64 o, .int .i64 lt, .int .i64 n, undef, undef, undef, .pointer (some ⟨w.heap.size, 0, none⟩), .pointer (some ⟨w.heap.size + 1, 0, none⟩), .pointer (some ⟨w.heap.size + 1 + 1, 0, none⟩), .pointer (some ⟨w3.heap.size, 0, none⟩), .pointer (some ⟨w3.heap.size + 1, 0, none⟩), .pointer (some ⟨Bx, 0, none⟩), undef, .pointer (some ⟨sB, 0, none⟩), .bool false,
      .int .i64 o, .slice (some ⟨w.heap.size + 1 + 1 + 1, 0, none⟩) 1 1, .bool true, .bool false, .bool false, .int .i64 lt, .slice (some ⟨w1.heap.size, 0, none⟩) 1 1, .bool true, .bool false, .bool false, .bool false, .int .i64 n, .slice (some ⟨w2.heap.size, 0, none⟩) 1 1, .bool true, .bool false, .bool false, .int .i64 lt, .int .i64 o, .agg #[.int .i64 1, .int .i64 lt, .int .i64 o, .int .i64 0], .pointer (some ⟨sB, 0, none⟩), .pointer p,
      .func (.func 102) #[] #[.pointer (some ⟨C0, 0, none⟩), .pointer (some ⟨C1, 0, none⟩), .pointer (some ⟨C2, 0, none⟩)], x.1.val, undef, undef, undef, undef, undef, undef, undef, undef, undef, undef, undef, undef, undef, undef, undef, undef, undef, undef, undef, undef, undef], defers := [] })
    (fun x a' s X Y row h hg hr => by obtain ⟨Bx, h1, h2, h3⟩ := h; exact ⟨Bx, h1, h2.kept hg (fun r e => (hr r e).2), h3⟩) ?assign ?body ?done ?stop
  case assign =>
    rintro l pre x W K ⟨⟨m, out, i1, i2⟩, i3⟩ hK
    gi_wp2
    exact hK _ _ ((KeepsOthers.alloc _ _).from _) ((Below.refl _ W).alloc i3.size _) ⟨⟨m, out, i1, i2.after ((Below.refl _ W).alloc (Nat.le_refl _) _)⟩, i3.alloc i3.size _⟩ ⟨W.heap.size, i2.size, Cells.new _ _ _, rfl⟩
  case body =>
    rintro l pre x a' W hl _ ⟨⟨m, out, hf, st⟩, _⟩ ⟨Bx, hBx, hcx, rfl⟩ hlt
    have gx := x.2
    simp only [Pc.Good] at gx
    have pos := st.pos
    obtain ⟨e0, e1, e2, e3, e4, e5⟩ := pc_facts hcx
    obtain ⟨k0, _, _, k3, f0, _, _⟩ := st.c.facts
    have f0' := f0 0
    have kk := st.k
    rw [HWV.out] at kk
    have c0 := kk.cell 0
    have c1 := kk.cell 1
    have c2 := kk.cell 2
    have c3 := kk.cell 3
    simp at c0 c1 c2 c3
    obtain ⟨u, hu, ou⟩ := st.u
    have u0 := hu.cell 0
    simp at u0
    have uf := hu.frozen 0
    have ul := hu.lt
    have hol : out.length ≤ 10000000 := by
      have h1 := fFold_len want n (vals pre)
      rw [hf] at h1
      rw [vals_length] at h1
      have h2 := HL.out
      simp only at h1
      omega
    have SX := hid st
    have CX := hid hcx
    have HFF := hid hf
    have OU := hid ou
    have UU := hid hu
    have HBX := hid hBx
    have lx := hcx.lt
    have hf1 : (F.inRound l).fn 86 := hF.fn _
    have hf2 : (F.inRound l).fn 87 := hF.fn _
    have hdd : ∀ k : Nat, (F.depth.isSome = true → 1 ≤ k) := fun k h => by rw [hF.depth] at h; cases h
    clear st hcx hf ou hu kk hlt f0 hBx
    by_cases hc : x.1.cell = want
    · have he : ∀ w, (Op.equalIn 10000 116 (.agg #[.int .i64 x.1.cell.state, .int .i64 x.1.cell.lot, .int .i64 x.1.cell.owner, .int .i64 x.1.cell.holder]) (.agg #[.int .i64 1, .int .i64 lt, .int .i64 o, .int .i64 0])).run Try.prog w = .ok true w := fun w => by
        have := run_eqCell x.1.cell want w
        rw [HWANT.out] at this
        rw [HWANT.out] at hc
        exact this.trans (by simp [hc])
      obtain ⟨kk, hkk⟩ : ∃ kk, kk = min (x.1.to - x.1.from_ + 1) m := ⟨_, rfl⟩
      have FS := hid (show fFold want n (vals (pre ++ [x])) = (extL out (x.1.from_, kk), m - kk) by rw [vals_append, fFold_snoc, HFF.out, fStep, if_pos hc, ← hkk])
      have KK := hid hkk
      have hkb : 1 ≤ kk ∧ kk ≤ 1000000 ∧ kk ≤ m ∧ x.1.from_ + kk ≤ x.1.to + 1 := by omega
      clear hc hkk
      gi_wp2_with fail
      refine ⟨hF.fn _, ?_⟩
      refine (CallsIn.inRound l (hF.calls _ _ _ _ _ (span_calls x.1 x.2 _))).mono ?_
      rintro e W1 ⟨rfl, hb1⟩
      have S1 := hid (SX.out.after hb1)
      have U1 := hid (UU.out.below hb1 UU.out.lt)
      have O1 := hid (OU.out.below hb1)
      have KB1 := hid (keepsFrom_below (B := w6.heap.size) hb1)
      have BB1 := hid (hb1.mono SX.out.below.size)
      have u0 := U1.out.cell 0
      simp at u0
      have ul := U1.out.lt
      have hz1 := hb1.size
      obtain ⟨k0, _, _, k3, _, _, _⟩ := S1.out.c.facts
      have k4 : w.heap.size < W1.heap.size := by omega
      have i2 : IntKind.i64.wrap (m - kk) = m - kk := IntWalk.i64_in _ (by omega)
      have HC := hid (show w.heap.size + 1 + 1 < w3.heap.size ∧ w3.heap.size + 1 < w6.heap.size from ⟨hw3z, hz6⟩)
      have HLO := hid (show w6.heap.size ≤ (W1.alloc (.cells #[.int .i64 x.1.from_, .int .i64 kk] 37)).heap.size by have := S1.out.size; simp; omega)
      have OK1 := hid (show ∀ q ∈ out, 0 ≤ q.1 ∧ q.1 ≤ 1000000000 ∧ 0 ≤ q.2 ∧ q.2 ≤ 1000000000 from fun q hq => by have := S1.out.ok q hq; omega)
      have OK2 := hid (show 0 ≤ x.1.from_ ∧ x.1.from_ ≤ 1000000000 ∧ 0 ≤ kk ∧ kk ≤ 1000000000 by omega)
      have OK3 := hid (show 0 ≤ ((x.1.from_, kk) : Int × Int).1 ∧ 0 ≤ ((x.1.from_, kk) : Int × Int).2 ∧ ((x.1.from_, kk) : Int × Int).1 + ((x.1.from_, kk) : Int × Int).2 ≤ 1000001 by simp only; omega)
      clear hb1 e0 e1 e2 e3 e4 e5 c0 c1 c2 c3
      by_cases hmin : m < x.1.to - x.1.from_ + 1
      · have E : m = kk := by rw [KK.out]; omega
        have iz : IntKind.i64.wrap 0 = 0 := by decide
        clear i2
        subst E
        gi_wp2_with fail
        refine ⟨hF.fn _, ?_⟩
        refine (CallsIn.inRound l (hF.calls _ _ _ _ _ (extendedG_calls w6.heap.size _ HLO.out u out (O1.out.alloc _) hol OK1.out x.1.from_ _ OK2.out))).mono ?_
        rintro e W2 ⟨u2, rfl, ho2, hb2, hg2⟩
        obtain ⟨p2, cp2, rfl, _⟩ := ho2.form
        have MID := hid (S1.out.mid U1.out O1.out HC.out ho2 hb2 hg2)
        obtain ⟨y0, y1, y2, y3, y4, y5, y6, y7, y8, y9, y10, y11⟩ := MID.out.facts
        clear ho2 hb2 hg2 k0 k3 k4 u0 ul
        gi_wp2
        have OFF := MID.out.off HC.out (.int .i64 0) rfl
        refine ⟨KB1.out.trans OFF.2.2.2.2, rfl, ?_⟩
        refine ⟨_, vals pre, x.1, vals_append _ _, by rw [HFF.out]; exact S1.out.pos.1, ?_, _, OFF.1, OFF.2.1, OFF.2.2.1, OFF.2.2.2.1⟩
        rw [FS.out]; congr 1; omega
      · have E : x.1.to - x.1.from_ + 1 = kk := by rw [KK.out]; omega
        have hx2 : (m < x.1.to - x.1.from_ + 1) = False := by simp only [eq_iff_iff, iff_false]; exact hmin
        clear hmin
        subst E
        gi_wp2_with fail
        refine ⟨hF.fn _, ?_⟩
        refine (CallsIn.inRound l (hF.calls _ _ _ _ _ (extendedG_calls w6.heap.size _ HLO.out u out (O1.out.alloc _) hol OK1.out x.1.from_ _ OK2.out))).mono ?_
        rintro e W2 ⟨u2, rfl, ho2, hb2, hg2⟩
        obtain ⟨p2, cp2, rfl, _⟩ := ho2.form
        have MID := hid (S1.out.mid U1.out O1.out HC.out ho2 hb2 hg2)
        obtain ⟨y0, y1, y2, y3, y4, y5, y6, y7, y8, y9, y10, y11⟩ := MID.out.facts
        clear ho2 hb2 hg2 k0 k3 k4 u0 ul
        by_cases hz : m - (x.1.to - x.1.from_ + 1) = 0
        · have gz : (m - (x.1.to - x.1.from_ + 1) == 0) = true := by simp [hz]
          have HZ := hid hz
          clear hz
          gi_wp2
          have OFF := MID.out.off HC.out (.int .i64 (m - (x.1.to - x.1.from_ + 1))) rfl
          refine ⟨KB1.out.trans OFF.2.2.2.2, rfl, ?_⟩
          refine ⟨_, vals pre, x.1, vals_append _ _, by rw [HFF.out]; exact S1.out.pos.1, ?_, _, OFF.1, OFF.2.1, OFF.2.2.1, OFF.2.2.2.1⟩
          rw [FS.out, HZ.out]
        · have gz : (m - (x.1.to - x.1.from_ + 1) == 0) = false := by simp [hz]
          have ON := hid (MID.out.on HC.out (show 0 < m - (x.1.to - x.1.from_ + 1) ∧ m - (x.1.to - x.1.from_ + 1) ≤ 1000000 by omega) (S1.out.ok.ext OK3.out))
          clear hz
          gi_wp2
          refine ⟨(KB1.out.trans ON.out.2.1), (BB1.out.trans ON.out.2.2), ⟨_, _, FS.out, ON.out.1⟩, ON.out.1.below⟩
    · have he : ∀ w, (Op.equalIn 10000 116 (.agg #[.int .i64 x.1.cell.state, .int .i64 x.1.cell.lot, .int .i64 x.1.cell.owner, .int .i64 x.1.cell.holder]) (.agg #[.int .i64 1, .int .i64 lt, .int .i64 o, .int .i64 0])).run Try.prog w = .ok false w := fun w => by
        have := run_eqCell x.1.cell want w
        rw [HWANT.out] at this
        rw [HWANT.out] at hc
        exact this.trans (by simp [hc])
      have FS := hid (show fFold want n (vals (pre ++ [x])) = (out, m) by rw [vals_append, fFold_snoc, HFF.out, fStep, if_neg hc])
      clear hc
      gi_wp2
      exact ⟨(KeepsOthers.refl _).from _, Below.refl _ _, ⟨m, out, FS.out, SX.out⟩, SX.out.below⟩
  case done =>
    rintro D ys W hD hS ⟨⟨m, out, i1, i2⟩, i3⟩ hK
    obtain ⟨k0, k1, k2, k3, f0, f1, f2⟩ := i2.c.facts
    have I1 := hid i1
    have I2 := hid i2
    have I3 := hid i3
    have HK := hid hK
    have HS := hid hS
    have FN := hid (find_none (want := want) (n := n) (l := t.toList) TR.out.fine.sorted.good TR.out.apart (by rw [← VT.out, ← hS, i1]; exact i2.pos.1))
    have f1' := f1 0
    have f2' := f2 0
    clear i1 i2 i3 hK hS f0 f1 f2
    go_wp2
    have k1' := (KeepsOthers.setCell W ⟨w.heap.size + 1, 0, none⟩ (.slice none 0 0)).same D _ HK.out rfl
    have k2' := (KeepsOthers.setCell (W.setCell ⟨w.heap.size + 1, 0, none⟩ (.slice none 0 0)) ⟨w.heap.size + 1 + 1, 0, none⟩ (.int .i64 4)).same D _ k1' rfl
    refine ⟨by simp, .inl ⟨_, _, rfl, run_takeDeferred (b := D) (ds := []) k2', ?_⟩⟩
    have hc1 := (((I2.out.c.c1.set 0 (.slice none 0 0)).set_far (C := w.heap.size + 1 + 1) 0 (.int .i64 4) (by omega)).put (l := D) (o := .deferred (some [])) k2' rfl (.deferred none)).cell 0
    have hc2 := (((I2.out.c.c2.set_far (C := w.heap.size + 1) 0 (.slice none 0 0) (by omega)).set 0 (.int .i64 4)).put (l := D) (o := .deferred (some [])) k2' rfl (.deferred none)).cell 0
    simp at hc1 hc2
    refine ⟨.tuple #[.slice none 0 0, .int .i64 4], by simp [results, Try.results39, go_sem, hc1, hc2], ?_⟩
    refine ⟨_, by rw [FN.out.2], by rw [FN.out.1]; exact OwnE.nil _ _, ?_⟩
    have b1 := (I3.out.setCell (p := ⟨w.heap.size + 1, 0, none⟩) (by simp) (.slice none 0 0)).setCell (p := ⟨w.heap.size + 1 + 1, 0, none⟩) (by simp; omega) (.int .i64 4)
    exact b1.trans (belowK_b (w := w) (Nat.le_refl _) _ D _ _ (by have := BW6.out.size; omega) k2' rfl rfl)
  case stop =>
    rintro D k pre W hD hp ⟨rfl, out, pre', p', h1, h2, h3, u, h4, h5, h6, h7⟩ hK
    have HD := hid hK
    have HP := hid hp
    have HQ := hid (And.intro h1 (And.intro h2 h3))
    have H4 := hid h4
    have H5 := hid h5
    have H6 := hid h6
    have H7 := hid h7
    clear hp hK h1 h2 h3 h4 h5 h6 h7
    gi_wp2
    refine ⟨by simp, .inl ⟨_, _, rfl, run_takeDeferred (b := D) (ds := []) HD.out, ?_⟩⟩
    have hc1 := (H4.out.put (l := D) (o := .deferred (some [])) HD.out rfl (.deferred none)).cell 0
    have hc2 := (H5.out.put (l := D) (o := .deferred (some [])) HD.out rfl (.deferred none)).cell 0
    simp at hc1 hc2
    have h6 := OwnS.kept H6.out (grownBy_putObj' W D (.deferred none)) (fun r e => by cases e; exact ⟨_, HD.out, rfl⟩)
    have hpre : pre' ++ [p'] <+: t.toList := by rw [← HQ.out.1, ← VT.out]; exact HP.out
    have fd := find_done (want := want) (n := n) TR.out.fine.sorted.good TR.out.apart hpre HQ.out.2.1 (by rw [← HQ.out.1, HQ.out.2.2])
    rw [← HQ.out.1, HQ.out.2.2] at fd
    refine ⟨.tuple #[u, .int .i64 0], by simp [results, Try.results39, go_sem, hc1, hc2], ?_⟩
    refine ⟨u, by rw [fd.2], by rw [fd.1]; exact h6, ?_⟩
    exact H7.out.trans (belowK_b (w := w) (Nat.le_refl _) _ D _ _ (by have := BW6.out.size; omega) HD.out rfl rfl)

set_option maxRecDepth 100000 in
set_option maxHeartbeats 8000000 in
theorem find_bad_calls (w : World) (sB : Nat) (o lt n : Int) (h : (inB 1000 o && (inB 1000000 lt && inB 1000000 n)) = false) :
    Calls Try.prog 39 #[.pointer (some ⟨sB, 0, none⟩), .int .i64 o, .int .i64 lt, .int .i64 n] w fun e w' => e = .returned (.tuple #[.slice none 0 0, .int .i64 1]) ∧ Below w.heap.size w w' := by
  obtain ⟨W0, hW0⟩ : ∃ W0, W0 = ((w.alloc (.cells #[.int .i64 n] 3)).alloc (.cells #[.slice none 0 0] 82)).alloc (.cells #[.int .i64 0] 24) := ⟨_, rfl⟩
  have F0 := hid (show FCells w n W0 by rw [hW0]; exact FCells.new w n)
  have hz0 : W0.heap.size = w.heap.size + 1 + 1 + 1 := by rw [hW0]; simp
  have B0 := hid (show Below w.heap.size w W0 by rw [hW0]; exact ((((Below.refl _ _).alloc (Nat.le_refl _) _).alloc (by simp) _).alloc (by simp; omega) _))
  have HZ0 := hid hz0
  have HW0 := hid hW0
  clear hW0 hz0
  obtain ⟨F, hFe⟩ : ∃ F, F = Fence.wide := ⟨_, rfl⟩
  have hF : Free F Try.prog := hFe ▸ free_wide _
  have hro : F.round = none := by rw [hFe]; rfl
  have FE := hid hFe
  clear hFe
  refine (callsIn_wide (n := 6)).1 ?_
  rw [← FE.out]
  refine callsIn_of_wp_marks Try.func39 rfl (hF.fn _) ?_ hro
  rw [FE.out]
  refine wpIn_wide.2 ?_
  simp only [Try.ntmps39, List.size_toArray, List.length_cons, List.length_nil, Nat.reduceAdd, Nat.reduceSub, Array.replicate_succ, Array.replicate_zero, List.push_toArray, List.append_toArray, List.nil_append, List.cons_append]
  cases h1 : inB 1000 o
  · have H1 := hid h1
    clear h h1
    go_wp2_with fail
    rw [← HW0.out]
    refine (are_calls 1000 _ _ [o] (ints_at HZ0.out)).mono ?_
    rintro e w1 ⟨rfl, hb1⟩
    rw [all_one, H1.out]
    have B1 := hid (((Below.refl W0.heap.size W0).alloc (Nat.le_refl _) (.cells #[.int .i64 o] 3)).trans (hb1.mono (by simp)))
    have F1 := hid (F0.out.below B1.out)
    clear hb1
    have FF := F1
    have BW := hid (B0.out.trans (B1.out.mono B0.out.size))
    obtain ⟨k0, k1, k2, k3, f0, f1, f2⟩ := FF.out.facts
    have f1' := f1 0
    have f2' := f2 0
    clear f0 f1 f2
    go_wp2
    have hc1 := ((FF.out.c1.set 0 (.slice none 0 0)).set_far (C := w.heap.size + 1 + 1) 0 (.int .i64 1) (by omega)).cell 0
    have hc2 := ((FF.out.c2.set_far (C := w.heap.size + 1) 0 (.slice none 0 0) (by omega)).set 0 (.int .i64 1)).cell 0
    simp at hc1 hc2
    refine ⟨.tuple #[.slice none 0 0, .int .i64 1], by simp [results, Try.results39, go_sem, hc1, hc2], rfl, ?_⟩
    exact (BW.out.setCell (p := ⟨w.heap.size + 1, 0, none⟩) (by simp) _).setCell (p := ⟨w.heap.size + 1 + 1, 0, none⟩) (by simp; omega) _
  · cases h2 : inB 1000000 lt
    · have H1 := hid h1
      have H2 := hid h2
      clear h h1 h2
      go_wp2_with fail
      rw [← HW0.out]
      refine (are_calls 1000 _ _ [o] (ints_at HZ0.out)).mono ?_
      rintro e w1 ⟨rfl, hb1⟩
      rw [all_one, H1.out]
      have B1 := hid (((Below.refl W0.heap.size W0).alloc (Nat.le_refl _) (.cells #[.int .i64 o] 3)).trans (hb1.mono (by simp)))
      have F1 := hid (F0.out.below B1.out)
      clear hb1
      go_wp2_with fail
      refine (are_calls 1000000 _ _ [lt] (ints_one w1 lt _)).mono ?_
      rintro e w2 ⟨rfl, hb2⟩
      rw [all_one, H2.out]
      have B2 := hid (((Below.refl w1.heap.size w1).alloc (Nat.le_refl _) (.cells #[.int .i64 lt] 3)).trans (hb2.mono (by simp)))
      have F2 := hid (F1.out.below B2.out)
      obtain ⟨k0, _, _, l0, _⟩ := F2.out.facts
      clear hb2
      clear k0 l0
      have FF := F2
      have BW := hid (B0.out.trans ((B1.out.trans (B2.out.mono B1.out.size)).mono B0.out.size))
      obtain ⟨k0, k1, k2, k3, f0, f1, f2⟩ := FF.out.facts
      have f1' := f1 0
      have f2' := f2 0
      clear f0 f1 f2
      go_wp2
      have hc1 := ((FF.out.c1.set 0 (.slice none 0 0)).set_far (C := w.heap.size + 1 + 1) 0 (.int .i64 1) (by omega)).cell 0
      have hc2 := ((FF.out.c2.set_far (C := w.heap.size + 1) 0 (.slice none 0 0) (by omega)).set 0 (.int .i64 1)).cell 0
      simp at hc1 hc2
      refine ⟨.tuple #[.slice none 0 0, .int .i64 1], by simp [results, Try.results39, go_sem, hc1, hc2], rfl, ?_⟩
      exact (BW.out.setCell (p := ⟨w.heap.size + 1, 0, none⟩) (by simp) _).setCell (p := ⟨w.heap.size + 1 + 1, 0, none⟩) (by simp; omega) _
    · have h3 : inB 1000000 n = false := by rw [h1, h2] at h; simpa using h
      have H1 := hid h1
      have H2 := hid h2
      have H3 := hid h3
      clear h h1 h2 h3
      go_wp2_with fail
      rw [← HW0.out]
      refine (are_calls 1000 _ _ [o] (ints_at HZ0.out)).mono ?_
      rintro e w1 ⟨rfl, hb1⟩
      rw [all_one, H1.out]
      have B1 := hid (((Below.refl W0.heap.size W0).alloc (Nat.le_refl _) (.cells #[.int .i64 o] 3)).trans (hb1.mono (by simp)))
      have F1 := hid (F0.out.below B1.out)
      clear hb1
      go_wp2_with fail
      refine (are_calls 1000000 _ _ [lt] (ints_one w1 lt _)).mono ?_
      rintro e w2 ⟨rfl, hb2⟩
      rw [all_one, H2.out]
      have B2 := hid (((Below.refl w1.heap.size w1).alloc (Nat.le_refl _) (.cells #[.int .i64 lt] 3)).trans (hb2.mono (by simp)))
      have F2 := hid (F1.out.below B2.out)
      obtain ⟨k0, _, _, l0, _⟩ := F2.out.facts
      clear hb2
      go_wp2_with fail
      refine (are_calls 1000000 _ _ [n] (ints_one w2 n _)).mono ?_
      rintro e w3 ⟨rfl, hb3⟩
      rw [all_one, H3.out]
      have B3 := hid (((Below.refl w2.heap.size w2).alloc (Nat.le_refl _) (.cells #[.int .i64 n] 3)).trans (hb3.mono (by simp)))
      have F3 := hid (F2.out.below B3.out)
      clear hb3 k0 l0
      have FF := F3
      have BW := hid (B0.out.trans ((B1.out.trans ((B2.out.trans (B3.out.mono B2.out.size)).mono B1.out.size)).mono B0.out.size))
      obtain ⟨k0, k1, k2, k3, f0, f1, f2⟩ := FF.out.facts
      have f1' := f1 0
      have f2' := f2 0
      clear f0 f1 f2
      go_wp2
      have hc1 := ((FF.out.c1.set 0 (.slice none 0 0)).set_far (C := w.heap.size + 1 + 1) 0 (.int .i64 1) (by omega)).cell 0
      have hc2 := ((FF.out.c2.set_far (C := w.heap.size + 1) 0 (.slice none 0 0) (by omega)).set 0 (.int .i64 1)).cell 0
      simp at hc1 hc2
      refine ⟨.tuple #[.slice none 0 0, .int .i64 1], by simp [results, Try.results39, go_sem, hc1, hc2], rfl, ?_⟩
      exact (BW.out.setCell (p := ⟨w.heap.size + 1, 0, none⟩) (by simp) _).setCell (p := ⟨w.heap.size + 1 + 1, 0, none⟩) (by simp; omega) _

theorem Find_calls (w : World) (sB vB : Nat) (vs : List T) (hst : StAt w sB vB vs) (hn : vs.length ≤ 1000) {t : T} (ht : vs.getLast? = some t) (tr : TrOk t) (o lt n : Int) :
    Calls Try.prog 39 #[.pointer (some ⟨sB, 0, none⟩), .int .i64 o, .int .i64 lt, .int .i64 n] w fun e w' => ∃ u, e = .returned (.tuple #[u, .int .i64 (findR (inT t) o lt n)]) ∧ OwnE encS 2 37 w.heap.size w' u (findL (inT t) o lt n) ∧ Below w.heap.size w w' := by
  cases h : (inB 1000 o && (inB 1000000 lt && inB 1000000 n))
  · rw [(find_bad h).1, (find_bad h).2]
    refine (find_bad_calls w sB o lt n h).mono ?_
    rintro e w' ⟨he, hb⟩
    exact ⟨_, he, OwnE.nil _ _, hb⟩
  · rw [(find_good h).1, (find_good h).2, (find_inT (want := ⟨1, lt, o, 0⟩) (show (1 : Int) ≠ 0 by decide) t n).1, (find_inT (want := ⟨1, lt, o, 0⟩) (show (1 : Int) ≠ 0 by decide) t n).2]
    simp only [Bool.and_eq_true] at h
    refine find_good_calls w sB vB vs hst hn ht tr o lt n h.1 h.2.1 ?_
    have := h.2.2
    simp only [inB, Bool.and_eq_true, decide_eq_true_eq] at this
    exact this
end Go.Proofs.Ytnnbdjfeagcbdaa
namespace Go.Proofs.Ytnnbdjfeagcbdaa
set_option linter.unusedSimpArgs false
set_option linter.unusedVariables false
open Go.RowKit Go.Shelf
attribute [local go_sem] Oper.semAt_some

/-- One run's part in edge. -/
def edgeS (n o : Int) (r : Pc) : Int := if r.to + 1 > n then min (if r.from_ > n then min o r.from_ else o) (r.to + 1) else (if r.from_ > n then min o r.from_ else o)
def edgeL (l : List Pc) (n : Int) : Int := l.foldl (edgeS n) 1000001
theorem edgeS_spec {n o : Int} (r : Pc) (h : n < o) : n < edgeS n o r ∧ edgeS n o r ≤ o ∧ (r.from_ ≤ n ∨ edgeS n o r ≤ r.from_) ∧ (r.to + 1 ≤ n ∨ edgeS n o r ≤ r.to + 1) := by
  unfold edgeS
  split <;> split <;> omega
theorem edge_fold : ∀ (l : List Pc) {n o : Int}, n < o → n < l.foldl (edgeS n) o ∧ l.foldl (edgeS n) o ≤ o ∧ ∀ r ∈ l, (r.from_ ≤ n ∨ l.foldl (edgeS n) o ≤ r.from_) ∧ (r.to + 1 ≤ n ∨ l.foldl (edgeS n) o ≤ r.to + 1)
  | [], n, o, h => ⟨h, Int.le_refl _, fun r hr => by cases hr⟩
  | r :: l, n, o, h => by
    obtain ⟨h1, h2, h3, h4⟩ := edgeS_spec r h
    obtain ⟨k1, k2, k3⟩ := edge_fold l h1
    rw [List.foldl_cons]
    refine ⟨k1, Int.le_trans k2 h2, fun q hq => ?_⟩
    rcases List.mem_cons.1 hq with rfl | hq
    · omega
    · exact k3 q hq
theorem valL_near : ∀ {l : List Pc} {n m : Int}, (∀ r ∈ l, (r.from_ ≤ n ∧ n ≤ r.to ↔ r.from_ ≤ m ∧ m ≤ r.to)) → valL l m = valL l n
  | [], _, _, _ => rfl
  | r :: l, n, m, h => by
    have h1 := h r (by simp)
    have ih := valL_near (l := l) (n := n) (m := m) fun q hq => h q (List.mem_cons_of_mem _ hq)
    unfold valL
    by_cases hn : r.from_ ≤ n ∧ n ≤ r.to
    · rw [if_pos hn, if_pos (h1.1 hn)]
    · rw [if_neg hn, if_neg (fun e => hn (h1.2 e)), ih]
theorem edge_spec {l : List Pc} {n : Int} (h : n ≤ 1000000) : n < edgeL l n ∧ edgeL l n ≤ 1000001 ∧ ∀ m, n ≤ m → m < edgeL l n → valL l m = valL l n := by
  obtain ⟨h1, h2, h3⟩ := edge_fold l (n := n) (o := 1000001) (by omega)
  refine ⟨h1, h2, fun m m1 m2 => valL_near fun r hr => ?_⟩
  have := h3 r hr
  unfold edgeL at m2
  omega

set_option maxRecDepth 100000 in
set_option maxHeartbeats 4000000 in
theorem edge_rcalls (w : World) (v : Value) (l : List Pc) (hv : RunsV 0 w v l) (hl : l.length ≤ 1000000) (hr : RunsP l) (x : Int) :
    Calls Try.prog 92 #[v, .int .i64 x] w fun e w' => e = .returned (.int .i64 (edgeL l x)) ∧ Below w.heap.size w w' := by
  obtain ⟨p, cap, b, rfl, hp, hc⟩ := hv.cells
  obtain ⟨n, hn⟩ : ∃ n, n = l.length := ⟨_, rfl⟩
  rw [← hn] at hp hl ⊢
  have HP := hid hp
  have HC := hid hc
  have HN := hid hn
  have HR := hid hr
  obtain ⟨R, hR⟩ : ∃ R, R = edgeL l x := ⟨_, rfl⟩
  have HE := hid hR
  rw [← hR]
  clear hp hc hn hr hR
  go_enter Try.func92, Try.ntmps92
  go_wp2_with fail
  go_loopg [5, 6] n (fun k s5 s6 wr => ∃ (i : Nat) (o : Int), i + k = n ∧ s6 = .int .i64 i ∧ s5 = .int .i64 o ∧ (l.drop i).foldl (edgeS x) o = R ∧ Below w.heap.size w wr)
  case atStart => exact ⟨0, 1000001, by omega, rfl, rfl, HE.out.symm, Below.refl _ _⟩
  case round =>
    obtain ⟨i, o, hik, rfl, rfl, hfo, hb⟩ := hrel
    have HF := hid hfo
    have HB := hid hb
    by_cases hi : i < n
    · have hil : i < l.length := by rw [← HN.out]; exact hi
      obtain ⟨rfl, _, hbl⟩ := HP.out (by omega)
      obtain ⟨d0, d1, d2, d3, d4, d5⟩ := run_cell hb hbl (HC.out i hil)
      obtain ⟨r, hr⟩ : ∃ r, r = l[i] := ⟨_, rfl⟩
      have gr := (HR.out.good r (by rw [hr]; exact List.getElem_mem hil)).le
      rw [← hr] at d0 d1 d2 d3 d4 d5
      have DR := hid (show (l.drop (i + 1)).foldl (edgeS x) (edgeS x o r) = R by rw [← HF.out, List.drop_eq_getElem_cons hil, ← hr, List.foldl_cons])
      have i64 : IntKind.i64.wrap ((i : Int) + 1) = (i : Int) + 1 := IntWalk.i64_in _ (by omega)
      have t64 : IntKind.i64.wrap (r.to + 1) = r.to + 1 := IntWalk.i64_in _ (by omega)
      have g2 : decide ((i : Int) < (n : Int)) = true := by simpa using hi
      clear hr hb hfo
      by_cases h1 : x < r.from_
      · have g3 : decide (x < r.from_) = true := by simpa using h1
        by_cases h2 : r.from_ < o
        · by_cases k1 : x < r.to + 1
          · have g4 : decide (x < r.to + 1) = true := by simpa using k1
            by_cases k2 : r.to + 1 < r.from_
            · exact absurd k2 (by omega)
            · have k3 : (r.to + 1 < r.from_) = False := by simp only [eq_iff_iff, iff_false]; exact k2
              have E := hid (show edgeS x o r = r.from_ by unfold edgeS; split <;> (try split) <;> omega)
              clear k1 k2 h1; go_wp2
              go_roundg (gk - 1)
              case measure => omega
              case rel => exact ⟨i + 1, _, by omega, rfl, rfl, by rw [← E.out]; exact DR.out, HB.out⟩
          · have g4 : decide (x < r.to + 1) = false := by simpa using k1
            have E := hid (show edgeS x o r = r.from_ by unfold edgeS; split <;> (try split) <;> omega)
            clear k1 h1; go_wp2
            go_roundg (gk - 1)
            case measure => omega
            case rel => exact ⟨i + 1, _, by omega, rfl, rfl, by rw [← E.out]; exact DR.out, HB.out⟩
        · have h3 : (r.from_ < o) = False := by simp only [eq_iff_iff, iff_false]; exact h2
          by_cases k1 : x < r.to + 1
          · have g4 : decide (x < r.to + 1) = true := by simpa using k1
            by_cases k2 : r.to + 1 < o
            · have E := hid (show edgeS x o r = r.to + 1 by unfold edgeS; split <;> (try split) <;> omega)
              clear k1 h1 h2; go_wp2
              go_roundg (gk - 1)
              case measure => omega
              case rel => exact ⟨i + 1, _, by omega, rfl, rfl, by rw [← E.out]; exact DR.out, HB.out⟩
            · have k3 : (r.to + 1 < o) = False := by simp only [eq_iff_iff, iff_false]; exact k2
              have E := hid (show edgeS x o r = o by unfold edgeS; split <;> (try split) <;> omega)
              clear k1 k2 h1 h2; go_wp2
              go_roundg (gk - 1)
              case measure => omega
              case rel => exact ⟨i + 1, _, by omega, rfl, rfl, by rw [← E.out]; exact DR.out, HB.out⟩
          · have g4 : decide (x < r.to + 1) = false := by simpa using k1
            have E := hid (show edgeS x o r = o by unfold edgeS; split <;> (try split) <;> omega)
            clear k1 h1 h2; go_wp2
            go_roundg (gk - 1)
            case measure => omega
            case rel => exact ⟨i + 1, _, by omega, rfl, rfl, by rw [← E.out]; exact DR.out, HB.out⟩
      · have g3 : decide (x < r.from_) = false := by simpa using h1
        by_cases k1 : x < r.to + 1
        · have g4 : decide (x < r.to + 1) = true := by simpa using k1
          by_cases k2 : r.to + 1 < o
          · have E := hid (show edgeS x o r = r.to + 1 by unfold edgeS; split <;> (try split) <;> omega)
            clear k1 h1; go_wp2
            go_roundg (gk - 1)
            case measure => omega
            case rel => exact ⟨i + 1, _, by omega, rfl, rfl, by rw [← E.out]; exact DR.out, HB.out⟩
          · have k3 : (r.to + 1 < o) = False := by simp only [eq_iff_iff, iff_false]; exact k2
            have E := hid (show edgeS x o r = o by unfold edgeS; split <;> (try split) <;> omega)
            clear k1 k2 h1; go_wp2
            go_roundg (gk - 1)
            case measure => omega
            case rel => exact ⟨i + 1, _, by omega, rfl, rfl, by rw [← E.out]; exact DR.out, HB.out⟩
        · have g4 : decide (x < r.to + 1) = false := by simpa using k1
          have E := hid (show edgeS x o r = o by unfold edgeS; split <;> (try split) <;> omega)
          clear k1 h1; go_wp2
          go_roundg (gk - 1)
          case measure => omega
          case rel => exact ⟨i + 1, _, by omega, rfl, rfl, by rw [← E.out]; exact DR.out, HB.out⟩
    · have g2 : decide ((i : Int) < (n : Int)) = false := by simpa using hi
      have FI := hid (show o = R by
        have e : l.drop i = [] := List.drop_of_length_le (by have := HN.out; omega)
        rw [← hfo, e]; rfl)
      clear hb hfo
      go_wp2
      exact bodyPost_ret (v := .int .i64 o) (by simp [results, Try.results92, go_sem]) rfl ⟨by rw [FI.out], HB.out⟩
end Go.Proofs.Ytnnbdjfeagcbdaa
namespace Go.Proofs.Ytnnbdjfeagcbdaa
set_option linter.unusedSimpArgs false
set_option linter.unusedVariables false
open Go.RowKit Go.Shelf

theorem first_zero {t : T} (tr : TrOk t) {e : Cl → Int} {a b : Int} (h1 : 1 ≤ a) (hab : a ≤ b) (h2 : b ≤ 1000000) (h : ∀ n, a ≤ n → n ≤ b → e (valL t.toList n) = 0) : firstE e (visL t a b) = 0 := by
  rw [visL_eq _ _ t tr.fine.sorted]
  rcases firstE_at e tr.tiles h1 hab h2 with ⟨h3, _⟩ | ⟨h3, n, n1, n2, n3, _⟩
  · exact h3
  · rw [h n n1 n2] at n3; exact absurd n3.symm h3
/-- A span in one state. -/
def Sp (t : T) (a c : Int) (d : Cl) : Prop := ∀ n, a ≤ n → n ≤ a + c - 1 → valL t.toList n = d
/-- Two versions that are the same outside a span. -/
def Off (t u : T) (a c : Int) : Prop := ∀ n, ¬ (a ≤ n ∧ n ≤ a + c - 1) → valL u.toList n = valL t.toList n
theorem Off.refl (t : T) (a c : Int) : Off t t a c := fun _ _ => rfl
theorem Off.trans {t u v : T} {a c : Int} (h : Off t u a c) (k : Off u v a c) : Off t v a c := fun n hn => (k n hn).trans (h n hn)
theorem Off.symm {t u : T} {a c : Int} (h : Off t u a c) : Off u t a c := fun n hn => (h n hn).symm
theorem Sp.step {t t' : T} {a c : Int} {d : Cl} (tr : TrOk t) (h : Sp t a c d) (hac : 1 ≤ a ∧ 1 ≤ c ∧ a + c - 1 ≤ 1000000) {g : Cl → Cl} (hl : t'.toList = changedP t.toList a c g) : Sp t' a c (g d) ∧ Off t t' a c := by
  refine ⟨fun n h1 h2 => ?_, fun n hn => ?_⟩
  · rw [hl, changedP_val g tr.tiles hac.1 hac.2.1 hac.2.2, if_pos ⟨h1, h2⟩, h n h1 h2]
  · rw [hl, changedP_val g tr.tiles hac.1 hac.2.1 hac.2.2, if_neg hn]
/-- The same states: the same tiling. -/
theorem same_list {t u : T} (ht : TrOk t) (hu : TrOk u) (h : ∀ n, valL u.toList n = valL t.toList n) : u.toList = t.toList :=
  canon_unique hu.tiles ht.tiles hu.canon ht.canon fun n _ _ => h n
theorem sp_same {t u : T} (ht : TrOk t) (hu : TrOk u) {a c : Int} {d : Cl} (h1 : Sp t a c d) (h2 : Sp u a c d) (ho : Off t u a c) : u.toList = t.toList :=
  same_list ht hu fun n => by
    by_cases hn : a ≤ n ∧ n ≤ a + c - 1
    · rw [h1 n hn.1 hn.2, h2 n hn.1 hn.2]
    · exact ho n hn
theorem diff_in {t u : T} (ht : TrOk t) (hu : TrOk u) : Runs (diffT t u) 1 1000000 ∧ ∀ n, inS (diffT t u) n ↔ 1 ≤ n ∧ n ≤ 1000000 ∧ valL t.toList n ≠ valL u.toList n := by
  have h := diffL_spec (t.toList.length + u.toList.length) (out := []) ht.tiles.openT hu.tiles.openT (Nat.le_refl _) trivial (Int.le_refl _)
  refine ⟨h.1, fun n => (h.2 n).trans ?_⟩
  simp [inS]
theorem diff_same {t u : T} (ht : TrOk t) (hu : TrOk u) (h : u.toList = t.toList) : diffT t u = [] := by
  obtain ⟨h1, h2⟩ := diff_in ht hu
  refine runs_unique h1 (m := []) trivial fun n => ?_
  rw [h2, h]
  simp [inS]
theorem diff_span {t u : T} (ht : TrOk t) (hu : TrOk u) {a c : Int} (hac : 1 ≤ a ∧ 1 ≤ c ∧ a + c - 1 ≤ 1000000) {d e : Cl} (hde : d ≠ e) (h1 : Sp t a c d) (h2 : Sp u a c e) (ho : Off t u a c) : diffT t u = [(a, c)] := by
  obtain ⟨k1, k2⟩ := diff_in ht hu
  refine runs_unique k1 (m := [(a, c)]) ⟨hac.1, hac.2.1, by simp only; omega, trivial⟩ fun n => ?_
  rw [k2]
  simp only [inS, or_false]
  constructor
  · rintro ⟨h3, h4, h5⟩
    by_cases hn : a ≤ n ∧ n ≤ a + c - 1
    · omega
    · exact absurd (ho n hn).symm h5
  · rintro ⟨h3, h4⟩
    refine ⟨by omega, by omega, ?_⟩
    rw [h1 n h3 (by omega), h2 n h3 (by omega)]
    exact hde
/-- The four calls of a round: each of them comes to 0. -/
theorem move_zero {t : T} (tr : TrOk t) {a c m o : Int} {l : Int} (hac : 1 ≤ a ∧ 1 ≤ c ∧ a + c - 1 ≤ 1000000) (hm : 1 ≤ m ∧ m ≤ 1000) (ho : 1 ≤ o ∧ o ≤ 1000) (hmo : m ≠ o) (h : Sp t a c ⟨1, l, m, 0⟩) : moveR t a c m o = 0 := by
  rw [moveR, if_pos ⟨(okSpan_iff a c).2 hac, by rw [inB_true hm, inB_true ho]; rfl, hmo⟩]
  exact first_zero tr hac.1 (by omega) hac.2.2 fun n h1 h2 => by rw [h n h1 h2]; simp [ownedE]
theorem pledge_zero {t : T} (tr : TrOk t) {a c m o : Int} {l : Int} (hac : 1 ≤ a ∧ 1 ≤ c ∧ a + c - 1 ≤ 1000000) (hm : 1 ≤ m ∧ m ≤ 1000) (ho : 1 ≤ o ∧ o ≤ 1000) (h : Sp t a c ⟨1, l, m, 0⟩) : pledgeR t a c m o = 0 := by
  rw [pledgeR, if_pos ⟨(okSpan_iff a c).2 hac, by rw [inB_true hm, inB_true ho]; rfl⟩]
  exact first_zero tr hac.1 (by omega) hac.2.2 fun n h1 h2 => by rw [h n h1 h2]; simp [ownedE]
theorem release_zero {t : T} (tr : TrOk t) {a c m o : Int} {l : Int} (hac : 1 ≤ a ∧ 1 ≤ c ∧ a + c - 1 ≤ 1000000) (ho : 1 ≤ o ∧ o ≤ 1000) (h : Sp t a c ⟨1, l, m, o⟩) : heldR t a c o = 0 := by
  rw [heldR, if_pos ⟨(okSpan_iff a c).2 hac, inB_true ho⟩]
  exact first_zero tr hac.1 (by omega) hac.2.2 fun n h1 h2 => by rw [h n h1 h2]; simp [heldE]
/-- The versions around the four calls of a round. -/
theorem round_diffs {t u v x y : T} {a c l m o : Int} (ht : TrOk t) (hu : TrOk u) (hv : TrOk v) (hx : TrOk x) (hy : TrOk y) (hac : 1 ≤ a ∧ 1 ≤ c ∧ a + c - 1 ≤ 1000000) (hmo : m ≠ o) (ho : 1 ≤ o)
    (s0 : Sp t a c ⟨1, l, m, 0⟩) (s1 : Sp u a c ⟨1, l, o, 0⟩) (s2 : Sp v a c ⟨1, l, m, 0⟩) (s3 : Sp x a c ⟨1, l, m, o⟩) (s4 : Sp y a c ⟨1, l, m, 0⟩)
    (o1 : Off t u a c) (o2 : Off u v a c) (o3 : Off v x a c) (o4 : Off x y a c) :
    y.toList = t.toList ∧ diffT t y = [] ∧ diffT t u = [(a, c)] ∧ diffT x v = [(a, c)] := by
  have e := sp_same ht hy s0 s4 (((o1.trans o2).trans o3).trans o4)
  refine ⟨e, diff_same ht hy e, diff_span ht hu hac (fun h => ?_) s0 s1 o1, diff_span hx hv hac (fun h => ?_) s3 s2 o3.symm⟩
  · injection h with _ _ h _
    exact hmo h
  · injection h with _ _ _ h
    omega
theorem app4 {vs : List T} {t u v x y : T} {n : Nat} (hn : vs.length = n + 1) (ht : vs[n]? = some t) : ((((vs ++ [u]) ++ [v]) ++ [x]) ++ [y]).length = n + 5 ∧ ((((vs ++ [u]) ++ [v]) ++ [x]) ++ [y])[n]? = some t ∧ ((((vs ++ [u]) ++ [v]) ++ [x]) ++ [y])[n + 1]? = some u ∧ ((((vs ++ [u]) ++ [v]) ++ [x]) ++ [y])[n + 2]? = some v ∧ ((((vs ++ [u]) ++ [v]) ++ [x]) ++ [y])[n + 3]? = some x ∧ ((((vs ++ [u]) ++ [v]) ++ [x]) ++ [y])[n + 4]? = some y := by
  simp only [List.append_assoc, List.cons_append, List.nil_append]
  refine ⟨by simp [hn], by rw [List.getElem?_append_left (by omega)]; exact ht, ?_, ?_, ?_, ?_⟩ <;> rw [List.getElem?_append_right (by omega), hn]
  · rw [show n + 1 - (n + 1) = 0 by omega]; rfl
  · rw [show n + 2 - (n + 1) = 1 by omega]; rfl
  · rw [show n + 3 - (n + 1) = 2 by omega]; rfl
  · rw [show n + 4 - (n + 1) = 3 by omega]; rfl
theorem spans_none {e : TypeId} {B : Nat} {w : World} {v : Value} (h : OwnE encS 2 e B w v []) : ∃ p cap, v = .slice p 0 cap := by
  obtain ⟨p, cap, h1, _⟩ := h.form
  exact ⟨p, cap, h1⟩
theorem spans_one {e : TypeId} {B : Nat} {w : World} {v : Value} {a c : Int} (h : OwnE encS 2 e B w v [(a, c)]) : ∃ g cap, v = .slice (some ⟨g, 0, none⟩) 1 cap ∧ B ≤ g ∧ g < w.heap.size ∧ w.cell? ⟨g, 0, none⟩ = some (.int .i64 a) ∧ w.cell? ⟨g, 1, none⟩ = some (.int .i64 c) := by
  obtain ⟨p, cap, h1, h2⟩ := h.form
  rcases h2 with ⟨_, h2⟩ | ⟨g, h2, h3, h4⟩
  · cases h2
  · subst h2
    subst h1
    have k0 := World.ownsRow.cellAt h 0 (by simp)
    have k1 := World.ownsRow.cellAt h 1 (by simp)
    exact ⟨g, cap, rfl, h3, h4, k0, k1⟩
theorem run_eqSpan (a b c d : Int) (w : World) : (Op.equalIn 10000 37 (.agg #[.int .i64 a, .int .i64 b]) (.agg #[.int .i64 c, .int .i64 d])).run Try.prog w = .ok (decide (a = c ∧ b = d)) w := by
  by_cases h1 : a = c <;> by_cases h2 : b = d <;> simp [go_sem, h1, h2]
end Go.Proofs.Ytnnbdjfeagcbdaa
