/- StockKeeps: its walk. -/
import Derived.Test.YtnnbdjfeagcbdaaKeep1
import Derived.Test.YtnnbdjfeagcbdaaActs
import Derived.Test.YtnnbdjfeagcbdaaSmp3
import Derived.Test.YtnnbdjfeagcbdaaKeepL
import Derived.Deep.DeepCutAuto
import Derived.Deep.CutBlock
import Derived.Deep.LoopGhost
import Derived.Deep.OwnRows
import Derived.BigQuiet
namespace Go.Proofs.Ytnnbdjfeagcbdaa
set_option linter.unusedSimpArgs false
set_option linter.unusedVariables false
open Go.RowKit Go.Shelf Go.BigFrame
attribute [local go_sem] Oper.semAt_some

theorem made_eighty : madeCells #[Value.int .i64 0] 80 = Array.replicate 80 (.int .i64 0) := by
  apply Array.ext
  · simp [madeCells]
  · intro i h1 h2; simp [madeCells, Nat.mod_one]
theorem Reg.lt {B : Nat} {W w : World} {sB vB : Nat} {vs : List T} (h : Reg B W w sB vB vs) : sB < w.heap.size ∧ vB < w.heap.size := h.st.lt

theorem OwnE.open {α : Type} {enc : α → List Value} {sz : Nat} (hlen : ∀ a, (enc a).length = sz) {e : TypeId} {B : Nat} {W : World} {v : Value} {l : List α} (h : OwnE enc sz e B W v l) :
    ∃ p cap b, v = .slice p l.length cap ∧ (0 < l.length → p = some ⟨b, 0, none⟩ ∧ B ≤ b ∧ b < W.heap.size) ∧ ∀ (k : Nat) (hk : k < l.length) (j : Nat), j < sz → W.cell? ⟨b, k * sz + j, none⟩ = (enc l[k])[j]? := by
  rcases h.2 with ⟨h1, h2⟩ | ⟨g, cap, cur, hv, hb, hg, h3⟩
  · exact ⟨none, 0, 0, by rw [h1, h2], fun h0 => by omega, fun k hk => by omega⟩
  · subst hv
    refine ⟨_, cap, g, rfl, fun _ => ⟨rfl, hb, (Array.getElem?_eq_some_iff.1 hg).1⟩, fun k hk j hj => ?_⟩
    rw [World.ownsRow.cellAt h _ (by have : k * sz + sz ≤ l.length * sz := by { rw [← Nat.succ_mul]; exact Nat.mul_le_mul_right _ hk }; omega), flatE_get hlen l k hk j hj]
theorem cell_of_block {w w' : World} {b : Nat} (h : w'.heap[b]? = w.heap[b]?) (o : Nat) : w'.cell? ⟨b, o, none⟩ = w.cell? ⟨b, o, none⟩ := World.cell?_of_block (w := w) h
theorem Turned.drewN {sB vB : Nat} {w w' : World} (h : Turned sB vB w w') (k : Nat) : Turned sB vB w (w'.drewN k) := ⟨h.os, h.tape, h.output, h.size, h.block⟩
theorem Turned.set {ar : Nat} {w w' : World} (h : Turned ar ar w w') (j : Nat) (v : Value) : Turned ar ar w (w'.setCell ⟨ar, j, none⟩ v) :=
  ⟨h.os, h.tape, h.output, by simpa [World.setCell] using h.size, fun k hk h1 h2 => (Below.heap_setCell w' ⟨ar, j, none⟩ v k h1).trans (h.block k hk h1 h2)⟩
/-- A hold in its row, at a world that has turned the array alone. -/
theorem hold_at {w2 wx : World} {ar b2 : Nat} {nl : List Pc} (ht : Turned ar ar w2 wx) (hb : b2 < w2.heap.size) (hne : b2 ≠ ar) (hc : ∀ (k : Nat) (hk : k < nl.length) (j : Nat), j < 5 → w2.cell? ⟨b2, k * 5 + j, none⟩ = (encH nl[k])[j]?) {i : Nat} (hi : i < nl.length) :
    wx.cell? ⟨b2, i * 5, none⟩ = some (.int .i64 nl[i].from_) ∧ wx.cell? ⟨b2, i * 5 + 1, none⟩ = some (.int .i64 (nl[i].to - nl[i].from_ + 1)) ∧ wx.cell? ⟨b2, i * 5 + 2, none⟩ = some (.int .i64 nl[i].cell.lot) ∧ wx.cell? ⟨b2, i * 5 + 3, none⟩ = some (.int .i64 nl[i].cell.owner) ∧ wx.cell? ⟨b2, i * 5 + 4, none⟩ = some (.int .i64 nl[i].cell.holder) := by
  have key : ∀ j, j < 5 → wx.cell? ⟨b2, i * 5 + j, none⟩ = (encH nl[i])[j]? := fun j hj => (cell_of_block (ht.block b2 hb hne hne) _).trans (hc i hi j hj)
  exact ⟨by simpa [encH] using key 0 (by omega), by simpa [encH] using key 1 (by omega), by simpa [encH] using key 2 (by omega), by simpa [encH] using key 3 (by omega), by simpa [encH] using key 4 (by omega)⟩
/-- The hold before it: it ends before it begins; where it ends just there it has another state. -/
theorem hold_prev {w2 wx : World} {ar b2 : Nat} {nl L : List Pc} {m : Int} (ht : Turned ar ar w2 wx) (hb : b2 < w2.heap.size) (hne : b2 ≠ ar) (hc : ∀ (k : Nat) (hk : k < nl.length) (j : Nat), j < 5 → w2.cell? ⟨b2, k * 5 + j, none⟩ = (encH nl[k])[j]?) (hh : Held L m nl) {i j : Nat} (hi : i < nl.length) (hj : i = j + 1) :
    ∃ pf pc pl ph : Int, wx.cell? ⟨b2, j * 5, none⟩ = some (.int .i64 pf) ∧ wx.cell? ⟨b2, j * 5 + 1, none⟩ = some (.int .i64 pc) ∧ wx.cell? ⟨b2, j * 5 + 2, none⟩ = some (.int .i64 pl) ∧ wx.cell? ⟨b2, j * 5 + 4, none⟩ = some (.int .i64 ph) ∧
      (0 ≤ pf ∧ 0 ≤ pc ∧ pf + pc ≤ nl[i].from_ ∧ nl[i].from_ ≤ 80) ∧ (pf + pc = nl[i].from_ → pl = nl[i].cell.lot → ph = nl[i].cell.holder → False) := by
  have hjl : j < nl.length := by omega
  obtain ⟨h0, h1, h2, h3, h4⟩ := hold_at ht hb hne hc hjl
  refine ⟨_, _, _, _, h0, h1, h2, h4, ?_, ?_⟩
  · have g1 := hh.good _ (List.getElem_mem hjl)
    have g2 := hh.good _ (List.getElem_mem hi)
    have g3 := rise_lt hh.rise (show j < i by omega) hi
    omega
  · intro e1 e2 e3
    have o1 := hh.own _ (List.getElem_mem hjl)
    have o2 := hh.own _ (List.getElem_mem hi)
    refine hh.canon _ (List.getElem_mem hjl) _ (List.getElem_mem hi) (by omega) ?_
    cases h5 : nl[j].cell with
    | mk a b c d =>
      cases h6 : nl[i].cell with
      | mk a' b' c' d' =>
        rw [h5] at o1 e2 e3
        rw [h6] at o2 e2 e3
        simp only at o1 o2 e2 e3
        rw [o1.1, o1.2, o2.1, o2.2, e2, e3]
theorem Held.drop_bound {L l : List Pc} {m : Int} (h : Held L m l) (hk : Kept L) (i : Nat) : 0 ≤ cntL (l.drop i) ∧ cntL (l.drop i) ≤ 1000000 := by
  have key : ∀ (l : List Pc) (x : Int), l.Pairwise (fun p q => p.to < q.from_) → (∀ p ∈ l, x ≤ p.from_ ∧ p.from_ ≤ p.to ∧ p.to < 80) → 0 ≤ cntL l ∧ cntL l ≤ (if l = [] then 0 else 80 - x) := by
    intro l
    induction l with
    | nil => intro x _ _; simp [cntL]
    | cons p l ih =>
      intro x hr hg
      have h1 := List.pairwise_cons.1 hr
      have g1 := hg p (by simp)
      have := ih (p.to + 1) h1.2 (fun q hq => by have := h1.1 q hq; have := hg q (by simp [hq]); omega)
      simp only [cntL, List.cons_ne_nil, if_false] at this ⊢
      split at this <;> omega
  have h1 := key (l.drop i) 1 (h.rise.sublist (List.drop_sublist i l)) (fun p hp => h.good p (List.mem_of_mem_drop hp))
  split at h1 <;> omega

set_option maxRecDepth 100000 in
set_option maxHeartbeats 20000000 in
theorem keeps_calls (w : World) (v : Value) (l : List Ac) (hv : ReadsE encA 6 w v l) :
    Calls Try.prog 4 #[v] w fun e w' => e = .returned (.bool true) ∧ Below w.heap.size w w' := by
  obtain ⟨hm, p, cap, b, off, rfl, hp, hc⟩ := hv
  obtain ⟨n, hn⟩ : ∃ n, n = l.length := ⟨_, rfl⟩
  rw [← hn] at hp hm ⊢
  have HP := hid hp
  have HC := hid hc
  have HN := hid hn
  clear hp hc hn
  go_enter Try.func4, Try.ntmps4
  go_wp2_with fail
  refine (new_reg w).mono ?_
  rintro e w0 ⟨sB, vB0, t0, rfl, rg0, tl0⟩
  have RG0 := hid rg0
  have K0 := hid (show Kept t0.toList ∧ sumP inC t0.toList = 0 by rw [tl0]; exact ⟨kept_pc0, rfl⟩)
  clear rg0 tl0
  go_upto_block 0 with fail
  go_cut [4] (fun s4 wx => ∃ (vB : Nat) (vs : List T) (t : T), vs.length ≤ 31 ∧ Reg w.heap.size w wx sB vB vs ∧ vs.getLast? = some t ∧ Kept t.toList ∧ s4 = .int .i64 (sumP inC t.toList))
  case first =>
    as_aux_lemma =>
      go_wp2_with fail
      go_loopg [4, 5] 30 (fun k s4 s5 wr => ∃ (i : Nat) (vB : Nat) (vs : List T) (t : T), i + k = 30 ∧ s5 = .int .i64 i ∧ vs.length ≤ i + 1 ∧ Reg w.heap.size w wr sB vB vs ∧ vs.getLast? = some t ∧ Kept t.toList ∧ s4 = .int .i64 (sumP inC t.toList))
      case atStart => exact ⟨0, vB0, [t0], t0, rfl, rfl, by simp, RG0.out, rfl, K0.out.1, by rw [K0.out.2]⟩
      case round =>
        obtain ⟨i, vB, vs, t, hik, rfl, hvs, rg, ht, hk, rfl⟩ := hrel
        have RG := hid rg
        have HT := hid ht
        have HK := hid hk
        have hsl := rg.lt
        have BW := hid rg.below
        have hsb := sumP_bound (is := inC) hk.tiles
        obtain ⟨S, hS⟩ : ∃ S, S = sumP inC t.toList := ⟨_, rfl⟩
        have HS := hid hS
        rw [← hS] at hsb ⊢
        clear rg ht hk hS
        by_cases hi : i < n
        · by_cases h3 : i < 30
          · have hil : i < l.length := by rw [← HN.out]; exact hi
            obtain ⟨rfl, hbl⟩ := HP.out (by omega)
            obtain ⟨x, hx⟩ : ∃ x, x = l[i] := ⟨_, rfl⟩
            have key : ∀ j, j < 6 → wr.cell? ⟨b, off + i * 6 + j, none⟩ = (encA x)[j]? := fun j hj => by rw [hx]; exact (BW.out.cell (p := ⟨b, off + i * 6 + j, none⟩) hbl).trans (HC.out i hil j hj)
            have c0 := key 0 (by omega)
            have c1 := key 1 (by omega)
            have c2 := key 2 (by omega)
            have c3 := key 3 (by omega)
            have c4 := key 4 (by omega)
            have c5 := key 5 (by omega)
            simp [encA] at c0 c1 c2 c3 c4 c5
            have g1 : decide ((i : Int) < (n : Int)) = true := by simpa using hi
            have g2 : decide ((i : Int) < 30) = true := by simp; omega
            have i64 : IntKind.i64.wrap ((i : Int) + 1) = (i : Int) + 1 := IntWalk.i64_in _ (by omega)
            clear key hx hm
            go_wp2_with fail
            refine (tame_calls x.k x.f x.c x.l x.a x.b wr).mono ?_
            rintro e w1 ⟨rfl, hb1⟩
            have hF := tam_range 60 x.f (by omega)
            have hC := tam_range 15 x.c (by omega)
            have hA4 := tam_range 4 x.a (by omega)
            have hB4 := tam_range 4 x.b (by omega)
            obtain ⟨F, hFe⟩ : ∃ F, F = tam 60 x.f := ⟨_, rfl⟩
            obtain ⟨C, hCe⟩ : ∃ C, C = tam 15 x.c := ⟨_, rfl⟩
            obtain ⟨L, hLe⟩ : ∃ L, L = tam 3 x.l := ⟨_, rfl⟩
            obtain ⟨A, hAe⟩ : ∃ A, A = tam 4 x.a := ⟨_, rfl⟩
            obtain ⟨Bb, hBe⟩ : ∃ Bb, Bb = tam 4 x.b := ⟨_, rfl⟩
            rw [← hFe, ← hCe, ← hLe, ← hAe, ← hBe]
            rw [← hFe] at hF
            rw [← hCe] at hC
            rw [← hAe] at hA4
            rw [← hBe] at hB4
            clear hFe hCe hLe hAe hBe c0 c1 c2 c3 c4 c5
            have hac : 1 ≤ F ∧ 1 ≤ C ∧ F + C - 1 ≤ 74 := by omega
            have R1 := hid (RG.out.after BW.out.size hb1)
            have hsz1 : wr.heap.size ≤ w1.heap.size := hb1.size
            have hw1 : w.heap.size ≤ w1.heap.size := Nat.le_trans BW.out.size hsz1
            clear hb1
            have A2 := hid (Cells.new w1 #[.int .i64 x.k, .int .i64 F, .int .i64 C, .int .i64 L, .int .i64 A, .int .i64 Bb] 39)
            have B2 := hid ((Below.refl w1.heap.size w1).alloc (Nat.le_refl _) (.cells #[.int .i64 x.k, .int .i64 F, .int .i64 C, .int .i64 L, .int .i64 A, .int .i64 Bb] 39))
            obtain ⟨r, hr1, hr2, hr⟩ := kind_mod x.k
            go_wp2_with fail
            obtain ⟨cp, hcell, _⟩ := (R1.out.after hw1 B2.out).cell
            refine (version_calls _ sB (.bool true) vs.length cp _ (by omega) hcell).mono ?_
            rintro e w3 ⟨rfl, hw3⟩
            have A3 := hid (show Cells w3 w1.heap.size #[.int .i64 x.k, .int .i64 F, .int .i64 C, .int .i64 L, .int .i64 A, .int .i64 Bb] 39 by rw [hw3]; exact A2.out)
            have RG3 := hid (show Reg w.heap.size w w3 sB vB vs by rw [hw3]; exact R1.out.after hw1 B2.out)
            have d0 : w3.cell? ⟨w1.heap.size, 0, none⟩ = some (.int .i64 x.k) := by simp [A3.out.cell]
            have d1 : w3.cell? ⟨w1.heap.size, 1, none⟩ = some (.int .i64 F) := by simp [A3.out.cell]
            have d2 : w3.cell? ⟨w1.heap.size, 2, none⟩ = some (.int .i64 C) := by simp [A3.out.cell]
            have d3 : w3.cell? ⟨w1.heap.size, 3, none⟩ = some (.int .i64 L) := by simp [A3.out.cell]
            have d4 : w3.cell? ⟨w1.heap.size, 4, none⟩ = some (.int .i64 A) := by simp [A3.out.cell]
            have d5 : w3.cell? ⟨w1.heap.size, 5, none⟩ = some (.int .i64 Bb) := by simp [A3.out.cell]
            have l3 := A3.out.lt
            have hB3 : w.heap.size ≤ w3.heap.size := by omega
            have hn1 : vs.length ≤ 1000 := by omega
            clear hw3 hcell A2 B2 R1
            have hw5 : IntKind.i64.wrap (S + C) = S + C := IntWalk.i64_in _ (by omega)
            have hw6 : IntKind.i64.wrap (S - C) = S - C := IntWalk.i64_in _ (by omega)
            go_upto_block 2 with fail
            go_cut [4, 8] (fun s4 s8 wx => ∃ (d : Nat) (uB : Nat) (us : List T) (u : T), (d = 0 ∨ d = 1) ∧ s8 = .bool (decide (d = 1)) ∧ us.length = vs.length + d ∧ Reg w.heap.size w wx sB uB us ∧ us.getLast? = some u ∧ Kept u.toList ∧ s4 = .int .i64 (sumP inC u.toList))
            case first =>
              have hlt1 : sB < w1.heap.size ∧ vB < w1.heap.size := by omega
              rcases hr with hk | hk | hk | hk | hk | hk | hk | hk
              · subst hk
                as_aux_lemma =>
                  go_wp2_with fail
                  refine (enter_acted RG3.out hB3 hn1 HT.out HK.out F C hac L A hA4).mono ?_
                  rintro e w4 ⟨rr, us, uB, u, rfl, rg4, hu4, ku4, tu4, e1, e2⟩
                  have a4 : Cells w4 w1.heap.size #[.int .i64 x.k, .int .i64 F, .int .i64 C, .int .i64 L, .int .i64 A, .int .i64 Bb] 39 := (tu4.block _ A3.out.lt (by omega) (by omega)).trans A3.out
                  have k2 : w4.cell? ⟨w1.heap.size, 2, none⟩ = some (.int .i64 C) := by simp [a4.cell]
                  have RR := hid (And.intro rg4 (And.intro hu4 (And.intro ku4 (And.intro e1 e2))))
                  clear rg4 hu4 ku4 tu4 e1 e2 a4
                  by_cases hz : rr = 0
                  · subst hz
                    obtain ⟨l4, s4⟩ := RR.out.2.2.2.2 rfl
                    have S4 := hid (And.intro l4 s4)
                    clear l4 s4
                    go_wp2
                    go_meet
                    case rel => exact ⟨1, uB, us, u, .inr rfl, by simp, S4.out.1, RR.out.1, RR.out.2.1, RR.out.2.2.1, by (rw [S4.out.2, ← HS.out]) <;> first | rfl | (congr 1; omega)⟩
                  · have hz2 : (rr == 0) = false := by simpa using hz
                    obtain ⟨l4, s4⟩ := RR.out.2.2.2.1 hz
                    have S4 := hid (And.intro l4 s4)
                    clear l4 s4
                    go_wp2
                    go_meet
                    case rel => exact ⟨0, uB, us, u, .inl rfl, by simp, S4.out.1, RR.out.1, RR.out.2.1, RR.out.2.2.1, by rw [S4.out.2, HS.out]⟩
              · subst hk
                as_aux_lemma =>
                  go_wp2_with fail
                  refine (enter_acted RG3.out hB3 hn1 HT.out HK.out F C hac L A hA4).mono ?_
                  rintro e w4 ⟨rr, us, uB, u, rfl, rg4, hu4, ku4, tu4, e1, e2⟩
                  have a4 : Cells w4 w1.heap.size #[.int .i64 x.k, .int .i64 F, .int .i64 C, .int .i64 L, .int .i64 A, .int .i64 Bb] 39 := (tu4.block _ A3.out.lt (by omega) (by omega)).trans A3.out
                  have k2 : w4.cell? ⟨w1.heap.size, 2, none⟩ = some (.int .i64 C) := by simp [a4.cell]
                  have RR := hid (And.intro rg4 (And.intro hu4 (And.intro ku4 (And.intro e1 e2))))
                  clear rg4 hu4 ku4 tu4 e1 e2 a4
                  by_cases hz : rr = 0
                  · subst hz
                    obtain ⟨l4, s4⟩ := RR.out.2.2.2.2 rfl
                    have S4 := hid (And.intro l4 s4)
                    clear l4 s4
                    go_wp2
                    go_meet
                    case rel => exact ⟨1, uB, us, u, .inr rfl, by simp, S4.out.1, RR.out.1, RR.out.2.1, RR.out.2.2.1, by (rw [S4.out.2, ← HS.out]) <;> first | rfl | (congr 1; omega)⟩
                  · have hz2 : (rr == 0) = false := by simpa using hz
                    obtain ⟨l4, s4⟩ := RR.out.2.2.2.1 hz
                    have S4 := hid (And.intro l4 s4)
                    clear l4 s4
                    go_wp2
                    go_meet
                    case rel => exact ⟨0, uB, us, u, .inl rfl, by simp, S4.out.1, RR.out.1, RR.out.2.1, RR.out.2.2.1, by rw [S4.out.2, HS.out]⟩
              · subst hk
                as_aux_lemma =>
                  go_wp2_with fail
                  refine (move_acted RG3.out hB3 hn1 HT.out HK.out F C hac A Bb hB4).mono ?_
                  rintro e w4 ⟨rr, us, uB, u, rfl, rg4, hu4, ku4, tu4, e1, e2⟩
                  have a4 : Cells w4 w1.heap.size #[.int .i64 x.k, .int .i64 F, .int .i64 C, .int .i64 L, .int .i64 A, .int .i64 Bb] 39 := (tu4.block _ A3.out.lt (by omega) (by omega)).trans A3.out
                  have k2 : w4.cell? ⟨w1.heap.size, 2, none⟩ = some (.int .i64 C) := by simp [a4.cell]
                  have RR := hid (And.intro rg4 (And.intro hu4 (And.intro ku4 (And.intro e1 e2))))
                  clear rg4 hu4 ku4 tu4 e1 e2 a4
                  by_cases hz : rr = 0
                  · subst hz
                    obtain ⟨l4, s4⟩ := RR.out.2.2.2.2 rfl
                    have S4 := hid (And.intro l4 s4)
                    clear l4 s4
                    go_wp2
                    go_meet
                    case rel => exact ⟨1, uB, us, u, .inr rfl, by simp, S4.out.1, RR.out.1, RR.out.2.1, RR.out.2.2.1, by (rw [S4.out.2, ← HS.out]) <;> first | rfl | (congr 1; omega)⟩
                  · have hz2 : (rr == 0) = false := by simpa using hz
                    obtain ⟨l4, s4⟩ := RR.out.2.2.2.1 hz
                    have S4 := hid (And.intro l4 s4)
                    clear l4 s4
                    go_wp2
                    go_meet
                    case rel => exact ⟨0, uB, us, u, .inl rfl, by simp, S4.out.1, RR.out.1, RR.out.2.1, RR.out.2.2.1, by rw [S4.out.2, HS.out]⟩
              · subst hk
                as_aux_lemma =>
                  go_wp2_with fail
                  refine (move_acted RG3.out hB3 hn1 HT.out HK.out F C hac A Bb hB4).mono ?_
                  rintro e w4 ⟨rr, us, uB, u, rfl, rg4, hu4, ku4, tu4, e1, e2⟩
                  have a4 : Cells w4 w1.heap.size #[.int .i64 x.k, .int .i64 F, .int .i64 C, .int .i64 L, .int .i64 A, .int .i64 Bb] 39 := (tu4.block _ A3.out.lt (by omega) (by omega)).trans A3.out
                  have k2 : w4.cell? ⟨w1.heap.size, 2, none⟩ = some (.int .i64 C) := by simp [a4.cell]
                  have RR := hid (And.intro rg4 (And.intro hu4 (And.intro ku4 (And.intro e1 e2))))
                  clear rg4 hu4 ku4 tu4 e1 e2 a4
                  by_cases hz : rr = 0
                  · subst hz
                    obtain ⟨l4, s4⟩ := RR.out.2.2.2.2 rfl
                    have S4 := hid (And.intro l4 s4)
                    clear l4 s4
                    go_wp2
                    go_meet
                    case rel => exact ⟨1, uB, us, u, .inr rfl, by simp, S4.out.1, RR.out.1, RR.out.2.1, RR.out.2.2.1, by (rw [S4.out.2, ← HS.out]) <;> first | rfl | (congr 1; omega)⟩
                  · have hz2 : (rr == 0) = false := by simpa using hz
                    obtain ⟨l4, s4⟩ := RR.out.2.2.2.1 hz
                    have S4 := hid (And.intro l4 s4)
                    clear l4 s4
                    go_wp2
                    go_meet
                    case rel => exact ⟨0, uB, us, u, .inl rfl, by simp, S4.out.1, RR.out.1, RR.out.2.1, RR.out.2.2.1, by rw [S4.out.2, HS.out]⟩
              · subst hk
                as_aux_lemma =>
                  go_wp2_with fail
                  refine (pledge_acted RG3.out hB3 hn1 HT.out HK.out F C hac A Bb).mono ?_
                  rintro e w4 ⟨rr, us, uB, u, rfl, rg4, hu4, ku4, tu4, e1, e2⟩
                  have a4 : Cells w4 w1.heap.size #[.int .i64 x.k, .int .i64 F, .int .i64 C, .int .i64 L, .int .i64 A, .int .i64 Bb] 39 := (tu4.block _ A3.out.lt (by omega) (by omega)).trans A3.out
                  have k2 : w4.cell? ⟨w1.heap.size, 2, none⟩ = some (.int .i64 C) := by simp [a4.cell]
                  have RR := hid (And.intro rg4 (And.intro hu4 (And.intro ku4 (And.intro e1 e2))))
                  clear rg4 hu4 ku4 tu4 e1 e2 a4
                  by_cases hz : rr = 0
                  · subst hz
                    obtain ⟨l4, s4⟩ := RR.out.2.2.2.2 rfl
                    have S4 := hid (And.intro l4 s4)
                    clear l4 s4
                    go_wp2
                    go_meet
                    case rel => exact ⟨1, uB, us, u, .inr rfl, by simp, S4.out.1, RR.out.1, RR.out.2.1, RR.out.2.2.1, by (rw [S4.out.2, ← HS.out]) <;> first | rfl | (congr 1; omega)⟩
                  · have hz2 : (rr == 0) = false := by simpa using hz
                    obtain ⟨l4, s4⟩ := RR.out.2.2.2.1 hz
                    have S4 := hid (And.intro l4 s4)
                    clear l4 s4
                    go_wp2
                    go_meet
                    case rel => exact ⟨0, uB, us, u, .inl rfl, by simp, S4.out.1, RR.out.1, RR.out.2.1, RR.out.2.2.1, by rw [S4.out.2, HS.out]⟩
              · subst hk
                as_aux_lemma =>
                  go_wp2_with fail
                  refine (release_acted RG3.out hB3 hn1 HT.out HK.out F C hac A).mono ?_
                  rintro e w4 ⟨rr, us, uB, u, rfl, rg4, hu4, ku4, tu4, e1, e2⟩
                  have a4 : Cells w4 w1.heap.size #[.int .i64 x.k, .int .i64 F, .int .i64 C, .int .i64 L, .int .i64 A, .int .i64 Bb] 39 := (tu4.block _ A3.out.lt (by omega) (by omega)).trans A3.out
                  have k2 : w4.cell? ⟨w1.heap.size, 2, none⟩ = some (.int .i64 C) := by simp [a4.cell]
                  have RR := hid (And.intro rg4 (And.intro hu4 (And.intro ku4 (And.intro e1 e2))))
                  clear rg4 hu4 ku4 tu4 e1 e2 a4
                  by_cases hz : rr = 0
                  · subst hz
                    obtain ⟨l4, s4⟩ := RR.out.2.2.2.2 rfl
                    have S4 := hid (And.intro l4 s4)
                    clear l4 s4
                    go_wp2
                    go_meet
                    case rel => exact ⟨1, uB, us, u, .inr rfl, by simp, S4.out.1, RR.out.1, RR.out.2.1, RR.out.2.2.1, by (rw [S4.out.2, ← HS.out]) <;> first | rfl | (congr 1; omega)⟩
                  · have hz2 : (rr == 0) = false := by simpa using hz
                    obtain ⟨l4, s4⟩ := RR.out.2.2.2.1 hz
                    have S4 := hid (And.intro l4 s4)
                    clear l4 s4
                    go_wp2
                    go_meet
                    case rel => exact ⟨0, uB, us, u, .inl rfl, by simp, S4.out.1, RR.out.1, RR.out.2.1, RR.out.2.2.1, by rw [S4.out.2, HS.out]⟩
              · subst hk
                as_aux_lemma =>
                  go_wp2_with fail
                  refine (seize_acted RG3.out hB3 hn1 HT.out HK.out F C hac A hA4).mono ?_
                  rintro e w4 ⟨rr, us, uB, u, rfl, rg4, hu4, ku4, tu4, e1, e2⟩
                  have a4 : Cells w4 w1.heap.size #[.int .i64 x.k, .int .i64 F, .int .i64 C, .int .i64 L, .int .i64 A, .int .i64 Bb] 39 := (tu4.block _ A3.out.lt (by omega) (by omega)).trans A3.out
                  have k2 : w4.cell? ⟨w1.heap.size, 2, none⟩ = some (.int .i64 C) := by simp [a4.cell]
                  have RR := hid (And.intro rg4 (And.intro hu4 (And.intro ku4 (And.intro e1 e2))))
                  clear rg4 hu4 ku4 tu4 e1 e2 a4
                  by_cases hz : rr = 0
                  · subst hz
                    obtain ⟨l4, s4⟩ := RR.out.2.2.2.2 rfl
                    have S4 := hid (And.intro l4 s4)
                    clear l4 s4
                    go_wp2
                    go_meet
                    case rel => exact ⟨1, uB, us, u, .inr rfl, by simp, S4.out.1, RR.out.1, RR.out.2.1, RR.out.2.2.1, by (rw [S4.out.2, ← HS.out]) <;> first | rfl | (congr 1; omega)⟩
                  · have hz2 : (rr == 0) = false := by simpa using hz
                    obtain ⟨l4, s4⟩ := RR.out.2.2.2.1 hz
                    have S4 := hid (And.intro l4 s4)
                    clear l4 s4
                    go_wp2
                    go_meet
                    case rel => exact ⟨0, uB, us, u, .inl rfl, by simp, S4.out.1, RR.out.1, RR.out.2.1, RR.out.2.2.1, by rw [S4.out.2, HS.out]⟩
              · subst hk
                as_aux_lemma =>
                  go_wp2_with fail
                  refine (leave_acted RG3.out hB3 hn1 HT.out HK.out F C hac A).mono ?_
                  rintro e w4 ⟨rr, us, uB, u, rfl, rg4, hu4, ku4, tu4, e1, e2⟩
                  have a4 : Cells w4 w1.heap.size #[.int .i64 x.k, .int .i64 F, .int .i64 C, .int .i64 L, .int .i64 A, .int .i64 Bb] 39 := (tu4.block _ A3.out.lt (by omega) (by omega)).trans A3.out
                  have k2 : w4.cell? ⟨w1.heap.size, 2, none⟩ = some (.int .i64 C) := by simp [a4.cell]
                  have RR := hid (And.intro rg4 (And.intro hu4 (And.intro ku4 (And.intro e1 e2))))
                  clear rg4 hu4 ku4 tu4 e1 e2 a4
                  by_cases hz : rr = 0
                  · subst hz
                    obtain ⟨l4, s4⟩ := RR.out.2.2.2.2 rfl
                    have S4 := hid (And.intro l4 s4)
                    clear l4 s4
                    go_wp2
                    go_meet
                    case rel => exact ⟨1, uB, us, u, .inr rfl, by simp, S4.out.1, RR.out.1, RR.out.2.1, RR.out.2.2.1, by (rw [S4.out.2, ← HS.out]) <;> first | rfl | (congr 1; omega)⟩
                  · have hz2 : (rr == 0) = false := by simpa using hz
                    obtain ⟨l4, s4⟩ := RR.out.2.2.2.1 hz
                    have S4 := hid (And.intro l4 s4)
                    clear l4 s4
                    go_wp2
                    go_meet
                    case rel => exact ⟨0, uB, us, u, .inl rfl, by simp, S4.out.1, RR.out.1, RR.out.2.1, RR.out.2.2.1, by rw [S4.out.2, HS.out]⟩
            case rest =>
              obtain ⟨d, uB, us, u, hd, rfl, hl, rg, hu, hk, rfl⟩ := hcut
              have L0 := hid hl
              have RU := hid rg
              have HU := hid hu
              have HKU := hid hk
              obtain ⟨cq, hcell, _⟩ := rg.cell
              obtain ⟨m, hm⟩ : ∃ m, m = vs.length := ⟨_, rfl⟩
              clear rg hu hk
              rcases hd with hd | hd
              · subst hd
                as_aux_lemma =>
                  have e0 : ((us.length : Int) - 1 != (vs.length : Int) - 1) = false := by simp; omega
                  go_wp2_with fail
                  refine (version_calls _ sB (.bool true) us.length cq _ (by omega) hcell).mono ?_
                  rintro e w5 ⟨rfl, rfl⟩
                  go_wp2
                  go_roundg (gk - 1)
                  case measure => omega
                  case rel => exact ⟨i + 1, uB, us, u, by omega, rfl, by omega, RU.out, HU.out, HKU.out, rfl⟩
              · subst hd
                as_aux_lemma =>
                  have e0 : ((us.length : Int) - 1 != (vs.length : Int)) = false := by simp; omega
                  have e2 : IntKind.i64.wrap ((vs.length : Int) - 1 + 1) = (vs.length : Int) := by rw [IntWalk.i64_in _ (by omega)]; omega
                  have e3 : IntKind.i64.wrap ((vs.length : Int)) = (vs.length : Int) := IntWalk.i64_in _ (by omega)
                  go_wp2_with fail
                  refine (version_calls _ sB (.bool true) us.length cq _ (by omega) hcell).mono ?_
                  rintro e w5 ⟨rfl, rfl⟩
                  go_wp2
                  go_roundg (gk - 1)
                  case measure => omega
                  case rel => exact ⟨i + 1, uB, us, u, by omega, rfl, by omega, RU.out, HU.out, HKU.out, rfl⟩
          · have : i = 30 := by omega
            subst this
            have g1 : decide (((30 : Nat) : Int) < (n : Int)) = true := by simp; omega
            go_wp2
            go_meet
            case rel => exact ⟨vB, vs, t, hvs, RG.out, HT.out, HK.out, by rw [HS.out]⟩
        · have g1 : decide ((i : Int) < (n : Int)) = false := by simpa using hi
          go_wp2
          go_meet
          case rel => exact ⟨vB, vs, t, by omega, RG.out, HT.out, HK.out, by rw [HS.out]⟩
  case rest =>
    obtain ⟨vB, vs, t, hvs, rg, ht, hk, rfl⟩ := hcut
    have RG := hid rg
    have HT := hid ht
    have HK := hid hk
    have BW := hid rg.below
    obtain ⟨cp, hcell, _⟩ := rg.cell
    obtain ⟨S, hS⟩ : ∃ S, S = sumP inC t.toList := ⟨_, rfl⟩
    have HS := hid hS
    have SB := hid hk.sumTo_bound
    rw [← hS]
    have hn1 : vs.length ≤ 1000 := by omega
    obtain ⟨ar, har⟩ : ∃ ar, ar = wc.heap.size := ⟨_, rfl⟩
    obtain ⟨R0, hR0⟩ : ∃ R0, R0 = Array.replicate 80 (Value.int .i64 0) := ⟨_, rfl⟩
    have hmk : ∀ w, (Instr.makeSlice 23 (.int .i64 80) (.int .i64 80)).run Try.prog w = .ok (.slice (some ⟨w.heap.size, 0, none⟩) 80 80) (w.alloc (.cells R0 3)) := fun w => by
      have := run_make_row' (P := Try.prog) 23 3 (.int .i64 0) 8 under_ints info_int rfl .i64 .i64 80 (by omega) (by omega) w
      rw [made_eighty, ← hR0] at this
      exact this
    have C5 := hid (show Cells (wc.alloc (.cells R0 3)) wc.heap.size (markA t.toList 1 1) 3 by rw [hk.mark_one, ← hR0]; exact Cells.new _ _ _)
    have B5 := hid (show Below wc.heap.size wc (wc.alloc (.cells R0 3)) from (Below.refl _ _).alloc (Nat.le_refl _) _)
    clear rg ht hk hS hR0 har ar
    go_wp2_with fail
    refine (version_calls _ sB (.bool true) vs.length cp _ (by omega) hcell).mono ?_
    rintro e w4 ⟨rfl, rfl⟩
    obtain ⟨ar, har⟩ : ∃ ar, ar = w4.heap.size := ⟨_, rfl⟩
    have HA := hid har
    go_upto_block 3 with fail
    go_cut [11] (fun s11 wx => s11 = .int .i64 (sumTo t.toList 4) ∧ Below w4.heap.size w4 wx ∧ Cells wx w4.heap.size (markA t.toList 5 1) 3)
    case first =>
      as_aux_lemma =>
        go_wp2_with fail
        go_loopg [11, 12] 4 (fun k s11 s12 wr => ∃ M : Nat, M + k = 4 ∧ s12 = .int .i64 ((M : Int) + 1) ∧ s11 = .int .i64 (sumTo t.toList M) ∧ Below w4.heap.size w4 wr ∧ Cells wr w4.heap.size (markA t.toList ((M : Int) + 1) 1) 3)
        case atStart => exact ⟨0, rfl, rfl, rfl, B5.out, C5.out⟩
        case round =>
          obtain ⟨M, hMk, rfl, rfl, hb6, hc6⟩ := hrel
          have RG6 := hid (RG.out.after BW.out.size hb6)
          have C6 := hid hc6
          have B6 := hid hb6
          have hsz6 := hb6.size
          have l6 := hc6.lt
          clear hb6 hc6
          by_cases hM : M < 4
          · have g1 : decide ((M : Int) + 1 ≤ 4) = true := by simp; omega
            go_wp2_with fail
            refine (holds_last RG6.out hn1 HT.out ((M : Int) + 1) (by omega)).mono ?_
            rintro e w7 ⟨u, rfl, ho7, hb7⟩
            have R7 := hid (RG6.out.after (Nat.le_trans BW.out.size hsz6) hb7)
            have B7 := hid (B6.out.trans (hb7.mono hsz6))
            have C7 := hid (C6.out.below hb7 l6)
            have O7 := hid ho7
            have hsz7 := hb7.size
            clear hb7 ho7
            go_wp2_with fail
            refine (count_last R7.out hn1 HT.out ((M : Int) + 1) (by omega)).mono ?_
            rintro e w2 ⟨rfl, hb8⟩
            have B8 := hid (B7.out.trans (hb8.mono (by omega)))
            have C8 := hid (C7.out.below hb8 (by omega))
            have O8 := hid (O7.out.below hb8)
            have hsz8 := hb8.size
            clear hb8
            have HE := hid (HK.out.held ((M : Int) + 1))
            obtain ⟨nl, hnl⟩ : ∃ nl, nl = t.toList.filter (fun p => ownB ((M : Int) + 1) p.cell) := ⟨_, rfl⟩
            have CN := hid (show sumP (ownB ((M : Int) + 1)) t.toList = cntL nl by rw [hnl, cnt_filter])
            have SN := hid (show sumTo t.toList (M + 1) = sumTo t.toList M + cntL nl by rw [← CN.out]; rfl)
            rw [CN.out]
            have HE := hid (show Held t.toList ((M : Int) + 1) nl by rw [hnl]; exact HE.out)
            have LN := hid (show nl.length ≤ 10000000 by
              have h1 := (HK.out.tiles.few)
              have h2 := List.length_filter_le (fun p : Pc => ownB ((M : Int) + 1) p.cell) t.toList
              rw [← hnl] at h2
              omega)
            have ln := LN.out
            obtain ⟨p2, cap2, b2, rfl, hp2, hc2⟩ := OwnE.open encH_len (hnl ▸ O8.out : OwnE encH 5 50 wr.heap.size w2 u nl)
            have HP2 := hid hp2
            have HC2 := hid hc2
            have sb := SB.out M
            have sc := SB.out (M + 1)
            rw [SN.out] at sc
            obtain ⟨N, hN⟩ : ∃ N, N = cntL nl := ⟨_, rfl⟩
            obtain ⟨T1, hT1⟩ : ∃ T1, T1 = sumTo t.toList M := ⟨_, rfl⟩
            have NH := hid hN
            have TH := hid hT1
            rw [← hN, ← hT1] at sc
            rw [← hT1] at sb
            rw [← hN, ← hT1]
            have hw7 : IntKind.i64.wrap (T1 + N) = T1 + N := IntWalk.i64_in _ (by omega)
            clear hp2 hc2 hnl hN hT1 RG6 R7 B6 B7 C6 C7 O7 O8
            go_upto_block 5 with fail
            go_cut [15] (fun s15 wx => s15 = .int .i64 0 ∧ Below w4.heap.size w4 wx ∧ Cells wx w4.heap.size (markA t.toList ((M : Int) + 1 + 1) 1) 3)
            case first =>
              go_wp2_with fail
              go_loopg [15, 17] nl.length (fun k s15 s17 wr => ∃ i : Nat, i + k = nl.length ∧ s17 = .int .i64 i ∧ s15 = .int .i64 (cntL (nl.drop i)) ∧ Turned w4.heap.size w4.heap.size w2 wr ∧ Cells wr w4.heap.size (markA t.toList ((M : Int) + 1) (begL nl i)) 3)
              case atStart => exact ⟨0, by omega, rfl, by rw [NH.out]; rfl, Turned.of_below (Below.refl _ _), C8.out⟩
              case round =>
                obtain ⟨i, hik, rfl, rfl, ht9, hc9⟩ := hrel
                by_cases hi : i < nl.length
                · have g1 : decide ((i : Int) < (nl.length : Int)) = true := by simpa using hi
                  obtain ⟨rfl, hbl, hbl2⟩ := HP2.out (by omega)
                  obtain ⟨q, hq⟩ : ∃ q, q = nl[i] := ⟨_, rfl⟩
                  have hqm : q ∈ nl := by rw [hq]; exact List.getElem_mem hi
                  have qg := HE.out.good q hqm
                  have qo := HE.out.own q hqm
                  have QV := hid (HE.out.val q hqm)
                  have QE := hid hq.symm
                  have key := hold_at ht9 hbl2 (by omega) HC2.out hi
                  rw [← hq, qo.2] at key
                  obtain ⟨a, ha⟩ : ∃ a : Nat, q.from_ = a := ⟨q.from_.toNat, by omega⟩
                  obtain ⟨z, hz⟩ : ∃ z : Nat, q.to = z := ⟨q.to.toNat, by omega⟩
                  obtain ⟨C, hC⟩ : ∃ C, C = q.to - q.from_ + 1 := ⟨_, rfl⟩
                  rw [← hC, ha] at key
                  obtain ⟨e0, e1, e2, e3, e4⟩ := key
                  have bg := HE.out.beg hi
                  rw [← hq, ha] at bg
                  have BG := hid bg.2
                  have NX := hid (show begL nl (i + 1) = (z : Int) + 1 by rw [HE.out.next hi, ← hq, hz])
                  have CD := hid (show cntL (nl.drop i) = C + cntL (nl.drop (i + 1)) by rw [cntL_drop hi, ← hq, ← hC])
                  have CE := hid (show (z : Int) - (a : Int) + 1 = C ∧ (a : Int) + C = (z : Int) + 1 by omega)
                  obtain ⟨ki, hki⟩ : ∃ ki, ki = gk := ⟨_, rfl⟩
                  have hi64 : IntKind.i64.wrap ((i : Int) + 1) = (i : Int) + 1 := IntWalk.i64_in _ (by omega)
                  obtain ⟨D, hD⟩ : ∃ D, D = cntL (nl.drop i) := ⟨_, rfl⟩
                  obtain ⟨D1, hD1⟩ : ∃ D1, D1 = cntL (nl.drop (i + 1)) := ⟨_, rfl⟩
                  have cdb : cntL (nl.drop (i + 1)) = D - C := by have := CD.out; omega
                  have D1H := hid hD1
                  have dbd : 0 ≤ D ∧ D ≤ 1000000 := by rw [hD]; exact HE.out.drop_bound HK.out i
                  rw [← hD]
                  rw [← hD1] at cdb
                  have hw8 : IntKind.i64.wrap (D - C) = D1 := by rw [IntWalk.i64_in _ (by omega)]; exact cdb.symm
                  have T9 := hid ht9
                  have C9 := hid hc9
                  have PR := hid (fun (j : Nat) (hj : i = j + 1) => hold_prev ht9 hbl2 (by omega) HC2.out HE.out hi hj)
                  rw [← hq, ha] at PR
                  clear hC hD hD1 hq hqm ht9 hc9 bg cdb
                  go_upto_region 46 with fail
                  go_cut [270] (fun s270 wx => s270 = .bool false ∧ Turned w4.heap.size w4.heap.size w2 wx ∧ Cells wx w4.heap.size (markA t.toList ((M : Int) + 1) (begL nl i)) 3)
                  case first =>
                    simp only [List.append]
                    refine wp_region_quiet_lit (by kernel_rfl) (lexOf (f := Try.f4) (n := 46) (by as_aux_lemma => kernel_rfl) keeps_lex) ?_
                    by_cases h0 : i = 0
                    · have g2 : decide (0 < i) = false := by simpa using h0
                      have g3 : decide ((0 : Int) < (i : Int)) = false := by simp; omega
                      clear h0
                      as_aux_lemma =>
                        repeat (go_big_quiet_step (fail))
                        refine wpQuiet_nil ?_
                        intro _ hw'
                        obtain ⟨nq, hw''⟩ := hw'
                        subst hw''
                        go_wp2
                        go_meet
                        case rel => exact ⟨rfl, T9.out.drewN nq, C9.out.drewN nq⟩
                    · obtain ⟨j, hj⟩ : ∃ j, i = j + 1 := ⟨i - 1, by omega⟩
                      obtain ⟨pf, pc, pl, ph, f0, f1, f2, f3, hpb, hfull⟩ := PR.out j hj
                      have g2 : decide (0 < i) = true := by simp; omega
                      have g3 : decide ((0 : Int) < (i : Int)) = true := by simp; omega
                      have hwj : IntKind.i64.wrap ((i : Int) - 1) = (j : Int) := by rw [IntWalk.i64_in _ (by omega)]; omega
                      have hjl : j < nl.length := by omega
                      have hwp : IntKind.i64.wrap (pf + pc) = pf + pc := IntWalk.i64_in _ (by omega)
                      have g4 : decide ((a : Int) < pf + pc) = false := by simp; omega
                      clear hj h0
                      by_cases hf : pf + pc = (a : Int)
                      · have g5 : (pf + pc == (a : Int)) = true := by simpa using hf
                        by_cases hl : pl = q.cell.lot
                        · have g6 : (pl == q.cell.lot) = true := by simpa using hl
                          have g7 : (ph == q.cell.holder) = false := by simpa using fun hh => hfull hf hl hh
                          clear hf hl
                          as_aux_lemma =>
                            repeat (go_big_quiet_step (fail))
                            refine wpQuiet_nil ?_
                            intro _ hw'
                            obtain ⟨nq, hw''⟩ := hw'
                            subst hw''
                            go_wp2
                            go_meet
                            case rel => exact ⟨rfl, T9.out.drewN nq, C9.out.drewN nq⟩
                        · have g6 : (pl == q.cell.lot) = false := by simpa using hl
                          clear hf hl
                          as_aux_lemma =>
                            repeat (go_big_quiet_step (fail))
                            refine wpQuiet_nil ?_
                            intro _ hw'
                            obtain ⟨nq, hw''⟩ := hw'
                            subst hw''
                            go_wp2
                            go_meet
                            case rel => exact ⟨rfl, T9.out.drewN nq, C9.out.drewN nq⟩
                      · have g5 : (pf + pc == (a : Int)) = false := by simpa using hf
                        clear hf
                        as_aux_lemma =>
                          repeat (go_big_quiet_step (fail))
                          refine wpQuiet_nil ?_
                          intro _ hw'
                          obtain ⟨nq, hw''⟩ := hw'
                          subst hw''
                          go_wp2
                          go_meet
                          case rel => exact ⟨rfl, T9.out.drewN nq, C9.out.drewN nq⟩
                  case rest =>
                    obtain ⟨rfl, ht9, hc9⟩ := hcut
                    as_aux_lemma =>
                      have key := hold_at ht9 hbl2 (by omega) HC2.out hi
                      rw [QE.out, ha] at key
                      obtain ⟨e0, e1, e2, e3, e4⟩ := key
                      have T9 := hid ht9
                      have C9 := hid (show Cells wc w4.heap.size (markA t.toList ((M : Int) + 1) (a : Int)) 3 by rw [← BG.out]; exact hc9)
                      clear ht9 hc9
                      go_wp2_with fail
                      go_loopg [18] (80 - a) (fun k s18 wr => ∃ x : Nat, x + k = 80 ∧ s18 = .int .i64 x ∧ a ≤ x ∧ x ≤ z + 1 ∧ Turned w4.heap.size w4.heap.size w2 wr ∧ Cells wr w4.heap.size (markA t.toList ((M : Int) + 1) (x : Int)) 3)
                      case atStart => exact ⟨a, by omega, rfl, Nat.le_refl _, by omega, T9.out, C9.out⟩
                      case round =>
                        obtain ⟨x, hxk, rfl, hxa, hxz, ht10, hc10⟩ := hrel
                        have key := hold_at ht10 hbl2 (by omega) HC2.out hi
                        rw [QE.out, ha, hz] at key
                        obtain ⟨e0, e1, e2, e3, e4⟩ := key
                        rw [CE.out.1] at e1
                        clear e2 e3 e4
                        have T10 := hid ht10
                        have C10 := hid hc10
                        have lx := hc10.lt
                        have ce := CE.out.2
                        have hwC : IntKind.i64.wrap ((a : Int) + C) = (a : Int) + C := IntWalk.i64_in _ (by omega)
                        have fz : ∀ j, wr.frozen? ⟨w4.heap.size, j, none⟩ = false := fun j => hc10.frozen j
                        by_cases hkz : x ≤ z
                        · have hkz' := hkz
                          as_aux_lemma =>
                            have V := QV.out (x : Int) (by omega) (by omega)
                            have x0 : wr.cell? ⟨w4.heap.size, x, none⟩ = some (.int .i64 0) := by
                              rw [hc10.cell, markA_get _ _ _ _ (by omega), mark_zero (by rw [V]; exact qo.2)]
                            have CN := hid (fun (n : Nat) => show Cells ((wr.drewN n).setCell ⟨w4.heap.size, x, none⟩ (.int .i64 ((M : Int) + 1))) w4.heap.size (markA t.toList ((M : Int) + 1) ((x : Int) + 1)) 3 by
                              rw [← markA_set (by omega) (by rw [V]; exact qo.1) (by rw [V]; exact qo.2)]
                              exact (C10.out.drewN n).set x _)
                            have x1 : decide ((x : Int) < (a : Int) + C) = true := by simp; omega
                            have x2 : decide ((x : Int) < 1) = false := by simp; omega
                            have x3 : decide (80 ≤ (x : Int)) = false := by simp; omega
                            have x4 : x < 80 := by omega
                            have x5 : IntKind.i64.wrap ((x : Int) + 1) = (x : Int) + 1 := IntWalk.i64_in _ (by omega)
                            clear V ht10 hc10 ce
                            go_wp2
                            go_big_quiet (fail)
                            go_wp2
                            go_roundg (gk - 1)
                            case measure => omega
                            case rel => exact ⟨x + 1, by omega, rfl, by omega, by omega, (T10.out.drewN nq).set x _, CN.out nq⟩
                        · have hxe : x = z + 1 := by omega
                          as_aux_lemma =>
                            have x1 : decide ((x : Int) < (a : Int) + C) = false := by simp; omega
                            have CX := hid (show Cells wr w4.heap.size (markA t.toList ((M : Int) + 1) (begL nl (i + 1))) 3 by rw [NX.out, show ((z : Int) + 1) = (x : Int) by omega]; exact hc10)
                            clear ht10 hc10 ce hxe
                            go_wp2
                            go_big_quiet (fail)
                            go_wp2
                            go_roundg (ki - 1)
                            case measure => omega
                            case rel => exact ⟨i + 1, by omega, rfl, by rw [D1H.out], T10.out.drewN nq, CX.out.drewN nq⟩
                · have hie : i = nl.length := by omega
                  as_aux_lemma =>
                    have g1 : decide ((i : Int) < (nl.length : Int)) = false := by simpa using hi
                    have BX := hid (B8.out.trans (ht9.below (n := w4.heap.size) (Nat.le_refl _) (Nat.le_refl _) (by omega)))
                    have CX := hid (show Cells wr w4.heap.size (markA t.toList ((M : Int) + 1 + 1) 1) 3 by rw [← HE.out.fin HK.out, ← hie]; exact hc9)
                    have Z := hid (show cntL (nl.drop i) = 0 by rw [hie, List.drop_length]; rfl)
                    clear ht9 hc9 hie
                    go_wp2
                    go_meet
                    case rel => exact ⟨by rw [Z.out], BX.out, CX.out⟩
            case rest =>
              obtain ⟨rfl, hb9, hc9⟩ := hcut
              go_wp2
              go_roundg (gk - 1)
              case measure => omega
              case rel => exact ⟨M + 1, by omega, by push_cast; rfl, by rw [SN.out, TH.out, NH.out], hb9, by push_cast; exact hc9⟩
          · have : M = 4 := by omega
            subst this
            go_wp2
            go_meet
            case rel => exact ⟨rfl, B6.out, C6.out⟩
    case rest =>
      obtain ⟨rfl, hb, hc⟩ := hcut
      as_aux_lemma =>
        have B11 := hid hb
        have C11 := hid hc
        have IN := hid (show sumTo t.toList 4 = S by rw [HS.out, HK.out.sum_four])
        have M5 := hid (fun k : Nat => HK.out.mark_five (k := k))
        have OW := hid HK.out.owner
        clear hb hc
        go_wp2_with fail
        go_loopg [19] 79 (fun k s19 wr => ∃ x : Nat, x + k = 80 ∧ 1 ≤ x ∧ s19 = .int .i64 x ∧ Below w4.heap.size w4 wr ∧ Cells wr w4.heap.size (markA t.toList 5 1) 3)
        case atStart => exact ⟨1, rfl, by omega, rfl, B11.out, C11.out⟩
        case round =>
          obtain ⟨x, hxk, hx1, rfl, hb12, hc12⟩ := hrel
          by_cases hx : x < 80
          · have g1 : decide ((x : Int) < 80) = true := by simp; omega
            have RG12 := hid (RG.out.after BW.out.size hb12)
            have B12 := hid hb12
            have C12 := hid hc12
            have l12 := hc12.lt
            have z12 := hb12.size
            clear hb12 hc12
            go_wp2_with fail
            refine (pocket_last RG12.out hn1 HT.out (x : Int) (by omega)).mono ?_
            rintro e w13 ⟨rfl, hb13⟩
            have B13 := hid (B12.out.trans (hb13.mono z12))
            have c13 := C12.out.below hb13 l12
            have C13 := hid c13
            have l13 := c13.lt
            have mk := M5.out x
            have ow := OW.out (x : Int)
            obtain ⟨⟨st, lo, ow1, hd⟩, hcl⟩ : ∃ c : Cl, c = valL t.toList (x : Int) := ⟨_, rfl⟩
            rw [← hcl] at mk ow
            rw [← hcl, show (Cl.mk st lo ow1 hd).val = .agg #[.int .i64 st, .int .i64 lo, .int .i64 ow1, .int .i64 hd] from rfl]
            simp only at mk ow
            have x0 : w13.cell? ⟨w4.heap.size, x, none⟩ = some (.int .i64 (if st = 1 then ow1 else 0)) := by rw [c13.cell, markA_get _ _ _ _ hx, mk]
            have x5 : IntKind.i64.wrap ((x : Int) + 1) = (x : Int) + 1 := IntWalk.i64_in _ (by omega)
            have BN := hid ((((B13.out.alloc (Nat.le_of_lt l13) (.cells #[.int .i64 st, .int .i64 lo, .int .i64 ow1, .int .i64 hd] 52)))))
            have CNX := hid (C13.out.alloc (.cells #[.int .i64 st, .int .i64 lo, .int .i64 ow1, .int .i64 hd] 52))
            clear mk hcl hb13 c13 RG12 B12 C12 M5 OW
            by_cases hs : st = 1
            · obtain ⟨ow, _⟩ := ow hs
              as_aux_lemma =>
                rw [if_pos hs] at x0
                have y1 : (st == 1) = true := by simpa using hs
                have y2 : decide (0 < ow1) = true := by simp; omega
                clear hs
                go_wp2
                go_big_quiet (fail)
                go_wp2
                go_roundg (gk - 1)
                case measure => omega
                case rel => exact ⟨x + 1, by omega, by omega, rfl, drewN_below BN.out nq, CNX.out.drewN nq⟩
            · rw [if_neg hs] at x0
              as_aux_lemma =>
                have y1 : (st == 1) = false := by simpa using hs
                clear hs ow
                go_wp2
                go_big_quiet (fail)
                go_wp2
                go_roundg (gk - 1)
                case measure => omega
                case rel => exact ⟨x + 1, by omega, by omega, rfl, drewN_below BN.out nq, CNX.out.drewN nq⟩
          · have : x = 80 := by omega
            subst this
            as_aux_lemma =>
              have B12 := hid hb12
              have SE : (sumTo t.toList 4 == S) = true := by rw [IN.out]; simp
              clear hb12 hc12
              go_wp2_with fail
              refine (awake_calls _).mono ?_
              rintro e w14 ⟨rfl, hb14⟩
              have BF := hid (BW.out.trans ((B12.out.trans (hb14.mono B12.out.size)).mono BW.out.size))
              clear hb14
              go_wp2
              exact bodyPost_ret (v := .bool true) (by simp [results, Try.results4, go_sem]) rfl ⟨rfl, BF.out⟩
end Go.Proofs.Ytnnbdjfeagcbdaa
