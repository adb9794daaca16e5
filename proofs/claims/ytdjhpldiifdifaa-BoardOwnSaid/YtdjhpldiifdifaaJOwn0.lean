/- BoardOwn: the walk. BoardOwn: the arguments opened. BoardOwn: for every input the law returns true, and its arguments read as before. Conditions: none beyond those of the given statement. -/
import Derived.Deep.DeepCutAuto
import Derived.Test.YtdjhpldiifdifaaJRun0
import Derived.Test.YtdjhpldiifdifaaJCtc
import Derived.Test.YtdjhpldiifdifaaJOpen
namespace Go.Proofs.Ytdjhpldiifdifaa
set_option linter.unusedSimpArgs false
set_option linter.unusedVariables false
open Go.RowKit Go.Shelf
attribute [local go_sem] Oper.semAt_some
attribute [local go_sem ↓] Go.wp_at_zero Go.wp_at_succ

/-- A block whose first n cells are ints. -/
def IntB (w : World) (g n : Nat) (ty : TypeId) : Prop := ∃ cs, Cells w g cs ty ∧ ∀ j, j < n → ∃ z, cs[j]? = some (Value.int .i64 z)
theorem IntB.cell {w : World} {g n : Nat} {ty : TypeId} (h : IntB w g n ty) {j : Nat} (hj : j < n) : ∃ z, w.cell? ⟨g, j, none⟩ = some (.int .i64 z) := by
  obtain ⟨cs, hc, hz⟩ := h
  obtain ⟨z, hz⟩ := hz j hj
  exact ⟨z, by rw [hc.cell]; exact hz⟩
theorem IntB.froz {w : World} {g n : Nat} {ty : TypeId} (h : IntB w g n ty) (j : Nat) : w.frozen? ⟨g, j, none⟩ = false := by
  obtain ⟨cs, hc, _⟩ := h
  exact hc.frozen j
theorem IntB.lt {w : World} {g n : Nat} {ty : TypeId} (h : IntB w g n ty) : g < w.heap.size := by
  obtain ⟨cs, hc, _⟩ := h
  exact hc.lt
theorem IntB.set {w : World} {g n : Nat} {ty : TypeId} (h : IntB w g n ty) (j : Nat) (z : Int) : IntB (w.setCell ⟨g, j, none⟩ (.int .i64 z)) g n ty := by
  obtain ⟨cs, hc, hz⟩ := h
  refine ⟨_, hc.set j _, fun i hi => ?_⟩
  obtain ⟨y, hy⟩ := hz i hi
  by_cases e : j = i
  · subst e
    have hlt := (Array.getElem?_eq_some_iff.1 hy).1
    exact ⟨z, by rw [Array.getElem?_setIfInBounds_self_of_lt hlt]⟩
  · exact ⟨y, by rw [Array.getElem?_setIfInBounds_ne e]; exact hy⟩
theorem IntB.kept {X : Nat → Prop} {w w' : World} {g n : Nat} {ty : TypeId} (h : IntB w g n ty) (hk : Kept X w w') (hx : ¬ X g) : IntB w' g n ty := by
  obtain ⟨cs, hc, hz⟩ := h
  exact ⟨cs, hc.kept hk hx, hz⟩
theorem IntB.below {w w' : World} {g n : Nat} {ty : TypeId} (h : IntB w g n ty) (hb : Below w.heap.size w w') : IntB w' g n ty := by
  obtain ⟨cs, hc, hz⟩ := h
  exact ⟨cs, hc.below hb hc.lt, hz⟩
/-- A row of ints. -/
theorem OwnE.ints {α : Type} {enc : α → List Value} {sz : Nat} {e : TypeId} (hlen : ∀ a, (enc a).length = sz) (hi : ∀ a, ∀ u ∈ enc a, ∃ z, u = Value.int .i64 z) {B : Nat} {w : World} {v : Value} {l : List α} (h : OwnE enc sz e B w v l) :
    ∃ p cap g, v = .slice p l.length cap ∧ (0 < l.length → p = some ⟨g, 0, none⟩ ∧ B ≤ g ∧ IntB w g (l.length * sz) e) := by
  rcases h.2 with ⟨h1, h2⟩ | ⟨g, cap, cur, hv, hb, hg, h3⟩
  · exact ⟨none, 0, 0, by rw [h1, h2], fun h0 => by omega⟩
  · subst hv
    refine ⟨_, cap, g, rfl, fun _ => ⟨rfl, hb, cur, hg, fun j hj => ?_⟩⟩
    have hc : Cells w g cur e := hg
    have hl := flatE_length hlen l
    have hj2 : j < (flatE enc l).length := by omega
    have hmem : (flatE enc l)[j] ∈ flatE enc l := List.getElem_mem hj2
    obtain ⟨a, _, hu⟩ := List.mem_flatMap.1 hmem
    obtain ⟨z, hz⟩ := hi a _ hu
    refine ⟨z, ?_⟩
    rw [← hc.cell, World.ownsRow.cellAt h j (by omega), List.getElem?_eq_getElem hj2, hz]
/-- What is written in blocks that are new. -/
theorem CtC.wrote {w w3 wr w' : World} {b r8 : Nat} {O : Nat → Nat} {G : Mm} {N : Nat} {last : Int} {vx : Value} {x : Rb} {i : Nat} (h : CtC w w3 wr b r8 O G N last vx x i) {g : Nat} (hg : w3.heap.size ≤ g) (hk : Kept (fun k => k = g) wr w') : CtC w w3 w' b r8 O G N last vx x i :=
  ⟨h.lk, h.hi, h.c8, h.below, h.low, h.now.trans (hk.below (B := w3.heap.size) h.now.size (fun k e => by omega))⟩

set_option maxRecDepth 100000 in
set_option maxHeartbeats 20000000 in
theorem own_calls (w : World) (v : Value) (l : List Ac) (hv : ReadsE encA 13 w v l) (hok : ∀ x ∈ l, AcOk x) :
    Calls Try.prog 10 #[v] w fun e w' => e = .returned (.bool true) ∧ Below w.heap.size w w' := by
  have RU := hid (run_calls w v l hv hok 25 (by omega))
  obtain ⟨R, hR⟩ : ∃ R : Ending → World → Prop, R = fun e w' => e = .returned (.bool true) ∧ Below w.heap.size w w' := ⟨_, rfl⟩
  have FIN := hid (show ∀ w', Below w.heap.size w w' → R (.returned (.bool true)) w' by intro w' h; rw [hR]; exact ⟨rfl, h⟩)
  rw [← hR]
  have AW := hid awake_calls
  obtain ⟨_, p0, cap0, _, _, rfl, _⟩ := hv
  clear hR
  go_enter Try.func10, Try.ntmps10
  go_wp2_with fail
  refine RU.out.mono ?_
  rintro e w2 ⟨b, O, G, N, last, vx, x, i, rfl, lk, hi, hb2, low⟩
  obtain ⟨p9, cap9, _, rfl, _, _⟩ := lk.row.rows
  obtain ⟨n9, hn9⟩ : ∃ n9, n9 = x.L.length := ⟨_, rfl⟩
  rw [← hn9] at lk ⊢
  have HN9 := hid hn9
  obtain ⟨w3, hw3⟩ : ∃ w3, w3 = w2.alloc (.cells #[.slice p9 n9 cap9, .int .i64 x.nums, .int .i64 x.turn, .int .i64 x.paid] 49) := ⟨_, rfl⟩
  have b3 : Below w2.heap.size w2 w3 := by rw [hw3]; exact (Below.refl _ _).alloc (Nat.le_refl _) _
  have K3 := hid (show CtC w w3 w3 b w2.heap.size (grow O w2 0) G N last (.slice p9 n9 cap9) x i from
    ⟨lk.grow b3, hi, by rw [hw3]; exact Cells.new _ _ _, hb2.trans (b3.mono hb2.size), fun k hk => by rw [grow_old (Nat.lt_of_lt_of_le hk hb2.size)]; exact low k hk, Below.refl _ _⟩)
  obtain ⟨r8, hr8⟩ : ∃ r8, r8 = w2.heap.size := ⟨_, rfl⟩
  obtain ⟨O3, hO3⟩ : ∃ O3, O3 = grow O w2 0 := ⟨_, rfl⟩
  rw [← hr8, ← hO3] at K3
  have HR8 := hid hr8
  have HW3 := hid hw3
  clear lk hi hb2 low hw3 b3 RU hn9 hr8 hO3
  unfold rbV
  go_upto_region 4 with fail
  rw [← HW3.out, ← HR8.out]
  go_wp2_with fail
  go_loopg [5] 2 (fun k s5 wq => ∃ s : Nat, s + k = 3 ∧ 1 ≤ s ∧ s5 = .int .i64 s ∧ CtC w w3 wq b r8 O3 G N last (.slice p9 n9 cap9) x i)
  case atStart => exact ⟨1, by omega, by omega, rfl, K3.out⟩
  case round =>
    obtain ⟨s, hsk, hs1, rfl, sj⟩ := hrel
    have HSK := hid hsk
    have SJ := hid sj
    clear hsk sj K3
    by_cases hs2 : s ≤ 2
    · have hss : (s : Int) = 1 ∨ (s : Int) = 2 := by omega
      have gs : (s : Int) ≤ 2 := by omega
      have DEP := hid (depth_side SJ.out.at.bd hss 10)
      have HSS := hid hss
      clear hss hs2
      go_wp2_with fail
      refine DEP.out.mono ?_
      rintro e w5 ⟨u5, rfl, hu5, hb5⟩
      have S5 := hid (SJ.out.after hb5)
      obtain ⟨M, hM⟩ : ∃ M, M = ((levsF ((G.bd N last).half s)).take (10 : Int).toNat).length := ⟨_, rfl⟩
      obtain ⟨p5, c5, g5, hv5, hp5⟩ := hu5.ints (sz := 3) (fun _ => rfl) (fun a u hu => by simp only [encLw, List.mem_cons, List.not_mem_nil, or_false] at hu; rcases hu with rfl | rfl | rfl <;> exact ⟨_, rfl⟩)
      rw [← hM] at hv5 hp5
      subst hv5
      have hM10 : M ≤ 10 := by rw [hM]; exact List.length_take_le _ _
      have G5 := hid (show 0 < M → w3.heap.size ≤ g5 from fun h => Nat.le_trans SJ.out.now.size (hp5 h).2.1)
      have P5 := hid (show 0 < M → p5 = some ⟨g5, 0, none⟩ from fun h => (hp5 h).1)
      have I5 := hid (show 0 < M → IntB w5 g5 (M * 3) 72 from fun h => (hp5 h).2.2)
      clear hu5 hb5 hM hp5 DEP
      go_wp2_with fail
      go_loopg [7] M (fun k s7 wq => ∃ a : Nat, s7 = .int .i64 a ∧ a ≤ M ∧ k = M - a ∧ CtC w w3 wq b r8 O3 G N last (.slice p9 n9 cap9) x i ∧ (0 < M → IntB wq g5 (M * 3) 72))
      case atStart => exact ⟨0, rfl, by omega, by omega, S5.out, I5.out⟩
      case round =>
        obtain ⟨a, rfl, ha, hk, sa, ia⟩ := hrel
        obtain ⟨w6, rfl⟩ : ∃ w6 : World, w6 = wr := ⟨_, rfl⟩
        have HK := hid hk
        have SA := hid sa
        have IA := hid ia
        clear hk sa ia I5 S5
        by_cases haM : a < M
        · obtain rfl := P5.out (by omega)
          have ib := IA.out (by omega)
          obtain ⟨z, hz⟩ := ib.cell (j := a * 3) (by omega)
          have il := ib.lt
          have IB := hid ib
          have gi : (a : Int) < (M : Int) := by omega
          have gi4 : (0 : Int) ≤ (a : Int) := by omega
          have QU := hid (queue_side SA.out.at.bd HSS.out z)
          clear ib
          go_wp2_with fail
          refine QU.out.mono ?_
          rintro e w7 ⟨u7, rfl, hu7, hb7⟩
          have S7 := hid (SA.out.after hb7)
          have I7 := hid (IB.out.below hb7)
          obtain ⟨MQ, hMQ⟩ : ∃ MQ, MQ = (queueF z ((G.bd N last).half s)).length := ⟨_, rfl⟩
          obtain ⟨p7, c7, g7, hv7, hp7⟩ := hu7.ints (sz := 1) (fun _ => rfl) (fun a u hu => by simp only [encI, List.mem_cons, List.not_mem_nil, or_false] at hu; exact ⟨_, hu⟩)
          rw [← hMQ] at hv7 hp7
          subst hv7
          have hMQ4 : MQ ≤ 4096 := by
            rw [hMQ]
            have h1 := queueF_len (p := z) (h := (G.bd N last).half s)
            have h2 := S7.out.at.bd.few
            have h3 : ((G.bd N last).half s).all.length ≤ (G.bd N last).live.length := by
              unfold Bd.live Bd.half
              split <;> simp only [List.length_append] <;> omega
            rw [Mm.bd_live, List.length_map] at h3
            omega
          have G7 := hid (show 0 < MQ → w3.heap.size ≤ g7 ∧ g5 < g7 from fun h => ⟨Nat.le_trans SA.out.now.size (hp7 h).2.1, Nat.lt_of_lt_of_le il (hp7 h).2.1⟩)
          have P7 := hid (show 0 < MQ → p7 = some ⟨g7, 0, none⟩ from fun h => (hp7 h).1)
          have J7 := hid (show 0 < MQ → IntB w7 g7 MQ 3 from fun h => by have := (hp7 h).2.2; rwa [Nat.mul_one] at this)
          clear hu7 hb7 hMQ hp7 QU hz il IB
          go_wp2_with fail
          go_loopg [9] MQ (fun k s9 wq => ∃ j : Nat, s9 = .int .i64 j ∧ j ≤ MQ ∧ k = MQ - j ∧ CtC w w3 wq b r8 O3 G N last (.slice p9 n9 cap9) x i ∧ IntB wq g5 (M * 3) 72 ∧ (0 < MQ → IntB wq g7 MQ 3))
          case atStart => exact ⟨0, rfl, by omega, by omega, S7.out, I7.out, J7.out⟩
          case round =>
            obtain ⟨j, rfl, hj, hkj, sj, ij, jj⟩ := hrel
            obtain ⟨w8, rfl⟩ : ∃ w8 : World, w8 = wr := ⟨_, rfl⟩
            have HKJ := hid hkj
            have SJ8 := hid sj
            have IJ := hid ij
            have JJ := hid jj
            clear hkj sj ij jj I7 J7 S7
            by_cases hjM : j < MQ
            · obtain rfl := P7.out (by omega)
              have ib := JJ.out (by omega)
              obtain ⟨y, hy⟩ := ib.cell hjM
              have fy := ib.froz j
              have il := ib.lt
              have gj : (j : Int) < (MQ : Int) := by omega
              have gj4 : (0 : Int) ≤ (j : Int) := by omega
              have NX := hid (show ∀ wx, wx = w8.setCell ⟨g7, j, none⟩ (.int .i64 (-1)) → CtC w w3 wx b r8 O3 G N last (.slice p9 n9 cap9) x i ∧ IntB wx g5 (M * 3) 72 ∧ (0 < MQ → IntB wx g7 MQ 3) by
                rintro wx rfl
                have hg := G7.out (by omega)
                have kk : Kept (fun k => k = g7) w8 (w8.setCell ⟨g7, j, none⟩ (.int .i64 (-1))) := (Kept.refl (fun k => k = g7) w8).set (C := g7) rfl j _
                exact ⟨SJ8.out.wrote hg.1 kk, IJ.out.kept kk (fun e => by omega), fun _ => ib.set j (-1)⟩)
              clear ib
              go_wp2
              go_roundg (MQ - (j + 1))
              · obtain ⟨n1, n2, n3⟩ := NX.out _ rfl
                exact ⟨j + 1, by go_num, by omega, by omega, n1, n2, n3⟩
              · have := HKJ.out; omega
            · have hj2 : j = MQ := by omega
              subst hj2
              have g3 : decide ((j : Int) < (j : Int)) = false := by simp
              have ib := IJ.out
              obtain ⟨y0, hy0⟩ := ib.cell (j := a * 3) (by omega)
              obtain ⟨y1, hy1⟩ := ib.cell (j := a * 3 + 1) (by omega)
              obtain ⟨y2, hy2⟩ := ib.cell (j := a * 3 + 2) (by omega)
              have f0 := ib.froz (a * 3)
              have f1 := ib.froz (a * 3 + 1)
              have f2 := ib.froz (a * 3 + 2)
              have il := ib.lt
              have NX := hid (show ∀ wx, wx = ((w8.setCell ⟨g5, a * 3, none⟩ (.int .i64 0)).setCell ⟨g5, a * 3 + 1, none⟩ (.int .i64 0)).setCell ⟨g5, a * 3 + 2, none⟩ (.int .i64 0) → CtC w w3 wx b r8 O3 G N last (.slice p9 n9 cap9) x i ∧ IntB wx g5 (M * 3) 72 by
                rintro wx rfl
                have hg := G5.out (by omega)
                have kk : Kept (fun k => k = g5) w8 (((w8.setCell ⟨g5, a * 3, none⟩ (.int .i64 0)).setCell ⟨g5, a * 3 + 1, none⟩ (.int .i64 0)).setCell ⟨g5, a * 3 + 2, none⟩ (.int .i64 0)) := (((Kept.refl (fun k => k = g5) w8).set (C := g5) rfl _ _).set (C := g5) rfl _ _).set (C := g5) rfl _ _
                exact ⟨SJ8.out.wrote hg kk, ((ib.set _ 0).set _ 0).set _ 0⟩)
              clear ib JJ G7 P7
              go_wp2
              go_roundg (M - (a + 1))
              · obtain ⟨n1, n2⟩ := NX.out _ rfl
                exact ⟨a + 1, by go_num, by omega, by omega, n1, fun _ => n2⟩
              · have := HK.out; omega
        · have ha2 : a = M := by omega
          subst ha2
          have g3 : decide ((a : Int) < (a : Int)) = false := by simp
          go_wp2
          go_roundg (3 - (s + 1))
          · exact ⟨s + 1, by have := HSK.out; omega, by omega, by go_num, SA.out⟩
          · have := HSK.out; omega
    · have g1 : ¬ (s : Int) ≤ 2 := by omega
      have OR := hid (orders_calls SJ.out.at.bd)
      clear hs2
      go_wp2_with fail
      refine OR.out.mono ?_
      rintro e w5 ⟨u5, T5, rfl, hu5, hT5, hb5⟩
      have S5 := hid (SJ.out.after hb5)
      obtain ⟨MA, hMA⟩ : ∃ MA, MA = T5.length := ⟨_, rfl⟩
      obtain ⟨p5, c5, g5, hv5, hp5⟩ := hu5.ints (sz := 1) (fun _ => rfl) (fun a u hu => by simp only [encI, List.mem_cons, List.not_mem_nil, or_false] at hu; exact ⟨_, hu⟩)
      have hMA4 : MA ≤ 4096 := by
        rw [hMA, hT5.perm.length_eq, List.length_map]
        exact S5.out.at.bd.few
      rw [← hMA] at hv5 hp5
      subst hv5
      have G5 := hid (show 0 < MA → w3.heap.size ≤ g5 from fun h => Nat.le_trans SJ.out.now.size (hp5 h).2.1)
      have L5 := hid (show 0 < MA → g5 < w5.heap.size from fun h => (hp5 h).2.2.lt)
      have P5 := hid (show 0 < MA → p5 = some ⟨g5, 0, none⟩ from fun h => (hp5 h).1)
      have I5 := hid (show 0 < MA → IntB w5 g5 MA 3 from fun h => by have := (hp5 h).2.2; rwa [Nat.mul_one] at this)
      have ST := hid (stopsList_calls S5.out.at.bd)
      clear hu5 hT5 hb5 hMA hp5 OR
      go_wp2_with fail
      refine ST.out.mono ?_
      rintro e w6 ⟨u6, rfl, hu6, hb6⟩
      have S6 := hid (S5.out.after hb6)
      have I6 := hid (show 0 < MA → IntB w6 g5 MA 3 from fun h => (I5.out h).below hb6)
      obtain ⟨MS, hMS⟩ : ∃ MS, MS = (G.wt.map fun E => (G.en E).n).length := ⟨_, rfl⟩
      obtain ⟨p6, c6, g6, hv6, hp6⟩ := hu6.ints (sz := 1) (fun _ => rfl) (fun a u hu => by simp only [encI, List.mem_cons, List.not_mem_nil, or_false] at hu; exact ⟨_, hu⟩)
      have hMS4 : MS ≤ 4096 := by
        have h2 := S6.out.at.bd.few
        rw [hMS, List.length_map]
        unfold Mm.live at h2
        simp only [List.length_append] at h2
        omega
      rw [← hMS] at hv6 hp6
      subst hv6
      have G6 := hid (show 0 < MS → w3.heap.size ≤ g6 ∧ (0 < MA → g5 ≠ g6) from fun h => ⟨Nat.le_trans S5.out.now.size (hp6 h).2.1, fun h5 => by have := L5.out h5; have := (hp6 h).2.1; omega⟩)
      have P6 := hid (show 0 < MS → p6 = some ⟨g6, 0, none⟩ from fun h => (hp6 h).1)
      have J6 := hid (show 0 < MS → IntB w6 g6 MS 3 from fun h => by have := (hp6 h).2.2; rwa [Nat.mul_one] at this)
      clear hu6 hb6 hMS hp6 ST I5 S5
      go_wp2_with fail
      go_loopg [12] MA (fun k sx wq => ∃ j : Nat, sx = .int .i64 j ∧ j ≤ MA ∧ k = MA - j ∧ CtC w w3 wq b r8 O3 G N last (.slice p9 n9 cap9) x i ∧ (0 < MA → IntB wq g5 MA 3) ∧ (0 < MS → IntB wq g6 MS 3))
      case atStart => exact ⟨0, rfl, by omega, by omega, S6.out, I6.out, J6.out⟩
      case round =>
        obtain ⟨j, rfl, hj, hkj, sj, jj, js⟩ := hrel
        obtain ⟨w7, rfl⟩ : ∃ w7 : World, w7 = wr := ⟨_, rfl⟩
        have HKJ := hid hkj
        have SJ8 := hid sj
        have JJ := hid jj
        have JS := hid js
        clear js
        clear hkj sj jj I6 J6 S6
        by_cases hjM : j < MA
        · obtain rfl := P5.out (by omega)
          have ib := JJ.out (by omega)
          obtain ⟨y, hy⟩ := ib.cell hjM
          have fy := ib.froz j
          have il := ib.lt
          have gj : (j : Int) < (MA : Int) := by omega
          have gj4 : (0 : Int) ≤ (j : Int) := by omega
          have NX := hid (show ∀ wx, wx = w7.setCell ⟨g5, j, none⟩ (.int .i64 (-1)) → CtC w w3 wx b r8 O3 G N last (.slice p9 n9 cap9) x i ∧ (0 < MA → IntB wx g5 MA 3) ∧ (0 < MS → IntB wx g6 MS 3) by
            rintro wx rfl
            have hg := G5.out (by omega)
            have kk : Kept (fun k => k = g5) w7 (w7.setCell ⟨g5, j, none⟩ (.int .i64 (-1))) := (Kept.refl (fun k => k = g5) w7).set (C := g5) rfl j _
            exact ⟨SJ8.out.wrote hg kk, fun _ => ib.set j (-1), fun h => (JS.out h).kept kk (fun e => (G6.out h).2 (by omega) e.symm)⟩)
          clear ib
          go_wp2
          go_roundg (MA - (j + 1))
          · obtain ⟨n1, n2, n3⟩ := NX.out _ rfl
            exact ⟨j + 1, by go_num, by omega, by omega, n1, n2, n3⟩
          · have := HKJ.out; omega
        · have hj2 : j = MA := by omega
          subst hj2
          have g3 : decide ((j : Int) < (j : Int)) = false := by simp
          clear JJ
          go_wp2_with fail
          go_loopg [13] MS (fun k sx wq => ∃ j : Nat, sx = .int .i64 j ∧ j ≤ MS ∧ k = MS - j ∧ CtC w w3 wq b r8 O3 G N last (.slice p9 n9 cap9) x i ∧ (0 < MS → IntB wq g6 MS 3))
          case atStart => exact ⟨0, rfl, by omega, by omega, SJ8.out, JS.out⟩
          case round =>
            obtain ⟨j, rfl, hj, hkj, sj, jj⟩ := hrel
            obtain ⟨w8, rfl⟩ : ∃ w8 : World, w8 = wr := ⟨_, rfl⟩
            have HKJ := hid hkj
            have SJ8 := hid sj
            have JJ := hid jj
            clear hkj sj jj JS
            by_cases hjM : j < MS
            · obtain rfl := P6.out (by omega)
              have ib := JJ.out (by omega)
              obtain ⟨y, hy⟩ := ib.cell hjM
              have fy := ib.froz j
              have il := ib.lt
              have gj : (j : Int) < (MS : Int) := by omega
              have gj4 : (0 : Int) ≤ (j : Int) := by omega
              have NX := hid (show ∀ wx, wx = w8.setCell ⟨g6, j, none⟩ (.int .i64 (-1)) → CtC w w3 wx b r8 O3 G N last (.slice p9 n9 cap9) x i ∧ (0 < MS → IntB wx g6 MS 3) by
                rintro wx rfl
                have hg := G6.out (by omega)
                have kk : Kept (fun k => k = g6) w8 (w8.setCell ⟨g6, j, none⟩ (.int .i64 (-1))) := (Kept.refl (fun k => k = g6) w8).set (C := g6) rfl j _
                exact ⟨SJ8.out.wrote hg.1 kk, fun _ => ib.set j (-1)⟩)
              clear ib
              go_wp2
              go_roundg (MS - (j + 1))
              · obtain ⟨n1, n2⟩ := NX.out _ rfl
                exact ⟨j + 1, by go_num, by omega, by omega, n1, n2⟩
              · have := HKJ.out; omega
            · have hj2 : j = MS := by omega
              subst hj2
              have g3 : decide ((j : Int) < (j : Int)) = false := by simp
              have SH := hid (shows_calls SJ8.out.at (by have := SJ8.out.hi; omega))
              unfold rbV at SH
              obtain ⟨x0, x1, x2, x3, xl⟩ := SJ8.out.cell
              clear JJ
              go_wp2_with fail
              refine SH.out.mono ?_
              rintro e w9 ⟨rfl, hb9⟩
              have S9 := hid (SJ8.out.after hb9)
              clear hb9 x0 x1 x2 x3 xl SH
              go_wp2_with fail
              refine (AW.out _).mono ?_
              rintro e w10 ⟨rfl, hb10⟩
              have FN := hid (FIN.out w10 (S9.out.after hb10).out)
              go_wp2
              first | exact FN.out | (go_ret; exact FN.out)
end Go.Proofs.Ytdjhpldiifdifaa
namespace Go.Proofs.Ytdjhpldiifdifaa.boardOwn
set_option linter.unusedSimpArgs false
set_option linter.unusedVariables false
open Go.RowKit Go.ChangeShapes Go.WideShapes

set_option maxRecDepth 100000 in
theorem boardOwn_walk {H : Type} {enc : TypeId × Value → H} (W : World) (args : Array Value) (ds : List (DataW H)) (p : List MemPlace) {base : Nat}
    (hval : ∀ (j : Nat) t v, (#[22] : Array TypeId)[j]? = some t → args[j]? = some v → Value.okWide Try.prog W .any base t v)
    (hA : DataW.TrodAll enc Try.prog W 0 (fun _ => true) true [22] args.toList ds p) : Calls Try.prog 10 args W fun e w' => e = .returned (.bool true) ∧ Below W.heap.size W w' := by
  obtain ⟨v0, vs0, d0, ds0, p0, q0, hargs, rfl, rfl, h0, r0⟩ := trodAll_cons hA
  obtain ⟨rfl, rfl, rfl⟩ := trodAll_nil r0
  obtain rfl : args = #[v0] := by cases args; simp_all
  obtain ⟨l0, hl0, hok0⟩ := acts_open (hval 0 _ v0 rfl rfl) h0
  exact own_calls W v0 l0 hl0 hok0
end Go.Proofs.Ytdjhpldiifdifaa.boardOwn
namespace Go.Proofs.Ytdjhpldiifdifaa.boardOwn
set_option linter.unusedSimpArgs false
set_option linter.unusedVariables false
open Go.ChangeShapes Go.WideShapes Go.ChangeAt Go.RowKit

theorem own : ownKnob Try.prog.godebug = none := by kernel_rfl
theorem laidOut : laidOutB Try.prog = true := by kernel_rfl
theorem readable : ∀ t ∈ [22], Try.prog.readableRec t = true ∧ t < Try.prog.types.size := by
  intro t ht
  simp only [List.mem_cons, List.mem_nil_iff, or_false] at ht
  rcases ht with rfl <;> exact ⟨by kernel_rfl, of_decide_eq_true (by kernel_rfl)⟩

set_option maxRecDepth 100000 in
theorem lifted (os : Os) (started : os.Started) (H : Type) (enc : TypeId × Value → H) :
    ReturnsInHanded {} Try.checked os 10 .any (Rows.boardOwnSpec.pre6 enc Try.prog Try.f10 Rows.boardOwnRow.domain false) (Rows.boardOwnSpec.post enc Try.prog Try.f10 false true false false) := by
  refine returnsInHanded_of_change (C := Try.checked) own started (by kernel_rfl) Try.func10
    (ChangeSpec.witness6 (enc := enc) (C := Try.checked) false ⟨#[], #[.slice none 0 0], []⟩ 8 (by kernel_rfl) (by kernel_rfl) (by kernel_rfl) (by kernel_rfl)) ?_
  intro W base args ds gs before hval0 hW hcnd _
  have hval : ∀ (j : Nat) t v, Try.f10.params[j]? = some t → args[j]? = some v → Value.okWide Try.prog W .any base t v := hval0
  have hW' := hW
  obtain ⟨p, q, hA0, hV, rfl, hfz, hnd⟩ := hW
  have hA : DataW.TrodAll enc Try.prog W 0 (fun _ => true) true Try.f10.params.toList args.toList ds p := hA0
  rw [Try.params10] at hA hval
  obtain ⟨rfl, rfl⟩ := trodVars_none hV
  clear hA0 hval0
  simp only [List.append_nil] at hW'
  have hlt : ∀ x ∈ p, x.block < W.heap.size := fun x hx => hW'.lt x hx
  refine (boardOwn_walk W args ds p (base := base) hval hA).mono fun e W' ⟨he, hg⟩ => ?_
  subst he
  have hst := fun sp hs => trodAll_stays laidOut hg [22] args.toList ds p readable hA hlt sp hs
  obtain ⟨v0, vs0, d0, ds0, p0, q0, hargs, rfl, rfl, h0, r0⟩ := trodAll_cons hA
  obtain ⟨rfl, rfl, rfl⟩ := trodAll_nil r0
  exact ⟨_, rfl, post_of_below (pv := []) hW' (fun _ _ _ => (trodAll_cons_mk (shut_bool Try.underlying4 _) trodAll_mk0)) (fun sp hs => hst sp hs) (fun _ _ => rfl) (by simp)
    hg (ok_one (by kernel_rfl) rfl (okWide_bool_mk Try.underlying4 _))⟩

theorem over : Rows.boardOwnRow.holds Try.pinned (OpenSpec.ofChange Rows.boardOwnSpec) :=
  OpenClaim.holds_of_wide 10 Try.f10 rfl rfl rfl rfl rfl rfl rfl ⟨rfl, rfl, rfl, rfl, rfl⟩ rfl rfl rfl rfl rfl (by kernel_rfl) Try.func10 (by kernel_rfl)
    (of_decide_eq_true (by kernel_rfl)) (by unfold Func.isWrapper; first | (rw [if_pos (by decide +kernel)]; kernel_rfl) | (rw [if_neg (by decide +kernel)]; exact ⟨rfl, rfl⟩))
    (fun os started H enc _ => lifted os started H enc)

/-- The statement. -/
theorem proved : Rows.BoardOwnSaid := over
#print axioms proved
end Go.Proofs.Ytdjhpldiifdifaa.boardOwn
