/- The law StockAlphas: its walk. -/
import Derived.Test.YtnnbdjfeagcbdaaWorth2
import Derived.Test.YtnnbdjfeagcbdaaAwake
import Derived.Test.YtnnbdjfeagcbdaaOpen
namespace Go.Proofs.Ytnnbdjfeagcbdaa
set_option linter.unusedSimpArgs false
set_option linter.unusedVariables false
open Go.RowKit Go.Shelf
attribute [local go_sem] Oper.semAt_some

def encT (x : Int × Int) : List Value := [.int .i64 x.1, .int .i64 x.2]
theorem encT_len (x : Int × Int) : (encT x).length = 2 := rfl
theorem info_test : (Try.prog.info? 72).map (fun i => (i.zero, i.size, i.bytes)) = some (some (.agg #[.int .i64 0, .int .i64 0]), 2, 16) := by kernel_rfl
theorem info_rtest : (Try.prog.info? 73).map (fun i => (i.zero, i.size, i.bytes)) = some (some (.agg #[.int .i64 0, .int .i64 0]), 2, 16) := by kernel_rfl
theorem under_tests : Try.prog.underlying 70 = some (.slice 72) := by kernel_rfl
theorem under_rtests : Try.prog.underlying 68 = some (.slice 73) := by kernel_rfl
theorem pairs_of_reads {w : World} {v : Value} {xs : List (Int × Int)} (h : ReadsE encT 2 w v xs) (hl : xs.length ≤ 1000000000) : PairsAt w v xs := by
  obtain ⟨_, p, cap, b, off, rfl, hp, hc⟩ := h
  refine ⟨hl, ?_⟩
  by_cases h0 : 0 < xs.length
  · obtain ⟨rfl, hb⟩ := hp h0
    refine .inr ⟨b, off, cap, rfl, hb, fun k hk => ?_⟩
    have c0 := hc k hk 0 (by omega)
    have c1 := hc k hk 1 (by omega)
    simp [encT] at c0 c1
    rw [List.getElem?_eq_getElem hk]
    exact ⟨c0, c1⟩
  · have : xs = [] := List.length_eq_zero_iff.1 (by omega)
    subst this
    exact .inl ⟨p, cap, rfl, rfl⟩
theorem grown_other {W W' : World} {B sz n : Nat} {e e' : TypeId} {v : Value} {xs : List Value} (h : W.ownsRow B e sz v n xs) (hg : W.grownBy W' v.ownBlock) (he : e ≠ e') (b : Nat) (cs : Array Value) (hb : W.heap[b]? = some (Obj.cells cs e')) : W'.heap[b]? = W.heap[b]? :=
  hg.block b (Array.getElem?_eq_some_iff.1 hb).1 (fun hr => by
    rcases h.2 with ⟨h1, _⟩ | ⟨g, c, cur, h1, _, h3, _⟩
    · rw [h1] at hr; cases hr
    · rw [h1] at hr
      simp only [Value.ownBlock, Option.some.injEq] at hr
      subst hr
      rw [h3] at hb
      simp at hb
      exact he hb.2)

theorem add_zero_addr (B j : Nat) : (⟨B, 0, none⟩ : Addr).add j = ⟨B, j, none⟩ := by unfold Addr.add; split <;> simp_all

set_option maxRecDepth 100000 in
set_option maxHeartbeats 8000000 in
theorem alphas_calls (w : World) (v : Value) (l : List (Int × Int)) (hv : ReadsE encT 2 w v l) (p g a s : Int) :
    Calls Try.prog 7 #[v, .agg #[.int .i64 p, .int .i64 g, .int .i64 a, .int .i64 s]] w fun e w' => e = .returned (.bool true) ∧ Below w.heap.size w w' := by
  obtain ⟨i0, hi, hz0, hz1, hz2⟩ := info_parts info_test
  obtain ⟨j0, hj, hy0, hy1, hy2⟩ := info_parts info_rtest
  obtain ⟨hm, q, cap, b, off, rfl, hp, hc⟩ := hv
  obtain ⟨n, hn⟩ : ∃ n, n = l.length := ⟨_, rfl⟩
  rw [← hn] at hp hm ⊢
  have HP := hid hp
  have HC := hid hc
  have HN := hid hn
  have cA := Cells.new w #[.int .i64 p, .int .i64 g, .int .i64 a, .int .i64 s] 69
  have CA := hid cA
  have B0 := hid ((Below.refl w.heap.size w).alloc (Nat.le_refl _) (.cells #[.int .i64 p, .int .i64 g, .int .i64 a, .int .i64 s] 69))
  clear hp hc hn cA
  by_cases hbig : 4096 < n
  · have hbg : decide ((4096 : Int) < (n : Int)) = true := by simp; omega
    go_enter Try.func7, Try.ntmps7
    go_wp2
    go_loopw [6, 7, 8] (fun u z i wr => ∃ k : Nat, k ≤ n ∧ k ≤ 4097 ∧ i = .int .i64 k ∧ OwnE encT 2 72 (w.heap.size + 1) wr u (l.take k) ∧ OwnE encT 2 73 (w.heap.size + 1) wr z (l.take k) ∧ Below (w.heap.size + 1) (w.alloc (.cells #[.int .i64 p, .int .i64 g, .int .i64 a, .int .i64 s] 69)) wr) (fun _ _ i _ => n - (intOf i).toNat)
    case atStart => exact ⟨0, Nat.zero_le _, Nat.zero_le _, rfl, OwnE.nil _ _, OwnE.nil _ _, Below.refl _ _⟩
    case round =>
      obtain ⟨k, hk, hkm, rfl, ho, hr, hb⟩ := hrel
      have HB := hid hb
      have hlt : (l.take k).length = k := by rw [List.length_take, ← HN.out]; omega
      by_cases hlk : k < n ∧ k < 4097
      · obtain ⟨hl1, hl2⟩ := hlk
        obtain ⟨rfl, hbl⟩ := HP.out (by omega)
        have hkl : k < l.length := by rw [← HN.out]; exact hl1
        obtain ⟨x, y, hxy⟩ : ∃ x y, l[k] = (x, y) := ⟨_, _, rfl⟩
        have key : ∀ j, j < 2 → (w.alloc (.cells #[.int .i64 p, .int .i64 g, .int .i64 a, .int .i64 s] 69)).cell? ⟨b, off + k * 2 + j, none⟩ = (encT (x, y))[j]? := fun j hj => by rw [← hxy]; exact (B0.out.cell (p := ⟨b, off + k * 2 + j, none⟩) hbl).trans (HC.out k hkl j hj)
        have e0 := key 0 (by omega)
        have e1 := key 1 (by omega)
        simp only [encT, List.getElem?_cons_zero, List.getElem?_cons_succ, Nat.add_zero] at e0 e1
        have KE := hid (And.intro e0 e1)
        have c0 : wr.cell? ⟨b, off + k * 2, none⟩ = some (.int .i64 x) := (hb.cell (p := ⟨b, off + k * 2, none⟩) (by simp; omega)).trans e0
        have c1 : wr.cell? ⟨b, off + k * 2 + 1, none⟩ = some (.int .i64 y) := (hb.cell (p := ⟨b, off + k * 2 + 1, none⟩) (by simp; omega)).trans e1
        have HO := hid (show wr.ownsRow (w.heap.size + 1) 72 2 u6 k (flatE encT (l.take k)) by have := ho; unfold OwnE at this; rwa [hlt] at this)
        have HR := hid (show wr.ownsRow (w.heap.size + 1) 73 2 u7 k (flatE encT (l.take k)) by have := hr; unfold OwnE at this; rwa [hlt] at this)
        have HE := hid (show flatE encT (l.take (k + 1)) = flatE encT (l.take k) ++ [.int .i64 x, .int .i64 y] by rw [List.take_succ_eq_append_getElem hkl, flatE_snoc, hxy]; rfl)
        have HLT := hid (show (l.take (k + 1)).length = k + 1 by rw [List.length_take]; omega)
        have h64 : IntKind.i64.wrap ((k : Int) + 1) = (k : Int) + 1 := IntWalk.i64_in _ (by omega)
        have lbr : b < wr.heap.size := World.block_lt_of_cell? _ _ c0
        have HB5 := hid (show w.heap.size + 1 ≤ wr.heap.size + 1 by have := HB.out.size; simp at this; omega)
        have d1 : decide ((k : Int) < (n : Int)) = true := by simp; omega
        have d2 : decide ((k : Int) < 4097) = true := by simp; omega
        clear key hxy ho hr hb e0 e1 hlt
        go_wp2_with (at_builtin; refine wpList_append_lies _ rfl (.tmp 31) (.tmp 36) 70 rfl (w.heap.size + 1) 72 i0 _ 2 16 under_tests hi hz0 hz1 hz2 rfl (by decide) u6 k (flatE encT (l.take k)) rfl (World.ownsRow.alloc HO.out _) ⟨wr.heap.size, 0, none⟩ 1 1 [.int .i64 x, .int .i64 y] rfl rfl ?c1 ?c2 (by decide) ?c3 ?c4 ?c5 _ rfl ?_)
        case c2 => exact ⟨rfl, rfl⟩
        case c5 => have := HB5.out; simp; omega
        case c3 => unfold maxLen; omega
        case c4 => omega
        intro g1 cap1 w3 own1 gr1 at1 lt1
        have HR3 := hid (ownsRow_moved (w' := w3) (World.ownsRow.alloc HR.out (.cells #[.int .i64 x, .int .i64 y] 72)) fun b' cs _ hb' => grown_other (World.ownsRow.alloc HO.out (.cells #[.int .i64 x, .int .i64 y] 72)) gr1 (by decide) b' cs hb')
        have B3 := hid (Below.grown (Below.alloc HB.out (by have := HB.out.size; simp at this; omega) (.cells #[.int .i64 x, .int .i64 y] 72)) gr1 (by have := HB.out.size; simp at this; simp; omega) (fun r h => (World.ownsRow.lt HO.out r h).1))
        have O3 := hid own1
        have k0 : w3.cell? ⟨b, off + k * 2, none⟩ = some (.int .i64 x) := (B3.out.cell (p := ⟨b, off + k * 2, none⟩) (by simp; omega)).trans KE.out.1
        have k1 : w3.cell? ⟨b, off + k * 2 + 1, none⟩ = some (.int .i64 y) := (B3.out.cell (p := ⟨b, off + k * 2 + 1, none⟩) (by simp; omega)).trans KE.out.2
        have lb3 : b < w3.heap.size := World.block_lt_of_cell? _ _ k0
        clear own1 gr1 at1 lt1 c0 c1
        go_wp2_with (at_builtin; refine wpList_append_lies _ rfl (.tmp 38) (.tmp 43) 68 rfl (w.heap.size + 1) 73 j0 _ 2 16 under_rtests hj hy0 hy1 hy2 rfl (by decide) u7 k (flatE encT (l.take k)) rfl (World.ownsRow.alloc HR3.out _) ⟨w3.heap.size, 0, none⟩ 1 1 [.int .i64 x, .int .i64 y] rfl rfl ?d1 ?d2 (by decide) ?d3 ?d4 ?d5 _ rfl ?_)
        case d1 => exact news_of (Cells.new w3 #[.int .i64 x, .int .i64 y] 73)
        case d2 => intro u hu; simp at hu; rcases hu with rfl | rfl <;> rfl
        case d3 => unfold maxLen; omega
        case d4 => omega
        case d5 => have := B3.out.size; simp at this; simp; omega
        intro g2 cap2 w5 own2 gr2 at2 lt2
        have O5 := hid (ownsRow_moved (w' := w5) (World.ownsRow.alloc O3.out (.cells #[.int .i64 x, .int .i64 y] 73)) fun b' cs _ hb' => grown_other (World.ownsRow.alloc HR3.out (.cells #[.int .i64 x, .int .i64 y] 73)) gr2 (by decide) b' cs hb')
        have B5 := hid (Below.grown (Below.alloc B3.out (by have := B3.out.size; simp at this; omega) (.cells #[.int .i64 x, .int .i64 y] 73)) gr2 (by have := B3.out.size; simp at this; simp; omega) (fun r h => (World.ownsRow.lt HR3.out r h).1))
        have P5 := hid own2
        clear own2 gr2 at2 lt2 k0 k1
        go_wp2
        go_roundw
        case rel => exact ⟨k + 1, by omega, by omega, by go_num, by unfold OwnE; rw [HE.out, HLT.out]; exact O5.out, by unfold OwnE; rw [HE.out, HLT.out]; exact P5.out, B5.out⟩
        case measure => simp [intOf]; omega
      · have d1 : (decide ((k : Int) < (n : Int)) && decide ((k : Int) < 4097)) = false := by simp; omega
        have HO := hid (show OwnE encT 2 72 (w.heap.size + 1) wr u6 (l.take k) from ho)
        have HR := hid (show OwnE encT 2 73 (w.heap.size + 1) wr u7 (l.take k) from hr)
        have CB := hid (CA.out.below hb (by simp))
        have HLK := hid hlt
        clear ho hr hb hlt
        by_cases hkn : k < n
        · have hk3 : ¬ k < 4097 := fun h => hlk ⟨hkn, h⟩
          clear hlk
          go_wp2_with fail
          refine (alpha_calls wr _ (l.take k) (pairs_of_reads (HO.out.reads encT_len (by rw [HLK.out]; omega)) (by rw [HLK.out]; omega))).mono ?_
          rintro e w1 ⟨rfl, hb1⟩
          have R1 := hid (HR.out.below hb1)
          have C1 := hid (CB.out.below hb1 CB.out.lt)
          have D1 := hid ((HB.out.mono (by omega)).trans (hb1.mono (by have := HB.out.size; simp at this; omega)) : Below w.heap.size (w.alloc (.cells #[.int .i64 p, .int .i64 g, .int .i64 a, .int .i64 s] 69)) w1)
          clear hb1
          go_wp2_with fail
          refine (ralpha_calls w1 _ (l.take k) (pairs_of_reads (R1.out.reads encT_len (by rw [HLK.out]; omega)) (by rw [HLK.out]; omega))).mono ?_
          rintro e w2 ⟨rfl, hb2⟩
          have C2 := hid (C1.out.below hb2 C1.out.lt)
          have D2 := hid (D1.out.trans (hb2.mono (by have := D1.out.size; simp at this; omega)))
          obtain ⟨z0, z1, z2, z3⟩ : w2.cell? ⟨w.heap.size, 0, none⟩ = some (.int .i64 p) ∧ w2.cell? ⟨w.heap.size, 1, none⟩ = some (.int .i64 g) ∧ w2.cell? ⟨w.heap.size, 2, none⟩ = some (.int .i64 a) ∧ w2.cell? ⟨w.heap.size, 3, none⟩ = some (.int .i64 s) := by simp [C2.out.cell]
          have lz := C2.out.lt
          clear hb2
          go_wp2_with fail
          refine (worth_calls p g a s w2).mono ?_
          rintro e w3 ⟨rfl, hb3⟩
          have C3 := hid (C2.out.below hb3 C2.out.lt)
          have D3 := hid (D2.out.trans (hb3.mono (by have := D2.out.size; simp at this; omega)))
          clear hb3 z0 z1 z2 z3 lz
          obtain ⟨z0, z1, z2, z3⟩ : w3.cell? ⟨w.heap.size, 0, none⟩ = some (.int .i64 p) ∧ w3.cell? ⟨w.heap.size, 1, none⟩ = some (.int .i64 g) ∧ w3.cell? ⟨w.heap.size, 2, none⟩ = some (.int .i64 a) ∧ w3.cell? ⟨w.heap.size, 3, none⟩ = some (.int .i64 s) := by simp [C3.out.cell]
          have lz := C3.out.lt
          go_wp2_with fail
          refine (rworth_calls p g a s w3).mono ?_
          rintro e w4 ⟨rfl, hb4⟩
          have D4 := hid (D3.out.trans (hb4.mono (by have := D3.out.size; simp at this; omega)))
          clear hb4 z0 z1 z2 z3 lz
          go_wp2_with fail
          refine (awake_calls w4).mono ?_
          rintro e w5 ⟨rfl, hb5⟩
          have D5 := hid (D4.out.trans (hb5.mono (by have := D4.out.size; simp at this; omega)))
          clear hb5
          go_wp2
          go_ret
          exact ⟨rfl, B0.out.trans D5.out⟩
        · clear hlk
          go_wp2_with fail
          refine (alpha_calls wr _ (l.take k) (pairs_of_reads (HO.out.reads encT_len (by rw [HLK.out]; omega)) (by rw [HLK.out]; omega))).mono ?_
          rintro e w1 ⟨rfl, hb1⟩
          have R1 := hid (HR.out.below hb1)
          have C1 := hid (CB.out.below hb1 CB.out.lt)
          have D1 := hid ((HB.out.mono (by omega)).trans (hb1.mono (by have := HB.out.size; simp at this; omega)) : Below w.heap.size (w.alloc (.cells #[.int .i64 p, .int .i64 g, .int .i64 a, .int .i64 s] 69)) w1)
          clear hb1
          go_wp2_with fail
          refine (ralpha_calls w1 _ (l.take k) (pairs_of_reads (R1.out.reads encT_len (by rw [HLK.out]; omega)) (by rw [HLK.out]; omega))).mono ?_
          rintro e w2 ⟨rfl, hb2⟩
          have C2 := hid (C1.out.below hb2 C1.out.lt)
          have D2 := hid (D1.out.trans (hb2.mono (by have := D1.out.size; simp at this; omega)))
          obtain ⟨z0, z1, z2, z3⟩ : w2.cell? ⟨w.heap.size, 0, none⟩ = some (.int .i64 p) ∧ w2.cell? ⟨w.heap.size, 1, none⟩ = some (.int .i64 g) ∧ w2.cell? ⟨w.heap.size, 2, none⟩ = some (.int .i64 a) ∧ w2.cell? ⟨w.heap.size, 3, none⟩ = some (.int .i64 s) := by simp [C2.out.cell]
          have lz := C2.out.lt
          clear hb2
          go_wp2_with fail
          refine (worth_calls p g a s w2).mono ?_
          rintro e w3 ⟨rfl, hb3⟩
          have C3 := hid (C2.out.below hb3 C2.out.lt)
          have D3 := hid (D2.out.trans (hb3.mono (by have := D2.out.size; simp at this; omega)))
          clear hb3 z0 z1 z2 z3 lz
          obtain ⟨z0, z1, z2, z3⟩ : w3.cell? ⟨w.heap.size, 0, none⟩ = some (.int .i64 p) ∧ w3.cell? ⟨w.heap.size, 1, none⟩ = some (.int .i64 g) ∧ w3.cell? ⟨w.heap.size, 2, none⟩ = some (.int .i64 a) ∧ w3.cell? ⟨w.heap.size, 3, none⟩ = some (.int .i64 s) := by simp [C3.out.cell]
          have lz := C3.out.lt
          go_wp2_with fail
          refine (rworth_calls p g a s w3).mono ?_
          rintro e w4 ⟨rfl, hb4⟩
          have D4 := hid (D3.out.trans (hb4.mono (by have := D3.out.size; simp at this; omega)))
          clear hb4 z0 z1 z2 z3 lz
          go_wp2_with fail
          refine (awake_calls w4).mono ?_
          rintro e w5 ⟨rfl, hb5⟩
          have D5 := hid (D4.out.trans (hb5.mono (by have := D4.out.size; simp at this; omega)))
          clear hb5
          go_wp2
          go_ret
          exact ⟨rfl, B0.out.trans D5.out⟩
  · have hbg : decide ((4096 : Int) < (n : Int)) = false := by simp; omega
    go_enter Try.func7, Try.ntmps7
    go_wp2
    go_loopw [6, 7, 8] (fun u z i wr => ∃ k : Nat, k ≤ n ∧ k ≤ 30 ∧ i = .int .i64 k ∧ OwnE encT 2 72 (w.heap.size + 1) wr u (l.take k) ∧ OwnE encT 2 73 (w.heap.size + 1) wr z (l.take k) ∧ Below (w.heap.size + 1) (w.alloc (.cells #[.int .i64 p, .int .i64 g, .int .i64 a, .int .i64 s] 69)) wr) (fun _ _ i _ => n - (intOf i).toNat)
    case atStart => exact ⟨0, Nat.zero_le _, Nat.zero_le _, rfl, OwnE.nil _ _, OwnE.nil _ _, Below.refl _ _⟩
    case round =>
      obtain ⟨k, hk, hkm, rfl, ho, hr, hb⟩ := hrel
      have HB := hid hb
      have hlt : (l.take k).length = k := by rw [List.length_take, ← HN.out]; omega
      by_cases hlk : k < n ∧ k < 30
      · obtain ⟨hl1, hl2⟩ := hlk
        obtain ⟨rfl, hbl⟩ := HP.out (by omega)
        have hkl : k < l.length := by rw [← HN.out]; exact hl1
        obtain ⟨x, y, hxy⟩ : ∃ x y, l[k] = (x, y) := ⟨_, _, rfl⟩
        have key : ∀ j, j < 2 → (w.alloc (.cells #[.int .i64 p, .int .i64 g, .int .i64 a, .int .i64 s] 69)).cell? ⟨b, off + k * 2 + j, none⟩ = (encT (x, y))[j]? := fun j hj => by rw [← hxy]; exact (B0.out.cell (p := ⟨b, off + k * 2 + j, none⟩) hbl).trans (HC.out k hkl j hj)
        have e0 := key 0 (by omega)
        have e1 := key 1 (by omega)
        simp only [encT, List.getElem?_cons_zero, List.getElem?_cons_succ, Nat.add_zero] at e0 e1
        have KE := hid (And.intro e0 e1)
        have c0 : wr.cell? ⟨b, off + k * 2, none⟩ = some (.int .i64 x) := (hb.cell (p := ⟨b, off + k * 2, none⟩) (by simp; omega)).trans e0
        have c1 : wr.cell? ⟨b, off + k * 2 + 1, none⟩ = some (.int .i64 y) := (hb.cell (p := ⟨b, off + k * 2 + 1, none⟩) (by simp; omega)).trans e1
        have HO := hid (show wr.ownsRow (w.heap.size + 1) 72 2 u6 k (flatE encT (l.take k)) by have := ho; unfold OwnE at this; rwa [hlt] at this)
        have HR := hid (show wr.ownsRow (w.heap.size + 1) 73 2 u7 k (flatE encT (l.take k)) by have := hr; unfold OwnE at this; rwa [hlt] at this)
        have HE := hid (show flatE encT (l.take (k + 1)) = flatE encT (l.take k) ++ [.int .i64 x, .int .i64 y] by rw [List.take_succ_eq_append_getElem hkl, flatE_snoc, hxy]; rfl)
        have HLT := hid (show (l.take (k + 1)).length = k + 1 by rw [List.length_take]; omega)
        have h64 : IntKind.i64.wrap ((k : Int) + 1) = (k : Int) + 1 := IntWalk.i64_in _ (by omega)
        have lbr : b < wr.heap.size := World.block_lt_of_cell? _ _ c0
        have HB5 := hid (show w.heap.size + 1 ≤ wr.heap.size + 1 by have := HB.out.size; simp at this; omega)
        have d1 : decide ((k : Int) < (n : Int)) = true := by simp; omega
        have d2 : decide ((k : Int) < 30) = true := by simp; omega
        clear key hxy ho hr hb e0 e1 hlt
        go_wp2_with (at_builtin; refine wpList_append_lies _ rfl (.tmp 31) (.tmp 36) 70 rfl (w.heap.size + 1) 72 i0 _ 2 16 under_tests hi hz0 hz1 hz2 rfl (by decide) u6 k (flatE encT (l.take k)) rfl (World.ownsRow.alloc HO.out _) ⟨wr.heap.size, 0, none⟩ 1 1 [.int .i64 x, .int .i64 y] rfl rfl ?cc1 ?cc2 (by decide) ?cc3 ?cc4 ?cc5 _ rfl ?_)
        case cc2 => exact ⟨rfl, rfl⟩
        case cc5 => have := HB5.out; simp; omega
        case cc3 => unfold maxLen; omega
        case cc4 => omega
        intro g1 cap1 w3 own1 gr1 at1 lt1
        have HR3 := hid (ownsRow_moved (w' := w3) (World.ownsRow.alloc HR.out (.cells #[.int .i64 x, .int .i64 y] 72)) fun b' cs _ hb' => grown_other (World.ownsRow.alloc HO.out (.cells #[.int .i64 x, .int .i64 y] 72)) gr1 (by decide) b' cs hb')
        have B3 := hid (Below.grown (Below.alloc HB.out (by have := HB.out.size; simp at this; omega) (.cells #[.int .i64 x, .int .i64 y] 72)) gr1 (by have := HB.out.size; simp at this; simp; omega) (fun r h => (World.ownsRow.lt HO.out r h).1))
        have O3 := hid own1
        have k0 : w3.cell? ⟨b, off + k * 2, none⟩ = some (.int .i64 x) := (B3.out.cell (p := ⟨b, off + k * 2, none⟩) (by simp; omega)).trans KE.out.1
        have k1 : w3.cell? ⟨b, off + k * 2 + 1, none⟩ = some (.int .i64 y) := (B3.out.cell (p := ⟨b, off + k * 2 + 1, none⟩) (by simp; omega)).trans KE.out.2
        have lb3 : b < w3.heap.size := World.block_lt_of_cell? _ _ k0
        clear own1 gr1 at1 lt1 c0 c1
        go_wp2_with (at_builtin; refine wpList_append_lies _ rfl (.tmp 38) (.tmp 43) 68 rfl (w.heap.size + 1) 73 j0 _ 2 16 under_rtests hj hy0 hy1 hy2 rfl (by decide) u7 k (flatE encT (l.take k)) rfl (World.ownsRow.alloc HR3.out _) ⟨w3.heap.size, 0, none⟩ 1 1 [.int .i64 x, .int .i64 y] rfl rfl ?dd1 ?dd2 (by decide) ?dd3 ?dd4 ?dd5 _ rfl ?_)
        case dd1 => exact news_of (Cells.new w3 #[.int .i64 x, .int .i64 y] 73)
        case dd2 => intro u hu; simp at hu; rcases hu with rfl | rfl <;> rfl
        case dd3 => unfold maxLen; omega
        case dd4 => omega
        case dd5 => have := B3.out.size; simp at this; simp; omega
        intro g2 cap2 w5 own2 gr2 at2 lt2
        have O5 := hid (ownsRow_moved (w' := w5) (World.ownsRow.alloc O3.out (.cells #[.int .i64 x, .int .i64 y] 73)) fun b' cs _ hb' => grown_other (World.ownsRow.alloc HR3.out (.cells #[.int .i64 x, .int .i64 y] 73)) gr2 (by decide) b' cs hb')
        have B5 := hid (Below.grown (Below.alloc B3.out (by have := B3.out.size; simp at this; omega) (.cells #[.int .i64 x, .int .i64 y] 73)) gr2 (by have := B3.out.size; simp at this; simp; omega) (fun r h => (World.ownsRow.lt HR3.out r h).1))
        have P5 := hid own2
        clear own2 gr2 at2 lt2 k0 k1
        go_wp2
        go_roundw
        case rel => exact ⟨k + 1, by omega, by omega, by go_num, by unfold OwnE; rw [HE.out, HLT.out]; exact O5.out, by unfold OwnE; rw [HE.out, HLT.out]; exact P5.out, B5.out⟩
        case measure => simp [intOf]; omega
      · have d1 : (decide ((k : Int) < (n : Int)) && decide ((k : Int) < 30)) = false := by simp; omega
        have HO := hid (show OwnE encT 2 72 (w.heap.size + 1) wr u6 (l.take k) from ho)
        have HR := hid (show OwnE encT 2 73 (w.heap.size + 1) wr u7 (l.take k) from hr)
        have CB := hid (CA.out.below hb (by simp))
        have HLK := hid hlt
        clear ho hr hb hlt
        by_cases hkn : k < n
        · have hk3 : ¬ k < 30 := fun h => hlk ⟨hkn, h⟩
          clear hlk
          go_wp2_with fail
          refine (alpha_calls wr _ (l.take k) (pairs_of_reads (HO.out.reads encT_len (by rw [HLK.out]; omega)) (by rw [HLK.out]; omega))).mono ?_
          rintro e w1 ⟨rfl, hb1⟩
          have R1 := hid (HR.out.below hb1)
          have C1 := hid (CB.out.below hb1 CB.out.lt)
          have D1 := hid ((HB.out.mono (by omega)).trans (hb1.mono (by have := HB.out.size; simp at this; omega)) : Below w.heap.size (w.alloc (.cells #[.int .i64 p, .int .i64 g, .int .i64 a, .int .i64 s] 69)) w1)
          clear hb1
          go_wp2_with fail
          refine (ralpha_calls w1 _ (l.take k) (pairs_of_reads (R1.out.reads encT_len (by rw [HLK.out]; omega)) (by rw [HLK.out]; omega))).mono ?_
          rintro e w2 ⟨rfl, hb2⟩
          have C2 := hid (C1.out.below hb2 C1.out.lt)
          have D2 := hid (D1.out.trans (hb2.mono (by have := D1.out.size; simp at this; omega)))
          obtain ⟨z0, z1, z2, z3⟩ : w2.cell? ⟨w.heap.size, 0, none⟩ = some (.int .i64 p) ∧ w2.cell? ⟨w.heap.size, 1, none⟩ = some (.int .i64 g) ∧ w2.cell? ⟨w.heap.size, 2, none⟩ = some (.int .i64 a) ∧ w2.cell? ⟨w.heap.size, 3, none⟩ = some (.int .i64 s) := by simp [C2.out.cell]
          have lz := C2.out.lt
          clear hb2
          go_wp2_with fail
          refine (worth_calls p g a s w2).mono ?_
          rintro e w3 ⟨rfl, hb3⟩
          have C3 := hid (C2.out.below hb3 C2.out.lt)
          have D3 := hid (D2.out.trans (hb3.mono (by have := D2.out.size; simp at this; omega)))
          clear hb3 z0 z1 z2 z3 lz
          obtain ⟨z0, z1, z2, z3⟩ : w3.cell? ⟨w.heap.size, 0, none⟩ = some (.int .i64 p) ∧ w3.cell? ⟨w.heap.size, 1, none⟩ = some (.int .i64 g) ∧ w3.cell? ⟨w.heap.size, 2, none⟩ = some (.int .i64 a) ∧ w3.cell? ⟨w.heap.size, 3, none⟩ = some (.int .i64 s) := by simp [C3.out.cell]
          have lz := C3.out.lt
          go_wp2_with fail
          refine (rworth_calls p g a s w3).mono ?_
          rintro e w4 ⟨rfl, hb4⟩
          have D4 := hid (D3.out.trans (hb4.mono (by have := D3.out.size; simp at this; omega)))
          clear hb4 z0 z1 z2 z3 lz
          go_wp2_with fail
          refine (awake_calls w4).mono ?_
          rintro e w5 ⟨rfl, hb5⟩
          have D5 := hid (D4.out.trans (hb5.mono (by have := D4.out.size; simp at this; omega)))
          clear hb5
          go_wp2
          go_ret
          exact ⟨rfl, B0.out.trans D5.out⟩
        · clear hlk
          go_wp2_with fail
          refine (alpha_calls wr _ (l.take k) (pairs_of_reads (HO.out.reads encT_len (by rw [HLK.out]; omega)) (by rw [HLK.out]; omega))).mono ?_
          rintro e w1 ⟨rfl, hb1⟩
          have R1 := hid (HR.out.below hb1)
          have C1 := hid (CB.out.below hb1 CB.out.lt)
          have D1 := hid ((HB.out.mono (by omega)).trans (hb1.mono (by have := HB.out.size; simp at this; omega)) : Below w.heap.size (w.alloc (.cells #[.int .i64 p, .int .i64 g, .int .i64 a, .int .i64 s] 69)) w1)
          clear hb1
          go_wp2_with fail
          refine (ralpha_calls w1 _ (l.take k) (pairs_of_reads (R1.out.reads encT_len (by rw [HLK.out]; omega)) (by rw [HLK.out]; omega))).mono ?_
          rintro e w2 ⟨rfl, hb2⟩
          have C2 := hid (C1.out.below hb2 C1.out.lt)
          have D2 := hid (D1.out.trans (hb2.mono (by have := D1.out.size; simp at this; omega)))
          obtain ⟨z0, z1, z2, z3⟩ : w2.cell? ⟨w.heap.size, 0, none⟩ = some (.int .i64 p) ∧ w2.cell? ⟨w.heap.size, 1, none⟩ = some (.int .i64 g) ∧ w2.cell? ⟨w.heap.size, 2, none⟩ = some (.int .i64 a) ∧ w2.cell? ⟨w.heap.size, 3, none⟩ = some (.int .i64 s) := by simp [C2.out.cell]
          have lz := C2.out.lt
          clear hb2
          go_wp2_with fail
          refine (worth_calls p g a s w2).mono ?_
          rintro e w3 ⟨rfl, hb3⟩
          have C3 := hid (C2.out.below hb3 C2.out.lt)
          have D3 := hid (D2.out.trans (hb3.mono (by have := D2.out.size; simp at this; omega)))
          clear hb3 z0 z1 z2 z3 lz
          obtain ⟨z0, z1, z2, z3⟩ : w3.cell? ⟨w.heap.size, 0, none⟩ = some (.int .i64 p) ∧ w3.cell? ⟨w.heap.size, 1, none⟩ = some (.int .i64 g) ∧ w3.cell? ⟨w.heap.size, 2, none⟩ = some (.int .i64 a) ∧ w3.cell? ⟨w.heap.size, 3, none⟩ = some (.int .i64 s) := by simp [C3.out.cell]
          have lz := C3.out.lt
          go_wp2_with fail
          refine (rworth_calls p g a s w3).mono ?_
          rintro e w4 ⟨rfl, hb4⟩
          have D4 := hid (D3.out.trans (hb4.mono (by have := D3.out.size; simp at this; omega)))
          clear hb4 z0 z1 z2 z3 lz
          go_wp2_with fail
          refine (awake_calls w4).mono ?_
          rintro e w5 ⟨rfl, hb5⟩
          have D5 := hid (D4.out.trans (hb5.mono (by have := D4.out.size; simp at this; omega)))
          clear hb5
          go_wp2
          go_ret
          exact ⟨rfl, B0.out.trans D5.out⟩
end Go.Proofs.Ytnnbdjfeagcbdaa
