/- The reference's value and Sample. -/
import Derived.Test.YtnnbdjfeagcbdaaSmp3
namespace Go.Proofs.Ytnnbdjfeagcbdaa
set_option linter.unusedSimpArgs false
set_option linter.unusedVariables false
open Go.RowKit
attribute [local go_sem] Oper.semAt_some

def encX (e : Nat × Nat) : List Value := [.int .i64 (e.1 : Int), .int .i64 (e.2 : Int)]
theorem encX_len (e : Nat × Nat) : (encX e).length = 2 := rfl
theorem info_exch : (Try.prog.info? 110).map (fun i => (i.zero, i.size, i.bytes)) = some (some (.agg #[.int .i64 0, .int .i64 0]), 2, 16) := by kernel_rfl
theorem under_exchs : Try.prog.underlying 105 = some (.slice 110) := by kernel_rfl
/-- Where an element is behind exchanges. -/
def valX (l : List (Nat × Nat)) (i : Nat) : Nat := match l.reverse.find? (fun e => decide (e.1 = i)) with | some e => e.2 | none => i
theorem valX_nil : valX [] = id := by funext i; rfl
theorem valX_snoc (l : List (Nat × Nat)) (k v : Nat) : valX (l ++ [(k, v)]) = upd (valX l) k v := by
  funext i
  unfold valX upd
  rw [List.reverse_append]
  simp only [List.reverse_cons, List.reverse_nil, List.nil_append, List.cons_append, List.find?_cons]
  by_cases h : k = i
  · simp [h]
  · have h2 : ¬ i = k := fun e => h e.symm
    simp [h, h2]
theorem valX_none (l : List (Nat × Nat)) (i : Nat) (h : ∀ e ∈ l, e.1 ≠ i) : valX l i = i := by
  unfold valX
  have : l.reverse.find? (fun e => decide (e.1 = i)) = none := by rw [List.find?_eq_none]; intro e he; simpa using h e (by simpa using he)
  rw [this]
theorem valX_at (l : List (Nat × Nat)) (i t : Nat) (ht : t < l.length) (h1 : l[t].1 = i) (h2 : ∀ s (hs : s < l.length), t < s → l[s].1 ≠ i) : valX l i = l[t].2 := by
  have e : l = l.take t ++ l[t] :: l.drop (t + 1) := by rw [List.getElem_cons_drop, List.take_append_drop]
  have hd : ∀ x ∈ l.drop (t + 1), x.1 ≠ i := by
    intro x hx
    obtain ⟨s, hs, rfl⟩ := List.getElem_of_mem hx
    rw [List.getElem_drop]
    exact h2 _ _ (by omega)
  unfold valX
  have : l.reverse.find? (fun e => decide (e.1 = i)) = some l[t] := by
    conv => lhs; rw [e]
    rw [List.reverse_append, List.reverse_cons, List.append_assoc, List.find?_append]
    have : (l.drop (t + 1)).reverse.find? (fun e => decide (e.1 = i)) = none := by rw [List.find?_eq_none]; intro x hx; simpa using hd x (by simpa using hx)
    rw [this]
    simp [h1]
  rw [this]

theorem grown_otherT {W W' : World} {B sz n : Nat} {e e' : TypeId} {v : Value} {xs : List Value} (h : W.ownsRow B e sz v n xs) (hg : W.grownBy W' v.ownBlock) (he : e ≠ e') (b : Nat) (cs : Array Value) (hb : W.heap[b]? = some (Obj.cells cs e')) : W'.heap[b]? = W.heap[b]? :=
  hg.block b (Array.getElem?_eq_some_iff.1 hb).1 (fun hr => by
    rcases h.2 with ⟨h1, _⟩ | ⟨g, c, cur, h1, _, h3, _⟩
    · rw [h1] at hr; cases hr
    · rw [h1] at hr
      simp only [Value.ownBlock, Option.some.injEq] at hr
      subst hr
      rw [h3] at hb
      simp at hb
      exact he hb.2)
set_option maxRecDepth 100000 in
set_option maxHeartbeats 2000000 in
theorem value_calls (l : List (Nat × Nat)) (i : Nat) (v : Value) (w : World) (hv : ReadsE encX 2 w v l) :
    Calls Try.prog 49 #[v, .int .i64 i] w fun e w' => e = .returned (.int .i64 (valX l i : Nat)) ∧ w' = w := by
  obtain ⟨hm, p, cap, b, off, rfl, hp, hc⟩ := hv
  obtain ⟨n, hn⟩ : ∃ n, n = l.length := ⟨_, rfl⟩
  rw [← hn] at hp hm ⊢
  have HP := hid hp
  have HC := hid hc
  have HN := hid hn
  have w0 : IntKind.i64.wrap ((n : Int) - 1) = (n : Int) - 1 := IntWalk.i64_in _ (by omega)
  clear hp hc hn
  go_enter Try.func49, Try.ntmps49
  go_wp2
  go_loop [5] (fun a => ∃ m : Nat, m ≤ n ∧ a = .int .i64 ((m : Int) - 1) ∧ ∀ s (hs : s < l.length), m ≤ s → l[s].1 ≠ i) (fun a => (intOf a + 1).toNat)
  case atStart => exact ⟨n, Nat.le_refl _, rfl, fun s hs h => by have := HN.out; omega⟩
  case round =>
    obtain ⟨m, hmn, rfl, hno⟩ := hrel
    have HNO := hid hno
    clear hno
    by_cases h0 : m = 0
    · subst h0
      have e := hid (valX_none l i (fun x hx => by obtain ⟨s, hs, rfl⟩ := List.getElem_of_mem hx; exact HNO.out s hs (Nat.zero_le _)))
      go_wp2
      go_ret
      exact ⟨by rw [e.out]; rfl, rfl⟩
    · obtain ⟨t, rfl⟩ : ∃ t, m = t + 1 := ⟨m - 1, by omega⟩
      obtain ⟨rfl, hbl⟩ := HP.out (by omega)
      have htl : t < l.length := by rw [← HN.out]; omega
      obtain ⟨x, y, hxy⟩ : ∃ x y, l[t] = (x, y) := ⟨_, _, rfl⟩
      have c0 := HC.out t htl 0 (by omega)
      have c1 := HC.out t htl 1 (by omega)
      rw [hxy] at c0 c1
      simp [encX] at c0 c1
      have et : (((t + 1 : Nat) : Int) - 1) = (t : Int) := by omega
      rw [et]
      have t0 : (0 : Int) ≤ (t : Int) := by omega
      have t1 : (t : Int) < (n : Int) := by omega
      have d0 : decide ((0 : Int) ≤ (t : Int)) = true := by rw [decide_eq_true_eq]; omega
      have HXY := hid hxy
      clear hxy h0
      by_cases hx : x = i
      · have e := hid (show valX l i = y by rw [valX_at l i t htl (by rw [HXY.out]; exact hx) (fun s hs h => HNO.out s hs (by omega)), HXY.out])
        have d1 : ((x : Int) == (i : Int)) = true := by simp [hx]
        clear hx
        go_wp2
        go_ret
        exact ⟨by rw [e.out]; rfl, rfl⟩
      · have d1 : ((x : Int) == (i : Int)) = false := by simp; omega
        have w1 : IntKind.i64.wrap ((t : Int) - 1) = (t : Int) - 1 := IntWalk.i64_in _ (by omega)
        go_wp2
        go_round
        case rel => exact ⟨t, by omega, rfl, fun s hs h => by
          by_cases e : s = t
          · subst e; rw [HXY.out]; exact hx
          · exact HNO.out s hs (by omega)⟩
        case measure => simp [intOf]

set_option maxRecDepth 100000 in
set_option maxHeartbeats 4000000 in
theorem rsample_calls (seed n k : Nat) (hs : seed < 18446744073709551616) (hk : k ≤ n) (hn : n ≤ 1000000) (w : World) :
    Calls Try.prog 14 #[.int .u64 seed, .int .i64 n, .int .i64 k] w fun e w' => ∃ v out, e = .returned (.tuple #[v, .int .i64 0]) ∧ Drawn seed n k out ∧ OwnE encI 1 3 w.heap.size w' v out ∧ Below w.heap.size w w' := by
  obtain ⟨i0, hi, hz0, hz1, hz2⟩ := info_parts info_int
  obtain ⟨j0, hj, hy0, hy1, hy2⟩ := info_parts info_exch
  have d1 : decide ((k : Int) < 0) = false := by rw [decide_eq_false_iff_not]; omega
  have d2 : decide (n < k) = false := by rw [decide_eq_false_iff_not]; omega
  have d3 : decide ((1000000 : Int) < (n : Int)) = false := by rw [decide_eq_false_iff_not]; omega
  go_enter Try.func14, Try.ntmps14
  go_wp2
  go_loopw [8, 9, 10, 11] (fun u z a i wr => ∃ (j x : Nat) (l : List (Nat × Nat)) (out : List Nat), j ≤ k ∧ i = .int .i64 j ∧ a = .int .u64 x ∧ SmpR seed n j x (valX l) out ∧ l.length = j ∧ OwnE encI 1 3 w.heap.size wr u out ∧ OwnE encX 2 110 w.heap.size wr z l ∧ Below w.heap.size w wr) (fun _ _ _ i _ => k - (intOf i).toNat)
  case atStart => exact ⟨0, seed, [], [], Nat.zero_le _, rfl, rfl, by rw [valX_nil]; exact .zero, rfl, OwnE.nil _ _, OwnE.nil _ _, Below.refl _ _⟩
  case round =>
    obtain ⟨j, x, l, out, hjk', rfl, rfl, h1, h2, h4, h5, h6⟩ := hrel
    have HS := hid h1
    have HL := hid h2
    have HO := hid h4
    have HX := hid h5
    have HB := hid h6
    clear h1 h2 h4 h5 h6
    by_cases hjk : j < k
    · have w1 : IntKind.i64.wrap ((n : Int) - (j : Int)) = ((n - j : Nat) : Int) := by rw [IntWalk.i64_in _ (by omega)]; omega
      obtain ⟨m, hm⟩ : ∃ m, m = n - j := ⟨_, rfl⟩
      rw [← hm] at w1
      have mp : 0 < m := by omega
      have ml : m ≤ 1000000 := by omega
      have w2 : IntKind.u64.wrap (m : Int) = (m : Int) := IntWalk.u64_in _ (by omega)
      have HMM := hid hm
      clear hm
      go_wp2_with fail
      refine (rbelow_calls x m (HS.out.lt hs (by omega)) mp (by omega) wr).mono ?_
      rintro e w1 ⟨y, r, hbr, rfl, hb1⟩
      have hr := (hbr.lt mp).2
      have BR := hid hbr
      have O1 := hid (HO.out.below hb1)
      have X1 := hid (HX.out.below hb1)
      have B1 := hid (HB.out.trans (hb1.mono HB.out.size))
      clear hbr hb1
      have w3 : IntKind.i64.wrap (r : Int) = (r : Int) := IntWalk.i64_in _ (by omega)
      have w4 : IntKind.i64.wrap ((j : Int) + (r : Int)) = ((j + r : Nat) : Int) := by rw [IntWalk.i64_in _ (by omega)]; omega
      obtain ⟨q, hq⟩ : ∃ q, q = j + r := ⟨_, rfl⟩
      rw [← hq] at w4
      have ql : q ≤ 1000000 := by have := HMM.out; omega
      have HQ := hid hq
      clear hq
      have RD := hid (X1.out.reads encX_len (by rw [HL.out]; omega))
      go_wp2_with fail
      refine (value_calls l j _ w1 RD.out).mono ?_
      rintro e w2 ⟨rfl, rfl⟩
      go_wp2_with fail
      refine (value_calls l q _ w2 RD.out).mono ?_
      rintro e w3 ⟨rfl, rfl⟩
      have OL := hid (show w3.ownsRow w.heap.size 3 1 u8 j (flatE encI out) by have := O1.out; unfold OwnE at this; rwa [HS.out.length] at this)
      have XL := hid (show w3.ownsRow w.heap.size 110 2 u9 j (flatE encX l) by have := X1.out; unfold OwnE at this; rwa [HL.out] at this)
      have hwl : w.heap.size ≤ w3.heap.size := B1.out.size
      go_wp2_with (at_builtin; refine wpList_append_lies _ rfl (.tmp 52) (.tmp 54) 23 rfl w.heap.size 3 i0 _ 1 8 under_ints hi hz0 hz1 hz2 rfl (by decide) u8 j (flatE encI out) rfl (World.ownsRow.alloc OL.out _) ⟨w3.heap.size, 0, none⟩ 1 1 [.int .i64 (valX l q : Nat)] rfl rfl ?c1 ?c2 (by decide) ?c3 ?c4 ?c5 _ rfl ?_)
      case c1 => exact news_of (Cells.new w3 #[.int .i64 (valX l q : Nat)] 3)
      case c2 => intro u hu; simp at hu; subst hu; rfl
      case c3 => unfold maxLen; omega
      case c4 => omega
      case c5 => simp; omega
      intro g1 cap1 w4 own4 gr4 at4 lt4
      have X4 := hid (ownsRow_moved (w' := w4) (World.ownsRow.alloc XL.out (.cells #[.int .i64 (valX l q : Nat)] 3)) fun b' cs _ hb' => grown_otherT (World.ownsRow.alloc OL.out (.cells #[.int .i64 (valX l q : Nat)] 3)) gr4 (by decide) b' cs hb')
      have O4 := hid own4
      have B4 := hid (Below.grown (B1.out.alloc B1.out.size (.cells #[.int .i64 (valX l q : Nat)] 3)) gr4 (by simp; omega) (fun r h => (World.ownsRow.lt OL.out r h).1))
      have hw4 : w.heap.size ≤ w4.heap.size := B4.out.size
      clear own4 gr4 at4 lt4
      go_wp2_with (at_builtin; refine wpList_append_lies _ rfl (.tmp 56) (.tmp 63) 105 rfl w.heap.size 110 j0 _ 2 16 under_exchs hj hy0 hy1 hy2 rfl (by decide) u9 j (flatE encX l) rfl (World.ownsRow.alloc X4.out _) ⟨w4.heap.size, 0, none⟩ 1 1 [.int .i64 (q : Int), .int .i64 (valX l j : Nat)] rfl rfl ?d1 ?d2 (by decide) ?d3 ?d4 ?d5 _ rfl ?_)
      case d1 => exact news_of (Cells.new w4 #[.int .i64 (q : Int), .int .i64 (valX l j : Nat)] 110)
      case d2 => intro u hu; simp at hu; rcases hu with rfl | rfl <;> rfl
      case d3 => unfold maxLen; omega
      case d4 => omega
      case d5 => simp; omega
      intro g2 cap2 w5 own5 gr5 at5 lt5
      have O5 := hid (ownsRow_moved (w' := w5) (World.ownsRow.alloc O4.out (.cells #[.int .i64 (q : Int), .int .i64 (valX l j : Nat)] 110)) fun b' cs _ hb' => grown_otherT (World.ownsRow.alloc X4.out (.cells #[.int .i64 (q : Int), .int .i64 (valX l j : Nat)] 110)) gr5 (by decide) b' cs hb')
      have X5 := hid own5
      have B5 := hid (Below.grown (B4.out.alloc B4.out.size (.cells #[.int .i64 (q : Int), .int .i64 (valX l j : Nat)] 110)) gr5 (by simp; omega) (fun r h => (World.ownsRow.lt X4.out r h).1))
      have h64 : IntKind.i64.wrap ((j : Int) + 1) = (j : Int) + 1 := IntWalk.i64_in _ (by omega)
      clear own5 gr5 at5 lt5
      go_wp2
      go_roundw
      case rel => exact ⟨j + 1, y, l ++ [(q, valX l j)], out ++ [valX l q], by omega, by go_num, rfl, by rw [valX_snoc]; have := SmpR.step j x (valX l) out y r HS.out (by rw [← HMM.out]; exact BR.out); rwa [← HQ.out] at this, by simp [HL.out], by unfold OwnE; rw [flatE_snoc, List.length_append, HS.out.length]; exact O5.out, by unfold OwnE; rw [flatE_snoc, List.length_append, HL.out]; exact X5.out, B5.out⟩
      case measure => simp [intOf]; omega
    · have hkj : j = k := by omega
      subst hkj
      go_wp2
      refine bodyPost_ret (v := .tuple #[u8, .int .i64 0]) (by simp [results, Try.results14, go_sem]) rfl ⟨_, out, rfl, ⟨x, _, HS.out⟩, HO.out, HB.out⟩
end Go.Proofs.Ytnnbdjfeagcbdaa
