/- A list of calls as the laws' argument. Sample: the numbers that a seed draws. -/
import Derived.Test.YtnnbdjfeagcbdaaJTame
import Derived.Test.YtnnbdjfeagcbdaaJRow
import Derived.Test.YtnnbdjfeagcbdaaJOpen
import Derived.Test.YtnnbdjfeagcbdaaJSmp2
import Derived.Test.YtnnbdjfeagcbdaaJReg
namespace Go.Proofs.Ytnnbdjfeagcbdaa
set_option linter.unusedSimpArgs false
set_option linter.unusedVariables false
open Go.RowKit Go.ChangeShapes Go.WideShapes

/-- A call as the laws have it. -/
structure Ac where
  k : Int
  f : Int
  c : Int
  l : Int
  a : Int
  b : Int
def encA (x : Ac) : List Value := [.int .i64 x.k, .int .i64 x.f, .int .i64 x.c, .int .i64 x.l, .int .i64 x.a, .int .i64 x.b]
theorem encA_len (x : Ac) : (encA x).length = 6 := rfl
theorem kind_mod (k : Int) : ∃ r : Int, (IntKind.u64.wrap k).tmod 8 = r ∧ IntKind.u64.wrap r = r ∧ (r = 0 ∨ r = 1 ∨ r = 2 ∨ r = 3 ∨ r = 4 ∨ r = 5 ∨ r = 6 ∨ r = 7) := by
  have h : 0 ≤ (IntKind.u64.wrap k).tmod 8 ∧ (IntKind.u64.wrap k).tmod 8 < 8 := by
    have := tam_range 8 k (by omega)
    rw [rem_mod]; unfold tam at this; omega
  exact ⟨_, rfl, IntWalk.u64_in _ (by omega), by omega⟩
theorem act_leaves : leaves Try.prog 3 39 = some [.i64, .i64, .i64, .i64, .i64, .i64] := by kernel_rfl
theorem act_cells : Try.prog.cellsOf 39 = 6 := by kernel_rfl
theorem six_act {vs : List Value} (h : IntsK [.i64, .i64, .i64, .i64, .i64, .i64] vs) : ∃ x : Ac, True ∧ vs = encA x := by
  obtain ⟨a, _, rfl, _, _, h⟩ := h.cons
  obtain ⟨b, _, rfl, _, _, h⟩ := h.cons
  obtain ⟨c, _, rfl, _, _, h⟩ := h.cons
  obtain ⟨d, _, rfl, _, _, h⟩ := h.cons
  obtain ⟨e, _, rfl, _, _, h⟩ := h.cons
  obtain ⟨f, _, rfl, _, _, h⟩ := h.cons
  obtain rfl := h.nil
  exact ⟨⟨a, b, c, d, e, f⟩, trivial, rfl⟩
set_option maxRecDepth 100000 in
/-- The argument opened. -/
theorem acts_open {H : Type} {enc : TypeId × Value → H} {w : World} {base : Nat} {spare : Nat → Bool} {held : Bool} {r : Reach} {b0 : Nat} {v : Value} {d : DataW H} {p : List MemPlace}
    (hv : Value.okWide Try.prog w r b0 33 v) (h : DataW.Trod enc Try.prog w base spare held 33 v d p) : ∃ l : List Ac, ReadsE encA 6 w v l := by
  obtain ⟨rows, hk, hr⟩ := open_rows Try.underlying33 act_leaves act_cells (by decide) hv h
  obtain ⟨xs, rfl, _⟩ := map_of_rows rows (fun r hr => six_act (hk r hr))
  exact ⟨xs, reads_map xs hr⟩
end Go.Proofs.Ytnnbdjfeagcbdaa
namespace Go.Proofs.Ytnnbdjfeagcbdaa
set_option linter.unusedSimpArgs false
set_option linter.unusedVariables false
open Go.RowKit
attribute [local go_sem] Oper.semAt_some

def encI (o : Nat) : List Value := [.int .i64 (o : Int)]
theorem encI_len (o : Nat) : (encI o).length = 1 := rfl
theorem info_int : (Try.prog.info? 3).map (fun i => (i.zero, i.size, i.bytes)) = some (some (.int .i64 0), 1, 8) := by kernel_rfl
theorem under_ints : Try.prog.underlying 23 = some (.slice 3) := by kernel_rfl
theorem ownsMap_moved {H : Type} {w w' : World} {P : Program} {k : TypeId} {R : Value → Option (DataW H × List MemPlace)} {b n : Nat} {D : DataW H} (h : w.ownsMap P k R b n D) (hb : w'.heap[b]? = w.heap[b]?) : w'.ownsMap P k R b n D := by
  obtain ⟨es, clock, h1, h2⟩ := h
  exact ⟨es, clock, hb.trans h1, h2⟩
theorem ownsMap_type {H : Type} {w : World} {P : Program} {k : TypeId} {R : Value → Option (DataW H × List MemPlace)} {b n : Nat} {D : DataW H} (h : w.ownsMap P k R b n D) {cs : Array Value} {t : TypeId} {fr : Nat × Nat} : w.heap[b]? ≠ some (Obj.cells cs t fr) := by
  obtain ⟨es, clock, h1, h2⟩ := h
  rw [h1]; intro e; cases e
/-- What a valid call draws. -/
def Drawn (seed n k : Nat) (out : List Nat) : Prop := ∃ x f, SmpR seed n k x f out

set_option maxRecDepth 100000 in
set_option maxHeartbeats 4000000 in
theorem sample_calls (seed n k : Nat) (hs : seed < 18446744073709551616) (hk : k ≤ n) (hn : n ≤ 1000000) (w : World) :
    Calls Try.prog 13 #[.int .u64 seed, .int .i64 n, .int .i64 k] w fun e w' => ∃ v out, e = .returned (.tuple #[v, .int .i64 0]) ∧ Drawn seed n k out ∧ OwnE encI 1 3 w.heap.size w' v out ∧ Below w.heap.size w w' := by
  obtain ⟨i0, hi, hz0, hz1, hz2⟩ := info_parts info_int
  have hmm := @run_makeMap Try.prog
  have hmf : ∀ (fn : Fn) (first cap : Array Value) (w : World), (Instr.makeFunc fn first cap).run Try.prog w = .ok (.func fn first cap) w := fun _ _ _ _ => rfl
  have d1 : decide ((k : Int) < 0) = false := by rw [decide_eq_false_iff_not]; omega
  have d2 : decide (n < k) = false := by rw [decide_eq_false_iff_not]; omega
  have d3 : decide ((1000000 : Int) < (n : Int)) = false := by rw [decide_eq_false_iff_not]; omega
  have cG := ((Cells.new w #[.int .u64 (seed : Int)] 100).alloc (.map #[] 0)).alloc (.cells #[.map (some (w.heap.size + 1))] 101)
  have cC : Cells (((w.alloc (.cells #[.int .u64 (seed : Int)] 100)).alloc (.map #[] 0)).alloc (.cells #[.map (some (w.heap.size + 1))] 101)) (w.heap.size + 1 + 1) #[.map (some (w.heap.size + 1))] 101 := by
    have := Cells.new ((w.alloc (.cells #[.int .u64 (seed : Int)] 100)).alloc (.map #[] 0)) #[.map (some (w.heap.size + 1))] 101
    rwa [World.size_alloc, World.size_alloc] at this
  have oM : (((w.alloc (.cells #[.int .u64 (seed : Int)] 100)).alloc (.map #[] 0)).alloc (.cells #[.map (some (w.heap.size + 1))] 101)).ownsMap Try.prog 3 (plainElem (H := Unit) Try.prog 3) (w.heap.size + 1) 0 (.map []) := by
    have h0 := World.ownsMap_made (H := Unit) (w.alloc (.cells #[.int .u64 (seed : Int)] 100)) Try.prog 3 (plainElem Try.prog 3)
    rw [World.size_alloc] at h0
    exact ownsMap_moved h0 (Below.heap_alloc _ _ _ (by simp))
  have b0 : Below w.heap.size w (((w.alloc (.cells #[.int .u64 (seed : Int)] 100)).alloc (.map #[] 0)).alloc (.cells #[.map (some (w.heap.size + 1))] 101)) := (((Below.refl _ _).alloc (Nat.le_refl _) _).alloc (by simp) _).alloc (by simp; omega) _
  have z0 : w.heap.size + 1 + 1 + 1 ≤ (((w.alloc (.cells #[.int .u64 (seed : Int)] 100)).alloc (.map #[] 0)).alloc (.cells #[.map (some (w.heap.size + 1))] 101)).heap.size := by simp
  have S0 := hid (And.intro cG (And.intro cC (And.intro oM (And.intro b0 z0))))
  clear cG cC oM b0 z0
  have eg := enters_of (P := Try.prog) Try.func46 (by kernel_rfl) rfl
  go_enter Try.func13, Try.ntmps13
  go_wp2
  go_loopw [11, 30] (fun u i wr => ∃ (j x : Nat) (f : Nat → Nat) (out : List Nat) (D : DataW Unit), j ≤ k ∧ i = .int .i64 j ∧ SmpR seed n j x f out ∧ MapF D f ∧ OwnE encI 1 3 (w.heap.size + 1 + 1 + 1) wr u out ∧ Cells wr w.heap.size #[.int .u64 x] 100 ∧ Cells wr (w.heap.size + 1 + 1) #[.map (some (w.heap.size + 1))] 101 ∧
    wr.ownsMap Try.prog 3 (plainElem (H := Unit) Try.prog 3) (w.heap.size + 1) j D ∧ Below w.heap.size w wr ∧ w.heap.size + 1 + 1 + 1 ≤ wr.heap.size) (fun _ i _ => k - (intOf i).toNat)
  case atStart => exact ⟨0, seed, id, [], .map [], Nat.zero_le _, rfl, .zero, MapF.nil, OwnE.nil _ _, S0.out.1, S0.out.2.1, S0.out.2.2.1, S0.out.2.2.2.1, S0.out.2.2.2.2⟩
  case round =>
    obtain ⟨j, x, f, out, D, hj, rfl, h1, h2, h3, h4, h5, h6, h7, h8⟩ := hrel
    have HS := hid h1
    have HM := hid h2
    have HO := hid h3
    have HG := hid h4
    have HC := hid h5
    have HP := hid h6
    have HB := hid h7
    clear h1 h2 h3 h4 h5 h6 h7
    by_cases hjk : j < k
    · have w1 : IntKind.i64.wrap ((n : Int) - (j : Int)) = ((n - j : Nat) : Int) := by rw [IntWalk.i64_in _ (by omega)]; omega
      obtain ⟨m, hm⟩ : ∃ m, m = n - j := ⟨_, rfl⟩
      rw [← hm] at w1
      have mp : 0 < m := by omega
      have ml : m ≤ 1000000 := by omega
      have w2 : IntKind.u64.wrap (m : Int) = (m : Int) := IntWalk.u64_in _ (by omega)
      have HMM := hid hm
      clear hm
      go_wp2_with fail
      refine (below_calls x m (HS.out.lt hs (by omega)) mp (by omega) w.heap.size wr HG.out).mono ?_
      rintro e w1 ⟨y, r, hbr, rfl, hcg, hgr⟩
      have hr := (hbr.lt mp).2
      have C1 := hid hcg
      have BR := hid hbr
      have O1 := hid (HO.out.moved (w' := w1) fun b cs hb hb' => hgr.block b (Array.getElem?_eq_some_iff.1 hb').1 (fun e => by have := Option.some.inj e; omega))
      have P1 := hid (ownsMap_moved (w' := w1) HP.out (hgr.block _ HP.out.lt (fun e => by have := Option.some.inj e; omega)))
      have K1 := hid (show Cells w1 (w.heap.size + 1 + 1) #[.map (some (w.heap.size + 1))] 101 from (hgr.block _ HC.out.lt (fun e => by have := Option.some.inj e; omega)).trans HC.out)
      have B1 := hid (Below.grown HB.out hgr HB.out.size (fun r h => by have := Option.some.inj h; omega))
      have z1 : w.heap.size + 1 + 1 + 1 ≤ w1.heap.size := Nat.le_trans h8 hgr.size
      clear hbr hcg hgr h8
      have c1 : w1.cell? ⟨w.heap.size + 1 + 1, 0, none⟩ = some (.map (some (w.heap.size + 1))) := by simp [K1.out.cell]
      have w3 : IntKind.i64.wrap (r : Int) = (r : Int) := IntWalk.i64_in _ (by omega)
      have w4 : IntKind.i64.wrap ((j : Int) + (r : Int)) = ((j + r : Nat) : Int) := by rw [IntWalk.i64_in _ (by omega)]; omega
      obtain ⟨q, hq⟩ : ∃ q, q = j + r := ⟨_, rfl⟩
      rw [← hq] at w4
      have ql : q ≤ 1000000 := by have := HMM.out; omega
      have HQ := hid hq
      clear hq
      go_wp2_with fail
      refine (at1_calls q (by omega) (w.heap.size + 1 + 1) (w.heap.size + 1) j D f HM.out w1 c1 P1.out).mono ?_
      rintro e w2 ⟨rfl, rfl⟩
      go_wp2
      refine wp_region_still_tail 5 (by kernel_rfl) (by kernel_rfl) ?_
      simp only [List.take_succ_cons, List.take_zero, List.drop_succ_cons, List.drop_zero]
      repeat still_step
      have PD := hid (show ({ w2 with drawn := w2.drawn + 1 } : World).ownsMap Try.prog 3 (plainElem (H := Unit) Try.prog 3) (w.heap.size + 1) j D from P1.out)
      have fj := (HM.out.2 j (by omega)).1
      have KEY := hid (key_int q (by omega))
      have ELT := hid (elem_int (f j) fj)
      still_call (at1_calls j (by omega) (w.heap.size + 1 + 1) (w.heap.size + 1) j D f HM.out _ c1 PD.out)
      refine wpStill_nil ?_
      have hlen := HS.out.length
      have F1 := hid (show (f q) ≤ 4000000 from (HM.out.2 q (by omega)).1)
      have OL := hid (show w2.ownsRow (w.heap.size + 1 + 1 + 1) 3 1 u11 j (flatE encI out) by have := O1.out; unfold OwnE at this; rwa [hlen] at this)
      have HL := hid hlen
      clear hlen
      refine wpList_mapUpdate_own _ rfl (.tmp 44) (.tmp 45) (.tmp 48) 101 rfl 3 3 int_law Try.underlying101 _ (w.heap.size + 1) j D rfl PD.out (by unfold maxLen; omega) _ _ (.int .i64 (q : Int)) rfl rfl KEY.out (.lit (.int .i64 (f j : Nat))) [] ELT.out ?_
      intro w3 own3 gr3
      have P3 := hid own3
      have z3 : w.heap.size + 1 + 1 + 1 ≤ w3.heap.size := Nat.le_trans z1 gr3.size
      have O3 := hid (ownsRow_moved (w' := w3) OL.out fun b cs hb hb' => gr3.block b (Array.getElem?_eq_some_iff.1 hb').1 (fun e => by have := Option.some.inj e; omega))
      have C3 := hid (show Cells w3 w.heap.size #[.int .u64 y] 100 from (gr3.block _ C1.out.lt (fun e => by have := Option.some.inj e; omega)).trans C1.out)
      have K3 := hid (show Cells w3 (w.heap.size + 1 + 1) #[.map (some (w.heap.size + 1))] 101 from (gr3.block _ K1.out.lt (fun e => by have := Option.some.inj e; omega)).trans K1.out)
      have B3 := hid (Below.grown (w := { w2 with drawn := w2.drawn + 1 }) B1.out.drew gr3 B1.out.size (fun r h => by have := Option.some.inj h; omega))
      clear own3 gr3 z1 c1
      go_wp2_with (at_builtin; refine wpList_append_lies _ rfl (.tmp 49) (.tmp 51) 23 rfl (w.heap.size + 1 + 1 + 1) 3 i0 _ 1 8 under_ints hi hz0 hz1 hz2 rfl (by decide) u11 j (flatE encI out) rfl (World.ownsRow.alloc O3.out _) ⟨w3.heap.size, 0, none⟩ 1 1 [.int .i64 (f q : Nat)] rfl rfl ?c1 ?c2 (by decide) ?c3 ?c4 ?c5 _ rfl ?_)
      case c1 => exact news_of (Cells.new w3 #[.int .i64 (f q : Nat)] 3)
      case c2 => intro u hu; simp at hu; subst hu; rfl
      case c3 => unfold maxLen; omega
      case c4 => omega
      case c5 => simp; omega
      intro g' cap' w4 own4 gr4 at4 lt4
      have hrow := fun r h => (World.ownsRow.lt (World.ownsRow.alloc O3.out (.cells #[.int .i64 (f q : Nat)] 3)) r h).1
      have O4 := hid own4
      have C4 := hid (show Cells w4 w.heap.size #[.int .u64 y] 100 from (gr4.block _ (C3.out.alloc _).lt (fun e => by have := hrow _ e.symm; omega)).trans (C3.out.alloc _))
      have K4 := hid (show Cells w4 (w.heap.size + 1 + 1) #[.map (some (w.heap.size + 1))] 101 from (gr4.block _ (K3.out.alloc _).lt (fun e => by have := hrow _ e.symm; omega)).trans (K3.out.alloc _))
      have P4 := hid (ownsMap_moved (w' := w4) (ownsMap_moved (w' := w3.alloc (.cells #[.int .i64 (f q : Nat)] 3)) P3.out (Below.heap_alloc _ _ _ P3.out.lt)) (gr4.block _ (by simp; omega) (fun e => by have := hrow _ e.symm; omega)))
      have B4 := hid (Below.grown (B3.out.alloc B3.out.size (.cells #[.int .i64 (f q : Nat)] 3)) gr4 (by simp; omega) (fun r h => by have := hrow r h; omega))
      have z4 : w.heap.size + 1 + 1 + 1 ≤ w4.heap.size := by have := gr4.size; simp at this; omega
      have h64 : IntKind.i64.wrap ((j : Int) + 1) = (j : Int) + 1 := IntWalk.i64_in _ (by omega)
      clear own4 gr4 at4 lt4 hrow z3
      go_wp2
      go_roundw
      case rel => exact ⟨j + 1, y, upd f q (f j), out ++ [f q], _, by omega, by go_num, by have := SmpR.step j x f out y r HS.out (by rw [← HMM.out]; exact BR.out); rwa [← HQ.out] at this, HM.out.put q (f j) (by omega) fj, by unfold OwnE; rw [flatE_snoc, List.length_append, HL.out]; exact O4.out, C4.out, K4.out, P4.out, B4.out, z4⟩
      case measure => simp [intOf]; omega
    · have hkj : j = k := by omega
      subst hkj
      go_wp2
      refine bodyPost_ret (v := .tuple #[u11, .int .i64 0]) (by simp [results, Try.results13, go_sem]) rfl ⟨_, out, rfl, ⟨x, f, HS.out⟩, HO.out.mono (by omega), HB.out⟩
end Go.Proofs.Ytnnbdjfeagcbdaa
