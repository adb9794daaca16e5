/- Shares by largest remainders, plain: who is how far ahead. split: the walk. call.Split. call.zone.volume, surplus, pick; sized; lean. A row of zones as a function; clear. No function of the program in sight. slices.IndexFunc at zones, with a predicate by contract. -/
import Derived.Lib.SliceRun
import Derived.Test.YtepldjidkomclaaGreatJCZmap
import Derived.Test.YtepldjidkomclaaGreatJCCl0
namespace Go.Proofs.YtepldjidkomclaaGreat.Ca
set_option linter.unusedSimpArgs false
set_option linter.unusedVariables false
open Go.RowKit
def rankR (r : Nat → Int) (n k : Nat) : Nat := ((List.range n).filter fun j => decide (r k < r j ∨ r j = r k ∧ j < k)).length
theorem rankR_congr {r r' : Nat → Int} {n k : Nat} (hk : k < n) (h : ∀ j, j < n → r j = r' j) : rankR r n k = rankR r' n k := by
  unfold rankR
  congr 1
  refine List.filter_congr fun j hj => ?_
  rw [h j (List.mem_range.1 hj), h k hk]
theorem filter_lt_range (n i : Nat) (h : i ≤ n) : ((List.range n).filter fun b => decide (b < i)).length = i := by
  induction n with
  | zero => simp; omega
  | succ n ih =>
    rw [List.range_succ, List.filter_append, List.length_append]
    by_cases e : i ≤ n
    · rw [ih e]; simp; omega
    · have e1 : i = n + 1 := by omega
      subst e1
      have : ((List.range n).filter fun b => decide (b < n + 1)) = List.range n := List.filter_eq_self.2 fun b hb => by have := List.mem_range.1 hb; simp; omega
      rw [this]; simp
theorem rank_of_order {r f : Nat → Int} {n : Nat} (h : Good (ltC (cfR r)) (fun k => (k : Int)) f 0 n) {i k : Nat} (hi : i < n) (hk : f i = (k : Int)) : rankR r n k = i := by
  have hb := (order_facts h).1
  have P1 : rankR r n k = ((seg (fun k => (k : Int)) 0 n).filter fun x => decide (r k < r x.toNat ∨ r x.toNat = r k ∧ x < (k : Int))).length := by
    unfold rankR seg
    rw [List.filter_map, List.length_map]
    have : List.range (n - 0) = List.range n := rfl
    rw [this]
    congr 1
    refine List.filter_congr fun j _ => ?_
    simp
  have P2 : ((seg (fun k => (k : Int)) 0 n).filter fun x => decide (r k < r x.toNat ∨ r x.toNat = r k ∧ x < (k : Int))).length = ((seg f 0 n).filter fun x => decide (r k < r x.toNat ∨ r x.toNat = r k ∧ x < (k : Int))).length := (h.perm.symm.filter _).length_eq
  rw [P1, P2]
  unfold seg
  rw [List.filter_map, List.length_map]
  have : ((List.range (n - 0)).filter ((fun x : Int => decide (r k < r x.toNat ∨ r x.toNat = r k ∧ x < (k : Int))) ∘ fun i => f (0 + i))) = (List.range n).filter fun b => decide (b < i) := by
    rw [Nat.sub_zero]
    refine List.filter_congr fun b hbm => ?_
    have hbn := List.mem_range.1 hbm
    simp only [Function.comp, Nat.zero_add, decide_eq_decide]
    have hkn : ((k : Int)).toNat = k := by simp
    rcases Nat.lt_trichotomy b i with q | q | q
    · refine ⟨fun _ => q, fun _ => ?_⟩
      rcases h.srt b i (Nat.zero_le _) q hi with s | ⟨s, s2⟩
      · rw [hk, ltR, hkn] at s
        left; simpa using s
      · rw [hk, ltR, hkn] at s
        rw [hk] at s2
        simp at s
        by_cases e : r (f b).toNat = r k
        · exact .inr ⟨e, s2⟩
        · left; omega
    · subst q
      rw [hk, hkn]
      simp
    · refine ⟨fun g => ?_, fun g => by omega⟩
      exfalso
      rcases h.srt i b (Nat.zero_le _) q hbn with s | ⟨s, s2⟩
      · rw [hk, ltR, hkn] at s
        have s' : r (f b).toNat < r k := by simpa using s
        omega
      · rw [hk, ltR, hkn] at s
        rw [hk] at s2
        have s' : ¬ r k < r (f b).toNat := by simpa using s
        rcases g with g | ⟨_, g⟩
        · exact s' g
        · omega
  rw [this, filter_lt_range n i (by omega)]
theorem ahead_iff {r f : Nat → Int} {n a k : Nat} (h : Good (ltC (cfR r)) (fun k => (k : Int)) f 0 n) (ha : a ≤ n) (hk : k < n) : (∃ i, i < a ∧ f i = (k : Int)) ↔ rankR r n k < a := by
  constructor
  · rintro ⟨i, i1, i2⟩
    rw [rank_of_order h (by omega) i2]; exact i1
  · intro hr
    obtain ⟨i, _, i2, e⟩ := mem_seg.1 (h.perm.symm.mem_iff.1 (mem_seg.2 ⟨k, Nat.zero_le _, hk, rfl⟩))
    have := rank_of_order h i2 e.symm
    exact ⟨i, by omega, e.symm⟩
def shareF (t : Int) (l : List Int) (k : Nat) : Int :=
  if sumI l = 0 then 0 else t * l.getD k 0 / sumI l + if (rankR (fun j => t * l.getD j 0 % sumI l) l.length k : Int) < t - sumI (l.map fun x => t * x / sumI l) then 1 else 0
def splitL (t : Int) (l : List Int) : List Int := (List.range l.length).map (shareF t l)
theorem splitL_len (t : Int) (l : List Int) : (splitL t l).length = l.length := by simp [splitL]
theorem splitL_get (t : Int) (l : List Int) (k : Nat) (hk : k < (splitL t l).length) : (splitL t l)[k] = shareF t l k := by simp [splitL]
theorem splitL_zero {t : Int} {l : List Int} (h : sumI l = 0) : splitL t l = List.replicate l.length 0 := by
  apply List.ext_getElem
  · simp [splitL]
  · intro i h1 h2
    rw [splitL_get]; simp [shareF, h]
theorem split_end {t : Int} {l : List Int} {q r f : Nat → Int} {n lf : Nat} (hn : n = l.length) (hS : sumI l ≠ 0) (hlo : ∀ (k : Nat) (hk : k < l.length), k < n → q k = t * l[k] / sumI l ∧ r k = t * l[k] % sumI l) (hg : Good (ltC (cfR r)) (fun k => (k : Int)) f 0 n) (hlf : t - sumI (l.map fun x => t * x / sumI l) = (lf : Int)) (hle : lf ≤ n) (k : Nat) (hk : k < (splitL t l).length) : plusOne f q lf k = (splitL t l)[k] := by
  rw [splitL_get]
  rw [splitL_len] at hk
  unfold shareF plusOne
  rw [if_neg hS, hlf]
  obtain ⟨h1, _⟩ := hlo k hk (by omega)
  have hd : l.getD k 0 = l[k] := by simp [hk]
  rw [h1, hd]
  congr 1
  have e : rankR (fun j => t * l.getD j 0 % sumI l) l.length k = rankR r n k := by
    rw [hn]
    refine rankR_congr hk fun j hj => ?_
    rw [(hlo j hj (by omega)).2]
    simp [hj]
  rw [e]
  have := ahead_iff hg hle (k := k) (by omega)
  by_cases h2 : rankR r n k < lf
  · rw [if_pos (this.2 h2), if_pos (by omega)]
  · rw [if_neg (fun h => h2 (this.1 h)), if_neg (by omega)]
end Go.Proofs.YtepldjidkomclaaGreat.Ca
namespace Go.Proofs.YtepldjidkomclaaGreat.Ca
set_option linter.unusedSimpArgs false
set_option linter.unusedVariables false
open Go.RowKit
attribute [local go_sem] Oper.semAt_some
attribute [local go_sem ↓] Go.wp_at_zero Go.wp_at_succ
theorem infoU64 : (Tryz.prog.info? 88).map (fun i => (i.zero, i.size, i.bytes)) = some (some (.int .u64 0), 1, 8) := by kernel_rfl
theorem undU64 : Tryz.prog.underlying 149 = some (.slice 88) := by kernel_rfl
theorem infoIn : (Tryz.prog.info? 3).map (fun i => (i.zero, i.size, i.bytes)) = some (some (.int .i64 0), 1, 8) := by kernel_rfl
theorem undIn : Tryz.prog.underlying 47 = some (.slice 3) := by kernel_rfl
theorem mk_u64 (w : World) (n : Nat) (hn : n ≤ 5000) : (Instr.makeSlice 149 (.int .i64 n) (.int .i64 n)).run Tryz.prog w = .ok (.slice (some ⟨w.heap.size, 0, none⟩) n n) (w.alloc (.cells (madeCells #[.int .u64 0] n) 88)) := by
  obtain ⟨i, h1, h2, h3, h4⟩ := info_of infoU64
  have := run_makeSlice (w := w) 149 88 i _ undU64 h1 h2 .i64 .i64 (n : Int) (n : Int) (by omega) (Int.le_refl _) (by rw [h3]; simp; omega) (by rw [h4]; omega) (by omega)
  rw [h3] at this
  simpa [Value.cells] using this
theorem mk_int (w : World) (n : Nat) (hn : n ≤ 5000) : (Instr.makeSlice 47 (.int .i64 n) (.int .i64 n)).run Tryz.prog w = .ok (.slice (some ⟨w.heap.size, 0, none⟩) n n) (w.alloc (.cells (madeCells #[.int .i64 0] n) 3)) := by
  obtain ⟨i, h1, h2, h3, h4⟩ := info_of infoIn
  have := run_makeSlice (w := w) 47 3 i _ undIn h1 h2 .i64 .i64 (n : Int) (n : Int) (by omega) (Int.le_refl _) (by rw [h3]; simp; omega) (by rw [h4]; omega) (by omega)
  rw [h3] at this
  simpa [Value.cells] using this
theorem sumI_bound {l : List Int} (h : ∀ x ∈ l, 0 ≤ x ∧ x ≤ 1000000000) : 0 ≤ sumI l ∧ sumI l ≤ 1000000000 * (l.length : Int) := by
  induction l with
  | nil => simp [sumI]
  | cons y l ih =>
    obtain ⟨h1, h2⟩ := ih fun x hx => h x (List.mem_cons_of_mem _ hx)
    have := h y List.mem_cons_self
    simp only [sumI, List.length_cons]
    omega
theorem RowL.made (w : World) (n : Nat) : RowL (w.alloc (.cells (madeCells #[.int .i64 0] n) 2)) w.heap.size n (fun _ => 0) :=
  RowL.new w n _ (size_madeCells _ _) (fun i hi => by rw [← Array.getElem?_toList, toList_madeCells_one]; simp [hi])
theorem RowU.made (w : World) (n : Nat) : RowU (w.alloc (.cells (madeCells #[.int .u64 0] n) 88)) w.heap.size n (fun _ => 0) :=
  ⟨_, Cells.new w _ _, size_madeCells _ _, fun i hi => by rw [← Array.getElem?_toList, toList_madeCells_one]; simp [hi]⟩
theorem Row.made (w : World) (n : Nat) : Row (w.alloc (.cells (madeCells #[.int .i64 0] n) 3)) w.heap.size n (fun _ => 0) :=
  ⟨_, Cells.new w _ _, fun i hi => by rw [← Array.getElem?_toList, toList_madeCells_one]; simp [hi]⟩
theorem plus_bound {f q : Nat → Int} {a m : Nat} (h : 0 ≤ q m ∧ q m ≤ 1000000000) : -1000 ≤ plusOne f q a m ∧ plusOne f q a m ≤ 9000000000000000 := by
  unfold plusOne; split <;> omega
theorem quota_b {t x S : Int} (ht : 0 ≤ t ∧ t ≤ S) (hx : 0 ≤ x ∧ x ≤ 1000000000) (hS : 0 < S) : 0 ≤ t * x / S ∧ t * x / S ≤ 1000000000 := by
  have g1 : 0 ≤ t * x / S := Int.ediv_nonneg (Int.mul_nonneg (by omega) (by omega)) (by omega)
  have g2 : t * x / S ≤ x := Int.ediv_le_of_le_mul (by omega) (by rw [Int.mul_comm x S]; exact Int.mul_le_mul_of_nonneg_right (by omega) (by omega))
  omega
set_option maxRecDepth 100000 in
set_option maxHeartbeats 8000000 in
theorem split_calls {w : World} {v : Value} {l : List Int} (hv : ReadsE encI 1 w v l) (hl : l.length ≤ 4096) (hok : ∀ x ∈ l, 0 ≤ x ∧ x ≤ 1000000000) {t : Int} (ht : 0 ≤ t ∧ t ≤ sumI l) :
    Calls Tryz.prog 33 #[.int .i64 t, v] w fun e w' => ∃ v', e = .returned v' ∧ RowI w.heap.size w' v' (splitL t l) ∧ Below w.heap.size w w' := by
  obtain ⟨hm, p, cap, bb, off, rfl, hp, hc⟩ := hv
  obtain ⟨n, hn⟩ : ∃ n, n = l.length := ⟨_, rfl⟩
  rw [← hn] at hp hm hl ⊢
  have HN := hid hn
  have HP := hid hp
  have HC := hid hc
  have HOK := hid hok
  have HT := hid ht
  obtain ⟨R, hR⟩ : ∃ R : Ending → World → Prop, R = fun e w' => ∃ v', e = .returned v' ∧ RowI w.heap.size w' v' (splitL t l) ∧ Below w.heap.size w w' := ⟨_, rfl⟩
  have HR := hid hR
  rw [← hR]
  have hn0 : (0 : Int) ≤ (n : Int) := by omega
  clear hR hn hp hc hok ht
  go_enter Tryz.func33, Tryz.ntmps33
  go_upto_region 3 with fail
  go_loopg [23, 5] n (fun k s23 s5 wr => ∃ i : Nat, i + k = n ∧ s23 = .int .i64 i ∧ s5 = .int .i64 (sumI (l.take i)) ∧ wr = w)
  case atStart => exact ⟨0, by omega, rfl, rfl, rfl⟩
  case round =>
    obtain ⟨i, hik, rfl, rfl, rfl⟩ := hrel
    have HIK := hid hik
    clear hik
    by_cases hin : i < n
    · have hil : i < l.length := by rw [← HN.out]; exact hin
      obtain ⟨rfl, hbb⟩ := HP.out (by omega)
      have c0 := HC.out i hil 0 (by omega)
      simp [encI] at c0
      obtain ⟨x, hx⟩ : ∃ x, x = l[i] := ⟨_, rfl⟩
      rw [← hx] at c0
      have gi : (i : Int) < (n : Int) := by omega
      have gi0 : (0 : Int) ≤ (i : Int) := by omega
      have hxb := HOK.out x (by rw [hx]; exact List.getElem_mem _)
      have hsb : 0 ≤ sumI (l.take i) ∧ sumI (l.take i) ≤ 5000000000000 := by
        have := sumI_bound (l := l.take i) (fun y hy => HOK.out y (List.mem_of_mem_take hy))
        rw [List.length_take] at this
        omega
      have SN := hid (show sumI (l.take (i + 1)) = sumI (l.take i) + x by rw [take_snoc hil, sumI_snoc, ← hx])
      obtain ⟨a, ha⟩ : ∃ a, a = sumI (l.take i) := ⟨_, rfl⟩
      rw [← ha] at hsb SN ⊢
      have ew : IntKind.i64.wrap (a + x) = a + x := IntWalk.i64_in _ (by omega)
      clear hx ha
      go_wp2
      go_roundg (n - (i + 1))
      · exact ⟨i + 1, by omega, by go_num, by rw [SN.out], rfl⟩
      · have := HIK.out; omega
    · have hin' : i = n := by have := HIK.out; omega
      subst hin'
      have g1 : decide ((i : Int) < (i : Int)) = false := by simp
      have hlt : l.take i = l := by rw [HN.out, List.take_length]
      rw [hlt]
      have hmk := mk_i64 wr i (by omega)
      have hsb := sumI_bound (l := l) HOK.out
      have HT2 := HT.out
      obtain ⟨S, hS⟩ : ∃ S, S = sumI l := ⟨_, rfl⟩
      rw [← hS] at hsb HT2 ⊢
      have HS := hid hS
      clear hS hlt
      by_cases hS0 : S = 0
      · have e1 : (S == 0) = true := by simpa using hS0
        have FIN := hid (show R (.returned (.slice (some ⟨wr.heap.size, 0, none⟩) i i)) (wr.alloc (.cells (madeCells #[.int .i64 0] i) 2)) by
          rw [HR.out]
          refine ⟨_, rfl, ?_, (Below.refl _ _).alloc (Nat.le_refl _) _⟩
          rw [splitL_zero (by rw [← HS.out]; exact hS0), ← HN.out]
          exact (RowL.made wr i).own (by simp) (fun k hk => by simp) (Nat.le_refl _) (by unfold maxLen; omega))
        go_wp2
        first | exact FIN.out | (go_ret; exact FIN.out)
      · have e1 : (S == 0) = false := by simpa using hS0
        have hmu := mk_u64 (wr.alloc (.cells (madeCells #[.int .i64 0] i) 2)) i (by omega)
        obtain ⟨w4, hw4⟩ : ∃ w4, w4 = ((((wr.alloc (.cells (madeCells #[.int .i64 0] i) 2)).alloc (.cells (madeCells #[.int .u64 0] i) 88)).alloc (.cells #[.slice (some ⟨wr.heap.size + 1, 0, none⟩) i i] 149)).alloc (.cells (madeCells #[.int .i64 0] i) 3)) := ⟨_, rfl⟩
        have hmi := mk_int (((wr.alloc (.cells (madeCells #[.int .i64 0] i) 2)).alloc (.cells (madeCells #[.int .u64 0] i) 88)).alloc (.cells #[.slice (some ⟨wr.heap.size + 1, 0, none⟩) i i] 149)) i (by omega)
        rw [← hw4] at hmi
        have S0 := hid (show SpS wr i l t S 0 w4 by
          have a1 := RowL.made wr i
          have a2 := RowU.made (wr.alloc (.cells (madeCells #[.int .i64 0] i) 2)) i
          have a3 := Cells.new ((wr.alloc (.cells (madeCells #[.int .i64 0] i) 2)).alloc (.cells (madeCells #[.int .u64 0] i) 88)) #[.slice (some ⟨wr.heap.size + 1, 0, none⟩) i i] 149
          have a4 := Row.made (((wr.alloc (.cells (madeCells #[.int .i64 0] i) 2)).alloc (.cells (madeCells #[.int .u64 0] i) 88)).alloc (.cells #[.slice (some ⟨wr.heap.size + 1, 0, none⟩) i i] 149)) i
          simp only [World.size_alloc] at a2 a3 a4
          have ka : ∀ (w : World) (o : Obj), Kept (fun _ => False) w (w.alloc o) := fun w o => (Kept.refl _ _).alloc _
          refine ⟨fun _ => 0, fun _ => 0, fun _ => 0, ⟨?_, ?_, ?_, ?_, ?_⟩, fun k hk h => absurd h (Nat.not_lt_zero k)⟩
          · rw [hw4]; exact ((a1.kept (ka _ _) id).kept (ka _ _) id).kept (ka _ _) id
          · rw [hw4]; exact (a2.kept (ka _ _) id).kept (ka _ _) id
          · rw [hw4]; exact a4
          · rw [hw4]; exact a3.alloc _
          · rw [hw4]; exact ((((Below.refl _ _).alloc (Nat.le_refl _) _).alloc (by simp) _).alloc (by simp; omega) _).alloc (by simp; omega) _)
        have HW4 := hid hw4
        clear hw4
        obtain ⟨w0, rfl⟩ : ∃ w0 : World, w0 = wr := ⟨_, rfl⟩
        go_upto_region 14 with fail
        go_loopg [46, 11] i (fun k s46 s11 wr => ∃ j : Nat, j + k = i ∧ s46 = .int .i64 j ∧ s11 = .int .i64 (t - sumI ((l.take j).map fun x => t * x / S)) ∧ SpS w0 i l t S j wr)
        case atStart => exact ⟨0, by omega, rfl, by simp [sumI], S0.out⟩
        case round =>
          obtain ⟨j, hjk, rfl, rfl, ss⟩ := hrel
          have HJK := hid hjk
          have SS := hid ss
          clear hjk ss S0 hmi hmu hmk
          by_cases hjn : j < i
          · have hjl : j < l.length := by rw [← HN.out]; exact hjn
            obtain ⟨q, r, o, sr, hlo⟩ := SS.out
            have SR := hid sr
            have HLO := hid hlo
            clear sr hlo
            obtain ⟨rfl, hbb⟩ := HP.out (by omega)
            have c0 := (SR.out.below.cell (p := ⟨bb, off + j * 1 + 0, none⟩) hbb).trans (HC.out j hjl 0 (by omega))
            simp [encI] at c0
            obtain ⟨x, hx⟩ : ∃ x, x = l[j] := ⟨_, rfl⟩
            rw [← hx] at c0
            have hxb := HOK.out x (by rw [hx]; exact List.getElem_mem _)
            have gj : (j : Int) < (i : Int) := by omega
            have gj0 : (0 : Int) ≤ (j : Int) := by omega
            have hS6 : S ≤ 5000000000000 := by have := HN.out; omega
            have SN := hid (show sumI ((l.take (j + 1)).map fun x => t * x / S) = sumI ((l.take j).map fun x => t * x / S) + t * x / S by rw [take_snoc hjl, List.map_append, List.map_singleton, sumI_snoc, ← hx])
            have HX := hid hx
            have qn := quota_nat (t := t.toNat) (x := x.toNat) (S := S.toNat) (by omega) (by omega) (by omega)
            have hLm := Nat.mod_lt (t.toNat * x.toNat) (show 18446744073709551616 > 0 by omega)
            have hmul := fun wx => Tryz.bits_Mul64 t.toNat x.toNat (by omega) (by omega) wx
            obtain ⟨H, hH⟩ : ∃ H, H = t.toNat * x.toNat / 18446744073709551616 := ⟨_, rfl⟩
            obtain ⟨L, hL⟩ : ∃ L, L = t.toNat * x.toNat % 18446744073709551616 := ⟨_, rfl⟩
            rw [← hH, ← hL] at qn
            rw [← hL] at hLm
            rw [← hH, ← hL, Int.toNat_of_nonneg (show 0 ≤ t by omega), Int.toNat_of_nonneg (show 0 ≤ x by omega)] at hmul
            have MU := hid hmul
            have DV := hid (show ∀ wx, Calls Tryz.prog 75 #[.int .u64 (H : Int), .int .u64 (L : Int), .int .u64 S] wx fun e w' => e = .returned (.tuple #[.int .u64 (t * x / S), .int .u64 (t * x % S)]) ∧ ∃ k, w' = wx.drewN k from fun wx => by
              have := div64_calls H L S.toNat qn.1 hLm (by omega) wx
              rw [qn.2, Int.natCast_ediv, Int.natCast_emod, Int.natCast_mul, Int.toNat_of_nonneg (show 0 ≤ t by omega), Int.toNat_of_nonneg (show 0 ≤ x by omega), Int.toNat_of_nonneg (show 0 ≤ S by omega)] at this
              exact this)
            obtain ⟨sm, hsm⟩ : ∃ sm, sm = sumI ((l.take j).map fun x => t * x / S) := ⟨_, rfl⟩
            rw [← hsm] at SN ⊢
            have hsmb : 0 ≤ sm ∧ sm ≤ 5000000000000 := by
              have := sumI_bound (l := (l.take j).map fun x => t * x / S) (fun y hy => by
                obtain ⟨x', hx', rfl⟩ := List.mem_map.1 hy
                have hxb' := HOK.out x' (List.mem_of_mem_take hx')
                have g1 : 0 ≤ t * x' / S := Int.ediv_nonneg (Int.mul_nonneg (by omega) (by omega)) (by omega)
                have g2 : t * x' / S ≤ x' := Int.ediv_le_of_le_mul (by omega) (by rw [Int.mul_comm x' S]; exact Int.mul_le_mul_of_nonneg_right (by omega) (by omega))
                omega)
              rw [List.length_map, List.length_take] at this
              omega
            have hQ0 : 0 ≤ t * x / S := Int.ediv_nonneg (Int.mul_nonneg (by omega) (by omega)) (by omega)
            have hQ1 : t * x / S ≤ x := Int.ediv_le_of_le_mul (by omega) (by rw [Int.mul_comm x S]; exact Int.mul_le_mul_of_nonneg_right (by omega) (by omega))
            have eu1 : IntKind.u64.wrap t = t := IntWalk.u64_in _ (by omega)
            have eu2 : IntKind.u64.wrap x = x := IntWalk.u64_in _ (by omega)
            have eu3 : IntKind.u64.wrap S = S := IntWalk.u64_in _ (by omega)
            obtain ⟨Q, hQe⟩ : ∃ Q, Q = t * x / S := ⟨_, rfl⟩
            obtain ⟨U, hUe⟩ : ∃ U, U = t * x % S := ⟨_, rfl⟩
            rw [← hQe] at hQ0 hQ1 SN
            rw [← hQe, ← hUe] at DV
            have ei : IntKind.i64.wrap Q = Q := IntWalk.i64_in _ (by omega)
            have HQ := hid hQe
            have HU := hid hUe
            clear hsm hx hQe hUe qn hLm hmul hH hL
            go_upto_region 16 with fail
            go_wp2_with fail
            refine (MU.out _).mono ?_
            rintro e w5 ⟨rfl, rfl⟩
            go_wp2_with fail
            refine (DV.out _).mono ?_
            rintro e w6 ⟨rfl, kk, rfl⟩
            go_upto_region 18 with fail
            have sr6 : SpR w0 i q r o (w5.drewN kk) := ⟨SR.out.out, SR.out.rst, SR.out.ord, SR.out.box, drewN_below SR.out.below kk⟩
            obtain ⟨w6, hw6⟩ : ∃ w6, w6 = w5.drewN kk := ⟨_, rfl⟩
            rw [← hw6] at sr6 ⊢
            have m1 := sr6.out.cell hjn
            have m2 := sr6.rst.cell hjn
            have m3 := sr6.ord.cell hjn
            have mb : w6.cell? ⟨w0.heap.size + 2, 0, none⟩ = some (.slice (some ⟨w0.heap.size + 1, 0, none⟩) i i) := by rw [sr6.box.cell]; rfl
            have f1 := sr6.out.froz j
            have f2 := sr6.rst.froz j
            have f3 := sr6.ord.froz j
            have l1 := sr6.out.lt
            have l2 := sr6.rst.lt
            have l3 := sr6.ord.lt
            have l4 := sr6.box.lt
            have SR6 := hid sr6
            clear sr6 hw6
            have ev : IntKind.i64.wrap (t - sm - Q) = t - sm - Q := IntWalk.i64_in _ (by omega)
            have LE := hid (show t - sumI ((l.take (j + 1)).map fun x => t * x / S) = t - sm - Q by have h1 := SN.out; have h2 := HQ.out; omega)
            go_region
            all_goals go_wp2
            all_goals (
              go_roundg (i - (j + 1))
              · refine ⟨j + 1, by omega, by go_num, by rw [LE.out], SpS.next HLO.out hjl HX.out ?_⟩
                rw [← HQ.out, ← HU.out]
                first
                  | exact (((SR6.out.setQ j Q).setR j U).setO j j)
                  | exact (((SR6.out.setQ j Q).setR j U).setO j j).drew
                  | exact (((SR6.out.setQ j Q).setO j j).setR j U)
                  | exact (((SR6.out.setQ j Q).setO j j).setR j U).drew
                  | exact (((SR6.out.setR j U).setQ j Q).setO j j)
                  | exact (((SR6.out.setR j U).setQ j Q).setO j j).drew
                  | exact (((SR6.out.setR j U).setO j j).setQ j Q)
                  | exact (((SR6.out.setR j U).setO j j).setQ j Q).drew
                  | exact (((SR6.out.setO j j).setQ j Q).setR j U)
                  | exact (((SR6.out.setO j j).setQ j Q).setR j U).drew
                  | exact (((SR6.out.setO j j).setR j U).setQ j Q)
                  | exact (((SR6.out.setO j j).setR j U).setQ j Q).drew
                  | exact (((SR6.out.drew.setQ j Q).setR j U).setO j j)
                  | exact (((SR6.out.drew.setQ j Q).setR j U).setO j j).drew
                  | exact (((SR6.out.drew.setQ j Q).setO j j).setR j U)
                  | exact (((SR6.out.drew.setQ j Q).setO j j).setR j U).drew
                  | exact (((SR6.out.drew.setR j U).setQ j Q).setO j j)
                  | exact (((SR6.out.drew.setR j U).setQ j Q).setO j j).drew
                  | exact (((SR6.out.drew.setR j U).setO j j).setQ j Q)
                  | exact (((SR6.out.drew.setR j U).setO j j).setQ j Q).drew
                  | exact (((SR6.out.drew.setO j j).setQ j Q).setR j U)
                  | exact (((SR6.out.drew.setO j j).setQ j Q).setR j U).drew
                  | exact (((SR6.out.drew.setO j j).setR j U).setQ j Q)
                  | exact (((SR6.out.drew.setO j j).setR j U).setQ j Q).drew
              · have := HJK.out; omega)
          · have hj' : j = i := by have := HJK.out; omega
            subst hj'
            obtain ⟨q, r, o, sr, hlo⟩ := SS.out
            have hnl := HN.out
            have ro : Row wr (w0.heap.size + 3) j (fun k => (k : Int)) := sr.ord.congr fun k hk => (hlo k (by omega) hk).2.2.symm
            have CM := cmp_split sr.rst sr.box (g := w0.heap.size + 3) (by omega) (by omega) (by omega)
            have ST := hid (sortStable_calls ro (by omega) j CM (swoR r) (fun k hk => ⟨by omega, by omega⟩) (fun a b h1 h2 => by omega))
            have SR := hid sr
            have HLO := hid hlo
            have g1 : decide ((j : Int) < (j : Int)) = false := by simp
            clear hnl ro CM sr hlo
            go_wp2_with fail
            refine ST.out.mono ?_
            rintro e w7 ⟨rfl, f7, hr7, hg7, hk7⟩
            have hlt : l.take j = l := by rw [HN.out, List.take_length]
            have OF := hid (order_facts hg7)
            have HG := hid hg7
            have QB := hid (show ∀ m, m < j → 0 ≤ q m ∧ q m ≤ 1000000000 from fun m hm => by
              have hml : m < l.length := by rw [← HN.out]; exact hm
              rw [(HLO.out m hml hm).1]
              exact quota_b (by omega) (HOK.out _ (List.getElem_mem hml)) (by omega))
            have LB := hid (left_bound (t := t) (l := l) (by rw [← HS.out]; omega))
            have rq := SR.out.out.kept hk7 (by omega)
            have B7 := hid (SR.out.below.trans (hk7.below SR.out.below.size (fun k hk => by omega)))
            have R7 := hid hr7
            have RQ := hid rq
            clear hr7 hg7 hk7 rq ST
            rw [hlt]
            obtain ⟨lf, hlf⟩ : ∃ lf : Nat, t - sumI (l.map fun x => t * x / S) = lf := ⟨(t - sumI (l.map fun x => t * x / S)).toNat, by have := LB.out.1; rw [← HS.out] at this; omega⟩
            rw [hlf]
            have hlj : lf ≤ j := by have := LB.out.2; rw [← HS.out, hlf] at this; have := HN.out; omega
            have HLF := hid hlf
            have hlj0 : (0 : Int) ≤ (lf : Int) := by omega
            have hlj1 : (lf : Int) ≤ (j : Int) := by omega
            clear hlf hlt
            go_upto_region 23 with fail
            go_loopg [92] lf (fun k s92 wx => ∃ a : Nat, a + k = lf ∧ s92 = .int .i64 a ∧ RowL wx w0.heap.size j (plusOne f7 q a) ∧ Row wx (w0.heap.size + 3) j f7 ∧ Below w0.heap.size w0 wx)
            case atStart => exact ⟨0, by omega, rfl, by
              have : plusOne f7 q 0 = q := funext fun m => by unfold plusOne; simp
              rw [this]; exact RQ.out, R7.out, B7.out⟩
            case round =>
              obtain ⟨a, hak, rfl, hra, hro, hba⟩ := hrel
              have HAK := hid hak
              have RA := hid hra
              have RO := hid hro
              have BA := hid hba
              clear hak hra hro hba
              by_cases hal : a < lf
              · have haj : a < j := by omega
                obtain ⟨m, hm⟩ : ∃ m : Nat, f7 a = m := ⟨(f7 a).toNat, by have := OF.out.1 a haj; omega⟩
                have hmj : m < j := by have := OF.out.1 a haj; omega
                have c1 := RO.out.cell haj
                rw [hm] at c1
                have c2 := RA.out.cell hmj
                have f2 := RA.out.froz m
                have l2 := RA.out.lt
                have l1 := RO.out.lt
                have hub : -1000 ≤ plusOne f7 q a m ∧ plusOne f7 q a m ≤ 9000000000000000 := plus_bound (QB.out m hmj)
                have HM := hid hm
                obtain ⟨u, hu⟩ : ∃ u, u = plusOne f7 q a m := ⟨_, rfl⟩
                rw [← hu] at c2 hub
                have HU := hid hu
                have eu : IntKind.i64.wrap (u + 1) = u + 1 := IntWalk.i64_in _ (by omega)
                have ga : (a : Int) < (lf : Int) := by omega
                have ga0 : (0 : Int) ≤ (a : Int) := by omega
                have gm : (m : Int) < (j : Int) := by omega
                have gm0 : (0 : Int) ≤ (m : Int) := by omega
                clear hu hm
                go_wp2
                go_roundg (lf - (a + 1))
                · refine ⟨a + 1, by omega, by go_num, ?_, RO.out.kept (set_kept _ _ _ _) (by omega), BA.out.trans ((set_kept _ _ _ _).below BA.out.size (fun k hk => by omega))⟩
                  have := RA.out.set m (u + 1)
                  have e : plusOne f7 q (a + 1) = fun k => if k = m then u + 1 else plusOne f7 q a k := funext fun k => by
                    rw [plus_step OF.out.2 haj k, HM.out]
                    by_cases e : k = m
                    · subst e; rw [if_pos rfl, if_pos rfl, HU.out]
                    · rw [if_neg (by omega), if_neg e]
                  rw [e]
                  exact this
                · have := HAK.out; omega
              · have hal' : a = lf := by have := HAK.out; omega
                subst hal'
                have g1 : decide ((a : Int) < (a : Int)) = false := by simp
                have FIN := hid (show R (.returned (.slice (some ⟨w0.heap.size, 0, none⟩) j j)) wr by
                  rw [HR.out]
                  refine ⟨_, rfl, ?_, BA.out⟩
                  refine RA.out.own (by rw [splitL_len]; exact HN.out.symm) (fun k hk => ?_) (Nat.le_refl _) (by unfold maxLen; omega)
                  have hlo := HLO.out
                  have hs := HS.out
                  subst hs
                  exact split_end HN.out hS0 (fun k hk hkj => ⟨(hlo k hk hkj).1, (hlo k hk hkj).2.1⟩) HG.out HLF.out hlj k hk)
                go_wp2
                first | exact FIN.out | (go_ret; exact FIN.out)
end Go.Proofs.YtepldjidkomclaaGreat.Ca
namespace Go.Proofs.YtepldjidkomclaaGreat.Ca
set_option linter.unusedSimpArgs false
set_option linter.unusedVariables false
open Go.RowKit
attribute [local go_sem] Oper.semAt_some
attribute [local go_sem ↓] Go.wp_at_zero Go.wp_at_succ
def wOk (l : List Int) : Prop := ∀ x ∈ l, 0 ≤ x ∧ x ≤ 1000000000
instance (l : List Int) : Decidable (wOk l) := by unfold wOk; infer_instance
def splF (t : Int) (l : List Int) : List Int × Int := if 4096 < l.length then ([], 2) else if wOk l then (if 0 ≤ t ∧ t ≤ sumI l then (splitL t l, 0) else ([], 1)) else ([], 1)
def SplP (B : Nat) (r : List Int × Int) (e : Ending) (w' : World) : Prop := ∃ vf, e = .returned (.tuple #[vf, .int .i64 r.2]) ∧ RowI B w' vf r.1
theorem inC_of {x lo hi : Int} : inC x lo hi = decide (lo ≤ x ∧ x ≤ hi) := by unfold inC; by_cases h1 : lo ≤ x <;> by_cases h2 : x ≤ hi <;> simp [h1, h2]
set_option maxRecDepth 100000 in
set_option maxHeartbeats 4000000 in
theorem splitf_calls {w : World} {v : Value} {l : List Int} (hv : ReadsE encI 1 w v l) (t : Int) :
    Calls Tryz.prog 13 #[.int .i64 t, v] w fun e w' => SplP w.heap.size (splF t l) e w' ∧ Below w.heap.size w w' := by
  obtain ⟨R, hR⟩ : ∃ R : Ending → World → Prop, R = fun e w' => SplP w.heap.size (splF t l) e w' ∧ Below w.heap.size w w' := ⟨_, rfl⟩
  rw [← hR]
  have FM := hid (show ∀ (r : List Int × Int) (vf : Value) w', splF t l = r → RowI w.heap.size w' vf r.1 → Below w.heap.size w w' → R (.returned (.tuple #[vf, .int .i64 r.2])) w' from fun r vf w' h1 h2 h3 => by rw [hR, h1]; exact ⟨⟨vf, rfl, h2⟩, h3⟩)
  clear hR
  have HV := hid hv
  have IN := hid (fun x lo hi wx => in_calls x lo hi wx)
  obtain ⟨hm, p, cap, bb, off, rfl, hp, hc⟩ := hv
  unfold splF at FM
  obtain ⟨n, hn⟩ : ∃ n, n = l.length := ⟨_, rfl⟩
  rw [← hn] at hp hm FM HV ⊢
  have HN := hid hn
  have HP := hid hp
  have HC := hid hc
  have hn0 : (0 : Int) ≤ (n : Int) := by omega
  by_cases hbig : 4096 < n
  · rw [if_pos hbig] at FM
    have g1 : (4096 : Int) < (n : Int) := by omega
    have FN := hid (FM.out _ (.slice none 0 0) w rfl (OwnE.nil _ _) (Below.refl _ _))
    clear hn hp hc hbig FM
    go_enter Tryz.func13, Tryz.ntmps13
    go_wp2
    first | exact FN.out | exact bodyPost_ret (by simp [results, Tryz.results13, go_sem]) rfl FN.out
  · rw [if_neg hbig] at FM
    have g1 : ¬ (4096 : Int) < (n : Int) := by omega
    have BAD := hid (show ∀ i (hi : i < l.length), inC l[i] 0 1000000000 = false → R (.returned (.tuple #[.slice none 0 0, .int .i64 1])) w from fun i hi h => by
      refine FM.out _ _ w (if_neg fun q => ?_) (OwnE.nil _ _) (Below.refl _ _)
      have := q _ (List.getElem_mem hi)
      rw [inC_of] at h
      exact of_decide_eq_false h this)
    have GOOD := hid (show wOk l → ∀ (r : List Int × Int) (vf : Value) w', (if 0 ≤ t ∧ t ≤ sumI l then (splitL t l, 0) else ([], 1)) = r → RowI w.heap.size w' vf r.1 → Below w.heap.size w w' → R (.returned (.tuple #[vf, .int .i64 r.2])) w' from fun q r vf w' h1 h2 h3 => FM.out r vf w' (by rw [if_pos q]; exact h1) h2 h3)
    clear hn hp hc hbig FM
    go_enter Tryz.func13, Tryz.ntmps13
    go_upto_region 5 with fail
    go_loopg [14, 6] n (fun k s14 s6 wr => ∃ i : Nat, i + k = n ∧ s14 = .int .i64 i ∧ s6 = .int .i64 (sumI (l.take i)) ∧ wOk (l.take i) ∧ wr = w)
    case atStart => exact ⟨0, by omega, rfl, rfl, by intro x hx; simp at hx, rfl⟩
    case round =>
      obtain ⟨i, hik, rfl, rfl, hok, rfl⟩ := hrel
      have HIK := hid hik
      have HOK := hid hok
      have hsb := sumI_bound hok
      rw [List.length_take] at hsb
      clear hik hok
      by_cases hin : i < n
      · have hil : i < l.length := by rw [← HN.out]; exact hin
        obtain ⟨rfl, hbb⟩ := HP.out (by omega)
        have c0 := HC.out i hil 0 (by omega)
        simp [encI] at c0
        obtain ⟨x, hx⟩ : ∃ x, x = l[i] := ⟨_, rfl⟩
        rw [← hx] at c0
        have gi : (i : Int) < (n : Int) := by omega
        have gi0 : (0 : Int) ≤ (i : Int) := by omega
        have BX := hid (BAD.out i hil)
        rw [← hx] at BX
        have SN := hid (show sumI (l.take (i + 1)) = sumI (l.take i) + x by rw [take_snoc hil, sumI_snoc, ← hx])
        have ON := hid (show inC x 0 1000000000 = true → wOk (l.take (i + 1)) from fun h y hy => by
          rw [take_snoc hil, ← hx] at hy
          rcases List.mem_append.1 hy with q | q
          · exact HOK.out y q
          · rw [List.mem_singleton.1 q]
            rw [inC_of] at h
            exact of_decide_eq_true h)
        have IX := hid (fun wx => IN.out x 0 1000000000 wx)
        obtain ⟨a, ha⟩ : ∃ a, a = sumI (l.take i) := ⟨_, rfl⟩
        rw [← ha] at SN hsb ⊢
        obtain ⟨b, hb⟩ : ∃ b, b = inC x 0 1000000000 := ⟨_, rfl⟩
        rw [← hb] at IX BX ON
        have HB := hid hb
        clear hx ha hb
        cases b with
        | true =>
          have hxb : 0 ≤ x ∧ x ≤ 1000000000 := by have := HB.out; rw [inC_of] at this; exact of_decide_eq_true this.symm
          have ew : IntKind.i64.wrap (a + x) = a + x := IntWalk.i64_in _ (by omega)
          have O2 := hid (ON.out rfl)
          go_wp2_with (go_at_call 28; refine (IX.out _).mono ?_; rintro e w3 ⟨rfl, hw3⟩; subst hw3)
          go_roundg (n - (i + 1))
          · exact ⟨i + 1, by omega, by go_num, by rw [SN.out], O2.out, rfl⟩
          · have := HIK.out; omega
        | false =>
          have FN := hid (BX.out rfl)
          go_wp2_with (go_at_call 28; refine (IX.out _).mono ?_; rintro e w3 ⟨rfl, hw3⟩; subst hw3)
          first | exact FN.out | exact bodyPost_ret (by simp [results, Tryz.results13, go_sem]) rfl FN.out
      · have hin' : i = n := by have := HIK.out; omega
        subst hin'
        have g2 : decide ((i : Int) < (i : Int)) = false := by simp
        have hlt : l.take i = l := by rw [HN.out, List.take_length]
        have hok := HOK.out
        rw [hlt] at hok hsb ⊢
        have GD := hid (GOOD.out hok)
        have IX := hid (fun wx => IN.out t 0 (sumI l) wx)
        rw [inC_of] at IX
        have SP := hid (fun h => split_calls HV.out (by rw [← HN.out]; omega) hok (t := t) h)
        obtain ⟨S, hS⟩ : ∃ S, S = sumI l := ⟨_, rfl⟩
        rw [← hS] at GD IX SP hsb ⊢
        clear hlt hS hok
        by_cases ht : 0 ≤ t ∧ t ≤ S
        · rw [decide_eq_true ht] at IX
          rw [if_pos ht] at GD
          have S2 := hid (SP.out ht)
          clear ht SP
          go_wp2_with (go_at_call 28; refine (IX.out _).mono ?_; rintro e w3 ⟨rfl, hw3⟩; subst hw3)
          refine S2.out.mono ?_
          rintro e w5 ⟨v5, rfl, hr5, hb5⟩
          have FN := hid (GD.out _ v5 w5 rfl hr5 hb5)
          clear hr5 hb5
          go_wp2
          first | exact FN.out | exact bodyPost_ret (by simp [results, Tryz.results13, go_sem]) rfl FN.out
        · rw [decide_eq_false ht] at IX
          rw [if_neg ht] at GD
          have FN := hid (GD.out _ (.slice none 0 0) wr rfl (OwnE.nil _ _) (Below.refl _ _))
          clear ht SP
          go_wp2_with (go_at_call 28; refine (IX.out _).mono ?_; rintro e w3 ⟨rfl, hw3⟩; subst hw3)
          first | exact FN.out | exact bodyPost_ret (by simp [results, Tryz.results13, go_sem]) rfl FN.out
end Go.Proofs.YtepldjidkomclaaGreat.Ca
namespace Go.Proofs.YtepldjidkomclaaGreat.Ca
set_option linter.unusedSimpArgs false
set_option linter.unusedVariables false
open Go.RowKit
attribute [local go_sem] Oper.semAt_some
attribute [local go_sem ↓] Go.wp_at_zero Go.wp_at_succ
def Zn.val (z : Zn) : Value := .agg #[.int .i64 z.f, .int .i64 z.t, .int .i64 z.d, .int .i64 z.s]
def Zn.ok (z : Zn) : Prop := 1 ≤ z.f ∧ z.f ≤ z.t ∧ z.t ≤ 1000000 ∧ 0 ≤ z.d ∧ z.d ≤ 5000000000000 ∧ 0 ≤ z.s ∧ z.s ≤ 5000000000000
def Zn.vol (z : Zn) : Int := min z.d z.s
def Zn.sur (z : Zn) : Int := z.d - z.s
def siz (x : Int) : Int := max x (-x)
def Zn.pk (z : Zn) (way ref : Int) : Int := if way = 1 then z.t else if way = -1 then z.f else min (max ref z.f) z.t
theorem volume_calls (z : Zn) (w : World) : Calls Tryz.prog 64 #[z.val] w fun e w' => e = .returned (.int .i64 z.vol) ∧ Below w.heap.size w w' := by
  unfold Zn.val Zn.vol
  go_enter Tryz.func64, Tryz.ntmps64
  go_wp2
  go_ret
  exact ⟨by simp, Below.alloc (Below.refl _ _) (Nat.le_refl _) _⟩
theorem surplus_calls (z : Zn) (hz : z.ok) (w : World) : Calls Tryz.prog 67 #[z.val] w fun e w' => e = .returned (.int .i64 z.sur) ∧ Below w.heap.size w w' := by
  unfold Zn.val Zn.sur
  obtain ⟨h1, h2, h3, h4, h5, h6, h7⟩ := hz
  have e1 : IntKind.i64.wrap (z.d - z.s) = z.d - z.s := IntWalk.i64_in _ (by omega)
  go_enter Tryz.func67, Tryz.ntmps67
  go_wp2
  go_ret
  exact ⟨by simp, Below.alloc (Below.refl _ _) (Nat.le_refl _) _⟩
theorem sized_calls (x : Int) (hx : -9000000000000000000 ≤ x ∧ x ≤ 9000000000000000000) (w : World) : Calls Tryz.prog 66 #[.int .i64 x] w fun e w' => e = .returned (.int .i64 (siz x)) ∧ w' = w := by
  unfold siz
  have e1 : IntKind.i64.wrap (-x) = -x := IntWalk.i64_in _ (by omega)
  go_enter Tryz.func66, Tryz.ntmps66
  go_wp2
  go_ret
  exact ⟨by simp, rfl⟩
theorem pick_calls (z : Zn) (way ref : Int) (w : World) : Calls Tryz.prog 70 #[z.val, .int .i64 way, .int .i64 ref] w fun e w' => e = .returned (.int .i64 (z.pk way ref)) ∧ Below w.heap.size w w' := by
  unfold Zn.val Zn.pk
  by_cases h1 : way = 1
  · subst h1
    go_enter Tryz.func70, Tryz.ntmps70
    go_wp2
    go_ret
    exact ⟨by simp, Below.alloc (Below.refl _ _) (Nat.le_refl _) _⟩
  · have e1 : (way == 1) = false := by simpa using h1
    rw [if_neg h1]
    by_cases h2 : way = -1
    · subst h2
      go_enter Tryz.func70, Tryz.ntmps70
      go_wp2
      go_ret
      exact ⟨by simp, Below.alloc (Below.refl _ _) (Nat.le_refl _) _⟩
    · have e2 : (way == -1) = false := by simpa using h2
      rw [if_neg h2]
      clear h1 h2
      go_enter Tryz.func70, Tryz.ntmps70
      go_wp2
      go_ret
      exact ⟨by simp, Below.alloc (Below.refl _ _) (Nat.le_refl _) _⟩
end Go.Proofs.YtepldjidkomclaaGreat.Ca
namespace Go.Proofs.YtepldjidkomclaaGreat.Ca
set_option linter.unusedSimpArgs false
set_option linter.unusedVariables false
open Go.RowKit
def RowS (w : World) (g cap n : Nat) (f : Nat → Zn) : Prop := ∃ cs, Cells w g cs 132 ∧ cs.size = cap * 4 ∧ n ≤ cap ∧ cap ≤ maxLen ∧ ∀ k, k < n → ∀ c, c < 4 → cs[k * 4 + c]? = (encZn (f k))[c]?
theorem RowS.cell {w : World} {g cap n : Nat} {f : Nat → Zn} (h : RowS w g cap n f) {i : Nat} (hi : i < n) : w.cell? ⟨g, i * 4, none⟩ = some (.int .i64 (f i).f) ∧ w.cell? ⟨g, i * 4 + 1, none⟩ = some (.int .i64 (f i).t) ∧ w.cell? ⟨g, i * 4 + 2, none⟩ = some (.int .i64 (f i).d) ∧ w.cell? ⟨g, i * 4 + 3, none⟩ = some (.int .i64 (f i).s) := by
  obtain ⟨cs, hc, _, _, _, hz⟩ := h
  refine ⟨?_, ?_, ?_, ?_⟩
  · rw [hc.cell]; exact hz i hi 0 (by omega)
  · rw [hc.cell]; exact hz i hi 1 (by omega)
  · rw [hc.cell]; exact hz i hi 2 (by omega)
  · rw [hc.cell]; exact hz i hi 3 (by omega)
theorem RowS.froz {w : World} {g cap n : Nat} {f : Nat → Zn} (h : RowS w g cap n f) (i : Nat) : w.frozen? ⟨g, i, none⟩ = false := by
  obtain ⟨cs, hc, _⟩ := h
  exact hc.frozen i
theorem RowS.lt {w : World} {g cap n : Nat} {f : Nat → Zn} (h : RowS w g cap n f) : g < w.heap.size := by
  obtain ⟨cs, hc, _⟩ := h
  exact hc.lt
theorem RowS.kept {X : Nat → Prop} {w w' : World} {g cap n : Nat} {f : Nat → Zn} (h : RowS w g cap n f) (hk : Kept X w w') (hx : ¬ X g) : RowS w' g cap n f := by
  obtain ⟨cs, hc, hz⟩ := h
  exact ⟨cs, hc.kept hk hx, hz⟩
theorem RowS.congr {w : World} {g cap n : Nat} {f f' : Nat → Zn} (h : RowS w g cap n f) (e : ∀ i, i < n → f' i = f i) : RowS w g cap n f' := by
  obtain ⟨cs, hc, h1, h2, h3, hz⟩ := h
  exact ⟨cs, hc, h1, h2, h3, fun i hi => by rw [e i hi]; exact hz i hi⟩
theorem RowS.set {w : World} {g cap n : Nat} {f : Nat → Zn} (h : RowS w g cap n f) {i : Nat} (hi : i < n) (z : Zn) :
    RowS ((((w.setCell ⟨g, i * 4, none⟩ (.int .i64 z.f)).setCell ⟨g, i * 4 + 1, none⟩ (.int .i64 z.t)).setCell ⟨g, i * 4 + 2, none⟩ (.int .i64 z.d)).setCell ⟨g, i * 4 + 3, none⟩ (.int .i64 z.s)) g cap n (fun k => if k = i then z else f k) := by
  obtain ⟨cs, hc, h1, h2, h3, hz⟩ := h
  refine ⟨_, (((hc.set _ _).set _ _).set _ _).set _ _, by simp [h1], h2, h3, fun k hk c hc4 => ?_⟩
  have hsz : i * 4 + 3 < cs.size := by omega
  have hsk : k * 4 + 3 < cs.size := by omega
  have hz' := hz k hk c hc4
  by_cases e : k = i
  · subst e
    simp only [if_true]
    rcases (show c = 0 ∨ c = 1 ∨ c = 2 ∨ c = 3 by omega) with rfl | rfl | rfl | rfl <;> simp [encZn, Array.getElem?_setIfInBounds, hsz, show k * 4 < cs.size by omega, show k * 4 + 1 < cs.size by omega, show k * 4 + 2 < cs.size by omega]
  · simp only [if_neg e]
    rw [Array.getElem?_setIfInBounds_ne (by omega), Array.getElem?_setIfInBounds_ne (by omega), Array.getElem?_setIfInBounds_ne (by omega), Array.getElem?_setIfInBounds_ne (by omega)]
    exact hz'
theorem RowS.of {B : Nat} {w : World} {g n cap : Nat} {l : List Zn} (h : OwnE encZn 4 132 B w (.slice (some ⟨g, 0, none⟩) n cap) l) : RowS w g cap l.length (fun k => l.getD k ⟨0, 0, 0, 0⟩) := by
  obtain ⟨hn, hg, hB, hcell⟩ := OwnE.cellsAt encZn_len h
  subst hn
  rcases h.2 with ⟨h1, h2⟩ | ⟨g', cap', cur, hv, hb, hgc, h3, h4, h5, h6⟩
  · cases h1
  · cases hv
    refine ⟨cur, hgc, h5, h3, h4, fun k hk c hc => ?_⟩
    have := hcell k hk c hc
    rw [(show Cells w g cur 132 from hgc).cell] at this
    rw [this]
    simp [hk]
theorem RowS.own {w : World} {g cap n : Nat} {f : Nat → Zn} (h : RowS w g cap n f) {l : List Zn} (hl : l.length ≤ n) (he : ∀ (k : Nat) (hk : k < l.length), f k = l[k]) {B : Nat} (hB : B ≤ g) : OwnE encZn 4 132 B w (.slice (some ⟨g, 0, none⟩) l.length cap) l := by
  obtain ⟨cs, hc, h1, h2, h3, hz⟩ := h
  have hfl := flatE_length encZn_len l
  refine ⟨hfl, .inr ⟨g, cap, cs, rfl, hB, hc, by omega, h3, h1, ?_⟩⟩
  apply List.ext_getElem?
  intro j
  rw [List.getElem?_take, Array.getElem?_toList]
  by_cases hj : j < l.length * 4
  · rw [if_pos hj]
    have h4 := hz (j / 4) (by omega) (j % 4) (by omega)
    rw [show j / 4 * 4 + j % 4 = j by omega, he (j / 4) (by omega)] at h4
    have h5 := flatE_get encZn_len l (j / 4) (by omega) (j % 4) (by omega)
    rw [show j / 4 * 4 + j % 4 = j by omega] at h5
    rw [h4, h5]
  · rw [if_neg hj, List.getElem?_eq_none (by rw [hfl]; omega)]
theorem cells_setCells {w : World} {g : Nat} {ty : TypeId} (vs : List Value) : ∀ (o : Nat) (w : World) (cs : Array Value), Cells w g cs ty → ∃ cs', Cells (w.setCells g o vs) g cs' ty ∧ cs'.size = cs.size ∧ (∀ j, j < o → cs'[j]? = cs[j]?) ∧ Kept (fun k => k = g) w (w.setCells g o vs) := by
  induction vs with
  | nil => exact fun o w cs h => ⟨cs, h, rfl, fun _ _ => rfl, Kept.refl _ _⟩
  | cons v vs ih =>
    intro o w cs h
    obtain ⟨cs', h1, h2, h3, h4⟩ := ih (o + 1) (w.setCell ⟨g, o, none⟩ v) _ (h.set o v)
    refine ⟨cs', h1, by rw [h2]; simp, fun j hj => ?_, ((Kept.refl (fun k => k = g) w).set (C := g) rfl o v).trans h4 (fun _ _ e => e)⟩
    rw [h3 j (by omega), Array.getElem?_setIfInBounds_ne (by omega)]
theorem undZs : Tryz.prog.underlying 129 = some (.slice 132) := by kernel_rfl
theorem zeroZs (w : World) : (zeroValue 132).run Tryz.prog w = .ok (.agg #[.int .i64 0, .int .i64 0, .int .i64 0, .int .i64 0]) w := by kernel_rfl
theorem clear_zones (w : World) (b o n c : Nat) (hn : 0 < n) (hc : ∀ j, j < n * 4 → (w.cell? ⟨b, o + j, none⟩).isSome = true) (hf : ∀ j, j < n * 4 → w.frozen? ⟨b, o + j, none⟩ = false) (ty : TypeId) :
    (Builtin.clear_ #[129] ty #[.slice (some ⟨b, o, none⟩) n c]).run Tryz.prog w = .ok (.tuple #[]) (w.setCells b o (List.replicate (n * 4) (.int .i64 0))) := by
  have hzc : (Builtin.zeroCells (Value.agg #[.int .i64 0, .int .i64 0, .int .i64 0, .int .i64 0]).cells n).toList = List.replicate (n * 4) (Value.int .i64 0) := by
    simp only [Builtin.zeroCells]
    apply List.ext_getElem
    · simp [Value.cells]
    · intro i h1 h2
      have : i % 4 < 4 := Nat.mod_lt _ (by omega)
      simp [Value.cells]
      rcases (show i % 4 = 0 ∨ i % 4 = 1 ∨ i % 4 = 2 ∨ i % 4 = 3 by omega) with h | h | h | h <;> simp [h]
  have hst := run_storeCells_cells (P := Tryz.prog) b o (List.replicate (n * 4) (Value.int .i64 0)) 0 w (by simpa using hc) (by simpa using hf) (by intro v hv'; rw [List.eq_of_mem_replicate hv']; rfl)
  simp only [Nat.add_zero] at hst
  obtain ⟨m, rfl⟩ : ∃ m, n = m + 1 := ⟨n - 1, by omega⟩
  simp [Builtin.clear_, run_underlying undZs, zeroZs, hzc, hst]
end Go.Proofs.YtepldjidkomclaaGreat.Ca
namespace Go.Proofs.YtepldjidkomclaaGreat.Ca
set_option linter.unusedSimpArgs false
set_option linter.unusedVariables false
open Go.RowKit
attribute [local go_sem] Oper.semAt_some
attribute [local go_sem ↓] Go.wp_at_zero Go.wp_at_succ
structure FnC {ρ : Type} (en : ρ → Value) (fid : Nat) (cb : Array Value) (F : Zn → ρ) (X Y : Nat → Prop) (I : World → Prop) (dom : Zn → Prop) : Prop where
  eg : ∀ args w, (callFunc fid args).run Tryz.prog w = .ok (.enter fid args) w
  call : ∀ w z, I w → dom z → Calls Tryz.prog fid (#[.agg #[.int .i64 z.f, .int .i64 z.t, .int .i64 z.d, .int .i64 z.s]] ++ cb) w fun e w' => e = .returned (en (F z)) ∧ I w' ∧ Kept X w w'
  stay : ∀ w w', I w → Kept Y w w' → I w'
  apart : ∀ k, X k → ¬ Y k
def IdxP (n : Nat) (f : Nat → Zn) (P : Zn → Bool) (X : Nat → Prop) (I : World → Prop) (w : World) (e : Ending) (w' : World) : Prop :=
  I w' ∧ Kept X w w' ∧ ((∃ i : Nat, i < n ∧ P (f i) = true ∧ (∀ k, k < i → P (f k) = false) ∧ e = .returned (.int .i64 i)) ∨ ((∀ k, k < n → P (f k) = false) ∧ e = .returned (.int .i64 (-1))))
theorem wpList_clear_run {P : Program} {w : World} {ops : Array Oper} {rest : List Oper} {o : Oper} {a : Act} {Q : Exit → Act → World → Prop} (hgd : o.guard = none) (s : Operand) (t : TypeId)
    (ho : o.op = .call { callee := .builtin .clear, args := #[s], argTypes := #[t] }) (sv : Value) (w' : World) (hs : a.eval s = sv) (hrun : (Builtin.clear_ #[t] o.type #[sv]).run P w = .ok (.tuple #[]) w') (h : wpList P ops Q rest (a.put o.dst (.tuple #[])) w') :
    wpList P ops Q (o :: rest) a w := by
  refine wpList_plain hgd fun K hK => ?_
  unfold Oper.wp
  simp [execOp, ho, resolve, invoke, builtin, hs, hrun, Result.andThen]
  exact hK _ _ h
set_option maxRecDepth 100000 in
set_option maxHeartbeats 4000000 in
theorem idx_calls {w : World} {g cap n : Nat} {f : Nat → Zn} (h : RowS w g cap n f) (hn : n ≤ 5000) {fid : Nat} {cb : Array Value} {P : Zn → Bool} {X Y : Nat → Prop} {I : World → Prop} {dom : Zn → Prop} (hf : FnC Value.bool fid cb P X Y I dom) (hI : I w) (hd : ∀ k, k < n → dom (f k)) (hg : Y g) :
    Calls Tryz.prog 111 #[.slice (some ⟨g, 0, none⟩) n cap, .func (.func fid) #[] cb] w (IdxP n f P X I w) := by
  obtain ⟨R, hR⟩ : ∃ R, R = IdxP n f P X I w := ⟨_, rfl⟩
  rw [← hR]
  have HR := hid hR
  have H := hid h
  have HF := hid hf
  have HI := hid hI
  have HD := hid hd
  have eg := hf.eg
  have hxg : ¬ X g := fun hx => hf.apart g hx hg
  clear hR h hf hI hd
  go_enter Tryz.func111, Tryz.ntmps111
  go_upto_region 2 with fail
  go_loopg [8] n (fun k s8 wr => ∃ i : Nat, i + k = n ∧ s8 = .int .i64 i ∧ (∀ k, k < i → P (f k) = false) ∧ I wr ∧ Kept X w wr)
  case atStart => exact ⟨0, by omega, rfl, fun k hk => by omega, HI.out, Kept.refl _ _⟩
  case round =>
    obtain ⟨i, hik, rfl, hno, hi, hk⟩ := hrel
    have HIK := hid hik
    have HNO := hid hno
    have HI2 := hid hi
    have HK := hid hk
    clear hik hno hi hk
    by_cases hin : i < n
    · have rw2 := H.out.kept HK.out hxg
      obtain ⟨c0, c1, c2, c3⟩ := rw2.cell hin
      have hl := rw2.lt
      have gi : (i : Int) < (n : Int) := by omega
      have gi4 : (0 : Int) ≤ (i : Int) := by omega
      obtain ⟨z, hz⟩ : ∃ z, z = f i := ⟨_, rfl⟩
      rw [← hz] at c0 c1 c2 c3
      have CL := hid (HF.out.call wr z HI2.out (by rw [hz]; exact HD.out i hin))
      have HZ := hid hz
      obtain ⟨b, hb⟩ : ∃ b, b = P z := ⟨_, rfl⟩
      rw [← hb] at CL
      have HB := hid hb
      clear hz hb rw2
      go_wp2_with fail
      refine CL.out.mono ?_
      rintro e w2 ⟨rfl, hi2, hk2⟩
      have I3 := hid hi2
      have K3 := hid (HK.out.trans hk2 (fun _ _ e => e))
      clear hi2 hk2
      cases b with
      | true =>
        have FIN := hid (show R (.returned (.int .i64 i)) w2 by rw [HR.out]; exact ⟨I3.out, K3.out, .inl ⟨i, hin, by rw [← HZ.out]; exact HB.out.symm, HNO.out, rfl⟩⟩)
        go_wp2
        first | exact FIN.out | (go_ret; exact FIN.out)
      | false =>
        have NN := hid (show ∀ k, k < i + 1 → P (f k) = false from fun k hk => by
          rcases Nat.lt_or_ge k i with q | q
          · exact HNO.out k q
          · obtain rfl : k = i := by omega
            rw [← HZ.out]; exact HB.out.symm)
        go_wp2
        go_roundg (n - (i + 1))
        · exact ⟨i + 1, by omega, by go_num, NN.out, I3.out, K3.out⟩
        · have := HIK.out; omega
    · have hin' : i = n := by have := HIK.out; omega
      subst hin'
      have g1 : decide ((i : Int) < (i : Int)) = false := by simp
      have FIN := hid (show R (.returned (.int .i64 (-1))) wr by rw [HR.out]; exact ⟨HI2.out, HK.out, .inr ⟨HNO.out, rfl⟩⟩)
      go_wp2
      first | exact FIN.out | (go_ret; exact FIN.out)
end Go.Proofs.YtepldjidkomclaaGreat.Ca
