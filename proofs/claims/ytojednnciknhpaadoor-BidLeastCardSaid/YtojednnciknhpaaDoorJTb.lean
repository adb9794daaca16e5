/- Tables of totals in memory: rows of 1024 cells each. bid.tables. bid.without, given. bid.best. bid.solved (under way). bid.Solve, Without, Revenue. The law's small functions: small, ints, longs, awake. -/
import Derived.Deep.MidRow
import Derived.Deep.Upon
import Derived.BigRegion
import Derived.Test.YtojednnciknhpaaDoorJRp
import Derived.Test.YtojednnciknhpaaDoorJMem
import Derived.Test.YtojednnciknhpaaDoorJBm
namespace Go.Proofs.YtojednnciknhpaaDoor
set_option linter.unusedSimpArgs false
set_option linter.unusedVariables false
open Go.RowKit
theorem undT : Tryd.prog.underlying 153 = some (.slice 152) := by kernel_rfl
theorem sizeT : (Tryd.prog.info? 152).map (·.size) = some 1024 := by kernel_rfl
theorem infoT : (Tryd.prog.info? 152).map (fun i => (i.zero, i.size, i.bytes)) = some (some (.agg (Array.replicate 1024 (.int .i64 0))), 1024, 8192) := by kernel_rfl
/-- A block of M tables. -/
structure Tb (w : World) (gt M : Nat) (T : Nat → Nat → Int) : Prop where
  lt : gt < w.heap.size
  cell : ∀ i s, i < M → s < 1024 → w.cell? ⟨gt, i * 1024 + s, none⟩ = some (.int .i64 (T i s))
  froz : ∀ o, w.frozen? ⟨gt, o, none⟩ = false
theorem Tb.heap {w w' : World} {gt M : Nat} {T : Nat → Nat → Int} (h : Tb w gt M T) (hk : w'.heap[gt]? = w.heap[gt]?) (hs : w.heap.size ≤ w'.heap.size) : Tb w' gt M T :=
  ⟨Nat.lt_of_lt_of_le h.lt hs, fun i s hi hss => by rw [← h.cell i s hi hss]; simp [World.cell?, World.cells?, hk], fun o => by rw [← h.froz o]; simp [World.frozen?, hk]⟩
theorem Tb.below {w w' : World} {gt M : Nat} {T : Nat → Nat → Int} (h : Tb w gt M T) (hb : Below w.heap.size w w') : Tb w' gt M T := h.heap (hb.block gt h.lt) hb.size
theorem Tb.kept {X : Nat → Prop} {w w' : World} {gt M : Nat} {T : Nat → Nat → Int} (h : Tb w gt M T) (hk : Kept X w w') (hx : ¬ X gt) : Tb w' gt M T := h.heap (hk.block gt h.lt hx) hk.size
theorem Tb.drewN {w : World} {gt M : Nat} {T : Nat → Nat → Int} (h : Tb w gt M T) (k : Nat) : Tb (w.drewN k) gt M T := ⟨h.lt, h.cell, h.froz⟩
theorem Tb.drew {w : World} {gt M : Nat} {T : Nat → Nat → Int} (h : Tb w gt M T) : Tb w.drew gt M T := ⟨h.lt, h.cell, h.froz⟩
theorem Tb.congr {w : World} {gt M : Nat} {T T' : Nat → Nat → Int} (h : Tb w gt M T) (he : ∀ i s, i < M → s < 1024 → T' i s = T i s) : Tb w gt M T' := ⟨h.lt, fun i s a b => by rw [he i s a b]; exact h.cell i s a b, h.froz⟩
def upT (T : Nat → Nat → Int) (i s : Nat) (v : Int) : Nat → Nat → Int := fun i' s' => if i' = i ∧ s' = s then v else T i' s'
theorem frozen_setCell (w : World) (p q : Addr) (v : Value) (h : w.frozen? q = false) : (w.setCell p v).frozen? q = false := by
  rw [World.frozen?_setCell]; exact h
theorem Tb.set {w : World} {gt M : Nat} {T : Nat → Nat → Int} (h : Tb w gt M T) {i s : Nat} (hi : i < M) (hs : s < 1024) (v : Int) : Tb (w.setCell ⟨gt, i * 1024 + s, none⟩ (.int .i64 v)) gt M (upT T i s v) :=
  ⟨by rw [size_setCell]; exact h.lt, fun i' s' a b => by
    unfold upT
    by_cases e : i' = i ∧ s' = s
    · obtain ⟨rfl, rfl⟩ := e
      rw [if_pos ⟨rfl, rfl⟩]
      exact World.cell?_setCell_same' _ _ _ (by rw [h.cell i' s' hi hs]; rfl)
    · rw [if_neg e]
      refine (World.cell?_setCell_other (w := w) (v := .int .i64 v) (a := ⟨gt, i * 1024 + s, none⟩) (b := ⟨gt, i' * 1024 + s', none⟩) (fun q => ?_)).trans (h.cell i' s' a b)
      injection q with _ q _
      exact e ⟨by omega, by omega⟩, fun o => frozen_setCell _ _ _ _ (h.froz o)⟩
/-- A table as a list of cells. -/
def rowT (T : Nat → Nat → Int) (i : Nat) : List Value := (List.range 1024).map fun s => .int .i64 (T i s)
theorem rowT_len (T : Nat → Nat → Int) (i : Nat) : (rowT T i).length = 1024 := by simp [rowT]
theorem Tb.range {w : World} {gt M : Nat} {T : Nat → Nat → Int} (h : Tb w gt M T) {i : Nat} (hi : i < M) : w.rangeAt gt (i * 1024) (rowT T i) := fun j v hv => by
  obtain ⟨hj, e⟩ := List.getElem?_eq_some_iff.1 hv
  rw [rowT_len] at hj
  rw [h.cell i j hi hj, ← e]
  simp [rowT]
theorem Tb.there {w : World} {gt M : Nat} {T : Nat → Nat → Int} (h : Tb w gt M T) {i : Nat} (hi : i < M) : w.there gt (i * 1024) 1024 := fun j hj => ⟨by rw [h.cell i j hi hj]; rfl, h.froz _⟩
theorem rowT_one (T : Nat → Nat → Int) (i : Nat) : (rowT T i).toArray.all (·.oneCell') = true := all_oneCell_toArray fun v hv => by
  obtain ⟨s, _, rfl⟩ := List.mem_map.1 hv
  rfl
theorem setCells_kept (w : World) (g o : Nat) (vs : List Value) : Kept (fun k => k = g) w (w.setCells g o vs) := by
  have h := World.keptBut_setCells g (may := fun p => p.block = g) vs o w (fun _ _ => rfl)
  have ht : (w.setCells g o vs).tape = w.tape ∧ (w.setCells g o vs).heap.size = w.heap.size := by
    induction vs generalizing o w with
    | nil => exact ⟨rfl, rfl⟩
    | cons v vs ih =>
      have := ih (w.setCell ⟨g, o, none⟩ v) (o + 1) (World.keptBut_setCells g (may := fun p => p.block = g) vs (o + 1) _ (fun _ _ => rfl))
      refine ⟨this.1.trans ?_, this.2.trans (size_setCell _ _ _)⟩
      unfold World.setCell
      split <;> rfl
  exact ⟨World.os_setCells w g o vs, ht.1, World.output_setCells w g o vs, by rw [ht.2]; exact Nat.le_refl _, fun k hk hne => World.heap_setCells_other w g o vs hk hne⟩
/-- A table is copied whole. -/
theorem Tb.copy {w : World} {gt M : Nat} {T : Nat → Nat → Int} (h : Tb w gt M T) {i j : Nat} (hi : i < M) (_hj : j < M) : Tb (w.setCells gt (i * 1024) (rowT T j)) gt M (fun i' s => if i' = i then T j s else T i' s) := by
  have hk := setCells_kept w gt (i * 1024) (rowT T j)
  refine ⟨Nat.lt_of_lt_of_le h.lt hk.size, fun i' s a b => ?_, fun o => by rw [World.frozen?_setCells]; exact h.froz o⟩
  by_cases e : i' = i
  · subst e
    rw [if_pos rfl]
    have := World.cell?_setCells_in gt (rowT T j) (i' * 1024) w (fun k hk => by rw [rowT_len] at hk; exact (h.there hi k hk).1) s (by rw [rowT_len]; exact b)
    rw [this]
    simp [rowT]
  · rw [if_neg e, World.cell?_setCells_out gt (rowT T j) (i * 1024) w ⟨gt, i' * 1024 + s, none⟩ (fun _ _ => by rw [rowT_len]; show i' * 1024 + s < i * 1024 ∨ i * 1024 + 1024 ≤ i' * 1024 + s; omega)]
    exact h.cell i' s a b
/-- Made tables. -/
theorem mk_T (w : World) (n : Nat) (hn : n ≤ 14) : (Instr.makeSlice 153 (.int .i64 n) (.int .i64 n)).run Tryd.prog w = .ok (.slice (some ⟨w.heap.size, 0, none⟩) n n) (w.alloc (.cells (madeCells (Array.replicate 1024 (.int .i64 0)) (n * 1024)) 152)) := by
  obtain ⟨i, h1, h2, h3, h4⟩ := info_of infoT
  have := run_makeSlice (w := w) 153 152 i _ undT h1 h2 .i64 .i64 (n : Int) (n : Int) (by omega) (Int.le_refl _) (by rw [h3]; simp; omega) (by rw [h4]; omega) (by omega)
  rw [h3] at this
  simpa [Value.cells] using this
theorem Tb.made (w : World) (n : Nat) : Tb (w.alloc (.cells (madeCells (Array.replicate 1024 (.int .i64 0)) (n * 1024)) 152)) w.heap.size n (fun _ _ => 0) := by
  have hc := Cells.new w (madeCells (Array.replicate 1024 (.int .i64 0)) (n * 1024)) 152
  refine ⟨hc.lt, fun i s hi hs => ?_, fun o => hc.frozen o⟩
  rw [hc.cell]
  unfold madeCells
  rw [Array.getElem?_map, Array.getElem?_range, if_pos (by omega)]
  have hl : (i * 1024 + s) % (Array.replicate 1024 (Value.int IntKind.i64 0)).size < (Array.replicate 1024 (Value.int IntKind.i64 0)).size := Nat.mod_lt _ (by simp)
  simp only [Option.map_some]
  rw [getElem!_pos (Array.replicate 1024 (Value.int IntKind.i64 0)) _ hl]
  simp only [Array.getElem_replicate]
end Go.Proofs.YtojednnciknhpaaDoor
namespace Go.Proofs.YtojednnciknhpaaDoor
set_option linter.unusedSimpArgs false
set_option linter.unusedVariables false
open Go.RowKit
attribute [local go_sem] Oper.semAt_some
attribute [local go_sem ↓] Go.wp_at_zero Go.wp_at_succ
/-- The greatest totals from a bidder on. -/
def valT (a : Au) (out : List Int) (i s : Nat) : Int := tabF a.res ((outB out 0 a.bid).drop i) s

theorem valT_end (a : Au) (out : List Int) (s : Nat) : valT a out a.bid.length s = rsvF a.res s := by
  unfold valT
  rw [List.drop_of_length_le (by rw [outB_len]; exact Nat.le_refl _)]
  rfl
theorem valT_step (a : Au) (out : List Int) {i : Nat} (hi : i < a.bid.length) (s : Nat) : valT a out i s = if out.contains (i : Int) = true then valT a out (i + 1) s else upF (valT a out (i + 1)) s a.bid[i] (valT a out (i + 1) s) := by
  have e : ∀ j, (outB out 0 a.bid).drop j = outB out (0 + j) (a.bid.drop j) := fun j => outB_drop out 0 j a.bid
  have e1 : valT a out i s = tabF a.res (outB out i (a.bid.drop i)) s := by unfold valT; rw [e, Nat.zero_add]
  have e2 : ∀ s, valT a out (i + 1) s = tabF a.res (outB out (i + 1) (a.bid.drop (i + 1))) s := fun s => by unfold valT; rw [e, Nat.zero_add]
  rw [e1, List.drop_eq_getElem_cons hi, outB]
  split
  · rw [tabF_none, e2]
  · rw [tabF_some]
    have : valT a out (i + 1) = tabF a.res (outB out (i + 1) (a.bid.drop (i + 1))) := funext e2
    rw [this]
theorem valT_bound {a : Au} {g : Nat} (ok : OkA a g) (out : List Int) (i s : Nat) : 0 ≤ valT a out i s ∧ valT a out i s ≤ 30000000000 := by
  have h := tabF_bound (res := a.res) (fun x hx => ok.rk x hx) ((outB out 0 a.bid).drop i) s (fun b hb os e o ho => by
    have hb' := List.mem_of_mem_drop hb
    have : ∀ (k : Nat) (l : List (List Of)), (∀ r ∈ l, r ∈ a.bid) → b ∈ outB out k l → 0 ≤ o.w ∧ o.w ≤ 1000000000 := by
      intro k l
      induction l generalizing k with
      | nil => intro _ h; cases h
      | cons r l ih =>
        intro hl h
        rw [outB] at h
        rcases List.mem_cons.1 h with h | h
        · split at h
          · rw [h] at e; cases e
          · rw [h] at e; injection e with e; subst e
            exact (ok.ok r (hl r List.mem_cons_self) o ho).2.2
        · exact ih (k + 1) (fun r hr => hl r (List.mem_cons_of_mem _ hr)) h
    exact this 0 a.bid (fun r hr => hr) hb')
  have hl : ((outB out 0 a.bid).drop i).length ≤ 12 := by rw [List.length_drop, outB_len]; have := ok.bl; omega
  have hr := ok.rl
  have hg := ok.g10
  unfold valT
  omega
theorem undTab : Tryd.prog.underlying 152 = some (.array 1024 2) := by kernel_rfl

set_option maxRecDepth 100000 in
set_option maxHeartbeats 16000000 in
theorem tables_calls {w : World} {vr vb vo : Value} {a : Au} {g : Nat} {out : List Int} (h : AuV w vr vb a) (ok : OkA a g) (hT : TabOk w) (ho : ReadsE encI 1 w vo out) (hol : out.length ≤ 100) :
    Calls Tryd.prog 110 #[.agg #[.int .i64 g, vr, vb], vo] w fun e w' => ∃ gt T, e = .returned (.slice (some ⟨gt, 0, none⟩) (a.bid.length + 1) (a.bid.length + 1)) ∧ Tb w' gt (a.bid.length + 1) T ∧ (∀ i s, i ≤ a.bid.length → s < 2 ^ g → T i s = valT a out i s) ∧ Below w.heap.size w w' := by
  obtain ⟨R, hR⟩ : ∃ R : Ending → World → Prop, R = fun e w' => ∃ gt T, e = .returned (.slice (some ⟨gt, 0, none⟩) (a.bid.length + 1) (a.bid.length + 1)) ∧ Tb w' gt (a.bid.length + 1) T ∧ (∀ i s, i ≤ a.bid.length → s < 2 ^ g → T i s = valT a out i s) ∧ Below w.heap.size w w' := ⟨_, rfl⟩
  rw [← hR]
  obtain ⟨nb, hnb⟩ : ∃ nb, nb = a.bid.length := ⟨_, rfl⟩
  have FN := hid (show ∀ gt T w', Tb w' gt (nb + 1) T → (∀ i s, i ≤ nb → s < 2 ^ g → T i s = valT a out i s) → Below w.heap.size w w' → R (.returned (.slice (some ⟨gt, 0, none⟩) (nb + 1) (nb + 1))) w' from fun gt T w' a b c => by rw [hR, hnb]; rw [hnb] at a b; exact ⟨gt, T, rfl, a, b, c⟩)
  have H := hid h
  have OK := hid ok
  have TO := hid hT
  have CT := hid (fun wx (hb : Below w.heap.size w wx) x => contains_calls (ho.below hb) x)
  have hp := pow10 ok.g10
  obtain ⟨hmr, pr, cr, br, offr, hvr, hpr, hcr⟩ := h.res
  obtain ⟨vs, ⟨hmb, pb, cbp, bb, offb, hvb, hpb, hcb⟩, hvl, hvk⟩ := h.bid
  obtain ⟨_, po, co, _, _, hvo, _, _⟩ := ho
  rw [hvl, ← hnb] at hvb hpb
  rw [ok.rl] at hvr
  obtain ⟨no, hno⟩ : ∃ no, no = out.length := ⟨_, rfl⟩
  rw [← hno] at hvo
  have hb12 := ok.bl
  have hg1 := ok.g1
  have hg10 := ok.g10
  rw [← hnb] at hb12
  have RV := hid (fun wx (hb : Below w.heap.size w wx) s (hs : s < 2 ^ g) => reserves_calls (H.out.below hb) OK.out (TO.out.below hb) hs)
  rw [ok.hg] at RV
  subst hvr hvb hvo
  have HNB := hid hnb
  have HVK := hid hvk
  have HVL := hid (show vs.length = nb by rw [hnb]; exact hvl)
  have HPB := hid hpb
  have HCB := hid hcb
  obtain ⟨w1, hw1⟩ : ∃ w1, w1 = w.alloc (.cells #[.int .i64 g, .slice pr g cr, .slice pb nb cbp] 35) := ⟨_, rfl⟩
  have B1 := hid (show Below w.heap.size w w1 by rw [hw1]; exact (Below.refl _ _).alloc (Nat.le_refl _) _)
  have CA := hid (show Cells w1 w.heap.size #[.int .i64 g, .slice pr g cr, .slice pb nb cbp] 35 by rw [hw1]; exact Cells.new w _ _)
  have KS := hid (show ∀ wx, Below w1.heap.size w1 wx → wx.cell? ⟨w.heap.size, 0, none⟩ = some (.int .i64 g) ∧ wx.cell? ⟨w.heap.size, 1, none⟩ = some (.slice pr g cr) ∧ wx.cell? ⟨w.heap.size, 2, none⟩ = some (.slice pb nb cbp) from fun wx hb => by
    have c := CA.out.below hb CA.out.lt
    refine ⟨?_, ?_, ?_⟩ <;> (rw [c.cell]; rfl))
  have HW1 := hid hw1
  obtain ⟨k0, k1, k2⟩ := KS.out w1 (Below.refl _ _)
  have hmk : (Instr.makeSlice 153 (.int .i64 ((nb : Int) + 1)) (.int .i64 ((nb : Int) + 1))).run Tryd.prog w1 = .ok (.slice (some ⟨w1.heap.size, 0, none⟩) (nb + 1) (nb + 1)) (w1.alloc (.cells (madeCells (Array.replicate 1024 (.int .i64 0)) ((nb + 1) * 1024)) 152)) := by
    rw [show ((nb : Int) + 1) = ((nb + 1 : Nat) : Int) by omega]
    exact mk_T w1 (nb + 1) (by omega)
  obtain ⟨N, hN⟩ : ∃ N, N = 2 ^ g := ⟨_, rfl⟩
  have eN : ((2 : Int) ^ g % 4294967296) = (N : Int) := by
    have e : ((2 : Int) ^ g) = ((2 ^ g : Nat) : Int) := by simp
    rw [e, hN]
    omega
  have EN := hid eN
  clear eN
  rw [← hN] at hp FN RV
  have HN := hid hN
  have hg0 : (0 : Int) ≤ (g : Int) := by omega
  have hn1 : (0 : Int) ≤ ((nb + 1 : Nat) : Int) := by omega
  obtain ⟨w2, hw2⟩ : ∃ w2, w2 = w1.alloc (.cells (madeCells (Array.replicate 1024 (.int .i64 0)) ((nb + 1) * 1024)) 152) := ⟨_, rfl⟩
  have T2 := hid (show Tb w2 w1.heap.size (nb + 1) (fun _ _ => 0) by rw [hw2]; exact Tb.made w1 (nb + 1))
  have B12 := hid (show Below w1.heap.size w1 w2 by rw [hw2]; exact (Below.refl _ _).alloc (Nat.le_refl _) _)
  have HW2 := hid hw2
  clear hR hmr hpr hcr hmb hpb hcb hvl hvk h ok hT hno hol hw1 hw2 hnb hN
  go_enter Tryd.func110, Tryd.ntmps110
  go_upto_region 1 with fail
  rw [← HW1.out]
  go_upto_region 2 with fail
  rw [← HW2.out]
  obtain ⟨gt, hgt⟩ : ∃ gt, gt = w1.heap.size := ⟨_, rfl⟩
  rw [← hgt]
  rw [← hgt] at T2
  have HGT := hid hgt
  obtain ⟨j0, j1, j2⟩ := KS.out w2 B12.out
  clear hmk hgt k0 k1 k2
  go_upto_region 4 with fail
  rw [EN.out]
  clear j0 j1 j2
  go_loopg [22] N (fun k s22 wr => ∃ (s : Nat) (T : Nat → Nat → Int), s + k = N ∧ s22 = .int .u32 s ∧ Tb wr gt (nb + 1) T ∧ (∀ s', s' < s → T nb s' = rsvF a.res s') ∧ Below w1.heap.size w1 wr)
  case atStart => exact ⟨0, _, by omega, rfl, T2.out, fun s' h => by omega, B12.out⟩
  case round =>
  obtain ⟨s, T, hsk, rfl, hT, hts, hb⟩ := hrel
  have HSK := hid hsk
  have TT := hid hT
  have TS := hid hts
  have B := hid hb
  have BW := hid (B1.out.trans (hb.mono B1.out.size))
  clear hsk hT hts hb T2
  by_cases hsN : s < N
  · have RC := hid (fun wx (hb : Below w1.heap.size w1 wx) => RV.out wx (B1.out.trans (hb.mono B1.out.size)) s hsN)
    have gs : (s : Int) < (N : Int) := by omega
    have gs0 : (0 : Int) ≤ (s : Int) := by omega
    have gs1 : (s : Int) < 1024 := by omega
    have gn0 : (0 : Int) ≤ (nb : Int) := by omega
    have gn1 : (nb : Int) < (nb : Int) + 1 := by omega
    have hs1 : s < 1024 := by omega
    have hcur := B.out
    have hgx : ∀ k, k = gt → w1.heap.size ≤ k := fun k hk => by rw [hk, HGT.out]; exact Nat.le_refl _
    obtain ⟨V, hV⟩ : ∃ V, V = rsvF a.res s := ⟨_, rfl⟩
    rw [← hV] at RC
    have HV := hid hV
    clear hV
    go_upto_region 6 with fail
    go_region_held3 (fun wh => wh.cell? ⟨w.heap.size, 0, none⟩ = some (.int .i64 g) ∧ wh.cell? ⟨w.heap.size, 1, none⟩ = some (.slice pr g cr) ∧ wh.cell? ⟨w.heap.size, 2, none⟩ = some (.slice pb nb cbp))
      (first | exact KS.out _ hcur | exact KS.out _ hcur.drew | exact KS.out _ hfin | assumption)
      (first
        | (go_at_call 82; refine (RC.out _ ?_).mono ?_; (first | exact hcur | exact hcur.drew); rintro e w5 ⟨rfl, hb5⟩; have T5 := hid (TT.out.drew.below hb5); replace hcur := (hcur.drew).trans (hb5.mono hcur.size); have c5 := T5.out.cell nb s (by omega) hs1; have f5 := T5.out.froz (nb * 1024 + s); have hfin := hcur.trans (Kept.below ((Kept.refl (fun k => k = gt) w5).set (C := gt) rfl (nb * 1024 + s) (.int .i64 V)) hcur.size hgx))
        | fail)
    all_goals (
      clear c5 f5
      have N5 := hid (T5.out.set (i := nb) (s := s) (by omega) hs1 V)
      have S5 := hid (show ∀ s', s' < s + 1 → upT T nb s V nb s' = rsvF a.res s' from fun s' h => by
        unfold upT
        by_cases e : s' = s
        · rw [if_pos ⟨rfl, e⟩, HV.out, e]
        · rw [if_neg (fun q => e q.2)]
          exact TS.out s' (by omega))
      have F5 := hid hfin
      clear hcur hfin hgx
      go_wp2
      go_roundg (N - (s + 1))
      · exact ⟨s + 1, _, by omega, by go_num, N5.out, S5.out, F5.out⟩
      · have := HSK.out; omega)
  obtain rfl : s = N := by have := HSK.out; omega
  have g1 : decide ((s : Int) < (s : Int)) = false := by simp
  have T0 := hid (show ∀ i' s', nb ≤ i' → i' ≤ nb → s' < s → T i' s' = valT a out i' s' from fun i' s' h1 h2 h3 => by
    obtain rfl : i' = nb := by omega
    rw [TS.out s' h3, HNB.out, valT_end])
  obtain ⟨j0, j1, j2⟩ := KS.out wr B.out
  clear TS HSK
  go_upto_region 9 with fail
  clear g1 j0 j1 j2
  go_loopg [8] nb (fun k s8 wr => ∃ T, k ≤ nb ∧ s8 = .int .i64 ((k : Int) - 1) ∧ Tb wr gt (nb + 1) T ∧ (∀ i' s', k ≤ i' → i' ≤ nb → s' < s → T i' s' = valT a out i' s') ∧ Below w1.heap.size w1 wr)
  case atStart => exact ⟨T, Nat.le_refl _, rfl, TT.out, T0.out, B.out⟩
  case round =>
  obtain ⟨T, hkn, rfl, hT, hts, hb⟩ := hrel
  have TT := hid hT
  have TS := hid hts
  have B := hid hb
  have BW := hid (B1.out.trans (hb.mono B1.out.size))
  clear hT hts hb T0
  cases gk with
  | zero =>
    have F := hid (FN.out gt T wr TT.out (fun i' s' h1 h2 => TS.out i' s' (Nat.zero_le _) h1 h2) BW.out)
    go_wp2
    first | exact F.out | (go_ret; exact F.out)
  | succ i =>
    rw [show ((i + 1 : Nat) : Int) - 1 = (i : Int) by omega]
    have gi0 : (0 : Int) ≤ (i : Int) := by omega
    have gi1 : (i : Int) + 1 < (nb : Int) + 1 := by omega
    have gi2 : (i : Int) < (nb : Int) + 1 := by omega
    have RG := hid (TT.out.range (i := i + 1) (by omega))
    have TH := hid (TT.out.there (i := i) (by omega))
    have T5 := hid (TT.out.copy (i := i) (j := i + 1) (by omega) (by omega))
    have SZ := hid (show (Tryd.prog.info? 152).map (·.size) = some (rowT T (i + 1)).length by rw [rowT_len]; exact sizeT)
    have SZ2 := hid (show (Tryd.prog.info? 152).map (·.size) = some (rowT T (i + 1)).toArray.size by rw [List.size_toArray, rowT_len]; exact sizeT)
    have TH2 := hid (show wr.there gt (i * 1024) (rowT T (i + 1)).toArray.size by rw [List.size_toArray, rowT_len]; exact TH.out)
    go_upto_region 11 with fail
    go_wp2_with fail
    refine wp_load_mid 152 (.tmp 49) rfl gt ((i + 1) * 1024) rfl (rowT T (i + 1)) _ RG.out undTab rfl SZ.out ?_
    go_upto_region 12 with (refine wpList_store_mid rfl 152 (.tmp 51) (.tmp 50) rfl gt (i * 1024) (rowT T (i + 1)).toArray rfl rfl TH2.out SZ2.out (rowT_one _ _) ?_)
    obtain ⟨w5, hw5⟩ : ∃ w5, w5 = wr.setCells gt (i * 1024) (rowT T (i + 1)).toArray.toList := ⟨_, rfl⟩
    rw [← hw5]
    have T6 := hid (show Tb w5 gt (nb + 1) (fun i' s => if i' = i then T (i + 1) s else T i' s) by rw [hw5]; exact T5.out)
    have B5 := hid (show Below w1.heap.size w1 w5 by rw [hw5]; exact B.out.trans ((setCells_kept wr gt (i * 1024) (rowT T (i + 1))).below B.out.size (fun k hk => by rw [hk, HGT.out]; exact Nat.le_refl _)))
    have BW5 := hid (B1.out.trans (B5.out.mono B1.out.size))
    have CC := hid (CT.out w5 BW5.out (i : Int))
    have hib : i < a.bid.length := by rw [← HNB.out]; omega
    have VS := hid (fun s => valT_step a out hib s)
    obtain ⟨cb, hcb⟩ : ∃ cb, cb = out.contains (i : Int) := ⟨_, rfl⟩
    rw [← hcb] at CC VS
    have R6 := hid (show ∀ i' s', i + 1 ≤ i' → i' ≤ nb → s' < s → (if i' = i then T (i + 1) s' else T i' s') = valT a out i' s' from fun i' s' h1 h2 h3 => by
      rw [if_neg (by omega)]
      exact TS.out i' s' h1 h2 h3)
    have I6 := hid (show ∀ s', s' < s → (if i = i then T (i + 1) s' else T i s') = valT a out (i + 1) s' from fun s' h => by
      rw [if_pos rfl]
      exact TS.out (i + 1) s' (Nat.le_refl _) (by omega) h)
    obtain ⟨T1, hT1⟩ : ∃ T1 : Nat → Nat → Int, T1 = fun i' s => if i' = i then T (i + 1) s else T i' s := ⟨_, rfl⟩
    have R7 := hid (show ∀ i' s', i + 1 ≤ i' → i' ≤ nb → s' < s → T1 i' s' = valT a out i' s' by rw [hT1]; exact R6.out)
    have I7 := hid (show ∀ s', s' < s → T1 i s' = valT a out (i + 1) s' by rw [hT1]; exact I6.out)
    rw [← hT1] at T6
    clear hT1 R6 I6 hw5 hcb RG TH T5 SZ SZ2 TH2
    go_wp2_with fail
    refine CC.out.mono ?_
    rintro e w6 ⟨rfl, hw6⟩
    rw [hw6]
    clear hw6 CC
    cases cb with
    | true =>
      have N7 := hid (show ∀ i' s', i ≤ i' → i' ≤ nb → s' < s → T1 i' s' = valT a out i' s' from fun i' s' h1 h2 h3 => by
        by_cases e : i' = i
        · subst e
          rw [I7.out s' h3, VS.out s', if_pos rfl]
        · exact R7.out i' s' (by omega) h2 h3)
      go_wp2
      go_roundg i
      · exact ⟨T1, by omega, by go_num, T6.out, N7.out, B5.out⟩
      · omega
    | false =>
      go_upto_region 14 with fail
      go_loopg [56] s (fun k s56 wx => ∃ (q : Nat) (T2 : Nat → Nat → Int), q + k = s ∧ s56 = .int .u32 q ∧ Tb wx gt (nb + 1) T2 ∧ (∀ i' s', i + 1 ≤ i' → i' ≤ nb → s' < s → T2 i' s' = valT a out i' s') ∧ (∀ s', s' < s → T2 i s' = if s' < q then valT a out i s' else valT a out (i + 1) s') ∧ Below w1.heap.size w1 wx)
      case atStart => exact ⟨0, T1, by omega, rfl, T6.out, R7.out, fun s' h => by rw [if_neg (by omega)]; exact I7.out s' h, B5.out⟩
      case round =>
      obtain ⟨q, T2, hqk, rfl, hT, hr, hi, hb⟩ := hrel
      have HQK := hid hqk
      have TT2 := hid hT
      have RR2 := hid hr
      have II2 := hid hi
      have B2 := hid hb
      have BW2 := hid (B1.out.trans (hb.mono B1.out.size))
      clear hqk hT hr hi hb
      by_cases hqs : q < s
      · have hiv : i < vs.length := by rw [HVL.out]; omega
        obtain ⟨rfl, hbb⟩ := HPB.out (by omega)
        obtain ⟨l0, l1, l2⟩ := KS.out wr B2.out
        have cv := (BW2.out.cell (p := ⟨bb, offb + i * 1 + 0, none⟩) hbb).trans (HCB.out i hiv 0 (by omega))
        simp at cv
        obtain ⟨hmx, px, cx, bx, ox, hvx, hpx, hcx⟩ := HVK.out i hiv hib
        obtain ⟨lo, hlo⟩ : ∃ lo, lo = a.bid[i].length := ⟨_, rfl⟩
        rw [← hlo] at hvx hpx
        rw [hvx] at cv
        have HLO := hid hlo
        have HPX := hid hpx
        have HCX := hid hcx
        have OO := hid (fun o ho => OK.out.ok _ (List.getElem_mem hib) o ho)
        have hl64 : lo ≤ 64 := by rw [hlo]; exact OK.out.ol _ (List.getElem_mem hib)
        have VQ := hid (VS.out q)
        rw [if_neg (by simp)] at VQ
        obtain ⟨OS, hOS⟩ : ∃ OS, OS = a.bid[i] := ⟨_, rfl⟩
        rw [← hOS] at HLO HCX OO VQ
        have gq : (q : Int) < (s : Int) := by omega
        have gq0 : (0 : Int) ≤ (q : Int) := by omega
        have gi3 : (i : Int) < (nb : Int) := by omega
        clear hvx hpx hcx hmx hlo hOS
        go_upto_region 17 with fail
        clear l0 l1 l2
        go_loopg [65] lo (fun k s65 wx => ∃ (t : Nat) (T3 : Nat → Nat → Int), t + k = lo ∧ s65 = .int .i64 t ∧ Tb wx gt (nb + 1) T3 ∧ (∀ i' s', i + 1 ≤ i' → i' ≤ nb → s' < s → T3 i' s' = valT a out i' s') ∧ (∀ s', s' < s → s' ≠ q → T3 i s' = if s' < q then valT a out i s' else valT a out (i + 1) s') ∧ T3 i q = upF (valT a out (i + 1)) q (OS.take t) (valT a out (i + 1) q) ∧ Below w1.heap.size w1 wx)
        case atStart => exact ⟨0, T2, by omega, rfl, TT2.out, RR2.out, fun s' h _ => II2.out s' h, by rw [II2.out q hqs, if_neg (by omega)]; rfl, B2.out⟩
        case round =>
        obtain ⟨t, T3, htk, rfl, hT, hr, hi, hiq, hb⟩ := hrel
        have HTK := hid htk
        have TT3 := hid hT
        have RR3 := hid hr
        have II3 := hid hi
        have IQ3 := hid hiq
        have B3 := hid hb
        have BW3 := hid (B1.out.trans (hb.mono B1.out.size))
        clear htk hT hr hi hiq hb
        by_cases htl : t < lo
        · have hto : t < OS.length := by rw [← HLO.out]; exact htl
          obtain ⟨rfl, hbx⟩ := HPX.out (by omega)
          have c0 := (BW3.out.cell (p := ⟨bx, ox + t * 2 + 0, none⟩) hbx).trans (HCX.out t hto 0 (by omega))
          have c1 := (BW3.out.cell (p := ⟨bx, ox + t * 2 + 1, none⟩) hbx).trans (HCX.out t hto 1 (by omega))
          simp [encOf] at c0 c1
          obtain ⟨o1, o2, o3, o4⟩ := OO.out _ (List.getElem_mem hto)
          have US := hid (show upF (valT a out (i + 1)) q (OS.take (t + 1)) (valT a out (i + 1) q) = _ by rw [take_snoc hto, upF_snoc])
          obtain ⟨o, ho⟩ : ∃ o, o = OS[t] := ⟨_, rfl⟩
          rw [← ho] at c0 c1 o2 o3 o4 US
          have hl32 : o.lots < 1024 := by rw [HN.out] at hp; omega
          have gt1 : (t : Int) < (lo : Int) := by omega
          have gt0 : (0 : Int) ≤ (t : Int) := by omega
          have eb1 : bits .andNot .u32 (o.lots : Int) (q : Int) = ((diffN o.lots q : Nat) : Int) := bits_andNot_u32 _ _
          have eb2 : bits .andNot .u32 (q : Int) (o.lots : Int) = ((diffN q o.lots : Nat) : Int) := bits_andNot_u32 _ _
          obtain ⟨w6, hw6⟩ : ∃ w6, w6 = wr.alloc (.cells #[.int .u32 o.lots, .int .i64 o.w] 54) := ⟨_, rfl⟩
          have k6 : Cells w6 wr.heap.size #[.int .u32 o.lots, .int .i64 o.w] 54 := by rw [hw6]; exact Cells.new wr _ _
          have d0 : w6.cell? ⟨wr.heap.size, 0, none⟩ = some (.int .u32 o.lots) := by rw [k6.cell]; rfl
          have d1 : w6.cell? ⟨wr.heap.size, 1, none⟩ = some (.int .i64 o.w) := by rw [k6.cell]; rfl
          have T6' := hid (show Tb w6 gt (nb + 1) T3 by rw [hw6]; exact TT3.out.below ((Below.refl _ _).alloc (Nat.le_refl _) _))
          have B6 := hid (show Below w1.heap.size w1 w6 by rw [hw6]; exact B3.out.alloc B3.out.size _)
          have HW6 := hid hw6
          obtain ⟨d, hd⟩ : ∃ d, d = diffN o.lots q := ⟨_, rfl⟩
          obtain ⟨dq, hdq⟩ : ∃ dq, dq = diffN q o.lots := ⟨_, rfl⟩
          have hdqle : dq ≤ q := by rw [hdq]; exact diffN_le (by omega) (by omega)
          rw [← hd] at eb1 US
          rw [← hdq] at eb2 US
          obtain ⟨ol, hol⟩ : ∃ ol, ol = o.lots := ⟨_, rfl⟩
          obtain ⟨ow, how⟩ : ∃ ow, ow = o.w := ⟨_, rfl⟩
          rw [← hol] at c0 d0 eb1 eb2 HW6
          rw [← how] at c1 d1 US HW6 o3 o4
          clear ho hw6 k6 hd hdq hol how o1 o2
          by_cases hd0 : d = 0
          · rw [if_pos hd0] at US
            have e1 : ((d : Int) == 0) = true := by simp; omega
            have vb1 := valT_bound OK.out out (i + 1) dq
            have hDV := RR3.out (i + 1) dq (Nat.le_refl _) (by omega) (by omega)
            have cA := T6'.out.cell i q (by omega) (by omega)
            have cD := T6'.out.cell (i + 1) dq (by omega) (by omega)
            have fA := T6'.out.froz (i * 1024 + q)
            rw [hDV] at cD
            obtain ⟨D, hD⟩ : ∃ D, D = valT a out (i + 1) dq := ⟨_, rfl⟩
            rw [← hD] at cD US vb1
            obtain ⟨A, hA⟩ : ∃ A, A = T3 i q := ⟨_, rfl⟩
            have IQA := hid (show A = upF (valT a out (i + 1)) q (OS.take t) (valT a out (i + 1) q) by rw [hA]; exact IQ3.out)
            rw [← hA] at cA
            have ew : IntKind.i64.wrap (ow + D) = ow + D := IntWalk.i64_in _ (by omega)
            have gd0 : (0 : Int) ≤ (dq : Int) := by omega
            have gd1 : (dq : Int) < 1024 := by omega
            have gq1 : (q : Int) < 1024 := by omega
            have gi4 : (0 : Int) ≤ (i : Int) + 1 := by omega
            have NEW := hid (show ∀ wx v, v = max A (ow + D) → wx = w6.setCell ⟨gt, i * 1024 + q, none⟩ (.int .i64 v) → ∃ T4, Tb wx gt (nb + 1) T4 ∧ (∀ i' s', i + 1 ≤ i' → i' ≤ nb → s' < s → T4 i' s' = valT a out i' s') ∧ (∀ s', s' < s → s' ≠ q → T4 i s' = if s' < q then valT a out i s' else valT a out (i + 1) s') ∧ T4 i q = upF (valT a out (i + 1)) q (OS.take (t + 1)) (valT a out (i + 1) q) ∧ Below w1.heap.size w1 wx from fun wx v hv hx => by
              refine ⟨upT T3 i q v, by rw [hx]; exact T6'.out.set (by omega) (by omega) v, fun i' s' h1 h2 h3 => ?_, fun s' h1 h2 => ?_, ?_, by rw [hx]; exact B6.out.trans (Kept.below ((Kept.refl (fun k => k = gt) w6).set (C := gt) rfl _ _) B6.out.size (fun k hk => by rw [hk, HGT.out]; exact Nat.le_refl _))⟩
              · unfold upT
                rw [if_neg (by omega)]
                exact RR3.out i' s' h1 h2 h3
              · unfold upT
                rw [if_neg (fun q => h2 q.2)]
                exact II3.out s' h1 h2
              · unfold upT
                rw [if_pos ⟨rfl, rfl⟩, hv, US.out, IQA.out])
            clear hd0 hDV hD hA vb1 o3 o4
            go_upto_region 19 with fail
            rw [← HW6.out]
            go_upto_region 20 with fail
            have NE := hid (NEW.out _ (max A (ow + D)) rfl rfl)
            go_region
            all_goals (
              go_wp2
              go_roundg (lo - (t + 1))
              · obtain ⟨T4, n1, n2, n3, n4, n5⟩ := NE.out
                exact ⟨t + 1, T4, by omega, by go_num, n1.drew, n2, n3, n4, n5.drew⟩
              · have := HTK.out; omega)
          · rw [if_neg hd0] at US
            have e1 : ((d : Int) == 0) = false := by simp; omega
            clear eb2 hd0
            go_upto_region 19 with fail
            rw [← HW6.out]
            go_wp2
            go_roundg (lo - (t + 1))
            · exact ⟨t + 1, T3, by omega, by go_num, T6'.out, RR3.out, II3.out, by rw [IQ3.out, US.out], B6.out⟩
            · have := HTK.out; omega
        obtain rfl : t = lo := by have := HTK.out; omega
        have g1 : decide ((t : Int) < (t : Int)) = false := by simp
        have N2 := hid (show ∀ s', s' < s → T3 i s' = if s' < q + 1 then valT a out i s' else valT a out (i + 1) s' from fun s' h => by
          by_cases e : s' = q
          · subst e
            rw [if_pos (by omega), IQ3.out, VQ.out, List.take_of_length_le (by rw [HLO.out]; exact Nat.le_refl _)]
          · rw [II3.out s' h e]
            by_cases e2 : s' < q
            · rw [if_pos e2, if_pos (by omega)]
            · rw [if_neg e2, if_neg (by omega)])
        go_wp2
        go_roundg (s - (q + 1))
        · exact ⟨q + 1, T3, by omega, by go_num, TT3.out, RR3.out, N2.out, B3.out⟩
        · have := HQK.out; omega
      obtain rfl : q = s := by have := HQK.out; omega
      have g1 : decide ((q : Int) < (q : Int)) = false := by simp
      have N2 := hid (show ∀ i' s', i ≤ i' → i' ≤ nb → s' < q → T2 i' s' = valT a out i' s' from fun i' s' h1 h2 h3 => by
        by_cases e : i' = i
        · subst e
          rw [II2.out s' h3, if_pos h3]
        · exact RR2.out i' s' (by omega) h2 h3)
      go_wp2
      go_roundg i
      · exact ⟨T2, by omega, by go_num, TT2.out, N2.out, B2.out⟩
      · omega
end Go.Proofs.YtojednnciknhpaaDoor
namespace Go.Proofs.YtojednnciknhpaaDoor
set_option linter.unusedSimpArgs false
set_option linter.unusedVariables false
open Go.RowKit
attribute [local go_sem] Oper.semAt_some
attribute [local go_sem ↓] Go.wp_at_zero Go.wp_at_succ

set_option maxRecDepth 100000 in
set_option maxHeartbeats 16000000 in
theorem without_calls {w : World} {vr vb vo : Value} {a : Au} {g : Nat} {out : List Int} (h : AuV w vr vb a) (ok : OkA a g) (hT : TabOk w) (ho : ReadsE encI 1 w vo out) (hol : out.length ≤ 100) :
    Calls Tryd.prog 75 #[.agg #[.int .i64 g, vr, vb], vo] w fun e w' => e = .returned (.int .i64 (valT a out 0 (2 ^ g - 1))) ∧ Below w.heap.size w w' := by
  obtain ⟨R, hR⟩ : ∃ R : Ending → World → Prop, R = fun e w' => e = .returned (.int .i64 (valT a out 0 (2 ^ g - 1))) ∧ Below w.heap.size w w' := ⟨_, rfl⟩
  rw [← hR]
  have FN := hid (show ∀ z w', z = valT a out 0 (2 ^ g - 1) → Below w.heap.size w w' → R (.returned (.int .i64 z)) w' from fun z w' a b => by rw [hR, a]; exact ⟨rfl, b⟩)
  have TC := hid (fun wx (hb : Below w.heap.size w wx) => tables_calls (h.below hb) ok (hT.below hb) (ho.below hb) hol)
  have hg1 := ok.g1
  have hp := pow10 ok.g10
  have hp1 := Nat.two_pow_pos g
  obtain ⟨hmr, pr, cr, br, offr, hvr, hpr, hcr⟩ := h.res
  obtain ⟨vs, ⟨hmb, pb, cbp, bb, offb, hvb, hpb, hcb⟩, hvl, hvk⟩ := h.bid
  obtain ⟨hmo, po, co, bo, offo, hvo, hpo, hco⟩ := ho
  rw [ok.rl] at hvr
  obtain ⟨nb, hnb⟩ : ∃ nb, nb = a.bid.length := ⟨_, rfl⟩
  rw [hvl, ← hnb] at hvb
  rw [← hnb] at TC
  obtain ⟨no, hno⟩ : ∃ no, no = out.length := ⟨_, rfl⟩
  rw [← hno] at hvo
  subst hvr hvb hvo
  have AC := hid (fun wx => all_calls hg1 ok.g10 pr pb g cr nb cbp wx)
  obtain ⟨w1, hw1⟩ : ∃ w1, w1 = w.alloc (.cells #[.int .i64 g, .slice pr g cr, .slice pb nb cbp] 35) := ⟨_, rfl⟩
  have B1 := hid (show Below w.heap.size w w1 by rw [hw1]; exact (Below.refl _ _).alloc (Nat.le_refl _) _)
  have CA := hid (show Cells w1 w.heap.size #[.int .i64 g, .slice pr g cr, .slice pb nb cbp] 35 by rw [hw1]; exact Cells.new w _ _)
  have KS := hid (show ∀ wx, Below w1.heap.size w1 wx → wx.cell? ⟨w.heap.size, 0, none⟩ = some (.int .i64 g) ∧ wx.cell? ⟨w.heap.size, 1, none⟩ = some (.slice pr g cr) ∧ wx.cell? ⟨w.heap.size, 2, none⟩ = some (.slice pb nb cbp) from fun wx hb => by
    have c := CA.out.below hb CA.out.lt
    refine ⟨?_, ?_, ?_⟩ <;> (rw [c.cell]; rfl))
  have HW1 := hid hw1
  obtain ⟨N, hN⟩ : ∃ N, N = 2 ^ g - 1 := ⟨_, rfl⟩
  rw [← hN] at FN AC
  have hN1 : N < 1024 := by omega
  have HN := hid (show N < 2 ^ g by omega)
  clear hR hmr hpr hcr hmb hpb hcb hvl hvk hmo hpo hco h ok hT hnb hno hol hw1 hN hp hp1
  go_enter Tryd.func75, Tryd.ntmps75
  go_upto_region 1 with fail
  rw [← HW1.out]
  have TC2 := hid (fun wx (hb : Below w1.heap.size w1 wx) => TC.out wx (B1.out.trans (hb.mono B1.out.size)))
  have gN : (N : Int) < 1024 := by omega
  have gN0 : (0 : Int) ≤ (N : Int) := by omega
  have gn1 : (0 : Int) < (nb : Int) + 1 := by omega
  have gn2 : 0 < nb + 1 := by omega
  have hcur := Below.refl w1.heap.size w1
  clear TC
  obtain ⟨k0, k1, k2⟩ := KS.out w1 hcur
  go_region_with
    (first
      | (go_at_call 110; refine (TC2.out _ ?_).mono ?_; (first | exact hcur | exact hcur.drew); rintro e w5 ⟨gt, T, rfl, hT5, hv5, hb5⟩; (first | (replace hcur := hcur.trans (hb5.mono hcur.size)) | (replace hcur := (hcur.drew).trans (hb5.mono hcur.size))); have ⟨m0, m1, m2⟩ := KS.out _ hcur; have hcN := hT5.cell 0 N gn2 hN1; have HV := hid (hv5 0 N (Nat.zero_le _) HN.out); rw [Nat.zero_mul, Nat.zero_add] at hcN; clear hT5 hv5 hb5)
      | (go_at_call 81; refine (AC.out _).mono ?_; rintro e w6 ⟨rfl, hb6⟩; (try (have hcN := (hb6.cell (p := ⟨gt, N, none⟩) (World.block_lt_of_cell? _ _ hcN)).trans hcN)); (first | (replace hcur := hcur.trans (hb6.mono hcur.size)) | (replace hcur := (hcur.drew).trans (hb6.mono hcur.size))); have ⟨n0, n1, n2⟩ := KS.out _ hcur; clear hb6)
      | fail)
  all_goals (
    have F := hid (FN.out _ _ HV.out (B1.out.trans (hcur.mono B1.out.size)))
    clear hcur hcN
    go_wp2
    first | exact F.out | (go_ret; exact F.out))

def set2 (w : World) (B : Nat) (v0 v1 : Value) : World := (w.setCell ⟨B, 0, none⟩ v0).setCell ⟨B, 1, none⟩ v1
theorem set2_spec {w : World} {B : Nat} {a0 a1 : Value} {ty : TypeId} (h : Cells w B #[a0, a1] ty) (v0 v1 : Value) : Cells (set2 w B v0 v1) B #[v0, v1] ty ∧ Kept (fun k => k = B) w (set2 w B v0 v1) :=
  ⟨(h.set 0 v0).set 1 v1, ((Kept.refl (fun k => k = B) w).set (C := B) rfl 0 v0).set (C := B) rfl 1 v1⟩
def ofV (o : Of) : Value := .agg #[.int .u32 o.lots, .int .i64 o.w]
set_option maxRecDepth 100000 in
set_option maxHeartbeats 16000000 in
theorem given_calls {w : World} {vr vb vc vp : Value} {a : Au} {g : Int} {tot : Int} {ch : List Int} (h : AuV w vr vb a) (hc : ReadsE encI 1 w vc ch) {p2 : Option Addr} {n2 c2 : Nat} (hvp : vp = .slice p2 n2 c2) {i : Nat} (hi : i < ch.length) (hib : i < a.bid.length) (hk : ch[i] < (a.bid[i].length : Int)) (h1 : ch.length ≤ 5000) (h2 : a.bid.length ≤ 5000) (h3 : a.bid[i].length ≤ 5000) :
    Calls Tryd.prog 79 #[.agg #[.int .i64 g, vr, vb], .agg #[vc, .int .i64 tot, vp], .int .i64 i] w fun e w' => e = .returned (ofV (if ch[i] < 0 then ⟨0, 0⟩ else a.bid[i].getD ch[i].toNat ⟨0, 0⟩)) ∧ Below w.heap.size w w' := by
  obtain ⟨R, hR⟩ : ∃ R : Ending → World → Prop, R = fun e w' => e = .returned (ofV (if ch[i] < 0 then ⟨0, 0⟩ else a.bid[i].getD ch[i].toNat ⟨0, 0⟩)) ∧ Below w.heap.size w w' := ⟨_, rfl⟩
  rw [← hR]
  have FN := hid (show ∀ o w', o = (if ch[i] < 0 then (⟨0, 0⟩ : Of) else a.bid[i].getD ch[i].toNat ⟨0, 0⟩) → Below w.heap.size w w' → R (.returned (ofV o)) w' from fun z w' a b => by rw [hR, a]; exact ⟨rfl, b⟩)
  clear hR
  obtain ⟨hmr, pr, cr, br, offr, hvr, hpr, hcr⟩ := h.res
  obtain ⟨vs, ⟨hmb, pb, cbp, bb, offb, hvb, hpb, hcb⟩, hvl, hvk⟩ := h.bid
  obtain ⟨hmc, pc, cc, bc, offc, hvc, hpc, hcc⟩ := hc
  obtain ⟨nr, hnr⟩ : ∃ nr, nr = a.res.length := ⟨_, rfl⟩
  obtain ⟨nb, hnb⟩ : ∃ nb, nb = a.bid.length := ⟨_, rfl⟩
  obtain ⟨nc, hnc⟩ : ∃ nc, nc = ch.length := ⟨_, rfl⟩
  rw [← hnr] at hvr
  rw [hvl, ← hnb] at hvb hpb
  rw [← hnc] at hvc hpc h1
  rw [← hnb] at h2
  obtain ⟨rfl, hbb⟩ := hpb (by omega)
  obtain ⟨rfl, hbc⟩ := hpc (by omega)
  have cv := hcb i (by omega) 0 (by omega)
  have ck := hcc i hi 0 (by omega)
  simp [encI] at cv ck
  obtain ⟨hmx, px, cx, bx, ox, hvx, hpx, hcx⟩ := hvk i (by omega) hib
  obtain ⟨lo, hlo⟩ : ∃ lo, lo = a.bid[i].length := ⟨_, rfl⟩
  rw [← hlo] at hvx hpx hk h3
  rw [hvx] at cv
  obtain ⟨k, hkk⟩ : ∃ k, k = ch[i] := ⟨_, rfl⟩
  rw [← hkk] at ck hk FN
  have gib : (i : Int) < (nb : Int) := by omega
  have gic : (i : Int) < (nc : Int) := by omega
  have gi0 : (0 : Int) ≤ (i : Int) := by omega
  obtain ⟨w3, hw3⟩ : ∃ w3, w3 = ((w.alloc (.cells #[.int .i64 g, .slice pr nr cr, .slice (some ⟨bb, offb, none⟩) nb cbp] 35)).alloc (.cells #[.slice (some ⟨bc, offc, none⟩) nc cc, .int .i64 tot, .slice p2 n2 c2] 29)).alloc (.cells #[.int .u32 0, .int .i64 0] 54) := ⟨_, rfl⟩
  have B3 := hid (show Below w.heap.size w w3 by rw [hw3]; exact (((Below.refl _ _).alloc (Nat.le_refl _) _).alloc (by simp) _).alloc (by simp; omega) _)
  have s1 : ∀ o, (w.alloc o).heap.size = w.heap.size + 1 := fun o => by simp
  have s2 : ∀ o o', ((w.alloc o).alloc o').heap.size = w.heap.size + 1 + 1 := fun o o' => by simp
  have CA := hid (show Cells w3 w.heap.size #[.int .i64 g, .slice pr nr cr, .slice (some ⟨bb, offb, none⟩) nb cbp] 35 by rw [hw3]; exact ((Cells.new w _ _).alloc _).alloc _)
  have CW := hid (show Cells w3 (w.heap.size + 1) #[.slice (some ⟨bc, offc, none⟩) nc cc, .int .i64 tot, .slice p2 n2 c2] 29 by
    rw [hw3]
    have := (Cells.new (w.alloc (.cells #[.int .i64 g, .slice pr nr cr, .slice (some ⟨bb, offb, none⟩) nb cbp] 35)) #[.slice (some ⟨bc, offc, none⟩) nc cc, .int .i64 tot, .slice p2 n2 c2] 29).alloc (.cells #[.int .u32 0, .int .i64 0] 54)
    rw [s1] at this
    exact this)
  have CR := hid (show Cells w3 (w.heap.size + 1 + 1) #[.int .u32 0, .int .i64 0] 54 by
    rw [hw3]
    have := Cells.new ((w.alloc (.cells #[.int .i64 g, .slice pr nr cr, .slice (some ⟨bb, offb, none⟩) nb cbp] 35)).alloc (.cells #[.slice (some ⟨bc, offc, none⟩) nc cc, .int .i64 tot, .slice p2 n2 c2] 29)) #[.int .u32 0, .int .i64 0] 54
    rw [s2] at this
    exact this)
  have HW3 := hid hw3
  have a2 : w3.cell? ⟨w.heap.size, 2, none⟩ = some (.slice (some ⟨bb, offb, none⟩) nb cbp) := by rw [CA.out.cell]; rfl
  have w0 : w3.cell? ⟨w.heap.size + 1, 0, none⟩ = some (.slice (some ⟨bc, offc, none⟩) nc cc) := by rw [CW.out.cell]; rfl
  have r0 : w3.cell? ⟨w.heap.size + 1 + 1, 0, none⟩ = some (.int .u32 0) := by rw [CR.out.cell]; rfl
  have r1 : w3.cell? ⟨w.heap.size + 1 + 1, 1, none⟩ = some (.int .i64 0) := by rw [CR.out.cell]; rfl
  have f0 := CR.out.frozen 0
  have f1 := CR.out.frozen 1
  have ck3 := (B3.out.cell (p := ⟨bc, offc + i, none⟩) (World.block_lt_of_cell? _ _ ck)).trans ck
  have cv3 := (B3.out.cell (p := ⟨bb, offb + i, none⟩) (World.block_lt_of_cell? _ _ cv)).trans cv
  have HPX := hid hpx
  have OC := hid (show ∀ m, (hm : m < a.bid[i].length) → px = some ⟨bx, ox, none⟩ ∧ w3.cell? ⟨bx, ox + m * 2, none⟩ = some (.int .u32 (a.bid[i][m]).lots) ∧ w3.cell? ⟨bx, ox + m * 2 + 1, none⟩ = some (.int .i64 (a.bid[i][m]).w) from fun m hm => by
    obtain ⟨e, hl⟩ := hpx (by omega)
    have q0 := (B3.out.cell (p := ⟨bx, ox + m * 2 + 0, none⟩) hl).trans (hcx m hm 0 (by omega))
    have q1 := (B3.out.cell (p := ⟨bx, ox + m * 2 + 1, none⟩) hl).trans (hcx m hm 1 (by omega))
    simp [encOf] at q0 q1
    exact ⟨e, q0, q1⟩)
  have HLO := hid hlo
  subst hvr hvb hvc hvp
  clear hmr hpr hcr hmb hcb hvl hvk hmc hcc hnr hnb hnc hmx hvx hpx hcx hlo hkk s1 s2 h ck cv hw3 hbb hbc
  by_cases hk0 : k < 0
  · have F := hid (FN.out ⟨0, 0⟩ w3 (if_pos hk0).symm B3.out)
    go_enter Tryd.func79, Tryd.ntmps79
    go_upto_region 1 with fail
    rw [← HW3.out]
    go_wp2
    obtain ⟨q1, q2⟩ := set2_spec CR.out (.int .u32 0) (.int .i64 0)
    show bodyPost _ _ _ _ _ (set2 w3 (w.heap.size + 1 + 1) (.int .u32 0) (.int .i64 0))
    obtain ⟨w4, hw4⟩ : ∃ w4, w4 = set2 w3 (w.heap.size + 1 + 1) (.int .u32 0) (.int .i64 0) := ⟨_, rfl⟩
    rw [← hw4] at q1 q2 ⊢
    clear hw4
    have m0 : w4.cell? ⟨w.heap.size + 1 + 1, 0, none⟩ = some (.int .u32 0) := by rw [q1.cell]; rfl
    have m1 : w4.cell? ⟨w.heap.size + 1 + 1, 1, none⟩ = some (.int .i64 0) := by rw [q1.cell]; rfl
    exact bodyPost_ret (v := .agg #[.int .u32 0, .int .i64 0]) (by simp [results, Tryd.results79, go_sem, m0, m1]) rfl (FN.out ⟨0, 0⟩ w4 (if_pos hk0).symm (B3.out.trans (q2.below B3.out.size (fun k hk => by omega))))
  · obtain ⟨kn, rfl⟩ : ∃ kn : Nat, k = (kn : Int) := ⟨k.toNat, by omega⟩
    have hkn : kn < a.bid[i].length := by rw [← HLO.out]; omega
    obtain ⟨rfl, o0, o1⟩ := OC.out kn hkn
    have HO := hid (show a.bid[i].getD (kn : Int).toNat ⟨0, 0⟩ = a.bid[i][kn] by simp [hkn])
    obtain ⟨o, ho⟩ : ∃ o, o = a.bid[i][kn] := ⟨_, rfl⟩
    rw [← ho] at o0 o1 HO
    have F := hid (show ∀ w', Below w.heap.size w w' → R (.returned (ofV o)) w' from fun w' hb => FN.out o w' (by rw [if_neg hk0, HO.out]) hb)
    have gk0 : (0 : Int) ≤ (kn : Int) := by omega
    have gk1 : (kn : Int) < (lo : Int) := hk
    obtain ⟨ol, hol⟩ : ∃ ol, ol = o.lots := ⟨_, rfl⟩
    obtain ⟨ow, how⟩ : ∃ ow, ow = o.w := ⟨_, rfl⟩
    unfold ofV at F
    rw [← hol, ← how] at F
    rw [← hol] at o0
    rw [← how] at o1
    clear hol how ho HO FN hk hk0
    go_enter Tryd.func79, Tryd.ntmps79
    go_upto_region 1 with fail
    rw [← HW3.out]
    go_upto_region 3 with fail
    go_region
    all_goals (
      go_wp2
      obtain ⟨q1, q2⟩ := set2_spec CR.out (.int .u32 ol) (.int .i64 ow)
      have q3 := q1.drewN 1
      have q4 := q2.drew
      change bodyPost _ _ _ _ _ (set2 w3 (w.heap.size + 1 + 1) (.int .u32 ol) (.int .i64 ow)).drew
      obtain ⟨w4, hw4⟩ : ∃ w4, w4 = (set2 w3 (w.heap.size + 1 + 1) (.int .u32 ol) (.int .i64 ow)).drew := ⟨_, rfl⟩
      change Cells (set2 w3 (w.heap.size + 1 + 1) (.int .u32 ol) (.int .i64 ow)).drew _ _ _ at q3
      rw [← hw4] at q3 q4 ⊢
      clear hw4 q1 q2
      have m0 : w4.cell? ⟨w.heap.size + 1 + 1, 0, none⟩ = some (.int .u32 ol) := by rw [q3.cell]; rfl
      have m1 : w4.cell? ⟨w.heap.size + 1 + 1, 1, none⟩ = some (.int .i64 ow) := by rw [q3.cell]; rfl
      exact bodyPost_ret (v := .agg #[.int .u32 ol, .int .i64 ow]) (by simp [results, Tryd.results79, go_sem, m0, m1]) rfl (F.out w4 (B3.out.trans (q4.below B3.out.size (fun k hk => by omega)))))
end Go.Proofs.YtojednnciknhpaaDoor
namespace Go.Proofs.YtojednnciknhpaaDoor
set_option linter.unusedSimpArgs false
set_option linter.unusedVariables false
open Go.RowKit
attribute [local go_sem] Oper.semAt_some
attribute [local go_sem ↓] Go.wp_at_zero Go.wp_at_succ
/-- An award in memory, from a block on. -/
structure AwC (B : Nat) (w : World) (ba gc gp : Nat) (tot : Int) (ch py : List Int) : Prop where
  aw : Cells w ba #[.slice (some ⟨gc, 0, none⟩) ch.length ch.length, .int .i64 tot, .slice (some ⟨gp, 0, none⟩) py.length py.length] 29
  ch : RN w gc ch
  py : RI w gp py
  ba : B ≤ ba
  gc : B ≤ gc
  gp : B ≤ gp

theorem outB_nil : ∀ (i : Nat) (l : List (List Of)), outB [] i l = l.map some
  | _, [] => rfl
  | i, r :: l => by simp [outB, outB_nil (i + 1) l]
theorem valT_nil (a : Au) (i s : Nat) : valT a [] i s = tabF a.res ((a.bid.drop i).map some) s := by
  unfold valT
  rw [outB_nil, ← List.map_drop]
theorem bestF_cons (a : Au) {i : Nat} (hi : i < a.bid.length) (s : Nat) : bestF a.res (a.bid.drop i) s = if valT a [] (i + 1) s = valT a [] i s then -1 :: bestF a.res (a.bid.drop (i + 1)) s
    else match pickF (valT a [] (i + 1)) (valT a [] i s) s a.bid[i] 0 with
      | none => -1 :: bestF a.res (a.bid.drop (i + 1)) s
      | some (k, o) => (k : Int) :: bestF a.res (a.bid.drop (i + 1)) (diffN s o.lots) := by
  have e1 : valT a [] (i + 1) = tabF a.res ((a.bid.drop (i + 1)).map some) := funext fun s => valT_nil a (i + 1) s
  have e2 : valT a [] i s = tabF a.res (some a.bid[i] :: (a.bid.drop (i + 1)).map some) s := by rw [valT_nil, List.drop_eq_getElem_cons hi]; rfl
  rw [List.drop_eq_getElem_cons hi, bestF, e1, e2]
  rfl
theorem set_mid {pre : List Int} {n i : Nat} (h : pre.length = i) (hi : i < n) (x : Int) : (pre ++ List.replicate (n - i) 0).set i x = (pre ++ [x]) ++ List.replicate (n - (i + 1)) 0 := by
  subst h
  rw [show n - pre.length = (n - (pre.length + 1)) + 1 by omega, List.replicate_succ, List.set_append_right _ _ (Nat.le_refl _), Nat.sub_self, List.set_cons_zero]
  simp
theorem set_again {pre post : List Int} {i : Nat} (h : pre.length = i) (x y : Int) : ((pre ++ [x]) ++ post).set i y = (pre ++ [y]) ++ post := by
  subst h
  rw [List.append_assoc, List.set_append_right _ _ (Nat.le_refl _), Nat.sub_self]
  simp
theorem AwC.choose {B : Nat} {w : World} {ba gc gp : Nat} {V : Int} {ch py : List Int} (h : AwC B w ba gc gp V ch py) {i : Nat} {x : Int} {ch' : List Int} (he : ch.set i x = ch') : AwC B (w.setCell ⟨gc, i, none⟩ (.int .i64 x)) ba gc gp V ch' py := by
  subst he
  exact ⟨by have := h.aw.set_far i (.int .i64 x) (h.aw.ne h.ch (by decide)); simpa using this, h.ch.set i x, h.py.set_far i _ (Cells.ne h.py h.ch (by decide)), h.ba, h.gc, h.gp⟩
theorem AwC.below {B : Nat} {w w' : World} {ba gc gp : Nat} {V : Int} {ch py : List Int} (h : AwC B w ba gc gp V ch py) (hb : Below w.heap.size w w') : AwC B w' ba gc gp V ch py :=
  ⟨h.aw.below hb h.aw.lt, h.ch.below' hb, h.py.below' hb, h.ba, h.gc, h.gp⟩
theorem AwC.drewN {B : Nat} {w : World} {ba gc gp : Nat} {V : Int} {ch py : List Int} (h : AwC B w ba gc gp V ch py) (k : Nat) : AwC B (w.drewN k) ba gc gp V ch py := ⟨h.aw, h.ch, h.py, h.ba, h.gc, h.gp⟩
def set3 (w : World) (B : Nat) (v0 v1 v2 : Value) : World := ((w.setCell ⟨B, 0, none⟩ v0).setCell ⟨B, 1, none⟩ v1).setCell ⟨B, 2, none⟩ v2
theorem set3_spec {w : World} {B : Nat} {a0 a1 a2 : Value} {ty : TypeId} (h : Cells w B #[a0, a1, a2] ty) (v0 v1 v2 : Value) : Cells (set3 w B v0 v1 v2) B #[v0, v1, v2] ty ∧ Kept (fun k => k = B) w (set3 w B v0 v1 v2) :=
  ⟨((h.set 0 v0).set 1 v1).set 2 v2, (((Kept.refl (fun k => k = B) w).set (C := B) rfl 0 v0).set (C := B) rfl 1 v1).set (C := B) rfl 2 v2⟩
theorem alloc3 (w : World) (c1 c2 c3 : Array Value) (t1 t2 t3 : TypeId) : Cells (((w.alloc (.cells c1 t1)).alloc (.cells c2 t2)).alloc (.cells c3 t3)).drew w.heap.size c1 t1 ∧ Cells (((w.alloc (.cells c1 t1)).alloc (.cells c2 t2)).alloc (.cells c3 t3)).drew (w.heap.size + 1) c2 t2 ∧ Cells (((w.alloc (.cells c1 t1)).alloc (.cells c2 t2)).alloc (.cells c3 t3)).drew (w.heap.size + 1 + 1) c3 t3 ∧ Below w.heap.size w (((w.alloc (.cells c1 t1)).alloc (.cells c2 t2)).alloc (.cells c3 t3)).drew := by
  have s1 : (w.alloc (.cells c1 t1)).heap.size = w.heap.size + 1 := by simp
  have s2 : ((w.alloc (.cells c1 t1)).alloc (.cells c2 t2)).heap.size = w.heap.size + 1 + 1 := by simp
  refine ⟨(((Cells.new w c1 t1).alloc _).alloc _).drew, ?_, ?_, ((((Below.refl _ _).alloc (Nat.le_refl _) _).alloc (by omega) _).alloc (by omega) _).drew⟩
  · have := ((Cells.new (w.alloc (.cells c1 t1)) c2 t2).alloc (.cells c3 t3)).drew
    rw [s1] at this
    exact this
  · have := (Cells.new ((w.alloc (.cells c1 t1)).alloc (.cells c2 t2)) c3 t3).drew
    rw [s2] at this
    exact this
theorem rep_made (n : Nat) (z : Int) : ((List.replicate n z).map fun z => Value.int .i64 z).toArray = madeCells #[.int .i64 z] n := by
  apply Array.toList_inj.1
  rw [toList_madeCells_one]
  simp
theorem AwC.of {B : Nat} {w : World} {ba gc gp nb : Nat} {V : Int} (h1 : Cells w ba #[.slice (some ⟨gc, 0, none⟩) nb nb, .int .i64 V, .slice (some ⟨gp, 0, none⟩) nb nb] 29) (h2 : Cells w gc (madeCells #[.int .i64 0] nb) 3) (h3 : Cells w gp (madeCells #[.int .i64 0] nb) 2) (b1 : B ≤ ba) (b2 : B ≤ gc) (b3 : B ≤ gp) : AwC B w ba gc gp V (List.replicate nb 0) (List.replicate nb 0) :=
  ⟨by simpa using h1, by unfold RN RowX; rw [rep_made]; exact h2, by unfold RI RowX; rw [rep_made]; exact h3, b1, b2, b3⟩

set_option maxRecDepth 100000 in
set_option maxHeartbeats 16000000 in
theorem best_calls {w : World} {vr vb : Value} {a : Au} {g : Nat} (h : AuV w vr vb a) (ok : OkA a g) (hT : TabOk w) :
    Calls Tryd.prog 99 #[.agg #[.int .i64 g, vr, vb]] w fun e w' => ∃ gc gp, e = .returned (.agg #[.slice (some ⟨gc, 0, none⟩) a.bid.length a.bid.length, .int .i64 (valT a [] 0 (2 ^ g - 1)), .slice (some ⟨gp, 0, none⟩) a.bid.length a.bid.length]) ∧ RN w' gc (bestF a.res a.bid (2 ^ g - 1)) ∧ RI w' gp (List.replicate a.bid.length 0) ∧ w.heap.size ≤ gc ∧ w.heap.size ≤ gp ∧ Below w.heap.size w w' := by
  obtain ⟨R, hR⟩ : ∃ R : Ending → World → Prop, R = fun e w' => ∃ gc gp, e = .returned (.agg #[.slice (some ⟨gc, 0, none⟩) a.bid.length a.bid.length, .int .i64 (valT a [] 0 (2 ^ g - 1)), .slice (some ⟨gp, 0, none⟩) a.bid.length a.bid.length]) ∧ RN w' gc (bestF a.res a.bid (2 ^ g - 1)) ∧ RI w' gp (List.replicate a.bid.length 0) ∧ w.heap.size ≤ gc ∧ w.heap.size ≤ gp ∧ Below w.heap.size w w' := ⟨_, rfl⟩
  rw [← hR]
  obtain ⟨nb, hnb⟩ : ∃ nb, nb = a.bid.length := ⟨_, rfl⟩
  have H := hid h
  have OK := hid ok
  have TO := hid hT
  have hg1 := ok.g1
  have hp := pow10 ok.g10
  have hp1 := Nat.two_pow_pos g
  have hb12 := ok.bl
  obtain ⟨hmr, pr, cr, br, offr, hvr, hpr, hcr⟩ := h.res
  obtain ⟨vs, ⟨hmb, pb, cbp, bb, offb, hvb, hpb, hcb⟩, hvl, hvk⟩ := h.bid
  rw [ok.rl] at hvr
  rw [hvl, ← hnb] at hvb hpb
  rw [← hnb] at hb12
  have TC := hid (fun wx (hb : Below w.heap.size w wx) => tables_calls (vo := .slice none 0 0) (out := []) (H.out.below hb) OK.out (TO.out.below hb) (ReadsE.nil wx none 0) (by simp))
  rw [← hnb] at TC
  subst hvr hvb
  have AC := hid (fun wx => all_calls hg1 ok.g10 pr pb g cr nb cbp wx)
  obtain ⟨N, hN⟩ : ∃ N, N = 2 ^ g - 1 := ⟨_, rfl⟩
  have FN := hid (show ∀ gc gp w', RN w' gc (bestF a.res a.bid N) → RI w' gp (List.replicate nb 0) → w.heap.size ≤ gc → w.heap.size ≤ gp → Below w.heap.size w w' → R (.returned (.agg #[.slice (some ⟨gc, 0, none⟩) nb nb, .int .i64 (valT a [] 0 N), .slice (some ⟨gp, 0, none⟩) nb nb])) w' from fun gc gp w' a1 a2 a3 a4 a5 => by rw [hR, hnb, hN]; rw [hN] at a1; rw [hnb] at a2; exact ⟨gc, gp, rfl, a1, a2, a3, a4, a5⟩)
  rw [← hN] at AC
  have hN1 : N < 1024 := by omega
  have HN := hid (show N < 2 ^ g by omega)
  have HNB := hid hnb
  have HVL := hid (show vs.length = nb by rw [hnb]; exact hvl)
  have HVK := hid hvk
  have HPB := hid hpb
  have HCB := hid hcb
  obtain ⟨w1, hw1⟩ : ∃ w1, w1 = (w.alloc (.cells #[.int .i64 g, .slice pr g cr, .slice pb nb cbp] 35)).alloc (.cells #[.slice none 0 0, .int .i64 0, .slice none 0 0] 29) := ⟨_, rfl⟩
  have B1 := hid (show Below w.heap.size w w1 by rw [hw1]; exact ((Below.refl _ _).alloc (Nat.le_refl _) _).alloc (by simp) _)
  have s1 : ∀ o, (w.alloc o).heap.size = w.heap.size + 1 := fun o => by simp
  have CA := hid (show Cells w1 w.heap.size #[.int .i64 g, .slice pr g cr, .slice pb nb cbp] 35 by rw [hw1]; exact (Cells.new w _ _).alloc _)
  have CR := hid (show Cells w1 (w.heap.size + 1) #[.slice none 0 0, .int .i64 0, .slice none 0 0] 29 by
    rw [hw1]
    have := Cells.new (w.alloc (.cells #[.int .i64 g, .slice pr g cr, .slice pb nb cbp] 35)) #[.slice none 0 0, .int .i64 0, .slice none 0 0] 29
    rw [s1] at this
    exact this)
  have KS := hid (show ∀ wx, Below w1.heap.size w1 wx → wx.cell? ⟨w.heap.size, 0, none⟩ = some (.int .i64 g) ∧ wx.cell? ⟨w.heap.size, 1, none⟩ = some (.slice pr g cr) ∧ wx.cell? ⟨w.heap.size, 2, none⟩ = some (.slice pb nb cbp) from fun wx hb => by
    have c := CA.out.below hb CA.out.lt
    refine ⟨?_, ?_, ?_⟩ <;> (rw [c.cell]; rfl))
  have HW1 := hid hw1
  obtain ⟨k0, k1, k2⟩ := KS.out w1 (Below.refl _ _)
  have T1 := hid (TC.out w1 B1.out)
  clear hR hmr hpr hcr hmb hpb hcb hvl hvk h ok hT hnb hw1 hN hp hp1 s1 TC
  go_enter Tryd.func99, Tryd.ntmps99
  go_upto_region 1 with fail
  rw [← HW1.out]
  go_wp2_with fail
  refine T1.out.mono ?_
  rintro e w2 ⟨gt, T, rfl, hT2, hv2, hb2⟩
  have TT := hid hT2
  have TV := hid hv2
  have B2 := hid hb2
  obtain ⟨l0, l1, l2⟩ := KS.out w2 hb2
  clear hT2 hv2 hb2 T1 k0 k1 k2
  go_wp2_with fail
  refine (AC.out w2).mono ?_
  rintro e w3 ⟨rfl, hb3⟩
  have T3 := hid (TT.out.below hb3)
  have B3 := hid (B2.out.trans (hb3.mono B2.out.size))
  obtain ⟨k0, k1, k2⟩ := KS.out w3 B3.out
  have cN := T3.out.cell 0 N (by omega) hN1
  rw [Nat.zero_mul, Nat.zero_add, TV.out 0 N (Nat.zero_le _) HN.out] at cN
  have gN : (N : Int) < 1024 := by omega
  have gN0 : (0 : Int) ≤ (N : Int) := by omega
  have gn1 : (0 : Int) < (nb : Int) + 1 := by omega
  have gn2 : 0 < nb + 1 := by omega
  have hnb0 : (0 : Int) ≤ (nb : Int) := by omega
  obtain ⟨V, hV⟩ : ∃ V, V = valT a [] 0 N := ⟨_, rfl⟩
  rw [← hV] at cN FN
  have mkN := fun w => mk_N w nb (by omega)
  have mkI := fun w => mk_I w nb (by omega)
  have hlt1 : w.heap.size < w3.heap.size := World.block_lt_of_cell? _ _ k0
  have hlt2 := T3.out.lt
  clear hb3 l0 l1 l2 hV TT AC
  go_upto_region 3 with fail
  go_cut [5] (fun s5 wx => ∃ ba gc gp, s5 = .pointer (some ⟨ba, 0, none⟩) ∧ AwC w3.heap.size wx ba gc gp V (List.replicate nb 0) (List.replicate nb 0) ∧ Below w3.heap.size w3 wx)
  case first =>
    go_region_held3 (fun wh => wh.cell? ⟨w.heap.size, 2, none⟩ = some (.slice pb nb cbp) ∧ wh.cell? ⟨gt, N, none⟩ = some (.int .i64 V))
      (first | exact ⟨k2, cN⟩ | (refine ⟨?_, ?_⟩ <;> (repeat (first | assumption | exact k2 | exact cN | refine Lib.cell?_alloc_some _ ?_))) | go_keep)
      (first | fail | fail)
    all_goals (
      go_wp2
      go_meet
      first
        | (obtain ⟨x1, x2, x3, xb⟩ := alloc3 w3 (madeCells #[Value.int .i64 0] nb) (madeCells #[Value.int .i64 0] nb) #[.slice (some ⟨w3.heap.size, 0, none⟩) nb nb, .int .i64 V, .slice (some ⟨w3.heap.size + 1, 0, none⟩) nb nb] 3 2 29
           exact ⟨w3.heap.size + 1 + 1, w3.heap.size, w3.heap.size + 1, rfl, AwC.of x3 x1 x2 (by omega) (by omega) (by omega), xb⟩)
        | (obtain ⟨x1, x2, x3, xb⟩ := alloc3 w3 (madeCells #[Value.int .i64 0] nb) (madeCells #[Value.int .i64 0] nb) #[.slice (some ⟨w3.heap.size + 1, 0, none⟩) nb nb, .int .i64 V, .slice (some ⟨w3.heap.size, 0, none⟩) nb nb] 2 3 29
           exact ⟨w3.heap.size + 1 + 1, w3.heap.size + 1, w3.heap.size, rfl, AwC.of x3 x2 x1 (by omega) (by omega) (by omega), xb⟩)
        | (obtain ⟨x1, x2, x3, xb⟩ := alloc3 w3 (madeCells #[Value.int .i64 0] nb) #[.slice (some ⟨w3.heap.size, 0, none⟩) nb nb, .int .i64 V, .slice (some ⟨w3.heap.size + 1 + 1, 0, none⟩) nb nb] (madeCells #[Value.int .i64 0] nb) 3 29 2
           exact ⟨w3.heap.size + 1, w3.heap.size, w3.heap.size + 1 + 1, rfl, AwC.of x2 x1 x3 (by omega) (by omega) (by omega), xb⟩)
        | (obtain ⟨x1, x2, x3, xb⟩ := alloc3 w3 (madeCells #[Value.int .i64 0] nb) #[.slice (some ⟨w3.heap.size + 1 + 1, 0, none⟩) nb nb, .int .i64 V, .slice (some ⟨w3.heap.size, 0, none⟩) nb nb] (madeCells #[Value.int .i64 0] nb) 2 29 3
           exact ⟨w3.heap.size + 1, w3.heap.size + 1 + 1, w3.heap.size, rfl, AwC.of x2 x3 x1 (by omega) (by omega) (by omega), xb⟩)
        | (obtain ⟨x1, x2, x3, xb⟩ := alloc3 w3 #[.slice (some ⟨w3.heap.size + 1, 0, none⟩) nb nb, .int .i64 V, .slice (some ⟨w3.heap.size + 1 + 1, 0, none⟩) nb nb] (madeCells #[Value.int .i64 0] nb) (madeCells #[Value.int .i64 0] nb) 29 3 2
           exact ⟨w3.heap.size, w3.heap.size + 1, w3.heap.size + 1 + 1, rfl, AwC.of x1 x2 x3 (by omega) (by omega) (by omega), xb⟩)
        | (obtain ⟨x1, x2, x3, xb⟩ := alloc3 w3 #[.slice (some ⟨w3.heap.size + 1 + 1, 0, none⟩) nb nb, .int .i64 V, .slice (some ⟨w3.heap.size + 1, 0, none⟩) nb nb] (madeCells #[Value.int .i64 0] nb) (madeCells #[Value.int .i64 0] nb) 29 2 3
           exact ⟨w3.heap.size, w3.heap.size + 1 + 1, w3.heap.size + 1, rfl, AwC.of x1 x3 x2 (by omega) (by omega) (by omega), xb⟩))
  case rest =>
  obtain ⟨ba, gc, gp, rfl, hA, hb4⟩ := hcut
  have A4 := hid hA
  have B4 := hid hb4
  have HN2 := hid (show bestF a.res a.bid N = [] ++ bestF a.res (a.bid.drop 0) N by simp)
  obtain ⟨m0, m1, m2⟩ := KS.out wc (B3.out.trans (hb4.mono B3.out.size))
  clear hA hb4 mkN mkI k0 k1 k2 cN
  go_upto_region 5 with fail
  clear m0 m1 m2
  go_loopg [31, 4] nb (fun k s31 s4 wr => ∃ (i s : Nat) (pre : List Int), i + k = nb ∧ s31 = .int .i64 i ∧ s4 = .int .u32 s ∧ s < 2 ^ g ∧ pre.length = i ∧ bestF a.res a.bid N = pre ++ bestF a.res (a.bid.drop i) s ∧ AwC w3.heap.size wr ba gc gp V (pre ++ List.replicate (nb - i) 0) (List.replicate nb 0) ∧ Below w3.heap.size w3 wr)
  case atStart => exact ⟨0, N, [], by omega, rfl, rfl, HN.out, rfl, HN2.out, A4.out, B4.out⟩
  case round =>
  obtain ⟨i, s, pre, hik, rfl, rfl, hsN, hpl, heq, hA, hb⟩ := hrel
  have HIK := hid hik
  have HPL := hid hpl
  have EQ := hid heq
  have AW := hid hA
  have B := hid hb
  clear hik hpl heq hA hb A4 B4
  have BW := hid ((B1.out.trans (B3.out.mono B1.out.size)).trans (B.out.mono (B1.out.trans (B3.out.mono B1.out.size)).size))
  by_cases hin : i < nb
  · have hib : i < a.bid.length := by rw [← HNB.out]; exact hin
    have hiv : i < vs.length := by rw [HVL.out]; exact hin
    obtain ⟨rfl, hbb⟩ := HPB.out (by omega)
    have cv := (BW.out.cell (p := ⟨bb, offb + i * 1 + 0, none⟩) hbb).trans (HCB.out i hiv 0 (by omega))
    simp at cv
    obtain ⟨hmx, px, cx, bx, ox, hvx, hpx, hcx⟩ := HVK.out i hiv hib
    have BF := hid (bestF_cons a hib s)
    have LB := hid (show (pre ++ List.replicate (nb - i) 0).length = nb by simp [HPL.out]; omega)
    have c0 := AW.out.aw.cell 0
    simp only [LB.out] at c0
    have cg := AW.out.ch.cellD (i := i) (by rw [LB.out]; exact hin) 0
    have fg := AW.out.ch.froz i
    have A1 := hid (AW.out.choose (set_mid HPL.out hin (-1)))
    obtain ⟨w5, hw5⟩ : ∃ w5, w5 = wr.setCell ⟨gc, i, none⟩ (.int .i64 (-1)) := ⟨_, rfl⟩
    rw [← hw5] at A1
    have B5 := hid (show Below w3.heap.size w3 w5 by rw [hw5]; exact B.out.trans (Kept.below ((Kept.refl (fun k => k = gc) wr).set (C := gc) rfl _ _) B.out.size (fun k hk => by rw [hk]; exact AW.out.gc)))
    have T5 := hid (T3.out.below B5.out)
    have hs1 : s < 1024 := by have := pow10 OK.out.g10; omega
    have q1 := T5.out.cell (i + 1) s (by omega) hs1
    have q0 := T5.out.cell i s (by omega) hs1
    rw [TV.out (i + 1) s (by omega) hsN] at q1
    rw [TV.out i s (by omega) hsN] at q0
    have HW5 := hid hw5
    have gi : (i : Int) < (nb : Int) := by omega
    have gi0 : (0 : Int) ≤ (i : Int) := by omega
    have gi1 : (i : Int) + 1 < (nb : Int) + 1 := by omega
    have gi2 : (i : Int) < (nb : Int) + 1 := by omega
    have gi3 : (0 : Int) ≤ (i : Int) + 1 := by omega
    have gs : (s : Int) < 1024 := by omega
    have gs0 : (0 : Int) ≤ (s : Int) := by omega
    obtain ⟨lo, hlo⟩ : ∃ lo, lo = a.bid[i].length := ⟨_, rfl⟩
    rw [← hlo] at hvx hpx
    rw [hvx] at cv
    have HLO := hid hlo
    have HPX := hid hpx
    have HCX := hid hcx
    obtain ⟨V1, hV1⟩ : ∃ V1, V1 = valT a [] (i + 1) s := ⟨_, rfl⟩
    obtain ⟨V0, hV0⟩ : ∃ V0, V0 = valT a [] i s := ⟨_, rfl⟩
    rw [← hV1] at q1 BF
    rw [← hV0] at q0 BF
    have HV0 := hid hV0
    clear hw5 hmx hvx hpx hcx hlo hV1 hV0
    go_upto_region 8 with fail
    rw [← HW5.out]
    obtain ⟨OS, hOS⟩ : ∃ OS, OS = a.bid[i] := ⟨_, rfl⟩
    have OO := hid (show ∀ o ∈ OS, o.lots < 1024 ∧ 0 ≤ o.w ∧ o.w ≤ 1000000000 from fun o ho => by
      obtain ⟨_, h2, h3, h4⟩ := OK.out.ok _ (List.getElem_mem hib) o (by rw [← hOS]; exact ho)
      exact ⟨Nat.lt_of_lt_of_le h2 (pow10 OK.out.g10), h3, h4⟩)
    have hl64 : lo ≤ 64 := by rw [HLO.out]; exact OK.out.ol _ (List.getElem_mem hib)
    rw [← hOS] at BF HLO HCX
    clear hOS cv c0 cg fg
    by_cases hv : V1 = V0
    · have e1 : (V1 == V0) = true := by simpa using hv
      have EQ2 := hid (show bestF a.res a.bid N = (pre ++ [-1]) ++ bestF a.res (a.bid.drop (i + 1)) s by rw [EQ.out, BF.out, if_pos hv]; simp)
      have PL2 := hid (show (pre ++ [-1]).length = i + 1 by simp [HPL.out])
      clear hv
      go_quiet (fail)
      go_wp2
      go_roundg (nb - (i + 1))
      · exact ⟨i + 1, s, pre ++ [-1], by omega, by go_num, rfl, hsN, PL2.out, EQ2.out, A1.out.drewN nq, drewN_below B5.out nq⟩
      · have := HIK.out; omega
    · have e1 : (V1 == V0) = false := by simpa using hv
      have BF2 := hid (BF.out.trans (if_neg hv))
      clear hv BF
      go_quiet (fail)
      have A2 := hid (A1.out.drewN nq)
      have B6 := hid (drewN_below B5.out nq)
      go_upto_region 10 with fail
      go_loopg [56, 4] lo (fun k s56 s4 wx => ∃ t : Nat, t + k = lo ∧ s56 = .int .i64 t ∧ s4 = .int .u32 s ∧ pickF (valT a [] (i + 1)) V0 s OS 0 = pickF (valT a [] (i + 1)) V0 s (OS.drop t) t ∧ AwC w3.heap.size wx ba gc gp V ((pre ++ [-1]) ++ List.replicate (nb - (i + 1)) 0) (List.replicate nb 0) ∧ Below w3.heap.size w3 wx)
      case atStart => exact ⟨0, by omega, rfl, rfl, rfl, A2.out, B6.out⟩
      case round =>
      obtain ⟨t, htk, rfl, rfl, hpk, hA, hb⟩ := hrel
      have HTK := hid htk
      have PK := hid hpk
      have AX := hid hA
      have BX := hid hb
      clear htk hpk hA hb A1 A2 B6
      by_cases htl : t < lo
      · have hto : t < OS.length := by rw [← HLO.out]; exact htl
        obtain ⟨rfl, hbx⟩ := HPX.out (by omega)
        have BXW := hid ((B1.out.trans (B3.out.mono B1.out.size)).trans (BX.out.mono (B1.out.trans (B3.out.mono B1.out.size)).size))
        have c0 := (BXW.out.cell (p := ⟨bx, ox + t * 2 + 0, none⟩) hbx).trans (HCX.out t hto 0 (by omega))
        have c1 := (BXW.out.cell (p := ⟨bx, ox + t * 2 + 1, none⟩) hbx).trans (HCX.out t hto 1 (by omega))
        simp [encOf] at c0 c1
        obtain ⟨o2, o3, o4⟩ := OO.out _ (List.getElem_mem hto)
        rw [List.drop_eq_getElem_cons hto, pickF] at PK
        obtain ⟨o, ho⟩ : ∃ o, o = OS[t] := ⟨_, rfl⟩
        rw [← ho] at c0 c1 o2 o3 o4 PK
        have gt1 : (t : Int) < (lo : Int) := by omega
        have gt0 : (0 : Int) ≤ (t : Int) := by omega
        have eb1 : bits .andNot .u32 (o.lots : Int) (s : Int) = ((diffN o.lots s : Nat) : Int) := bits_andNot_u32 _ _
        have eb2 : bits .andNot .u32 (s : Int) (o.lots : Int) = ((diffN s o.lots : Nat) : Int) := bits_andNot_u32 _ _
        obtain ⟨w6, hw6⟩ : ∃ w6, w6 = wr.alloc (.cells #[.int .u32 o.lots, .int .i64 o.w] 54) := ⟨_, rfl⟩
        have k6 : Cells w6 wr.heap.size #[.int .u32 o.lots, .int .i64 o.w] 54 := by rw [hw6]; exact Cells.new wr _ _
        have d0 : w6.cell? ⟨wr.heap.size, 0, none⟩ = some (.int .u32 o.lots) := by rw [k6.cell]; rfl
        have d1 : w6.cell? ⟨wr.heap.size, 1, none⟩ = some (.int .i64 o.w) := by rw [k6.cell]; rfl
        have A6 := hid (show AwC w3.heap.size w6 ba gc gp V ((pre ++ [-1]) ++ List.replicate (nb - (i + 1)) 0) (List.replicate nb 0) by rw [hw6]; exact AX.out.below ((Below.refl _ _).alloc (Nat.le_refl _) _))
        have B6 := hid (show Below w3.heap.size w3 w6 by rw [hw6]; exact BX.out.alloc BX.out.size _)
        have HW6 := hid hw6
        have hdq : diffN s o.lots ≤ s := diffN_le (by omega) (by omega)
        have T6 := hid (T3.out.below B6.out)
        have hs1' : diffN s o.lots < 2 ^ g := by omega
        have q1 := T6.out.cell (i + 1) (diffN s o.lots) (by omega) (by omega)
        have q0 := T6.out.cell i s (by omega) hs1
        rw [TV.out (i + 1) _ (by omega) hs1'] at q1
        rw [TV.out i s (by omega) hsN, ← HV0.out] at q0
        have vb1 := valT_bound OK.out [] (i + 1) (diffN s o.lots)
        obtain ⟨D, hD⟩ : ∃ D, D = valT a [] (i + 1) (diffN s o.lots) := ⟨_, rfl⟩
        rw [← hD] at q1 PK vb1
        obtain ⟨d, hd⟩ : ∃ d, d = diffN o.lots s := ⟨_, rfl⟩
        obtain ⟨dq, hdq2⟩ : ∃ dq, dq = diffN s o.lots := ⟨_, rfl⟩
        have HDQ := hid hdq2
        rw [← hd] at eb1 PK
        rw [← hdq2] at eb2 q1 hdq hs1'
        have HO := hid (show o.lots = o.lots from rfl)
        obtain ⟨ol, hol⟩ : ∃ ol, ol = o.lots := ⟨_, rfl⟩
        obtain ⟨ow, how⟩ : ∃ ow, ow = o.w := ⟨_, rfl⟩
        rw [← hol] at c0 d0 eb1 eb2 HW6
        rw [← how] at c1 d1 PK HW6 o3 o4
        have ew : IntKind.i64.wrap (ow + D) = ow + D := IntWalk.i64_in _ (by omega)
        have gd0 : (0 : Int) ≤ (dq : Int) := by omega
        have gd1 : (dq : Int) < 1024 := by omega
        clear ho hw6 k6 hd hdq2 hol how o2 hD vb1 o3 o4
        go_upto_region 12 with fail
        rw [← HW6.out]
        by_cases hd0 : d = 0
        · have e2 : ((d : Int) == 0) = true := by simp; omega
          by_cases hfd : ow + D = V0
          · have e3 : (ow + D == V0) = true := by simpa using hfd
            have PK2 := hid (PK.out.trans (if_pos ⟨hd0, hfd⟩))
            have HE2 := hid (show bestF a.res a.bid N = (pre ++ [(t : Int)]) ++ bestF a.res (a.bid.drop (i + 1)) dq by
              rw [EQ.out, BF2.out, PK2.out, HDQ.out]
              simp)
            have PL2 := hid (show (pre ++ [(t : Int)]).length = i + 1 by simp [HPL.out])
            have A7 := hid (A6.out.choose (set_again (post := List.replicate (nb - (i + 1)) 0) HPL.out (-1) (t : Int)))
            have LB2 := hid (show ((pre ++ [-1]) ++ List.replicate (nb - (i + 1)) 0).length = nb by simp [HPL.out]; omega)
            have B7 := hid (show Below w3.heap.size w3 (w6.setCell ⟨gc, i, none⟩ (.int .i64 t)) from B6.out.trans (Kept.below ((Kept.refl (fun k => k = gc) w6).set (C := gc) rfl _ _) B6.out.size (fun k hk => by rw [hk]; exact A6.out.gc)))
            have y0 := A6.out.aw.cell 0
            simp only [LB2.out] at y0
            have yg := A6.out.ch.cellD (i := i) (by rw [LB2.out]; exact hin) 0
            have fg := A6.out.ch.froz i
            have hgl := AX.out.ch.lt
            have hne1 : gc ≠ wr.heap.size := by omega
            have hne2 : wr.heap.size ≠ gc := by omega
            clear PK hd0 hfd
            go_quiet (fail)
            go_wp2
            go_roundg (nb - (i + 1))
            · exact ⟨i + 1, dq, _, by omega, by go_num, rfl, hs1', PL2.out, HE2.out, A7.out.drewN nq, drewN_below B7.out nq⟩
            · have := HIK.out; omega
          · have e3 : (ow + D == V0) = false := by simpa using hfd
            have PK2 := hid (PK.out.trans (if_neg (fun h => hfd h.2)))
            clear PK hd0 hfd
            go_quiet (fail)
            go_wp2
            go_roundg (lo - (t + 1))
            · exact ⟨t + 1, by omega, by go_num, rfl, PK2.out, A6.out.drewN nq, drewN_below B6.out nq⟩
            · have := HTK.out; omega
        · have e2 : ((d : Int) == 0) = false := by simp; omega
          have PK2 := hid (PK.out.trans (if_neg (fun h => hd0 h.1)))
          clear PK hd0
          go_quiet (fail)
          go_wp2
          go_roundg (lo - (t + 1))
          · exact ⟨t + 1, by omega, by go_num, rfl, PK2.out, A6.out.drewN nq, drewN_below B6.out nq⟩
          · have := HTK.out; omega
      obtain rfl : t = lo := by have := HTK.out; omega
      have g1 : decide ((t : Int) < (t : Int)) = false := by simp
      have EQ2 := hid (show bestF a.res a.bid N = (pre ++ [-1]) ++ bestF a.res (a.bid.drop (i + 1)) s by
        rw [EQ.out, BF2.out, PK.out, List.drop_of_length_le (by rw [HLO.out]; exact Nat.le_refl _), pickF]
        simp)
      have PL2 := hid (show (pre ++ [-1]).length = i + 1 by simp [HPL.out])
      go_wp2
      go_roundg (nb - (i + 1))
      · exact ⟨i + 1, s, pre ++ [-1], by omega, by go_num, rfl, hsN, PL2.out, EQ2.out, AX.out, BX.out⟩
      · have := HIK.out; omega
  obtain rfl : i = nb := by have := HIK.out; omega
  have g1 : decide ((i : Int) < (i : Int)) = false := by simp
  have HP2 := hid (show bestF a.res a.bid N = pre ++ List.replicate (i - i) 0 by
    rw [EQ.out, List.drop_of_length_le (by rw [← HNB.out]; exact Nat.le_refl _), bestF]
    simp)
  have LB := hid (show (pre ++ List.replicate (i - i) (0 : Int)).length = i by simp [HPL.out])
  have y0 := AW.out.aw.cell 0
  have y1 := AW.out.aw.cell 1
  have y2 := AW.out.aw.cell 2
  simp only [LB.out, List.length_replicate] at y0 y1 y2
  have CRX := hid (CR.out.below (B3.out.trans (B.out.mono B3.out.size)) CR.out.lt)
  have r0 : wr.cell? ⟨w.heap.size + 1, 0, none⟩ = some (.slice none 0 0) := by rw [CRX.out.cell]; rfl
  have r1 : wr.cell? ⟨w.heap.size + 1, 1, none⟩ = some (.int .i64 0) := by rw [CRX.out.cell]; rfl
  have r2 : wr.cell? ⟨w.heap.size + 1, 2, none⟩ = some (.slice none 0 0) := by rw [CRX.out.cell]; rfl
  have f0 := CRX.out.frozen 0
  have f1 := CRX.out.frozen 1
  have f2 := CRX.out.frozen 2
  have hlr : w.heap.size + 1 < w3.heap.size := Nat.lt_of_lt_of_le CR.out.lt B3.out.size
  go_wp2
  obtain ⟨z1, z2⟩ := set3_spec CRX.out (.slice (some ⟨gc, 0, none⟩) i i) (.int .i64 V) (.slice (some ⟨gp, 0, none⟩) i i)
  change bodyPost _ _ _ _ _ (set3 wr (w.heap.size + 1) (.slice (some ⟨gc, 0, none⟩) i i) (.int .i64 V) (.slice (some ⟨gp, 0, none⟩) i i))
  obtain ⟨w9, hw9⟩ : ∃ w9, w9 = set3 wr (w.heap.size + 1) (.slice (some ⟨gc, 0, none⟩) i i) (.int .i64 V) (.slice (some ⟨gp, 0, none⟩) i i) := ⟨_, rfl⟩
  rw [← hw9] at z1 z2 ⊢
  clear hw9
  have m0 : w9.cell? ⟨w.heap.size + 1, 0, none⟩ = some (.slice (some ⟨gc, 0, none⟩) i i) := by rw [z1.cell]; rfl
  have m1 : w9.cell? ⟨w.heap.size + 1, 1, none⟩ = some (.int .i64 V) := by rw [z1.cell]; rfl
  have m2 : w9.cell? ⟨w.heap.size + 1, 2, none⟩ = some (.slice (some ⟨gp, 0, none⟩) i i) := by rw [z1.cell]; rfl
  have gcl := AW.out.gc
  have gpl := AW.out.gp
  have bws := B1.out.size
  exact bodyPost_ret (v := .agg #[.slice (some ⟨gc, 0, none⟩) i i, .int .i64 V, .slice (some ⟨gp, 0, none⟩) i i]) (by simp [results, Tryd.results99, go_sem, m0, m1, m2]) rfl (FN.out gc gp w9 (by rw [HP2.out]; exact AW.out.ch.kept z2 (by omega)) (AW.out.py.kept z2 (by omega)) (by omega) (by omega) (BW.out.trans (z2.below BW.out.size (fun k hk => by omega))))
end Go.Proofs.YtojednnciknhpaaDoor
namespace Go.Proofs.YtojednnciknhpaaDoor
set_option linter.unusedSimpArgs false
set_option linter.unusedVariables false
open Go.RowKit
attribute [local go_sem] Oper.semAt_some
attribute [local go_sem ↓] Go.wp_at_zero Go.wp_at_succ
/-- What a bidder pays. -/
def payAt (a : Au) (N i : Nat) : Int :=
  if (bestF a.res a.bid N).getD i 0 < 0 then 0 else valT a [(i : Int)] 0 N - (valT a [] 0 N - ((a.bid.getD i []).getD ((bestF a.res a.bid N).getD i 0).toNat ⟨0, 0⟩).w)
def paysF (a : Au) (N : Nat) : List Int := (List.range a.bid.length).map (payAt a N)
theorem AwC.pay {B : Nat} {w : World} {ba gc gp : Nat} {V : Int} {ch py : List Int} (h : AwC B w ba gc gp V ch py) {i : Nat} {x : Int} {py' : List Int} (he : py.set i x = py') : AwC B (w.setCell ⟨gp, i, none⟩ (.int .i64 x)) ba gc gp V ch py' := by
  subst he
  exact ⟨by have := h.aw.set_far i (.int .i64 x) (h.aw.ne h.py (by decide)); simpa using this, h.ch.set_far i _ (Cells.ne h.ch h.py (by decide)), h.py.set i x, h.ba, h.gc, h.gp⟩
theorem pickF_lt {T1 : Nat → Int} {t0 : Int} {s : Nat} : ∀ {l : List Of} {k : Nat} {x : Nat × Of}, pickF T1 t0 s l k = some x → k ≤ x.1 ∧ x.1 < k + l.length
  | [], _, _, h => by cases h
  | o :: l, k, x, h => by
    unfold pickF at h
    split at h
    · injection h with h
      subst h
      simp
    · have := pickF_lt h
      simp only [List.length_cons]
      omega
theorem bestF_lt (res : List Int) : ∀ (l : List (List Of)) (s i : Nat) (x : Int) (os : List Of), (bestF res l s)[i]? = some x → l[i]? = some os → -1 ≤ x ∧ x < (os.length : Int)
  | [], _, _, _, _, _, h2 => by simp at h2
  | l :: r, s, i, x, os, h, h2 => by
    have ih := fun s i h h2 => bestF_lt res r s i x os h h2
    unfold bestF at h
    split at h
    · cases i with
      | zero => simp at h h2; subst h; omega
      | succ i => exact ih s i (by simpa using h) (by simpa using h2)
    · split at h
      · cases i with
        | zero => simp at h h2; subst h; omega
        | succ i => exact ih s i (by simpa using h) (by simpa using h2)
      · rename_i k o hp
        have := pickF_lt hp
        cases i with
        | zero => simp at h h2; subst h h2; omega
        | succ i => exact ih _ i (by simpa using h) (by simpa using h2)

theorem paysF_len (a : Au) (N : Nat) : (paysF a N).length = a.bid.length := by simp [paysF]
theorem pays_none {a : Au} {N i nb : Nat} (hnb : nb = a.bid.length) (hi : i < nb) (h : payAt a N i = 0) : (paysF a N).take i ++ List.replicate (nb - i) 0 = (paysF a N).take (i + 1) ++ List.replicate (nb - (i + 1)) 0 := by
  have hl : i < (paysF a N).length := by rw [paysF_len]; omega
  rw [List.take_succ_eq_append_getElem hl, show nb - i = (nb - (i + 1)) + 1 by omega, List.replicate_succ, List.append_assoc, List.singleton_append]
  congr 2
  simp [paysF, h]
theorem pays_set {a : Au} {N i nb : Nat} (hnb : nb = a.bid.length) (hi : i < nb) : ((paysF a N).take i ++ List.replicate (nb - i) 0).set i (payAt a N i) = (paysF a N).take (i + 1) ++ List.replicate (nb - (i + 1)) 0 := by
  have hl : i < (paysF a N).length := by rw [paysF_len]; omega
  rw [List.take_succ_eq_append_getElem hl, show nb - i = (nb - (i + 1)) + 1 by omega, List.replicate_succ, List.set_append_right _ _ (by simp [paysF_len]; omega)]
  have : i - (List.take i (paysF a N)).length = 0 := by simp [paysF_len]; omega
  rw [this, List.set_cons_zero, List.append_assoc, List.singleton_append]
  congr 2
  simp [paysF]
theorem pays_end {a : Au} {N nb : Nat} (hnb : nb = a.bid.length) : (paysF a N).take nb ++ List.replicate (nb - nb) 0 = paysF a N := by
  rw [Nat.sub_self, List.take_of_length_le (by rw [paysF_len, hnb]; exact Nat.le_refl _)]
  simp
theorem cell_set_other {w : World} {g j b o : Nat} {v u : Value} (hne : g ≠ b) (h : w.cell? ⟨g, j, none⟩ = some v) : (w.setCell ⟨b, o, none⟩ u).cell? ⟨g, j, none⟩ = some v := by
  rw [← h]
  simp only [World.cell?, World.cells?, Below.heap_setCell w ⟨b, o, none⟩ u g hne]
theorem AwC.drew {B : Nat} {w : World} {ba gc gp : Nat} {V : Int} {ch py : List Int} (h : AwC B w ba gc gp V ch py) : AwC B w.drew ba gc gp V ch py := ⟨h.aw, h.ch, h.py, h.ba, h.gc, h.gp⟩
theorem AwC.alloc {B : Nat} {w : World} {ba gc gp : Nat} {V : Int} {ch py : List Int} (h : AwC B w ba gc gp V ch py) (o : Obj) : AwC B (w.alloc o) ba gc gp V ch py := h.below ((Below.refl _ _).alloc (Nat.le_refl _) _)
theorem AwC.cells {B : Nat} {w : World} {ba gc gp nb : Nat} {V : Int} {ch py : List Int} (h : AwC B w ba gc gp V ch py) (h1 : ch.length = nb) (h2 : py.length = nb) {i : Nat} (hi : i < nb) : w.cell? ⟨ba, 0, none⟩ = some (.slice (some ⟨gc, 0, none⟩) nb nb) ∧ w.cell? ⟨ba, 1, none⟩ = some (.int .i64 V) ∧ w.cell? ⟨ba, 2, none⟩ = some (.slice (some ⟨gp, 0, none⟩) nb nb) ∧ w.frozen? ⟨gp, i, none⟩ = false ∧ w.cell? ⟨gp, i, none⟩ = some (.int .i64 (py.getD i 0)) := by
  have y0 := h.aw.cell 0
  have y1 := h.aw.cell 1
  have y2 := h.aw.cell 2
  rw [h1] at y0
  rw [h2] at y2
  exact ⟨y0, y1, y2, h.py.froz i, h.py.cellD (by omega) 0⟩
theorem reads_one (w : World) (i : Nat) : ReadsE encI 1 (w.alloc (.cells #[.int .i64 i] 3)) (.slice (some ⟨w.heap.size, 0, none⟩) 1 1) [(i : Int)] :=
  ⟨by simp, _, 1, w.heap.size, 0, rfl, fun _ => ⟨rfl, by simp⟩, fun k hk j hj => by
    have : k = 0 := by simp at hk; omega
    subst this
    have : j = 0 := by omega
    subst this
    rw [(Cells.new w _ _).cell]
    rfl⟩

set_option maxRecDepth 100000 in
set_option maxHeartbeats 16000000 in
theorem solved_calls {w : World} {vr vb : Value} {a : Au} {g : Nat} (h : AuV w vr vb a) (ok : OkA a g) (hT : TabOk w) :
    Calls Tryd.prog 60 #[.agg #[.int .i64 g, vr, vb]] w fun e w' => ∃ gc gp, e = .returned (.agg #[.slice (some ⟨gc, 0, none⟩) a.bid.length a.bid.length, .int .i64 (valT a [] 0 (2 ^ g - 1)), .slice (some ⟨gp, 0, none⟩) a.bid.length a.bid.length]) ∧ RN w' gc (bestF a.res a.bid (2 ^ g - 1)) ∧ RI w' gp (paysF a (2 ^ g - 1)) ∧ w.heap.size ≤ gc ∧ w.heap.size ≤ gp ∧ Below w.heap.size w w' := by
  obtain ⟨R, hR⟩ : ∃ R : Ending → World → Prop, R = fun e w' => ∃ gc gp, e = .returned (.agg #[.slice (some ⟨gc, 0, none⟩) a.bid.length a.bid.length, .int .i64 (valT a [] 0 (2 ^ g - 1)), .slice (some ⟨gp, 0, none⟩) a.bid.length a.bid.length]) ∧ RN w' gc (bestF a.res a.bid (2 ^ g - 1)) ∧ RI w' gp (paysF a (2 ^ g - 1)) ∧ w.heap.size ≤ gc ∧ w.heap.size ≤ gp ∧ Below w.heap.size w w' := ⟨_, rfl⟩
  rw [← hR]
  obtain ⟨nb, hnb⟩ : ∃ nb, nb = a.bid.length := ⟨_, rfl⟩
  obtain ⟨N, hN⟩ : ∃ N, N = 2 ^ g - 1 := ⟨_, rfl⟩
  have FN := hid (show ∀ gc gp w', RN w' gc (bestF a.res a.bid N) → RI w' gp (paysF a N) → w.heap.size ≤ gc → w.heap.size ≤ gp → Below w.heap.size w w' → R (.returned (.agg #[.slice (some ⟨gc, 0, none⟩) nb nb, .int .i64 (valT a [] 0 N), .slice (some ⟨gp, 0, none⟩) nb nb])) w' from fun gc gp w' a1 a2 a3 a4 a5 => by rw [hR, hnb, hN]; rw [hN] at a1 a2; exact ⟨gc, gp, rfl, a1, a2, a3, a4, a5⟩)
  have H := hid h
  have OK := hid ok
  have TO := hid hT
  have hb12 := ok.bl
  rw [← hnb] at hb12
  have BC := hid (fun wx (hb : Below w.heap.size w wx) => best_calls (H.out.below hb) OK.out (TO.out.below hb))
  rw [← hnb, ← hN] at BC
  obtain ⟨hmr, pr, cr, br, offr, hvr, hpr, hcr⟩ := h.res
  obtain ⟨vs, ⟨hmb, pb, cbp, bb, offb, hvb, hpb, hcb⟩, hvl, hvk⟩ := h.bid
  rw [ok.rl] at hvr
  rw [hvl, ← hnb] at hvb
  subst hvr hvb
  have HNB := hid hnb
  obtain ⟨w1, hw1⟩ : ∃ w1, w1 = (w.alloc (.cells #[.int .i64 g, .slice pr g cr, .slice pb nb cbp] 35)).alloc (.cells #[.slice none 0 0, .int .i64 0, .slice none 0 0] 29) := ⟨_, rfl⟩
  have B1 := hid (show Below w.heap.size w w1 by rw [hw1]; exact ((Below.refl _ _).alloc (Nat.le_refl _) _).alloc (by simp) _)
  have s1 : ∀ o, (w.alloc o).heap.size = w.heap.size + 1 := fun o => by simp
  have CA := hid (show Cells w1 w.heap.size #[.int .i64 g, .slice pr g cr, .slice pb nb cbp] 35 by rw [hw1]; exact (Cells.new w _ _).alloc _)
  have CR := hid (show Cells w1 (w.heap.size + 1) #[.slice none 0 0, .int .i64 0, .slice none 0 0] 29 by
    rw [hw1]
    have := Cells.new (w.alloc (.cells #[.int .i64 g, .slice pr g cr, .slice pb nb cbp] 35)) #[.slice none 0 0, .int .i64 0, .slice none 0 0] 29
    rw [s1] at this
    exact this)
  have KS := hid (show ∀ wx, Below w1.heap.size w1 wx → wx.cell? ⟨w.heap.size, 0, none⟩ = some (.int .i64 g) ∧ wx.cell? ⟨w.heap.size, 1, none⟩ = some (.slice pr g cr) ∧ wx.cell? ⟨w.heap.size, 2, none⟩ = some (.slice pb nb cbp) from fun wx hb => by
    have c := CA.out.below hb CA.out.lt
    refine ⟨?_, ?_, ?_⟩ <;> (rw [c.cell]; rfl))
  have HW1 := hid hw1
  have W1 := hid (BC.out w1 B1.out)
  have HN := hid hN
  obtain ⟨k0, k1, k2⟩ := KS.out w1 (Below.refl _ _)
  clear hR hmr hpr hcr hmb hpb hcb hvl hvk h ok hT hnb hw1 hN s1 BC
  go_enter Tryd.func60, Tryd.ntmps60
  go_upto_region 1 with fail
  rw [← HW1.out]
  go_wp2_with fail
  refine W1.out.mono ?_
  rintro e w2 ⟨gc, gp, rfl, hch, hpy, hgc, hgp, hb2⟩
  have B2 := hid hb2
  have HCH := hid hch
  have HPY := hid hpy
  obtain ⟨l0, l1, l2⟩ := KS.out w2 hb2
  clear hch hpy hb2 W1 k0 k1 k2
  obtain ⟨V, hV⟩ : ∃ V, V = valT a [] 0 N := ⟨_, rfl⟩
  rw [← hV] at FN ⊢
  have VB := hid (show 0 ≤ V ∧ V ≤ 30000000000 by rw [hV]; exact valT_bound OK.out [] 0 N)
  have HV := hid hV
  obtain ⟨w3, hw3⟩ : ∃ w3, w3 = w2.alloc (.cells #[.slice (some ⟨gc, 0, none⟩) nb nb, .int .i64 V, .slice (some ⟨gp, 0, none⟩) nb nb] 29) := ⟨_, rfl⟩
  have B3 := hid (show Below w1.heap.size w1 w3 by rw [hw3]; exact B2.out.alloc B2.out.size _)
  have LC := hid (show (bestF a.res a.bid N).length = nb by rw [bestF_len, HNB.out])
  have A3 := hid (show AwC w1.heap.size w3 w2.heap.size gc gp V (bestF a.res a.bid N) (List.replicate nb 0) by
    rw [hw3]
    refine ⟨?_, HCH.out.alloc _, ?_, B2.out.size, hgc, hgp⟩
    · rw [LC.out, List.length_replicate]; exact Cells.new w2 _ _
    · exact HPY.out.alloc _)
  have hlt0 : w.heap.size < w2.heap.size := World.block_lt_of_cell? _ _ l0
  have hlt1 : w.heap.size + 1 < w2.heap.size := Nat.lt_of_lt_of_le CR.out.lt B2.out.size
  have HW3 := hid hw3
  clear hV hw3
  go_upto_region 2 with fail
  rw [← HW3.out]
  obtain ⟨n0, n1, n2⟩ := KS.out w3 B3.out
  go_upto_region 3 with fail
  clear l0 l1 l2 n0 n1 n2
  go_loopg [10, 4] nb (fun k s10 s4 wr => ∃ i : Nat, i + k = nb ∧ s10 = .int .i64 i ∧ AwC w1.heap.size wr w2.heap.size gc gp V (bestF a.res a.bid N) ((paysF a N).take i ++ List.replicate (nb - i) 0) ∧ Below w1.heap.size w1 wr)
  case atStart => exact ⟨0, by omega, rfl, by simpa using A3.out, B3.out⟩
  case round =>
  obtain ⟨i, hik, rfl, hA, hb⟩ := hrel
  have HIK := hid hik
  have AW := hid hA
  have B := hid hb
  clear hik hA hb A3 B3
  have hcur : Below w1.heap.size w1 wr := B.out
  obtain ⟨n0, n1, n2⟩ := KS.out wr hcur
  have y0 := AW.out.aw.cell 0
  have y1 := AW.out.aw.cell 1
  have y2 := AW.out.aw.cell 2
  have LP := hid (show ((paysF a N).take i ++ List.replicate (nb - i) (0 : Int)).length = nb by simp [paysF_len, ← HNB.out]; have := HIK.out; omega)
  rw [LC.out] at y0
  rw [LP.out] at y2
  by_cases hin : i < nb
  · have hil : i < (bestF a.res a.bid N).length := by rw [LC.out]; exact hin
    have hib : i < a.bid.length := by rw [← HNB.out]; exact hin
    obtain ⟨k, hk⟩ : ∃ k, k = (bestF a.res a.bid N)[i] := ⟨_, rfl⟩
    have ck := AW.out.ch.cell hil
    rw [← hk] at ck
    have hkb := bestF_lt a.res a.bid N i k a.bid[i] (by rw [hk]; exact List.getElem?_eq_getElem hil) (List.getElem?_eq_getElem hib)
    have gin : (i : Int) < (nb : Int) := by omega
    have gi0 : (0 : Int) ≤ (i : Int) := by omega
    have HK := hid hk
    clear hk
    go_upto_region 5 with fail
    by_cases hk0 : k < 0
    · have gk : decide ((0 : Int) ≤ k) = false := by simp; omega
      have gk2 : ¬ (0 : Int) ≤ k := by omega
      have hpa : payAt a N i = 0 := by unfold payAt; rw [if_pos]; simpa [hil, ← HK.out] using hk0
      have A2 := hid (show AwC w1.heap.size wr w2.heap.size gc gp V (bestF a.res a.bid N) ((paysF a N).take (i + 1) ++ List.replicate (nb - (i + 1)) 0) by rw [← pays_none HNB.out hin hpa]; exact AW.out)
      clear hkb hk0 hpa hcur
      go_wp2
      go_roundg (nb - (i + 1))
      · exact ⟨i + 1, by omega, by go_num, A2.out, B.out⟩
      · have := HIK.out; omega
    · have gk : (0 : Int) ≤ k := by omega
      obtain ⟨P, hP⟩ : ∃ P, P = payAt a N i := ⟨_, rfl⟩
      obtain ⟨o, ho⟩ : ∃ o, o = a.bid[i].getD k.toNat ⟨0, 0⟩ := ⟨_, rfl⟩
      have hkl : k.toNat < a.bid[i].length := by omega
      have OB := hid (show 0 ≤ o.w ∧ o.w ≤ 1000000000 by
        have hm : o ∈ a.bid[i] := by rw [ho]; simp [hkl]
        exact (OK.out.ok _ (List.getElem_mem hib) o hm).2.2)
      obtain ⟨Q, hQ⟩ : ∃ Q, Q = valT a [(i : Int)] 0 N := ⟨_, rfl⟩
      have QB := hid (show 0 ≤ Q ∧ Q ≤ 30000000000 by rw [hQ]; exact valT_bound OK.out _ 0 N)
      have PE := hid (show Q - (V - o.w) = P by
        rw [hP, payAt, if_neg, ← hQ, ← HV.out, ho]
        · simp [hil, hib, ← HK.out]
        · simpa [hil, ← HK.out] using hk0)
      have A2 := hid (show ∀ w', AwC w1.heap.size w' w2.heap.size gc gp V (bestF a.res a.bid N) ((paysF a N).take i ++ List.replicate (nb - i) 0) → AwC w1.heap.size (w'.setCell ⟨gp, i, none⟩ (.int .i64 P)) w2.heap.size gc gp V (bestF a.res a.bid N) ((paysF a N).take (i + 1) ++ List.replicate (nb - (i + 1)) 0) from fun w' h => h.pay (by rw [hP]; exact pays_set HNB.out hin))
      have WC := hid (fun wx (hb : Below w1.heap.size w1 wx) vo (ho : ReadsE encI 1 wx vo [(i : Int)]) => without_calls (H.out.below (B1.out.trans (hb.mono B1.out.size))) OK.out (TO.out.below (B1.out.trans (hb.mono B1.out.size))) ho (by simp))
      rw [← HN.out, ← hQ] at WC
      have GC := hid (fun wx (hb : Below w1.heap.size w1 wx) (ha : AwC w1.heap.size wx w2.heap.size gc gp V (bestF a.res a.bid N) ((paysF a N).take i ++ List.replicate (nb - i) 0)) => given_calls (g := g) (vp := .slice (some ⟨gp, 0, none⟩) nb nb) (tot := V) (H.out.below (B1.out.trans (hb.mono B1.out.size))) (ha.ch.reads (by rw [LC.out]; omega) nb) rfl hil hib (by rw [← HK.out]; omega) (by rw [LC.out]; omega) (by rw [← HNB.out]; omega) (by have := OK.out.ol _ (List.getElem_mem hib); omega))
      rw [LC.out, ← HK.out, if_neg hk0, ← ho, ofV] at GC
      obtain ⟨ow, how⟩ : ∃ ow, ow = o.w := ⟨_, rfl⟩
      rw [← how] at GC OB PE
      have ew1 : IntKind.i64.wrap (V - ow) = V - ow := IntWalk.i64_in _ (by have := VB.out; have := OB.out; omega)
      have ew2 : IntKind.i64.wrap (Q - (V - ow)) = P := by rw [IntWalk.i64_in _ (by have := VB.out; have := OB.out; have := QB.out; omega)]; exact PE.out
      have AX := hid AW.out
      have hlb : w.heap.size < w1.heap.size := CA.out.lt
      have yp := AW.out.py.cellD (i := i) (by rw [LP.out]; exact hin) 0
      clear hk0 hkb how ho hkl hP hQ
      go_upto_region 6 with fail
      have hlr1 : w2.heap.size < wr.heap.size := AW.out.aw.lt
      have hlr0 : w.heap.size < wr.heap.size := by omega
      have hlr2 : gp < wr.heap.size := AW.out.py.lt
      have ff : ∀ (l x : Int) (w : World), (Instr.field 54 (.agg #[.int .u32 l, .int .i64 x]) 1).run Tryd.prog w = .ok (.int .i64 x) w := fun _ _ _ => by kernel_rfl
      clear ck gk y0 y1 y2
      obtain ⟨y0, y1, y2, yf, yp⟩ := AW.out.cells LC.out LP.out hin
      have K6 := hid (show ∀ wx, Below w1.heap.size w1 wx → AwC w1.heap.size wx w2.heap.size gc gp V (bestF a.res a.bid N) ((paysF a N).take i ++ List.replicate (nb - i) 0) → wx.cell? ⟨w.heap.size, 0, none⟩ = some (.int .i64 g) ∧ wx.cell? ⟨w.heap.size, 1, none⟩ = some (.slice pr g cr) ∧ wx.cell? ⟨w.heap.size, 2, none⟩ = some (.slice pb nb cbp) ∧ wx.cell? ⟨w2.heap.size, 0, none⟩ = some (.slice (some ⟨gc, 0, none⟩) nb nb) ∧ wx.cell? ⟨w2.heap.size, 1, none⟩ = some (.int .i64 V) ∧ wx.cell? ⟨w2.heap.size, 2, none⟩ = some (.slice (some ⟨gp, 0, none⟩) nb nb) from fun wx h1 h2 => by
        obtain ⟨n0, n1, n2⟩ := KS.out wx h1
        obtain ⟨y0, y1, y2, yf, yp⟩ := h2.cells LC.out LP.out hin
        exact ⟨n0, n1, n2, y0, y1, y2⟩)
      have hne0 : w.heap.size ≠ gp := by omega
      have hne1 : w2.heap.size ≠ gp := AW.out.aw.ne AW.out.py (by decide)
      go_region_held3 (fun wx => wx.cell? ⟨w.heap.size, 0, none⟩ = some (.int .i64 g) ∧ wx.cell? ⟨w.heap.size, 1, none⟩ = some (.slice pr g cr) ∧ wx.cell? ⟨w.heap.size, 2, none⟩ = some (.slice pb nb cbp) ∧ wx.cell? ⟨w2.heap.size, 0, none⟩ = some (.slice (some ⟨gc, 0, none⟩) nb nb) ∧ wx.cell? ⟨w2.heap.size, 1, none⟩ = some (.int .i64 V) ∧ wx.cell? ⟨w2.heap.size, 2, none⟩ = some (.slice (some ⟨gp, 0, none⟩) nb nb))
        (first | exact K6.out _ hcur AW.out | exact K6.out _ hcur.drew AW.out.drew | exact K6.out _ (hcur.alloc hcur.size _) (AW.out.alloc _) | exact K6.out _ (hcur.alloc hcur.size _).drew (AW.out.alloc _).drew | exact ⟨cell_set_other hne0 n0, cell_set_other hne0 n1, cell_set_other hne0 n2, cell_set_other hne1 y0, cell_set_other hne1 y1, cell_set_other hne1 y2⟩)
        (first
          | (go_at_call 75; (first
              | (refine (WC.out _ ?_ _ ?_).mono ?_; (first | exact hcur.alloc hcur.size _ | exact (hcur.alloc hcur.size _).drew); first | exact reads_one wr i | exact (reads_one wr i).drewN 1)
              | fail);
             rintro e w5 ⟨rfl, hb5⟩
             have H56 : Below wr.heap.size wr w5 := by first | exact ((Below.refl wr.heap.size wr).alloc (Nat.le_refl _) _).trans (hb5.mono (by simp)) | exact (((Below.refl wr.heap.size wr).alloc (Nat.le_refl _) _).drew).trans (hb5.mono (by simp))
             replace AW := hid (AW.out.below H56)
             replace hcur := hcur.trans (H56.mono hcur.size)
             have ⟨n0, n1, n2⟩ := KS.out _ hcur
             have ⟨y0, y1, y2, yf, yp⟩ := AW.out.cells LC.out LP.out hin
             clear hb5 H56)
          | (go_at_call 79; (first
              | (refine (GC.out _ ?_ ?_).mono ?_; (first | exact hcur | exact hcur.drew); first | exact AW.out | exact AW.out.drew)
              | fail);
             rintro e w6 ⟨rfl, hb6⟩
             replace AW := hid (AW.out.below hb6)
             replace hcur := hcur.trans (hb6.mono hcur.size)
             have ⟨n0, n1, n2⟩ := KS.out _ hcur
             have ⟨y0, y1, y2, yf, yp⟩ := AW.out.cells LC.out LP.out hin
             clear hb6)
          | fail)
      all_goals (
        have A7 := hid (A2.out w6 AW.out)
        have B7 := hid (show Below w1.heap.size w1 (w6.setCell ⟨gp, i, none⟩ (.int .i64 P)) from hcur.trans (Kept.below ((Kept.refl (fun k => k = gp) w6).set (C := gp) rfl _ _) hcur.size (fun k hk => by rw [hk]; exact hgp)))
        clear hcur n0 n1 n2 y0 y1 y2 yf yp
        go_wp2
        go_roundg (nb - (i + 1))
        · exact ⟨i + 1, by omega, by go_num, A7.out, B7.out⟩
        · have := HIK.out; omega)
  obtain rfl : i = nb := by have := HIK.out; omega
  have g1 : decide ((i : Int) < (i : Int)) = false := by simp
  have AE := AW.out
  rw [pays_end HNB.out] at AE
  have AF := hid AE
  have CRX := hid (CR.out.below hcur CR.out.lt)
  have f0 := CRX.out.frozen 0
  have f1 := CRX.out.frozen 1
  have f2 := CRX.out.frozen 2
  have r0 : wr.cell? ⟨w.heap.size + 1, 0, none⟩ = some (.slice none 0 0) := by rw [CRX.out.cell]; rfl
  have r1 : wr.cell? ⟨w.heap.size + 1, 1, none⟩ = some (.int .i64 0) := by rw [CRX.out.cell]; rfl
  have r2 : wr.cell? ⟨w.heap.size + 1, 2, none⟩ = some (.slice none 0 0) := by rw [CRX.out.cell]; rfl
  have gcl := AF.out.gc
  have gpl := AF.out.gp
  have bws := B1.out.size
  have hb9 := hid (B1.out.trans (hcur.mono bws))
  clear hcur AE n0 n1 n2
  go_wp2
  obtain ⟨z1, z2⟩ := set3_spec CRX.out (.slice (some ⟨gc, 0, none⟩) i i) (.int .i64 V) (.slice (some ⟨gp, 0, none⟩) i i)
  change bodyPost _ _ _ _ _ (set3 wr (w.heap.size + 1) (.slice (some ⟨gc, 0, none⟩) i i) (.int .i64 V) (.slice (some ⟨gp, 0, none⟩) i i))
  obtain ⟨w9, hw9⟩ : ∃ w9, w9 = set3 wr (w.heap.size + 1) (.slice (some ⟨gc, 0, none⟩) i i) (.int .i64 V) (.slice (some ⟨gp, 0, none⟩) i i) := ⟨_, rfl⟩
  rw [← hw9] at z1 z2 ⊢
  clear hw9
  have m0 : w9.cell? ⟨w.heap.size + 1, 0, none⟩ = some (.slice (some ⟨gc, 0, none⟩) i i) := by rw [z1.cell]; rfl
  have m1 : w9.cell? ⟨w.heap.size + 1, 1, none⟩ = some (.int .i64 V) := by rw [z1.cell]; rfl
  have m2 : w9.cell? ⟨w.heap.size + 1, 2, none⟩ = some (.slice (some ⟨gp, 0, none⟩) i i) := by rw [z1.cell]; rfl
  have hcr := CR.out.lt
  exact bodyPost_ret (v := .agg #[.slice (some ⟨gc, 0, none⟩) i i, .int .i64 V, .slice (some ⟨gp, 0, none⟩) i i]) (by simp [results, Tryd.results60, go_sem, m0, m1, m2]) rfl (FN.out gc gp w9 (AF.out.ch.kept z2 (by omega)) (AF.out.py.kept z2 (by omega)) (by omega) (by omega) (hb9.out.trans (z2.below hb9.out.size (fun k hk => by omega))))
end Go.Proofs.YtojednnciknhpaaDoor
namespace Go.Proofs.YtojednnciknhpaaDoor
set_option linter.unusedSimpArgs false
set_option linter.unusedVariables false
open Go.RowKit
attribute [local go_sem] Oper.semAt_some
attribute [local go_sem ↓] Go.wp_at_zero Go.wp_at_succ
def zAw : Value := .agg #[.slice none 0 0, .int .i64 0, .slice none 0 0]
/-- A boxed auction and a result's cell behind it. -/
structure Box2 (w w1 : World) (g : Int) (vr vb : Value) : Prop where
  b1 : Below w.heap.size w w1
  ca : Cells w1 w.heap.size #[.int .i64 g, vr, vb] 35
  cr : Cells w1 (w.heap.size + 1) #[.slice none 0 0, .int .i64 0, .slice none 0 0] 29
theorem Box2.start (w : World) (g : Int) (vr vb : Value) : Box2 w ((w.alloc (.cells #[.int .i64 g, vr, vb] 35)).alloc (.cells #[.slice none 0 0, .int .i64 0, .slice none 0 0] 29)) g vr vb := by
  have s1 : ∀ o, (w.alloc o).heap.size = w.heap.size + 1 := fun o => by simp
  refine ⟨((Below.refl _ _).alloc (Nat.le_refl _) _).alloc (by simp) _, (Cells.new w _ _).alloc _, ?_⟩
  have := Cells.new (w.alloc (.cells #[.int .i64 g, vr, vb] 35)) #[.slice none 0 0, .int .i64 0, .slice none 0 0] 29
  rw [s1] at this
  exact this
/-- A boxed auction. -/
structure Box1 (w w1 : World) (g : Int) (vr vb : Value) : Prop where
  b1 : Below w.heap.size w w1
  ca : Cells w1 w.heap.size #[.int .i64 g, vr, vb] 35
theorem Box1.start (w : World) (g : Int) (vr vb : Value) : Box1 w (w.alloc (.cells #[.int .i64 g, vr, vb] 35)) g vr vb :=
  ⟨(Below.refl _ _).alloc (Nat.le_refl _) _, Cells.new w _ _⟩
theorem au_cells {w1 wx : World} {B : Nat} {g : Int} {vr vb : Value} (ca : Cells w1 B #[.int .i64 g, vr, vb] 35) (hb : Below w1.heap.size w1 wx) : wx.cell? ⟨B, 0, none⟩ = some (.int .i64 g) ∧ wx.cell? ⟨B, 1, none⟩ = some vr ∧ wx.cell? ⟨B, 2, none⟩ = some vb := by
  have c := ca.below hb ca.lt
  refine ⟨?_, ?_, ?_⟩ <;> (rw [c.cell]; rfl)
/-- The values of an auction's slices. -/
theorem AuV.form {w : World} {vr vb : Value} {a : Au} (h : AuV w vr vb a) : (∃ pr cr, vr = .slice pr a.res.length cr) ∧ ∃ pb cb, vb = .slice pb a.bid.length cb := by
  obtain ⟨_, pr, cr, _, _, hvr, _, _⟩ := h.res
  obtain ⟨vs, ⟨_, pb, cb, _, _, hvb, _, _⟩, hvl, _⟩ := h.bid
  exact ⟨⟨pr, cr, hvr⟩, pb, cb, by rw [← hvl]; exact hvb⟩

set_option maxRecDepth 100000 in
set_option maxHeartbeats 4000000 in
theorem solve_bad {w : World} {vr vb : Value} {a : Au} (h : AuV w vr vb a) (hlr : a.res.length ≤ 100000) (hlb : a.bid.length ≤ 100000) (h0 : chkA a ≠ 0) :
    Calls Tryd.prog 19 #[.agg #[.int .i64 a.g, vr, vb]] w fun e w' => e = .returned (.tuple #[zAw, .int .i64 (chkA a)]) ∧ Below w.heap.size w w' := by
  have CH := hid (fun (wx : World) (hb : Below w.heap.size w wx) => check_calls (h.below hb) hlr hlb)
  obtain ⟨R, hR⟩ : ∃ R : Ending → World → Prop, R = fun e w' => e = .returned (.tuple #[zAw, .int .i64 (chkA a)]) ∧ Below w.heap.size w w' := ⟨_, rfl⟩
  rw [← hR]
  have FN := hid (show ∀ w', Below w.heap.size w w' → R (.returned (.tuple #[zAw, .int .i64 (chkA a)])) w' from fun w' b => by rw [hR]; exact ⟨rfl, b⟩)
  clear hR
  obtain ⟨c, hc⟩ : ∃ c, c = chkA a := ⟨_, rfl⟩
  rw [← hc] at CH FN h0
  have e1 : (c == 0) = false := by simpa using h0
  have e2 : (c != 0) = true := by simpa using h0
  obtain ⟨g, hg⟩ : ∃ g, g = a.g := ⟨_, rfl⟩
  rw [← hg] at CH ⊢
  obtain ⟨⟨pr, cr, hvr⟩, pb, cbp, hvb⟩ := h.form
  obtain ⟨nr, hnr⟩ : ∃ nr, nr = a.res.length := ⟨_, rfl⟩
  obtain ⟨nb, hnb⟩ : ∃ nb, nb = a.bid.length := ⟨_, rfl⟩
  rw [← hnr] at hvr
  rw [← hnb] at hvb
  subst hvr hvb
  have X := hid (Box2.start w g (.slice pr nr cr) (.slice pb nb cbp))
  obtain ⟨w1, hw1⟩ : ∃ w1, w1 = (w.alloc (.cells #[.int .i64 g, .slice pr nr cr, .slice pb nb cbp] 35)).alloc (.cells #[.slice none 0 0, .int .i64 0, .slice none 0 0] 29) := ⟨_, rfl⟩
  rw [← hw1] at X
  have HW1 := hid hw1
  have C1 := hid (CH.out w1 X.out.b1)
  obtain ⟨k0, k1, k2⟩ := au_cells X.out.ca (Below.refl _ _)
  clear hc hg hnr hnb hw1 h h0 hlr hlb CH
  go_enter Tryd.func19, Tryd.ntmps19
  go_upto_region 1 with fail
  rw [← HW1.out]
  go_wp2_with fail
  refine C1.out.mono ?_
  rintro e w2 ⟨rfl, hb2⟩
  have CR2 := hid (X.out.cr.below hb2 X.out.cr.lt)
  have B2 := hid (X.out.b1.trans (hb2.mono X.out.b1.size))
  have f0 := CR2.out.frozen 0
  have f1 := CR2.out.frozen 1
  have f2 := CR2.out.frozen 2
  have r0 : w2.cell? ⟨w.heap.size + 1, 0, none⟩ = some (.slice none 0 0) := by rw [CR2.out.cell]; rfl
  have r1 : w2.cell? ⟨w.heap.size + 1, 1, none⟩ = some (.int .i64 0) := by rw [CR2.out.cell]; rfl
  have r2 : w2.cell? ⟨w.heap.size + 1, 2, none⟩ = some (.slice none 0 0) := by rw [CR2.out.cell]; rfl
  clear hb2 C1 k0 k1 k2
  go_wp2
  obtain ⟨z1, z2⟩ := set3_spec CR2.out (.slice none 0 0) (.int .i64 0) (.slice none 0 0)
  change bodyPost _ _ _ _ _ (set3 w2 (w.heap.size + 1) (.slice none 0 0) (.int .i64 0) (.slice none 0 0))
  obtain ⟨w9, hw9⟩ : ∃ w9, w9 = set3 w2 (w.heap.size + 1) (.slice none 0 0) (.int .i64 0) (.slice none 0 0) := ⟨_, rfl⟩
  rw [← hw9] at z1 z2 ⊢
  clear hw9
  have m0 : w9.cell? ⟨w.heap.size + 1, 0, none⟩ = some (.slice none 0 0) := by rw [z1.cell]; rfl
  have m1 : w9.cell? ⟨w.heap.size + 1, 1, none⟩ = some (.int .i64 0) := by rw [z1.cell]; rfl
  have m2 : w9.cell? ⟨w.heap.size + 1, 2, none⟩ = some (.slice none 0 0) := by rw [z1.cell]; rfl
  exact bodyPost_ret (v := .tuple #[.agg #[.slice none 0 0, .int .i64 0, .slice none 0 0], .int .i64 c]) (by simp [results, Tryd.results19, go_sem, m0, m1, m2]) rfl (FN.out w9 (B2.out.trans (z2.below B2.out.size (fun k hk => by omega))))

/-- What Solve leaves. -/
def SolvedV (a : Au) (g : Nat) (w w' : World) (gc gp : Nat) : Prop := RN w' gc (bestF a.res a.bid (2 ^ g - 1)) ∧ RI w' gp (paysF a (2 ^ g - 1)) ∧ w.heap.size ≤ gc ∧ w.heap.size ≤ gp ∧ Below w.heap.size w w'
def awV (a : Au) (g : Nat) (gc gp : Nat) : Value := .agg #[.slice (some ⟨gc, 0, none⟩) a.bid.length a.bid.length, .int .i64 (valT a [] 0 (2 ^ g - 1)), .slice (some ⟨gp, 0, none⟩) a.bid.length a.bid.length]

set_option maxRecDepth 100000 in
set_option maxHeartbeats 4000000 in
theorem solve_calls {w : World} {vr vb : Value} {a : Au} {g : Nat} (h : AuV w vr vb a) (h0 : chkA a = 0) (ok : OkA a g) (hT : TabOk w) :
    Calls Tryd.prog 19 #[.agg #[.int .i64 g, vr, vb]] w fun e w' => ∃ gc gp, e = .returned (.tuple #[awV a g gc gp, .int .i64 0]) ∧ SolvedV a g w w' gc gp := by
  have CH := hid (fun (wx : World) (hb : Below w.heap.size w wx) => check_calls (h.below hb) (by rw [ok.rl]; have := ok.g10; omega) (by have := ok.bl; omega))
  rw [h0, ok.hg] at CH
  have SC := hid (fun (wx : World) (hb : Below w.heap.size w wx) => solved_calls (h.below hb) ok (hT.below hb))
  obtain ⟨R, hR⟩ : ∃ R : Ending → World → Prop, R = fun e w' => ∃ gc gp, e = .returned (.tuple #[awV a g gc gp, .int .i64 0]) ∧ SolvedV a g w w' gc gp := ⟨_, rfl⟩
  rw [← hR]
  obtain ⟨nb, hnb⟩ : ∃ nb, nb = a.bid.length := ⟨_, rfl⟩
  obtain ⟨V, hV⟩ : ∃ V, V = valT a [] 0 (2 ^ g - 1) := ⟨_, rfl⟩
  have FN := hid (show ∀ gc gp w', SolvedV a g w w' gc gp → R (.returned (.tuple #[.agg #[.slice (some ⟨gc, 0, none⟩) nb nb, .int .i64 V, .slice (some ⟨gp, 0, none⟩) nb nb], .int .i64 0])) w' from fun gc gp w' b => by rw [hR, hnb, hV]; exact ⟨gc, gp, rfl, b⟩)
  clear hR
  obtain ⟨⟨pr, cr, hvr⟩, pb, cbp, hvb⟩ := h.form
  rw [ok.rl] at hvr
  rw [← hnb] at hvb SC
  rw [← hV] at SC
  subst hvr hvb
  have X := hid (Box2.start w g (.slice pr g cr) (.slice pb nb cbp))
  obtain ⟨w1, hw1⟩ : ∃ w1, w1 = (w.alloc (.cells #[.int .i64 g, .slice pr g cr, .slice pb nb cbp] 35)).alloc (.cells #[.slice none 0 0, .int .i64 0, .slice none 0 0] 29) := ⟨_, rfl⟩
  rw [← hw1] at X
  have HW1 := hid hw1
  have C1 := hid (CH.out w1 X.out.b1)
  obtain ⟨k0, k1, k2⟩ := au_cells X.out.ca (Below.refl _ _)
  clear hw1 h h0 CH ok hT hnb hV
  go_enter Tryd.func19, Tryd.ntmps19
  go_upto_region 1 with fail
  rw [← HW1.out]
  go_wp2_with fail
  refine C1.out.mono ?_
  rintro e w2 ⟨rfl, hb2⟩
  have HB2 := hid hb2
  have B2 := hid (X.out.b1.trans (hb2.mono X.out.b1.size))
  have S2 := hid (SC.out w2 B2.out)
  obtain ⟨l0, l1, l2⟩ := au_cells X.out.ca hb2
  clear hb2 C1 k0 k1 k2 SC
  go_wp2_with fail
  refine S2.out.mono ?_
  rintro e w3 ⟨gc, gp, rfl, s1, s2, s3, s4, s5⟩
  have CR3 := hid (X.out.cr.below (HB2.out.trans (s5.mono HB2.out.size)) X.out.cr.lt)
  have B3 := hid (B2.out.trans (s5.mono B2.out.size))
  have SX := hid (show RN w3 gc (bestF a.res a.bid (2 ^ g - 1)) ∧ RI w3 gp (paysF a (2 ^ g - 1)) ∧ w2.heap.size ≤ gc ∧ w2.heap.size ≤ gp from ⟨s1, s2, s3, s4⟩)
  have lt2 := hid (show w.heap.size + 1 < w2.heap.size from Nat.lt_of_lt_of_le X.out.cr.lt HB2.out.size)
  have f0 := CR3.out.frozen 0
  have f1 := CR3.out.frozen 1
  have f2 := CR3.out.frozen 2
  have r0 : w3.cell? ⟨w.heap.size + 1, 0, none⟩ = some (.slice none 0 0) := by rw [CR3.out.cell]; rfl
  have r1 : w3.cell? ⟨w.heap.size + 1, 1, none⟩ = some (.int .i64 0) := by rw [CR3.out.cell]; rfl
  have r2 : w3.cell? ⟨w.heap.size + 1, 2, none⟩ = some (.slice none 0 0) := by rw [CR3.out.cell]; rfl
  clear s1 s2 s3 s4 s5 S2 l0 l1 l2
  go_wp2
  obtain ⟨z1, z2⟩ := set3_spec CR3.out (.slice (some ⟨gc, 0, none⟩) nb nb) (.int .i64 V) (.slice (some ⟨gp, 0, none⟩) nb nb)
  change bodyPost _ _ _ _ _ (set3 w3 (w.heap.size + 1) (.slice (some ⟨gc, 0, none⟩) nb nb) (.int .i64 V) (.slice (some ⟨gp, 0, none⟩) nb nb))
  obtain ⟨w9, hw9⟩ : ∃ w9, w9 = set3 w3 (w.heap.size + 1) (.slice (some ⟨gc, 0, none⟩) nb nb) (.int .i64 V) (.slice (some ⟨gp, 0, none⟩) nb nb) := ⟨_, rfl⟩
  rw [← hw9] at z1 z2 ⊢
  clear hw9
  have m0 : w9.cell? ⟨w.heap.size + 1, 0, none⟩ = some (.slice (some ⟨gc, 0, none⟩) nb nb) := by rw [z1.cell]; rfl
  have m1 : w9.cell? ⟨w.heap.size + 1, 1, none⟩ = some (.int .i64 V) := by rw [z1.cell]; rfl
  have m2 : w9.cell? ⟨w.heap.size + 1, 2, none⟩ = some (.slice (some ⟨gp, 0, none⟩) nb nb) := by rw [z1.cell]; rfl
  obtain ⟨t1, t2, t3, t4⟩ := SX.out
  have lt2' := lt2.out
  exact bodyPost_ret (v := .tuple #[.agg #[.slice (some ⟨gc, 0, none⟩) nb nb, .int .i64 V, .slice (some ⟨gp, 0, none⟩) nb nb], .int .i64 0]) (by simp [results, Tryd.results19, go_sem, m0, m1, m2]) rfl (FN.out gc gp w9 ⟨t1.kept z2 (by omega), t2.kept z2 (by omega), by omega, by omega, B3.out.trans (z2.below B3.out.size (fun k hk => by omega))⟩)

set_option maxRecDepth 100000 in
set_option maxHeartbeats 4000000 in
theorem without_bad {w : World} {vr vb : Value} {a : Au} (b : Int) (h : AuV w vr vb a) (hlr : a.res.length ≤ 100000) (hlb : a.bid.length ≤ 100000) (h0 : chkA a ≠ 0) :
    Calls Tryd.prog 35 #[.agg #[.int .i64 a.g, vr, vb], .int .i64 b] w fun e w' => e = .returned (.tuple #[.int .i64 0, .int .i64 (chkA a)]) ∧ Below w.heap.size w w' := by
  have CH := hid (fun (wx : World) (hb : Below w.heap.size w wx) => check_calls (h.below hb) hlr hlb)
  obtain ⟨R, hR⟩ : ∃ R : Ending → World → Prop, R = fun e w' => e = .returned (.tuple #[.int .i64 0, .int .i64 (chkA a)]) ∧ Below w.heap.size w w' := ⟨_, rfl⟩
  rw [← hR]
  have FN := hid (show ∀ w', Below w.heap.size w w' → R (.returned (.tuple #[.int .i64 0, .int .i64 (chkA a)])) w' from fun w' b => by rw [hR]; exact ⟨rfl, b⟩)
  clear hR
  obtain ⟨c, hc⟩ : ∃ c, c = chkA a := ⟨_, rfl⟩
  rw [← hc] at CH FN h0
  have e1 : (c == 0) = false := by simpa using h0
  have e2 : (c != 0) = true := by simpa using h0
  obtain ⟨g, hg⟩ : ∃ g, g = a.g := ⟨_, rfl⟩
  rw [← hg] at CH ⊢
  obtain ⟨⟨pr, cr, hvr⟩, pb, cbp, hvb⟩ := h.form
  obtain ⟨nr, hnr⟩ : ∃ nr, nr = a.res.length := ⟨_, rfl⟩
  obtain ⟨nb, hnb⟩ : ∃ nb, nb = a.bid.length := ⟨_, rfl⟩
  rw [← hnr] at hvr
  rw [← hnb] at hvb
  subst hvr hvb
  have X := hid (Box1.start w g (.slice pr nr cr) (.slice pb nb cbp))
  obtain ⟨w1, hw1⟩ : ∃ w1, w1 = w.alloc (.cells #[.int .i64 g, .slice pr nr cr, .slice pb nb cbp] 35) := ⟨_, rfl⟩
  rw [← hw1] at X
  have HW1 := hid hw1
  have C1 := hid (CH.out w1 X.out.b1)
  obtain ⟨k0, k1, k2⟩ := au_cells X.out.ca (Below.refl _ _)
  clear hc hg hnr hnb hw1 h h0 hlr hlb CH
  go_enter Tryd.func35, Tryd.ntmps35
  go_upto_region 1 with fail
  rw [← HW1.out]
  go_wp2_with fail
  refine C1.out.mono ?_
  rintro e w2 ⟨rfl, hb2⟩
  have F := hid (FN.out w2 (X.out.b1.trans (hb2.mono X.out.b1.size)))
  clear hb2 C1 k0 k1 k2
  go_wp2
  first | exact F.out | (go_ret; exact F.out)

set_option maxRecDepth 100000 in
set_option maxHeartbeats 4000000 in
theorem withoutB_calls {w : World} {vr vb : Value} {a : Au} {g : Nat} (b : Int) (h : AuV w vr vb a) (h0 : chkA a = 0) (ok : OkA a g) (hT : TabOk w) :
    Calls Tryd.prog 35 #[.agg #[.int .i64 g, vr, vb], .int .i64 b] w fun e w' => e = .returned (if 0 ≤ b ∧ b < a.bid.length then .tuple #[.int .i64 (valT a [b] 0 (2 ^ g - 1)), .int .i64 0] else .tuple #[.int .i64 0, .int .i64 4]) ∧ Below w.heap.size w w' := by
  have CH := hid (fun (wx : World) (hb : Below w.heap.size w wx) => check_calls (h.below hb) (by rw [ok.rl]; have := ok.g10; omega) (by have := ok.bl; omega))
  rw [h0, ok.hg] at CH
  have SC := hid (fun (wx : World) (hb : Below w.heap.size w wx) (i : Nat) => without_calls (out := [(i : Int)]) ((h.below hb).below ((Below.refl wx.heap.size wx).alloc (Nat.le_refl _) _)) ok ((hT.below hb).below ((Below.refl wx.heap.size wx).alloc (Nat.le_refl _) _)) (reads_one wx i) (by simp))
  obtain ⟨R, hR⟩ : ∃ R : Ending → World → Prop, R = fun e w' => e = .returned (if 0 ≤ b ∧ b < a.bid.length then .tuple #[.int .i64 (valT a [b] 0 (2 ^ g - 1)), .int .i64 0] else .tuple #[.int .i64 0, .int .i64 4]) ∧ Below w.heap.size w w' := ⟨_, rfl⟩
  rw [← hR]
  obtain ⟨nb, hnb⟩ : ∃ nb, nb = a.bid.length := ⟨_, rfl⟩
  have FN := hid (show ∀ v w', v = (if 0 ≤ b ∧ b < (nb : Int) then Value.tuple #[.int .i64 (valT a [b] 0 (2 ^ g - 1)), .int .i64 0] else .tuple #[.int .i64 0, .int .i64 4]) → Below w.heap.size w w' → R (.returned v) w' from fun v w' e b => by rw [hR, e, hnb]; exact ⟨rfl, b⟩)
  clear hR
  have nb12 := ok.bl
  rw [← hnb] at nb12
  obtain ⟨⟨pr, cr, hvr⟩, pb, cbp, hvb⟩ := h.form
  rw [ok.rl] at hvr
  rw [← hnb] at hvb
  subst hvr hvb
  have X := hid (Box1.start w g (.slice pr g cr) (.slice pb nb cbp))
  obtain ⟨w1, hw1⟩ : ∃ w1, w1 = w.alloc (.cells #[.int .i64 g, .slice pr g cr, .slice pb nb cbp] 35) := ⟨_, rfl⟩
  rw [← hw1] at X
  have HW1 := hid hw1
  have C1 := hid (CH.out w1 X.out.b1)
  obtain ⟨k0, k1, k2⟩ := au_cells X.out.ca (Below.refl _ _)
  clear hw1 h h0 CH ok hT hnb
  go_enter Tryd.func35, Tryd.ntmps35
  go_upto_region 1 with fail
  rw [← HW1.out]
  go_wp2_with fail
  refine C1.out.mono ?_
  rintro e w2 ⟨rfl, hb2⟩
  have HB2 := hid hb2
  have B2 := hid (X.out.b1.trans (hb2.mono X.out.b1.size))
  obtain ⟨l0, l1, l2⟩ := au_cells X.out.ca hb2
  have hlt := hid (show w.heap.size < w2.heap.size from Nat.lt_of_lt_of_le X.out.ca.lt hb2.size)
  clear hb2 C1 k0 k1 k2
  by_cases hb0 : b < 0
  · have F := hid (FN.out _ w2 (if_neg (by omega)).symm B2.out)
    clear FN SC
    go_wp2
    first | exact F.out | (go_ret; exact F.out)
  · have g0 : 0 ≤ b := by omega
    by_cases hbn : b < (nb : Int)
    · obtain ⟨i, rfl⟩ : ∃ i : Nat, b = (i : Int) := ⟨b.toNat, by omega⟩
      have FN1 := hid (fun w' h => FN.out _ w' (if_pos ⟨g0, hbn⟩).symm h)
      have gf : decide ((nb : Int) ≤ (i : Int)) = false := by simp; omega
      have gf2 : decide ((i : Int) < 0) = false := by simp
      have S2 := hid (SC.out w2 B2.out i)
      obtain ⟨N, hN⟩ : ∃ N, N = valT a [(i : Int)] 0 (2 ^ g - 1) := ⟨_, rfl⟩
      rw [← hN] at S2 FN1
      clear FN SC hN hb0
      go_upto_region 6 with fail
      go_wp2_with fail
      refine S2.out.mono ?_
      rintro e w3 ⟨rfl, hb3⟩
      have F := hid (FN1.out w3 (B2.out.trans ((((Below.refl w2.heap.size w2).alloc (Nat.le_refl _) _).trans (hb3.mono (by simp))).mono B2.out.size)))
      clear hb3 S2 FN1
      go_wp2
      first | exact F.out | (go_ret; exact F.out)
    · have F := hid (FN.out _ w2 (if_neg (by omega)).symm B2.out)
      have gt : decide ((nb : Int) ≤ b) = true := by simp; omega
      have gt2 : (nb : Int) ≤ b := by omega
      clear FN SC
      go_wp2
      first | exact F.out | (go_ret; exact F.out)
end Go.Proofs.YtojednnciknhpaaDoor
namespace Go.Proofs.YtojednnciknhpaaDoor
set_option linter.unusedSimpArgs false
set_option linter.unusedVariables false
open Go.RowKit
attribute [local go_sem] Oper.semAt_some
attribute [local go_sem ↓] Go.wp_at_zero Go.wp_at_succ
/-- A number from 0 to m. -/
def smlF (n m : Int) : Int := IntKind.u64.wrap n % (m + 1)
theorem u64_nonneg (x : Int) : 0 ≤ IntKind.u64.wrap x := by simp only [IntKind.wrap, IntKind.signed, IntKind.bits]; simp; omega
theorem smlF_range (n m : Int) (h : 0 ≤ m) : 0 ≤ smlF n m ∧ smlF n m ≤ m := by
  unfold smlF
  have h1 := Int.emod_nonneg (IntKind.u64.wrap n) (show m + 1 ≠ 0 by omega)
  have h2 := Int.emod_lt_of_pos (IntKind.u64.wrap n) (show 0 < m + 1 by omega)
  omega
set_option maxRecDepth 100000 in
set_option maxHeartbeats 1000000 in
theorem small_calls (n m : Int) (h0 : 0 ≤ m) (h1 : m ≤ 1000000) (w : World) : Calls Tryd.prog 32 #[.int .i64 n, .int .i64 m] w fun e w' => e = .returned (.int .i64 (smlF n m)) ∧ w' = w := by
  obtain ⟨R, hR⟩ : ∃ R : Ending → World → Prop, R = fun e w' => e = .returned (.int .i64 (smlF n m)) ∧ w' = w := ⟨_, rfl⟩
  rw [← hR]
  have hr := smlF_range n m h0
  have e1 : IntKind.i64.wrap (m + 1) = m + 1 := IntWalk.i64_in _ (by omega)
  have e2 : IntKind.u64.wrap (m + 1) = m + 1 := IntWalk.u64_in _ (by omega)
  have e3 : (IntKind.u64.wrap n).tmod (m + 1) = smlF n m := Int.tmod_eq_emod_of_nonneg (u64_nonneg n)
  have e4 : IntKind.i64.wrap (smlF n m) = smlF n m := IntWalk.i64_in _ (by omega)
  have e5 : ¬ (m + 1 = 0) := by omega
  have F := hid (show R (.returned (.int .i64 (smlF n m))) w by rw [hR]; exact ⟨rfl, rfl⟩)
  clear hR hr
  go_enter Tryd.func32, Tryd.ntmps32
  go_wp2
  first | exact F.out | (go_ret; exact F.out)

set_option maxRecDepth 100000 in
set_option maxHeartbeats 4000000 in
/-- Two rows of the same numbers. -/
theorem ints_calls {w : World} {v v' : Value} {l : List Int} (hv : ReadsE encI 1 w v l) (hv' : ReadsE encI 1 w v' l) :
    Calls Tryd.prog 22 #[v, v'] w fun e w' => e = .returned (.bool true) ∧ Below w.heap.size w w' := by
  obtain ⟨hm, p, cap, bb, off, rfl, hp, hc⟩ := hv
  obtain ⟨_, p2, cap2, b2, off2, rfl, hp2, hc2⟩ := hv'
  obtain ⟨n, hn⟩ : ∃ n, n = l.length := ⟨_, rfl⟩
  obtain ⟨R, hR⟩ : ∃ R : Ending → World → Prop, R = fun e w' => e = .returned (.bool true) ∧ Below w.heap.size w w' := ⟨_, rfl⟩
  rw [← hR]
  have FN := hid (show ∀ w', Below w.heap.size w w' → R (.returned (.bool true)) w' from fun w' h => by rw [hR]; exact ⟨rfl, h⟩)
  rw [← hn] at hp hp2 hm ⊢
  have HN := hid hn
  have HP := hid hp
  have HC := hid hc
  have HP2 := hid hp2
  have HC2 := hid hc2
  have g0 : ((n : Int) != (n : Int)) = false := by simp
  clear hR hn hp hc hp2 hc2
  go_enter Tryd.func22, Tryd.ntmps22
  go_upto_region 4 with fail
  go_loopg [5] n (fun k s5 wr => ∃ i : Nat, i + k = n ∧ s5 = .int .i64 i ∧ Below w.heap.size w wr)
  case atStart => exact ⟨0, by omega, rfl, Below.refl _ _⟩
  case round =>
    obtain ⟨i, hik, rfl, hb⟩ := hrel
    have HIK := hid hik
    have B := hid hb
    clear hik hb
    by_cases hin : i < n
    · have hil : i < l.length := by rw [← HN.out]; exact hin
      obtain ⟨rfl, hbb⟩ := HP.out (by omega)
      obtain ⟨rfl, hbb2⟩ := HP2.out (by omega)
      have c0 := (B.out.cell (p := ⟨bb, off + i * 1 + 0, none⟩) hbb).trans (HC.out i hil 0 (by omega))
      have c1 := (B.out.cell (p := ⟨b2, off2 + i * 1 + 0, none⟩) hbb2).trans (HC2.out i hil 0 (by omega))
      simp [encI] at c0 c1
      obtain ⟨x, hx⟩ : ∃ x, x = l[i] := ⟨_, rfl⟩
      rw [← hx] at c0 c1
      have gi : (i : Int) < (n : Int) := by omega
      have gi0 : (0 : Int) ≤ (i : Int) := by omega
      have gx : (x != x) = false := by simp
      clear hx
      go_upto_region 6 with fail
      go_region
      all_goals go_wp2
      all_goals (
        go_roundg (n - (i + 1))
        · exact ⟨i + 1, by omega, by go_num, B.out.drew⟩
        · have := HIK.out; omega)
    · have hin' : i = n := by have := HIK.out; omega
      subst hin'
      have g2 : decide ((i : Int) < (i : Int)) = false := by simp
      have F := hid (FN.out wr B.out)
      go_wp2
      first | exact F.out | (go_ret; exact F.out)

set_option maxRecDepth 100000 in
set_option maxHeartbeats 4000000 in
/-- Two rows of the same numbers. -/
theorem longs_calls {w : World} {v v' : Value} {l : List Int} (hv : ReadsE encI 1 w v l) (hv' : ReadsE encI 1 w v' l) :
    Calls Tryd.prog 27 #[v, v'] w fun e w' => e = .returned (.bool true) ∧ Below w.heap.size w w' := by
  obtain ⟨hm, p, cap, bb, off, rfl, hp, hc⟩ := hv
  obtain ⟨_, p2, cap2, b2, off2, rfl, hp2, hc2⟩ := hv'
  obtain ⟨n, hn⟩ : ∃ n, n = l.length := ⟨_, rfl⟩
  obtain ⟨R, hR⟩ : ∃ R : Ending → World → Prop, R = fun e w' => e = .returned (.bool true) ∧ Below w.heap.size w w' := ⟨_, rfl⟩
  rw [← hR]
  have FN := hid (show ∀ w', Below w.heap.size w w' → R (.returned (.bool true)) w' from fun w' h => by rw [hR]; exact ⟨rfl, h⟩)
  rw [← hn] at hp hp2 hm ⊢
  have HN := hid hn
  have HP := hid hp
  have HC := hid hc
  have HP2 := hid hp2
  have HC2 := hid hc2
  have g0 : ((n : Int) != (n : Int)) = false := by simp
  clear hR hn hp hc hp2 hc2
  go_enter Tryd.func27, Tryd.ntmps27
  go_upto_region 4 with fail
  go_loopg [5] n (fun k s5 wr => ∃ i : Nat, i + k = n ∧ s5 = .int .i64 i ∧ Below w.heap.size w wr)
  case atStart => exact ⟨0, by omega, rfl, Below.refl _ _⟩
  case round =>
    obtain ⟨i, hik, rfl, hb⟩ := hrel
    have HIK := hid hik
    have B := hid hb
    clear hik hb
    by_cases hin : i < n
    · have hil : i < l.length := by rw [← HN.out]; exact hin
      obtain ⟨rfl, hbb⟩ := HP.out (by omega)
      obtain ⟨rfl, hbb2⟩ := HP2.out (by omega)
      have c0 := (B.out.cell (p := ⟨bb, off + i * 1 + 0, none⟩) hbb).trans (HC.out i hil 0 (by omega))
      have c1 := (B.out.cell (p := ⟨b2, off2 + i * 1 + 0, none⟩) hbb2).trans (HC2.out i hil 0 (by omega))
      simp [encI] at c0 c1
      obtain ⟨x, hx⟩ : ∃ x, x = l[i] := ⟨_, rfl⟩
      rw [← hx] at c0 c1
      have gi : (i : Int) < (n : Int) := by omega
      have gi0 : (0 : Int) ≤ (i : Int) := by omega
      have gx : (x != x) = false := by simp
      clear hx
      go_upto_region 6 with fail
      go_region
      all_goals go_wp2
      all_goals (
        go_roundg (n - (i + 1))
        · exact ⟨i + 1, by omega, by go_num, B.out.drew⟩
        · have := HIK.out; omega)
    · have hin' : i = n := by have := HIK.out; omega
      subst hin'
      have g2 : decide ((i : Int) < (i : Int)) = false := by simp
      have F := hid (FN.out wr B.out)
      go_wp2
      first | exact F.out | (go_ret; exact F.out)

/-- The small auction of awake. -/
def au0 : Au := ⟨2, [0, 0], [[⟨1, 10⟩], [⟨2, 8⟩], [⟨3, 15⟩]]⟩
theorem au0_chk : chkA au0 = 0 := by decide
theorem au0_ok : OkA au0 2 := by
  obtain ⟨g, h⟩ := OkA.of au0_chk
  have : g = 2 := by have := h.hg; unfold au0 at this; simp only at this; omega
  subst this
  exact h
theorem au0_val : valT au0 [] 0 (2 ^ 2 - 1) = 18 := by decide
theorem au0_pay : (paysF au0 (2 ^ 2 - 1)).getD 0 0 = 7 := by decide
theorem au0_len : (paysF au0 (2 ^ 2 - 1)).length = 3 := by decide
end Go.Proofs.YtojednnciknhpaaDoor
