/- Blocks that hold a list whole, one cell each; made rows. No function of the program in sight. A matching in memory; lists of wanted lots. bid.gain, bid.wants. bid.give: a lot is looked for. Made rows; bid.eager. Slices of slices that were handed in: read, and what the inner ones look like. No function of the program in sight. Tables that grow row by row. No function of the program in sight. Own rows cut and changed in place; rows of arguments copied. No function of the program in sight. -/
import Derived.Maps.AppendAt
import Derived.Test.YtojednnciknhpaaDoorJOpen
import Derived.Test.YtojednnciknhpaaDoorJTol
import Derived.Test.YtojednnciknhpaaDoorJMem
namespace Go.Proofs.YtojednnciknhpaaDoor
set_option linter.unusedSimpArgs false
set_option linter.unusedVariables false
open Go.RowKit
theorem ReadsE.mono_enc {α : Type} {e1 e2 : α → List Value} {sz : Nat} {w : World} {v : Value} {l : List α} (h : ReadsE e1 sz w v l) (he : ∀ a ∈ l, e2 a = e1 a) : ReadsE e2 sz w v l := by
  obtain ⟨hm, p, cap, b, off, hv, hp, hc⟩ := h
  exact ⟨hm, p, cap, b, off, hv, hp, fun k hk j hj => by rw [he _ (List.getElem_mem hk)]; exact hc k hk j hj⟩
/-- A block whose cells are those of a list. -/
def RowX {α : Type} (mk : α → Value) (ty : TypeId) (w : World) (g : Nat) (l : List α) : Prop := Cells w g (l.map mk).toArray ty
section
variable {α : Type} {mk : α → Value} {ty : TypeId}
theorem RowX.lt {w : World} {g : Nat} {l : List α} (h : RowX mk ty w g l) : g < w.heap.size := Cells.lt h
theorem RowX.cell {w : World} {g : Nat} {l : List α} (h : RowX mk ty w g l) {i : Nat} (hi : i < l.length) : w.cell? ⟨g, i, none⟩ = some (mk l[i]) := by
  rw [Cells.cell h]; simp [hi]
theorem RowX.cellD {w : World} {g : Nat} {l : List α} (h : RowX mk ty w g l) {i : Nat} (hi : i < l.length) (d : α) : w.cell? ⟨g, i, none⟩ = some (mk (l.getD i d)) := by
  rw [h.cell hi]; simp [hi]
theorem RowX.froz {w : World} {g : Nat} {l : List α} (h : RowX mk ty w g l) (i : Nat) : w.frozen? ⟨g, i, none⟩ = false := Cells.frozen h i
theorem RowX.set {w : World} {g : Nat} {l : List α} (h : RowX mk ty w g l) (i : Nat) (x : α) : RowX mk ty (w.setCell ⟨g, i, none⟩ (mk x)) g (l.set i x) := by
  have := Cells.set h i (mk x)
  unfold RowX
  rw [List.map_set]
  simpa using this
theorem RowX.set_far {w : World} {g c : Nat} {l : List α} (h : RowX mk ty w g l) (i : Nat) (v : Value) (hne : g ≠ c) : RowX mk ty (w.setCell ⟨c, i, none⟩ v) g l := Cells.set_far h i v hne
theorem RowX.kept {X : Nat → Prop} {w w' : World} {g : Nat} {l : List α} (h : RowX mk ty w g l) (hk : Kept X w w') (hx : ¬ X g) : RowX mk ty w' g l := Cells.kept h hk hx
theorem RowX.below {w w' : World} {C g : Nat} {l : List α} (h : RowX mk ty w g l) (hb : Below C w w') (hg : g < C) : RowX mk ty w' g l := Cells.below h hb hg
theorem RowX.below' {w w' : World} {g : Nat} {l : List α} (h : RowX mk ty w g l) (hb : Below w.heap.size w w') : RowX mk ty w' g l := Cells.below h hb h.lt
theorem RowX.alloc {w : World} {g : Nat} {l : List α} (h : RowX mk ty w g l) (o : Obj) : RowX mk ty (w.alloc o) g l := Cells.alloc h o
theorem RowX.drewN {w : World} {g : Nat} {l : List α} (h : RowX mk ty w g l) (k : Nat) : RowX mk ty (w.drewN k) g l := h
theorem RowX.made (w : World) (n : Nat) (x : α) (cs : Array Value) (hs : cs = madeCells #[mk x] n) : RowX mk ty (w.alloc (.cells cs ty)) w.heap.size (List.replicate n x) := by
  unfold RowX
  have e : cs = ((List.replicate n x).map mk).toArray := by
    rw [hs]
    apply Array.toList_inj.1
    rw [toList_madeCells_one]
    simp
  rw [e]
  exact Cells.new w _ _
theorem RowX.reads {w : World} {g : Nat} {l : List α} (h : RowX mk ty w g l) (hm : l.length ≤ 9223372036854775807) (cap : Nat) : ReadsE (fun x => [mk x]) 1 w (.slice (some ⟨g, 0, none⟩) l.length cap) l :=
  ⟨hm, _, cap, g, 0, rfl, fun _ => ⟨rfl, h.lt⟩, fun k hk j hj => by
    have hj0 : j = 0 := by omega
    subst hj0
    rw [show 0 + k * 1 + 0 = k by omega, h.cell hk]
    rfl⟩
theorem flat_one (l : List α) : flatE (fun x => [mk x]) l = l.map mk := by
  induction l with
  | nil => rfl
  | cons a l ih => rw [flatE_cons, ih]; rfl
theorem RowX.own {w : World} {g : Nat} {l : List α} (h : RowX mk ty w g l) {B : Nat} (hB : B ≤ g) (hm : l.length ≤ maxLen) : OwnE (fun x => [mk x]) 1 ty B w (.slice (some ⟨g, 0, none⟩) l.length l.length) l := by
  refine ⟨by rw [flat_one]; simp, .inr ⟨g, l.length, _, rfl, hB, h, Nat.le_refl _, hm, by simp, ?_⟩⟩
  rw [flat_one, Nat.mul_one]
  simp [List.take_of_length_le]
end
/-- What reads as a list, at one place. -/
theorem ReadsE.at1 {α : Type} {mk : α → Value} {w : World} {p : Option Addr} {n cap : Nat} {l : List α} (h : ReadsE (fun x => [mk x]) 1 w (.slice p n cap) l) : n = l.length ∧ ∀ i, (hi : i < l.length) → ∃ b off, p = some ⟨b, off, none⟩ ∧ b < w.heap.size ∧ w.cell? ⟨b, off + i, none⟩ = some (mk l[i]) := by
  obtain ⟨hm, p', cap', b, off, hv, hp, hc⟩ := h
  injection hv with e1 e2 e3
  subst e1 e2
  refine ⟨rfl, fun i hi => ?_⟩
  obtain ⟨h1, h2⟩ := hp (by omega)
  refine ⟨b, off, h1, h2, ?_⟩
  have := hc i hi 0 (by omega)
  simpa using this
end Go.Proofs.YtojednnciknhpaaDoor
namespace Go.Proofs.YtojednnciknhpaaDoor
set_option linter.unusedSimpArgs false
set_option linter.unusedVariables false
open Go.RowKit
def zl (l : List Nat) : List Int := l.map fun (j : Nat) => (j : Int)
theorem zl_len (l : List Nat) : (zl l).length = l.length := by simp [zl]
theorem zl_append (l m : List Nat) : zl (l ++ m) = zl l ++ zl m := by simp [zl]
theorem zl_get {l : List Nat} {i : Nat} (h : i < (zl l).length) : (zl l)[i] = ((l[i]'(by rw [zl_len] at h; exact h) : Nat) : Int) := by simp [zl]
theorem zl_contains (l : List Nat) (j : Nat) : (zl l).contains (j : Int) = l.contains j := by
  unfold zl
  induction l with
  | nil => rfl
  | cons a l ih =>
    rw [List.map_cons, List.contains_cons, List.contains_cons, ih]
    congr 1
    by_cases h : j = a
    · subst h; simp
    · rw [beq_eq_false_iff_ne.2 h, beq_eq_false_iff_ne.2 (by omega)]
def encI (z : Int) : List Value := [.int .i64 z]
theorem encI_len (z : Int) : (encI z).length = 1 := rfl
theorem encI_one (z : Int) : ∀ u ∈ encI z, u.oneCell' = true := by simp [encI]; rfl
abbrev RowI (B : Nat) (w : World) (v : Value) (l : List Int) : Prop := OwnE encI 1 2 B w v l
abbrev RowN (B : Nat) (w : World) (v : Value) (l : List Int) : Prop := OwnE encI 1 3 B w v l
theorem flatI (l : List Int) : flatE encI l = l.map (Value.int .i64) := by
  induction l with
  | nil => rfl
  | cons a l ih => rw [flatE_cons, ih]; rfl
abbrev RI (w : World) (g : Nat) (l : List Int) : Prop := RowX (fun z => Value.int .i64 z) 2 w g l
abbrev RN (w : World) (g : Nat) (l : List Int) : Prop := RowX (fun z => Value.int .i64 z) 3 w g l
abbrev RB (w : World) (g : Nat) (l : List Bool) : Prop := RowX (fun b => Value.bool b) 4 w g l
/-- Lists of lots, one for each buyer; an empty one is nil. -/
def NestN (w : World) (v : Value) (L : List (List Nat)) : Prop :=
  ∃ vs : List Value, ReadsE encV 1 w v vs ∧ vs.length = L.length ∧ ∀ (k : Nat) (h1 : k < vs.length) (h2 : k < L.length), ReadsE encI 1 w vs[k] (zl L[k]) ∧ (L[k] = [] → vs[k] = .slice none 0 0)
theorem NestN.below {w w' : World} {v : Value} {L : List (List Nat)} (h : NestN w v L) (hb : Below w.heap.size w w') : NestN w' v L := by
  obtain ⟨vs, h1, h2, h3⟩ := h
  exact ⟨vs, h1.below hb, h2, fun k a b => ⟨(h3 k a b).1.below hb, (h3 k a b).2⟩⟩
/-- A matching from block B on. -/
structure MgC (w : World) (B gm gl gb : Nat) (vw : Value) (m : Mg) : Prop where
  mt : Cells w gm #[vw, .slice (some ⟨gl, 0, none⟩) m.lo.length m.lo.length, .slice (some ⟨gb, 0, none⟩) m.bu.length m.bu.length] 149
  lo : RN w gl m.lo
  bu : RN w gb m.bu
  bm : B ≤ gm
  bl : B ≤ gl
  bb : B ≤ gb
  ne : gl ≠ gb
theorem MgC.kept {w w' : World} {B gm gl gb : Nat} {vw : Value} {m : Mg} (h : MgC w B gm gl gb vw m) {X : Nat → Prop} (hk : Kept X w w') (h1 : ¬ X gm) (h2 : ¬ X gl) (h3 : ¬ X gb) : MgC w' B gm gl gb vw m :=
  ⟨h.mt.kept hk h1, h.lo.kept hk h2, h.bu.kept hk h3, h.bm, h.bl, h.bb, h.ne⟩
theorem MgC.see {w : World} {B gm gl gb : Nat} {vw : Value} {m : Mg} (h : MgC w B gm gl gb vw m) (l : List Bool) : MgC w B gm gl gb vw { m with seen := l } := ⟨h.mt, h.lo, h.bu, h.bm, h.bl, h.bb, h.ne⟩
theorem MgC.far {w : World} {B gm gl gb : Nat} {vw : Value} {m : Mg} (h : MgC w B gm gl gb vw m) {g : Nat} {l : List Bool} (hs : RB w g l) (j : Nat) (v : Value) : MgC (w.setCell ⟨g, j, none⟩ v) B gm gl gb vw m :=
  ⟨h.mt.set_far j v (h.mt.ne hs (by decide)), h.lo.set_far j v (Cells.ne h.lo hs (by decide)), h.bu.set_far j v (Cells.ne h.bu hs (by decide)), h.bm, h.bl, h.bb, h.ne⟩
/-- A pair is laid down. -/
theorem MgC.pair {w : World} {B gm gl gb : Nat} {vw : Value} {m : Mg} (h : MgC w B gm gl gb vw m) (i j : Nat) : MgC ((w.setCell ⟨gl, i, none⟩ (.int .i64 j)).setCell ⟨gb, j, none⟩ (.int .i64 i)) B gm gl gb vw (m.pair i j) := by
  have n1 : gm ≠ gl := h.mt.ne h.lo (by decide)
  have n2 : gm ≠ gb := h.mt.ne h.bu (by decide)
  refine ⟨?_, ((h.lo.set i (j : Int)).set_far _ _ h.ne), ((h.bu.set_far i _ h.ne.symm).set j (i : Int)), h.bm, h.bl, h.bb, h.ne⟩
  have := (h.mt.set_far i (.int .i64 j) n1).set_far j (.int .i64 i) n2
  simpa [Mg.pair] using this
end Go.Proofs.YtojednnciknhpaaDoor
namespace Go.Proofs.YtojednnciknhpaaDoor
set_option linter.unusedSimpArgs false
set_option linter.unusedVariables false
open Go.RowKit
attribute [local go_sem] Oper.semAt_some
attribute [local go_sem ↓] Go.wp_at_zero Go.wp_at_succ
theorem take_snoc {α : Type} {l : List α} {i : Nat} (h : i < l.length) : l.take (i + 1) = l.take i ++ [l[i]] := by simp

set_option maxRecDepth 100000 in
set_option maxHeartbeats 4000000 in
theorem gain_calls {w : World} {vr vp : Value} {row prices : List Int} (hr : ReadsE encI 1 w vr row) (hp : ReadsE encI 1 w vp prices) (hl : row.length ≤ prices.length) (h64 : row.length ≤ 4096) (okr : okW row) (okp : okW prices) :
    Calls Tryd.prog 63 #[vr, vp] w fun e w' => e = .returned (.int .i64 (gainF row prices)) ∧ w' = w := by
  obtain ⟨hm, p, cap, bb, off, rfl, hb, hc⟩ := hr
  obtain ⟨hm2, p2, cap2, bb2, off2, rfl, hb2, hc2⟩ := hp
  obtain ⟨n, hn⟩ : ∃ n, n = row.length := ⟨_, rfl⟩
  obtain ⟨n2, hn2⟩ : ∃ n2, n2 = prices.length := ⟨_, rfl⟩
  obtain ⟨R, hR⟩ : ∃ R : Ending → World → Prop, R = fun e w' => e = .returned (.int .i64 (gainF row prices)) ∧ w' = w := ⟨_, rfl⟩
  rw [← hR]
  have FN := hid (show R (.returned (.int .i64 (gainF row prices))) w by rw [hR]; exact ⟨rfl, rfl⟩)
  rw [← hn] at hb hm hl h64 ⊢
  rw [← hn2] at hb2 hm2 hl ⊢
  have HN := hid hn
  have HN2 := hid hn2
  have HP := hid hb
  have HC := hid hc
  have HP2 := hid hb2
  have HC2 := hid hc2
  have OKR := hid okr
  have OKP := hid okp
  clear hR hn hn2 hb hc hb2 hc2 okr okp
  go_enter Tryd.func63, Tryd.ntmps63
  go_upto_region 3 with fail
  go_loopg [5, 10] n (fun k s5 s10 wr => ∃ i : Nat, i + k = n ∧ s10 = .int .i64 i ∧ s5 = .int .i64 (gainH (row.take i) prices 0) ∧ wr = w)
  case atStart => exact ⟨0, by omega, rfl, rfl, rfl⟩
  case round =>
    obtain ⟨i, hik, rfl, rfl, rfl⟩ := hrel
    have HIK := hid hik
    clear hik
    by_cases hin : i < n
    · have hil : i < row.length := by rw [← HN.out]; exact hin
      have hil2 : i < prices.length := by rw [← HN2.out]; omega
      obtain ⟨rfl, _⟩ := HP.out (by omega)
      obtain ⟨rfl, _⟩ := HP2.out (by omega)
      have c0 := HC.out i hil 0 (by omega)
      have c1 := HC2.out i hil2 0 (by omega)
      simp [encI] at c0 c1
      have SN := hid (gainH_snoc 0 hil hil2)
      have gb := gain_take_bound OKR.out OKP.out i
      have xb := OKR.out _ (List.getElem_mem hil)
      have pb := OKP.out _ (List.getElem_mem hil2)
      obtain ⟨x, hx⟩ : ∃ x, x = row[i] := ⟨_, rfl⟩
      obtain ⟨q, hq⟩ : ∃ q, q = prices[i] := ⟨_, rfl⟩
      obtain ⟨g, hg⟩ : ∃ g, g = gainH (row.take i) prices 0 := ⟨_, rfl⟩
      rw [← hx] at c0 SN xb
      rw [← hq] at c1 SN pb
      rw [← hg] at SN gb ⊢
      have gi : (i : Int) < (n : Int) := by omega
      have gi2 : (i : Int) < (n2 : Int) := by omega
      have gi0 : (0 : Int) ≤ (i : Int) := by omega
      have ew : IntKind.i64.wrap (x - q) = x - q := IntWalk.i64_in _ (by omega)
      clear hx hq hg xb pb gb hl hm hm2
      by_cases hge : g < x - q
      · rw [Int.max_eq_right (Int.le_of_lt hge)] at SN
        go_wp2
        go_roundg (n - (i + 1))
        · exact ⟨i + 1, by omega, by go_num, by rw [SN.out], rfl⟩
        · have := HIK.out; omega
      · rw [Int.max_eq_left (by omega)] at SN
        go_wp2
        go_roundg (n - (i + 1))
        · exact ⟨i + 1, by omega, by go_num, by rw [SN.out], rfl⟩
        · have := HIK.out; omega
    · have hin' : i = n := by have := HIK.out; omega
      subst hin'
      have g2 : decide ((i : Int) < (i : Int)) = false := by simp
      have h1 : row.take i = row := by rw [HN.out, List.take_length]
      rw [h1]
      clear h1
      go_wp2
      first | exact FN.out | (go_ret; exact FN.out)

theorem undN : Tryd.prog.underlying 27 = some (.slice 3) := by kernel_rfl
theorem infoN : (Tryd.prog.info? 3).map (fun i => (i.zero, i.size, i.bytes)) = some (some (.int .i64 0), 1, 8) := by kernel_rfl
/-- A row grows by one number. -/
theorem rown_app {B : Nat} {w : World} {v : Value} {l : List Int} (h : RowN B w v l) (hB : B ≤ w.heap.size) {g : Nat} {x : Int} (hx : w.cell? ⟨g, 0, none⟩ = some (.int .i64 x)) (hl : l.length ≤ 1000000) :
    ∃ v' w', (Builtin.append_ #[27, 27] 27 #[v, .slice (some ⟨g, 0, none⟩) 1 1]).run Tryd.prog w = .ok v' w' ∧ RowN B w' v' (l ++ [x]) ∧ Kept (fun k => some k = v.ownBlock) w w' ∧ (v'.ownBlock = v.ownBlock ∨ v'.ownBlock = some w.heap.size) := by
  have so : SrcE encI 1 w (.slice (some ⟨g, 0, none⟩) 1 1) [x] := .inr ⟨g, 0, 1, rfl, fun j u hu => by
    have hj : j < 1 := by simpa [flatI] using (List.getElem?_eq_some_iff.1 hu).1
    obtain rfl : j = 0 := by omega
    rw [hx]; simpa [flatI] using hu⟩
  obtain ⟨v', w', r1, r2, r3, r4⟩ := own_append (ty := 27) undN infoN rfl (by omega) encI_len encI_one h hB so (by unfold maxLen; simp; omega) (by simp; omega)
  exact ⟨v', w', r1, r2, r3, r4⟩
theorem kept_own {B : Nat} {w w' : World} {v : Value} {l : List Int} {e : TypeId} (h : OwnE encI 1 e B w v l) (hB : B ≤ w.heap.size) (hk : Kept (fun k => some k = v.ownBlock) w w') : Below B w w' :=
  hk.below hB fun k hk => by
    obtain ⟨p, c, rfl, hh⟩ := h.form
    rcases hh with ⟨rfl, _⟩ | ⟨g, rfl, hg, _⟩ <;> cases hk
    exact hg

set_option maxRecDepth 100000 in
set_option maxHeartbeats 4000000 in
theorem wants_calls {w : World} {vr vp : Value} {row prices : List Int} (hr : ReadsE encI 1 w vr row) (hp : ReadsE encI 1 w vp prices) (hl : row.length ≤ prices.length) (h64 : row.length ≤ 4096) (okr : okW row) (okp : okW prices) :
    Calls Tryd.prog 62 #[vr, vp] w fun e w' => ∃ v', e = .returned v' ∧ RowN w.heap.size w' v' (zl (wantsF row prices)) ∧ (wantsF row prices = [] → v' = .slice none 0 0) ∧ Below w.heap.size w w' := by
  have GC := hid (gain_calls hr hp hl h64 okr okp)
  obtain ⟨hm, p, cap, bb, off, rfl, hb, hc⟩ := hr
  obtain ⟨hm2, p2, cap2, bb2, off2, rfl, hb2, hc2⟩ := hp
  obtain ⟨n, hn⟩ : ∃ n, n = row.length := ⟨_, rfl⟩
  obtain ⟨n2, hn2⟩ : ∃ n2, n2 = prices.length := ⟨_, rfl⟩
  obtain ⟨R, hR⟩ : ∃ R : Ending → World → Prop, R = fun e w' => ∃ v', e = .returned v' ∧ RowN w.heap.size w' v' (zl (wantsF row prices)) ∧ (wantsF row prices = [] → v' = .slice none 0 0) ∧ Below w.heap.size w w' := ⟨_, rfl⟩
  rw [← hR]
  have FN := hid (show ∀ v' w', RowN w.heap.size w' v' (zl (wantsF row prices)) → (wantsF row prices = [] → v' = .slice none 0 0) → Below w.heap.size w w' → R (.returned v') w' from fun v' w' h1 h2 h3 => by rw [hR]; exact ⟨v', rfl, h1, h2, h3⟩)
  unfold wantsF at FN
  obtain ⟨G, hG⟩ : ∃ G, G = gainF row prices := ⟨_, rfl⟩
  rw [← hG] at GC FN
  rw [← hn] at hb hm hl h64 GC ⊢
  rw [← hn2] at hb2 hm2 hl GC ⊢
  have HN := hid hn
  have HN2 := hid hn2
  have HP := hid hb
  have HC := hid hc
  have HP2 := hid hb2
  have HC2 := hid hc2
  have OKR := hid okr
  have OKP := hid okp
  clear hR hn hn2 hb hc hb2 hc2 okr okp hG
  go_enter Tryd.func62, Tryd.ntmps62
  go_wp2_with fail
  refine GC.out.mono ?_
  rintro e w1 ⟨rfl, hw1⟩
  have HW1 := hid hw1
  clear hw1 GC
  go_upto_region 4 with fail
  go_loopg [6, 14] n (fun k s6 s14 wr => ∃ i : Nat, i + k = n ∧ s14 = .int .i64 i ∧ RowN w.heap.size wr s6 (zl (wantsH G (row.take i) prices 0)) ∧ (wantsH G (row.take i) prices 0 = [] → s6 = .slice none 0 0) ∧ Below w.heap.size w wr)
  case atStart => exact ⟨0, by omega, rfl, OwnE.nil _ _, fun _ => rfl, by rw [HW1.out]; exact Below.refl _ _⟩
  case round =>
    obtain ⟨i, hik, rfl, rr, rz, hb⟩ := hrel
    have HIK := hid hik
    have RR := hid rr
    have RZ := hid rz
    have B := hid hb
    clear hik rr rz hb
    by_cases hin : i < n
    · have hil : i < row.length := by rw [← HN.out]; exact hin
      have hil2 : i < prices.length := by rw [← HN2.out]; omega
      obtain ⟨rfl, hbb⟩ := HP.out (by omega)
      obtain ⟨rfl, hbb2⟩ := HP2.out (by omega)
      have c0 := (B.out.cell (p := ⟨bb, off + i * 1 + 0, none⟩) hbb).trans (HC.out i hil 0 (by omega))
      have c1 := (B.out.cell (p := ⟨bb2, off2 + i * 1 + 0, none⟩) hbb2).trans (HC2.out i hil2 0 (by omega))
      simp [encI] at c0 c1
      have SN := hid (wantsH_snoc (b := G) 0 hil hil2)
      have WL := hid (wantsH_len (b := G) (row.take i) prices 0)
      have xb := OKR.out _ (List.getElem_mem hil)
      have pb := OKP.out _ (List.getElem_mem hil2)
      obtain ⟨x, hx⟩ : ∃ x, x = row[i] := ⟨_, rfl⟩
      obtain ⟨q, hq⟩ : ∃ q, q = prices[i] := ⟨_, rfl⟩
      rw [← hx] at c0 SN xb
      rw [← hq] at c1 SN pb
      have gi : (i : Int) < (n : Int) := by omega
      have gi2 : (i : Int) < (n2 : Int) := by omega
      have gi0 : (0 : Int) ≤ (i : Int) := by omega
      have ew : IntKind.i64.wrap (x - q) = x - q := IntWalk.i64_in _ (by omega)
      clear hx hq xb pb hl hm hm2
      by_cases hge : x - q = G
      · rw [if_pos hge, Nat.zero_add] at SN
        obtain ⟨po, co, hvo, _⟩ := RR.out.form
        subst hvo
        obtain ⟨v6, w6, r2, r3, r4, _⟩ := rown_app (RR.out.alloc (.cells #[.int .i64 (i : Int)] 3)) (by have := B.out.size; simp; omega) (cell_one (Cells.new wr #[.int .i64 (i : Int)] 3)) (by rw [zl_len]; have := WL.out; rw [List.length_take] at this; omega)
        have R2 := hid r2
        have R6 := hid (show RowN w.heap.size w6 v6 (zl (wantsH G (row.take (i + 1)) prices 0)) by rw [SN.out, zl_append]; exact r3)
        have B6 := hid (show Below w.heap.size w w6 from (B.out.alloc B.out.size _).trans (kept_own (RR.out.alloc _) (by have := B.out.size; simp; omega) r4))
        have N6 := hid (show wantsH G (row.take (i + 1)) prices 0 = [] → v6 = .slice none 0 0 from fun h => by rw [SN.out] at h; simp at h)
        have he : (x - q == G) = true := by simpa using hge
        clear hge r2 r3 r4
        go_wp2_with (at_builtin; refine wpList_append_run rfl (.tmp 27) (.tmp 29) 27 rfl _ _ v6 w6 rfl rfl R2.out ?_)
        go_roundg (n - (i + 1))
        · exact ⟨i + 1, by omega, by go_num, R6.out, N6.out, B6.out⟩
        · have := HIK.out; omega
      · rw [if_neg hge, List.append_nil] at SN
        have he : (x - q == G) = false := by simpa using hge
        clear hge
        go_wp2
        go_roundg (n - (i + 1))
        · exact ⟨i + 1, by omega, by go_num, by rw [SN.out]; exact RR.out, by rw [SN.out]; exact RZ.out, B.out⟩
        · have := HIK.out; omega
    · have hin' : i = n := by have := HIK.out; omega
      subst hin'
      have g2 : decide ((i : Int) < (i : Int)) = false := by simp
      have h1 : row.take i = row := by rw [HN.out, List.take_length]
      rw [h1] at RR RZ
      have F := hid (FN.out _ _ RR.out RZ.out B.out)
      clear h1
      go_wp2
      first | exact F.out | (go_ret; exact F.out)
end Go.Proofs.YtojednnciknhpaaDoor
namespace Go.Proofs.YtojednnciknhpaaDoor
set_option linter.unusedSimpArgs false
set_option linter.unusedVariables false
open Go.RowKit
attribute [local go_sem] Oper.semAt_some
attribute [local go_sem ↓] Go.wp_at_zero Go.wp_at_succ
/-- What a call of give may change. -/
abbrev GvX (gl gb gs : Nat) (k : Nat) : Prop := k = gl ∨ k = gb ∨ k = gs
structure GvI (w0 w : World) (vw : Value) (wants : List (List Nat)) (n gm gl gb gs gr : Nat) (bar : List Bool) (m : Mg) : Prop where
  wt : NestN w0 vw wants
  b0 : Below w0.heap.size w0 w
  mg : MgC w w0.heap.size gm gl gb vw m
  ok : MgOk wants.length n m
  sn : RB w gs m.seen
  gs0 : w0.heap.size ≤ gs
  br : RB w gr bar
  bl : bar.length = n
  ne : gs ≠ gr
theorem GvI.kept {w0 w w' : World} {vw : Value} {wants : List (List Nat)} {n gm gl gb gs gr : Nat} {bar : List Bool} {m m' : Mg} (h : GvI w0 w vw wants n gm gl gb gs gr bar m) (hk : Kept (GvX gl gb gs) w w') (h1 : MgC w' w0.heap.size gm gl gb vw m') (h2 : MgOk wants.length n m') (h3 : RB w' gs m'.seen) : GvI w0 w' vw wants n gm gl gb gs gr bar m' :=
  ⟨h.wt, h.b0.trans (hk.below h.b0.size (fun k hk => by
    rcases hk with rfl | rfl | rfl
    · exact h.mg.bl
    · exact h.mg.bb
    · exact h.gs0)), h1, h2, h3, h.gs0, h.br.kept hk (by
    rintro (e | e | e)
    · exact (Cells.ne h.br h.mg.lo (by decide)) e
    · exact (Cells.ne h.br h.mg.bu (by decide)) e
    · exact h.ne e.symm), h.bl, h.ne⟩
theorem GvI.see {w0 w : World} {vw : Value} {wants : List (List Nat)} {n gm gl gb gs gr : Nat} {bar : List Bool} {m : Mg} (h : GvI w0 w vw wants n gm gl gb gs gr bar m) (j : Nat) : GvI w0 (w.setCell ⟨gs, j, none⟩ (.bool true)) vw wants n gm gl gb gs gr bar { m with seen := m.seen.set j true } :=
  h.kept ((Kept.refl _ _).set (.inr (.inr rfl)) _ _) ((h.mg.far h.sn j _).see _) (h.ok.see j) (h.sn.set j true)
theorem GvI.pair {w0 w : World} {vw : Value} {wants : List (List Nat)} {n gm gl gb gs gr : Nat} {bar : List Bool} {m : Mg} (h : GvI w0 w vw wants n gm gl gb gs gr bar m) {i : Nat} (hi : i < wants.length) (j : Nat) :
    GvI w0 ((w.setCell ⟨gl, i, none⟩ (.int .i64 j)).setCell ⟨gb, j, none⟩ (.int .i64 i)) vw wants n gm gl gb gs gr bar (m.pair i j) :=
  h.kept (((Kept.refl _ _).set (.inl rfl) _ _).set (.inr (.inl rfl)) _ _) (h.mg.pair i j) (h.ok.pair hi j)
    ((h.sn.set_far _ _ (Cells.ne h.sn h.mg.lo (by decide))).set_far _ _ (Cells.ne h.sn h.mg.bu (by decide)))
theorem GvI.drewN {w0 w : World} {vw : Value} {wants : List (List Nat)} {n gm gl gb gs gr : Nat} {bar : List Bool} {m : Mg} (h : GvI w0 w vw wants n gm gl gb gs gr bar m) (k : Nat) : GvI w0 (w.drewN k) vw wants n gm gl gb gs gr bar m :=
  h.kept ((Kept.refl _ _).drewN k) (h.mg.kept ((Kept.refl (fun _ => False) _).drewN k) id id id) h.ok (h.sn.drewN k)
/-- What give leaves behind. -/
def GiveP (w0 w : World) (vw : Value) (wants : List (List Nat)) (n gm gl gb gs gr : Nat) (bar : List Bool) (r : Bool × Mg) (e : Ending) (w' : World) : Prop :=
  e = .returned (.bool r.1) ∧ GvI w0 w' vw wants n gm gl gb gs gr bar r.2 ∧ Kept (GvX gl gb gs) w w'
theorem giveF_getD {wants : List (List Nat)} {bar : List Bool} {f i : Nat} {m : Mg} (hi : i < wants.length) : giveF wants bar (f + 1) i m = giveL (giveF wants bar f) bar i wants[i] m := by
  rw [giveF]; simp [hi]

set_option maxRecDepth 100000 in
set_option maxHeartbeats 8000000 in
theorem give_calls : ∀ (f : Nat) {w0 w : World} {vw : Value} {wants : List (List Nat)} {n gm gl gb gs gr : Nat} {m : Mg} {bar : List Bool} {i : Nat} (_ : GvI w0 w vw wants n gm gl gb gs gr bar m) (_ : wOk wants n) (_ : i < wants.length) (_ : m.left < f) (_ : wants.length ≤ 5000) (_ : n ≤ 5000) (_ : ∀ l ∈ wants, l.length ≤ 5000),
    Calls Tryd.prog 105 #[.pointer (some ⟨gm, 0, none⟩), .int .i64 i, .slice (some ⟨gr, 0, none⟩) n n, .slice (some ⟨gs, 0, none⟩) n n] w (GiveP w0 w vw wants n gm gl gb gs gr bar (giveF wants bar f i m))
  | 0, _, _, _, _, _, _, _, _, _, _, _, _, _, _, _, _, hf, _, _, _ => absurd hf (by omega)
  | f + 1, w0, w, vw, wants, n, gm, gl, gb, gs, gr, m, bar, i, hI, hw, hi, hf, hwl, hn, hll => by
    have IH := hid (fun (wx : World) (mx : Mg) (k : Nat) (h1 : GvI w0 wx vw wants n gm gl gb gs gr bar mx) (h2 : k < wants.length) (h3 : mx.left < f) => give_calls f h1 hw h2 h3 hwl hn hll)
    obtain ⟨R, hR⟩ : ∃ R : Ending → World → Prop, R = GiveP w0 w vw wants n gm gl gb gs gr bar (giveF wants bar (f + 1) i m) := ⟨_, rfl⟩
    rw [← hR]
    have FN := hid (show ∀ (b : Bool) (m' : Mg) w', giveL (giveF wants bar f) bar i wants[i] m = (b, m') → GvI w0 w' vw wants n gm gl gb gs gr bar m' → Kept (GvX gl gb gs) w w' → R (.returned (.bool b)) w' from fun b m' w' h1 h2 h3 => by
      rw [hR]
      unfold GiveP
      rw [giveF_getD hi, h1]
      exact ⟨rfl, h2, h3⟩)
    have II := hid hI
    obtain ⟨vs, hvs, hvl, hvk⟩ := hI.wt
    obtain ⟨hm, p, cap, bb, off, hvv, hp, hc⟩ := hvs
    obtain ⟨hm2, p2, cap2, bb2, off2, hv2, hp2, hc2⟩ := (hvk i (by omega) hi).1
    obtain ⟨rfl, hbb⟩ := hp (by omega)
    have cw : w.cell? ⟨bb, off + i, none⟩ = some vs[i] := by
      have := (hI.b0.cell (p := ⟨bb, off + i * 1 + 0, none⟩) hbb).trans (hc i (by omega) 0 (by omega))
      simpa using this
    obtain ⟨js, hjs⟩ : ∃ js, js = wants[i] := ⟨_, rfl⟩
    rw [← hjs] at hv2 hp2 hc2 hm2 FN
    rw [zl_len] at hv2 hp2 hm2
    rw [hv2] at cw
    have JL := hid (show ∀ j ∈ js, j < n from fun j hj => hw js (by rw [hjs]; exact List.getElem_mem hi) j hj)
    have JC := hid (show ∀ wx, Below w0.heap.size w0 wx → ∀ t, (ht : t < js.length) → ∃ g o, p2 = some ⟨g, o, none⟩ ∧ wx.cell? ⟨g, o + t, none⟩ = some (.int .i64 (js[t] : Nat)) from fun wx hb t ht => by
      obtain ⟨rfl, h2⟩ := hp2 (by omega)
      refine ⟨bb2, off2, rfl, ?_⟩
      have := (hb.cell (p := ⟨bb2, off2 + t * 1 + 0, none⟩) h2).trans (hc2 t (by rw [zl_len]; exact ht) 0 (by omega))
      rw [zl_get] at this
      simpa [encI] using this)
    have hjl : js.length ≤ 5000 := by rw [hjs]; exact hll _ (List.getElem_mem hi)
    have cm : w.cell? ⟨gm, 0, none⟩ = some vw := by rw [hI.mg.mt.cell]; rfl
    rw [hvv] at cm
    obtain ⟨L, hL⟩ : ∃ L, L = js.length := ⟨_, rfl⟩
    rw [← hL] at hjl cw
    have HL := hid hL
    have gi : (i : Int) < (vs.length : Int) := by omega
    have gi0 : (0 : Int) ≤ (i : Int) := by omega
    obtain ⟨nv, hnv⟩ : ∃ nv, nv = vs.length := ⟨_, rfl⟩
    rw [← hnv] at cm gi
    have HI := hid hi
    have HWL := hid hwl
    have HF := hid hf
    have HW := hid hw
    clear hR hI hvl hvk hm hvv hp hc hm2 hv2 hp2 hc2 hjs hL hnv hw hll hi hwl hf
    go_enter Tryd.func105, Tryd.ntmps105
    go_upto_region 2 with fail
    go_loopg [20] L (fun k s20 wr => ∃ (t : Nat) (m' : Mg), t + k = L ∧ s20 = .int .i64 t ∧ GvI w0 wr vw wants n gm gl gb gs gr bar m' ∧ m'.left ≤ m.left ∧ Kept (GvX gl gb gs) w wr ∧ giveL (giveF wants bar f) bar i js m = giveL (giveF wants bar f) bar i (js.drop t) m')
    case atStart => exact ⟨0, m, by omega, rfl, II.out, Nat.le_refl _, Kept.refl _ _, rfl⟩
    case round =>
      obtain ⟨t, m', htk, rfl, hII, hle, hk, heq⟩ := hrel
      have HTK := hid htk
      have I2 := hid hII
      have LE := hid hle
      have K := hid hk
      have EQ := hid heq
      clear htk hII hle hk heq II
      by_cases htL : t < L
      · have htl : t < js.length := by rw [← HL.out]; exact htL
        obtain ⟨g2, o2, rfl, cj⟩ := JC.out wr I2.out.b0 t htl
        have hjn := JL.out _ (List.getElem_mem htl)
        have hdr : js.drop t = js[t] :: js.drop (t + 1) := List.drop_eq_getElem_cons htl
        rw [hdr] at EQ
        obtain ⟨j, hj⟩ : ∃ j, j = js[t] := ⟨_, rfl⟩
        rw [← hj] at EQ cj hjn
        have csn := I2.out.sn.cellD (i := j) (by rw [I2.out.ok.sn]; exact hjn) false
        have cbr := I2.out.br.cellD (i := j) (by rw [I2.out.bl]; exact hjn) false
        have fsn := I2.out.sn.froz j
        have gt : (t : Int) < (L : Int) := by omega
        have gt0 : (0 : Int) ≤ (t : Int) := by omega
        have gj : (j : Int) < (n : Int) := by omega
        have gj0 : (0 : Int) ≤ (j : Int) := by omega
        have GL := hid (show giveL (giveF wants bar f) bar i (j :: js.drop (t + 1)) m' = if m'.seen.getD j false = true ∨ bar.getD j false = true then giveL (giveF wants bar f) bar i (js.drop (t + 1)) m' else if m'.bu.getD j (-1) < 0 then (true, ({ m' with seen := m'.seen.set j true } : Mg).pair i j) else if ((giveF wants bar f) (m'.bu.getD j (-1)).toNat { m' with seen := m'.seen.set j true }).1 = true then (true, ((giveF wants bar f) (m'.bu.getD j (-1)).toNat { m' with seen := m'.seen.set j true }).2.pair i j) else giveL (giveF wants bar f) bar i (js.drop (t + 1)) ((giveF wants bar f) (m'.bu.getD j (-1)).toNat { m' with seen := m'.seen.set j true }).2 by rw [giveL])
        have SL := hid (show m'.seen.getD j false = false → ({ m' with seen := m'.seen.set j true } : Mg).left < m'.left from fun h => count_set_lt _ _ (by rw [I2.out.ok.sn]; exact hjn) h)
        have BU := hid (show ¬ m'.bu.getD j (-1) < 0 → ∃ kb : Nat, m'.bu.getD j (-1) = (kb : Int) ∧ kb < wants.length from fun h => by
          have hlb : j < m'.bu.length := by rw [I2.out.ok.bu]; exact hjn
          have e : m'.bu.getD j (-1) = m'.bu[j] := by simp [hlb]
          rw [e] at h ⊢
          have := I2.out.ok.rb _ (List.getElem_mem hlb)
          exact ⟨m'.bu[j].toNat, by omega, by omega⟩)
        obtain ⟨sb, hsb⟩ : ∃ sb, sb = m'.seen.getD j false := ⟨_, rfl⟩
        obtain ⟨bb1, hbb1⟩ : ∃ bb1, bb1 = bar.getD j false := ⟨_, rfl⟩
        rw [← hsb] at csn GL SL
        rw [← hbb1] at cbr GL
        clear hj hdr htl hsb hbb1
        cases sb with
        | true =>
          rw [if_pos (.inl rfl)] at GL
          go_wp2
          go_roundg (L - (t + 1))
          · exact ⟨t + 1, m', by omega, by go_num, I2.out, LE.out, K.out, EQ.out.trans GL.out⟩
          · have := HTK.out; omega
        | false =>
          cases bb1 with
          | true =>
            rw [if_pos (.inr rfl)] at GL
            go_wp2
            go_roundg (L - (t + 1))
            · exact ⟨t + 1, m', by omega, by go_num, I2.out, LE.out, K.out, EQ.out.trans GL.out⟩
            · have := HTK.out; omega
          | false =>
            rw [if_neg (by simp)] at GL
            obtain ⟨w1, hw1⟩ : ∃ w1, w1 = wr.setCell ⟨gs, j, none⟩ (.bool true) := ⟨_, rfl⟩
            have I3 := hid (show GvI w0 w1 vw wants n gm gl gb gs gr bar { m' with seen := m'.seen.set j true } by rw [hw1]; exact I2.out.see j)
            have K3 := hid (show Kept (GvX gl gb gs) w w1 by rw [hw1]; exact K.out.set (.inr (.inr rfl)) _ _)
            have HW1 := hid hw1
            have SL1 := hid (SL.out rfl)
            obtain ⟨m1, hm1⟩ : ∃ m1 : Mg, m1 = { m' with seen := m'.seen.set j true } := ⟨_, rfl⟩
            rw [← hm1] at I3 GL SL1
            have hbu : m'.bu = m1.bu := by rw [hm1]
            rw [hbu] at GL BU
            clear hw1 SL hm1 hbu
            have k2 := I3.out.mg.mt.cell 2
            simp [I3.out.ok.bu] at k2
            have kb := I3.out.mg.bu.cellD (i := j) (by rw [I3.out.ok.bu]; omega) (-1)
            obtain ⟨b, hb⟩ : ∃ b, b = m1.bu.getD j (-1) := ⟨_, rfl⟩
            rw [← hb] at kb GL BU
            have HB := hid hb
            clear hb
            go_upto_region 6 with fail
            rw [← HW1.out]
            go_upto_region 7 with fail
            by_cases hb0 : b < 0
            · rw [if_pos hb0] at GL
              clear k2 kb BU
              have k1 := I3.out.mg.mt.cell 1
              have k2 := I3.out.mg.mt.cell 2
              simp [I3.out.ok.lo, I3.out.ok.bu] at k1 k2
              have kl := I3.out.mg.lo.cellD (i := i) (by rw [I3.out.ok.lo]; exact HI.out) 0
              have kb := I3.out.mg.bu.cellD (i := j) (by rw [I3.out.ok.bu]; omega) 0
              have fl := I3.out.mg.lo.froz i
              have fb := I3.out.mg.bu.froz j
              have gw : (i : Int) < (wants.length : Int) := by have := HI.out; omega
              have hne : gl ≠ gb := I3.out.mg.ne
              have hne2 : gb ≠ gl := hne.symm
              have ST := hid (show R (.returned (.bool true)) ((w1.setCell ⟨gl, i, none⟩ (.int .i64 j)).setCell ⟨gb, j, none⟩ (.int .i64 i)).drew from FN.out true _ _ (EQ.out.trans GL.out) ((I3.out.pair HI.out j).drewN 1) (K3.out.trans ((((Kept.refl (GvX gl gb gs) w1).set (.inl rfl) i (.int .i64 j)).set (.inr (.inl rfl)) j (.int .i64 i)).drew) fun _ _ h => h))
              go_upto_region 8 with fail
              go_region
              all_goals go_wp2
              all_goals exact ST.out
            · obtain ⟨kk, rfl, hkk⟩ := BU.out hb0
              rw [if_neg hb0, Int.toNat_natCast] at GL
              have CL := hid (IH.out w1 m1 kk I3.out hkk (by have := LE.out; have := HF.out; have := SL1.out; omega))
              have LF := hid (giveF_ok (bar := bar) HW.out f kk m1 hkk I3.out.ok).2
              obtain ⟨r, hr⟩ : ∃ r, r = giveF wants bar f kk m1 := ⟨_, rfl⟩
              rw [← hr] at CL GL LF
              obtain ⟨rb, m3⟩ := r
              clear k2 kb BU hr
              go_wp2_with fail
              refine CL.out.mono ?_
              rintro e w2 ⟨rfl, hI4, hk4⟩
              have I4 := hid hI4
              have K4 := hid (K3.out.trans hk4 fun _ _ h => h)
              clear hI4 hk4 CL
              cases rb with
              | true =>
                rw [if_pos rfl] at GL
                have k1 := I4.out.mg.mt.cell 1
                have k2 := I4.out.mg.mt.cell 2
                simp [I4.out.ok.lo, I4.out.ok.bu] at k1 k2
                have kl := I4.out.mg.lo.cellD (i := i) (by rw [I4.out.ok.lo]; exact HI.out) 0
                have kb := I4.out.mg.bu.cellD (i := j) (by rw [I4.out.ok.bu]; omega) 0
                have fl := I4.out.mg.lo.froz i
                have fb := I4.out.mg.bu.froz j
                have gw : (i : Int) < (wants.length : Int) := by have := HI.out; omega
                have hne : gl ≠ gb := I4.out.mg.ne
                have hne2 : gb ≠ gl := hne.symm
                have ST := hid (show R (.returned (.bool true)) ((w2.setCell ⟨gl, i, none⟩ (.int .i64 j)).setCell ⟨gb, j, none⟩ (.int .i64 i)).drew from FN.out true _ _ (EQ.out.trans GL.out) ((I4.out.pair HI.out j).drewN 1) (K4.out.trans ((((Kept.refl (GvX gl gb gs) w2).set (.inl rfl) i (.int .i64 j)).set (.inr (.inl rfl)) j (.int .i64 i)).drew) fun _ _ h => h))
                go_upto_region 8 with fail
                go_region
                all_goals go_wp2
                all_goals exact ST.out
              | false =>
                rw [if_neg (by simp)] at GL
                go_wp2
                go_roundg (L - (t + 1))
                · exact ⟨t + 1, m3, by omega, by go_num, I4.out, by have := LE.out; have := SL1.out; have := LF.out; omega, K4.out, EQ.out.trans GL.out⟩
                · have := HTK.out; omega
      · have ht : t = L := by have := HTK.out; omega
        subst ht
        have g1 : decide ((t : Int) < (t : Int)) = false := by simp
        have hd : js.drop t = [] := List.drop_eq_nil_of_le (by rw [HL.out]; exact Nat.le_refl _)
        rw [hd] at EQ
        have F := hid (FN.out false m' wr EQ.out I2.out K.out)
        clear hd
        go_wp2
        first | exact F.out | (go_ret; exact F.out)
end Go.Proofs.YtojednnciknhpaaDoor
namespace Go.Proofs.YtojednnciknhpaaDoor
set_option linter.unusedSimpArgs false
set_option linter.unusedVariables false
open Go.RowKit
attribute [local go_sem] Oper.semAt_some
attribute [local go_sem ↓] Go.wp_at_zero Go.wp_at_succ
theorem mk_run {t e : TypeId} {z : Value} {by' : Nat} (ht : Tryd.prog.underlying t = some (.slice e)) (hi : (Tryd.prog.info? e).map (fun i => (i.zero, i.size, i.bytes)) = some (some z, 1, by')) (hz : z.cells = #[z]) (w : World) (n : Nat) (hn : n ≤ 5000) (hb : by' ≤ 10000) :
    (Instr.makeSlice t (.int .i64 n) (.int .i64 n)).run Tryd.prog w = .ok (.slice (some ⟨w.heap.size, 0, none⟩) n n) (w.alloc (.cells (madeCells #[z] n) e)) := by
  obtain ⟨i, h1, h2, h3, h4⟩ := info_of hi
  have := run_makeSlice (w := w) t e i _ ht h1 h2 .i64 .i64 (n : Int) (n : Int) (by omega) (Int.le_refl _) (by rw [h3]; simp; omega) (by rw [h4]; have : by' * n ≤ 10000 * 5000 := Nat.mul_le_mul hb hn; omega) (by omega)
  rw [h3] at this
  simpa [hz] using this
theorem undNN : Tryd.prog.underlying 142 = some (.slice 27) := by kernel_rfl
theorem infoNN : (Tryd.prog.info? 27).map (fun i => (i.zero, i.size, i.bytes)) = some (some (.slice none 0 0), 1, 24) := by kernel_rfl
theorem undB : Tryd.prog.underlying 117 = some (.slice 4) := by kernel_rfl
theorem infoB : (Tryd.prog.info? 4).map (fun i => (i.zero, i.size, i.bytes)) = some (some (.bool false), 1, 1) := by kernel_rfl
theorem undI : Tryd.prog.underlying 22 = some (.slice 2) := by kernel_rfl
theorem infoI : (Tryd.prog.info? 2).map (fun i => (i.zero, i.size, i.bytes)) = some (some (.int .i64 0), 1, 8) := by kernel_rfl
theorem undII : Tryd.prog.underlying 42 = some (.slice 22) := by kernel_rfl
theorem infoII : (Tryd.prog.info? 22).map (fun i => (i.zero, i.size, i.bytes)) = some (some (.slice none 0 0), 1, 24) := by kernel_rfl
theorem mk_NN (w : World) (n : Nat) (hn : n ≤ 5000) : (Instr.makeSlice 142 (.int .i64 n) (.int .i64 n)).run Tryd.prog w = .ok (.slice (some ⟨w.heap.size, 0, none⟩) n n) (w.alloc (.cells (madeCells #[.slice none 0 0] n) 27)) := mk_run undNN infoNN rfl w n hn (by omega)
theorem mk_II (w : World) (n : Nat) (hn : n ≤ 5000) : (Instr.makeSlice 42 (.int .i64 n) (.int .i64 n)).run Tryd.prog w = .ok (.slice (some ⟨w.heap.size, 0, none⟩) n n) (w.alloc (.cells (madeCells #[.slice none 0 0] n) 22)) := mk_run undII infoII rfl w n hn (by omega)
theorem mk_I (w : World) (n : Nat) (hn : n ≤ 5000) : (Instr.makeSlice 22 (.int .i64 n) (.int .i64 n)).run Tryd.prog w = .ok (.slice (some ⟨w.heap.size, 0, none⟩) n n) (w.alloc (.cells (madeCells #[.int .i64 0] n) 2)) := mk_run undI infoI rfl w n hn (by omega)
theorem mk_N (w : World) (n : Nat) (hn : n ≤ 5000) : (Instr.makeSlice 27 (.int .i64 n) (.int .i64 n)).run Tryd.prog w = .ok (.slice (some ⟨w.heap.size, 0, none⟩) n n) (w.alloc (.cells (madeCells #[.int .i64 0] n) 3)) := mk_run undN infoN rfl w n hn (by omega)
theorem mk_B (w : World) (n : Nat) (hn : n ≤ 5000) : (Instr.makeSlice 117 (.int .i64 n) (.int .i64 n)).run Tryd.prog w = .ok (.slice (some ⟨w.heap.size, 0, none⟩) n n) (w.alloc (.cells (madeCells #[.bool false] n) 4)) := mk_run undB infoB rfl w n hn (by omega)
/-- A row of values in a block. -/
abbrev RV (ty : TypeId) (w : World) (g : Nat) (vs : List Value) : Prop := RowX (fun u : Value => u) ty w g vs
theorem set_get_same {α : Type} {l : List α} {i : Nat} {x : α} {k : Nat} (hk : k < (l.set i x).length) (h : k = i) : (l.set i x)[k] = x := by subst h; simp
theorem set_get_ne {α : Type} {l : List α} {i : Nat} {x : α} {k : Nat} (hk : k < (l.set i x).length) (h : k ≠ i) : (l.set i x)[k] = l[k]'(by simpa using hk) := by
  rw [List.getElem_set]; rw [if_neg (fun e => h e.symm)]
/-- Lists of lots that are filled in one after the other. -/
structure EgS (B : Nat) (w : World) (E : List (List Nat)) (i : Nat) (vs : List Value) : Prop where
  row : RV 27 w B vs
  len : vs.length = E.length
  lo : ∀ k (h1 : k < vs.length) (h2 : k < E.length), k < i → RowN (B + 1) w vs[k] (zl E[k]) ∧ (E[k] = [] → vs[k] = .slice none 0 0)
  hi : ∀ k (h1 : k < vs.length), i ≤ k → vs[k] = .slice none 0 0
theorem EgS.start {w : World} {E : List (List Nat)} {n : Nat} (hn : n = E.length) : EgS w.heap.size (w.alloc (.cells (madeCells #[.slice none 0 0] n) 27)) E 0 (List.replicate n (.slice none 0 0)) :=
  ⟨RowX.made w n _ _ rfl, by simp [hn], fun k _ _ h => absurd h (by omega), fun k h1 _ => by simp⟩
theorem EgS.below {B : Nat} {w w' : World} {E : List (List Nat)} {i : Nat} {vs : List Value} (h : EgS B w E i vs) (hb : Below w.heap.size w w') : EgS B w' E i vs :=
  ⟨h.row.below' hb, h.len, fun k h1 h2 hk => ⟨(h.lo k h1 h2 hk).1.below hb, (h.lo k h1 h2 hk).2⟩, h.hi⟩
theorem EgS.skip {B : Nat} {w : World} {E : List (List Nat)} {i : Nat} {vs : List Value} (h : EgS B w E i vs) (hi : i < E.length) (he : E[i] = []) : EgS B w E (i + 1) vs :=
  ⟨h.row, h.len, fun k h1 h2 hk => by
    by_cases e : k = i
    · subst e
      rw [h.hi k h1 (Nat.le_refl _), he]
      exact ⟨OwnE.nil _ _, fun _ => rfl⟩
    · exact h.lo k h1 h2 (by omega), fun k h1 h2 => h.hi k h1 (by omega)⟩
theorem EgS.put {B : Nat} {w : World} {E : List (List Nat)} {i : Nat} {vs : List Value} (h : EgS B w E i vs) (hi : i < E.length) {v : Value} (hv : RowN (B + 1) w v (zl E[i])) (h0 : E[i] = [] → v = .slice none 0 0) : EgS B (w.setCell ⟨B, i, none⟩ v) E (i + 1) (vs.set i v) := by
  have kp : Kept (fun k => k = B) w (w.setCell ⟨B, i, none⟩ v) := (Kept.refl (fun k => k = B) w).set (C := B) rfl _ _
  have far : ∀ {u : Value} {l : List Int}, RowN (B + 1) w u l → RowN (B + 1) (w.setCell ⟨B, i, none⟩ v) u l := fun hu => OwnE.kept hu kp fun b hb e => by
    obtain ⟨p, c, rfl, hh⟩ := hu.form
    rcases hh with ⟨rfl, _⟩ | ⟨g, rfl, hg, _⟩
    · cases hb
    · injection hb with hb
      have hb : g = b := hb
      omega
  refine ⟨h.row.set i v, by simp [h.len], fun k h1 h2 hk => ?_, fun k h1 hk => ?_⟩
  · by_cases e : k = i
    · rw [set_get_same h1 e]
      subst e
      exact ⟨far hv, h0⟩
    · rw [set_get_ne h1 e]
      have := h.lo k (by simpa using h1) h2 (by omega)
      exact ⟨far this.1, this.2⟩
  · rw [set_get_ne h1 (by omega)]
    exact h.hi k (by simpa using h1) (by omega)
theorem EgS.nest {B : Nat} {w : World} {E : List (List Nat)} {vs : List Value} (h : EgS B w E E.length vs) (hE : E.length ≤ 5000) (hll : ∀ l ∈ E, l.length ≤ 5000) : NestN w (.slice (some ⟨B, 0, none⟩) E.length E.length) E := by
  refine ⟨vs, ?_, h.len, fun k h1 h2 => ⟨(h.lo k h1 h2 h2).1.reads encI_len (by rw [zl_len]; have := hll _ (List.getElem_mem h2); omega), (h.lo k h1 h2 h2).2⟩⟩
  have := h.row.reads (by rw [h.len]; omega) E.length
  rw [h.len] at this
  exact this
set_option maxRecDepth 100000 in
set_option maxHeartbeats 4000000 in
theorem eager_calls {w : World} {vw vp : Value} {worth : List (List Int)} {prices : List Int} (hw : NestE encI 1 w vw worth) (hp : ReadsE encI 1 w vp prices) (ok : OkH worth prices.length) (okp : okW prices) :
    Calls Tryd.prog 108 #[vw, vp] w fun e w' => ∃ v', e = .returned v' ∧ NestN w' v' (eagerF worth prices) ∧ Below w.heap.size w w' := by
  have PR := hid hp
  obtain ⟨vs, hvs, hvl, hvk⟩ := hw
  obtain ⟨hm, p, cap, bb, off, rfl, hb, hc⟩ := hvs
  obtain ⟨n, hn⟩ : ∃ n, n = vs.length := ⟨_, rfl⟩
  obtain ⟨R, hR⟩ : ∃ R : Ending → World → Prop, R = fun e w' => ∃ v', e = .returned v' ∧ NestN w' v' (eagerF worth prices) ∧ Below w.heap.size w w' := ⟨_, rfl⟩
  rw [← hR]
  have FN := hid (show ∀ v' w', NestN w' v' (eagerF worth prices) → Below w.heap.size w w' → R (.returned v') w' from fun v' w' h1 h2 => by rw [hR]; exact ⟨v', rfl, h1, h2⟩)
  obtain ⟨E, hE⟩ : ∃ E, E = eagerF worth prices := ⟨_, rfl⟩
  have EG := hid (fun i (h : i < E.length) (h2 : i < worth.length) => show E[i] = if 0 < gainF worth[i] prices then wantsF worth[i] prices else [] by subst hE; exact eagerF_get h)
  have EO := hid (show ∀ l ∈ E, l.length ≤ 64 ∧ ∀ j ∈ l, j < prices.length by rw [hE]; exact eagerF_ok ok)
  have EL := hid (show E.length = n by rw [hE, eagerF_len, hn]; exact hvl.symm)
  rw [← hE] at FN
  rw [← hn] at hb hm ⊢
  have HN := hid hn
  have HWL := hid (show worth.length = n by rw [hn]; exact hvl.symm)
  have HP := hid hb
  have HC := hid hc
  have HVK := hid hvk
  have OKP := hid okp
  have OK := hid ok
  have hn64 : n ≤ 64 := by rw [← HWL.out]; exact ok.rows
  have hn0 : (0 : Int) ≤ (n : Int) := by omega
  have hmk := mk_NN w n (by omega)
  have S0 := hid (show ∀ wx, wx = w.alloc (.cells (madeCells #[.slice none 0 0] n) 27) → EgS w.heap.size wx E 0 (List.replicate n (.slice none 0 0)) ∧ Below w.heap.size w wx by
    rintro wx rfl
    exact ⟨EgS.start EL.out.symm, (Below.refl _ _).alloc (Nat.le_refl _) _⟩)
  clear hR hE hn hvl hb hc hvk okp ok hp
  go_enter Tryd.func108, Tryd.ntmps108
  go_upto_region 3 with fail
  go_loopg [13] n (fun k s13 wr => ∃ (i : Nat) (us : List Value), i + k = n ∧ s13 = .int .i64 i ∧ EgS w.heap.size wr E i us ∧ Below w.heap.size w wr)
  case atStart => exact ⟨0, _, by omega, rfl, (S0.out _ rfl).1, (S0.out _ rfl).2⟩
  case round =>
    obtain ⟨i, us, hik, rfl, hes, hb⟩ := hrel
    have HIK := hid hik
    have ES := hid hes
    have B := hid hb
    clear hik hes hb S0 hmk
    by_cases hin : i < n
    · have hil : i < vs.length := by rw [← HN.out]; exact hin
      have hiw : i < worth.length := by rw [HWL.out]; exact hin
      have hie : i < E.length := by rw [EL.out]; exact hin
      obtain ⟨rfl, hbb⟩ := HP.out (by omega)
      have c0 := (B.out.cell (p := ⟨bb, off + i * 1 + 0, none⟩) hbb).trans (HC.out i hil 0 (by omega))
      simp at c0
      have RD := hid ((HVK.out i hil hiw).below B.out)
      obtain ⟨x, hx⟩ : ∃ x, x = vs[i] := ⟨_, rfl⟩
      rw [← hx] at c0 RD
      have hrl := OK.out.len _ (List.getElem_mem hiw)
      have hro := OK.out.ok _ (List.getElem_mem hiw)
      have GC := hid (gain_calls RD.out (PR.out.below B.out) (by omega) (by have := OK.out.cols; omega) hro OKP.out)
      have WC := hid (wants_calls RD.out (PR.out.below B.out) (by omega) (by have := OK.out.cols; omega) hro OKP.out)
      have EI := hid (EG.out i hie hiw)
      have HIE := hid hie
      obtain ⟨row, hrow⟩ : ∃ row, row = worth[i] := ⟨_, rfl⟩
      rw [← hrow] at GC WC EI
      obtain ⟨G, hG⟩ : ∃ G, G = gainF row prices := ⟨_, rfl⟩
      rw [← hG] at GC EI
      obtain ⟨W, hW⟩ : ∃ W, W = wantsF row prices := ⟨_, rfl⟩
      rw [← hW] at WC EI
      have gi : (i : Int) < (n : Int) := by omega
      have gi0 : (0 : Int) ≤ (i : Int) := by omega
      clear hx hrl hro hrow hG hW
      go_upto_region 5 with fail
      go_wp2_with fail
      refine GC.out.mono ?_
      rintro e w1 ⟨rfl, hw1⟩
      have HW1 := hid hw1
      clear hw1 GC
      by_cases hG0 : 0 < G
      · rw [if_pos hG0] at EI
        rw [← HW1.out] at WC
        go_wp2_with fail
        refine WC.out.mono ?_
        rintro e w2 ⟨v2, rfl, hr2, hz2, hb2⟩
        have B2 := hid (show Below w.heap.size w w2 by rw [HW1.out] at hb2; exact B.out.trans (hb2.mono B.out.size))
        have E2 := hid (show EgS w.heap.size w2 E i us by rw [HW1.out] at hb2; exact ES.out.below hb2)
        have E3 := hid (E2.out.put HIE.out (v := v2) (by rw [EI.out]; exact OwnE.mono hr2 (by rw [HW1.out]; have := ES.out.row.lt; omega)) (by rw [EI.out]; exact hz2))
        have hil2 : i < us.length := by rw [E2.out.len]; exact HIE.out
        have c2 := E2.out.row.cell hil2
        have f2 := E2.out.row.froz i
        have B3 := hid (show Below w.heap.size w (w2.setCell ⟨w.heap.size, i, none⟩ v2) from B2.out.trans (Kept.below ((Kept.refl (fun k => k = w.heap.size) w2).set (C := w.heap.size) rfl _ _) B2.out.size (fun k hk => by omega)))
        obtain ⟨pv, cv, hv2, _⟩ := hr2.form
        obtain ⟨lw, hlw⟩ : ∃ lw, lw = (zl W).length := ⟨_, rfl⟩
        rw [← hlw] at hv2
        subst hv2
        clear hr2 hz2 hb2 hlw WC
        go_wp2
        go_roundg (n - (i + 1))
        · exact ⟨i + 1, _, by omega, by go_num, E3.out, B3.out⟩
        · have := HIK.out; omega
      · rw [if_neg hG0] at EI
        have E3 := hid (show EgS w.heap.size w1 E (i + 1) us by rw [HW1.out]; exact ES.out.skip HIE.out EI.out)
        have B3 := hid (show Below w.heap.size w w1 by rw [HW1.out]; exact B.out)
        have g0 : G ≤ 0 := by omega
        go_wp2
        go_roundg (n - (i + 1))
        · exact ⟨i + 1, us, by omega, by go_num, E3.out, B3.out⟩
        · have := HIK.out; omega
    · have hin' : i = n := by have := HIK.out; omega
      subst hin'
      have g2 : decide ((i : Int) < (i : Int)) = false := by simp
      have F := hid (FN.out _ wr (by
        have := ES.out
        rw [← EL.out] at this
        have h2 := this.nest (by rw [EL.out]; omega) (fun l hl => by have := (EO.out l hl).1; omega)
        rw [EL.out] at h2
        exact h2) B.out)
      go_wp2
      first | exact F.out | (go_ret; exact F.out)
end Go.Proofs.YtojednnciknhpaaDoor
namespace Go.Proofs.YtojednnciknhpaaDoor
set_option linter.unusedSimpArgs false
set_option linter.unusedVariables false
open Go.RowKit Go.ChangeShapes Go.WideShapes Go.Deep
/-- A slice of slices of encoded elements, the inner ones as they were handed in. -/
def NestA {α : Type} (enc : α → List Value) (sz : Nat) (w : World) (v : Value) (L : List (List α)) : Prop :=
  ∃ vs : List Value, ReadsE encV 1 w v vs ∧ vs.length = L.length ∧ ∀ (k : Nat) (h1 : k < vs.length) (h2 : k < L.length), ArgE enc sz w vs[k] L[k]
theorem ArgE.below {α : Type} {enc : α → List Value} {sz : Nat} {w w' : World} {v : Value} {l : List α} (h : ArgE enc sz w v l) (hb : Below w.heap.size w w') : ArgE enc sz w' v l := ⟨h.reads.below hb, h.form⟩
theorem NestA.below {α : Type} {enc : α → List Value} {sz : Nat} {w w' : World} {v : Value} {L : List (List α)} (h : NestA enc sz w v L) (hb : Below w.heap.size w w') : NestA enc sz w' v L := by
  obtain ⟨vs, h1, h2, h3⟩ := h
  exact ⟨vs, h1.below hb, h2, fun k a b => (h3 k a b).below hb⟩
theorem NestA.nest {α : Type} {enc : α → List Value} {sz : Nat} {w : World} {v : Value} {L : List (List α)} (h : NestA enc sz w v L) : NestE enc sz w v L := by
  obtain ⟨vs, h1, h2, h3⟩ := h
  exact ⟨vs, h1, h2, fun k a b => (h3 k a b).reads⟩
/-- What a slice of slices is made of, row by row. -/
theorem NestA.open_ {α : Type} {enc : α → List Value} {sz : Nat} {w : World} {v : Value} {L : List (List α)} (h : NestA enc sz w v L) : ∃ p cap, v = .slice p L.length cap ∧ ∀ i (hi : i < L.length), ∃ b off u, p = some ⟨b, off, none⟩ ∧ ArgE enc sz w u L[i] ∧ ∀ wx, Below w.heap.size w wx → wx.cell? ⟨b, off + i, none⟩ = some u := by
  obtain ⟨vs, ⟨hm, p, cap, bb, off, rfl, hp, hc⟩, hvl, hvk⟩ := h
  refine ⟨p, cap, by rw [hvl], fun i hi => ?_⟩
  obtain ⟨rfl, hbb⟩ := hp (by omega)
  refine ⟨bb, off, vs[i], rfl, hvk i (by omega) hi, fun wx hb => ?_⟩
  have c0 := hc i (by omega) 0 (by omega)
  simp at c0
  rw [← c0]
  exact hb.cell (p := ⟨bb, off + i, none⟩) hbb
/-- A list of lists of encoded elements out of its rows. -/
theorem nest_map {α : Type} {en : α → List Value} {sz : Nat} {Q : α → Prop} {w : World} {v : Value} {L : List (List (List Value))} (hL : ∀ rows ∈ L, ∀ r ∈ rows, ∃ a, Q a ∧ r = en a) (h : NestA (fun row => row) sz w v L) : ∃ M : List (List α), NestA en sz w v M ∧ ∀ l ∈ M, ∀ a ∈ l, Q a := by
  have : ∃ M : List (List α), L = M.map (fun l => l.map en) ∧ ∀ l ∈ M, ∀ a ∈ l, Q a := by
    clear h
    induction L with
    | nil => exact ⟨[], rfl, by simp⟩
    | cons rows L ih =>
      obtain ⟨M, e2, h2⟩ := ih fun r hr => hL r (List.mem_cons_of_mem _ hr)
      obtain ⟨xs, e1, h1⟩ := map_of_rows rows (hL rows List.mem_cons_self)
      refine ⟨xs :: M, by rw [e1, e2]; rfl, fun l hl => ?_⟩
      rcases List.mem_cons.1 hl with rfl | hl
      · exact h1
      · exact h2 l hl
  obtain ⟨M, rfl, hM⟩ := this
  obtain ⟨vs, h1, h2, h3⟩ := h
  refine ⟨M, ⟨vs, h1, by simpa using h2, fun k k1 k2 => ?_⟩, hM⟩
  have := h3 k k1 (by simpa using k2)
  rw [List.getElem_map] at this
  exact ⟨reads_map _ this.reads, this.form⟩
section
variable {H : Type} {enc : TypeId × Value → H} {P : Program} {w : World} {base : Nat} {spare : Nat → Bool} {held : Bool}
/-- What reads as a slice of integer rows. -/
theorem rowsA_trod {t e : TypeId} {n fuel : Nat} {ks : List IntKind} {u : Value} {x : DataW H × List MemPlace} (ht : P.underlying t = some (.slice e)) (hL : leaves P n e = some ks) (hc : P.cellsOf e = ks.length) (hpos : 0 < ks.length)
    (h : DataW.trod enc P w base spare held fuel t [u] = some x) : ∃ rows : List (List Value), (∀ row ∈ rows, IntsK ks row) ∧ ArgE (fun row => row) ks.length w u rows := by
  rcases open_slice ht h with ⟨hcs, _⟩ | ⟨a, len, cap, m, n', D, Pl, hcs, _, hl, hm, hmm, _, hi⟩
  · simp at hcs
    subst hcs
    exact ⟨[], by simp, ReadsE.nil _ _ _, .inl rfl⟩
  · simp at hcs
    subst hcs
    have hml : len ≤ m := by rw [hmm]; split <;> omega
    have hrow : ∀ i, i < len → ∃ cs' : List Value, IntsK ks cs' ∧ cs'.length = ks.length ∧ ∀ j, j < ks.length → w.cell? (a.add (i * ks.length + j)) = cs'[j]? := by
      intro i hil
      obtain ⟨cs', h1, h2⟩ := hi i (by omega)
      obtain ⟨_, h3, h4⟩ := World.cells?_some h1
      rw [hc] at h3 h4
      refine ⟨cs', leaves_trod n e ks hL n' _ _ h2, h3, fun j hj => ?_⟩
      rw [← Go.Deep.add_add]; exact h4 j hj
    have hspot : 0 < len → a.spot = none := fun h0 => by
      obtain ⟨cs', _, h3, h4⟩ := hrow 0 h0
      have := h4 0 hpos
      rw [List.getElem?_eq_getElem (by omega)] at this
      have hs := World.cell?_spot this
      unfold Addr.add at hs
      cases ha : a.spot <;> simp_all
    let rows : List (List Value) := (List.range len).map fun i => if h : i < len then (hrow i h).choose else []
    have hrl : rows.length = len := by simp [rows]
    have hget : ∀ i (h : i < len) (h' : i < rows.length), rows[i] = (hrow i h).choose := fun i h h' => by simp [rows, h]
    refine ⟨rows, fun row hr => ?_, ?_, .inr ⟨a, len, cap, rfl, hl, hm⟩⟩
    · obtain ⟨i, h1, rfl⟩ := List.getElem_of_mem hr
      have h2 : i < len := by rwa [hrl] at h1
      rw [hget i h2 h1]
      exact (hrow i h2).choose_spec.1
    · unfold ReadsE
      refine ⟨by rw [hrl]; unfold maxLen at hm; omega, some a, cap, a.block, a.off, by rw [hrl], fun h0 => ?_, fun k hk j hj => ?_⟩
      · have h0 : 0 < len := by rwa [hrl] at h0
        have hsp := hspot h0
        obtain ⟨cs', _, h3, h4⟩ := hrow 0 h0
        have h5 := h4 0 hpos
        rw [List.getElem?_eq_getElem (by omega)] at h5
        refine ⟨by cases a; simp_all, ?_⟩
        have := World.block_lt_of_cell? _ _ h5
        have e : (a.add (0 * ks.length + 0)).block = a.block := by unfold Addr.add; split <;> rfl
        rwa [e] at this
      · have hk' : k < len := by rwa [hrl] at hk
        have hsp := hspot (by omega)
        have := (hrow k hk').choose_spec.2.2 j hj
        rw [hget k hk' hk, ← this]
        have e : a.add (k * ks.length + j) = ⟨a.block, a.off + k * ks.length + j, none⟩ := by
          obtain ⟨ab, ao, asp⟩ := a
          simp only at hsp
          subst hsp
          unfold Addr.add
          simp [Nat.add_assoc]
        rw [e]
/-- What reads as a slice of slices of integer rows. -/
theorem nestA_trod {t t1 e : TypeId} {n fuel : Nat} {ks : List IntKind} {u : Value} {x : DataW H × List MemPlace} (ht : P.underlying t = some (.slice t1)) (ht1 : P.underlying t1 = some (.slice e)) (hc1 : P.cellsOf t1 = 1) (hL : leaves P n e = some ks) (hc : P.cellsOf e = ks.length) (hpos : 0 < ks.length)
    (h : DataW.trod enc P w base spare held fuel t [u] = some x) : ∃ L : List (List (List Value)), (∀ rows ∈ L, ∀ row ∈ rows, IntsK ks row) ∧ NestA (fun row => row) ks.length w u L := by
  rcases open_slice1 ht hc1 h with ⟨hcs, _⟩ | ⟨a, len, cap, m, n', V, D, Pl, hcs, _, hl, hm, hmm, _, hi⟩
  · simp at hcs
    subst hcs
    exact ⟨[], by simp, [], ReadsE.nil _ _ _, rfl, fun k h1 => absurd h1 (by simp)⟩
  · simp at hcs
    subst hcs
    have hml : len ≤ m := by rw [hmm]; split <;> omega
    have hrow : ∀ i, i < len → ∃ rows : List (List Value), (∀ row ∈ rows, IntsK ks row) ∧ ArgE (fun row => row) ks.length w (V i) rows := fun i hil => by
      obtain ⟨_, h2⟩ := hi i (by omega)
      exact rowsA_trod ht1 hL hc hpos h2
    have hspot : 0 < len → a.spot = none := fun h0 => by
      have hs := World.cell?_spot (hi 0 (by omega)).1
      unfold Addr.add at hs
      cases ha : a.spot <;> simp_all
    let L : List (List (List Value)) := (List.range len).map fun i => if h : i < len then (hrow i h).choose else []
    have hrl : L.length = len := by simp [L]
    have hget : ∀ i (h : i < len) (h' : i < L.length), L[i] = (hrow i h).choose := fun i h h' => by simp [L, h]
    have hvl : ((List.range len).map V).length = len := by simp
    refine ⟨L, fun rows hr => ?_, (List.range len).map V, ?_, by rw [hvl, hrl], fun k h1 h2 => ?_⟩
    · obtain ⟨i, h1, rfl⟩ := List.getElem_of_mem hr
      have h2 : i < len := by rwa [hrl] at h1
      rw [hget i h2 h1]
      exact (hrow i h2).choose_spec.1
    · unfold ReadsE
      refine ⟨by rw [hvl]; unfold maxLen at hm; omega, some a, cap, a.block, a.off, by rw [hvl], fun h0 => ?_, fun k hk j hj => ?_⟩
      · have h0 : 0 < len := by rwa [hvl] at h0
        have hsp := hspot h0
        have h5 := (hi 0 (by omega)).1
        refine ⟨by cases a; simp_all, ?_⟩
        have := World.block_lt_of_cell? _ _ h5
        have e : (a.add 0).block = a.block := by unfold Addr.add; split <;> rfl
        rwa [e] at this
      · have hk' : k < len := by rwa [hvl] at hk
        have hsp := hspot (by omega)
        have h5 := (hi k (by omega)).1
        have hj0 : j = 0 := by omega
        subst hj0
        have e : a.add k = ⟨a.block, a.off + k * 1 + 0, none⟩ := by
          obtain ⟨ab, ao, asp⟩ := a
          simp only at hsp
          subst hsp
          unfold Addr.add
          simp
        rw [← e, h5]
        simp
    · have hk' : k < len := by rwa [hvl] at h1
      rw [hget k hk' h2]
      simp only [List.getElem_map, List.getElem_range]
      exact (hrow k hk').choose_spec.2
end
/-- What an append may read. -/
def SrcX {α : Type} (enc : α → List Value) (sz : Nat) (w : World) (v : Value) (l : List α) : Prop :=
  (v = .slice none 0 0 ∧ l = []) ∨ ∃ a c, v = .slice (some a) l.length c ∧ l.length ≤ c ∧ ∀ j x, (flatE enc l)[j]? = some x → w.cell? (a.add j) = some x
theorem addr_add (b off j : Nat) : (⟨b, off, none⟩ : Addr).add j = ⟨b, off + j, none⟩ := by unfold Addr.add; split <;> simp_all
section
variable {α : Type} {enc : α → List Value} {sz : Nat}
theorem ArgE.src {w : World} {v : Value} {l : List α} (hlen : ∀ a, (enc a).length = sz) (hsz : 0 < sz) (h : ArgE enc sz w v l) : SrcX enc sz w v l := by
  obtain ⟨hm, p, cap, b, off, hv, hp, hc⟩ := h.reads
  rcases h.form with q | ⟨a, n, c, q, q1, q2⟩
  · rw [q] at hv
    injection hv with e1 e2 e3
    exact .inl ⟨q, List.length_eq_zero_iff.1 e2.symm⟩
  · rw [q] at hv
    injection hv with e1 e2 e3
    subst e2
    refine .inr ⟨a, c, q, q1, fun j x hx => ?_⟩
    have hj : j < l.length * sz := by rw [← flatE_length hlen l]; exact (List.getElem?_eq_some_iff.1 hx).1
    have h0 : 0 < l.length := by
      rcases Nat.eq_zero_or_pos l.length with h | h
      · rw [h] at hj; omega
      · exact h
    obtain ⟨h1, _⟩ := hp h0
    rw [← e1] at h1
    injection h1 with h1
    subst h1
    rw [addr_add]
    have h2 := hc (j / sz) (Nat.div_lt_of_lt_mul (by rw [Nat.mul_comm]; exact hj)) (j % sz) (Nat.mod_lt _ hsz)
    have h3 := flatE_get hlen l (j / sz) (Nat.div_lt_of_lt_mul (by rw [Nat.mul_comm]; exact hj)) (j % sz) (Nat.mod_lt _ hsz)
    have h4 : j / sz * sz + j % sz = j := by rw [Nat.mul_comm]; exact Nat.div_add_mod j sz
    rw [Nat.add_assoc, h4] at h2
    rw [h4] at h3
    rw [h2, ← h3]; exact hx
theorem OwnE.srcx {B : Nat} {e : TypeId} {w : World} {v : Value} {l : List α} (h : OwnE enc sz e B w v l) (hsz : 0 < sz) : SrcX enc sz w v l := by
  rcases h.2 with ⟨h1, h2⟩ | ⟨g, cap, cur, rfl, _, hg, h3, h4, h5, _⟩
  · exact .inl ⟨h1, List.length_eq_zero_iff.1 h2⟩
  · refine .inr ⟨⟨g, 0, none⟩, cap, rfl, h3, fun j x hx => ?_⟩
    have hj : j < l.length * sz := by rw [← h.1]; exact (List.getElem?_eq_some_iff.1 hx).1
    rw [addr_add, Nat.zero_add, World.ownsRow.cellAt h _ hj]
    exact hx
theorem SrcX.take {w : World} {a : Addr} {n c : Nat} {l : List α} (hlen : ∀ a, (enc a).length = sz) (h : SrcX enc sz w (.slice (some a) n c) l) {k : Nat} (hk : k ≤ n) : SrcX enc sz w (.slice (some a) k c) (l.take k) := by
  rcases h with ⟨h1, _⟩ | ⟨a', c', h1, h2, h3⟩
  · cases h1
  · injection h1 with e1 e2 e3
    injection e1 with e1
    subst e1 e2 e3
    have e : (l.take k).length = k := by rw [List.length_take]; omega
    refine .inr ⟨a, c, by rw [e], by omega, fun j x hx => h3 j x ?_⟩
    have hj : j < (l.take k).length * sz := by rw [← flatE_length hlen]; exact (List.getElem?_eq_some_iff.1 hx).1
    have hs : flatE enc l = flatE enc (l.take k) ++ flatE enc (l.drop k) := by rw [← flatE_append, List.take_append_drop]
    rw [hs, List.getElem?_append_left (by rw [flatE_length hlen]; exact hj)]
    exact hx
theorem SrcX.form {w : World} {v : Value} {l : List α} (h : SrcX enc sz w v l) : (v = .slice none 0 0 ∧ l = []) ∨ ∃ a c, v = .slice (some a) l.length c ∧ l.length ≤ c := by
  rcases h with h | ⟨a, c, h1, h2, _⟩
  · exact .inl h
  · exact .inr ⟨a, c, h1, h2⟩
/-- append(own row, what is read ...). -/
theorem own_app {t e ty : TypeId} {z : Value} {by' : Nat} (ht : Tryd.prog.underlying t = some (.slice e)) (hi : (Tryd.prog.info? e).map (fun i => (i.zero, i.size, i.bytes)) = some (some z, sz, by')) (hz : z.cells.size = sz) (hsz : 0 < sz)
    (hen : ∀ a, (enc a).length = sz) (hone : ∀ a, ∀ u ∈ enc a, u.oneCell' = true) {B : Nat} {w : World} {v : Value} {l : List α} (h : OwnE enc sz e B w v l) (hB : B ≤ w.heap.size) {u : Value} {m : List α} (hu : SrcX enc sz w u m) (hn : l.length + m.length ≤ maxLen) (hby : (l.length + m.length) * by' ≤ 140737488355328) :
    ∃ v' w', (Builtin.append_ #[t, t] ty #[v, u]).run Tryd.prog w = .ok v' w' ∧ OwnE enc sz e B w' v' (l ++ m) ∧ Kept (fun k => some k = v.ownBlock) w w' := by
  obtain ⟨i, h1, h2, h3, h4⟩ := info_of hi
  rcases hu with ⟨rfl, rfl⟩ | ⟨a, c, rfl, _, hc⟩
  · exact ⟨v, w, run_append_owned_none (P := Tryd.prog) (w := w) B t ty e i sz ht h1 v l.length (flatE enc l) h, by rw [List.append_nil]; exact h, Kept.refl _ _⟩
  · obtain ⟨v', w', r1, r2, r3, _, r5⟩ := run_append_own_at w B t ty e i z sz by' ht h1 h2 h3 h4 hz hsz v l.length (flatE enc l) h a m.length c (flatE enc m) (flatE_length hen m)
      hc (fun x hx => by obtain ⟨a, _, ha⟩ := List.mem_flatMap.1 hx; exact hone a x ha) hn hby hB
    refine ⟨v', w', r1, ?_, Kept.of_grown r3⟩
    unfold OwnE
    rw [flatE_append, List.length_append]
    exact r2
end

end Go.Proofs.YtojednnciknhpaaDoor
namespace Go.Proofs.YtojednnciknhpaaDoor
set_option linter.unusedSimpArgs false
set_option linter.unusedVariables false
open Go.RowKit
section
variable {α : Type} {enc : α → List Value} {sz : Nat} {eo ei : TypeId}
/-- An own table of own rows. -/
def OwnT (enc : α → List Value) (sz : Nat) (eo ei : TypeId) (B : Nat) (w : World) (v : Value) (L : List (List α)) : Prop :=
  ∃ vs : List Value, OwnE encV 1 eo B w v vs ∧ vs.length = L.length ∧ ∀ (k : Nat) (h1 : k < vs.length) (h2 : k < L.length), OwnE enc sz ei B w vs[k] L[k]
theorem OwnT.nil (B : Nat) (w : World) : OwnT enc sz eo ei B w (.slice none 0 0) ([] : List (List α)) := ⟨[], OwnE.nil B w, rfl, fun k h => absurd h (by simp)⟩
theorem OwnT.below {B : Nat} {w w' : World} {v : Value} {L : List (List α)} (h : OwnT enc sz eo ei B w v L) (hb : Below w.heap.size w w') : OwnT enc sz eo ei B w' v L := by
  obtain ⟨vs, h1, h2, h3⟩ := h
  exact ⟨vs, h1.below hb, h2, fun k a b => (h3 k a b).below hb⟩
theorem OwnT.mono {B B' : Nat} {w : World} {v : Value} {L : List (List α)} (h : OwnT enc sz eo ei B w v L) (hB : B' ≤ B) : OwnT enc sz eo ei B' w v L := by
  obtain ⟨vs, h1, h2, h3⟩ := h
  exact ⟨vs, h1.mono hB, h2, fun k a b => (h3 k a b).mono hB⟩
theorem encV_len (a : Value) : (encV a).length = 1 := rfl
theorem OwnT.form {B : Nat} {w : World} {v : Value} {L : List (List α)} (h : OwnT enc sz eo ei B w v L) : ∃ p cap, v = .slice p L.length cap := by
  obtain ⟨vs, h1, h2, _⟩ := h
  obtain ⟨p, c, hv, _⟩ := h1.form
  exact ⟨p, c, by rw [hv, h2]⟩
theorem OwnT.nest (hlen : ∀ a, (enc a).length = sz) {B : Nat} {w : World} {v : Value} {L : List (List α)} (h : OwnT enc sz eo ei B w v L) (h1 : L.length ≤ 100000) (h2 : ∀ l ∈ L, l.length ≤ 100000) : NestE enc sz w v L := by
  obtain ⟨vs, a1, a2, a3⟩ := h
  exact ⟨vs, a1.reads encV_len (by omega), a2, fun k k1 k2 => (a3 k k1 k2).reads hlen (by have := h2 _ (List.getElem_mem k2); omega)⟩
/-- Row by row, at any later world. -/
theorem OwnT.row (hlen : ∀ a, (enc a).length = sz) {B : Nat} {w : World} {v : Value} {L : List (List α)} (h : OwnT enc sz eo ei B w v L) : ∃ p cap, v = .slice p L.length cap ∧ ∀ i (hi : i < L.length), ∃ b u, p = some ⟨b, 0, none⟩ ∧ OwnE enc sz ei B w u L[i] ∧ ∀ wx, Below w.heap.size w wx → wx.cell? ⟨b, i, none⟩ = some u := by
  obtain ⟨vs, a1, a2, a3⟩ := h
  obtain ⟨p, cap, b, hv, hp, hc⟩ := a1.cells encV_len
  refine ⟨p, cap, by rw [hv, a2], fun i hi => ?_⟩
  obtain ⟨hp1, _, hbl⟩ := hp (by omega)
  refine ⟨b, vs[i], hp1, a3 i (by omega) hi, fun wx hb => ?_⟩
  have := hc i (by omega) 0 (by omega)
  simp at this
  rw [← this]
  exact hb.cell (p := ⟨b, i, none⟩) hbl
theorem own_ne {β : Type} {enc' : β → List Value} {sz' B B' : Nat} {w : World} {v u : Value} {l : List α} {m : List β} (hne : eo ≠ ei) (h : OwnE enc sz eo B w v l) (h' : OwnE enc' sz' ei B' w u m) : ∀ b, u.ownBlock = some b → ¬ some b = v.ownBlock := fun b hb e => by
  obtain ⟨cs, hcs⟩ := own_lt h e.symm
  obtain ⟨cs', hcs'⟩ := own_lt h' hb
  exact hne (cells_type hcs hcs')
/-- A row comes behind a table. -/
theorem OwnT.app' {t ty : TypeId} {by' : Nat} (hne : eo ≠ ei) (ht : Tryd.prog.underlying t = some (.slice eo)) (hi : (Tryd.prog.info? eo).map (fun i => (i.zero, i.size, i.bytes)) = some (some (.slice none 0 0), 1, by')) (hby : by' ≤ 10000)
    {B : Nat} {w : World} {v u : Value} {L : List (List α)} {r : List α} (h : OwnT enc sz eo ei B w v L) (hB : B ≤ w.heap.size) (hu : OwnE enc sz ei B w u r) (hl : L.length ≤ 100000) :
    ∃ v' w', (Builtin.append_ #[t, t] ty #[v, .slice (some ⟨w.heap.size, 0, none⟩) 1 1]).run Tryd.prog (w.alloc (.cells #[u] eo)) = .ok v' w' ∧ OwnT enc sz eo ei B w' v' (L ++ [r]) ∧ Below B w w' ∧ ∀ g cs ty', Cells w g cs ty' → ty' ≠ eo → Cells w' g cs ty' := by
  have ha := (Below.refl w.heap.size w).alloc (Nat.le_refl _) (.cells #[u] eo)
  have h2 := h.below ha
  have hu2 := hu.below ha
  obtain ⟨vs, a1, a2, a3⟩ := h2
  have src : SrcE encV 1 (w.alloc (.cells #[u] eo)) (.slice (some ⟨w.heap.size, 0, none⟩) 1 1) [u] := SrcE.one (Cells.new w #[u] eo)
  have hone : u.oneCell' = true := by
    obtain ⟨p, c, rfl, _⟩ := hu.form
    rfl
  have hlv : vs.length ≤ 100000 := by omega
  obtain ⟨i, h1, h2, h3, h4⟩ := info_of hi
  obtain ⟨v', w', r1, r2, r3, _, r5⟩ := run_append_own_at (w.alloc (.cells #[u] eo)) B t ty eo i (.slice none 0 0) 1 by' ht h1 h2 h3 h4 rfl (by omega) v vs.length (flatE encV vs) a1 ⟨w.heap.size, 0, none⟩ 1 1 (flatE encV [u]) rfl
      (fun j x hx => by
        rw [addr_add, Nat.zero_add]
        have hj : j = 0 := by
          have := (List.getElem?_eq_some_iff.1 hx).1
          simp [flatE] at this
          omega
        subst hj
        simp [flatE] at hx
        subst hx
        exact cell_one (Cells.new w #[u] eo))
      (fun x hx => by simp [flatE] at hx; subst hx; exact hone) (by unfold maxLen; omega) (by have : (vs.length + 1) * by' ≤ 100001 * 10000 := Nat.mul_le_mul (by omega) hby; omega) (by simp; omega)
  have K := Kept.of_grown r3
  refine ⟨v', w', r1, ⟨vs ++ [u], ?_, by simp [a2], fun k k1 k2 => ?_⟩, (ha.mono hB).trans ?_, fun g cs ty' hg hty => (hg.alloc _).kept K fun e => ?_⟩
  · unfold OwnE
    rw [flatE_append, List.length_append]
    exact r2
  · by_cases hk : k < vs.length
    · rw [List.getElem_append_left hk, List.getElem_append_left (by omega)]
      exact (a3 k hk (by omega)).kept K (own_ne hne a1 (a3 k hk (by omega)))
    · have e : k = vs.length := by simp at k1; omega
      subst e
      have e2 : (vs ++ [u])[vs.length] = u := by simp
      have e3 : (L ++ [r])[vs.length] = r := by simp [a2]
      rw [e2, e3]
      exact hu2.kept K (own_ne hne a1 hu2)
  · refine K.below (by simp; omega) fun k hk => ?_
    obtain ⟨p, c, rfl, hh⟩ := a1.form
    rcases hh with ⟨rfl, _⟩ | ⟨g, rfl, hg, _⟩
    · cases hk
    · injection hk with hk
      have : g = k := hk.symm
      omega
  · obtain ⟨cs2, h2⟩ := own_lt a1 e.symm
    exact hty (cells_type (hg.alloc _) h2)
/-- A row comes behind a table. -/
theorem OwnT.app {t ty : TypeId} {by' : Nat} (hne : eo ≠ ei) (ht : Tryd.prog.underlying t = some (.slice eo)) (hi : (Tryd.prog.info? eo).map (fun i => (i.zero, i.size, i.bytes)) = some (some (.slice none 0 0), 1, by')) (hby : by' ≤ 10000)
    {B : Nat} {w : World} {v u : Value} {L : List (List α)} {r : List α} (h : OwnT enc sz eo ei B w v L) (hB : B ≤ w.heap.size) (hu : OwnE enc sz ei B w u r) (hl : L.length ≤ 100000) :
    ∃ v' w', (Builtin.append_ #[t, t] ty #[v, .slice (some ⟨w.heap.size, 0, none⟩) 1 1]).run Tryd.prog (w.alloc (.cells #[u] eo)) = .ok v' w' ∧ OwnT enc sz eo ei B w' v' (L ++ [r]) ∧ Below B w w' := by
  obtain ⟨v', w', h1, h2, h3, _⟩ := OwnT.app' (ty := ty) hne ht hi hby h hB hu hl
  exact ⟨v', w', h1, h2, h3⟩
end
end Go.Proofs.YtojednnciknhpaaDoor
namespace Go.Proofs.YtojednnciknhpaaDoor
set_option linter.unusedSimpArgs false
set_option linter.unusedVariables false
open Go.RowKit
/-- The first elements of an own row. -/
theorem OwnE.take {α : Type} {enc : α → List Value} {sz : Nat} {e : TypeId} (hlen : ∀ a, (enc a).length = sz) {B : Nat} {w : World} {p : Option Addr} {n cap : Nat} {l : List α} (h : OwnE enc sz e B w (.slice p n cap) l) {k : Nat} (hk : k ≤ l.length) : OwnE enc sz e B w (.slice p k cap) (l.take k) := by
  have hl : (l.take k).length = k := by rw [List.length_take]; omega
  refine ⟨by rw [flatE_length hlen], ?_⟩
  rw [hl]
  rcases h.2 with ⟨h1, h2⟩ | ⟨g, c, cur, h1, h2, h3, h4, h5, h6, h7⟩
  · injection h1 with e1 e2 e3
    subst e1 e3
    left
    have : k = 0 := by omega
    exact ⟨by rw [this], this⟩
  · injection h1 with e1 e2 e3
    subst e1 e3
    refine .inr ⟨g, cap, cur, rfl, h2, h3, by omega, h5, h6, ?_⟩
    have hs : flatE enc l = flatE enc (l.take k) ++ flatE enc (l.drop k) := by rw [← flatE_append, List.take_append_drop]
    have h8 : cur.toList.take (k * sz) = (cur.toList.take (l.length * sz)).take (k * sz) := by
      rw [List.take_take, Nat.min_eq_left (Nat.mul_le_mul_right _ hk)]
    have h9 : (flatE enc (l.take k)).length = k * sz := by rw [flatE_length hlen, hl]
    rw [h8, h7, hs, List.take_left' h9]
/-- A number of an own row changed. -/
theorem own_put {e : TypeId} {B : Nat} {w : World} {g n cap : Nat} {l : List Int} (h : OwnE encI 1 e B w (.slice (some ⟨g, 0, none⟩) n cap) l) (i : Nat) (x : Int) : OwnE encI 1 e B (w.setCell ⟨g, i, none⟩ (.int .i64 x)) (.slice (some ⟨g, 0, none⟩) n cap) (l.set i x) := by
  have hn : n = l.length := by
    obtain ⟨p, c, hv, _⟩ := h.form
    injection hv
  subst hn
  have := World.ownsRow.stored h i (.int .i64 x)
  unfold OwnE
  rw [flatI, List.map_set, List.length_set, ← flatI]
  exact this.1
theorem kept_own' {α : Type} {enc : α → List Value} {sz B : Nat} {w w' : World} {v : Value} {l : List α} {e : TypeId} (h : OwnE enc sz e B w v l) (hB : B ≤ w.heap.size) (hk : Kept (fun k => some k = v.ownBlock) w w') : Below B w w' :=
  hk.below hB fun k e => by
    obtain ⟨p, c, rfl, hh⟩ := h.form
    rcases hh with ⟨rfl, _⟩ | ⟨g, rfl, hg, _⟩
    · cases e
    · injection e with e
      have e : k = g := e
      omega
/-- The first elements of a slice. -/
def cutW (c : Nat) : Value → Value
  | .slice p n cp => .slice p (min n c) cp
  | x => x
/-- A part of a row comes behind an empty one. -/
theorem cut_app {t e ty : TypeId} {by' : Nat} (ht : Tryd.prog.underlying t = some (.slice e)) (hi : (Tryd.prog.info? e).map (fun i => (i.zero, i.size, i.bytes)) = some (some (.int .i64 0), 1, by')) (hby : by' ≤ 10000) {w : World} {u : Value} {l : List Int} (h : ArgE encI 1 w u l) (c : Nat) (hc : c ≤ 5000) {B : Nat} (hB : B ≤ w.heap.size) : ∃ v' w', (Builtin.append_ #[t, t] ty #[.slice none 0 0, cutW c u]).run Tryd.prog w = .ok v' w' ∧ OwnE encI 1 e B w' v' (l.take c) ∧ Below B w w' := by
  have hs := h.src encI_len (by omega)
  have h2 : SrcX encI 1 w (cutW c u) (l.take c) := by
    rcases h.form with rfl | ⟨a, n, cp, rfl, h1, h2⟩
    · refine .inl ⟨by simp [cutW], ?_⟩
      rcases hs with ⟨_, q⟩ | ⟨a, c, q, _⟩
      · rw [q]; simp
      · cases q
    · have hl : n = l.length := by
        rcases hs with ⟨q, _⟩ | ⟨a', c', q, _⟩
        · cases q
        · injection q
      have e : l.take c = l.take (min n c) := by
        rw [hl]
        rcases Nat.le_total l.length c with q | q
        · rw [Nat.min_eq_left q, List.take_length, List.take_of_length_le q]
        · rw [Nat.min_eq_right q]
      rw [e]
      exact hs.take encI_len (Nat.min_le_left _ _)
  have hl : (l.take c).length ≤ 5000 := by rw [List.length_take]; omega
  obtain ⟨v', w', r1, r2, r3⟩ := own_app (ty := ty) ht hi rfl (by omega) encI_len encI_one (OwnE.nil B w) hB h2 (by unfold maxLen; simp; omega) (by have : (l.take c).length * by' ≤ 5000 * 10000 := Nat.mul_le_mul hl hby; simp only [List.length_nil, Nat.zero_add]; omega)
  exact ⟨v', w', r1, by simpa using r2, r3.below hB (fun k hk => by cases hk)⟩
end Go.Proofs.YtojednnciknhpaaDoor
