/- call.zones: memory. No function of the program in sight. call.byTime. call.zone.volume, surplus, pick; sized; lean. A row of zones as a function; clear. No function of the program in sight. call.lean. -/
import Derived.Lib.SliceRun
import Derived.Test.YtjhelinbjlahiaaJZmap
import Derived.Test.YtjhelinbjlahiaaJTol
import Derived.Test.YtjhelinbjlahiaaJCl1
namespace Go.Proofs.Ytjhelinbjlahiaa
set_option linter.unusedSimpArgs false
set_option linter.unusedVariables false
open Go.RowKit Go.Maps
theorem infoZn : (Try.prog.info? 85).map (fun i => (i.zero, i.size, i.bytes)) = some (some (.agg #[.int .i64 0, .int .i64 0, .int .i64 0, .int .i64 0]), 4, 32) := by kernel_rfl
theorem undZn : Try.prog.underlying 81 = some (.slice 85) := by kernel_rfl
theorem infoI64 : (Try.prog.info? 2).map (fun i => (i.zero, i.size, i.bytes)) = some (some (.int .i64 0), 1, 8) := by kernel_rfl
theorem undI64 : Try.prog.underlying 24 = some (.slice 2) := by kernel_rfl
abbrev RowZ (B : Nat) (w : World) (v : Value) (l : List Zn) : Prop := OwnE encZn 4 85 B w v l
theorem i64_append {B : Nat} {w : World} {v : Value} {l : List Int} (h : RowI B w v l) (hB : B ≤ w.heap.size) {u : Value} {m : List Int} (hu : SrcE encI 1 w u m) (hn : l.length + m.length ≤ 1000000) (ty : TypeId) :
    ∃ v' w', (Builtin.append_ #[24, 24] ty #[v, u]).run Try.prog w = .ok v' w' ∧ RowI B w' v' (l ++ m) ∧ Kept (fun k => some k = v.ownBlock) w w' ∧ (v'.ownBlock = v.ownBlock ∨ v'.ownBlock = some w.heap.size) :=
  own_append undI64 infoI64 rfl (by decide) encI_len encI_one h hB hu (by unfold maxLen; omega) (by omega)
theorem zn_append {B : Nat} {w : World} {v : Value} {l : List Zn} (h : RowZ B w v l) (hB : B ≤ w.heap.size) {u : Value} {m : List Zn} (hu : SrcE encZn 4 w u m) (hn : l.length + m.length ≤ 1000000) (ty : TypeId) :
    ∃ v' w', (Builtin.append_ #[81, 81] ty #[v, u]).run Try.prog w = .ok v' w' ∧ RowZ B w' v' (l ++ m) ∧ Kept (fun k => some k = v.ownBlock) w w' ∧ (v'.ownBlock = v.ownBlock ∨ v'.ownBlock = some w.heap.size) :=
  own_append undZn infoZn rfl (by decide) encZn_len encZn_one h hB hu (by unfold maxLen; omega) (by omega)
theorem MapF.mono {w : World} {b n m : Nat} {F : Int → Int} (h : MapF w b F n) (hn : n ≤ m) : MapF w b F m := by
  obtain ⟨D, ⟨es, clock, hb, hr, hs, hD⟩, h2⟩ := h
  exact ⟨D, ⟨es, clock, hb, hr, Nat.le_trans hs hn, hD⟩, h2⟩
theorem MapF.congr {w : World} {b n : Nat} {F G : Int → Int} (h : MapF w b F n) (hG : ∀ k, G k = F k) : MapF w b G n := by
  obtain rfl : G = F := funext hG
  exact h
/-- A row's block is no map's. -/
theorem MapF.ne_row {α : Type} {enc : α → List Value} {sz B b n : Nat} {e : TypeId} {w : World} {v : Value} {l : List α} {F : Int → Int} (h : MapF w b F n) (hr : OwnE enc sz e B w v l) : ¬ some b = v.ownBlock := by
  intro hb
  obtain ⟨cs, hcs⟩ := own_lt hr hb.symm
  obtain ⟨D, ⟨es, clock, hm, _⟩, _⟩ := h
  have := (show w.heap[b]? = _ from hcs).symm.trans hm
  simp at this
theorem OwnE.own_ge {α : Type} {enc : α → List Value} {sz B : Nat} {e : TypeId} {w : World} {v : Value} {l : List α} (h : OwnE enc sz e B w v l) {k : Nat} (hk : some k = v.ownBlock) : B ≤ k := by
  rcases h.2 with ⟨rfl, _⟩ | ⟨g, cap, cur, rfl, hb, _⟩
  · cases hk
  · injection hk with hk
    subst hk
    exact hb
theorem OwnE.new {α : Type} {enc : α → List Value} {sz : Nat} {e : TypeId} {B : Nat} (w : World) (hB : B ≤ w.heap.size) (a : α) (hsz : (enc a).length = sz) (cs : Array Value) (hcs : cs = (enc a).toArray) : OwnE enc sz e B (w.alloc (.cells cs e (0, 0))) (.slice (some ⟨w.heap.size, 0, none⟩) 1 1) [a] := by
  subst hcs
  unfold OwnE
  rw [show flatE enc [a] = enc a by simp [flatE]]
  exact ⟨by rw [hsz]; simp, .inr ⟨w.heap.size, 1, _, rfl, hB, heap_alloc_new w _, Nat.le_refl _, by unfold maxLen; omega, by simp [hsz], by simp [hsz, List.take_of_length_le]⟩⟩
/-- The first loop. -/
structure Z1 (w0 : World) (u d : Nat) (l : List Bd) (i : Nat) (w : World) (v : Value) : Prop where
  row : RowI w0.heap.size w v (1 :: (l.take i).map cut)
  dn : MapF w d (downF (l.take i)) i
  up : MapF w u (upF (l.take i)) i
  below : Below w0.heap.size w0 w
  ne : u ≠ d
  gu : w0.heap.size ≤ u
  gd : w0.heap.size ≤ d
theorem Z1.alloc {w0 : World} {u d : Nat} {l : List Bd} {i : Nat} {w : World} {v : Value} (h : Z1 w0 u d l i w v) (o : Obj) : Z1 w0 u d l i (w.alloc o) v :=
  ⟨h.row.alloc o, h.dn.below ((Below.refl _ _).alloc (Nat.le_refl _) _), h.up.below ((Below.refl _ _).alloc (Nat.le_refl _) _), h.below.trans (((Below.refl w.heap.size w).alloc (Nat.le_refl _) o).mono h.below.size), h.ne, h.gu, h.gd⟩
/-- m[k] += q, then append(starts, k): a buyer. -/
theorem Z1.buy {w0 : World} {u d : Nat} {l : List Bd} {i : Nat} {w : World} {v : Value} (h : Z1 w0 u d l i w v) (hi : i < l.length) (hl : l.length ≤ 4096) {b : Bd} (hb : b = l[i]) (hs : b.s = 1) (hk : (Lit.int .i64 (b.p + 1)).wf = true) (ty : TypeId) :
    ∃ w2, (Instr.mapUpdate 104 (.map (some d)) (.int .i64 (b.p + 1)) (.int .i64 (downF (l.take i) (b.p + 1) + b.q))).run Try.prog w = .ok () w2 ∧
      ∃ v' w3, (Builtin.append_ #[24, 24] ty #[v, .slice (some ⟨w2.heap.size, 0, none⟩) 1 1]).run Try.prog (w2.alloc (.cells #[.int .i64 (b.p + 1)] 2)) = .ok v' w3 ∧ Z1 w0 u d l (i + 1) w3 v' ∧ Kept (fun k => w0.heap.size ≤ k) w w3 ∧ Kept (fun k => k = d) w w2 := by
  obtain ⟨w2, r1, m1, k1⟩ := h.dn.put (v := downF (l.take i) (b.p + 1) + b.q) (by omega) hk
  obtain ⟨w2', hw2'⟩ : ∃ w2', w2' = w2.alloc (.cells #[.int .i64 (b.p + 1)] 2) := ⟨_, rfl⟩
  have ka : Kept (fun k => k = d) w w2' := by rw [hw2']; exact k1.alloc _
  have rr := h.row.kept ka (fun b' hb' => fun e => h.dn.ne_row h.row (by rw [hb', e]))
  have hB : w0.heap.size ≤ w2'.heap.size := Nat.le_trans h.below.size ka.size
  have so : SrcE encI 1 w2' (.slice (some ⟨w2.heap.size, 0, none⟩) 1 1) [b.p + 1] := by
    rw [hw2']
    exact SrcE.one (Cells.new w2 #[.int .i64 (b.p + 1)] 2)
  obtain ⟨v', w3, r2, r3, k3, k4⟩ := i64_append rr hB so (by simp; omega) ty
  have ht : l.take (i + 1) = l.take i ++ [b] := by rw [hb]; exact take_snoc hi
  have kd : Kept (fun k => w0.heap.size ≤ k) w w3 := (ka.mono (fun k hk => by have := h.gd; omega)).trans k3 (fun k _ hk => rr.own_ge hk)
  have d2 : MapF w2' d (fun j => if j = b.p + 1 then downF (l.take i) (b.p + 1) + b.q else downF (l.take i) j) (i + 1) := by rw [hw2']; exact m1.below ((Below.refl _ _).alloc (Nat.le_refl _) _)
  have u2 : MapF w2' u (upF (l.take i)) i := h.up.kept ka h.ne
  refine ⟨w2, r1, v', w3, by rw [← hw2']; exact r2, ⟨?_, ?_, ?_, h.below.trans (kd.below h.below.size (fun k hk => hk)), h.ne, h.gu, h.gd⟩, kd, k1⟩
  · rw [ht, List.map_append]
    have : cut b = b.p + 1 := by simp [cut, hs]
    rw [show List.map cut [b] = [b.p + 1] by simp [this]]
    exact r3
  · refine (d2.kept k3 (fun e => d2.ne_row rr e)).congr fun k => ?_
    rw [ht]
    unfold downF
    rw [sumQ_snoc]
    by_cases hk : k = b.p + 1
    · subst hk; simp [hs]
    · rw [if_neg hk, if_neg (by simp; omega)]; omega
  · refine ((u2.kept k3 (fun e => u2.ne_row rr e)).mono (Nat.le_succ i)).congr fun k => ?_
    rw [ht]
    unfold upF
    rw [sumQ_snoc]
    simp [hs]
/-- The same of a seller. -/
theorem Z1.sell {w0 : World} {u d : Nat} {l : List Bd} {i : Nat} {w : World} {v : Value} (h : Z1 w0 u d l i w v) (hi : i < l.length) (hl : l.length ≤ 4096) {b : Bd} (hb : b = l[i]) (hs : b.s ≠ 1) (hk : (Lit.int .i64 b.p).wf = true) (ty : TypeId) :
    ∃ w2, (Instr.mapUpdate 104 (.map (some u)) (.int .i64 b.p) (.int .i64 (upF (l.take i) b.p + b.q))).run Try.prog w = .ok () w2 ∧
      ∃ v' w3, (Builtin.append_ #[24, 24] ty #[v, .slice (some ⟨w2.heap.size, 0, none⟩) 1 1]).run Try.prog (w2.alloc (.cells #[.int .i64 b.p] 2)) = .ok v' w3 ∧ Z1 w0 u d l (i + 1) w3 v' ∧ Kept (fun k => w0.heap.size ≤ k) w w3 ∧ Kept (fun k => k = u) w w2 := by
  obtain ⟨w2, r1, m1, k1⟩ := h.up.put (v := upF (l.take i) b.p + b.q) (by omega) hk
  obtain ⟨w2', hw2'⟩ : ∃ w2', w2' = w2.alloc (.cells #[.int .i64 b.p] 2) := ⟨_, rfl⟩
  have ka : Kept (fun k => k = u) w w2' := by rw [hw2']; exact k1.alloc _
  have rr := h.row.kept ka (fun b' hb' => fun e => h.up.ne_row h.row (by rw [hb', e]))
  have hB : w0.heap.size ≤ w2'.heap.size := Nat.le_trans h.below.size ka.size
  have so : SrcE encI 1 w2' (.slice (some ⟨w2.heap.size, 0, none⟩) 1 1) [b.p] := by
    rw [hw2']
    exact SrcE.one (Cells.new w2 #[.int .i64 b.p] 2)
  obtain ⟨v', w3, r2, r3, k3, k4⟩ := i64_append rr hB so (by simp; omega) ty
  have ht : l.take (i + 1) = l.take i ++ [b] := by rw [hb]; exact take_snoc hi
  have kd : Kept (fun k => w0.heap.size ≤ k) w w3 := (ka.mono (fun k hk => by have := h.gu; omega)).trans k3 (fun k _ hk => rr.own_ge hk)
  have u2 : MapF w2' u (fun j => if j = b.p then upF (l.take i) b.p + b.q else upF (l.take i) j) (i + 1) := by rw [hw2']; exact m1.below ((Below.refl _ _).alloc (Nat.le_refl _) _)
  have d2 : MapF w2' d (downF (l.take i)) i := h.dn.kept ka (fun e => h.ne e.symm)
  refine ⟨w2, r1, v', w3, by rw [← hw2']; exact r2, ⟨?_, ?_, ?_, h.below.trans (kd.below h.below.size (fun k hk => hk)), h.ne, h.gu, h.gd⟩, kd, k1⟩
  · rw [ht, List.map_append]
    have : cut b = b.p := by simp [cut, hs]
    rw [show List.map cut [b] = [b.p] by simp [this]]
    exact r3
  · refine ((d2.kept k3 (fun e => d2.ne_row rr e)).mono (Nat.le_succ i)).congr fun k => ?_
    rw [ht]
    unfold downF
    rw [sumQ_snoc]
    simp [hs]
  · refine (u2.kept k3 (fun e => u2.ne_row rr e)).congr fun k => ?_
    rw [ht]
    unfold upF
    rw [sumQ_snoc]
    by_cases hk : k = b.p
    · subst hk; simp [hs]
    · rw [if_neg hk, if_neg (by simp; omega)]; omega
/-- The second loop. -/
structure Z2 (w0 : World) (u d : Nat) (l : List Bd) (vs : Value) (i : Nat) (w : World) (vo : Value) : Prop where
  row : RowI w0.heap.size w vs (starts l)
  dn : MapF w d (downF l) 4097
  up : MapF w u (upF l) 4097
  below : Below w0.heap.size w0 w
  out : RowZ w0.heap.size w vo (zTo l (starts l) i)
theorem Z2.of {w0 : World} {u d n : Nat} {l : List Bd} {w w2 w3 : World} {v v3 : Value} (h : Z1 w0 u d l n w v) (hn : n = l.length) (hl : l.length ≤ 4096) (k2 : Kept (fun k => some k = v.ownBlock) w w2) (k3 : Kept (fun k => some k = v.ownBlock) w2 w3) (hr : RowI w0.heap.size w3 v3 (Lib.compact ((1 :: (l.take n).map cut).mergeSort fun x y => decide (x ≤ y)))) :
    Z2 w0 u d l v3 0 w3 (.slice none 0 0) := by
  have kk : Kept (fun k => some k = v.ownBlock) w w3 := k2.trans k3 (fun k _ hk => hk)
  have hd := (h.dn.kept kk (h.dn.ne_row h.row)).mono (show n ≤ 4097 by omega)
  have hu := (h.up.kept kk (h.up.ne_row h.row)).mono (show n ≤ 4097 by omega)
  rw [hn, List.take_length] at hr hd hu
  exact ⟨hr, hd, hu, h.below.trans (kk.below h.below.size (fun k hk => h.row.own_ge hk)), OwnE.nil _ _⟩
theorem Z2.same {w0 : World} {u d : Nat} {l : List Bd} {vs : Value} {i : Nat} {w : World} {vo : Value} (h : Z2 w0 u d l vs i w vo) (hz : zAt l (starts l) i = []) : Z2 w0 u d l vs (i + 1) w vo :=
  ⟨h.row, h.dn, h.up, h.below, by rw [zTo_succ, hz, List.append_nil]; exact h.out⟩
theorem zTo_len (l : List Bd) (S : List Int) (i : Nat) : (zTo l S i).length ≤ i := by
  induction i with
  | zero => simp [zTo]
  | succ i ih =>
    rw [zTo_succ, List.length_append]
    have : (zAt l S i).length ≤ 1 := by unfold zAt; split <;> simp
    omega
theorem Z2.app {w0 : World} {u d : Nat} {l : List Bd} {vs : Value} {i : Nat} {w : World} {vo : Value} (h : Z2 w0 u d l vs i w vo) (hi : i ≤ 4097) {f t dd ss : Int} (hz : zAt l (starts l) i = [⟨f, t, dd, ss⟩]) (ty : TypeId) :
    ∃ v' w3, (Builtin.append_ #[81, 81] ty #[vo, .slice (some ⟨w.heap.size, 0, none⟩) 1 1]).run Try.prog (w.alloc (.cells #[.int .i64 f, .int .i64 t, .int .i64 dd, .int .i64 ss] 85)) = .ok v' w3 ∧ Z2 w0 u d l vs (i + 1) w3 v' := by
  obtain ⟨w2, hw2⟩ : ∃ w2, w2 = w.alloc (.cells #[.int .i64 f, .int .i64 t, .int .i64 dd, .int .i64 ss] 85) := ⟨_, rfl⟩
  have b2 : Below w.heap.size w w2 := by rw [hw2]; exact (Below.refl _ _).alloc (Nat.le_refl _) _
  have so : SrcE encZn 4 w2 (.slice (some ⟨w.heap.size, 0, none⟩) 1 1) [⟨f, t, dd, ss⟩] := by
    rw [hw2]
    exact SrcE.one (Cells.new w #[.int .i64 f, .int .i64 t, .int .i64 dd, .int .i64 ss] 85)
  have ro := OwnE.below h.out b2
  have rs := OwnE.below h.row b2
  have hB : w0.heap.size ≤ w2.heap.size := Nat.le_trans h.below.size b2.size
  have hlen := zTo_len l (starts l) i
  obtain ⟨v', w3, r2, r3, k3, _⟩ := zn_append ro hB so (by simp; omega) ty
  refine ⟨v', w3, by rw [← hw2]; exact r2, ⟨?_, ?_, ?_, ?_, ?_⟩⟩
  · refine OwnE.kept rs k3 fun b hb e => ?_
    obtain ⟨c1, h1⟩ := own_lt rs hb
    obtain ⟨c2, h2⟩ := own_lt ro e.symm
    exact absurd (cells_type h1 h2) (by decide)
  · exact (h.dn.below b2).kept k3 ((h.dn.below b2).ne_row ro)
  · exact (h.up.below b2).kept k3 ((h.up.below b2).ne_row ro)
  · exact h.below.trans ((b2.mono h.below.size).trans (k3.below hB (fun k hk => ro.own_ge hk)))
  · rw [zTo_succ, hz]
    exact r3
theorem starts_ne (l : List Bd) : 0 < (starts l).length := List.length_pos_of_mem ((starts_spec l).2 1 |>.2 (.inl rfl))
theorem starts_bound {l : List Bd} (hok : ∀ b ∈ l, b.ok) {x : Int} (hx : x ∈ starts l) : 1 ≤ x ∧ x ≤ 1000001 := by
  rcases ((starts_spec l).2 x).1 hx with rfl | ⟨b, hb, rfl⟩
  · omega
  · obtain ⟨h1, h2, h3, _⟩ := hok b hb
    unfold cut
    split <;> omega
end Go.Proofs.Ytjhelinbjlahiaa
namespace Go.Proofs.Ytjhelinbjlahiaa
set_option linter.unusedSimpArgs false
set_option linter.unusedVariables false
open Go.RowKit
attribute [local go_sem] Oper.semAt_some
attribute [local go_sem ↓] Go.wp_at_zero Go.wp_at_succ
/-- A block whose first n cells are the int64s of a function. -/
def RowL (w : World) (g n : Nat) (f : Nat → Int) : Prop := ∃ cs, Cells w g cs 2 ∧ cs.size = n ∧ ∀ i, i < n → cs[i]? = some (Value.int .i64 (f i))
theorem RowL.cell {w : World} {g n : Nat} {f : Nat → Int} (h : RowL w g n f) {i : Nat} (hi : i < n) : w.cell? ⟨g, i, none⟩ = some (.int .i64 (f i)) := by
  obtain ⟨cs, hc, _, hz⟩ := h
  rw [hc.cell]; exact hz i hi
theorem RowL.froz {w : World} {g n : Nat} {f : Nat → Int} (h : RowL w g n f) (i : Nat) : w.frozen? ⟨g, i, none⟩ = false := by
  obtain ⟨cs, hc, _⟩ := h
  exact hc.frozen i
theorem RowL.lt {w : World} {g n : Nat} {f : Nat → Int} (h : RowL w g n f) : g < w.heap.size := by
  obtain ⟨cs, hc, _⟩ := h
  exact hc.lt
theorem RowL.set {w : World} {g n : Nat} {f : Nat → Int} (h : RowL w g n f) (i : Nat) (v : Int) : RowL (w.setCell ⟨g, i, none⟩ (.int .i64 v)) g n (fun k => if k = i then v else f k) := by
  obtain ⟨cs, hc, hs, hz⟩ := h
  refine ⟨_, hc.set i _, by simp [hs], fun k hk => ?_⟩
  have hlt := (Array.getElem?_eq_some_iff.1 (hz k hk)).1
  by_cases e : k = i
  · subst e
    simp only [if_true]
    rw [Array.getElem?_setIfInBounds_self_of_lt hlt]
  · simp only [if_neg e]
    rw [Array.getElem?_setIfInBounds_ne (fun h => e h.symm)]
    exact hz k hk
theorem RowL.kept {X : Nat → Prop} {w w' : World} {g n : Nat} {f : Nat → Int} (h : RowL w g n f) (hk : Kept X w w') (hx : ¬ X g) : RowL w' g n f := by
  obtain ⟨cs, hc, hz⟩ := h
  exact ⟨cs, hc.kept hk hx, hz⟩
theorem RowL.new (w : World) (n : Nat) (cs : Array Value) (hs : cs.size = n) (hz : ∀ i, i < n → cs[i]? = some (Value.int .i64 0)) : RowL (w.alloc (.cells cs 2)) w.heap.size n (fun _ => 0) := ⟨cs, Cells.new w _ _, hs, hz⟩
theorem RowL.own {w : World} {g n : Nat} {f : Nat → Int} (h : RowL w g n f) {l : List Int} (hl : l.length = n) (he : ∀ (k : Nat) (hk : k < l.length), f k = l[k]) {B : Nat} (hB : B ≤ g) (hm : n ≤ maxLen) : RowI B w (.slice (some ⟨g, 0, none⟩) n n) l := by
  obtain ⟨cs, hc, hs, hz⟩ := h
  subst hl
  refine ⟨by rw [flatI]; simp, .inr ⟨g, l.length, cs, rfl, hB, hc, Nat.le_refl _, hm, by omega, ?_⟩⟩
  rw [flatI, Nat.mul_one]
  apply List.ext_getElem?
  intro j
  rw [List.getElem?_take, Array.getElem?_toList]
  by_cases hj : j < l.length
  · rw [if_pos hj, hz j hj, he j hj]; simp [hj]
  · rw [if_neg hj]; simp [show l.length ≤ j by omega]
theorem mk_i64 (w : World) (n : Nat) (hn : n ≤ 5000) : (Instr.makeSlice 24 (.int .i64 n) (.int .i64 n)).run Try.prog w = .ok (.slice (some ⟨w.heap.size, 0, none⟩) n n) (w.alloc (.cells (madeCells #[.int .i64 0] n) 2)) := by
  obtain ⟨i, h1, h2, h3, h4⟩ := info_of infoI64
  have := run_makeSlice (w := w) 24 2 i _ undI64 h1 h2 .i64 .i64 (n : Int) (n : Int) (by omega) (Int.le_refl _) (by rw [h3]; simp; omega) (by rw [h4]; omega) (by omega)
  rw [h3] at this
  simpa [Value.cells] using this
def afterT : Int → List Int → Int
  | t, [] => t
  | t, x :: r => afterT (t - min x t) r
/-- A total dealt out in order. -/
def byTimeF : Int → List Int → List Int
  | _, [] => []
  | t, x :: r => min x t :: byTimeF (t - min x t) r
theorem afterT_snoc (l : List Int) (x : Int) : ∀ t, afterT t (l ++ [x]) = afterT t l - min x (afterT t l) := by
  induction l with
  | nil => exact fun t => rfl
  | cons y l ih => exact fun t => ih _
theorem byTimeF_snoc (l : List Int) (x : Int) : ∀ t, byTimeF t (l ++ [x]) = byTimeF t l ++ [min x (afterT t l)] := by
  induction l with
  | nil => exact fun t => rfl
  | cons y l ih => exact fun t => by simp only [List.cons_append, byTimeF, afterT, ih]
theorem byTimeF_len (l : List Int) : ∀ t, (byTimeF t l).length = l.length := by
  induction l with
  | nil => exact fun t => rfl
  | cons y l ih => exact fun t => by simp only [byTimeF, List.length_cons, ih]
theorem afterT_bound {l : List Int} (h : ∀ x ∈ l, 0 ≤ x) : ∀ t, 0 ≤ t → 0 ≤ afterT t l ∧ afterT t l ≤ t := by
  induction l with
  | nil => exact fun t ht => ⟨ht, Int.le_refl _⟩
  | cons y l ih =>
    intro t ht
    have hy := h y List.mem_cons_self
    obtain ⟨h1, h2⟩ := ih (fun x hx => h x (List.mem_cons_of_mem _ hx)) (t - min y t) (by omega)
    exact ⟨h1, by simp only [afterT]; omega⟩

set_option maxRecDepth 100000 in
set_option maxHeartbeats 4000000 in
theorem byTime_calls {w : World} {v : Value} {l : List Int} (hv : ReadsE encI 1 w v l) (hl : l.length ≤ 4096) (hok : ∀ x ∈ l, 0 ≤ x) {t : Int} (ht : 0 ≤ t ∧ t ≤ 5000000000000) :
    Calls Try.prog 73 #[.int .i64 t, v] w fun e w' => ∃ v', e = .returned v' ∧ RowI w.heap.size w' v' (byTimeF t l) ∧ Below w.heap.size w w' := by
  obtain ⟨hm, p, cap, bb, off, rfl, hp, hc⟩ := hv
  obtain ⟨n, hn⟩ : ∃ n, n = l.length := ⟨_, rfl⟩
  rw [← hn] at hp hm hl ⊢
  have HN := hid hn
  have HP := hid hp
  have HC := hid hc
  have HOK := hid hok
  have HT := hid ht
  obtain ⟨R, hR⟩ : ∃ R : Ending → World → Prop, R = fun e w' => ∃ v', e = .returned v' ∧ RowI w.heap.size w' v' (byTimeF t l) ∧ Below w.heap.size w w' := ⟨_, rfl⟩
  have HR := hid hR
  rw [← hR]
  have hn0 : (0 : Int) ≤ (n : Int) := by omega
  have hmk := mk_i64 w n (by omega)
  clear hR hn hp hc hok ht
  go_enter Try.func73, Try.ntmps73
  go_upto_region 3 with fail
  have S0 := hid (show ∀ wx, wx = w.alloc (.cells (madeCells #[.int .i64 0] n) 2) → RowL wx w.heap.size n (fun _ => 0) ∧ Below w.heap.size w wx by
    rintro wx rfl
    exact ⟨RowL.new w n _ (size_madeCells _ _) (fun i hi => by rw [← Array.getElem?_toList, toList_madeCells_one]; simp [hi]), (Below.refl _ _).alloc (Nat.le_refl _) _⟩)
  go_loopg [0, 13] n (fun k s0 s13 wr => ∃ (i : Nat) (h : Nat → Int), i + k = n ∧ s13 = .int .i64 i ∧ s0 = .int .i64 (afterT t (l.take i)) ∧ RowL wr w.heap.size n h ∧ (∀ k, k < i → h k = (byTimeF t (l.take i)).getD k 0) ∧ Below w.heap.size w wr)
  case atStart => exact ⟨0, _, by omega, rfl, rfl, (S0.out _ rfl).1, fun k hk => by omega, (S0.out _ rfl).2⟩
  case round =>
    obtain ⟨i, h, hik, rfl, rfl, hrow, hlo, hb⟩ := hrel
    have HIK := hid hik
    have HB := hid hb
    have HROW := hid hrow
    have HLO := hid hlo
    clear hik hb hrow hlo S0 hmk
    by_cases hin : i < n
    · have hil : i < l.length := by rw [← HN.out]; exact hin
      obtain ⟨rfl, hbb⟩ := HP.out (by omega)
      have c0 := (HB.out.cell (p := ⟨bb, off + i * 1 + 0, none⟩) hbb).trans (HC.out i hil 0 (by omega))
      simp [encI] at c0
      obtain ⟨x, hx⟩ : ∃ x, x = l[i] := ⟨_, rfl⟩
      rw [← hx] at c0
      have gi : (i : Int) < (n : Int) := by omega
      have gi0 : (0 : Int) ≤ (i : Int) := by omega
      have m0 := HROW.out.cell hin
      have f0 := HROW.out.froz i
      have l0 := HROW.out.lt
      obtain ⟨u, hu⟩ : ∃ u, u = h i := ⟨_, rfl⟩
      rw [← hu] at m0
      obtain ⟨a, ha⟩ : ∃ a, a = afterT t (l.take i) := ⟨_, rfl⟩
      have hab := afterT_bound (l := l.take i) (fun y hy => HOK.out y (List.mem_of_mem_take hy)) t HT.out.1
      have hT := HT.out
      have hx0 := HOK.out x (by rw [hx]; exact List.getElem_mem _)
      rw [← ha] at hab ⊢
      have ew : IntKind.i64.wrap (a - min x a) = a - min x a := IntWalk.i64_in _ (by omega)
      have ht : l.take (i + 1) = l.take i ++ [x] := by rw [hx]; exact take_snoc hil
      have AF := hid (show afterT t (l.take (i + 1)) = a - min x a by rw [ht, afterT_snoc, ← ha])
      have BF := hid (show byTimeF t (l.take (i + 1)) = byTimeF t (l.take i) ++ [min x a] by rw [ht, byTimeF_snoc, ← ha])
      have BL := hid (show (byTimeF t (l.take i)).length = i by rw [byTimeF_len, List.length_take]; omega)
      have m1 : (wr.setCell ⟨w.heap.size, i, none⟩ (.int .i64 (min x a))).cell? ⟨w.heap.size, i, none⟩ = some (.int .i64 (min x a)) := World.cell?_setCell_same' _ _ _ (by rw [m0]; rfl)
      have NX := hid (show ∀ wx, wx = wr.setCell ⟨w.heap.size, i, none⟩ (.int .i64 (min x a)) → ∃ h', RowL wx w.heap.size n h' ∧ (∀ k, k < i + 1 → h' k = (byTimeF t (l.take (i + 1))).getD k 0) ∧ Below w.heap.size w wx by
        rintro wx rfl
        refine ⟨_, HROW.out.set i (min x a), fun k hk => ?_, HB.out.trans (Kept.below ((Kept.refl (fun k => k = w.heap.size) wr).set (C := w.heap.size) rfl _ _) HB.out.size (fun k hk => by omega))⟩
        rw [BF.out]
        by_cases e : k = i
        · subst e
          rw [if_pos rfl, List.getD_eq_getElem?_getD, List.getElem?_append_right (Nat.le_of_eq BL.out), BL.out]; simp
        · rw [if_neg e, HLO.out k (by omega)]
          simp [List.getElem?_append_left, BL.out, show k < i by omega])
      clear hu hx ha ht hab hT
      go_wp2
      go_roundg (n - (i + 1))
      · obtain ⟨h', n1, n2, n3⟩ := NX.out _ rfl
        exact ⟨i + 1, h', by omega, by go_num, by rw [AF.out], n1, n2, n3⟩
      · have := HIK.out; omega
    · have hin' : i = n := by have := HIK.out; omega
      subst hin'
      have g1 : decide ((i : Int) < (i : Int)) = false := by simp
      have FIN := hid (show R (.returned (.slice (some ⟨w.heap.size, 0, none⟩) i i)) wr by
        rw [HR.out]
        have hlt : l.take i = l := by rw [HN.out, List.take_length]
        have hlo := HLO.out
        rw [hlt] at hlo
        exact ⟨_, rfl, HROW.out.own (l := byTimeF t l) (by rw [byTimeF_len]; exact HN.out.symm) (fun k hk => by rw [hlo k (by rw [byTimeF_len] at hk; rw [HN.out]; exact hk)]; simp [hk]) (Nat.le_refl _) (by unfold maxLen; omega), HB.out⟩)
      go_wp2
      first | exact FIN.out | (go_ret; exact FIN.out)
end Go.Proofs.Ytjhelinbjlahiaa
namespace Go.Proofs.Ytjhelinbjlahiaa
set_option linter.unusedSimpArgs false
set_option linter.unusedVariables false
open Go.RowKit
attribute [local go_sem] Oper.semAt_some
attribute [local go_sem ↓] Go.wp_at_zero Go.wp_at_succ
def Zn.val (z : Zn) : Value := .agg #[.int .i64 z.f, .int .i64 z.t, .int .i64 z.d, .int .i64 z.s]
/-- Within the reach of a walk. -/
def Zn.ok (z : Zn) : Prop := 1 ≤ z.f ∧ z.f ≤ z.t ∧ z.t ≤ 1000000 ∧ 0 ≤ z.d ∧ z.d ≤ 5000000000000 ∧ 0 ≤ z.s ∧ z.s ≤ 5000000000000
def Zn.vol (z : Zn) : Int := min z.d z.s
def Zn.sur (z : Zn) : Int := z.d - z.s
def siz (x : Int) : Int := max x (-x)
/-- The price of a zone, if all zones lean that way. -/
def Zn.pk (z : Zn) (way ref : Int) : Int := if way = 1 then z.t else if way = -1 then z.f else min (max ref z.f) z.t
theorem volume_calls (z : Zn) (w : World) : Calls Try.prog 51 #[z.val] w fun e w' => e = .returned (.int .i64 z.vol) ∧ Below w.heap.size w w' := by
  unfold Zn.val Zn.vol
  go_enter Try.func51, Try.ntmps51
  go_wp2
  go_ret
  exact ⟨by simp, Below.alloc (Below.refl _ _) (Nat.le_refl _) _⟩
theorem surplus_calls (z : Zn) (hz : z.ok) (w : World) : Calls Try.prog 56 #[z.val] w fun e w' => e = .returned (.int .i64 z.sur) ∧ Below w.heap.size w w' := by
  unfold Zn.val Zn.sur
  obtain ⟨h1, h2, h3, h4, h5, h6, h7⟩ := hz
  have e1 : IntKind.i64.wrap (z.d - z.s) = z.d - z.s := IntWalk.i64_in _ (by omega)
  go_enter Try.func56, Try.ntmps56
  go_wp2
  go_ret
  exact ⟨by simp, Below.alloc (Below.refl _ _) (Nat.le_refl _) _⟩
theorem sized_calls (x : Int) (hx : -9000000000000000000 ≤ x ∧ x ≤ 9000000000000000000) (w : World) : Calls Try.prog 55 #[.int .i64 x] w fun e w' => e = .returned (.int .i64 (siz x)) ∧ w' = w := by
  unfold siz
  have e1 : IntKind.i64.wrap (-x) = -x := IntWalk.i64_in _ (by omega)
  go_enter Try.func55, Try.ntmps55
  go_wp2
  go_ret
  exact ⟨by simp, rfl⟩
theorem pick_calls (z : Zn) (way ref : Int) (w : World) : Calls Try.prog 59 #[z.val, .int .i64 way, .int .i64 ref] w fun e w' => e = .returned (.int .i64 (z.pk way ref)) ∧ Below w.heap.size w w' := by
  unfold Zn.val Zn.pk
  by_cases h1 : way = 1
  · subst h1
    go_enter Try.func59, Try.ntmps59
    go_wp2
    go_ret
    exact ⟨by simp, Below.alloc (Below.refl _ _) (Nat.le_refl _) _⟩
  · have e1 : (way == 1) = false := by simpa using h1
    rw [if_neg h1]
    by_cases h2 : way = -1
    · subst h2
      go_enter Try.func59, Try.ntmps59
      go_wp2
      go_ret
      exact ⟨by simp, Below.alloc (Below.refl _ _) (Nat.le_refl _) _⟩
    · have e2 : (way == -1) = false := by simpa using h2
      rw [if_neg h2]
      clear h1 h2
      go_enter Try.func59, Try.ntmps59
      go_wp2
      go_ret
      exact ⟨by simp, Below.alloc (Below.refl _ _) (Nat.le_refl _) _⟩
end Go.Proofs.Ytjhelinbjlahiaa
namespace Go.Proofs.Ytjhelinbjlahiaa
set_option linter.unusedSimpArgs false
set_option linter.unusedVariables false
open Go.RowKit
/-- A block whose first n elements are the zones of a function. -/
def RowS (w : World) (g cap n : Nat) (f : Nat → Zn) : Prop := ∃ cs, Cells w g cs 85 ∧ cs.size = cap * 4 ∧ n ≤ cap ∧ cap ≤ maxLen ∧ ∀ k, k < n → ∀ c, c < 4 → cs[k * 4 + c]? = (encZn (f k))[c]?
theorem RowS.cell {w : World} {g cap n : Nat} {f : Nat → Zn} (h : RowS w g cap n f) {i : Nat} (hi : i < n) : w.cell? ⟨g, i * 4, none⟩ = some (.int .i64 (f i).f) ∧ w.cell? ⟨g, i * 4 + 1, none⟩ = some (.int .i64 (f i).t) ∧ w.cell? ⟨g, i * 4 + 2, none⟩ = some (.int .i64 (f i).d) ∧ w.cell? ⟨g, i * 4 + 3, none⟩ = some (.int .i64 (f i).s) := by
  obtain ⟨cs, hc, _, _, _, hz⟩ := h
  refine ⟨?_, ?_, ?_, ?_⟩
  · rw [hc.cell]; exact hz i hi 0 (by omega)
  · rw [hc.cell]; exact hz i hi 1 (by omega)
  · rw [hc.cell]; exact hz i hi 2 (by omega)
  · rw [hc.cell]; exact hz i hi 3 (by omega)
theorem RowS.froz {w : World} {g cap n : Nat} {f : Nat → Zn} (h : RowS w g cap n f) (i : Nat) : w.frozen? ⟨g, i, none⟩ = false := by
  obtain ⟨cs, hc, _⟩ := h
  exact hc.frozen i
theorem RowS.lt {w : World} {g cap n : Nat} {f : Nat → Zn} (h : RowS w g cap n f) : g < w.heap.size := by
  obtain ⟨cs, hc, _⟩ := h
  exact hc.lt
theorem RowS.kept {X : Nat → Prop} {w w' : World} {g cap n : Nat} {f : Nat → Zn} (h : RowS w g cap n f) (hk : Kept X w w') (hx : ¬ X g) : RowS w' g cap n f := by
  obtain ⟨cs, hc, hz⟩ := h
  exact ⟨cs, hc.kept hk hx, hz⟩
theorem RowS.congr {w : World} {g cap n : Nat} {f f' : Nat → Zn} (h : RowS w g cap n f) (e : ∀ i, i < n → f' i = f i) : RowS w g cap n f' := by
  obtain ⟨cs, hc, h1, h2, h3, hz⟩ := h
  exact ⟨cs, hc, h1, h2, h3, fun i hi => by rw [e i hi]; exact hz i hi⟩
theorem RowS.set {w : World} {g cap n : Nat} {f : Nat → Zn} (h : RowS w g cap n f) {i : Nat} (hi : i < n) (z : Zn) :
    RowS ((((w.setCell ⟨g, i * 4, none⟩ (.int .i64 z.f)).setCell ⟨g, i * 4 + 1, none⟩ (.int .i64 z.t)).setCell ⟨g, i * 4 + 2, none⟩ (.int .i64 z.d)).setCell ⟨g, i * 4 + 3, none⟩ (.int .i64 z.s)) g cap n (fun k => if k = i then z else f k) := by
  obtain ⟨cs, hc, h1, h2, h3, hz⟩ := h
  refine ⟨_, (((hc.set _ _).set _ _).set _ _).set _ _, by simp [h1], h2, h3, fun k hk c hc4 => ?_⟩
  have hsz : i * 4 + 3 < cs.size := by omega
  have hsk : k * 4 + 3 < cs.size := by omega
  have hz' := hz k hk c hc4
  by_cases e : k = i
  · subst e
    simp only [if_true]
    rcases (show c = 0 ∨ c = 1 ∨ c = 2 ∨ c = 3 by omega) with rfl | rfl | rfl | rfl <;> simp [encZn, Array.getElem?_setIfInBounds, hsz, show k * 4 < cs.size by omega, show k * 4 + 1 < cs.size by omega, show k * 4 + 2 < cs.size by omega]
  · simp only [if_neg e]
    rw [Array.getElem?_setIfInBounds_ne (by omega), Array.getElem?_setIfInBounds_ne (by omega), Array.getElem?_setIfInBounds_ne (by omega), Array.getElem?_setIfInBounds_ne (by omega)]
    exact hz'
theorem RowS.of {B : Nat} {w : World} {g n cap : Nat} {l : List Zn} (h : OwnE encZn 4 85 B w (.slice (some ⟨g, 0, none⟩) n cap) l) : RowS w g cap l.length (fun k => l.getD k ⟨0, 0, 0, 0⟩) := by
  obtain ⟨hn, hg, hB, hcell⟩ := OwnE.cellsAt encZn_len h
  subst hn
  rcases h.2 with ⟨h1, h2⟩ | ⟨g', cap', cur, hv, hb, hgc, h3, h4, h5, h6⟩
  · cases h1
  · cases hv
    refine ⟨cur, hgc, h5, h3, h4, fun k hk c hc => ?_⟩
    have := hcell k hk c hc
    rw [(show Cells w g cur 85 from hgc).cell] at this
    rw [this]
    simp [hk]
theorem RowS.own {w : World} {g cap n : Nat} {f : Nat → Zn} (h : RowS w g cap n f) {l : List Zn} (hl : l.length ≤ n) (he : ∀ (k : Nat) (hk : k < l.length), f k = l[k]) {B : Nat} (hB : B ≤ g) : OwnE encZn 4 85 B w (.slice (some ⟨g, 0, none⟩) l.length cap) l := by
  obtain ⟨cs, hc, h1, h2, h3, hz⟩ := h
  have hfl := flatE_length encZn_len l
  refine ⟨hfl, .inr ⟨g, cap, cs, rfl, hB, hc, by omega, h3, h1, ?_⟩⟩
  apply List.ext_getElem?
  intro j
  rw [List.getElem?_take, Array.getElem?_toList]
  by_cases hj : j < l.length * 4
  · rw [if_pos hj]
    have h4 := hz (j / 4) (by omega) (j % 4) (by omega)
    rw [show j / 4 * 4 + j % 4 = j by omega, he (j / 4) (by omega)] at h4
    have h5 := flatE_get encZn_len l (j / 4) (by omega) (j % 4) (by omega)
    rw [show j / 4 * 4 + j % 4 = j by omega] at h5
    rw [h4, h5]
  · rw [if_neg hj, List.getElem?_eq_none (by rw [hfl]; omega)]
theorem cells_setCells {w : World} {g : Nat} {ty : TypeId} (vs : List Value) : ∀ (o : Nat) (w : World) (cs : Array Value), Cells w g cs ty → ∃ cs', Cells (w.setCells g o vs) g cs' ty ∧ cs'.size = cs.size ∧ (∀ j, j < o → cs'[j]? = cs[j]?) ∧ Kept (fun k => k = g) w (w.setCells g o vs) := by
  induction vs with
  | nil => exact fun o w cs h => ⟨cs, h, rfl, fun _ _ => rfl, Kept.refl _ _⟩
  | cons v vs ih =>
    intro o w cs h
    obtain ⟨cs', h1, h2, h3, h4⟩ := ih (o + 1) (w.setCell ⟨g, o, none⟩ v) _ (h.set o v)
    refine ⟨cs', h1, by rw [h2]; simp, fun j hj => ?_, ((Kept.refl (fun k => k = g) w).set (C := g) rfl o v).trans h4 (fun _ _ e => e)⟩
    rw [h3 j (by omega), Array.getElem?_setIfInBounds_ne (by omega)]
theorem undZs : Try.prog.underlying 81 = some (.slice 85) := by kernel_rfl
theorem zeroZs (w : World) : (zeroValue 85).run Try.prog w = .ok (.agg #[.int .i64 0, .int .i64 0, .int .i64 0, .int .i64 0]) w := by kernel_rfl
/-- clear of a slice of zones. -/
theorem clear_zones (w : World) (b o n c : Nat) (hn : 0 < n) (hc : ∀ j, j < n * 4 → (w.cell? ⟨b, o + j, none⟩).isSome = true) (hf : ∀ j, j < n * 4 → w.frozen? ⟨b, o + j, none⟩ = false) (ty : TypeId) :
    (Builtin.clear_ #[81] ty #[.slice (some ⟨b, o, none⟩) n c]).run Try.prog w = .ok (.tuple #[]) (w.setCells b o (List.replicate (n * 4) (.int .i64 0))) := by
  have hzc : (Builtin.zeroCells (Value.agg #[.int .i64 0, .int .i64 0, .int .i64 0, .int .i64 0]).cells n).toList = List.replicate (n * 4) (Value.int .i64 0) := by
    simp only [Builtin.zeroCells]
    apply List.ext_getElem
    · simp [Value.cells]
    · intro i h1 h2
      have : i % 4 < 4 := Nat.mod_lt _ (by omega)
      simp [Value.cells]
      rcases (show i % 4 = 0 ∨ i % 4 = 1 ∨ i % 4 = 2 ∨ i % 4 = 3 by omega) with h | h | h | h <;> simp [h]
  have hst := run_storeCells_cells (P := Try.prog) b o (List.replicate (n * 4) (Value.int .i64 0)) 0 w (by simpa using hc) (by simpa using hf) (by intro v hv'; rw [List.eq_of_mem_replicate hv']; rfl)
  simp only [Nat.add_zero] at hst
  obtain ⟨m, rfl⟩ : ∃ m, n = m + 1 := ⟨n - 1, by omega⟩
  simp [Builtin.clear_, run_underlying undZs, zeroZs, hzc, hst]
end Go.Proofs.Ytjhelinbjlahiaa
namespace Go.Proofs.Ytjhelinbjlahiaa
set_option linter.unusedSimpArgs false
set_option linter.unusedVariables false
open Go.RowKit
attribute [local go_sem] Oper.semAt_some
attribute [local go_sem ↓] Go.wp_at_zero Go.wp_at_succ
def allOver (Z : List Zn) : Bool := Z.all fun z => decide (0 < z.sur)
def allUnder (Z : List Zn) : Bool := Z.all fun z => decide (z.sur < 0)
def leanF (Z : List Zn) : Int := if allOver Z then 1 else if allUnder Z then -1 else 0

set_option maxRecDepth 100000 in
set_option maxHeartbeats 4000000 in
theorem lean_calls {w : World} {v : Value} {Z : List Zn} (hv : ReadsE encZn 4 w v Z) (hl : Z.length ≤ 5000) (hok : ∀ z ∈ Z, z.ok) :
    Calls Try.prog 58 #[v] w fun e w' => e = .returned (.int .i64 (leanF Z)) ∧ Below w.heap.size w w' := by
  obtain ⟨hm, p, cap, bb, off, rfl, hp, hc⟩ := hv
  obtain ⟨n, hn⟩ : ∃ n, n = Z.length := ⟨_, rfl⟩
  rw [← hn] at hp hm hl ⊢
  have HN := hid hn
  have HP := hid hp
  have HC := hid hc
  have HOK := hid hok
  obtain ⟨R, hR⟩ : ∃ R : Ending → World → Prop, R = fun e w' => e = .returned (.int .i64 (leanF Z)) ∧ Below w.heap.size w w' := ⟨_, rfl⟩
  have HR := hid hR
  rw [← hR]
  clear hR hn hp hc hok
  go_enter Try.func58, Try.ntmps58
  go_upto_region 3 with fail
  go_loopg [9, 3, 4] n (fun k s9 s3 s4 wr => ∃ i : Nat, i + k = n ∧ s9 = .int .i64 i ∧ s3 = .bool (allOver (Z.take i)) ∧ s4 = .bool (allUnder (Z.take i)) ∧ Below w.heap.size w wr)
  case atStart => exact ⟨0, by omega, rfl, rfl, rfl, Below.refl _ _⟩
  case round =>
    obtain ⟨i, hik, rfl, rfl, rfl, hb⟩ := hrel
    have HIK := hid hik
    have HB := hid hb
    clear hik hb
    by_cases hin : i < n
    · have hil : i < Z.length := by rw [← HN.out]; exact hin
      obtain ⟨rfl, hbb⟩ := HP.out (by omega)
      have c0 := (HB.out.cell (p := ⟨bb, off + i * 4 + 0, none⟩) hbb).trans (HC.out i hil 0 (by omega))
      have c1 := (HB.out.cell (p := ⟨bb, off + i * 4 + 1, none⟩) hbb).trans (HC.out i hil 1 (by omega))
      have c2 := (HB.out.cell (p := ⟨bb, off + i * 4 + 2, none⟩) hbb).trans (HC.out i hil 2 (by omega))
      have c3 := (HB.out.cell (p := ⟨bb, off + i * 4 + 3, none⟩) hbb).trans (HC.out i hil 3 (by omega))
      simp [encZn] at c0 c1 c2 c3
      have gi : (i : Int) < (n : Int) := by omega
      have gi4 : (0 : Int) ≤ (i : Int) := by omega
      obtain ⟨z, hx⟩ : ∃ z, z = Z[i] := ⟨_, rfl⟩
      rw [← hx] at c0 c1 c2 c3
      have okz := HOK.out z (by rw [hx]; exact List.getElem_mem _)
      have ht : Z.take (i + 1) = Z.take i ++ [z] := by rw [hx]; exact take_snoc hil
      have OV := hid (show allOver (Z.take (i + 1)) = (allOver (Z.take i) && decide (0 < z.sur)) by rw [ht]; simp [allOver])
      have UN := hid (show allUnder (Z.take (i + 1)) = (allUnder (Z.take i) && decide (z.sur < 0)) by rw [ht]; simp [allUnder])
      obtain ⟨o, ho⟩ : ∃ o, o = allOver (Z.take i) := ⟨_, rfl⟩
      obtain ⟨u, hu⟩ : ∃ u, u = allUnder (Z.take i) := ⟨_, rfl⟩
      rw [← ho] at OV ⊢
      rw [← hu] at UN ⊢
      have SC := hid (fun wx => surplus_calls z okz wx)
      unfold Zn.val at SC
      obtain ⟨x, hxs⟩ : ∃ x, x = z.sur := ⟨_, rfl⟩
      rw [← hxs] at SC OV UN
      clear hx ht ho hu okz hxs
      go_upto_region 5 with fail
      go_cut [3] (fun s3 wx => s3 = .bool (o && decide (0 < x)) ∧ Cells wx wr.heap.size #[.int .i64 z.f, .int .i64 z.t, .int .i64 z.d, .int .i64 z.s] 85 ∧ Below w.heap.size w wx)
      case first =>
        have CB := hid (Cells.new wr #[.int .i64 z.f, .int .i64 z.t, .int .i64 z.d, .int .i64 z.s] 85)
        have BB := hid (HB.out.trans (((Below.refl wr.heap.size wr).alloc (Nat.le_refl _) (.cells #[.int .i64 z.f, .int .i64 z.t, .int .i64 z.d, .int .i64 z.s] 85)).mono HB.out.size))
        cases o with
        | false =>
          go_wp2
          go_meet
          exact ⟨rfl, CB.out, BB.out⟩
        | true =>
          go_wp2_with fail
          refine (SC.out _).mono ?_
          rintro e w2 ⟨rfl, hb2⟩
          have CB2 := hid (CB.out.below hb2 CB.out.lt)
          have BB2 := hid (BB.out.trans (hb2.mono BB.out.size))
          clear hb2
          go_wp2
          go_meet
          exact ⟨by simp, CB2.out, BB2.out⟩
      case rest =>
        obtain ⟨rfl, hcb, hbb2⟩ := hcut
        have CB := hid hcb
        have BB := hid hbb2
        have hl := hcb.lt
        have k0 : wc.cell? ⟨wr.heap.size, 0, none⟩ = some (.int .i64 z.f) := by rw [hcb.cell]; rfl
        have k1 : wc.cell? ⟨wr.heap.size, 1, none⟩ = some (.int .i64 z.t) := by rw [hcb.cell]; rfl
        have k2 : wc.cell? ⟨wr.heap.size, 2, none⟩ = some (.int .i64 z.d) := by rw [hcb.cell]; rfl
        have k3 : wc.cell? ⟨wr.heap.size, 3, none⟩ = some (.int .i64 z.s) := by rw [hcb.cell]; rfl
        clear hcb hbb2
        cases u with
        | false =>
          go_wp2
          go_roundg (n - (i + 1))
          · exact ⟨i + 1, by omega, by go_num, by rw [OV.out], by rw [UN.out]; rfl, BB.out⟩
          · have := HIK.out; omega
        | true =>
          go_wp2_with fail
          refine (SC.out _).mono ?_
          rintro e w2 ⟨rfl, hb2⟩
          have BB2 := hid (BB.out.trans (hb2.mono BB.out.size))
          clear hb2
          go_wp2
          go_roundg (n - (i + 1))
          · exact ⟨i + 1, by omega, by go_num, by rw [OV.out], by rw [UN.out]; simp, BB2.out⟩
          · have := HIK.out; omega
    · have hin' : i = n := by have := HIK.out; omega
      subst hin'
      have g1 : decide ((i : Int) < (i : Int)) = false := by simp
      have FIN := hid (show ∀ x, x = leanF (Z.take i) → R (.returned (.int .i64 x)) wr by rintro x rfl; rw [HR.out, HN.out, List.take_length]; exact ⟨rfl, HB.out⟩)
      unfold leanF at FIN
      obtain ⟨o, ho⟩ : ∃ o, o = allOver (Z.take i) := ⟨_, rfl⟩
      obtain ⟨u, hu⟩ : ∃ u, u = allUnder (Z.take i) := ⟨_, rfl⟩
      rw [← ho, ← hu] at FIN
      rw [← ho, ← hu]
      clear ho hu
      cases o with
      | true =>
        go_wp2
        first | exact FIN.out _ rfl | (go_ret; exact FIN.out _ rfl)
      | false =>
        cases u with
        | true =>
          go_wp2
          first | exact FIN.out _ rfl | (go_ret; exact FIN.out _ rfl)
        | false =>
          go_wp2
          first | exact FIN.out _ rfl | (go_ret; exact FIN.out _ rfl)
end Go.Proofs.Ytjhelinbjlahiaa
