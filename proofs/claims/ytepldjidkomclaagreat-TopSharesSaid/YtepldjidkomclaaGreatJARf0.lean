/- The reference: runs as own rows; add. awake returns true. A register whose versions are canonical tilings; what a change of it comes to. small, tame: any call as one on the first pockets. extended: a list of spans with one more, joined to the last where it continues it. Lists of spans that are the runs of a set of pockets: fixed by the set. No program in sight. Where two tilings differ: the plain law of Changed. No program in sight. extended, with what it leaves: only the list's own block is turned. -/
import Derived.BigQuiet
import Derived.Test.YtepldjidkomclaaGreatJAAll
import Derived.Test.YtepldjidkomclaaGreatJARow
import Derived.Test.YtepldjidkomclaaGreatJAMake2
import Derived.Test.YtepldjidkomclaaGreatJAStk2
namespace Go.Proofs.YtepldjidkomclaaGreat.St
set_option linter.unusedSimpArgs false
set_option linter.unusedVariables false
open Go.RowKit Go.Shelf
attribute [local go_sem] Oper.semAt_some
end Go.Proofs.YtepldjidkomclaaGreat.St
namespace Go.Proofs.YtepldjidkomclaaGreat.St
set_option linter.unusedSimpArgs false
set_option linter.unusedVariables false
open Go.RowKit Go.Shelf
attribute [local go_sem] Oper.semAt_some
theorem Fine.of {t : T} (h : t.Ok) (ht : Tiles t.toList 1 1000000) : Fine t := ⟨h, ht.sorted (by omega) (by omega), by have := ht.few; omega⟩
theorem Turned.below {sB vB n : Nat} {w w' : World} (h : Turned sB vB w w') (h1 : n ≤ sB) (h2 : n ≤ vB) (h3 : n ≤ w.heap.size) : Below n w w' := ⟨h.os, h.tape, h.output, h.size, fun k hk => h.block k (by omega) (by omega) (by omega)⟩
end Go.Proofs.YtepldjidkomclaaGreat.St
namespace Go.Proofs.YtepldjidkomclaaGreat.St
set_option linter.unusedSimpArgs false
set_option linter.unusedVariables false
open Go.RowKit Go.Shelf
structure Reg (B : Nat) (W w : World) (sB vB : Nat) (vs : List T) : Prop where
  st : StAt w sB vB vs
  fine : ∀ t ∈ vs, Fine t
  tiles : ∀ t ∈ vs, Tiles t.toList 1 1000000
  canon : ∀ t ∈ vs, Canon t.toList
  zero : ∀ t ∈ vs, ∀ n, (valL t.toList n).state = 0 → valL t.toList n = cl0
  below : Below B W w
  ls : B ≤ sB
  lv : B ≤ vB
theorem Reg.after {B : Nat} {W w w' : World} {sB vB : Nat} {vs : List T} (h : Reg B W w sB vB vs) (hB : B ≤ w.heap.size) (hb : Below w.heap.size w w') : Reg B W w' sB vB vs :=
  ⟨h.st.below hb, h.fine, h.tiles, h.canon, h.zero, h.below.trans (hb.mono hB), h.ls, h.lv⟩
theorem Reg.last {B : Nat} {W w : World} {sB vB : Nat} {vs : List T} (h : Reg B W w sB vB vs) : ∃ t, vs.getLast? = some t ∧ t ∈ vs := by
  refine ⟨vs.getLast h.st.full, List.getLast?_eq_some_getLast h.st.full, List.getLast_mem h.st.full⟩
theorem Reg.cell {B : Nat} {W w : World} {sB vB : Nat} {vs : List T} (h : Reg B W w sB vB vs) : ∃ cap, w.cell? ⟨sB, 0, none⟩ = some (.slice (some ⟨vB, 0, none⟩) vs.length cap) ∧ sB < w.heap.size := by
  obtain ⟨cap, ps, hc, _, _⟩ := h.st.at_
  refine ⟨cap, ?_, hc.lt⟩
  have := hc.cell 0
  simpa using this
def Went (B : Nat) (W w : World) (sB vB : Nat) (vs : List T) (t : T) (r a c : Int) (g : Cl → Cl) (e : Ending) (w' : World) : Prop :=
  e = .returned (.int .i64 r) ∧ ∃ us uB, Reg B W w' sB uB us ∧ Turned sB vB w w' ∧ (r ≠ 0 → us = vs ∧ uB = vB) ∧
    (r = 0 → (uB = vB ∨ w.heap.size ≤ uB) ∧ ∃ t' : T, us = vs ++ [t'] ∧ t'.toList = changedP t.toList a c g)
theorem Reg.step {B : Nat} {W w w' : World} {sB vB : Nat} {vs : List T} {t : T} {r a c : Int} {g : Cl → Cl} {e : Ending} (h : Reg B W w sB vB vs) (hB : B ≤ w.heap.size) (ht : vs.getLast? = some t) (hS : Stepped w sB vB vs t r a c g e w')
    (hac : r = 0 → 1 ≤ a ∧ 1 ≤ c ∧ a + c - 1 ≤ 1000000) (hz : r = 0 → ∀ n, a ≤ n → n ≤ a + c - 1 → (g (valL t.toList n)).state ≠ 0) : Went B W w sB vB vs t r a c g e w' := by
  obtain ⟨he, h1, h2⟩ := hS
  refine ⟨he, ?_⟩
  by_cases hr : r = 0
  · obtain ⟨t', uB, s1, ok1, l1, u1, tu⟩ := h2 hr
    have hac := hac hr
    have hz := hz hr
    have htm : t ∈ vs := List.mem_of_getLast? ht
    have tt := h.tiles t htm
    have nt : Tiles t'.toList 1 1000000 := by rw [l1]; exact changedP_tiles g tt hac.1 hac.2.1 hac.2.2
    have nf := Fine.of ok1 nt
    refine ⟨vs ++ [t'], uB, ⟨s1, ?_, ?_, ?_, ?_, h.below.trans (tu.below h.ls h.lv hB), h.ls, ?_⟩, tu, fun e => absurd hr e, fun _ => ⟨u1, t', rfl, l1⟩⟩
    · intro u hu
      rcases List.mem_append.1 hu with hu | hu
      · exact h.fine u hu
      · simp at hu; subst hu; exact nf
    · intro u hu
      rcases List.mem_append.1 hu with hu | hu
      · exact h.tiles u hu
      · simp at hu; subst hu; exact nt
    · intro u hu
      rcases List.mem_append.1 hu with hu | hu
      · exact h.canon u hu
      · simp at hu; subst hu; rw [l1]; exact changedP_canon g a c (h.canon t htm)
    · intro u hu n
      rcases List.mem_append.1 hu with hu | hu
      · exact h.zero u hu n
      · simp at hu; subst hu
        rw [l1, changedP_val g tt hac.1 hac.2.1 hac.2.2]
        split
        · rename_i hn
          intro hs
          exact absurd hs (hz n hn.1 hn.2)
        · exact h.zero t htm n
    · rcases u1 with rfl | u1
      · exact h.lv
      · omega
  · have hb := h1 hr
    exact ⟨vs, vB, h.after hB hb, Turned.of_below hb, fun _ => ⟨rfl, rfl⟩, fun e => absurd e hr⟩
section
variable {B : Nat} {W w : World} {sB vB : Nat} {vs : List T} {t : T} (h : Reg B W w sB vB vs) (hB : B ≤ w.heap.size) (hn : vs.length ≤ 1000) (ht : vs.getLast? = some t)
include h hB hn ht
end
end Go.Proofs.YtepldjidkomclaaGreat.St
namespace Go.Proofs.YtepldjidkomclaaGreat.St
set_option linter.unusedSimpArgs false
set_option linter.unusedVariables false
open Go.RowKit Go.Shelf
attribute [local go_sem] Oper.semAt_some
attribute [local go_sem ↓] Go.wp_at_zero Go.wp_at_succ
end Go.Proofs.YtepldjidkomclaaGreat.St
namespace Go.Proofs.YtepldjidkomclaaGreat.St
set_option linter.unusedSimpArgs false
set_option linter.unusedVariables false
open Go.RowKit Go.Shelf
attribute [local go_sem] Oper.semAt_some
attribute [local go_sem ↓] Go.wp_at_zero Go.wp_at_succ
def encS (s : Int × Int) : List Value := [.int .i64 s.1, .int .i64 s.2]
theorem encS_len (s : Int × Int) : (encS s).length = 2 := rfl
theorem info_span : (Tryz.prog.info? 56).map (fun i => (i.zero, i.size, i.bytes)) = some (some (.agg #[.int .i64 0, .int .i64 0]), 2, 16) := by kernel_rfl
theorem under_spans : Tryz.prog.underlying 57 = some (.slice 56) := by kernel_rfl
def extL : List (Int × Int) → Int × Int → List (Int × Int)
  | [], s => [s]
  | [q], s => if q.1 + q.2 = s.1 then [(q.1, q.2 + s.2)] else [q, s]
  | a :: b :: l, s => a :: extL (b :: l) s
theorem extL_cons (a : Int × Int) (l : List (Int × Int)) (s : Int × Int) (h : l ≠ []) : extL (a :: l) s = a :: extL l s := by
  cases l with
  | nil => exact absurd rfl h
  | cons b l => rfl
theorem extL_last (l : List (Int × Int)) (q s : Int × Int) : extL (l ++ [q]) s = if q.1 + q.2 = s.1 then l ++ [(q.1, q.2 + s.2)] else l ++ [q, s] := by
  induction l with
  | nil => rfl
  | cons a l ih => rw [List.cons_append, extL_cons _ _ _ (by simp), ih]; split <;> simp
theorem extL_length (l : List (Int × Int)) (s : Int × Int) : (extL l s).length ≤ l.length + 1 := by
  rcases List.eq_nil_or_concat l with rfl | ⟨L, q, rfl⟩
  · simp [extL]
  · rw [List.concat_eq_append, extL_last]; split <;> simp
theorem new_span (w : World) (k : Nat) (x y : Int) : ∀ (j : Nat) (u : Value), [Value.int IntKind.i64 x, Value.int IntKind.i64 y][j]? = some u →
    (((w.alloc (Obj.cells #[Value.int IntKind.i64 x, Value.int IntKind.i64 y] 56)).drewN k).alloc (Obj.cells #[Value.int IntKind.i64 x, Value.int IntKind.i64 y] 56)).cell? ((⟨w.heap.size + 1, 0, none⟩ : Addr).add j) = some u := fun j u hu => by
  have := news_of (Cells.new ((w.alloc (Obj.cells #[Value.int IntKind.i64 x, Value.int IntKind.i64 y] 56)).drewN k) #[.int .i64 x, .int .i64 y] 56) j u (by simpa using hu)
  have hz : ((w.alloc (Obj.cells #[Value.int IntKind.i64 x, Value.int IntKind.i64 y] 56)).drewN k).heap.size = w.heap.size + 1 := by simp
  rwa [hz] at this
end Go.Proofs.YtepldjidkomclaaGreat.St
namespace Go.Proofs.YtepldjidkomclaaGreat.St
set_option linter.unusedSimpArgs false
set_option linter.unusedVariables false
open Go.RowKit Go.Shelf
def Runs : List (Int × Int) → Int → Int → Prop
  | [], _, _ => True
  | s :: l, a, b => a ≤ s.1 ∧ 1 ≤ s.2 ∧ s.1 + s.2 ≤ b + 1 ∧ Runs l (s.1 + s.2 + 1) b
def inS : List (Int × Int) → Int → Prop
  | [], _ => False
  | s :: l, n => s.1 ≤ n ∧ n < s.1 + s.2 ∨ inS l n
theorem Runs.from_ : ∀ {l : List (Int × Int)} {a b n : Int}, Runs l a b → inS l n → a ≤ n ∧ n ≤ b
  | s :: l, a, b, n, ⟨h1, h2, h3, h4⟩, h => by
    rcases h with h | h
    · omega
    · have := h4.from_ h; omega
theorem Runs.mono : ∀ {l : List (Int × Int)} {a a' b : Int}, Runs l a b → a' ≤ a → Runs l a' b
  | [], _, _, _, _, _ => trivial
  | _ :: _, _, _, _, ⟨h1, h2, h3, h4⟩, h => ⟨by omega, h2, h3, h4⟩
theorem Runs.up : ∀ {l : List (Int × Int)} {a b b' : Int}, Runs l a b → b ≤ b' → Runs l a b'
  | [], _, _, _, _, _ => trivial
  | _ :: _, _, _, _, ⟨h1, h2, h3, h4⟩, h => ⟨h1, h2, by omega, h4.up h⟩
end Go.Proofs.YtepldjidkomclaaGreat.St
namespace Go.Proofs.YtepldjidkomclaaGreat.St
set_option linter.unusedSimpArgs false
set_option linter.unusedVariables false
open Go.RowKit Go.Shelf
end Go.Proofs.YtepldjidkomclaaGreat.St
namespace Go.Proofs.YtepldjidkomclaaGreat.St
set_option linter.unusedSimpArgs false
set_option linter.unusedVariables false
open Go.RowKit Go.Shelf
attribute [local go_sem] Oper.semAt_some
attribute [local go_sem ↓] Go.wp_at_zero Go.wp_at_succ
structure Grew (w w' : World) (row : Option Nat) : Prop where
  size : w.heap.size ≤ w'.heap.size
  block : ∀ k, k < w.heap.size → some k ≠ row → w'.heap[k]? = w.heap[k]?
theorem Grew.app {w W w' : World} {row : Option Nat} (hb : Below w.heap.size w W) (hg : W.grownBy w' row) : Grew w w' row :=
  ⟨Nat.le_trans hb.size hg.size, fun k hk hr => (hg.block k (Nat.lt_of_lt_of_le hk hb.size) hr).trans (hb.block k hk)⟩
theorem Grew.put {w W : World} (hb : Below w.heap.size w W) (a : Addr) (v : Value) : Grew w (W.setCell a v) (some a.block) :=
  ⟨by simpa [World.setCell] using hb.size, fun k hk hr => (Below.heap_setCell W a v k (fun e => hr (by rw [e]))).trans (hb.block k hk)⟩
theorem Grew.cells {w w' : World} {row : Option Nat} (h : Grew w w' row) {B : Nat} {cs : Array Value} {t : TypeId} (hc : Cells w B cs t) (hr : some B ≠ row) : Cells w' B cs t := (h.block B hc.lt hr).trans hc
theorem Grew.below {w w' : World} {row : Option Nat} (h : Grew w w' row) {B : Nat} {w0 : World} (hb : Below B w w') : Below B w w' := hb
theorem Grew.keeps {B : Nat} {w w' : World} {row : Option Nat} (h : Grew w w' row) (hr : ∀ r, row = some r → ∃ cs t fr, w.heap[r]? = some (Obj.cells cs t fr)) : KeepsFrom B w w' :=
  ⟨h.size, fun k o _ hk ho => (h.block k (Array.getElem?_eq_some_iff.1 hk).1 (fun e => by obtain ⟨cs, t, fr, h⟩ := hr k e.symm; rw [hk] at h; cases h; cases ho)).trans hk⟩
set_option maxRecDepth 100000 in
set_option maxHeartbeats 2000000 in
theorem extendedG_calls (B : Nat) (w : World) (hB : B ≤ w.heap.size) (v : Value) (l : List (Int × Int)) (hv : OwnE encS 2 56 B w v l) (hl : l.length ≤ 10000000) (hs : ∀ q ∈ l, 0 ≤ q.1 ∧ q.1 ≤ 1000000000 ∧ 0 ≤ q.2 ∧ q.2 ≤ 1000000000) (x y : Int) (hx : 0 ≤ x ∧ x ≤ 1000000000 ∧ 0 ≤ y ∧ y ≤ 1000000000) :
    Calls Tryz.prog 44 #[v, .agg #[.int .i64 x, .int .i64 y]] w fun e w' => ∃ u, e = .returned u ∧ OwnE encS 2 56 B w' u (extL l (x, y)) ∧ Below B w w' ∧ Grew w w' v.ownBlock := by
  obtain ⟨i0, hi, hz0, hz1, hz2⟩ := info_parts info_span
  have HV := hid hv
  have b1 : Below B w (w.alloc (.cells #[.int .i64 x, .int .i64 y] 56)) := (Below.refl _ _).alloc hB _
  have B1 := hid b1
  clear b1
  have o2 : ∀ k, (((w.alloc (.cells #[.int .i64 x, .int .i64 y] 56)).drewN k).alloc (.cells #[.int .i64 x, .int .i64 y] 56)).ownsRow B 56 2 v l.length (flatE encS l) := fun k =>
    World.ownsRow.alloc (ownsRow_moved (World.ownsRow.alloc HV.out (.cells #[.int .i64 x, .int .i64 y] 56)) fun _ _ _ _ => rfl) (.cells #[.int .i64 x, .int .i64 y] 56)
  have O2 := hid o2
  clear o2
  rcases List.eq_nil_or_concat l with rfl | ⟨L, q, rfl⟩
  · have hf : ∃ ptr cap, v = .slice ptr 0 cap := by
      rcases hv.2 with ⟨h, _⟩ | ⟨g, cap, cur, h, _⟩
      · exact ⟨_, _, h⟩
      · exact ⟨_, _, h⟩
    obtain ⟨ptr, cap, rfl⟩ := hf
    have hd : decide ((0 : Int) < 0) = false := by decide
    clear hv hs
    go_enter Tryz.func44, Tryz.ntmps44
    go_wp2
    go_quiet (fail)
    go_wp2_with (at_builtin; refine wpList_append_lies _ rfl (.tmp 40) (.tmp 42) 57 rfl B 56 i0 _ 2 16 under_spans hi hz0 hz1 hz2 rfl (by decide) (.slice ptr 0 cap) (0) (flatE encS []) rfl (O2.out nq) ⟨w.heap.size + 1, 0, none⟩ 1 1 [.int .i64 x, .int .i64 y] rfl rfl ?a1 ?a2 (by decide) ?a3 ?a4 ?a5 _ rfl ?_)
    case a1 => exact new_span w nq x y
    case a2 => intro u hu; simp at hu; rcases hu with rfl | rfl <;> rfl
    case a3 => unfold maxLen; omega
    case a4 => omega
    case a5 => simp; omega
    intro g1 cap1 w3 own1 gr1 at1 lt1
    have bb : Below B w w3 := Below.grown ((drewN_below B1.out nq).alloc (by simp; omega) _) gr1 (by simp; omega) (fun r h => (World.ownsRow.lt (O2.out nq) r h).1)
    have OW := hid own1
    have BB := hid (And.intro bb (Grew.app (w := w) ((drewN_below ((Below.refl w.heap.size w).alloc (Nat.le_refl _) (.cells #[.int .i64 x, .int .i64 y] 56)) nq).alloc (by simp) (.cells #[.int .i64 x, .int .i64 y] 56)) gr1))
    clear own1 gr1 at1 lt1 bb
    go_wp2
    refine bodyPost_ret (v := .slice (some ⟨g1, 0, none⟩) (0 + 1) cap1) (by simp [results, Tryz.results44, go_sem]) rfl ⟨_, rfl, ?_, BB.out⟩
    exact OW.out
  · rw [List.concat_eq_append] at hv hl hs O2 HV ⊢
    obtain ⟨m, hm⟩ : ∃ m, m = L.length := ⟨_, rfl⟩
    have hml : (L ++ [q]).length = m + 1 := by simp [hm]
    obtain ⟨p0, cap, rfl, hp⟩ := hv.form
    obtain ⟨g, rfl, hg1, hg2⟩ : ∃ g, p0 = some ⟨g, 0, none⟩ ∧ B ≤ g ∧ g < w.heap.size := by
      rcases hp with ⟨_, h⟩ | ⟨g, h⟩
      · simp at h
      · exact ⟨g, h⟩
    have key : ∀ j, j < 2 → w.cell? ⟨g, m * 2 + j, none⟩ = (encS q)[j]? := by
      intro j hj
      have h1 := World.ownsRow.cellAt hv (m * 2 + j) (by rw [hml]; omega)
      rw [h1, flatE_get encS_len (L ++ [q]) m (by rw [hml]; omega) j hj]
      simp [hm]
    have q0 := key 0 (by omega)
    have q1 := key 1 (by omega)
    simp [encS] at q0 q1
    rw [hml] at hl O2 hv ⊢
    have hq := hs q (by simp)
    have HROW := hid (World.ownsRow.alloc HV.out (.cells #[.int .i64 x, .int .i64 y] 56))
    have hfz := (World.ownsRow.frozenAt HV.out)
    have n1 : IntKind.i64.wrap ((m : Int) + 1 - 1) = (m : Int) := by rw [IntWalk.i64_in _ (by omega)]; omega
    have n2 : (0 : Int) ≤ (m : Int) := by omega
    have n3 : (m : Int) < (m : Int) + 1 := by omega
    have n7 : (m : Int) < ((m + 1 : Nat) : Int) := by omega
    have n8 : m < m + 1 := by omega
    have n4 : decide ((0 : Int) < (m : Int) + 1) = true := by rw [decide_eq_true_eq]; omega
    have n5 : IntKind.i64.wrap (q.1 + q.2) = q.1 + q.2 := IntWalk.i64_in _ (by omega)
    have n6 : IntKind.i64.wrap (q.2 + y) = q.2 + y := IntWalk.i64_in _ (by omega)
    have HM := hid hm
    have HH := hid hml
    clear key hs hv hp hml hm
    by_cases hc : q.1 + q.2 = x
    · have hcd : (q.1 + q.2 == x) = true := by simp [hc]
      have HC := hid hc
      clear hc
      go_enter Tryz.func44, Tryz.ntmps44
      go_wp2
      go_quiet (fail)
      go_wp2
      have a0 : ((w.alloc (.cells #[.int .i64 x, .int .i64 y] 56)).drewN nq).drew.cell? ⟨w.heap.size, 1, none⟩ = some (.int .i64 y) := by simp
      have a1 : ((w.alloc (.cells #[.int .i64 x, .int .i64 y] 56)).drewN nq).drew.cell? ⟨g, m * 2 + 1, none⟩ = some (.int .i64 q.2) := by
        have h := World.ownsRow.lt HROW.out g rfl
        exact (Below.cell ((Below.refl w.heap.size w).alloc (Nat.le_refl _) (.cells #[.int .i64 x, .int .i64 y] 56)) (p := ⟨g, m * 2 + 1, none⟩) hg2).trans q1
      have hz2 : ((w.alloc (.cells #[.int .i64 x, .int .i64 y] 56)).drewN nq).drew.frozen? ⟨g, m * 2 + 1, none⟩ = false := World.ownsRow.frozenAt HROW.out _
      go_region
      go_wp2
      refine bodyPost_ret (v := .slice (some ⟨g, 0, none⟩) (m + 1) cap) (by simp [results, Tryz.results44, go_sem]) rfl ⟨_, rfl, ?_, ?_⟩
      · rw [extL_last, if_pos HC.out]
        have h1 := World.ownsRow.stored HROW.out (m * 2 + 1) (.int .i64 (q.2 + y))
        have h2 : (flatE encS (L ++ [q])).set (m * 2 + 1) (.int .i64 (q.2 + y)) = flatE encS (L ++ [(q.1, q.2 + y)]) := by
          rw [HM.out, flatE_set_last encS_len, flatE_snoc]; rfl
        rw [h2] at h1
        unfold OwnE
        have e : (L ++ [(q.1, q.2 + y)]).length = m + 1 := by simp [HM.out]
        rw [e]
        have h3 := h1.1
        rw [HH.out] at h3
        exact ownsRow_moved h3 fun _ _ _ _ => rfl
      · refine ⟨?_, ?_⟩
        · have hB1 := B1.out
          repeat (first | exact hB1 | refine Below.setCell ?_ (by simp; try omega) _ | refine drewN_below ?_ _ | refine Below.drew ?_)
        · exact Grew.put (w := w) (Below.drew (drewN_below ((Below.refl w.heap.size w).alloc (Nat.le_refl _) (.cells #[.int .i64 x, .int .i64 y] 56)) nq)) _ _
    · have hcd : (q.1 + q.2 == x) = false := by simp [hc]
      have HC := hid hc
      clear hc
      go_enter Tryz.func44, Tryz.ntmps44
      go_wp2
      go_quiet (fail)
      go_wp2_with (at_builtin; refine wpList_append_lies _ rfl (.tmp 40) (.tmp 42) 57 rfl B 56 i0 _ 2 16 under_spans hi hz0 hz1 hz2 rfl (by decide) (.slice (some ⟨g, 0, none⟩) (m + 1) cap) ((m + 1)) (flatE encS (L ++ [q])) rfl (O2.out nq) ⟨w.heap.size + 1, 0, none⟩ 1 1 [.int .i64 x, .int .i64 y] rfl rfl ?b1 ?b2 (by decide) ?b3 ?b4 ?b5 _ rfl ?_)
      case b1 => exact new_span w nq x y
      case b2 => intro u hu; simp at hu; rcases hu with rfl | rfl <;> rfl
      case b3 => unfold maxLen; omega
      case b4 => omega
      case b5 => simp; omega
      intro g1 cap1 w3 own1 gr1 at1 lt1
      have bb : Below B w w3 := Below.grown ((drewN_below B1.out nq).alloc (by simp; omega) _) gr1 (by simp; omega) (fun r h => (World.ownsRow.lt (O2.out nq) r h).1)
      have OW := hid own1
      have BB := hid (And.intro bb (Grew.app (w := w) ((drewN_below ((Below.refl w.heap.size w).alloc (Nat.le_refl _) (.cells #[.int .i64 x, .int .i64 y] 56)) nq).alloc (by simp) (.cells #[.int .i64 x, .int .i64 y] 56)) gr1))
      clear own1 gr1 at1 lt1 bb
      go_wp2
      refine bodyPost_ret (v := .slice (some ⟨g1, 0, none⟩) ((m + 1) + 1) cap1) (by simp [results, Tryz.results44, go_sem]) rfl ⟨_, rfl, ?_, BB.out⟩
      rw [extL_last, if_neg HC.out]
      unfold OwnE
      have := OW.out
      have e : (L ++ [q, (x, y)]) = (L ++ [q]) ++ [(x, y)] := by simp
      rw [e, flatE_snoc, List.length_append, HH.out]
      exact this
end Go.Proofs.YtepldjidkomclaaGreat.St
