/- make: the next version. Enter. Move, Pledge, Leave, held, Release, Seize. New; at. Pieces in an own row of memory: flattened; a store into it. No program in sight. Tilings: lists of pieces that cover a span, one behind the other; their values; canonical ones. No program in sight. A canonical tiling is fixed by the states it gives. No program in sight. -/
import Derived.Deep.AppendLies
import Derived.Test.YtepldjidkomclaaGreatJAStk2
import Derived.Test.YtepldjidkomclaaGreatJAVis0
namespace Go.Proofs.YtepldjidkomclaaGreat.St
set_option linter.unusedSimpArgs false
set_option linter.unusedVariables false
open Go.RowKit Go.Shelf
attribute [local go_sem] Oper.semAt_some
attribute [local go_sem ↓] Go.wp_at_zero Go.wp_at_succ
theorem info_tree : (Tryz.prog.info? 90).map (fun i => (i.zero, i.size, i.bytes)) = some (some (.pointer none), 1, 8) := by kernel_rfl
theorem under_trees : Tryz.prog.underlying 98 = some (.slice 90) := by kernel_rfl
theorem mixed_ok : Tryz.prog.follows .mixedOrders = true := by kernel_rfl
theorem wpIn_append_lies {P : Program} {F : Fence} {nF : Nat} (w : World) {o : Oper} {a : Act} {K : Act → World → Prop} {Q : Exit → Act → World → Prop} (s x : Operand) (t : TypeId)
    (ho : o.op = .call { callee := .builtin .append, args := #[s, x], argTypes := #[t, t] })
    (base : Nat) (e : TypeId) (i : TypeInfo) (z : Value) (size bytes : Nat) (ht : P.underlying t = some (.slice e)) (hi : P.info? e = some i) (hz : i.zero = some z)
    (hsize : i.size = size) (hby : i.bytes = bytes) (hzs : z.cells.size = size) (hsz : 0 < size)
    (v : Value) (n : Nat) (xs : List Value) (hs : a.eval s = v) (hown : w.ownsRow base e size v n xs)
    (ad : Addr) (m c : Nat) (news : List Value) (hx : a.eval x = .slice (some ad) m c) (hl : news.length = m * size) (hnews : ∀ j u, news[j]? = some u → w.cell? (ad.add j) = some u) (h1 : ∀ u ∈ news, u.oneCell' = true)
    (hm : 0 < m) (h63 : n + m ≤ maxLen) (hbytes : (n + m) * bytes ≤ 140737488355328) (hbase : base ≤ w.heap.size) (H : Nat) (hH : w.heap.size = H)
    (h : ∀ g cap w', w'.ownsRow base e size (.slice (some ⟨g, 0, none⟩) (n + m) cap) (n + m) (xs ++ news) → w.grownBy w' v.ownBlock → (v.ownBlock = some g ∨ g = H) → g < w'.heap.size → K (a.put o.dst (.slice (some ⟨g, 0, none⟩) (n + m) cap)) w') : o.wpIn F nF P a w K Q := by
  obtain ⟨g, cap, w', hr, h2, h3, h4, h5⟩ := run_append_lies (P := P) w t o.type base e i z size bytes ht hi hz hsize hby hzs hsz v n xs hown ad m c news hl hnews h1 hm h63 hbytes hbase H hH
  unfold Oper.wpIn
  refine ⟨by simp [Oper.about, ho, resolve, Target.leads, Sem.run_pure], ?_⟩
  rw [Oper.semAt_plain F _ _ (by rw [ho]; intro c hc'; cases hc')]
  simp [execOp, ho, resolve, invoke, builtin, hs, hx, hr, Result.andThen]
  exact h g cap w' h2 h3 h4 h5
set_option maxRecDepth 100000 in
set_option maxHeartbeats 4000000 in
theorem make_calls (w : World) (sB vB : Nat) (vs : List T) (hst : StAt w sB vB vs) (hn : vs.length ≤ 1000) (ok : (vs.getLast hst.full).Ok) (hs : Sorted (vs.getLast hst.full).toList) (hlen : (vs.getLast hst.full).toList.length ≤ 10000000)
    (a c : Int) (hac : 1 ≤ a ∧ 1 ≤ c ∧ a + c - 1 ≤ 1000000) (wf : FuncId) (caps : Array Value) (g : Cl → Cl)
    (hwf : MapsOf wf caps g w) (eg : ∀ args w, (callFunc wf args).run Tryz.prog w = .ok (.enter wf args) w) :
    Calls Tryz.prog 39 #[.pointer (some ⟨sB, 0, none⟩), .agg #[.int .i64 a, .int .i64 c], .func (.func wf) #[] caps] w fun e w' =>
      e = .returned (.int .i64 0) ∧ ∃ (t' : T) (uB : Nat), StAt w' sB uB (vs ++ [t']) ∧ t'.Ok ∧ t'.toList = changedP (vs.getLast hst.full).toList a c g ∧ (uB = vB ∨ w.heap.size ≤ uB) ∧ Turned sB vB w w' := by
  obtain ⟨i0, hi, hz0, hz1, hz2⟩ := info_parts info_tree
  have NW := hid (hst.now (by omega))
  obtain ⟨t, ht⟩ : ∃ t, t = vs.getLast hst.full := ⟨_, rfl⟩
  rw [← ht] at ok hs hlen NW ⊢
  obtain ⟨cap, ps, hc, ho, htr⟩ := hst.at_
  have HOK := hid ok
  have HS := hid hs
  have HLEN := hid hlen
  have HW := hid hwf
  have EG := hid eg
  have HC := hid hc
  have HO := hid ho
  have HT := hid htr
  clear ht hst ok hs hlen hwf eg hc ho htr
  obtain ⟨n, hnn⟩ : ∃ n, n = vs.length := ⟨_, rfl⟩
  have HN := hid hnn
  rw [← hnn] at hn
  have hC := HC.out
  rw [← hnn] at hC
  clear hnn HC
  have HC := hid hC
  clear hC
  obtain ⟨F, hFe⟩ : ∃ F, F = Fence.wide := ⟨_, rfl⟩
  have hF : Free F Tryz.prog := hFe ▸ free_wide _
  have hro : F.round = none := by rw [hFe]; rfl
  have hdd : ∀ k : Nat, (F.depth.isSome = true → 1 ≤ k) := fun k h => by rw [hF.depth] at h; cases h
  have FE := hid hFe
  clear hFe
  have hS0 : Cells (w.alloc (.cells #[.int .i64 a, .int .i64 c] 56)).drew sB #[.slice (some ⟨vB, 0, none⟩) n cap] 100 ∧ Cells (w.alloc (.cells #[.int .i64 a, .int .i64 c] 56)).drew w.heap.size #[.int .i64 a, .int .i64 c] 56 :=
    ⟨(HC.out.alloc _).drew, (Cells.new w _ _).drew⟩
  have HS0 := hid hS0
  clear hS0
  go_enter Tryz.func39, Tryz.ntmps39
  go_wp2
  refine (wpIn_wide (n := 6)).1 ?_
  rw [← FE.out]
  refine wpIn_region_heldIn (S := fun w' => Cells w' sB #[.slice (some ⟨vB, 0, none⟩) n cap] 100 ∧ Cells w' w.heap.size #[.int .i64 a, .int .i64 c] 56) (f := 14) mixed_ok ?_
  refine wpAnyHIn_take hF (by kernel_rfl) (i := 0) (v := .pointer (some ⟨sB, 0, none⟩)) rfl (by kernel_rfl) (by kernel_rfl) (by kernel_rfl) (fun _ _ _ h => h) (.inl ⟨rfl, fun w' hs => ?_⟩) HS0.out ?_
  · clear hs; go_simp
  refine wpAnyHIn_take hF (by kernel_rfl) (i := 1) (v := .pointer (some ⟨sB, 0, none⟩)) rfl (by kernel_rfl) (by kernel_rfl) (by kernel_rfl) (fun _ _ _ h => h) (.inl ⟨rfl, fun w' hs => ?_⟩) HS0.out ?_
  · clear hs; go_simp
  refine wpAnyHIn_take hF (by kernel_rfl) (i := 2) (v := .pointer (some ⟨sB, 0, none⟩)) rfl (by kernel_rfl) (by kernel_rfl) (by kernel_rfl) (fun _ _ _ h => h) (.inl ⟨rfl, fun w' hs => ?_⟩) HS0.out ?_
  · have z0 := hs.1.cell 0
    have z1 := hs.1.lt
    simp at z0
    clear hs
    go_simp
  refine wpAnyHIn_take hF (by kernel_rfl) (i := 3) (v := .pointer (some ⟨sB, 0, none⟩)) rfl (by kernel_rfl) (by kernel_rfl) (by kernel_rfl) (fun _ _ _ h => h) (.inl ⟨rfl, fun w' hs => ?_⟩) HS0.out ?_
  · have z0 := hs.1.cell 0
    have z1 := hs.1.lt
    simp at z0
    clear hs
    go_simp
  refine wpAnyHIn_take hF (by kernel_rfl) (i := 4) (v := .slice (some ⟨vB, 0, none⟩) n cap) rfl (by kernel_rfl) (by kernel_rfl) (by kernel_rfl) (fun _ _ _ h => h) (.inl ⟨rfl, fun w' hs => ?_⟩) HS0.out ?_
  · have z0 := hs.1.cell 0
    have z1 := hs.1.lt
    simp at z0
    clear hs
    go_simp
  refine wpAnyHIn_take hF (by kernel_rfl) (i := 5) (v := .pointer (some ⟨sB, 0, none⟩)) rfl (by kernel_rfl) (by kernel_rfl) (by kernel_rfl) (fun _ _ _ h => h) (.inl ⟨rfl, fun w' hs => ?_⟩) HS0.out ?_
  · clear hs; go_simp
  refine wpAnyHIn_take hF (by kernel_rfl) (i := 7) (v := .agg #[.int .i64 a, .int .i64 c]) rfl (by kernel_rfl) (by kernel_rfl) (by kernel_rfl) (fun _ _ _ h => h) (.inl ⟨rfl, fun w' hs => ?_⟩) HS0.out ?_
  · have z0 := hs.2.cell 0
    have z1 := hs.2.cell 1
    simp at z0 z1
    clear hs
    go_simp
  refine wpAnyHIn_take hF (by kernel_rfl) (i := 8) (v := .func (.func wf) #[] caps) rfl (by kernel_rfl) (by kernel_rfl) (by kernel_rfl) (fun _ _ _ h => h) (.inl ⟨rfl, fun w' hs => ?_⟩) HS0.out ?_
  · clear hs; go_simp
  refine wpAnyHIn_one (i := 6) rfl (by kernel_rfl) rfl ?_
  gi_wp2_with fail
  refine ⟨hF.fn _, ?_⟩
  have b0 : Below w.heap.size w (w.alloc (.cells #[.int .i64 a, .int .i64 c] 56)).drew := ((Below.refl _ _).alloc (Nat.le_refl _) _).drew
  have B0 := hid b0
  clear b0
  refine (hF.calls _ _ _ _ _ (now_calls _ sB t (NW.out.below B0.out))).mono ?_
  rintro e w1 ⟨p, rfl, ht1, hb1⟩
  have S1 := hid (show Cells w1 sB #[.slice (some ⟨vB, 0, none⟩) n cap] 100 ∧ Cells w1 w.heap.size #[.int .i64 a, .int .i64 c] 56 from ⟨HS0.out.1.below hb1 HS0.out.1.lt, HS0.out.2.below hb1 HS0.out.2.lt⟩)
  have B1 := hid (B0.out.trans (hb1.mono B0.out.size))
  have T1 := hid ht1
  clear ht1 hb1
  have eg' := EG.out
  gi_wp2_with fail
  refine ⟨S1.out, ?_⟩
  refine wpAnyHIn_one (i := 9) rfl (by kernel_rfl) rfl ?_
  gi_wp2_with fail
  refine ⟨hF.fn _, ?_⟩
  refine (hF.calls _ _ _ _ _ (changed_calls w1 t p T1.out HOK.out HS.out HLEN.out a c hac wf caps g (fun d W hb => HW.out d W (B1.out.trans (hb.mono B1.out.size))) EG.out)).mono ?_
  rintro e w2 ⟨q, t', rfl, ht2, ok2, el2, hb2⟩
  have S2 := hid (show Cells w2 sB #[.slice (some ⟨vB, 0, none⟩) n cap] 100 ∧ Cells w2 w.heap.size #[.int .i64 a, .int .i64 c] 56 from ⟨S1.out.1.below hb2 S1.out.1.lt, S1.out.2.below hb2 S1.out.2.lt⟩)
  have B2 := hid (B1.out.trans (hb2.mono B1.out.size))
  have T2 := hid (And.intro ht2 (And.intro ok2 el2))
  clear ht2 ok2 el2 hb2 eg'
  gi_wp2_with fail
  refine ⟨S2.out, ?_⟩
  refine wpAnyHIn_one (i := 10) rfl (by kernel_rfl) rfl ?_
  gi_wp2_with fail
  have S3 := hid (show Cells (w2.alloc (.cells #[.pointer q] 90)) sB #[.slice (some ⟨vB, 0, none⟩) n cap] 100 ∧ Cells (w2.alloc (.cells #[.pointer q] 90)) w.heap.size #[.int .i64 a, .int .i64 c] 56 from ⟨S2.out.1.alloc _, S2.out.2.alloc _⟩)
  refine ⟨S3.out, ?_⟩
  refine wpAnyHIn_one (i := 11) rfl (by kernel_rfl) rfl ?_
  obtain ⟨cur, hvc⟩ := ownsRow_block HO.out
  have HV := hid hvc
  clear hvc
  have ho0 : w.ownsRow 0 90 1 (.slice (some ⟨vB, 0, none⟩) n cap) n (ps.map .pointer) := by rw [HN.out]; exact HO.out
  have ho2 : (w2.alloc (.cells #[.pointer q] 90)).ownsRow 0 90 1 (.slice (some ⟨vB, 0, none⟩) n cap) n (ps.map .pointer) :=
    ownsRow_keep ho0 ((heap_alloc_old w2 _ (Nat.lt_of_lt_of_le HV.out.lt B2.out.size)).trans (B2.out.block vB HV.out.lt))
  refine wpIn_append_lies _ (.tmp 11) (.tmp 17) 98 rfl 0 90 i0 (.pointer none) 1 8 under_trees hi hz0 hz1 hz2 rfl (by decide) (.slice (some ⟨vB, 0, none⟩) n cap) n _ rfl ho2 ⟨w2.heap.size, 0, none⟩ 1 1 [.pointer q] rfl rfl (cell_one_new _ _ _) (by intro u hu; simp at hu; subst hu; rfl) (by decide) (by unfold maxLen; omega) (by omega) (Nat.zero_le _) _ rfl ?_
  intro gB cap' w3 ho3 hgr hat hlt
  have nsv : sB ≠ vB := by rintro rfl; exact absurd (cells_type HC.out HV.out) (by decide)
  have nwv : w.heap.size ≠ vB := by have := HV.out.lt; omega
  have S4 := hid (show Cells w3 sB #[.slice (some ⟨vB, 0, none⟩) n cap] 100 ∧ Cells w3 w.heap.size #[.int .i64 a, .int .i64 c] 56 from
    ⟨(hgr.block sB S3.out.1.lt (by simpa [Value.ownBlock] using nsv)).trans S3.out.1, (hgr.block _ S3.out.2.lt (by simpa [Value.ownBlock] using nwv)).trans S3.out.2⟩)
  have G3 := hid (And.intro ho3 (And.intro hgr (And.intro hat hlt)))
  clear ho0 ho2 ho3 hgr hat hlt nsv nwv
  refine ⟨.inr S4.out, ?_⟩
  have z0 := S4.out.1.cell 0
  have z1 := S4.out.1.frozen 0
  simp at z0
  refine wpAnyHIn_one (i := 12) rfl (by kernel_rfl) rfl ?_
  gi_wp2_with fail
  refine ⟨S4.out, ?_⟩
  refine wpAnyHIn_one (i := 13) rfl (by kernel_rfl) rfl ?_
  gi_wp2_with fail
  refine ⟨S4.out, ?_⟩
  refine wpAnyHIn_one (i := 14) rfl (by kernel_rfl) rfl ?_
  gi_wp2_with fail
  refine wpAnyHIn_done (by kernel_rfl) ?_ _
  gi_wp2
  go_wp2
  go_ret
  clear z0 z1
  have hg := G3.out
  have hO := HO.out
  rw [← HN.out] at hO
  have n1 : sB ≠ vB := by rintro rfl; exact absurd (cells_type HC.out HV.out) (by decide)
  have hsz : w.heap.size ≤ w3.heap.size := Nat.le_trans B2.out.size (Nat.le_trans (by simp) hg.2.1.size)
  have hblk : ∀ k, k < w.heap.size → k ≠ sB → k ≠ vB → (w3.setCell ⟨sB, 0, none⟩ (.slice (some ⟨gB, 0, none⟩) (n + 1) cap')).heap[k]? = w.heap[k]? := fun k hk h1 h2 =>
    (Below.heap_setCell w3 ⟨sB, 0, none⟩ _ k h1).trans ((hg.2.1.block k (by have := B2.out.size; simp; omega) (by simpa [Value.ownBlock] using h2)).trans
      ((heap_alloc_old w2 _ (Nat.lt_of_lt_of_le hk B2.out.size)).trans (B2.out.block k hk)))
  have hgB : gB = vB ∨ w.heap.size ≤ gB := by
    rcases hg.2.2.1 with h | h
    · left; simpa [Value.ownBlock] using h.symm
    · right; rw [h]; have := B2.out.size; simp; omega
  have ngs : gB ≠ sB := by
    rcases hgB with h | h
    · rw [h]; exact fun e => n1 e.symm
    · have := HC.out.lt; omega
  have hl : ps.length = n := by have := hO.1; simpa using this
  have keep : ∀ {t0 : T} {p0 : Option Addr}, TreeAt w2 p0 t0 → TreeAt (w3.setCell ⟨sB, 0, none⟩ (.slice (some ⟨gB, 0, none⟩) (n + 1) cap')) p0 t0 := fun {t0 p0} h => by
    refine TreeAt.set (TreeAt.keepT (fun b cs hb => ?_) (TreeAt.keepT (w' := w2.alloc (.cells #[.pointer q] 90)) (fun b cs hb => heap_alloc_old w2 _ (Array.getElem?_eq_some_iff.1 hb).1) h)) S4.out.1 (by decide) 0 _
    refine hg.2.1.block b (Array.getElem?_eq_some_iff.1 hb).1 ?_
    have hv3 : Cells (w2.alloc (.cells #[.pointer q] 90)) vB cur 90 := (HV.out.below B2.out HV.out.lt).alloc _
    simp only [Value.ownBlock, ne_eq, Option.some.injEq]
    rintro rfl
    exact absurd (cells_type hv3 hb) (by decide)
  refine ⟨rfl, t', gB, ⟨by simp, cap', ps ++ [q], ?_, ?_, ?_⟩, T2.out.2.1, T2.out.2.2, hgB, ?_⟩
  · rw [List.length_append, List.length_singleton, ← HN.out]
    exact S4.out.1.set 0 _
  · rw [List.length_append, List.length_singleton, ← HN.out, List.map_append]
    exact ownsRow_keep hg.1 (Below.heap_setCell w3 ⟨sB, 0, none⟩ _ gB ngs)
  · intro k hk
    rw [List.length_append, List.length_singleton, ← HN.out] at hk
    by_cases h : k < n
    · have ho := HT.out k (by rw [← HN.out]; exact h)
      rw [List.getElem?_append_left (by omega), List.getElem?_append_left (by rw [← HN.out]; exact h)]
      exact keep (ho.below B2.out)
    · have e : k = n := by omega
      subst e
      rw [List.getElem?_append_right (by omega), List.getElem?_append_right (by rw [← HN.out]; exact Nat.le_refl _), ← HN.out, hl]
      simp
      exact keep T2.out.1
  · exact ⟨hg.2.1.os.trans B2.out.os, hg.2.1.tape.trans B2.out.tape, hg.2.1.output.trans B2.out.output, by simpa [World.setCell] using hsz, hblk⟩
end Go.Proofs.YtepldjidkomclaaGreat.St
namespace Go.Proofs.YtepldjidkomclaaGreat.St
set_option linter.unusedSimpArgs false
set_option linter.unusedVariables false
open Go.RowKit Go.Shelf
attribute [local go_sem] Oper.semAt_some
theorem Turned.after {sB vB : Nat} {w w1 w2 : World} (h : Below w.heap.size w w1) (t : Turned sB vB w1 w2) : Turned sB vB w w2 :=
  ⟨t.os.trans h.os, t.tape.trans h.tape, t.output.trans h.output, Nat.le_trans h.size t.size, fun k hk h1 h2 => (t.block k (Nat.lt_of_lt_of_le hk h.size) h1 h2).trans (h.block k hk)⟩
def Stepped (w : World) (sB vB : Nat) (vs : List T) (last : T) (r a c : Int) (g : Cl → Cl) (e : Ending) (w' : World) : Prop :=
  e = .returned (.int .i64 r) ∧ (r ≠ 0 → Below w.heap.size w w') ∧ (r = 0 → ∃ (t' : T) (uB : Nat), StAt w' sB uB (vs ++ [t']) ∧ t'.Ok ∧ t'.toList = changedP last.toList a c g ∧ (uB = vB ∨ w.heap.size ≤ uB) ∧ Turned sB vB w w')
theorem Stepped.error {w : World} {sB vB : Nat} {vs : List T} {last : T} {r a c : Int} {g : Cl → Cl} {w' : World} (hr : r ≠ 0) (hb : Below w.heap.size w w') : Stepped w sB vB vs last r a c g (.returned (.int .i64 r)) w' := ⟨rfl, fun _ => hb, fun h => absurd h hr⟩
theorem Stepped.after {w w1 : World} {sB vB : Nat} {vs : List T} {last : T} {a c : Int} {g : Cl → Cl} {e : Ending} {w' : World} (hb : Below w.heap.size w w1) (t' : T) (uB : Nat) (he : e = .returned (.int .i64 0))
    (h1 : StAt w' sB uB (vs ++ [t'])) (h2 : t'.Ok) (h3 : t'.toList = changedP last.toList a c g) (h4 : uB = vB ∨ w1.heap.size ≤ uB) (h5 : Turned sB vB w1 w') : Stepped w sB vB vs last 0 a c g e w' :=
  ⟨he, fun h => absurd rfl h, fun _ => ⟨t', uB, h1, h2, h3, h4.imp id (fun h => Nat.le_trans hb.size h), Turned.after hb h5⟩⟩
theorem ints_one (w : World) (x : Int) (ty : TypeId) : IntsAt (w.alloc (.cells #[.int .i64 x] ty)) (.slice (some ⟨w.heap.size, 0, none⟩) 1 1) [x] := by
  refine ⟨by simp, .inr ⟨w.heap.size, 0, 1, rfl, by simp, fun k hk => ?_⟩⟩
  have : k = 0 := by simpa using hk
  subst this
  simp [(Cells.new w #[.int .i64 x] ty).cell]
theorem ints_two (w : World) (x y : Int) (ty : TypeId) : IntsAt (w.alloc (.cells #[.int .i64 x, .int .i64 y] ty)) (.slice (some ⟨w.heap.size, 0, none⟩) 2 2) [x, y] := by
  refine ⟨by simp, .inr ⟨w.heap.size, 0, 2, rfl, by simp, fun k hk => ?_⟩⟩
  have : k = 0 ∨ k = 1 := by simp at hk; omega
  rcases this with rfl | rfl <;> simp [(Cells.new w #[.int .i64 x, .int .i64 y] ty).cell]
theorem all_one (m x : Int) : [x].all (inB m) = inB m x := by simp
theorem all_two (m x y : Int) : [x, y].all (inB m) = (inB m x && inB m y) := by simp
structure Fine (t : T) : Prop where
  ok : t.Ok
  sorted : Sorted t.toList
  few : t.toList.length ≤ 10000000
theorem Fine.good {t : T} (h : Fine t) : t.Good := good_iff t h.sorted.good
theorem last_of {vs : List T} {t : T} (h : vs.getLast? = some t) (hf : vs ≠ []) : t = vs.getLast hf := by
  rw [List.getLast?_eq_some_getLast hf] at h; exact (Option.some.inj h).symm
theorem now_at {w : World} {sB vB : Nat} {vs : List T} {t : T} (h : StAt w sB vB vs) (hn : vs.length ≤ 1000) (ht : vs.getLast? = some t) : NowAt w sB t := by
  rw [last_of ht h.full]; exact h.now (by omega)
theorem make_last (w : World) (sB vB : Nat) (vs : List T) (t : T) (hst : StAt w sB vB vs) (hn : vs.length ≤ 1000) (ht : vs.getLast? = some t) (fi : Fine t)
    (a c : Int) (hac : 1 ≤ a ∧ 1 ≤ c ∧ a + c - 1 ≤ 1000000) (wf : FuncId) (caps : Array Value) (g : Cl → Cl)
    (hwf : MapsOf wf caps g w) (eg : ∀ args w, (callFunc wf args).run Tryz.prog w = .ok (.enter wf args) w) :
    Calls Tryz.prog 39 #[.pointer (some ⟨sB, 0, none⟩), .agg #[.int .i64 a, .int .i64 c], .func (.func wf) #[] caps] w fun e w' =>
      e = .returned (.int .i64 0) ∧ ∃ (t' : T) (uB : Nat), StAt w' sB uB (vs ++ [t']) ∧ t'.Ok ∧ t'.toList = changedP t.toList a c g ∧ (uB = vB ∨ w.heap.size ≤ uB) ∧ Turned sB vB w w' := by
  have e := last_of ht hst.full
  subst e
  exact make_calls w sB vB vs hst hn fi.ok fi.sorted fi.few a c hac wf caps g hwf eg
def enterR (t : T) (a c lot owner : Int) : Int := if okSpan a c = true ∧ inB 1000000 lot = true ∧ inB 1000 owner = true then firstE enterE (visL t a (a + c - 1)) else 1
set_option maxRecDepth 100000 in
set_option maxHeartbeats 4000000 in
theorem enter_calls (w : World) (sB vB : Nat) (vs : List T) (t : T) (hst : StAt w sB vB vs) (hn : vs.length ≤ 1000) (ht : vs.getLast? = some t) (hfine : Fine t) (a c lot owner : Int) :
    Calls Tryz.prog 15 #[.pointer (some ⟨sB, 0, none⟩), .agg #[.int .i64 a, .int .i64 c], .int .i64 lot, .int .i64 owner] w
      (Stepped w sB vB vs t (enterR t a c lot owner) a c (enterG lot owner)) := by
  have hmf : ∀ (fn : Fn) (first cap : Array Value) (w : World), (Instr.makeFunc fn first cap).run Tryz.prog w = .ok (.func fn first cap) w := fun _ _ _ _ => rfl
  have hlt := hst.lt.1
  have ST := hid hst
  have FI := hid hfine
  have HTT := hid ht
  have W0 := hid (((((Below.refl w.heap.size w).alloc (Nat.le_refl _) (.cells #[.int .i64 a, .int .i64 c] 56)).alloc (by simp) (.cells #[.int .i64 lot] 3)).alloc (by simp; omega) (.cells #[.int .i64 owner] 3)))
  have C0 := hid (((Cells.new w #[.int .i64 a, .int .i64 c] 56).alloc (.cells #[.int .i64 lot] 3)).alloc (.cells #[.int .i64 owner] 3))
  have C1 := hid (show Cells (((w.alloc (.cells #[.int .i64 a, .int .i64 c] 56)).alloc (.cells #[.int .i64 lot] 3)).alloc (.cells #[.int .i64 owner] 3)) (w.heap.size + 1) #[.int .i64 lot] 3 by
    have := (Cells.new (w.alloc (.cells #[.int .i64 a, .int .i64 c] 56)) #[.int .i64 lot] 3).alloc (.cells #[.int .i64 owner] 3)
    rwa [World.size_alloc] at this)
  have C2 := hid (show Cells (((w.alloc (.cells #[.int .i64 a, .int .i64 c] 56)).alloc (.cells #[.int .i64 lot] 3)).alloc (.cells #[.int .i64 owner] 3)) (w.heap.size + 1 + 1) #[.int .i64 owner] 3 by
    have := Cells.new ((w.alloc (.cells #[.int .i64 a, .int .i64 c] 56)).alloc (.cells #[.int .i64 lot] 3)) #[.int .i64 owner] 3
    rwa [World.size_alloc, World.size_alloc] at this)
  clear hst hfine ht
  go_enter Tryz.func15, Tryz.ntmps15
  go_wp2_with fail
  refine (isSpan_calls a c _).mono ?_
  rintro e w1 ⟨rfl, hb1⟩
  obtain ⟨hc1, hf1⟩ := bcell hb1
  have B1 := hid (W0.out.trans (hb1.mono (by simp; omega)))
  have D0 := hid (C0.out.below hb1 C0.out.lt)
  have D1 := hid (C1.out.below hb1 C1.out.lt)
  have D2 := hid (C2.out.below hb1 C2.out.lt)
  clear hb1 hc1 hf1
  have k1 : w1.cell? ⟨w.heap.size + 1, 0, none⟩ = some (.int .i64 lot) := by simp [D1.out.cell]
  have l1 := D1.out.lt
  cases h1 : okSpan a c
  · have e := hid (show enterR t a c lot owner = 1 by simp [enterR, h1])
    go_wp2
    go_ret
    rw [e.out]
    exact Stepped.error (r := 1) (by decide) B1.out
  · go_wp2_with fail
    refine (are_calls 1000000 _ _ [lot] (ints_one w1 lot _)).mono ?_
    rintro e w2 ⟨rfl, hb2⟩
    rw [all_one]
    have B2 := hid (B1.out.trans (((Below.refl w1.heap.size w1).alloc (Nat.le_refl _) (.cells #[.int .i64 lot] 3)).trans (hb2.mono (by simp)) |>.mono B1.out.size))
    have E0 := hid ((D0.out.alloc (.cells #[.int .i64 lot] 3)).below hb2 (D0.out.alloc _).lt)
    have E1 := hid ((D1.out.alloc (.cells #[.int .i64 lot] 3)).below hb2 (D1.out.alloc _).lt)
    have E2 := hid ((D2.out.alloc (.cells #[.int .i64 lot] 3)).below hb2 (D2.out.alloc _).lt)
    clear hb2 k1 l1
    have k2 : w2.cell? ⟨w.heap.size + 1 + 1, 0, none⟩ = some (.int .i64 owner) := by simp [E2.out.cell]
    have l2 := E2.out.lt
    cases h2 : inB 1000000 lot
    · have e := hid (show enterR t a c lot owner = 1 by simp [enterR, h2])
      go_wp2
      go_ret
      rw [e.out]
      exact Stepped.error (r := 1) (by decide) B2.out
    · go_wp2_with fail
      refine (are_calls 1000 _ _ [owner] (ints_one w2 owner _)).mono ?_
      rintro e w3 ⟨rfl, hb3⟩
      rw [all_one]
      have B3 := hid (B2.out.trans (((Below.refl w2.heap.size w2).alloc (Nat.le_refl _) (.cells #[.int .i64 owner] 3)).trans (hb3.mono (by simp)) |>.mono B2.out.size))
      have F0 := hid ((E0.out.alloc (.cells #[.int .i64 owner] 3)).below hb3 (E0.out.alloc _).lt)
      have F1 := hid ((E1.out.alloc (.cells #[.int .i64 owner] 3)).below hb3 (E1.out.alloc _).lt)
      have F2 := hid ((E2.out.alloc (.cells #[.int .i64 owner] 3)).below hb3 (E2.out.alloc _).lt)
      clear hb3 k2 l2
      have k30 : w3.cell? ⟨w.heap.size, 0, none⟩ = some (.int .i64 a) := by simp [F0.out.cell]
      have k31 : w3.cell? ⟨w.heap.size, 1, none⟩ = some (.int .i64 c) := by simp [F0.out.cell]
      have l3 := F0.out.lt
      cases h3 : inB 1000 owner
      · have e := hid (show enterR t a c lot owner = 1 by simp [enterR, h3])
        go_wp2
        go_ret
        rw [e.out]
        exact Stepped.error (r := 1) (by decide) B3.out
      · have hac := (okSpan_iff a c).1 h1
        obtain ⟨r, hr⟩ : ∃ r, r = firstE enterE (visL t a (a + c - 1)) := ⟨_, rfl⟩
        have E := hid (show enterR t a c lot owner = r by rw [hr]; simp [enterR, h1, h2, h3])
        go_wp2_with fail
        refine (each_calls w3 sB t (now_at (ST.out.below B3.out) hn HTT.out) FI.out.good a c hac 38 #[] enterE (fun d W _ => enter1_calls d W) (enters_of Tryz.func38 (by kernel_rfl) rfl)).mono ?_
        rintro e w4 ⟨rfl, hb4⟩
        have B4 := hid (B3.out.trans (hb4.mono B3.out.size))
        have G0 := hid (F0.out.below hb4 F0.out.lt)
        have G1 := hid (F1.out.below hb4 F1.out.lt)
        have G2 := hid (F2.out.below hb4 F2.out.lt)
        clear hb4 k30 k31 l3
        have k40 : w4.cell? ⟨w.heap.size, 0, none⟩ = some (.int .i64 a) := by simp [G0.out.cell]
        have k41 : w4.cell? ⟨w.heap.size, 1, none⟩ = some (.int .i64 c) := by simp [G0.out.cell]
        have l4 := G0.out.lt
        rw [← hr]
        clear hr
        by_cases hz : r = 0
        · subst hz
          go_wp2_with fail
          refine (make_last w4 sB vB vs t (ST.out.below B4.out) hn HTT.out FI.out a c hac 40 #[.pointer (some ⟨w.heap.size + 1, 0, none⟩), .pointer (some ⟨w.heap.size + 1 + 1, 0, none⟩)] (enterG lot owner) ?_ (enters_of Tryz.func40 (by kernel_rfl) rfl)).mono ?_
          · intro d W hb
            refine enter2_calls d lot owner _ _ W ?_ ?_
            · rw [(G1.out.below hb G1.out.lt).cell]; rfl
            · rw [(G2.out.below hb G2.out.lt).cell]; rfl
          · rintro e w5 ⟨rfl, t', uB, p1, p2, p3, p4, p5⟩
            have P := hid (And.intro p1 (And.intro p2 (And.intro p3 (And.intro p4 p5))))
            clear p1 p2 p3 p4 p5
            go_wp2
            go_ret
            rw [E.out]
            exact Stepped.after B4.out t' uB rfl P.out.1 P.out.2.1 P.out.2.2.1 P.out.2.2.2.1 P.out.2.2.2.2
        · have hz' : (r != 0) = true := by simp [hz]
          have HZ := hid hz
          clear hz
          go_wp2
          go_ret
          rw [E.out]
          exact Stepped.error (r := r) HZ.out B4.out
end Go.Proofs.YtepldjidkomclaaGreat.St
namespace Go.Proofs.YtepldjidkomclaaGreat.St
set_option linter.unusedSimpArgs false
set_option linter.unusedVariables false
open Go.RowKit Go.Shelf
attribute [local go_sem] Oper.semAt_some
def moveR (t : T) (a c o to : Int) : Int := if okSpan a c = true ∧ (inB 1000 o && inB 1000 to) = true ∧ o ≠ to then firstE (ownedE o) (visL t a (a + c - 1)) else 1
set_option maxRecDepth 100000 in
set_option maxHeartbeats 4000000 in
theorem move_calls (w : World) (sB vB : Nat) (vs : List T) (t : T) (hst : StAt w sB vB vs) (hn : vs.length ≤ 1000) (ht : vs.getLast? = some t) (hfine : Fine t) (a c o to : Int) :
    Calls Tryz.prog 17 #[.pointer (some ⟨sB, 0, none⟩), .agg #[.int .i64 a, .int .i64 c], .int .i64 o, .int .i64 to] w
      (Stepped w sB vB vs t (moveR t a c o to) a c (moveG to)) := by
  have hmf : ∀ (fn : Fn) (first cap : Array Value) (w : World), (Instr.makeFunc fn first cap).run Tryz.prog w = .ok (.func fn first cap) w := fun _ _ _ _ => rfl
  have hlt := hst.lt.1
  have ST := hid hst
  have FI := hid hfine
  have HTT := hid ht
  have W0 := hid (((Below.refl w.heap.size w).alloc (Nat.le_refl _) (.cells #[.int .i64 a, .int .i64 c] 56)).alloc (by simp) (.cells #[.int .i64 to] 3))
  have C0 := hid ((Cells.new w #[.int .i64 a, .int .i64 c] 56).alloc (.cells #[.int .i64 to] 3))
  have C1 := hid (show Cells ((w.alloc (.cells #[.int .i64 a, .int .i64 c] 56)).alloc (.cells #[.int .i64 to] 3)) (w.heap.size + 1) #[.int .i64 to] 3 by
    have := Cells.new (w.alloc (.cells #[.int .i64 a, .int .i64 c] 56)) #[.int .i64 to] 3
    rwa [World.size_alloc] at this)
  clear hst hfine ht
  go_enter Tryz.func17, Tryz.ntmps17
  go_wp2_with fail
  refine (isSpan_calls a c _).mono ?_
  rintro e w1 ⟨rfl, hb1⟩
  have B1 := hid (W0.out.trans (hb1.mono (by simp; try omega)))
  have D0 := hid (C0.out.below hb1 C0.out.lt)
  have D1 := hid (C1.out.below hb1 C1.out.lt)
  have k1 : w1.cell? ⟨w.heap.size + 1, 0, none⟩ = some (.int .i64 to) := by simp [D1.out.cell]
  have l1 := D1.out.lt
  clear hb1
  cases h1 : okSpan a c
  · have e := hid (show moveR t a c o to = 1 by simp [moveR, h1])
    go_wp2
    go_ret
    rw [e.out]
    exact Stepped.error (r := 1) (by decide) B1.out
  · go_wp2_with fail
    refine (are_calls 1000 _ _ [o, to] (ints_two w1 o to _)).mono ?_
    rintro e w2 ⟨rfl, hb2⟩
    rw [all_two]
    have B2 := hid (B1.out.trans (((Below.refl w1.heap.size w1).alloc (Nat.le_refl _) (.cells #[.int .i64 o, .int .i64 to] 3)).trans (hb2.mono (by simp)) |>.mono B1.out.size))
    have E0 := hid ((D0.out.alloc (.cells #[.int .i64 o, .int .i64 to] 3)).below hb2 (D0.out.alloc _).lt)
    have k20 : w2.cell? ⟨w.heap.size, 0, none⟩ = some (.int .i64 a) := by simp [E0.out.cell]
    have k21 : w2.cell? ⟨w.heap.size, 1, none⟩ = some (.int .i64 c) := by simp [E0.out.cell]
    have l2 := E0.out.lt
    have E1 := hid ((D1.out.alloc (.cells #[.int .i64 o, .int .i64 to] 3)).below hb2 (D1.out.alloc _).lt)
    have k22 : w2.cell? ⟨w.heap.size + 1, 0, none⟩ = some (.int .i64 to) := by simp [E1.out.cell]
    have l22 := E1.out.lt
    clear k1 l1
    clear hb2
    cases h2 : (inB 1000 o && inB 1000 to)
    · have e := hid (show moveR t a c o to = 1 by rw [moveR, h2]; simp)
      go_wp2
      go_ret
      rw [e.out]
      exact Stepped.error (r := 1) (by decide) B2.out
    · by_cases h3 : o = to
      · have e := hid (show moveR t a c o to = 1 by simp [moveR, h3])
        have hq : (o == to) = true := by simp [h3]
        clear h3 h2
        go_wp2
        go_ret
        rw [e.out]
        exact Stepped.error (r := 1) (by decide) B2.out
      · have hac := (okSpan_iff a c).1 h1
        obtain ⟨r, hr⟩ : ∃ r, r = firstE (ownedE o) (visL t a (a + c - 1)) := ⟨_, rfl⟩
        have E := hid (show moveR t a c o to = r by rw [hr, moveR, h2]; simp [h1, h3])
        have hq : (o == to) = false := by simp [h3]
        clear h3 h2
        go_wp2_with fail
        refine (owned_calls w2 sB t (now_at (ST.out.below B2.out) hn HTT.out) FI.out.good a c hac o).mono ?_
        rintro e w4 ⟨rfl, hb4⟩
        have B4 := hid (B2.out.trans (hb4.mono B2.out.size))
        have G0 := hid (E0.out.below hb4 E0.out.lt)
        have G1 := hid (E1.out.below hb4 E1.out.lt)
        clear k22 l22
        clear hb4 k20 k21 l2
        have k40 : w4.cell? ⟨w.heap.size, 0, none⟩ = some (.int .i64 a) := by simp [G0.out.cell]
        have k41 : w4.cell? ⟨w.heap.size, 1, none⟩ = some (.int .i64 c) := by simp [G0.out.cell]
        have l4 := G0.out.lt
        rw [← hr]
        clear hr
        by_cases hz : r = 0
        · subst hz
          go_wp2_with fail
          refine (make_last w4 sB vB vs t (ST.out.below B4.out) hn HTT.out FI.out a c hac 46 #[.pointer (some ⟨w.heap.size + 1, 0, none⟩)] (moveG to) (fun d W hb => move1_calls d to _ W (by rw [(G1.out.below hb G1.out.lt).cell]; rfl)) (enters_of Tryz.func46 (by kernel_rfl) rfl)).mono ?_
          rintro e w5 ⟨rfl, t', uB, p1, p2, p3, p4, p5⟩
          have P := hid (And.intro p1 (And.intro p2 (And.intro p3 (And.intro p4 p5))))
          clear p1 p2 p3 p4 p5
          go_wp2
          go_ret
          rw [E.out]
          exact Stepped.after B4.out t' uB rfl P.out.1 P.out.2.1 P.out.2.2.1 P.out.2.2.2.1 P.out.2.2.2.2
        · have hz' : (r != 0) = true := by simp [hz]
          have HZ := hid hz
          clear hz
          go_wp2
          go_ret
          rw [E.out]
          exact Stepped.error (r := r) HZ.out B4.out
end Go.Proofs.YtepldjidkomclaaGreat.St
namespace Go.Proofs.YtepldjidkomclaaGreat.St
set_option linter.unusedSimpArgs false
set_option linter.unusedVariables false
open Go.RowKit Go.Shelf
attribute [local go_sem] Oper.semAt_some
def pc0 : Pc := ⟨1, 1000000, ⟨0, 0, 0, 0⟩⟩
set_option maxHeartbeats 1000000 in
theorem New_calls (w : World) : Calls Tryz.prog 14 #[] w fun e w' => ∃ sB vB t, e = .returned (.pointer (some ⟨sB, 0, none⟩)) ∧ StAt w' sB vB [t] ∧ t.toList = [pc0] ∧ Fine t ∧ w.heap.size ≤ sB ∧ w.heap.size ≤ vB ∧ Below w.heap.size w w' := by
  go_enter Tryz.func14, Tryz.ntmps14
  go_wp2_with fail
  refine (node_calls .nil .nil none none pc0 w rfl rfl (by decide) (by decide) (by decide) (by decide)).mono ?_
  rintro e w1 ⟨b, rfl, ht, hb, hlt⟩
  have HT := hid ht
  have HB := hid hb
  clear ht hb
  go_wp2
  go_ret
  have c1 : Cells ((w1.alloc (.cells #[.pointer (some ⟨b, 0, none⟩)] 90)).alloc (.cells #[.slice (some ⟨w1.heap.size, 0, none⟩) 1 1] 100)) (w1.heap.size + 1) #[.slice (some ⟨w1.heap.size, 0, none⟩) 1 1] 100 := by
    have := Cells.new (w1.alloc (.cells #[.pointer (some ⟨b, 0, none⟩)] 90)) #[.slice (some ⟨w1.heap.size, 0, none⟩) 1 1] 100
    rwa [World.size_alloc] at this
  have c2 := (Cells.new w1 #[.pointer (some ⟨b, 0, none⟩)] 90).alloc (.cells #[.slice (some ⟨w1.heap.size, 0, none⟩) 1 1] 100)
  have hs := HB.out.size
  refine ⟨w1.heap.size + 1, w1.heap.size, .node .nil .nil pc0 (max T.nil.tall T.nil.tall + 1), rfl, ⟨by simp, 1, [some ⟨b, 0, none⟩], c1, ⟨rfl, .inr ⟨w1.heap.size, 1, _, rfl, Nat.zero_le _, c2, Nat.le_refl _, by decide, rfl, rfl⟩⟩, ?_⟩, rfl, ⟨⟨trivial, trivial, rfl⟩, ⟨by simp [T.toList], by simp [T.toList, pc0, Pc.Good]⟩, by simp [T.toList]⟩, by omega, hs, ?_⟩
  · intro k hk
    have : k = 0 := by simpa using hk
    subst this
    exact (HT.out.below ((Below.refl _ _).alloc (Nat.le_refl _) _)).below ((Below.refl _ _).alloc (Nat.le_refl _) _)
  · exact HB.out.trans (((Below.refl w1.heap.size w1).alloc (Nat.le_refl _) _).alloc (by simp) _ |>.mono hs)
def atE (n : Nat) (v : Int) (ok : Bool) : Int := if v < 0 ∨ (n : Int) ≤ v then 4 else if ok then 0 else 1
set_option maxHeartbeats 2000000 in
theorem at_calls (w : World) (sB vB : Nat) (vs : List T) (hst : StAt w sB vB vs) (hn : vs.length ≤ 1000000) (v : Int) (ok : Bool) :
    Calls Tryz.prog 85 #[.pointer (some ⟨sB, 0, none⟩), .int .i64 v, .bool ok] w fun e w' => w' = w ∧
      ∃ p, e = .returned (.tuple #[.pointer p, .int .i64 (atE vs.length v ok)]) ∧ (atE vs.length v ok = 0 → TreeAt w p (vs[v.toNat]?.getD .nil)) := by
  obtain ⟨cap, ps, hc, ho, ht⟩ := hst.at_
  have h0 := hc.cell 0
  have hlt := hc.lt
  simp at h0
  obtain ⟨n, hnn⟩ : ∃ n, n = vs.length := ⟨_, rfl⟩
  have HT := hid ht
  have HO := hid ho
  have HN := hid hnn
  rw [← hnn] at h0 hn ⊢
  clear ht ho hc hst hnn
  by_cases h1 : v < 0
  · have e : atE n v ok = 4 := by simp [atE, h1]
    rw [e]
    go_enter Tryz.func85, Tryz.ntmps85
    go_wp2
    refine bodyPost_ret (v := .tuple #[.pointer none, .int .i64 4]) (by simp [results, Tryz.results85, go_sem]) rfl (by first | exact ⟨rfl, none, rfl, fun h => absurd h (by decide)⟩ | exact ⟨rfl, none, rfl⟩)
  · by_cases h2 : (n : Int) ≤ v
    · have e : atE n v ok = 4 := by simp [atE, h2]
      rw [e]
      go_enter Tryz.func85, Tryz.ntmps85
      go_wp2
      refine bodyPost_ret (v := .tuple #[.pointer none, .int .i64 4]) (by simp [results, Tryz.results85, go_sem]) rfl (by first | exact ⟨rfl, none, rfl, fun h => absurd h (by decide)⟩ | exact ⟨rfl, none, rfl⟩)
    · cases ok
      · have e : atE n v false = 1 := by simp [atE, h1, h2]
        rw [e]
        go_enter Tryz.func85, Tryz.ntmps85
        go_wp2
        refine bodyPost_ret (v := .tuple #[.pointer none, .int .i64 1]) (by simp [results, Tryz.results85, go_sem]) rfl (by first | exact ⟨rfl, none, rfl, fun h => absurd h (by decide)⟩ | exact ⟨rfl, none, rfl⟩)
      · have e : atE n v true = 0 := by simp [atE, h1, h2]
        rw [e]
        obtain ⟨k, rfl⟩ : ∃ k : Nat, v = k := ⟨v.toNat, by omega⟩
        have hk : k < n := by omega
        have hl : ps.length = n := by have := HO.out.1; rw [HN.out]; simpa using this
        have hx := HO.out.cells (g := vB) rfl k (.pointer (ps[k]?.getD none)) (by rw [List.getElem?_map, List.getElem?_eq_getElem (by omega)]; rfl)
        have ha : (⟨vB, 0, none⟩ : Addr).add k = ⟨vB, k, none⟩ := by unfold Addr.add; split <;> simp_all
        rw [ha] at hx
        have i1 : (0 : Int) ≤ (k : Int) := by omega
        have i2 : (k : Int) < (n : Int) := by omega
        clear ha hl h1 h2 hk
        go_enter Tryz.func85, Tryz.ntmps85
        go_wp2
        refine bodyPost_ret (v := .tuple #[.pointer (ps[k]?.getD none), .int .i64 0]) (by simp [results, Tryz.results85, go_sem]) rfl ⟨rfl, ps[k]?.getD none, rfl, fun _ => by simpa using HT.out k (by rw [← HN.out]; omega)⟩
end Go.Proofs.YtepldjidkomclaaGreat.St
namespace Go.Proofs.YtepldjidkomclaaGreat.St
set_option linter.unusedSimpArgs false
set_option linter.unusedVariables false
open Go.RowKit Go.Shelf
def flatP (l : List Pc) : List Value := l.flatMap fun p => p.vals.toList
theorem flatP_length (l : List Pc) : (flatP l).length = l.length * 6 := by
  induction l with
  | nil => rfl
  | cons p l ih => simp only [flatP, List.flatMap_cons, List.length_append, List.length_cons] at ih ⊢; rw [ih]; simp; omega
def allP (is : Cl → Bool) (l : List Pc) : List Pc := l.foldl (fun acc p => if is p.cell then appP acc p else acc) []
theorem allP_snoc (is : Cl → Bool) (l : List Pc) (p : Pc) : allP is (l ++ [p]) = if is p.cell then appP (allP is l) p else allP is l := by simp [allP]
theorem appP_last (l : List Pc) (q p : Pc) : appP (l ++ [q]) p = if q.cell = p.cell ∧ q.to + 1 = p.from_ then l ++ [⟨q.from_, p.to, q.cell⟩] else l ++ [q, p] := by
  induction l with
  | nil => simp only [List.nil_append]; rw [appP_one]
  | cons a l ih => rw [List.cons_append, appP_cons _ _ _ (by simp), ih]; split <;> simp
end Go.Proofs.YtepldjidkomclaaGreat.St
namespace Go.Proofs.YtepldjidkomclaaGreat.St
set_option linter.unusedSimpArgs false
set_option linter.unusedVariables false
def Tiles : List Pc → Int → Int → Prop
  | [], a, b => a = b + 1
  | p :: l, a, b => p.from_ = a ∧ p.from_ ≤ p.to ∧ Tiles l (p.to + 1) b
theorem Tiles.le : ∀ {l : List Pc} {a b : Int}, Tiles l a b → a ≤ b + 1
  | [], _, _, h => by simp only [Tiles] at h; omega
  | _ :: _, _, _, ⟨h1, h2, h3⟩ => by have := h3.le; omega
theorem tiles_append : ∀ {l m : List Pc} {a b : Int}, Tiles (l ++ m) a b ↔ ∃ c, Tiles l a c ∧ Tiles m (c + 1) b
  | [], m, a, b => by
    simp only [List.nil_append, Tiles]
    exact ⟨fun h => ⟨a - 1, by omega, by rwa [Int.sub_add_cancel]⟩, fun ⟨c, h1, h2⟩ => by rwa [h1]⟩
  | p :: l, m, a, b => by
    simp only [List.cons_append, Tiles, tiles_append (l := l)]
    exact ⟨fun ⟨h1, h2, c, h3, h4⟩ => ⟨c, ⟨h1, h2, h3⟩, h4⟩, fun ⟨c, ⟨h1, h2, h3⟩, h4⟩ => ⟨h1, h2, c, h3, h4⟩⟩
theorem Tiles.mem : ∀ {l : List Pc} {a b : Int}, Tiles l a b → ∀ p ∈ l, a ≤ p.from_ ∧ p.from_ ≤ p.to ∧ p.to ≤ b
  | [], _, _, _ => by simp
  | q :: l, a, b, ⟨h1, h2, h3⟩ => by
    intro p hp
    have hle := h3.le
    rcases List.mem_cons.1 hp with rfl | hp
    · exact ⟨by omega, h2, by omega⟩
    · have := h3.mem p hp; omega
theorem Tiles.sorted {l : List Pc} {a b : Int} (h : Tiles l a b) (ha : 1 ≤ a) (hb : b ≤ 1000000) : Sorted l := by
  refine ⟨?_, fun p hp => by have := h.mem p hp; simp only [Pc.Good]; omega⟩
  induction l generalizing a with
  | nil => exact List.Pairwise.nil
  | cons q l ih =>
    obtain ⟨h1, h2, h3⟩ := h
    refine List.pairwise_cons.2 ⟨fun p hp => by have := h3.mem p hp; omega, ih h3 (by omega)⟩
theorem Tiles.few : ∀ {l : List Pc} {a b : Int}, Tiles l a b → (l.length : Int) ≤ b + 1 - a
  | [], _, _, h => by simp only [Tiles] at h; simp; omega
  | _ :: l, _, _, ⟨h1, h2, h3⟩ => by have := h3.few; simp only [List.length_cons]; omega
theorem splitP_tiles : ∀ {l : List Pc} {a b : Int}, Tiles l a b → ∀ x, a ≤ x → x ≤ b + 1 → Tiles (splitP l x).1 a (x - 1) ∧ Tiles (splitP l x).2 x b
  | [], a, b, h, x, h1, h2 => by simp only [Tiles] at h; simp only [splitP, Tiles]; omega
  | p :: l, a, b, ⟨e, hp, h⟩, x, h1, h2 => by
    simp only [splitP]
    split
    · rename_i hx
      have : x = a := by omega
      subst this
      exact ⟨by simp only [Tiles]; omega, e, hp, h⟩
    · rename_i hx
      split
      · rename_i hx2
        have ih := splitP_tiles h x (by omega) h2
        exact ⟨⟨e, hp, ih.1⟩, ih.2⟩
      · rename_i hx2
        refine ⟨⟨e, by simp only; omega, by simp only [Tiles]⟩, rfl, by simp only; omega, h⟩
theorem appP_tiles : ∀ {l : List Pc} {a b : Int} {p : Pc}, Tiles l a b → p.from_ = b + 1 → p.from_ ≤ p.to → Tiles (appP l p) a p.to
  | [], a, b, p, h, h1, h2 => by simp only [Tiles] at h; exact ⟨by omega, h2, by simp only [Tiles]⟩
  | [q], a, b, p, ⟨e, hq, h⟩, h1, h2 => by
    simp only [Tiles] at h
    rw [appP_one]
    split
    · exact ⟨e, by simp only; omega, by simp only [Tiles]⟩
    · exact ⟨e, hq, by omega, h2, by simp only [Tiles]⟩
  | q :: r :: l, a, b, p, ⟨e, hq, h⟩, h1, h2 => by
    rw [appP_cons _ _ _ (by simp)]
    exact ⟨e, hq, appP_tiles h h1 h2⟩
theorem joinP_tiles {l m : List Pc} {a b c : Int} (h : Tiles l a b) (hm : Tiles m (b + 1) c) : Tiles (joinP l m) a c := by
  cases m with
  | nil => simp only [Tiles] at hm; simp only [joinP]; have : b = c := by omega
           subst this; exact h
  | cons p r =>
    obtain ⟨h1, h2, h3⟩ := hm
    exact tiles_append.2 ⟨p.to, appP_tiles h h1 h2, h3⟩
theorem ownP_tiles (g : Cl → Cl) {l : List Pc} {a b : Int} (h : Tiles l a b) : Tiles (ownP g l) a b := by
  have key : ∀ (l acc : List Pc) (c : Int), Tiles acc a c → Tiles l (c + 1) b → Tiles (l.foldl (fun acc p => appP acc ⟨p.from_, p.to, g p.cell⟩) acc) a b := by
    intro l
    induction l with
    | nil => intro acc c h1 h2; simp only [Tiles] at h2; have : c = b := by omega
             subst this; exact h1
    | cons p l ih =>
      intro acc c h1 ⟨e, hp, h2⟩
      exact ih _ p.to (appP_tiles h1 e hp) h2
  exact key l [] (a - 1) (by simp [Tiles]) (by rwa [Int.sub_add_cancel])
theorem changedP_tiles (g : Cl → Cl) {l : List Pc} {a c : Int} (h : Tiles l 1 1000000) (ha : 1 ≤ a) (hc : 1 ≤ c) (hac : a + c - 1 ≤ 1000000) : Tiles (changedP l a c g) 1 1000000 := by
  have h1 := splitP_tiles h a ha (by omega)
  have h2 := splitP_tiles h1.2 (a + c) (by omega) (by omega)
  have h3 := ownP_tiles g h2.1
  have h4 : Tiles (joinP (splitP l a).1 (ownP g (splitP (splitP l a).2 (a + c)).1)) 1 (a + c - 1) := joinP_tiles h1.1 (by rw [Int.sub_add_cancel]; exact h3)
  exact joinP_tiles h4 (by rw [Int.sub_add_cancel]; exact h2.2)
def cl0 : Cl := ⟨0, 0, 0, 0⟩
def valL : List Pc → Int → Cl
  | [], _ => cl0
  | p :: l, n => if p.from_ ≤ n ∧ n ≤ p.to then p.cell else valL l n
theorem valL_out : ∀ {l : List Pc} {n : Int}, (∀ p ∈ l, ¬ (p.from_ ≤ n ∧ n ≤ p.to)) → valL l n = cl0
  | [], _, _ => rfl
  | p :: l, n, h => by rw [valL, if_neg (h p (by simp)), valL_out (fun q hq => h q (by simp [hq]))]
theorem valL_append {l m : List Pc} {n : Int} : ((∃ p ∈ l, p.from_ ≤ n ∧ n ≤ p.to) → valL (l ++ m) n = valL l n) ∧ ((∀ p ∈ l, ¬ (p.from_ ≤ n ∧ n ≤ p.to)) → valL (l ++ m) n = valL m n) := by
  induction l with
  | nil => simp
  | cons p l ih =>
    simp only [List.cons_append, valL]
    by_cases h : p.from_ ≤ n ∧ n ≤ p.to
    · refine ⟨fun _ => by rw [if_pos h, if_pos h], fun hh => absurd h (hh p (by simp))⟩
    · rw [if_neg h, if_neg h]
      refine ⟨fun ⟨q, hq, hh⟩ => ih.1 ⟨q, ?_, hh⟩, fun hh => ih.2 fun q hq => hh q (by simp [hq])⟩
      rcases List.mem_cons.1 hq with e | hq
      · exact absurd (e ▸ hh) h
      · exact hq
theorem Tiles.covers : ∀ {l : List Pc} {a b n : Int}, Tiles l a b → a ≤ n → n ≤ b → ∃ p ∈ l, p.from_ ≤ n ∧ n ≤ p.to
  | [], _, _, _, h, _, _ => by simp only [Tiles] at h; omega
  | q :: l, a, b, n, ⟨e, hq, h⟩, h1, h2 => by
    by_cases hn : n ≤ q.to
    · exact ⟨q, by simp, by omega, hn⟩
    · obtain ⟨p, hp, hh⟩ := h.covers (n := n) (by omega) h2
      exact ⟨p, by simp [hp], hh⟩
theorem valL_tiles_append {l m : List Pc} {a b c n : Int} (h : Tiles l a b) (hm : Tiles m (b + 1) c) : valL (l ++ m) n = if n ≤ b then valL l n else valL m n := by
  by_cases h1 : a ≤ n ∧ n ≤ b
  · rw [valL_append.1 (h.covers h1.1 h1.2), if_pos h1.2]
  · have hno : ∀ p ∈ l, ¬ (p.from_ ≤ n ∧ n ≤ p.to) := fun p hp hh => by have := h.mem p hp; omega
    rw [valL_append.2 hno]
    by_cases h2 : n ≤ b
    · rw [if_pos h2, valL_out hno, valL_out (fun p hp hh => by have := hm.mem p hp; have := h.le; omega)]
    · rw [if_neg h2]
theorem appP_val : ∀ {l : List Pc} {a b : Int} {p : Pc} {n : Int}, Tiles l a b → p.from_ = b + 1 → p.from_ ≤ p.to → valL (appP l p) n = if n ≤ b then valL l n else valL [p] n
  | [], a, b, p, n, h, h1, h2 => by
    simp only [appP]
    split
    · simp only [valL]; rw [if_neg (by omega)]
    · rfl
  | [q], a, b, p, n, ⟨e, hq, h⟩, h1, h2 => by
    simp only [Tiles] at h
    rw [appP_one]
    split
    · rename_i hc
      simp only [valL, hc.1]
      by_cases x1 : n ≤ b <;> by_cases x2 : q.from_ ≤ n <;> by_cases x3 : n ≤ q.to <;> by_cases x4 : n ≤ p.to <;> by_cases x5 : p.from_ ≤ n <;> simp [x1, x2, x3, x4, x5] <;> omega
    · rename_i hc
      have := valL_tiles_append (l := [q]) (m := [p]) (a := a) (b := b) (c := p.to) (n := n) ⟨e, hq, by simp only [Tiles]; omega⟩ ⟨h1, h2, by simp only [Tiles]⟩
      simpa using this
  | q :: r :: l, a, b, p, n, ⟨e, hq, h⟩, h1, h2 => by
    have hle := h.le
    have hr := h.2.1
    have hr2 := h.1
    have hle2 := h.2.2.le
    have e1 : valL (appP (q :: r :: l) p) n = if q.from_ ≤ n ∧ n ≤ q.to then q.cell else valL (appP (r :: l) p) n := by rw [appP_cons _ _ _ (by simp)]; rfl
    have e2 : valL (q :: r :: l) n = if q.from_ ≤ n ∧ n ≤ q.to then q.cell else valL (r :: l) n := rfl
    rw [e1, e2, appP_val h h1 h2]
    by_cases x1 : q.from_ ≤ n ∧ n ≤ q.to
    · rw [if_pos x1, if_pos x1, if_pos (by omega)]
    · rw [if_neg x1, if_neg x1]
theorem joinP_val {l m : List Pc} {a b c n : Int} (h : Tiles l a b) (hm : Tiles m (b + 1) c) : valL (joinP l m) n = if n ≤ b then valL l n else valL m n := by
  cases m with
  | nil =>
    simp only [joinP]
    split
    · rfl
    · exact valL_out (fun p hp hh => by have := h.mem p hp; omega)
  | cons p r =>
    obtain ⟨h1, h2, h3⟩ := hm
    rw [joinP, valL_tiles_append (appP_tiles h h1 h2) h3, appP_val h h1 h2]
    simp only [valL]
    by_cases x1 : n ≤ b
    · rw [if_pos (by omega), if_pos x1, if_pos x1]
    · rw [if_neg x1, if_neg x1]
      by_cases x2 : n ≤ p.to
      · rw [if_pos x2]
        by_cases x3 : p.from_ ≤ n
        · rw [if_pos ⟨x3, x2⟩, if_pos ⟨x3, x2⟩]
        · omega
      · rw [if_neg x2, if_neg (by omega)]
theorem splitP_val : ∀ {l : List Pc} {a b : Int}, Tiles l a b → ∀ x, a ≤ x → x ≤ b + 1 → ∀ n, valL (splitP l x).1 n = (if n < x then valL l n else cl0) ∧ valL (splitP l x).2 n = (if n < x then cl0 else valL l n)
  | [], a, b, h, x, h1, h2, n => by simp [splitP, valL]
  | p :: l, a, b, ⟨e, hp, h⟩, x, h1, h2, n => by
    simp only [splitP]
    split
    · rename_i hx
      have : x = p.from_ := by omega
      refine ⟨?_, ?_⟩
      · simp only [valL]
        split
        · rw [if_neg (by omega), valL_out (fun q hq hh => by have := h.mem q hq; omega)]
        · rfl
      · split
        · exact valL_out (fun q hq hh => by
            rcases List.mem_cons.1 hq with rfl | hq
            · omega
            · have := h.mem q hq; omega)
        · rfl
    · rename_i hx
      split
      · rename_i hx2
        have ih := splitP_val h x (by omega) h2 n
        refine ⟨?_, ?_⟩
        · simp only [valL, ih.1]
          by_cases x1 : p.from_ ≤ n ∧ n ≤ p.to
          · rw [if_pos x1, if_pos (by omega), if_pos x1]
          · rw [if_neg x1, if_neg x1]
        · simp only [valL, ih.2]
          by_cases x1 : p.from_ ≤ n ∧ n ≤ p.to
          · rw [if_pos (by omega), if_pos (by omega)]
          · rw [if_neg x1]
      · rename_i hx2
        have hl : n < x → valL l n = cl0 := fun hn => valL_out (fun q hq hh => by have := h.mem q hq; omega)
        refine ⟨?_, ?_⟩
        · simp only [valL]
          by_cases x1 : n < x
          · rw [if_pos x1, hl x1]
            by_cases x2 : p.from_ ≤ n
            · rw [if_pos ⟨x2, by omega⟩, if_pos ⟨x2, by omega⟩]
            · rw [if_neg (by omega), if_neg (by omega)]
          · rw [if_neg x1, if_neg (by omega)]
        · simp only [valL]
          by_cases x1 : n < x
          · rw [if_pos x1, if_neg (by omega), hl x1]
          · rw [if_neg x1]
            by_cases x2 : n ≤ p.to
            · rw [if_pos ⟨by omega, x2⟩, if_pos ⟨by omega, x2⟩]
            · rw [if_neg (by omega), if_neg (by omega)]
theorem ownP_val (g : Cl → Cl) {l : List Pc} {a b n : Int} (h : Tiles l a b) : valL (ownP g l) n = if a ≤ n ∧ n ≤ b then g (valL l n) else cl0 := by
  have key : ∀ (l acc : List Pc) (c : Int), Tiles acc a c → Tiles l (c + 1) b → valL (l.foldl (fun acc p => appP acc ⟨p.from_, p.to, g p.cell⟩) acc) n = if n ≤ c then valL acc n else if n ≤ b then g (valL l n) else cl0 := by
    intro l
    induction l with
    | nil =>
      intro acc c h1 h2
      simp only [Tiles] at h2
      simp only [List.foldl_nil, valL]
      split
      · rfl
      · rw [if_neg (by omega), valL_out (fun p hp hh => by have := h1.mem p hp; omega)]
    | cons p l ih =>
      intro acc c h1 ⟨e, hp, h2⟩
      rw [List.foldl_cons, ih (appP acc ⟨p.from_, p.to, g p.cell⟩) p.to (appP_tiles (p := ⟨p.from_, p.to, g p.cell⟩) h1 e hp) h2, appP_val (p := ⟨p.from_, p.to, g p.cell⟩) h1 e hp]
      simp only [valL]
      have := h2.le
      by_cases x1 : n ≤ c
      · rw [if_pos (by omega), if_pos x1, if_pos x1]
      · rw [if_neg x1, if_neg x1]
        by_cases x2 : n ≤ p.to
        · rw [if_pos x2, if_pos (by omega), if_pos (by omega), if_pos (by omega)]
        · rw [if_neg x2, if_neg (c := p.from_ ≤ n ∧ n ≤ p.to) (by omega)]
  have := key l [] (a - 1) (by simp [Tiles]) (by rwa [Int.sub_add_cancel])
  rw [show ownP g l = l.foldl (fun acc p => appP acc ⟨p.from_, p.to, g p.cell⟩) [] from rfl, this]
  simp only [valL]
  by_cases x1 : n ≤ a - 1
  · rw [if_pos x1, if_neg (by omega)]
  · rw [if_neg x1]
    by_cases x2 : n ≤ b
    · rw [if_pos x2, if_pos (by omega)]
    · rw [if_neg x2, if_neg (by omega)]
theorem changedP_val (g : Cl → Cl) {l : List Pc} {a c : Int} (h : Tiles l 1 1000000) (ha : 1 ≤ a) (hc : 1 ≤ c) (hac : a + c - 1 ≤ 1000000) (n : Int) :
    valL (changedP l a c g) n = if a ≤ n ∧ n ≤ a + c - 1 then g (valL l n) else valL l n := by
  have h1 := splitP_tiles h a ha (by omega)
  have h2 := splitP_tiles h1.2 (a + c) (by omega) (by omega)
  have h3 := ownP_tiles g h2.1
  have h3' : Tiles (ownP g (splitP (splitP l a).2 (a + c)).1) (a - 1 + 1) (a + c - 1) := by rw [Int.sub_add_cancel]; exact h3
  have h4 : Tiles (joinP (splitP l a).1 (ownP g (splitP (splitP l a).2 (a + c)).1)) 1 (a + c - 1) := joinP_tiles h1.1 h3'
  have v1 := splitP_val h a ha (by omega) n
  have v2 := splitP_val h1.2 (a + c) (by omega) (by omega) n
  rw [changedP, joinP_val h4 (by rw [Int.sub_add_cancel]; exact h2.2), joinP_val h1.1 h3', ownP_val g h2.1, v2.1, v2.2, v1.1, v1.2]
  by_cases x1 : n ≤ a + c - 1
  · rw [if_pos x1]
    by_cases x2 : n ≤ a - 1
    · rw [if_pos x2, if_pos (by omega), if_neg (by omega)]
    · rw [if_neg x2, if_pos (by omega), if_pos (by omega), if_neg (by omega), if_pos (by omega)]
  · rw [if_neg x1, if_neg (by omega), if_neg (by omega), if_neg (by omega)]
def Canon : List Pc → Prop
  | [] => True
  | [_] => True
  | p :: q :: l => (p.cell = q.cell → p.to + 1 ≠ q.from_) ∧ Canon (q :: l)
theorem Canon.tail {p : Pc} {l : List Pc} (h : Canon (p :: l)) : Canon l := by
  cases l with
  | nil => trivial
  | cons q l => exact h.2
theorem canon_cons_cell {p q : Pc} {l : List Pc} (h : Canon (p :: l)) (hc : p.cell = q.cell) (ht : p.to = q.to) : Canon (q :: l) := by
  cases l with
  | nil => trivial
  | cons r l => exact ⟨fun e => by rw [← ht]; exact h.1 (hc.trans e), h.2⟩
theorem appP_canon : ∀ {l : List Pc} (p : Pc), Canon l → Canon (appP l p)
  | [], p, _ => trivial
  | [q], p, _ => by
    rw [appP_one]
    split
    · trivial
    · rename_i hc
      exact ⟨fun e h => hc ⟨e, h⟩, trivial⟩
  | q :: r :: l, p, h => by
    have ih := appP_canon p h.2
    rw [appP_cons _ _ _ (by simp)]
    cases l with
    | nil =>
      rw [appP_one] at ih ⊢
      split at ih
      · rw [if_pos (by assumption)]; exact ⟨h.1, trivial⟩
      · rw [if_neg (by assumption)]; exact ⟨h.1, ih⟩
    | cons s l =>
      rw [appP_cons _ _ _ (by simp)] at ih ⊢
      exact ⟨h.1, ih⟩
theorem appP_last_cell (l : List Pc) (p : Pc) : ∃ m f, appP l p = m ++ [⟨f, p.to, p.cell⟩] := by
  rcases List.eq_nil_or_concat l with rfl | ⟨L, q, rfl⟩
  · exact ⟨[], p.from_, rfl⟩
  · rw [List.concat_eq_append, appP_last]
    split
    · rename_i hc; exact ⟨L, q.from_, by rw [hc.1]⟩
    · exact ⟨L ++ [q], p.from_, by simp⟩
theorem canon_join {m r : List Pc} {p q : Pc} (h : Canon (m ++ [p])) (hr : Canon (q :: r)) (hc : p.cell = q.cell) (ht : p.to = q.to) : Canon (m ++ p :: r) := by
  induction m with
  | nil => exact canon_cons_cell hr hc.symm ht.symm
  | cons a m ih =>
    have := ih h.tail
    cases m with
    | nil => exact ⟨h.1, this⟩
    | cons b m => exact ⟨h.1, this⟩
theorem joinP_canon {l m : List Pc} (h : Canon l) (hm : Canon m) : Canon (joinP l m) := by
  cases m with
  | nil => exact h
  | cons p r =>
    have h1 := appP_canon p h
    obtain ⟨m', f, hm'⟩ := appP_last_cell l p
    rw [hm'] at h1
    rw [joinP, hm', List.append_assoc]
    exact canon_join h1 hm rfl rfl
theorem ownP_canon (g : Cl → Cl) (l : List Pc) : Canon (ownP g l) := by
  have key : ∀ (l acc : List Pc), Canon acc → Canon (l.foldl (fun acc p => appP acc ⟨p.from_, p.to, g p.cell⟩) acc) := by
    intro l
    induction l with
    | nil => intro acc h; exact h
    | cons p l ih => intro acc h; exact ih _ (appP_canon _ h)
  exact key l [] trivial
theorem splitP_canon : ∀ {l : List Pc} (x : Int), Canon l → Canon (splitP l x).1 ∧ Canon (splitP l x).2
  | [], x, _ => ⟨trivial, trivial⟩
  | p :: l, x, h => by
    simp only [splitP]
    split
    · exact ⟨trivial, h⟩
    · split
      · have ih := splitP_canon x h.tail
        refine ⟨?_, ih.2⟩
        cases l with
        | nil => exact trivial
        | cons q l =>
          simp only [splitP] at ih ⊢
          split
          · trivial
          · rename_i hx
            rw [if_neg hx] at ih
            split
            · rename_i h2
              rw [if_pos h2] at ih
              exact ⟨h.1, ih.1⟩
            · exact ⟨h.1, trivial⟩
      · exact ⟨trivial, canon_cons_cell h rfl rfl⟩
theorem changedP_canon (g : Cl → Cl) {l : List Pc} (a c : Int) (h : Canon l) : Canon (changedP l a c g) := by
  have h1 := splitP_canon a h
  have h2 := splitP_canon (a + c) h1.2
  exact joinP_canon (joinP_canon h1.1 (ownP_canon g _)) h2.2
end Go.Proofs.YtepldjidkomclaaGreat.St
namespace Go.Proofs.YtepldjidkomclaaGreat.St
set_option linter.unusedSimpArgs false
set_option linter.unusedVariables false
open Go.RowKit Go.Shelf
theorem valL_head {p : Pc} {l : List Pc} {n : Int} (h1 : p.from_ ≤ n) (h2 : n ≤ p.to) : valL (p :: l) n = p.cell := by rw [valL, if_pos ⟨h1, h2⟩]
theorem valL_tail {p : Pc} {l : List Pc} {n : Int} (h : p.to < n) : valL (p :: l) n = valL l n := by rw [valL, if_neg (by omega)]
end Go.Proofs.YtepldjidkomclaaGreat.St
