/- make: the next version. -/
import Derived.Test.YtnnbdjfeagcbdaaMake
import Derived.Deep.AppendLies
namespace Go.Proofs.Ytnnbdjfeagcbdaa
set_option linter.unusedSimpArgs false
set_option linter.unusedVariables false
open Go.RowKit Go.Shelf
attribute [local go_sem] Oper.semAt_some
attribute [local go_sem ↓] Go.wp_at_zero Go.wp_at_succ

theorem info_tree : (Try.prog.info? 111).map (fun i => (i.zero, i.size, i.bytes)) = some (some (.pointer none), 1, 8) := by kernel_rfl
theorem under_trees : Try.prog.underlying 119 = some (.slice 111) := by kernel_rfl
theorem mixed_ok : Try.prog.follows .mixedOrders = true := by kernel_rfl

theorem wpIn_append_lies {P : Program} {F : Fence} {nF : Nat} (w : World) {o : Oper} {a : Act} {K : Act → World → Prop} {Q : Exit → Act → World → Prop} (s x : Operand) (t : TypeId)
    (ho : o.op = .call { callee := .builtin .append, args := #[s, x], argTypes := #[t, t] })
    (base : Nat) (e : TypeId) (i : TypeInfo) (z : Value) (size bytes : Nat) (ht : P.underlying t = some (.slice e)) (hi : P.info? e = some i) (hz : i.zero = some z)
    (hsize : i.size = size) (hby : i.bytes = bytes) (hzs : z.cells.size = size) (hsz : 0 < size)
    (v : Value) (n : Nat) (xs : List Value) (hs : a.eval s = v) (hown : w.ownsRow base e size v n xs)
    (ad : Addr) (m c : Nat) (news : List Value) (hx : a.eval x = .slice (some ad) m c) (hl : news.length = m * size) (hnews : ∀ j u, news[j]? = some u → w.cell? (ad.add j) = some u) (h1 : ∀ u ∈ news, u.oneCell' = true)
    (hm : 0 < m) (h63 : n + m ≤ maxLen) (hbytes : (n + m) * bytes ≤ 140737488355328) (hbase : base ≤ w.heap.size) (H : Nat) (hH : w.heap.size = H)
    (h : ∀ g cap w', w'.ownsRow base e size (.slice (some ⟨g, 0, none⟩) (n + m) cap) (n + m) (xs ++ news) → w.grownBy w' v.ownBlock → (v.ownBlock = some g ∨ g = H) → g < w'.heap.size → K (a.put o.dst (.slice (some ⟨g, 0, none⟩) (n + m) cap)) w') : o.wpIn F nF P a w K Q := by
  obtain ⟨g, cap, w', hr, h2, h3, h4, h5⟩ := run_append_lies (P := P) w t o.type base e i z size bytes ht hi hz hsize hby hzs hsz v n xs hown ad m c news hl hnews h1 hm h63 hbytes hbase H hH
  unfold Oper.wpIn
  refine ⟨by simp [Oper.about, ho, resolve, Target.leads, Sem.run_pure], ?_⟩
  rw [Oper.semAt_plain F _ _ (by rw [ho]; intro c hc'; cases hc')]
  simp [execOp, ho, resolve, invoke, builtin, hs, hx, hr, Result.andThen]
  exact h g cap w' h2 h3 h4 h5

set_option maxRecDepth 100000 in
set_option maxHeartbeats 4000000 in
theorem make_calls (w : World) (sB vB : Nat) (vs : List T) (hst : StAt w sB vB vs) (hn : vs.length ≤ 1000) (ok : (vs.getLast hst.full).Ok) (hs : Sorted (vs.getLast hst.full).toList) (hlen : (vs.getLast hst.full).toList.length ≤ 10000000)
    (a c : Int) (hac : 1 ≤ a ∧ 1 ≤ c ∧ a + c - 1 ≤ 1000000) (wf : FuncId) (caps : Array Value) (g : Cl → Cl)
    (hwf : MapsOf wf caps g w) (eg : ∀ args w, (callFunc wf args).run Try.prog w = .ok (.enter wf args) w) :
    Calls Try.prog 56 #[.pointer (some ⟨sB, 0, none⟩), .agg #[.int .i64 a, .int .i64 c], .func (.func wf) #[] caps] w fun e w' =>
      e = .returned (.int .i64 0) ∧ ∃ (t' : T) (uB : Nat), StAt w' sB uB (vs ++ [t']) ∧ t'.Ok ∧ t'.toList = changedP (vs.getLast hst.full).toList a c g ∧ (uB = vB ∨ w.heap.size ≤ uB) ∧ Turned sB vB w w' := by
  obtain ⟨i0, hi, hz0, hz1, hz2⟩ := info_parts info_tree
  have NW := hid (hst.now (by omega))
  obtain ⟨t, ht⟩ : ∃ t, t = vs.getLast hst.full := ⟨_, rfl⟩
  rw [← ht] at ok hs hlen NW ⊢
  obtain ⟨cap, ps, hc, ho, htr⟩ := hst.at_
  have HOK := hid ok
  have HS := hid hs
  have HLEN := hid hlen
  have HW := hid hwf
  have EG := hid eg
  have HC := hid hc
  have HO := hid ho
  have HT := hid htr
  clear ht hst ok hs hlen hwf eg hc ho htr
  obtain ⟨n, hnn⟩ : ∃ n, n = vs.length := ⟨_, rfl⟩
  have HN := hid hnn
  rw [← hnn] at hn
  have hC := HC.out
  rw [← hnn] at hC
  clear hnn HC
  have HC := hid hC
  clear hC
  obtain ⟨F, hFe⟩ : ∃ F, F = Fence.wide := ⟨_, rfl⟩
  have hF : Free F Try.prog := hFe ▸ free_wide _
  have hro : F.round = none := by rw [hFe]; rfl
  have hdd : ∀ k : Nat, (F.depth.isSome = true → 1 ≤ k) := fun k h => by rw [hF.depth] at h; cases h
  have FE := hid hFe
  clear hFe
  have hS0 : Cells (w.alloc (.cells #[.int .i64 a, .int .i64 c] 37)).drew sB #[.slice (some ⟨vB, 0, none⟩) n cap] 121 ∧ Cells (w.alloc (.cells #[.int .i64 a, .int .i64 c] 37)).drew w.heap.size #[.int .i64 a, .int .i64 c] 37 :=
    ⟨(HC.out.alloc _).drew, (Cells.new w _ _).drew⟩
  have HS0 := hid hS0
  clear hS0
  go_enter Try.func56, Try.ntmps56
  go_wp2
  refine (wpIn_wide (n := 6)).1 ?_
  rw [← FE.out]
  refine wpIn_region_heldIn (S := fun w' => Cells w' sB #[.slice (some ⟨vB, 0, none⟩) n cap] 121 ∧ Cells w' w.heap.size #[.int .i64 a, .int .i64 c] 37) (f := 14) mixed_ok ?_
  refine wpAnyHIn_take hF (by kernel_rfl) (i := 0) (v := .pointer (some ⟨sB, 0, none⟩)) rfl (by kernel_rfl) (by kernel_rfl) (by kernel_rfl) (fun _ _ _ h => h) (.inl ⟨rfl, fun w' hs => ?_⟩) HS0.out ?_
  · clear hs; go_simp
  refine wpAnyHIn_take hF (by kernel_rfl) (i := 1) (v := .pointer (some ⟨sB, 0, none⟩)) rfl (by kernel_rfl) (by kernel_rfl) (by kernel_rfl) (fun _ _ _ h => h) (.inl ⟨rfl, fun w' hs => ?_⟩) HS0.out ?_
  · clear hs; go_simp
  refine wpAnyHIn_take hF (by kernel_rfl) (i := 2) (v := .pointer (some ⟨sB, 0, none⟩)) rfl (by kernel_rfl) (by kernel_rfl) (by kernel_rfl) (fun _ _ _ h => h) (.inl ⟨rfl, fun w' hs => ?_⟩) HS0.out ?_
  · have z0 := hs.1.cell 0
    have z1 := hs.1.lt
    simp at z0
    clear hs
    go_simp
  refine wpAnyHIn_take hF (by kernel_rfl) (i := 3) (v := .pointer (some ⟨sB, 0, none⟩)) rfl (by kernel_rfl) (by kernel_rfl) (by kernel_rfl) (fun _ _ _ h => h) (.inl ⟨rfl, fun w' hs => ?_⟩) HS0.out ?_
  · have z0 := hs.1.cell 0
    have z1 := hs.1.lt
    simp at z0
    clear hs
    go_simp
  refine wpAnyHIn_take hF (by kernel_rfl) (i := 4) (v := .slice (some ⟨vB, 0, none⟩) n cap) rfl (by kernel_rfl) (by kernel_rfl) (by kernel_rfl) (fun _ _ _ h => h) (.inl ⟨rfl, fun w' hs => ?_⟩) HS0.out ?_
  · have z0 := hs.1.cell 0
    have z1 := hs.1.lt
    simp at z0
    clear hs
    go_simp
  refine wpAnyHIn_take hF (by kernel_rfl) (i := 5) (v := .pointer (some ⟨sB, 0, none⟩)) rfl (by kernel_rfl) (by kernel_rfl) (by kernel_rfl) (fun _ _ _ h => h) (.inl ⟨rfl, fun w' hs => ?_⟩) HS0.out ?_
  · clear hs; go_simp
  refine wpAnyHIn_take hF (by kernel_rfl) (i := 7) (v := .agg #[.int .i64 a, .int .i64 c]) rfl (by kernel_rfl) (by kernel_rfl) (by kernel_rfl) (fun _ _ _ h => h) (.inl ⟨rfl, fun w' hs => ?_⟩) HS0.out ?_
  · have z0 := hs.2.cell 0
    have z1 := hs.2.cell 1
    simp at z0 z1
    clear hs
    go_simp
  refine wpAnyHIn_take hF (by kernel_rfl) (i := 8) (v := .func (.func wf) #[] caps) rfl (by kernel_rfl) (by kernel_rfl) (by kernel_rfl) (fun _ _ _ h => h) (.inl ⟨rfl, fun w' hs => ?_⟩) HS0.out ?_
  · clear hs; go_simp
  refine wpAnyHIn_one (i := 6) rfl (by kernel_rfl) rfl ?_
  gi_wp2_with fail
  refine ⟨hF.fn _, ?_⟩
  have b0 : Below w.heap.size w (w.alloc (.cells #[.int .i64 a, .int .i64 c] 37)).drew := ((Below.refl _ _).alloc (Nat.le_refl _) _).drew
  have B0 := hid b0
  clear b0
  refine (hF.calls _ _ _ _ _ (now_calls _ sB t (NW.out.below B0.out))).mono ?_
  rintro e w1 ⟨p, rfl, ht1, hb1⟩
  have S1 := hid (show Cells w1 sB #[.slice (some ⟨vB, 0, none⟩) n cap] 121 ∧ Cells w1 w.heap.size #[.int .i64 a, .int .i64 c] 37 from ⟨HS0.out.1.below hb1 HS0.out.1.lt, HS0.out.2.below hb1 HS0.out.2.lt⟩)
  have B1 := hid (B0.out.trans (hb1.mono B0.out.size))
  have T1 := hid ht1
  clear ht1 hb1
  have eg' := EG.out
  gi_wp2_with fail
  refine ⟨S1.out, ?_⟩
  refine wpAnyHIn_one (i := 9) rfl (by kernel_rfl) rfl ?_
  gi_wp2_with fail
  refine ⟨hF.fn _, ?_⟩
  refine (hF.calls _ _ _ _ _ (changed_calls w1 t p T1.out HOK.out HS.out HLEN.out a c hac wf caps g (fun d W hb => HW.out d W (B1.out.trans (hb.mono B1.out.size))) EG.out)).mono ?_
  rintro e w2 ⟨q, t', rfl, ht2, ok2, el2, hb2⟩
  have S2 := hid (show Cells w2 sB #[.slice (some ⟨vB, 0, none⟩) n cap] 121 ∧ Cells w2 w.heap.size #[.int .i64 a, .int .i64 c] 37 from ⟨S1.out.1.below hb2 S1.out.1.lt, S1.out.2.below hb2 S1.out.2.lt⟩)
  have B2 := hid (B1.out.trans (hb2.mono B1.out.size))
  have T2 := hid (And.intro ht2 (And.intro ok2 el2))
  clear ht2 ok2 el2 hb2 eg'
  gi_wp2_with fail
  refine ⟨S2.out, ?_⟩
  refine wpAnyHIn_one (i := 10) rfl (by kernel_rfl) rfl ?_
  gi_wp2_with fail
  have S3 := hid (show Cells (w2.alloc (.cells #[.pointer q] 111)) sB #[.slice (some ⟨vB, 0, none⟩) n cap] 121 ∧ Cells (w2.alloc (.cells #[.pointer q] 111)) w.heap.size #[.int .i64 a, .int .i64 c] 37 from ⟨S2.out.1.alloc _, S2.out.2.alloc _⟩)
  refine ⟨S3.out, ?_⟩
  refine wpAnyHIn_one (i := 11) rfl (by kernel_rfl) rfl ?_
  obtain ⟨cur, hvc⟩ := ownsRow_block HO.out
  have HV := hid hvc
  clear hvc
  have ho0 : w.ownsRow 0 111 1 (.slice (some ⟨vB, 0, none⟩) n cap) n (ps.map .pointer) := by rw [HN.out]; exact HO.out
  have ho2 : (w2.alloc (.cells #[.pointer q] 111)).ownsRow 0 111 1 (.slice (some ⟨vB, 0, none⟩) n cap) n (ps.map .pointer) :=
    ownsRow_keep ho0 ((heap_alloc_old w2 _ (Nat.lt_of_lt_of_le HV.out.lt B2.out.size)).trans (B2.out.block vB HV.out.lt))
  refine wpIn_append_lies _ (.tmp 11) (.tmp 17) 119 rfl 0 111 i0 (.pointer none) 1 8 under_trees hi hz0 hz1 hz2 rfl (by decide) (.slice (some ⟨vB, 0, none⟩) n cap) n _ rfl ho2 ⟨w2.heap.size, 0, none⟩ 1 1 [.pointer q] rfl rfl (cell_one_new _ _ _) (by intro u hu; simp at hu; subst hu; rfl) (by decide) (by unfold maxLen; omega) (by omega) (Nat.zero_le _) _ rfl ?_
  intro gB cap' w3 ho3 hgr hat hlt
  have nsv : sB ≠ vB := by rintro rfl; exact absurd (cells_type HC.out HV.out) (by decide)
  have nwv : w.heap.size ≠ vB := by have := HV.out.lt; omega
  have S4 := hid (show Cells w3 sB #[.slice (some ⟨vB, 0, none⟩) n cap] 121 ∧ Cells w3 w.heap.size #[.int .i64 a, .int .i64 c] 37 from
    ⟨(hgr.block sB S3.out.1.lt (by simpa [Value.ownBlock] using nsv)).trans S3.out.1, (hgr.block _ S3.out.2.lt (by simpa [Value.ownBlock] using nwv)).trans S3.out.2⟩)
  have G3 := hid (And.intro ho3 (And.intro hgr (And.intro hat hlt)))
  clear ho0 ho2 ho3 hgr hat hlt nsv nwv
  refine ⟨.inr S4.out, ?_⟩
  have z0 := S4.out.1.cell 0
  have z1 := S4.out.1.frozen 0
  simp at z0
  refine wpAnyHIn_one (i := 12) rfl (by kernel_rfl) rfl ?_
  gi_wp2_with fail
  refine ⟨S4.out, ?_⟩
  refine wpAnyHIn_one (i := 13) rfl (by kernel_rfl) rfl ?_
  gi_wp2_with fail
  refine ⟨S4.out, ?_⟩
  refine wpAnyHIn_one (i := 14) rfl (by kernel_rfl) rfl ?_
  gi_wp2_with fail
  refine wpAnyHIn_done (by kernel_rfl) ?_ _
  gi_wp2
  go_wp2
  go_ret
  clear z0 z1
  have hg := G3.out
  have hO := HO.out
  rw [← HN.out] at hO
  have n1 : sB ≠ vB := by rintro rfl; exact absurd (cells_type HC.out HV.out) (by decide)
  have hsz : w.heap.size ≤ w3.heap.size := Nat.le_trans B2.out.size (Nat.le_trans (by simp) hg.2.1.size)
  have hblk : ∀ k, k < w.heap.size → k ≠ sB → k ≠ vB → (w3.setCell ⟨sB, 0, none⟩ (.slice (some ⟨gB, 0, none⟩) (n + 1) cap')).heap[k]? = w.heap[k]? := fun k hk h1 h2 =>
    (Below.heap_setCell w3 ⟨sB, 0, none⟩ _ k h1).trans ((hg.2.1.block k (by have := B2.out.size; simp; omega) (by simpa [Value.ownBlock] using h2)).trans
      ((heap_alloc_old w2 _ (Nat.lt_of_lt_of_le hk B2.out.size)).trans (B2.out.block k hk)))
  have hgB : gB = vB ∨ w.heap.size ≤ gB := by
    rcases hg.2.2.1 with h | h
    · left; simpa [Value.ownBlock] using h.symm
    · right; rw [h]; have := B2.out.size; simp; omega
  have ngs : gB ≠ sB := by
    rcases hgB with h | h
    · rw [h]; exact fun e => n1 e.symm
    · have := HC.out.lt; omega
  have hl : ps.length = n := by have := hO.1; simpa using this
  have keep : ∀ {t0 : T} {p0 : Option Addr}, TreeAt w2 p0 t0 → TreeAt (w3.setCell ⟨sB, 0, none⟩ (.slice (some ⟨gB, 0, none⟩) (n + 1) cap')) p0 t0 := fun {t0 p0} h => by
    refine TreeAt.set (TreeAt.keepT (fun b cs hb => ?_) (TreeAt.keepT (w' := w2.alloc (.cells #[.pointer q] 111)) (fun b cs hb => heap_alloc_old w2 _ (Array.getElem?_eq_some_iff.1 hb).1) h)) S4.out.1 (by decide) 0 _
    refine hg.2.1.block b (Array.getElem?_eq_some_iff.1 hb).1 ?_
    have hv3 : Cells (w2.alloc (.cells #[.pointer q] 111)) vB cur 111 := (HV.out.below B2.out HV.out.lt).alloc _
    simp only [Value.ownBlock, ne_eq, Option.some.injEq]
    rintro rfl
    exact absurd (cells_type hv3 hb) (by decide)
  refine ⟨rfl, t', gB, ⟨by simp, cap', ps ++ [q], ?_, ?_, ?_⟩, T2.out.2.1, T2.out.2.2, hgB, ?_⟩
  · rw [List.length_append, List.length_singleton, ← HN.out]
    exact S4.out.1.set 0 _
  · rw [List.length_append, List.length_singleton, ← HN.out, List.map_append]
    exact ownsRow_keep hg.1 (Below.heap_setCell w3 ⟨sB, 0, none⟩ _ gB ngs)
  · intro k hk
    rw [List.length_append, List.length_singleton, ← HN.out] at hk
    by_cases h : k < n
    · have ho := HT.out k (by rw [← HN.out]; exact h)
      rw [List.getElem?_append_left (by omega), List.getElem?_append_left (by rw [← HN.out]; exact h)]
      exact keep (ho.below B2.out)
    · have e : k = n := by omega
      subst e
      rw [List.getElem?_append_right (by omega), List.getElem?_append_right (by rw [← HN.out]; exact Nat.le_refl _), ← HN.out, hl]
      simp
      exact keep T2.out.1
  · exact ⟨hg.2.1.os.trans B2.out.os, hg.2.1.tape.trans B2.out.tape, hg.2.1.output.trans B2.out.output, by simpa [World.setCell] using hsz, hblk⟩
end Go.Proofs.Ytnnbdjfeagcbdaa
