/- The reference's register: all versions as runs; New, Last, next. The reference: the first error of a span's pockets. The reference: owned, held. The reference: Move, Pledge, Release, Seize, Leave. The reference: Enter. A call done to the register and to the reference comes to the same. No program in sight but in the posts. -/
import Derived.Deep.CutBlock
import Derived.Test.YtnnbdjfeagcbdaaJRf2
import Derived.Test.YtnnbdjfeagcbdaaJMake2
import Derived.Test.YtnnbdjfeagcbdaaJAll
namespace Go.Proofs.Ytnnbdjfeagcbdaa
set_option linter.unusedSimpArgs false
set_option linter.unusedVariables false
open Go.RowKit Go.Shelf
attribute [local go_sem] Oper.semAt_some

theorem info_runs : (Try.prog.info? 63).map (fun i => (i.zero, i.size, i.bytes)) = some (some (.slice none 0 0), 1, 24) := by kernel_rfl
theorem under_versions : Try.prog.underlying 56 = some (.slice 63) := by kernel_rfl

/-- The reference's register: a list of lists of runs. -/
structure RefAt (w : World) (v : Value) (xs : List (List Pc)) : Prop where
  full : xs ≠ []
  at_ : ∃ (b cap : Nat) (us : List Value), v = .agg #[.slice (some ⟨b, 0, none⟩) xs.length cap] ∧ w.ownsRow 0 63 1 (.slice (some ⟨b, 0, none⟩) xs.length cap) xs.length us ∧
    (∀ k, k < xs.length → RunsV 0 w (us[k]?.getD (.slice none 0 0)) (xs[k]?.getD []))
theorem RefAt.keep {w w' : World} {v : Value} {xs : List (List Pc)} (h : RefAt w v xs) (h1 : ∀ (b : Nat) (cs : Array Value), w.heap[b]? = some (Obj.cells cs 63) → w'.heap[b]? = w.heap[b]?)
    (h2 : ∀ (b : Nat) (cs : Array Value), w.heap[b]? = some (Obj.cells cs 90) → w'.heap[b]? = w.heap[b]?) : RefAt w' v xs := by
  obtain ⟨hf, b, cap, us, hv, ho, hk⟩ := h
  exact ⟨hf, b, cap, us, hv, ownsRow_moved ho fun b cs _ hb => h1 b cs hb, fun k hk' => (hk k hk').moved fun b cs _ hb => h2 b cs hb⟩
theorem RefAt.below {w w' : World} {v : Value} {xs : List (List Pc)} (h : RefAt w v xs) (hb : Below w.heap.size w w') : RefAt w' v xs :=
  h.keep (fun b cs hh => hb.block b (Array.getElem?_eq_some_iff.1 hh).1) (fun b cs hh => hb.block b (Array.getElem?_eq_some_iff.1 hh).1)
theorem RefAt.drewN {w : World} {v : Value} {xs : List (List Pc)} (h : RefAt w v xs) (n : Nat) : RefAt (w.drewN n) v xs := h.keep (fun _ _ _ => rfl) (fun _ _ _ => rfl)
theorem RefAt.alloc {w : World} {v : Value} {xs : List (List Pc)} (h : RefAt w v xs) (o : Obj) : RefAt (w.alloc o) v xs := h.below ((Below.refl _ _).alloc (Nat.le_refl _) _)
/-- A change of the register does not touch the reference. -/
theorem RefAt.turned {w w' : World} {v : Value} {xs : List (List Pc)} (h : RefAt w v xs) {sB vB : Nat} {vs : List T} (o : StAt w sB vB vs) (ht : Turned sB vB w w') : RefAt w' v xs := by
  obtain ⟨cap, ps, hc, ho, _⟩ := o.at_
  obtain ⟨cur, hv⟩ := ownsRow_block ho
  refine h.keep (fun b cs hh => ht.block b (Array.getElem?_eq_some_iff.1 hh).1 ?_ ?_) (fun b cs hh => ht.block b (Array.getElem?_eq_some_iff.1 hh).1 ?_ ?_)
  · rintro rfl; exact absurd (cells_type hc hh) (by decide)
  · rintro rfl; exact absurd (cells_type hv hh) (by decide)
  · rintro rfl; exact absurd (cells_type hc hh) (by decide)
  · rintro rfl; exact absurd (cells_type hv hh) (by decide)
theorem RefAt.cell {w : World} {v : Value} {xs : List (List Pc)} (h : RefAt w v xs) : ∃ (b cap : Nat) (us : List Value), v = .agg #[.slice (some ⟨b, 0, none⟩) xs.length cap] ∧ b < w.heap.size ∧ us.length = xs.length ∧
    ∀ k, k < xs.length → w.cell? ⟨b, k, none⟩ = some (us[k]?.getD (.slice none 0 0)) ∧ RunsV 0 w (us[k]?.getD (.slice none 0 0)) (xs[k]?.getD []) := by
  obtain ⟨hf, b, cap, us, hv, ho, hk⟩ := h
  obtain ⟨cur, hc⟩ := ownsRow_block ho
  have hl : us.length = xs.length := by have := ho.1; simpa using this
  refine ⟨b, cap, us, hv, hc.lt, hl, fun k hk' => ⟨?_, hk k hk'⟩⟩
  rw [World.ownsRow.cellAt ho k (by omega), List.getElem?_eq_getElem (by omega)]
  rfl

set_option maxRecDepth 100000 in
set_option maxHeartbeats 2000000 in
theorem new_rcalls (w : World) : Calls Try.prog 29 #[] w fun e w' => ∃ v, e = .returned v ∧ RefAt w' v [[]] ∧ Below w.heap.size w w' := by
  go_enter Try.func29, Try.ntmps29
  go_wp2
  have c0 : Cells ((w.alloc (.cells #[.slice (some ⟨w.heap.size + 1, 0, none⟩) 1 1] 58)).alloc (.cells #[.slice none 0 0] 63)) w.heap.size #[.slice (some ⟨w.heap.size + 1, 0, none⟩) 1 1] 58 := (Cells.new w _ _).alloc _
  have o1 := World.ownsRow_lit (base := 0) (size := 1) (e := 63) (w.alloc (.cells #[.slice (some ⟨w.heap.size + 1, 0, none⟩) 1 1] 58)) #[.slice none 0 0] 1 (Nat.zero_le _) (by decide) rfl
  refine bodyPost_ret (v := .agg #[.slice (some ⟨w.heap.size + 1, 0, none⟩) 1 1]) (by simp [results, Try.results29, go_sem, c0.cell]) rfl ⟨_, rfl, ⟨by simp, w.heap.size + 1, 1, [.slice none 0 0], rfl, ?_, ?_⟩, ((Below.refl _ _).alloc (Nat.le_refl _) _).alloc (by simp) _⟩
  · simpa using o1
  · intro k hk
    simp at hk
    subst hk
    exact OwnE.nil _ _

set_option maxRecDepth 100000 in
set_option maxHeartbeats 2000000 in
theorem last_rcalls (w : World) (v : Value) (xs : List (List Pc)) (hv : RefAt w v xs) (hn : xs.length ≤ 1000) (l : List Pc) (hl : xs.getLast? = some l) :
    Calls Try.prog 32 #[v] w fun e w' => ∃ u, e = .returned u ∧ RunsV 0 w' u l ∧ Below w.heap.size w w' := by
  obtain ⟨b, cap, us, rfl, hb, hu, hk⟩ := hv.cell
  obtain ⟨m, hm⟩ : ∃ m, xs.length = m + 1 := ⟨xs.length - 1, by have := List.length_pos_iff.2 hv.full; omega⟩
  have hk := hk m (by omega)
  have e : xs[m]?.getD [] = l := by
    rw [List.getLast?_eq_getElem?, hm] at hl
    simp at hl
    rw [hl]; rfl
  rw [e] at hk
  obtain ⟨u, hue⟩ : ∃ u, u = us[m]?.getD (.slice none 0 0) := ⟨_, rfl⟩
  rw [← hue] at hk
  have c0 := hk.1
  have RV := hid hk.2
  rw [hm]
  have w1 : IntKind.i64.wrap ((m : Int) + 1 - 1) = (m : Int) := by rw [IntWalk.i64_in _ (by omega)]; omega
  have w2 : wrap64 (m : Int) = (m : Int) := by unfold wrap64; rw [← IntKind.wrap_i64]; exact IntWalk.i64_in _ (by omega)
  have n2 : (0 : Int) ≤ (m : Int) := by omega
  have n3 : (m : Int) < (m : Int) + 1 := by omega
  have n8 : m < m + 1 := by omega
  clear hk hue e hl hu hm hv
  go_enter Try.func32, Try.ntmps32
  go_wp2
  refine bodyPost_ret (v := u) (by simp [results, Try.results32, go_sem]) rfl ⟨u, rfl, RV.out.alloc _, (Below.refl _ _).alloc (Nat.le_refl _) _⟩

theorem getLast_of {xs : List (List Pc)} {l : List Pc} (h : xs.getLast? = some l) : ∃ m, xs.length = m + 1 ∧ xs[m]?.getD [] = l := by
  have hne : xs ≠ [] := by rintro rfl; simp at h
  refine ⟨xs.length - 1, by have := List.length_pos_iff.2 hne; omega, ?_⟩
  rw [List.getLast?_eq_getElem?] at h
  rw [h]; rfl

set_option maxRecDepth 100000 in
set_option maxHeartbeats 4000000 in
theorem next_rcalls (w : World) (v : Value) (xs : List (List Pc)) (hv : RefAt w v xs) (hn : xs.length ≤ 1000) (u : Value) (l : List Pc) (hu : RunsV 0 w u l) :
    Calls Try.prog 105 #[v, u] w fun e w' => ∃ v', e = .returned v' ∧ RefAt w' v' (xs ++ [l]) ∧ Below w.heap.size w w' := by
  obtain ⟨i0, hi, hz0, hz1, hz2⟩ := info_parts info_runs
  obtain ⟨b, cap, us, rfl, hb, hul, hk⟩ := hv.cell
  obtain ⟨n, hnn⟩ : ∃ n, n = xs.length := ⟨_, rfl⟩
  have hpos : 0 < n := by rw [hnn]; exact List.length_pos_iff.2 hv.full
  rw [← hnn] at hn hul hk ⊢
  have HN := hid hnn
  have HK := hid hk
  have HU := hid hu
  have HUL := hid hul
  clear hv hnn hk hu hul
  obtain ⟨pu, cu, hpu⟩ : ∃ p c, u = .slice p l.length c := by obtain ⟨p, c, h, _⟩ := HU.out.form; exact ⟨p, c, h⟩
  subst hpu
  have CZ0 := hid (show Cells ((w.alloc (.cells #[.slice (some ⟨b, 0, none⟩) n cap] 58)).alloc (.cells #[.slice none 0 0] 58)) (w.heap.size + 1) #[.slice none 0 0] 58 by
    have := Cells.new (w.alloc (.cells #[.slice (some ⟨b, 0, none⟩) n cap] 58)) #[.slice none 0 0] 58
    rwa [World.size_alloc] at this)
  go_enter Try.func105, Try.ntmps105
  go_wp2_with (at_builtin; refine wpList_append_lies _ rfl (.tmp 6) (.tmp 8) 56 rfl (w.heap.size + 1 + 1) 63 i0 _ 1 24 under_versions hi hz0 hz1 hz2 rfl (by decide) (.slice none 0 0) 0 [] rfl (World.ownsRow_nil _ _ _ _) ⟨b, 0, none⟩ n cap us rfl ?a0 ?a1 ?a2 hpos ?a3 ?a4 ?a5 _ rfl ?_)
  case a0 => have := HUL.out; omega
  case a1 =>
    intro j x hx
    have hj : j < n := by have := (List.getElem?_eq_some_iff.1 hx).1; have := HUL.out; omega
    have h1 := (HK.out j hj).1
    rw [hx] at h1
    have h2 := Below.cell (((Below.refl w.heap.size w).alloc (Nat.le_refl _) (.cells #[.slice (some ⟨b, 0, none⟩) n cap] 58)).alloc (by simp) (.cells #[.slice none 0 0] 58)) (p := ⟨b, 0 + j, none⟩) hb
    rw [Nat.zero_add] at h2
    have h3 := h2.trans h1
    by_cases h0 : j = 0
    · subst h0; simpa [Addr.add] using h3
    · simpa [Addr.add, h0] using h3
  case a2 =>
    intro x hx
    obtain ⟨j, hj, rfl⟩ := List.getElem_of_mem hx
    obtain ⟨p0, c0, h0, _⟩ := (HK.out j (by have := HUL.out; omega)).2.form
    rw [List.getElem?_eq_getElem hj] at h0
    simp only [Option.getD_some] at h0
    rw [h0]; rfl
  case a3 => unfold maxLen; omega
  case a4 => omega
  case a5 => simp
  intro g cap1 w3 own1 gr1 at1 lt1
  have b3 : Below w.heap.size w w3 := Below.grown ((((Below.refl w.heap.size w).alloc (Nat.le_refl _) _).alloc (by simp) _)) gr1 (by simp; omega) (fun r h => by cases h)
  have O3 := hid own1
  have G3 := hid gr1
  have B3 := hid b3
  have hz3 : w.heap.size + 1 + 1 ≤ w3.heap.size := by have := gr1.size; simpa using this
  have O4 := hid (show (w3.alloc (.cells #[.slice pu l.length cu] 63)).ownsRow (w.heap.size + 1 + 1) 63 1 (.slice (some ⟨g, 0, none⟩) n cap1) n us by
    have := own1.alloc (.cells #[.slice pu l.length cu] 63)
    exact this)
  clear own1 gr1 at1 b3
  go_wp2_with (at_builtin; refine wpList_append_lies _ rfl (.tmp 10) (.tmp 12) 56 rfl (w.heap.size + 1 + 1) 63 i0 _ 1 24 under_versions hi hz0 hz1 hz2 rfl (by decide) (.slice (some ⟨g, 0, none⟩) n cap1) n us rfl O4.out ⟨w3.heap.size, 0, none⟩ 1 1 [.slice pu l.length cu] rfl rfl ?b1 ?b2 (by decide) ?b3 ?b4 ?b5 _ rfl ?_)
  case b1 => exact news_of (Cells.new w3 #[.slice pu l.length cu] 63)
  case b2 => intro x hx; simp at hx; subst hx; rfl
  case b3 => unfold maxLen; omega
  case b4 => omega
  case b5 => simp; omega
  intro g2 cap2 w4 own2 gr2 at2 lt2
  have b4 : Below w.heap.size w w4 := Below.grown (B3.out.alloc (by omega) _) gr2 (by simp; omega) (fun r h => by have := (World.ownsRow.lt O4.out r h).1; omega)
  have O5 := hid own2
  have B4 := hid b4
  have CZ := hid (show Cells w4 (w.heap.size + 1) #[.slice none 0 0] 58 from (gr2.block _ (by simp; omega) (fun e => by have := (World.ownsRow.lt O4.out _ e.symm).1; omega)).trans (Cells.alloc (show Cells w3 (w.heap.size + 1) #[.slice none 0 0] 58 from (G3.out.block _ (by simp) (fun e => by cases e)).trans CZ0.out) _))
  clear own2 gr2 at2 b4 lt2
  have cz : w4.cell? ⟨w.heap.size + 1, 0, none⟩ = some (.slice none 0 0) := by simp [CZ.out.cell]
  have fz : w4.frozen? ⟨w.heap.size + 1, 0, none⟩ = false := CZ.out.frozen 0
  have lz := CZ.out.lt
  go_wp2
  have c6 := CZ.out.set 0 (.slice (some ⟨g2, 0, none⟩) (n + 1) cap2)
  have b6 := B4.out.setCell (p := ⟨w.heap.size + 1, 0, none⟩) (by simp) (.slice (some ⟨g2, 0, none⟩) (n + 1) cap2)
  refine bodyPost_ret (v := .agg #[.slice (some ⟨g2, 0, none⟩) (n + 1) cap2]) (by simp [results, Try.results105, go_sem, c6.cell]) rfl ⟨_, rfl, ⟨by simp, g2, cap2, us ++ [.slice pu l.length cu], ?_, ?_, ?_⟩, b6⟩
  · rw [List.length_append, ← HN.out]; rfl
  · rw [List.length_append, ← HN.out]
    exact (ownsRow_moved O5.out fun b cs hb _ => Below.heap_setCell w4 ⟨w.heap.size + 1, 0, none⟩ _ b (by simp; omega)).mono (Nat.zero_le _)
  · intro k hk
    rw [List.length_append, ← HN.out] at hk
    by_cases hkn : k < n
    · rw [List.getElem?_append_left (by have := HUL.out; omega), List.getElem?_append_left (by have := HN.out; omega)]
      exact (HK.out k hkn).2.below b6
    · have e : k = n := by simp at hk; omega
      subst e
      rw [List.getElem?_append_right (by have := HUL.out; omega), List.getElem?_append_right (by have := HN.out; omega), HUL.out, ← HN.out]
      simp
      exact HU.out.below b6
end Go.Proofs.Ytnnbdjfeagcbdaa
namespace Go.Proofs.Ytnnbdjfeagcbdaa
set_option linter.unusedSimpArgs false
set_option linter.unusedVariables false
open Go.RowKit Go.Shelf
attribute [local go_sem] Oper.semAt_some

/-- The first error of the pockets from a to b. -/
def FirstAt (e : Cl → Int) (val : Int → Cl) (a b r : Int) : Prop :=
  (r = 0 ∧ ∀ n, a ≤ n → n ≤ b → e (val n) = 0) ∨ (r ≠ 0 ∧ ∃ n, a ≤ n ∧ n ≤ b ∧ e (val n) = r ∧ ∀ m, a ≤ m → m < n → e (val m) = 0)
theorem FirstAt.unique {e : Cl → Int} {val : Int → Cl} {a b r s : Int} (h1 : FirstAt e val a b r) (h2 : FirstAt e val a b s) : r = s := by
  rcases h1 with ⟨rfl, h1⟩ | ⟨hr, n, n1, n2, n3, n4⟩ <;> rcases h2 with ⟨rfl, h2⟩ | ⟨hs, m, m1, m2, m3, m4⟩
  · rfl
  · exact absurd (h1 m m1 m2) (by rw [m3]; exact hs)
  · exact absurd (h2 n n1 n2) (by rw [n3]; exact hr)
  · rcases Int.lt_trichotomy n m with h | h | h
    · exact absurd (m4 n n1 h) (by rw [n3]; exact hr)
    · subst h; rw [← n3, m3]
    · exact absurd (n4 m m1 h) (by rw [m3]; exact hs)
/-- What the loop over the runs finds of a pocket: its state, and the end of the run. -/
def scanS (n : Int) (s : Cl × Int) (q : Pc) : Cl × Int := if q.from_ ≤ n ∧ n ≤ q.to then (q.cell, q.to) else s
def scan (l : List Pc) (n : Int) : Cl × Int := l.foldl (scanS n) (cl0, n)
theorem scan_snoc (l : List Pc) (q : Pc) (n : Int) : scan (l ++ [q]) n = scanS n (scan l n) q := by simp [scan]
theorem scan_spec {l : List Pc} (h : RunsP l) (n : Int) : (scan l n).1 = valL l n ∧ n ≤ (scan l n).2 ∧ (∀ m, n ≤ m → m ≤ (scan l n).2 → valL l m = valL l n) ∧ (0 ≤ n → n ≤ 1000000 → (scan l n).2 ≤ 1000000) := by
  have key : ∀ (r : List Pc) (s : Cl × Int), RunsP r → (∀ q ∈ r, ¬ (q.from_ ≤ n ∧ n ≤ q.to)) → r.foldl (scanS n) s = s := by
    intro r
    induction r with
    | nil => intro s _ _; rfl
    | cons q r ih =>
      intro s hr hn
      rw [List.foldl_cons, scanS, if_neg (hn q (by simp))]
      exact ih s hr.tail (fun x hx => hn x (by simp [hx]))
  have main : ∀ (r : List Pc), RunsP r → (r.foldl (scanS n) (cl0, n) = (cl0, n) ∧ ∀ q ∈ r, ¬ (q.from_ ≤ n ∧ n ≤ q.to)) ∨ ∃ q ∈ r, q.from_ ≤ n ∧ n ≤ q.to ∧ r.foldl (scanS n) (cl0, n) = (q.cell, q.to) := by
    intro r
    induction r with
    | nil => intro _; exact .inl ⟨rfl, by simp⟩
    | cons q r ih =>
      intro hr
      by_cases hq : q.from_ ≤ n ∧ n ≤ q.to
      · refine .inr ⟨q, by simp, hq.1, hq.2, ?_⟩
        rw [List.foldl_cons, scanS, if_pos hq]
        exact key r _ hr.tail (fun x hx hh => by have := hr.head x hx; omega)
      · rw [List.foldl_cons, scanS, if_neg hq]
        rcases ih hr.tail with ⟨h1, h2⟩ | ⟨x, hx, h1, h2, h3⟩
        · refine .inl ⟨h1, fun y hy => ?_⟩
          rcases List.mem_cons.1 hy with rfl | hy
          · exact hq
          · exact h2 y hy
        · exact .inr ⟨x, by simp [hx], h1, h2, h3⟩
  rcases main l h with ⟨h1, h2⟩ | ⟨q, hq, h1, h2, h3⟩
  · have e : scan l n = (cl0, n) := h1
    rw [e]
    refine ⟨(valL_out h2).symm, Int.le_refl _, fun m hm1 hm2 => ?_, fun _ h => h⟩
    have : m = n := by simp only at hm2; omega
    rw [this]
  · have e : scan l n = (q.cell, q.to) := h3
    have gq := (h.good q hq).le
    rw [e]
    refine ⟨(h.val q hq n h1 h2).symm, h2, fun m hm1 hm2 => ?_, fun _ _ => gq.2.2⟩
    rw [h.val q hq m (by omega) hm2, h.val q hq n h1 h2]
theorem filterMap_same {α β : Type} {f g : α → Option β} : ∀ {l : List α}, (∀ q ∈ l, f q = g q) → l.filterMap f = l.filterMap g
  | [], _ => rfl
  | q :: l, h => by rw [List.filterMap_cons, List.filterMap_cons, h q (by simp), filterMap_same fun x hx => h x (by simp [hx])]
/-- The program's first error is the first error of the pockets. -/
theorem firstE_at (e : Cl → Int) {l : List Pc} {x y a b : Int} (ht : Tiles l x y) (hx : x ≤ a) (hab : a ≤ b) (hy : b ≤ y) : FirstAt e (valL l) a b (firstE e (visP l a b)) := by
  induction l generalizing x a with
  | nil =>
    simp only [Tiles] at ht
    refine .inl ⟨rfl, fun n h1 h2 => by omega⟩
  | cons p l ih =>
    obtain ⟨h1, h2, h3⟩ := ht
    by_cases hc : p.to < a
    · have hv : visP (p :: l) a b = visP l a b := by
        unfold visP
        rw [List.filterMap_cons]
        have : cutP a b p = none := by rw [cutP, if_neg (by omega)]
        rw [this]
      rw [hv]
      rcases ih h3 (a := a) (by omega) (by omega) with ⟨r1, r2⟩ | ⟨r1, n, n1, n2, n3, n4⟩
      · exact .inl ⟨r1, fun n h4 h5 => by rw [valL_tail (by omega)]; exact r2 n h4 h5⟩
      · exact .inr ⟨r1, n, n1, n2, by rw [valL_tail (by omega)]; exact n3, fun m m1 m2 => by rw [valL_tail (by omega)]; exact n4 m m1 m2⟩
    · by_cases hb : b < p.from_
      · have hv : visP (p :: l) a b = [] := by
          unfold visP
          rw [List.filterMap_eq_nil_iff]
          intro q hq
          have : b < q.from_ := by
            rcases List.mem_cons.1 hq with rfl | hq
            · exact hb
            · have := h3.mem q hq; omega
          rw [cutP, if_neg (by omega)]
        rw [hv]
        exact .inl ⟨rfl, fun n h4 h5 => by omega⟩
      · have hv : visP (p :: l) a b = p.cut a b :: visP l a b := by
          unfold visP
          rw [List.filterMap_cons]
          have : cutP a b p = some (p.cut a b) := by rw [cutP, if_pos (by omega)]
          rw [this]
        rw [hv, firstE]
        have hcell : (p.cut a b).cell = p.cell := rfl
        rw [hcell]
        by_cases he : e p.cell = 0
        · rw [if_neg (by simp [he])]
          by_cases hpb : b ≤ p.to
          · have hv2 : visP l a b = [] := by
              unfold visP
              rw [List.filterMap_eq_nil_iff]
              intro q hq
              have := h3.mem q hq
              rw [cutP, if_neg (by omega)]
            rw [hv2]
            exact .inl ⟨rfl, fun n h4 h5 => by rw [valL_head (by omega) (by omega)]; exact he⟩
          · have hv2 : visP l a b = visP l (p.to + 1) b := by
              unfold visP
              refine filterMap_same fun q hq => ?_
              have := h3.mem q hq
              rw [cutP, cutP]
              by_cases hqb : q.from_ ≤ b
              · rw [if_pos (by omega), if_pos (by omega)]
                simp only [Pc.cut, Option.some.injEq, Pc.mk.injEq, and_true]
                omega
              · rw [if_neg (by omega), if_neg (by omega)]
            rw [hv2]
            rcases ih h3 (a := p.to + 1) (Int.le_refl _) (by omega) with ⟨r1, r2⟩ | ⟨r1, n, n1, n2, n3, n4⟩
            · refine .inl ⟨r1, fun n h4 h5 => ?_⟩
              by_cases hn : n ≤ p.to
              · rw [valL_head (by omega) hn]; exact he
              · rw [valL_tail (by omega)]; exact r2 n (by omega) h5
            · refine .inr ⟨r1, n, by omega, n2, by rw [valL_tail (by omega)]; exact n3, fun m m1 m2 => ?_⟩
              by_cases hn : m ≤ p.to
              · rw [valL_head (by omega) hn]; exact he
              · rw [valL_tail (by omega)]; exact n4 m (by omega) m2
        · rw [if_pos he]
          exact .inr ⟨he, a, Int.le_refl _, by omega, by rw [valL_head (by omega) (by omega)], fun m m1 m2 => by omega⟩
end Go.Proofs.Ytnnbdjfeagcbdaa
namespace Go.Proofs.Ytnnbdjfeagcbdaa
set_option linter.unusedSimpArgs false
set_option linter.unusedVariables false
open Go.RowKit Go.Shelf
attribute [local go_sem] Oper.semAt_some

theorem scan_range {l : List Pc} (hr : RunsP l) {n : Int} (hn : 0 ≤ n ∧ n ≤ 1000000) : n ≤ (scan l n).2 ∧ (scan l n).2 ≤ 1000000 := by
  obtain ⟨_, h2, _, h4⟩ := scan_spec hr n
  exact ⟨h2, h4 hn.1 hn.2⟩

set_option maxRecDepth 100000 in
set_option maxHeartbeats 4000000 in
theorem owned_rcalls (w : World) (v : Value) (l : List Pc) (hv : RunsV 0 w v l) (hl : l.length ≤ 1000000) (hr : RunsP l) (a c : Int) (hac : 1 ≤ a ∧ 1 ≤ c ∧ a + c - 1 ≤ 1000000) (o : Int) :
    Calls Try.prog 107 #[v, .agg #[.int .i64 a, .int .i64 c], .int .i64 o] w fun e w' => ∃ r, e = .returned (.int .i64 r) ∧ FirstAt (ownedE o) (valL l) a (a + c - 1) r ∧ Below w.heap.size w w' := by
  obtain ⟨p, cap, b, rfl, hp, hc⟩ := hv.cells
  obtain ⟨n, hn⟩ : ∃ n, n = l.length := ⟨_, rfl⟩
  rw [← hn] at hp hl ⊢
  have HP := hid hp
  have HC := hid hc
  have HN := hid hn
  have HR := hid hr
  have w1 : IntKind.i64.wrap (a + c) = a + c := IntWalk.i64_in _ (by omega)
  have C0 := hid (Cells.new w #[.int .i64 a, .int .i64 c] 37)
  have B0 := hid (show Below w.heap.size w (w.alloc (.cells #[.int .i64 a, .int .i64 c] 37)) from (Below.refl _ _).alloc (Nat.le_refl _) _)
  clear hp hc hn hr
  go_enter Try.func107, Try.ntmps107
  go_wp2_with fail
  go_loopg [7] (c.toNat) (fun k s7 wr => ∃ x : Int, s7 = .int .i64 x ∧ a ≤ x ∧ x ≤ 1000001 ∧ (x + k ≥ a + c) ∧ (∀ m, a ≤ m → m < x → m ≤ a + c - 1 → ownedE o (valL l m) = 0) ∧ Below w.heap.size w wr ∧ Cells wr w.heap.size #[.int .i64 a, .int .i64 c] 37)
  case atStart => exact ⟨a, rfl, Int.le_refl _, by omega, by omega, fun m h1 h2 => by omega, B0.out, C0.out⟩
  case round =>
    obtain ⟨x, rfl, hxa, hxm, hxk, hz, hb, hcc⟩ := hrel
    have HZ := hid hz
    have HB := hid hb
    have CC := hid hcc
    have k0 : wr.cell? ⟨w.heap.size, 0, none⟩ = some (.int .i64 a) := by simp [hcc.cell]
    have k1 : wr.cell? ⟨w.heap.size, 1, none⟩ = some (.int .i64 c) := by simp [hcc.cell]
    have lz := hcc.lt
    clear hz hb hcc
    obtain ⟨kk, hkk⟩ : ∃ kk, kk = gk := ⟨_, rfl⟩
    by_cases hx : x < a + c
    · have g1 : decide (x < a + c) = true := by simpa using hx
      have hsc := scan_range HR.out (n := x) (by omega)
      go_upto_block 2 with fail
      have BA := hid (show Below w.heap.size w (wr.alloc (.cells #[.int .i64 0, .int .i64 0, .int .i64 0, .int .i64 0] 88)) from HB.out.alloc HB.out.size _)
      have CA := hid (Cells.new wr #[.int .i64 0, .int .i64 0, .int .i64 0, .int .i64 0] 88)
      have CS := hid (CC.out.alloc (.cells #[.int .i64 0, .int .i64 0, .int .i64 0, .int .i64 0] 88))
      obtain ⟨pb, hpb⟩ : ∃ pb, pb = wr.heap.size := ⟨_, rfl⟩
      have PB := hid hpb
      have hlp : w.heap.size < pb := by omega
      rw [← hpb] at CA ⊢
      clear k0 k1 lz hpb
      go_cut [9] (fun s9 wx => s9 = .int .i64 (scan l x).2 ∧ Below w.heap.size w wx ∧ Cells wx w.heap.size #[.int .i64 a, .int .i64 c] 37 ∧ Cells wx pb (scan l x).1.vals 88)
      case first =>
        go_wp2_with fail
        go_loopg [9, 10] n (fun k s9 s10 wr => ∃ i : Nat, i + k = n ∧ s10 = .int .i64 i ∧ s9 = .int .i64 (scan (l.take i) x).2 ∧ Below w.heap.size w wr ∧ Cells wr w.heap.size #[.int .i64 a, .int .i64 c] 37 ∧ Cells wr pb (scan (l.take i) x).1.vals 88)
        case atStart => exact ⟨0, by omega, rfl, rfl, BA.out, CS.out, CA.out⟩
        case round =>
          obtain ⟨i, hik, rfl, rfl, hb2, hs2, hp2⟩ := hrel
          have HB2 := hid hb2
          have HS2 := hid hs2
          have HP2 := hid hp2
          by_cases hi : i < n
          · have hil : i < l.length := by rw [← HN.out]; exact hi
            obtain ⟨rfl, _, hbl⟩ := HP.out (by omega)
            obtain ⟨c0, c1, c2, c3, c4, c5⟩ := HC.out i hil
            obtain ⟨r, hr⟩ : ∃ r, r = l[i] := ⟨_, rfl⟩
            rw [← hr] at c0 c1 c2 c3 c4 c5
            have d0 : wr.cell? ⟨b, i * 6, none⟩ = some (.int .i64 r.from_) := (hb2.cell (p := ⟨b, i * 6, none⟩) hbl).trans c0
            have d1 : wr.cell? ⟨b, i * 6 + 1, none⟩ = some (.int .i64 r.to) := (hb2.cell (p := ⟨b, i * 6 + 1, none⟩) hbl).trans c1
            have d2 : wr.cell? ⟨b, i * 6 + 2, none⟩ = some (.int .i64 r.cell.state) := (hb2.cell (p := ⟨b, i * 6 + 2, none⟩) hbl).trans c2
            have d3 : wr.cell? ⟨b, i * 6 + 3, none⟩ = some (.int .i64 r.cell.lot) := (hb2.cell (p := ⟨b, i * 6 + 3, none⟩) hbl).trans c3
            have d4 : wr.cell? ⟨b, i * 6 + 4, none⟩ = some (.int .i64 r.cell.owner) := (hb2.cell (p := ⟨b, i * 6 + 4, none⟩) hbl).trans c4
            have d5 : wr.cell? ⟨b, i * 6 + 5, none⟩ = some (.int .i64 r.cell.holder) := (hb2.cell (p := ⟨b, i * 6 + 5, none⟩) hbl).trans c5
            have lp := hp2.lt
            have fz : ∀ j, wr.frozen? ⟨pb, j, none⟩ = false := fun j => hp2.frozen j
            have q0 : ∃ u, wr.cell? ⟨pb, 0, none⟩ = some u := ⟨_, by simp [hp2.cell]; rfl⟩
            have SC := hid (show scan (l.take (i + 1)) x = if r.from_ ≤ x ∧ x ≤ r.to then (r.cell, r.to) else scan (l.take i) x by rw [List.take_succ_eq_append_getElem hil, scan_snoc, ← hr, scanS])
            have i64 : IntKind.i64.wrap ((i : Int) + 1) = (i : Int) + 1 := IntWalk.i64_in _ (by omega)
            have g2 : decide ((i : Int) < (n : Int)) = true := by simpa using hi
            clear c0 c1 c2 c3 c4 c5 hr hb2 hs2 hp2 q0
            obtain ⟨sc, hsc'⟩ : ∃ sc, sc = scan (l.take i) x := ⟨_, rfl⟩
            rw [← hsc'] at HP2 SC ⊢
            clear hsc'
            obtain ⟨⟨s1, s2, s3, s4⟩, s5⟩ := sc
            by_cases h1 : r.from_ ≤ x
            · have g3 : decide (r.from_ ≤ x) = true := by simpa using h1
              by_cases h2 : x ≤ r.to
              · have g4 : decide (x ≤ r.to) = true := by simpa using h2
                have q0 : wr.cell? ⟨pb, 0, none⟩ = some (.int .i64 s1) := by simp [HP2.out.cell]
                have q1 : wr.cell? ⟨pb, 1, none⟩ = some (.int .i64 s2) := by simp [HP2.out.cell]
                have q2 : wr.cell? ⟨pb, 2, none⟩ = some (.int .i64 s3) := by simp [HP2.out.cell]
                have q3 : wr.cell? ⟨pb, 3, none⟩ = some (.int .i64 s4) := by simp [HP2.out.cell]
                go_wp2
                have hs := (((HP2.out.set 0 (.int .i64 r.cell.state)).set 1 (.int .i64 r.cell.lot)).set 2 (.int .i64 r.cell.owner)).set 3 (.int .i64 r.cell.holder)
                have bs := (((HB2.out.setCell (p := ⟨pb, 0, none⟩) (Nat.le_of_lt hlp) (.int .i64 r.cell.state)).setCell (p := ⟨pb, 1, none⟩) (Nat.le_of_lt hlp) (.int .i64 r.cell.lot)).setCell (p := ⟨pb, 2, none⟩) (Nat.le_of_lt hlp) (.int .i64 r.cell.owner)).setCell (p := ⟨pb, 3, none⟩) (Nat.le_of_lt hlp) (.int .i64 r.cell.holder)
                have cs := (((HS2.out.set_far 0 (.int .i64 r.cell.state) (C := pb) (by omega)).set_far 1 (.int .i64 r.cell.lot) (C := pb) (by omega)).set_far 2 (.int .i64 r.cell.owner) (C := pb) (by omega)).set_far 3 (.int .i64 r.cell.holder) (C := pb) (by omega)
                go_roundg (gk - 1)
                case measure => omega
                case rel => exact ⟨i + 1, by omega, rfl, by rw [SC.out, if_pos ⟨h1, h2⟩], bs, cs, by rw [SC.out, if_pos ⟨h1, h2⟩]; exact hs⟩
              · have g4 : decide (x ≤ r.to) = false := by simpa using h2
                have g5 : decide (r.to < x) = true := by simp; omega
                clear h2
                go_wp2
                go_roundg (gk - 1)
                case measure => omega
                case rel => exact ⟨i + 1, by omega, rfl, by rw [SC.out, if_neg (by simp at g5; omega)], HB2.out, HS2.out, by rw [SC.out, if_neg (by simp at g5; omega)]; exact HP2.out⟩
            · have g3 : decide (r.from_ ≤ x) = false := by simpa using h1
              have g5 : decide (x < r.from_) = true := by simp; omega
              clear h1
              go_wp2
              go_roundg (gk - 1)
              case measure => omega
              case rel => exact ⟨i + 1, by omega, rfl, by rw [SC.out, if_neg (by simp at g5; omega)], HB2.out, HS2.out, by rw [SC.out, if_neg (by simp at g5; omega)]; exact HP2.out⟩
          · have g2 : decide ((i : Int) < (n : Int)) = false := by simpa using hi
            have hln : l.take i = l := List.take_of_length_le (by have := HN.out; omega)
            rw [hln] at HP2 ⊢
            clear hln hb2 hs2 hp2
            go_wp2
            go_meet
            case rel => exact ⟨rfl, HB2.out, HS2.out, HP2.out⟩
      case rest =>
        obtain ⟨rfl, hb3, hs3, hp3⟩ := hcut
        obtain ⟨e1, e2, e3, _⟩ := scan_spec HR.out x
        rw [e1] at hp3
        have HB3 := hid hb3
        have HS3 := hid hs3
        have E3 := hid e3
        have lp := hp3.lt
        obtain ⟨st, hst⟩ : ∃ st, st = valL l x := ⟨_, rfl⟩
        rw [← hst] at hp3
        have ST := hid hst
        have HP3 := hid hp3
        obtain ⟨en, hen⟩ : ∃ en, en = (scan l x).2 := ⟨_, rfl⟩
        rw [← hen] at hsc e2 E3 ⊢
        have q0 : wc.cell? ⟨pb, 0, none⟩ = some (.int .i64 st.state) := by simp [hp3.cell]
        have q2 : wc.cell? ⟨pb, 2, none⟩ = some (.int .i64 st.owner) := by simp [hp3.cell]
        have q3 : wc.cell? ⟨pb, 3, none⟩ = some (.int .i64 st.holder) := by simp [hp3.cell]
        have w4 : IntKind.i64.wrap (en + 1) = en + 1 := IntWalk.i64_in _ (by omega)
        have ERR := hid (fun (r : Int) (hr0 : r ≠ 0) (hr1 : ownedE o st = r) => show FirstAt (ownedE o) (valL l) a (a + c - 1) r from .inr ⟨hr0, x, hxa, by omega, by rw [← ST.out]; exact hr1, fun m m1 m2 => HZ.out m m1 m2 (by omega)⟩)
        clear e1 hb3 hs3 hp3 hst hen e3
        by_cases t1 : st.state ≠ 1
        · have f1 : (st.state != 1) = true := by simpa using t1
          have EQ := hid (show ownedE o st = 4 by rw [ownedE];  rw [if_pos t1])
          clear t1
          go_wp2
          refine bodyPost_ret (v := .int .i64 4) (by simp [results, Try.results107, go_sem]) rfl ⟨4, rfl, ERR.out 4 (by omega) EQ.out, HB3.out⟩
        · have t1' : st.state = 1 := by simpa using t1
          have f1 : (st.state != 1) = false := by simpa using t1
          clear t1
          by_cases t2 : st.owner ≠ o
          · have f2 : (st.owner != o) = true := by simpa using t2
            have EQ := hid (show ownedE o st = 8 by rw [ownedE]; rw [if_neg (by simp only [ne_eq, Decidable.not_not]; exact t1')]; rw [if_pos t2])
            clear t1'
            clear t2
            go_wp2
            refine bodyPost_ret (v := .int .i64 8) (by simp [results, Try.results107, go_sem]) rfl ⟨8, rfl, ERR.out 8 (by omega) EQ.out, HB3.out⟩
          · have t2' : st.owner = o := by simpa using t2
            have f2 : (st.owner != o) = false := by simpa using t2
            clear t2
            by_cases t3 : st.holder ≠ 0
            · have f3 : (st.holder != 0) = true := by simpa using t3
              have EQ := hid (show ownedE o st = 10 by rw [ownedE]; rw [if_neg (by simp only [ne_eq, Decidable.not_not]; exact t1')]; rw [if_neg (by simp only [ne_eq, Decidable.not_not]; exact t2')]; rw [if_pos t3])
              clear t1'
              clear t2'
              clear t3
              go_wp2
              refine bodyPost_ret (v := .int .i64 10) (by simp [results, Try.results107, go_sem]) rfl ⟨10, rfl, ERR.out 10 (by omega) EQ.out, HB3.out⟩
            · have t3' : st.holder = 0 := by simpa using t3
              have f3 : (st.holder != 0) = false := by simpa using t3
              clear t3
              have GO := hid (show ∀ m, a ≤ m → m < en + 1 → m ≤ a + c - 1 → ownedE o (valL l m) = 0 from fun m m1 m2 m3 => by
                by_cases hm : m < x
                · exact HZ.out m m1 hm m3
                · rw [E3.out m (by omega) (by omega), ← ST.out, ownedE]
                  rw [if_neg (by simp only [ne_eq, Decidable.not_not]; exact t1')]; rw [if_neg (by simp only [ne_eq, Decidable.not_not]; exact t2')]; rw [if_neg (by simp only [ne_eq, Decidable.not_not]; exact t3')])
              clear t1'
              clear t2'
              clear t3'
              go_wp2
              go_roundg (kk - 1)
              case measure => omega
              case rel => exact ⟨en + 1, rfl, by omega, by omega, by omega, GO.out, HB3.out, HS3.out⟩
    · have g1 : decide (x < a + c) = false := by simpa using hx
      have FI := hid (show FirstAt (ownedE o) (valL l) a (a + c - 1) 0 from .inl ⟨rfl, fun m m1 m2 => HZ.out m m1 (by omega) m2⟩)
      go_wp2
      refine bodyPost_ret (v := .int .i64 0) (by simp [results, Try.results107, go_sem]) rfl ⟨0, rfl, FI.out, HB.out⟩

set_option maxRecDepth 100000 in
set_option maxHeartbeats 4000000 in
theorem held_rcalls (w : World) (v : Value) (l : List Pc) (hv : RunsV 0 w v l) (hl : l.length ≤ 1000000) (hr : RunsP l) (a c : Int) (hac : 1 ≤ a ∧ 1 ≤ c ∧ a + c - 1 ≤ 1000000) (o : Int) :
    Calls Try.prog 108 #[v, .agg #[.int .i64 a, .int .i64 c], .int .i64 o] w fun e w' => ∃ r, e = .returned (.int .i64 r) ∧ FirstAt (heldE o) (valL l) a (a + c - 1) r ∧ Below w.heap.size w w' := by
  obtain ⟨p, cap, b, rfl, hp, hc⟩ := hv.cells
  obtain ⟨n, hn⟩ : ∃ n, n = l.length := ⟨_, rfl⟩
  rw [← hn] at hp hl ⊢
  have HP := hid hp
  have HC := hid hc
  have HN := hid hn
  have HR := hid hr
  have w1 : IntKind.i64.wrap (a + c) = a + c := IntWalk.i64_in _ (by omega)
  have C0 := hid (Cells.new w #[.int .i64 a, .int .i64 c] 37)
  have B0 := hid (show Below w.heap.size w (w.alloc (.cells #[.int .i64 a, .int .i64 c] 37)) from (Below.refl _ _).alloc (Nat.le_refl _) _)
  clear hp hc hn hr
  go_enter Try.func108, Try.ntmps108
  go_wp2_with fail
  go_loopg [7] (c.toNat) (fun k s7 wr => ∃ x : Int, s7 = .int .i64 x ∧ a ≤ x ∧ x ≤ 1000001 ∧ (x + k ≥ a + c) ∧ (∀ m, a ≤ m → m < x → m ≤ a + c - 1 → heldE o (valL l m) = 0) ∧ Below w.heap.size w wr ∧ Cells wr w.heap.size #[.int .i64 a, .int .i64 c] 37)
  case atStart => exact ⟨a, rfl, Int.le_refl _, by omega, by omega, fun m h1 h2 => by omega, B0.out, C0.out⟩
  case round =>
    obtain ⟨x, rfl, hxa, hxm, hxk, hz, hb, hcc⟩ := hrel
    have HZ := hid hz
    have HB := hid hb
    have CC := hid hcc
    have k0 : wr.cell? ⟨w.heap.size, 0, none⟩ = some (.int .i64 a) := by simp [hcc.cell]
    have k1 : wr.cell? ⟨w.heap.size, 1, none⟩ = some (.int .i64 c) := by simp [hcc.cell]
    have lz := hcc.lt
    clear hz hb hcc
    obtain ⟨kk, hkk⟩ : ∃ kk, kk = gk := ⟨_, rfl⟩
    by_cases hx : x < a + c
    · have g1 : decide (x < a + c) = true := by simpa using hx
      have hsc := scan_range HR.out (n := x) (by omega)
      go_upto_block 2 with fail
      have BA := hid (show Below w.heap.size w (wr.alloc (.cells #[.int .i64 0, .int .i64 0, .int .i64 0, .int .i64 0] 88)) from HB.out.alloc HB.out.size _)
      have CA := hid (Cells.new wr #[.int .i64 0, .int .i64 0, .int .i64 0, .int .i64 0] 88)
      have CS := hid (CC.out.alloc (.cells #[.int .i64 0, .int .i64 0, .int .i64 0, .int .i64 0] 88))
      obtain ⟨pb, hpb⟩ : ∃ pb, pb = wr.heap.size := ⟨_, rfl⟩
      have PB := hid hpb
      have hlp : w.heap.size < pb := by omega
      rw [← hpb] at CA ⊢
      clear k0 k1 lz hpb
      go_cut [9] (fun s9 wx => s9 = .int .i64 (scan l x).2 ∧ Below w.heap.size w wx ∧ Cells wx w.heap.size #[.int .i64 a, .int .i64 c] 37 ∧ Cells wx pb (scan l x).1.vals 88)
      case first =>
        go_wp2_with fail
        go_loopg [9, 10] n (fun k s9 s10 wr => ∃ i : Nat, i + k = n ∧ s10 = .int .i64 i ∧ s9 = .int .i64 (scan (l.take i) x).2 ∧ Below w.heap.size w wr ∧ Cells wr w.heap.size #[.int .i64 a, .int .i64 c] 37 ∧ Cells wr pb (scan (l.take i) x).1.vals 88)
        case atStart => exact ⟨0, by omega, rfl, rfl, BA.out, CS.out, CA.out⟩
        case round =>
          obtain ⟨i, hik, rfl, rfl, hb2, hs2, hp2⟩ := hrel
          have HB2 := hid hb2
          have HS2 := hid hs2
          have HP2 := hid hp2
          by_cases hi : i < n
          · have hil : i < l.length := by rw [← HN.out]; exact hi
            obtain ⟨rfl, _, hbl⟩ := HP.out (by omega)
            obtain ⟨c0, c1, c2, c3, c4, c5⟩ := HC.out i hil
            obtain ⟨r, hr⟩ : ∃ r, r = l[i] := ⟨_, rfl⟩
            rw [← hr] at c0 c1 c2 c3 c4 c5
            have d0 : wr.cell? ⟨b, i * 6, none⟩ = some (.int .i64 r.from_) := (hb2.cell (p := ⟨b, i * 6, none⟩) hbl).trans c0
            have d1 : wr.cell? ⟨b, i * 6 + 1, none⟩ = some (.int .i64 r.to) := (hb2.cell (p := ⟨b, i * 6 + 1, none⟩) hbl).trans c1
            have d2 : wr.cell? ⟨b, i * 6 + 2, none⟩ = some (.int .i64 r.cell.state) := (hb2.cell (p := ⟨b, i * 6 + 2, none⟩) hbl).trans c2
            have d3 : wr.cell? ⟨b, i * 6 + 3, none⟩ = some (.int .i64 r.cell.lot) := (hb2.cell (p := ⟨b, i * 6 + 3, none⟩) hbl).trans c3
            have d4 : wr.cell? ⟨b, i * 6 + 4, none⟩ = some (.int .i64 r.cell.owner) := (hb2.cell (p := ⟨b, i * 6 + 4, none⟩) hbl).trans c4
            have d5 : wr.cell? ⟨b, i * 6 + 5, none⟩ = some (.int .i64 r.cell.holder) := (hb2.cell (p := ⟨b, i * 6 + 5, none⟩) hbl).trans c5
            have lp := hp2.lt
            have fz : ∀ j, wr.frozen? ⟨pb, j, none⟩ = false := fun j => hp2.frozen j
            have q0 : ∃ u, wr.cell? ⟨pb, 0, none⟩ = some u := ⟨_, by simp [hp2.cell]; rfl⟩
            have SC := hid (show scan (l.take (i + 1)) x = if r.from_ ≤ x ∧ x ≤ r.to then (r.cell, r.to) else scan (l.take i) x by rw [List.take_succ_eq_append_getElem hil, scan_snoc, ← hr, scanS])
            have i64 : IntKind.i64.wrap ((i : Int) + 1) = (i : Int) + 1 := IntWalk.i64_in _ (by omega)
            have g2 : decide ((i : Int) < (n : Int)) = true := by simpa using hi
            clear c0 c1 c2 c3 c4 c5 hr hb2 hs2 hp2 q0
            obtain ⟨sc, hsc'⟩ : ∃ sc, sc = scan (l.take i) x := ⟨_, rfl⟩
            rw [← hsc'] at HP2 SC ⊢
            clear hsc'
            obtain ⟨⟨s1, s2, s3, s4⟩, s5⟩ := sc
            by_cases h1 : r.from_ ≤ x
            · have g3 : decide (r.from_ ≤ x) = true := by simpa using h1
              by_cases h2 : x ≤ r.to
              · have g4 : decide (x ≤ r.to) = true := by simpa using h2
                have q0 : wr.cell? ⟨pb, 0, none⟩ = some (.int .i64 s1) := by simp [HP2.out.cell]
                have q1 : wr.cell? ⟨pb, 1, none⟩ = some (.int .i64 s2) := by simp [HP2.out.cell]
                have q2 : wr.cell? ⟨pb, 2, none⟩ = some (.int .i64 s3) := by simp [HP2.out.cell]
                have q3 : wr.cell? ⟨pb, 3, none⟩ = some (.int .i64 s4) := by simp [HP2.out.cell]
                go_wp2
                have hs := (((HP2.out.set 0 (.int .i64 r.cell.state)).set 1 (.int .i64 r.cell.lot)).set 2 (.int .i64 r.cell.owner)).set 3 (.int .i64 r.cell.holder)
                have bs := (((HB2.out.setCell (p := ⟨pb, 0, none⟩) (Nat.le_of_lt hlp) (.int .i64 r.cell.state)).setCell (p := ⟨pb, 1, none⟩) (Nat.le_of_lt hlp) (.int .i64 r.cell.lot)).setCell (p := ⟨pb, 2, none⟩) (Nat.le_of_lt hlp) (.int .i64 r.cell.owner)).setCell (p := ⟨pb, 3, none⟩) (Nat.le_of_lt hlp) (.int .i64 r.cell.holder)
                have cs := (((HS2.out.set_far 0 (.int .i64 r.cell.state) (C := pb) (by omega)).set_far 1 (.int .i64 r.cell.lot) (C := pb) (by omega)).set_far 2 (.int .i64 r.cell.owner) (C := pb) (by omega)).set_far 3 (.int .i64 r.cell.holder) (C := pb) (by omega)
                go_roundg (gk - 1)
                case measure => omega
                case rel => exact ⟨i + 1, by omega, rfl, by rw [SC.out, if_pos ⟨h1, h2⟩], bs, cs, by rw [SC.out, if_pos ⟨h1, h2⟩]; exact hs⟩
              · have g4 : decide (x ≤ r.to) = false := by simpa using h2
                have g5 : decide (r.to < x) = true := by simp; omega
                clear h2
                go_wp2
                go_roundg (gk - 1)
                case measure => omega
                case rel => exact ⟨i + 1, by omega, rfl, by rw [SC.out, if_neg (by simp at g5; omega)], HB2.out, HS2.out, by rw [SC.out, if_neg (by simp at g5; omega)]; exact HP2.out⟩
            · have g3 : decide (r.from_ ≤ x) = false := by simpa using h1
              have g5 : decide (x < r.from_) = true := by simp; omega
              clear h1
              go_wp2
              go_roundg (gk - 1)
              case measure => omega
              case rel => exact ⟨i + 1, by omega, rfl, by rw [SC.out, if_neg (by simp at g5; omega)], HB2.out, HS2.out, by rw [SC.out, if_neg (by simp at g5; omega)]; exact HP2.out⟩
          · have g2 : decide ((i : Int) < (n : Int)) = false := by simpa using hi
            have hln : l.take i = l := List.take_of_length_le (by have := HN.out; omega)
            rw [hln] at HP2 ⊢
            clear hln hb2 hs2 hp2
            go_wp2
            go_meet
            case rel => exact ⟨rfl, HB2.out, HS2.out, HP2.out⟩
      case rest =>
        obtain ⟨rfl, hb3, hs3, hp3⟩ := hcut
        obtain ⟨e1, e2, e3, _⟩ := scan_spec HR.out x
        rw [e1] at hp3
        have HB3 := hid hb3
        have HS3 := hid hs3
        have E3 := hid e3
        have lp := hp3.lt
        obtain ⟨st, hst⟩ : ∃ st, st = valL l x := ⟨_, rfl⟩
        rw [← hst] at hp3
        have ST := hid hst
        have HP3 := hid hp3
        obtain ⟨en, hen⟩ : ∃ en, en = (scan l x).2 := ⟨_, rfl⟩
        rw [← hen] at hsc e2 E3 ⊢
        have q0 : wc.cell? ⟨pb, 0, none⟩ = some (.int .i64 st.state) := by simp [hp3.cell]
        have q2 : wc.cell? ⟨pb, 2, none⟩ = some (.int .i64 st.owner) := by simp [hp3.cell]
        have q3 : wc.cell? ⟨pb, 3, none⟩ = some (.int .i64 st.holder) := by simp [hp3.cell]
        have w4 : IntKind.i64.wrap (en + 1) = en + 1 := IntWalk.i64_in _ (by omega)
        have ERR := hid (fun (r : Int) (hr0 : r ≠ 0) (hr1 : heldE o st = r) => show FirstAt (heldE o) (valL l) a (a + c - 1) r from .inr ⟨hr0, x, hxa, by omega, by rw [← ST.out]; exact hr1, fun m m1 m2 => HZ.out m m1 m2 (by omega)⟩)
        clear e1 hb3 hs3 hp3 hst hen e3
        by_cases t1 : st.state ≠ 1
        · have f1 : (st.state != 1) = true := by simpa using t1
          have EQ := hid (show heldE o st = 4 by rw [heldE];  rw [if_pos t1])
          clear t1
          go_wp2
          refine bodyPost_ret (v := .int .i64 4) (by simp [results, Try.results108, go_sem]) rfl ⟨4, rfl, ERR.out 4 (by omega) EQ.out, HB3.out⟩
        · have t1' : st.state = 1 := by simpa using t1
          have f1 : (st.state != 1) = false := by simpa using t1
          clear t1
          by_cases t2 : st.holder ≠ o
          · have f2 : (st.holder != o) = true := by simpa using t2
            have EQ := hid (show heldE o st = 10 by rw [heldE]; rw [if_neg (by simp only [ne_eq, Decidable.not_not]; exact t1')]; rw [if_pos t2])
            clear t1'
            clear t2
            go_wp2
            refine bodyPost_ret (v := .int .i64 10) (by simp [results, Try.results108, go_sem]) rfl ⟨10, rfl, ERR.out 10 (by omega) EQ.out, HB3.out⟩
          · have t2' : st.holder = o := by simpa using t2
            have f2 : (st.holder != o) = false := by simpa using t2
            clear t2
            have GO := hid (show ∀ m, a ≤ m → m < en + 1 → m ≤ a + c - 1 → heldE o (valL l m) = 0 from fun m m1 m2 m3 => by
              by_cases hm : m < x
              · exact HZ.out m m1 hm m3
              · rw [E3.out m (by omega) (by omega), ← ST.out, heldE]
                rw [if_neg (by simp only [ne_eq, Decidable.not_not]; exact t1')]; rw [if_neg (by simp only [ne_eq, Decidable.not_not]; exact t2')])
            clear t1'
            clear t2'
            go_wp2
            go_roundg (kk - 1)
            case measure => omega
            case rel => exact ⟨en + 1, rfl, by omega, by omega, by omega, GO.out, HB3.out, HS3.out⟩
    · have g1 : decide (x < a + c) = false := by simpa using hx
      have FI := hid (show FirstAt (heldE o) (valL l) a (a + c - 1) 0 from .inl ⟨rfl, fun m m1 m2 => HZ.out m m1 (by omega) m2⟩)
      go_wp2
      refine bodyPost_ret (v := .int .i64 0) (by simp [results, Try.results108, go_sem]) rfl ⟨0, rfl, FI.out, HB.out⟩
end Go.Proofs.Ytnnbdjfeagcbdaa
namespace Go.Proofs.Ytnnbdjfeagcbdaa
set_option linter.unusedSimpArgs false
set_option linter.unusedVariables false
open Go.RowKit Go.Shelf
attribute [local go_sem] Oper.semAt_some

theorem RunsP.inR {l : List Pc} (h : RunsP l) : InR l := fun q hq => by have := (h.good q hq).le; omega
theorem RefAt.agg {w : World} {v : Value} {xs : List (List Pc)} (h : RefAt w v xs) : ∃ b n cap, v = .agg #[.slice (some ⟨b, 0, none⟩) n cap] := by
  obtain ⟨_, _, _, _, hv, _⟩ := h
  exact ⟨_, _, _, hv⟩
/-- What a change of the reference comes to: an error, or the next version. -/
def RefStep (w : World) (xs : List (List Pc)) (ok : Bool) (R : Int → Prop) (new : List Pc) (e : Ending) (w' : World) : Prop :=
  ∃ (r : Int) (v' : Value) (ys : List (List Pc)), e = .returned (.tuple #[v', .int .i64 r]) ∧ RefAt w' v' ys ∧ Below w.heap.size w w' ∧ (ok = false → r = 1) ∧ (ok = true → R r) ∧ (r ≠ 0 → ys = xs) ∧ (r = 0 → ys = xs ++ [new])
/-- Within such a change: the register, the span, the result. -/
structure RfSt (w : World) (s : Value) (a c : Int) (wx : World) : Prop where
  below : Below w.heap.size w wx
  c4 : Cells wx w.heap.size #[s] 58
  c5 : Cells wx (w.heap.size + 1) #[.int .i64 a, .int .i64 c] 37
  c8 : Cells wx (w.heap.size + 1 + 1) #[.slice none 0 0] 58
theorem RfSt.start (w : World) (s : Value) (a c : Int) : RfSt w s a c (((w.alloc (.cells #[s] 58)).alloc (.cells #[.int .i64 a, .int .i64 c] 37)).alloc (.cells #[.slice none 0 0] 58)) := by
  refine ⟨(((Below.refl _ _).alloc (Nat.le_refl _) _).alloc (by simp) _).alloc (by simp; omega) _, ((Cells.new w _ _).alloc _).alloc _, ?_, ?_⟩
  · have := Cells.new (w.alloc (.cells #[s] 58)) #[.int .i64 a, .int .i64 c] 37
    rw [World.size_alloc] at this
    exact this.alloc _
  · have := Cells.new ((w.alloc (.cells #[s] 58)).alloc (.cells #[.int .i64 a, .int .i64 c] 37)) #[.slice none 0 0] 58
    rwa [World.size_alloc, World.size_alloc] at this
theorem RfSt.after {w : World} {s : Value} {a c : Int} {wx wy : World} (h : RfSt w s a c wx) (hb : Below wx.heap.size wx wy) : RfSt w s a c wy :=
  ⟨h.below.trans (hb.mono h.below.size), h.c4.below hb h.c4.lt, h.c5.below hb h.c5.lt, h.c8.below hb h.c8.lt⟩
theorem RfSt.facts {w : World} {s : Value} {a c : Int} {wx : World} (h : RfSt w s a c wx) : wx.cell? ⟨w.heap.size, 0, none⟩ = some s ∧ wx.cell? ⟨w.heap.size + 1, 0, none⟩ = some (.int .i64 a) ∧ wx.cell? ⟨w.heap.size + 1, 1, none⟩ = some (.int .i64 c) := by
  refine ⟨?_, ?_, ?_⟩ <;> simp [h.c4.cell, h.c5.cell]
theorem RfSt.res {w : World} {s : Value} {a c : Int} {wx : World} (h : RfSt w s a c wx) : wx.cell? ⟨w.heap.size + 1 + 1, 0, none⟩ = some (.slice none 0 0) ∧ wx.frozen? ⟨w.heap.size + 1 + 1, 0, none⟩ = false ∧ w.heap.size + 1 + 1 < wx.heap.size := by
  refine ⟨?_, h.c8.frozen 0, h.c8.lt⟩
  simp [h.c8.cell]
theorem RfSt.fin {w : World} {s : Value} {a c : Int} {wx : World} (h : RfSt w s a c wx) (u : Value) : Below w.heap.size w (wx.setCell ⟨w.heap.size + 1 + 1, 0, none⟩ u) ∧ Cells (wx.setCell ⟨w.heap.size + 1 + 1, 0, none⟩ u) (w.heap.size + 1 + 1) #[u] 58 :=
  ⟨h.below.setCell (p := ⟨w.heap.size + 1 + 1, 0, none⟩) (by simp; omega) _, h.c8.set 0 u⟩
theorem RfSt.far {w : World} {s : Value} {a c : Int} {wx : World} (h : RfSt w s a c wx) (u : Value) : (wx.setCell ⟨w.heap.size + 1 + 1, 0, none⟩ u).cell? ⟨w.heap.size, 0, none⟩ = some s ∧ (wx.setCell ⟨w.heap.size + 1 + 1, 0, none⟩ u).cell? ⟨w.heap.size + 1, 0, none⟩ = some (.int .i64 a) ∧ (wx.setCell ⟨w.heap.size + 1 + 1, 0, none⟩ u).cell? ⟨w.heap.size + 1, 1, none⟩ = some (.int .i64 c) := by
  have c4 := h.c4.set_far (C := w.heap.size + 1 + 1) 0 u (by omega)
  have c5 := h.c5.set_far (C := w.heap.size + 1 + 1) 0 u (by omega)
  refine ⟨?_, ?_, ?_⟩ <;> simp [c4.cell, c5.cell]
theorem RefAt.set {w : World} {v : Value} {xs : List (List Pc)} (h : RefAt w v xs) {B : Nat} {cs : Array Value} (hc : Cells w B cs 58) (u : Value) : RefAt (w.setCell ⟨B, 0, none⟩ u) v xs :=
  h.keep (fun b cs hh => Below.heap_setCell w ⟨B, 0, none⟩ u b (fun e => by have e' : b = B := e; subst e'; exact absurd (cells_type hc hh) (by decide)))
    (fun b cs hh => Below.heap_setCell w ⟨B, 0, none⟩ u b (fun e => by have e' : b = B := e; subst e'; exact absurd (cells_type hc hh) (by decide)))

set_option maxRecDepth 100000 in
set_option maxHeartbeats 4000000 in
theorem move_rcalls (w : World) (v : Value) (xs : List (List Pc)) (hv : RefAt w v xs) (hn : xs.length ≤ 1000) (l : List Pc) (hl : xs.getLast? = some l) (hr : RunsP l) (hln : l.length ≤ 1000000) (a c o tt : Int) :
    Calls Try.prog 71 #[v, .agg #[.int .i64 a, .int .i64 c], .int .i64 o, .int .i64 tt] w (RefStep w xs (okSpan a c && (inB 1000 o && (inB 1000 tt && !decide (o = tt)))) (fun r => FirstAt (ownedE o) (valL l) a (a + c - 1) r) (changeR false a (a + c - 1) ⟨0, 0, tt, 0⟩ (changedC 1 ⟨0, 0, tt, 0⟩) l)) := by
  have RV := hid hv
  have HR := hid hr
  have HL := hid hl
  obtain ⟨bs, ns, cs, rfl⟩ := hv.agg
  have S0 := hid (RfSt.start w (.slice (some ⟨bs, 0, none⟩) ns cs) a c)
  clear hv hr hl
  go_enter Try.func71, Try.ntmps71
  go_wp2_with fail
  refine (valid_rcalls a c _).mono ?_
  rintro e w1 ⟨rfl, hb1⟩
  have S1 := hid (S0.out.after hb1)
  obtain ⟨z0, z1, z2⟩ := S1.out.facts
  obtain ⟨y0, y1, y2⟩ := S1.out.res
  clear hb1 S0
  rcases Bool.eq_false_or_eq_true (okSpan a c) with hq1 | hq1
  rotate_left
  · rw [hq1]
    go_wp2
    have f := S1.out.fin (.slice (some ⟨bs, 0, none⟩) ns cs)
    refine bodyPost_ret (v := .tuple #[.agg #[.slice (some ⟨bs, 0, none⟩) ns cs], .int .i64 1]) (by simp [results, Try.results71, go_sem, f.2.cell]) rfl ⟨1, .agg #[.slice (some ⟨bs, 0, none⟩) ns cs], xs, rfl, RV.out.below f.1, f.1, fun _ => rfl, fun e => absurd e (by simp [hq1]), fun _ => rfl, fun e => absurd e (by decide)⟩
  · rw [hq1]
    go_wp2_with fail
    refine (member_r_calls o _).mono ?_
    rintro e w2 ⟨rfl, hw2⟩
    rw [hw2]
    clear hw2
    rcases Bool.eq_false_or_eq_true (inB 1000 o) with hq2 | hq2
    rotate_left
    · rw [hq2]
      go_wp2
      have f := S1.out.fin (.slice (some ⟨bs, 0, none⟩) ns cs)
      refine bodyPost_ret (v := .tuple #[.agg #[.slice (some ⟨bs, 0, none⟩) ns cs], .int .i64 1]) (by simp [results, Try.results71, go_sem, f.2.cell]) rfl ⟨1, .agg #[.slice (some ⟨bs, 0, none⟩) ns cs], xs, rfl, RV.out.below f.1, f.1, fun _ => rfl, fun e => absurd e (by simp [hq1, hq2]), fun _ => rfl, fun e => absurd e (by decide)⟩
    · rw [hq2]
      go_wp2_with fail
      refine (member_r_calls tt _).mono ?_
      rintro e w2 ⟨rfl, hw2⟩
      rw [hw2]
      clear hw2
      rcases Bool.eq_false_or_eq_true (inB 1000 tt) with hq3 | hq3
      rotate_left
      · rw [hq3]
        go_wp2
        have f := S1.out.fin (.slice (some ⟨bs, 0, none⟩) ns cs)
        refine bodyPost_ret (v := .tuple #[.agg #[.slice (some ⟨bs, 0, none⟩) ns cs], .int .i64 1]) (by simp [results, Try.results71, go_sem, f.2.cell]) rfl ⟨1, .agg #[.slice (some ⟨bs, 0, none⟩) ns cs], xs, rfl, RV.out.below f.1, f.1, fun _ => rfl, fun e => absurd e (by simp [hq1, hq2, hq3]), fun _ => rfl, fun e => absurd e (by decide)⟩
      · rw [hq3]
        by_cases hq4 : o = tt
        · have hz4 : (o == tt) = true := by simpa using hq4
          go_wp2
          have f := S1.out.fin (.slice (some ⟨bs, 0, none⟩) ns cs)
          refine bodyPost_ret (v := .tuple #[.agg #[.slice (some ⟨bs, 0, none⟩) ns cs], .int .i64 1]) (by simp [results, Try.results71, go_sem, f.2.cell]) rfl ⟨1, .agg #[.slice (some ⟨bs, 0, none⟩) ns cs], xs, rfl, RV.out.below f.1, f.1, fun _ => rfl, fun e => absurd e (by simp [hq1, hq2, hq3, hq4]), fun _ => rfl, fun e => absurd e (by decide)⟩
        · have hz4 : (o == tt) = false := by simpa using hq4
          have OK := hid (show (okSpan a c && (inB 1000 o && (inB 1000 tt && !decide (o = tt)))) = true by simp [hq1, hq2, hq3, hq4])
          have hac := (okSpan_iff a c).1 hq1
          have hwh : 1 ≤ 5 := by decide
          have z3 : w.heap.size < w1.heap.size := S1.out.c4.lt
          have z4 : w.heap.size + 1 < w1.heap.size := S1.out.c5.lt
          have RD := hid (RV.out.below S1.out.below.drew)
          go_wp2
          go_region_held3 (fun wh => wh.cell? ⟨w.heap.size, 0, none⟩ = some (.slice (some ⟨bs, 0, none⟩) ns cs) ∧ wh.cell? ⟨w.heap.size + 1, 0, none⟩ = some (.int .i64 a) ∧ wh.cell? ⟨w.heap.size + 1, 1, none⟩ = some (.int .i64 c))
            (first | assumption | go_keep)
            (first
              | ((go_at_call 32); (refine (last_rcalls _ (.agg #[.slice (some ⟨bs, 0, none⟩) ns cs]) xs RD.out hn l HL.out).mono ?_); rintro e w3 ⟨u, rfl, hu3, hb3⟩; have hbd3 : Below w1.heap.size w1 w3 := undrew hb3; have s3f := (S1.out.after hbd3).facts)
              | ((go_at_call 107); (refine (owned_rcalls _ u l hu3 hln HR.out a c hac o).mono ?_); rintro e w5 ⟨r, rfl, hfr, hb5⟩; have s5 := (S1.out.after hbd3).after hb5; have s5f := s5.facts))
          have S5 := hid s5
          have FR := hid hfr
          obtain ⟨y3, y4, y5⟩ := s5.res
          clear s5 hfr hb5 s3f hbd3 hb3 hu3 z0 z1 z2 z3 z4 y0 y1 y2 S1 RD
          by_cases hr0 : r = 0
          · have hr1 : (r != 0) = false := by simpa using hr0
            have HR0 := hid hr0
            clear hr0
            have z3 : w.heap.size < w5.heap.size := S5.out.c4.lt
            have z4 : w.heap.size + 1 < w5.heap.size := S5.out.c5.lt
            have RD := hid (RV.out.below S5.out.below.drew)
            go_wp2
            go_region_held3 (fun wh => wh.cell? ⟨w.heap.size, 0, none⟩ = some (.slice (some ⟨bs, 0, none⟩) ns cs) ∧ wh.cell? ⟨w.heap.size + 1, 0, none⟩ = some (.int .i64 a) ∧ wh.cell? ⟨w.heap.size + 1, 1, none⟩ = some (.int .i64 c))
              (first | assumption | go_keep)
              (first
                | ((go_at_call 32); (refine (last_rcalls _ (.agg #[.slice (some ⟨bs, 0, none⟩) ns cs]) xs RD.out hn l HL.out).mono ?_); rintro e w6 ⟨u6, rfl, hu6, hb6⟩; have hbd6 : Below w5.heap.size w5 w6 := undrew hb6; have s6 := S5.out.after hbd6; have s6f := s6.facts)
                | ((go_at_call 106); (refine (change_rcalls _ u6 l hu6 hln HR.out.inR a c hac 1 hwh ⟨0, 0, tt, 0⟩).mono ?_); rintro e w7 ⟨u7, rfl, hu7, hb7⟩; have s7 := s6.after hb7; have s7f := s7.facts)
                | ((go_at_call 105); (refine (next_rcalls _ (.agg #[.slice (some ⟨bs, 0, none⟩) ns cs]) xs (RV.out.below s7.below) hn u7 _ (hu7.mono (Nat.zero_le _))).mono ?_); rintro e w8 ⟨v8, rfl, hv8, hb8⟩; have s8 := s7.after hb8; obtain ⟨bt, nt, ct, rfl⟩ := hv8.agg; have s8f := s8.facts; have s9f := s8.far (.slice (some ⟨bt, 0, none⟩) nt ct); obtain ⟨x0, x1, x2⟩ := s8.res))
            have S8 := hid s8
            have V8 := hid hv8
            clear s8 hv8 s9f s6f s7f s8f s5f s6 s7 hb6 hb7 hb8 hbd6 hu6 hu7
            go_wp2
            have f := S8.out.fin (.slice (some ⟨bt, 0, none⟩) nt ct)
            refine bodyPost_ret (v := .tuple #[.agg #[.slice (some ⟨bt, 0, none⟩) nt ct], .int .i64 0]) (by simp [results, Try.results71, go_sem, f.2.cell]) rfl ⟨0, .agg #[.slice (some ⟨bt, 0, none⟩) nt ct], _, rfl, V8.out.set S8.out.c8 (.slice (some ⟨bt, 0, none⟩) nt ct), f.1, fun _ => absurd OK.out (by simp_all), fun _ => by rw [← HR0.out]; exact FR.out, fun e => absurd rfl e, fun _ => rfl⟩
          · have hr1 : (r != 0) = true := by simpa using hr0
            have HR0 := hid hr0
            clear hr0
            obtain ⟨z0, z1, z2⟩ := s5f
            go_wp2
            have f := S5.out.fin (.slice (some ⟨bs, 0, none⟩) ns cs)
            refine bodyPost_ret (v := .tuple #[.agg #[.slice (some ⟨bs, 0, none⟩) ns cs], .int .i64 r]) (by simp [results, Try.results71, go_sem, f.2.cell]) rfl ⟨r, .agg #[.slice (some ⟨bs, 0, none⟩) ns cs], xs, rfl, RV.out.below f.1, f.1, fun e => absurd OK.out (by rw [e]; decide), fun _ => FR.out, fun _ => rfl, fun e => absurd e HR0.out⟩

set_option maxRecDepth 100000 in
set_option maxHeartbeats 4000000 in
theorem pledge_rcalls (w : World) (v : Value) (xs : List (List Pc)) (hv : RefAt w v xs) (hn : xs.length ≤ 1000) (l : List Pc) (hl : xs.getLast? = some l) (hr : RunsP l) (hln : l.length ≤ 1000000) (a c o tt : Int) :
    Calls Try.prog 72 #[v, .agg #[.int .i64 a, .int .i64 c], .int .i64 o, .int .i64 tt] w (RefStep w xs (okSpan a c && (inB 1000 o && inB 1000 tt)) (fun r => FirstAt (ownedE o) (valL l) a (a + c - 1) r) (changeR false a (a + c - 1) ⟨0, 0, 0, tt⟩ (changedC 2 ⟨0, 0, 0, tt⟩) l)) := by
  have RV := hid hv
  have HR := hid hr
  have HL := hid hl
  obtain ⟨bs, ns, cs, rfl⟩ := hv.agg
  have S0 := hid (RfSt.start w (.slice (some ⟨bs, 0, none⟩) ns cs) a c)
  clear hv hr hl
  go_enter Try.func72, Try.ntmps72
  go_wp2_with fail
  refine (valid_rcalls a c _).mono ?_
  rintro e w1 ⟨rfl, hb1⟩
  have S1 := hid (S0.out.after hb1)
  obtain ⟨z0, z1, z2⟩ := S1.out.facts
  obtain ⟨y0, y1, y2⟩ := S1.out.res
  clear hb1 S0
  rcases Bool.eq_false_or_eq_true (okSpan a c) with hq1 | hq1
  rotate_left
  · rw [hq1]
    go_wp2
    have f := S1.out.fin (.slice (some ⟨bs, 0, none⟩) ns cs)
    refine bodyPost_ret (v := .tuple #[.agg #[.slice (some ⟨bs, 0, none⟩) ns cs], .int .i64 1]) (by simp [results, Try.results72, go_sem, f.2.cell]) rfl ⟨1, .agg #[.slice (some ⟨bs, 0, none⟩) ns cs], xs, rfl, RV.out.below f.1, f.1, fun _ => rfl, fun e => absurd e (by simp [hq1]), fun _ => rfl, fun e => absurd e (by decide)⟩
  · rw [hq1]
    go_wp2_with fail
    refine (member_r_calls o _).mono ?_
    rintro e w2 ⟨rfl, hw2⟩
    rw [hw2]
    clear hw2
    rcases Bool.eq_false_or_eq_true (inB 1000 o) with hq2 | hq2
    rotate_left
    · rw [hq2]
      go_wp2
      have f := S1.out.fin (.slice (some ⟨bs, 0, none⟩) ns cs)
      refine bodyPost_ret (v := .tuple #[.agg #[.slice (some ⟨bs, 0, none⟩) ns cs], .int .i64 1]) (by simp [results, Try.results72, go_sem, f.2.cell]) rfl ⟨1, .agg #[.slice (some ⟨bs, 0, none⟩) ns cs], xs, rfl, RV.out.below f.1, f.1, fun _ => rfl, fun e => absurd e (by simp [hq1, hq2]), fun _ => rfl, fun e => absurd e (by decide)⟩
    · rw [hq2]
      go_wp2_with fail
      refine (member_r_calls tt _).mono ?_
      rintro e w2 ⟨rfl, hw2⟩
      rw [hw2]
      clear hw2
      rcases Bool.eq_false_or_eq_true (inB 1000 tt) with hq3 | hq3
      rotate_left
      · rw [hq3]
        go_wp2
        have f := S1.out.fin (.slice (some ⟨bs, 0, none⟩) ns cs)
        refine bodyPost_ret (v := .tuple #[.agg #[.slice (some ⟨bs, 0, none⟩) ns cs], .int .i64 1]) (by simp [results, Try.results72, go_sem, f.2.cell]) rfl ⟨1, .agg #[.slice (some ⟨bs, 0, none⟩) ns cs], xs, rfl, RV.out.below f.1, f.1, fun _ => rfl, fun e => absurd e (by simp [hq1, hq2, hq3]), fun _ => rfl, fun e => absurd e (by decide)⟩
      · rw [hq3]
        have OK := hid (show (okSpan a c && (inB 1000 o && inB 1000 tt)) = true by simp [hq1, hq2, hq3])
        have hac := (okSpan_iff a c).1 hq1
        have hwh : 2 ≤ 5 := by decide
        have z3 : w.heap.size < w1.heap.size := S1.out.c4.lt
        have z4 : w.heap.size + 1 < w1.heap.size := S1.out.c5.lt
        have RD := hid (RV.out.below S1.out.below.drew)
        go_wp2
        go_region_held3 (fun wh => wh.cell? ⟨w.heap.size, 0, none⟩ = some (.slice (some ⟨bs, 0, none⟩) ns cs) ∧ wh.cell? ⟨w.heap.size + 1, 0, none⟩ = some (.int .i64 a) ∧ wh.cell? ⟨w.heap.size + 1, 1, none⟩ = some (.int .i64 c))
          (first | assumption | go_keep)
          (first
            | ((go_at_call 32); (refine (last_rcalls _ (.agg #[.slice (some ⟨bs, 0, none⟩) ns cs]) xs RD.out hn l HL.out).mono ?_); rintro e w3 ⟨u, rfl, hu3, hb3⟩; have hbd3 : Below w1.heap.size w1 w3 := undrew hb3; have s3f := (S1.out.after hbd3).facts)
            | ((go_at_call 107); (refine (owned_rcalls _ u l hu3 hln HR.out a c hac o).mono ?_); rintro e w5 ⟨r, rfl, hfr, hb5⟩; have s5 := (S1.out.after hbd3).after hb5; have s5f := s5.facts))
        have S5 := hid s5
        have FR := hid hfr
        obtain ⟨y3, y4, y5⟩ := s5.res
        clear s5 hfr hb5 s3f hbd3 hb3 hu3 z0 z1 z2 z3 z4 y0 y1 y2 S1 RD
        by_cases hr0 : r = 0
        · have hr1 : (r != 0) = false := by simpa using hr0
          have HR0 := hid hr0
          clear hr0
          have z3 : w.heap.size < w5.heap.size := S5.out.c4.lt
          have z4 : w.heap.size + 1 < w5.heap.size := S5.out.c5.lt
          have RD := hid (RV.out.below S5.out.below.drew)
          go_wp2
          go_region_held3 (fun wh => wh.cell? ⟨w.heap.size, 0, none⟩ = some (.slice (some ⟨bs, 0, none⟩) ns cs) ∧ wh.cell? ⟨w.heap.size + 1, 0, none⟩ = some (.int .i64 a) ∧ wh.cell? ⟨w.heap.size + 1, 1, none⟩ = some (.int .i64 c))
            (first | assumption | go_keep)
            (first
              | ((go_at_call 32); (refine (last_rcalls _ (.agg #[.slice (some ⟨bs, 0, none⟩) ns cs]) xs RD.out hn l HL.out).mono ?_); rintro e w6 ⟨u6, rfl, hu6, hb6⟩; have hbd6 : Below w5.heap.size w5 w6 := undrew hb6; have s6 := S5.out.after hbd6; have s6f := s6.facts)
              | ((go_at_call 106); (refine (change_rcalls _ u6 l hu6 hln HR.out.inR a c hac 2 hwh ⟨0, 0, 0, tt⟩).mono ?_); rintro e w7 ⟨u7, rfl, hu7, hb7⟩; have s7 := s6.after hb7; have s7f := s7.facts)
              | ((go_at_call 105); (refine (next_rcalls _ (.agg #[.slice (some ⟨bs, 0, none⟩) ns cs]) xs (RV.out.below s7.below) hn u7 _ (hu7.mono (Nat.zero_le _))).mono ?_); rintro e w8 ⟨v8, rfl, hv8, hb8⟩; have s8 := s7.after hb8; obtain ⟨bt, nt, ct, rfl⟩ := hv8.agg; have s8f := s8.facts; have s9f := s8.far (.slice (some ⟨bt, 0, none⟩) nt ct); obtain ⟨x0, x1, x2⟩ := s8.res))
          have S8 := hid s8
          have V8 := hid hv8
          clear s8 hv8 s9f s6f s7f s8f s5f s6 s7 hb6 hb7 hb8 hbd6 hu6 hu7
          go_wp2
          have f := S8.out.fin (.slice (some ⟨bt, 0, none⟩) nt ct)
          refine bodyPost_ret (v := .tuple #[.agg #[.slice (some ⟨bt, 0, none⟩) nt ct], .int .i64 0]) (by simp [results, Try.results72, go_sem, f.2.cell]) rfl ⟨0, .agg #[.slice (some ⟨bt, 0, none⟩) nt ct], _, rfl, V8.out.set S8.out.c8 (.slice (some ⟨bt, 0, none⟩) nt ct), f.1, fun _ => absurd OK.out (by simp_all), fun _ => by rw [← HR0.out]; exact FR.out, fun e => absurd rfl e, fun _ => rfl⟩
        · have hr1 : (r != 0) = true := by simpa using hr0
          have HR0 := hid hr0
          clear hr0
          obtain ⟨z0, z1, z2⟩ := s5f
          go_wp2
          have f := S5.out.fin (.slice (some ⟨bs, 0, none⟩) ns cs)
          refine bodyPost_ret (v := .tuple #[.agg #[.slice (some ⟨bs, 0, none⟩) ns cs], .int .i64 r]) (by simp [results, Try.results72, go_sem, f.2.cell]) rfl ⟨r, .agg #[.slice (some ⟨bs, 0, none⟩) ns cs], xs, rfl, RV.out.below f.1, f.1, fun e => absurd OK.out (by rw [e]; decide), fun _ => FR.out, fun _ => rfl, fun e => absurd e HR0.out⟩

set_option maxRecDepth 100000 in
set_option maxHeartbeats 4000000 in
theorem release_rcalls (w : World) (v : Value) (xs : List (List Pc)) (hv : RefAt w v xs) (hn : xs.length ≤ 1000) (l : List Pc) (hl : xs.getLast? = some l) (hr : RunsP l) (hln : l.length ≤ 1000000) (a c o : Int) :
    Calls Try.prog 73 #[v, .agg #[.int .i64 a, .int .i64 c], .int .i64 o] w (RefStep w xs (okSpan a c && inB 1000 o) (fun r => FirstAt (heldE o) (valL l) a (a + c - 1) r) (changeR false a (a + c - 1) ⟨0, 0, 0, 0⟩ (changedC 3 ⟨0, 0, 0, 0⟩) l)) := by
  have RV := hid hv
  have HR := hid hr
  have HL := hid hl
  obtain ⟨bs, ns, cs, rfl⟩ := hv.agg
  have S0 := hid (RfSt.start w (.slice (some ⟨bs, 0, none⟩) ns cs) a c)
  clear hv hr hl
  go_enter Try.func73, Try.ntmps73
  go_wp2_with fail
  refine (valid_rcalls a c _).mono ?_
  rintro e w1 ⟨rfl, hb1⟩
  have S1 := hid (S0.out.after hb1)
  obtain ⟨z0, z1, z2⟩ := S1.out.facts
  obtain ⟨y0, y1, y2⟩ := S1.out.res
  clear hb1 S0
  rcases Bool.eq_false_or_eq_true (okSpan a c) with hq1 | hq1
  rotate_left
  · rw [hq1]
    go_wp2
    have f := S1.out.fin (.slice (some ⟨bs, 0, none⟩) ns cs)
    refine bodyPost_ret (v := .tuple #[.agg #[.slice (some ⟨bs, 0, none⟩) ns cs], .int .i64 1]) (by simp [results, Try.results73, go_sem, f.2.cell]) rfl ⟨1, .agg #[.slice (some ⟨bs, 0, none⟩) ns cs], xs, rfl, RV.out.below f.1, f.1, fun _ => rfl, fun e => absurd e (by simp [hq1]), fun _ => rfl, fun e => absurd e (by decide)⟩
  · rw [hq1]
    go_wp2_with fail
    refine (member_r_calls o _).mono ?_
    rintro e w2 ⟨rfl, hw2⟩
    rw [hw2]
    clear hw2
    rcases Bool.eq_false_or_eq_true (inB 1000 o) with hq2 | hq2
    rotate_left
    · rw [hq2]
      go_wp2
      have f := S1.out.fin (.slice (some ⟨bs, 0, none⟩) ns cs)
      refine bodyPost_ret (v := .tuple #[.agg #[.slice (some ⟨bs, 0, none⟩) ns cs], .int .i64 1]) (by simp [results, Try.results73, go_sem, f.2.cell]) rfl ⟨1, .agg #[.slice (some ⟨bs, 0, none⟩) ns cs], xs, rfl, RV.out.below f.1, f.1, fun _ => rfl, fun e => absurd e (by simp [hq1, hq2]), fun _ => rfl, fun e => absurd e (by decide)⟩
    · rw [hq2]
      have OK := hid (show (okSpan a c && inB 1000 o) = true by simp [hq1, hq2])
      have hac := (okSpan_iff a c).1 hq1
      have hwh : 3 ≤ 5 := by decide
      have z3 : w.heap.size < w1.heap.size := S1.out.c4.lt
      have z4 : w.heap.size + 1 < w1.heap.size := S1.out.c5.lt
      have RD := hid (RV.out.below S1.out.below.drew)
      go_wp2
      go_region_held3 (fun wh => wh.cell? ⟨w.heap.size, 0, none⟩ = some (.slice (some ⟨bs, 0, none⟩) ns cs) ∧ wh.cell? ⟨w.heap.size + 1, 0, none⟩ = some (.int .i64 a) ∧ wh.cell? ⟨w.heap.size + 1, 1, none⟩ = some (.int .i64 c))
        (first | assumption | go_keep)
        (first
          | ((go_at_call 32); (refine (last_rcalls _ (.agg #[.slice (some ⟨bs, 0, none⟩) ns cs]) xs RD.out hn l HL.out).mono ?_); rintro e w3 ⟨u, rfl, hu3, hb3⟩; have hbd3 : Below w1.heap.size w1 w3 := undrew hb3; have s3f := (S1.out.after hbd3).facts)
          | ((go_at_call 108); (refine (held_rcalls _ u l hu3 hln HR.out a c hac o).mono ?_); rintro e w5 ⟨r, rfl, hfr, hb5⟩; have s5 := (S1.out.after hbd3).after hb5; have s5f := s5.facts))
      have S5 := hid s5
      have FR := hid hfr
      obtain ⟨y3, y4, y5⟩ := s5.res
      clear s5 hfr hb5 s3f hbd3 hb3 hu3 z0 z1 z2 z3 z4 y0 y1 y2 S1 RD
      by_cases hr0 : r = 0
      · have hr1 : (r != 0) = false := by simpa using hr0
        have HR0 := hid hr0
        clear hr0
        have z3 : w.heap.size < w5.heap.size := S5.out.c4.lt
        have z4 : w.heap.size + 1 < w5.heap.size := S5.out.c5.lt
        have RD := hid (RV.out.below S5.out.below.drew)
        go_wp2
        go_region_held3 (fun wh => wh.cell? ⟨w.heap.size, 0, none⟩ = some (.slice (some ⟨bs, 0, none⟩) ns cs) ∧ wh.cell? ⟨w.heap.size + 1, 0, none⟩ = some (.int .i64 a) ∧ wh.cell? ⟨w.heap.size + 1, 1, none⟩ = some (.int .i64 c))
          (first | assumption | go_keep)
          (first
            | ((go_at_call 32); (refine (last_rcalls _ (.agg #[.slice (some ⟨bs, 0, none⟩) ns cs]) xs RD.out hn l HL.out).mono ?_); rintro e w6 ⟨u6, rfl, hu6, hb6⟩; have hbd6 : Below w5.heap.size w5 w6 := undrew hb6; have s6 := S5.out.after hbd6; have s6f := s6.facts)
            | ((go_at_call 106); (refine (change_rcalls _ u6 l hu6 hln HR.out.inR a c hac 3 hwh ⟨0, 0, 0, 0⟩).mono ?_); rintro e w7 ⟨u7, rfl, hu7, hb7⟩; have s7 := s6.after hb7; have s7f := s7.facts)
            | ((go_at_call 105); (refine (next_rcalls _ (.agg #[.slice (some ⟨bs, 0, none⟩) ns cs]) xs (RV.out.below s7.below) hn u7 _ (hu7.mono (Nat.zero_le _))).mono ?_); rintro e w8 ⟨v8, rfl, hv8, hb8⟩; have s8 := s7.after hb8; obtain ⟨bt, nt, ct, rfl⟩ := hv8.agg; have s8f := s8.facts; have s9f := s8.far (.slice (some ⟨bt, 0, none⟩) nt ct); obtain ⟨x0, x1, x2⟩ := s8.res))
        have S8 := hid s8
        have V8 := hid hv8
        clear s8 hv8 s9f s6f s7f s8f s5f s6 s7 hb6 hb7 hb8 hbd6 hu6 hu7
        go_wp2
        have f := S8.out.fin (.slice (some ⟨bt, 0, none⟩) nt ct)
        refine bodyPost_ret (v := .tuple #[.agg #[.slice (some ⟨bt, 0, none⟩) nt ct], .int .i64 0]) (by simp [results, Try.results73, go_sem, f.2.cell]) rfl ⟨0, .agg #[.slice (some ⟨bt, 0, none⟩) nt ct], _, rfl, V8.out.set S8.out.c8 (.slice (some ⟨bt, 0, none⟩) nt ct), f.1, fun _ => absurd OK.out (by simp_all), fun _ => by rw [← HR0.out]; exact FR.out, fun e => absurd rfl e, fun _ => rfl⟩
      · have hr1 : (r != 0) = true := by simpa using hr0
        have HR0 := hid hr0
        clear hr0
        obtain ⟨z0, z1, z2⟩ := s5f
        go_wp2
        have f := S5.out.fin (.slice (some ⟨bs, 0, none⟩) ns cs)
        refine bodyPost_ret (v := .tuple #[.agg #[.slice (some ⟨bs, 0, none⟩) ns cs], .int .i64 r]) (by simp [results, Try.results73, go_sem, f.2.cell]) rfl ⟨r, .agg #[.slice (some ⟨bs, 0, none⟩) ns cs], xs, rfl, RV.out.below f.1, f.1, fun e => absurd OK.out (by rw [e]; decide), fun _ => FR.out, fun _ => rfl, fun e => absurd e HR0.out⟩

set_option maxRecDepth 100000 in
set_option maxHeartbeats 4000000 in
theorem seize_rcalls (w : World) (v : Value) (xs : List (List Pc)) (hv : RefAt w v xs) (hn : xs.length ≤ 1000) (l : List Pc) (hl : xs.getLast? = some l) (hr : RunsP l) (hln : l.length ≤ 1000000) (a c o : Int) :
    Calls Try.prog 74 #[v, .agg #[.int .i64 a, .int .i64 c], .int .i64 o] w (RefStep w xs (okSpan a c && inB 1000 o) (fun r => FirstAt (heldE o) (valL l) a (a + c - 1) r) (changeR false a (a + c - 1) ⟨0, 0, 0, 0⟩ (changedC 4 ⟨0, 0, 0, 0⟩) l)) := by
  have RV := hid hv
  have HR := hid hr
  have HL := hid hl
  obtain ⟨bs, ns, cs, rfl⟩ := hv.agg
  have S0 := hid (RfSt.start w (.slice (some ⟨bs, 0, none⟩) ns cs) a c)
  clear hv hr hl
  go_enter Try.func74, Try.ntmps74
  go_wp2_with fail
  refine (valid_rcalls a c _).mono ?_
  rintro e w1 ⟨rfl, hb1⟩
  have S1 := hid (S0.out.after hb1)
  obtain ⟨z0, z1, z2⟩ := S1.out.facts
  obtain ⟨y0, y1, y2⟩ := S1.out.res
  clear hb1 S0
  rcases Bool.eq_false_or_eq_true (okSpan a c) with hq1 | hq1
  rotate_left
  · rw [hq1]
    go_wp2
    have f := S1.out.fin (.slice (some ⟨bs, 0, none⟩) ns cs)
    refine bodyPost_ret (v := .tuple #[.agg #[.slice (some ⟨bs, 0, none⟩) ns cs], .int .i64 1]) (by simp [results, Try.results74, go_sem, f.2.cell]) rfl ⟨1, .agg #[.slice (some ⟨bs, 0, none⟩) ns cs], xs, rfl, RV.out.below f.1, f.1, fun _ => rfl, fun e => absurd e (by simp [hq1]), fun _ => rfl, fun e => absurd e (by decide)⟩
  · rw [hq1]
    go_wp2_with fail
    refine (member_r_calls o _).mono ?_
    rintro e w2 ⟨rfl, hw2⟩
    rw [hw2]
    clear hw2
    rcases Bool.eq_false_or_eq_true (inB 1000 o) with hq2 | hq2
    rotate_left
    · rw [hq2]
      go_wp2
      have f := S1.out.fin (.slice (some ⟨bs, 0, none⟩) ns cs)
      refine bodyPost_ret (v := .tuple #[.agg #[.slice (some ⟨bs, 0, none⟩) ns cs], .int .i64 1]) (by simp [results, Try.results74, go_sem, f.2.cell]) rfl ⟨1, .agg #[.slice (some ⟨bs, 0, none⟩) ns cs], xs, rfl, RV.out.below f.1, f.1, fun _ => rfl, fun e => absurd e (by simp [hq1, hq2]), fun _ => rfl, fun e => absurd e (by decide)⟩
    · rw [hq2]
      have OK := hid (show (okSpan a c && inB 1000 o) = true by simp [hq1, hq2])
      have hac := (okSpan_iff a c).1 hq1
      have hwh : 4 ≤ 5 := by decide
      have z3 : w.heap.size < w1.heap.size := S1.out.c4.lt
      have z4 : w.heap.size + 1 < w1.heap.size := S1.out.c5.lt
      have RD := hid (RV.out.below S1.out.below.drew)
      go_wp2
      go_region_held3 (fun wh => wh.cell? ⟨w.heap.size, 0, none⟩ = some (.slice (some ⟨bs, 0, none⟩) ns cs) ∧ wh.cell? ⟨w.heap.size + 1, 0, none⟩ = some (.int .i64 a) ∧ wh.cell? ⟨w.heap.size + 1, 1, none⟩ = some (.int .i64 c))
        (first | assumption | go_keep)
        (first
          | ((go_at_call 32); (refine (last_rcalls _ (.agg #[.slice (some ⟨bs, 0, none⟩) ns cs]) xs RD.out hn l HL.out).mono ?_); rintro e w3 ⟨u, rfl, hu3, hb3⟩; have hbd3 : Below w1.heap.size w1 w3 := undrew hb3; have s3f := (S1.out.after hbd3).facts)
          | ((go_at_call 108); (refine (held_rcalls _ u l hu3 hln HR.out a c hac o).mono ?_); rintro e w5 ⟨r, rfl, hfr, hb5⟩; have s5 := (S1.out.after hbd3).after hb5; have s5f := s5.facts))
      have S5 := hid s5
      have FR := hid hfr
      obtain ⟨y3, y4, y5⟩ := s5.res
      clear s5 hfr hb5 s3f hbd3 hb3 hu3 z0 z1 z2 z3 z4 y0 y1 y2 S1 RD
      by_cases hr0 : r = 0
      · have hr1 : (r != 0) = false := by simpa using hr0
        have HR0 := hid hr0
        clear hr0
        have z3 : w.heap.size < w5.heap.size := S5.out.c4.lt
        have z4 : w.heap.size + 1 < w5.heap.size := S5.out.c5.lt
        have RD := hid (RV.out.below S5.out.below.drew)
        go_wp2
        go_region_held3 (fun wh => wh.cell? ⟨w.heap.size, 0, none⟩ = some (.slice (some ⟨bs, 0, none⟩) ns cs) ∧ wh.cell? ⟨w.heap.size + 1, 0, none⟩ = some (.int .i64 a) ∧ wh.cell? ⟨w.heap.size + 1, 1, none⟩ = some (.int .i64 c))
          (first | assumption | go_keep)
          (first
            | ((go_at_call 32); (refine (last_rcalls _ (.agg #[.slice (some ⟨bs, 0, none⟩) ns cs]) xs RD.out hn l HL.out).mono ?_); rintro e w6 ⟨u6, rfl, hu6, hb6⟩; have hbd6 : Below w5.heap.size w5 w6 := undrew hb6; have s6 := S5.out.after hbd6; have s6f := s6.facts)
            | ((go_at_call 106); (refine (change_rcalls _ u6 l hu6 hln HR.out.inR a c hac 4 hwh ⟨0, 0, 0, 0⟩).mono ?_); rintro e w7 ⟨u7, rfl, hu7, hb7⟩; have s7 := s6.after hb7; have s7f := s7.facts)
            | ((go_at_call 105); (refine (next_rcalls _ (.agg #[.slice (some ⟨bs, 0, none⟩) ns cs]) xs (RV.out.below s7.below) hn u7 _ (hu7.mono (Nat.zero_le _))).mono ?_); rintro e w8 ⟨v8, rfl, hv8, hb8⟩; have s8 := s7.after hb8; obtain ⟨bt, nt, ct, rfl⟩ := hv8.agg; have s8f := s8.facts; have s9f := s8.far (.slice (some ⟨bt, 0, none⟩) nt ct); obtain ⟨x0, x1, x2⟩ := s8.res))
        have S8 := hid s8
        have V8 := hid hv8
        clear s8 hv8 s9f s6f s7f s8f s5f s6 s7 hb6 hb7 hb8 hbd6 hu6 hu7
        go_wp2
        have f := S8.out.fin (.slice (some ⟨bt, 0, none⟩) nt ct)
        refine bodyPost_ret (v := .tuple #[.agg #[.slice (some ⟨bt, 0, none⟩) nt ct], .int .i64 0]) (by simp [results, Try.results74, go_sem, f.2.cell]) rfl ⟨0, .agg #[.slice (some ⟨bt, 0, none⟩) nt ct], _, rfl, V8.out.set S8.out.c8 (.slice (some ⟨bt, 0, none⟩) nt ct), f.1, fun _ => absurd OK.out (by simp_all), fun _ => by rw [← HR0.out]; exact FR.out, fun e => absurd rfl e, fun _ => rfl⟩
      · have hr1 : (r != 0) = true := by simpa using hr0
        have HR0 := hid hr0
        clear hr0
        obtain ⟨z0, z1, z2⟩ := s5f
        go_wp2
        have f := S5.out.fin (.slice (some ⟨bs, 0, none⟩) ns cs)
        refine bodyPost_ret (v := .tuple #[.agg #[.slice (some ⟨bs, 0, none⟩) ns cs], .int .i64 r]) (by simp [results, Try.results74, go_sem, f.2.cell]) rfl ⟨r, .agg #[.slice (some ⟨bs, 0, none⟩) ns cs], xs, rfl, RV.out.below f.1, f.1, fun e => absurd OK.out (by rw [e]; decide), fun _ => FR.out, fun _ => rfl, fun e => absurd e HR0.out⟩

set_option maxRecDepth 100000 in
set_option maxHeartbeats 4000000 in
theorem leave_rcalls (w : World) (v : Value) (xs : List (List Pc)) (hv : RefAt w v xs) (hn : xs.length ≤ 1000) (l : List Pc) (hl : xs.getLast? = some l) (hr : RunsP l) (hln : l.length ≤ 1000000) (a c o : Int) :
    Calls Try.prog 75 #[v, .agg #[.int .i64 a, .int .i64 c], .int .i64 o] w (RefStep w xs (okSpan a c && inB 1000 o) (fun r => FirstAt (ownedE o) (valL l) a (a + c - 1) r) (changeR false a (a + c - 1) ⟨0, 0, 0, 0⟩ (changedC 5 ⟨0, 0, 0, 0⟩) l)) := by
  have RV := hid hv
  have HR := hid hr
  have HL := hid hl
  obtain ⟨bs, ns, cs, rfl⟩ := hv.agg
  have S0 := hid (RfSt.start w (.slice (some ⟨bs, 0, none⟩) ns cs) a c)
  clear hv hr hl
  go_enter Try.func75, Try.ntmps75
  go_wp2_with fail
  refine (valid_rcalls a c _).mono ?_
  rintro e w1 ⟨rfl, hb1⟩
  have S1 := hid (S0.out.after hb1)
  obtain ⟨z0, z1, z2⟩ := S1.out.facts
  obtain ⟨y0, y1, y2⟩ := S1.out.res
  clear hb1 S0
  rcases Bool.eq_false_or_eq_true (okSpan a c) with hq1 | hq1
  rotate_left
  · rw [hq1]
    go_wp2
    have f := S1.out.fin (.slice (some ⟨bs, 0, none⟩) ns cs)
    refine bodyPost_ret (v := .tuple #[.agg #[.slice (some ⟨bs, 0, none⟩) ns cs], .int .i64 1]) (by simp [results, Try.results75, go_sem, f.2.cell]) rfl ⟨1, .agg #[.slice (some ⟨bs, 0, none⟩) ns cs], xs, rfl, RV.out.below f.1, f.1, fun _ => rfl, fun e => absurd e (by simp [hq1]), fun _ => rfl, fun e => absurd e (by decide)⟩
  · rw [hq1]
    go_wp2_with fail
    refine (member_r_calls o _).mono ?_
    rintro e w2 ⟨rfl, hw2⟩
    rw [hw2]
    clear hw2
    rcases Bool.eq_false_or_eq_true (inB 1000 o) with hq2 | hq2
    rotate_left
    · rw [hq2]
      go_wp2
      have f := S1.out.fin (.slice (some ⟨bs, 0, none⟩) ns cs)
      refine bodyPost_ret (v := .tuple #[.agg #[.slice (some ⟨bs, 0, none⟩) ns cs], .int .i64 1]) (by simp [results, Try.results75, go_sem, f.2.cell]) rfl ⟨1, .agg #[.slice (some ⟨bs, 0, none⟩) ns cs], xs, rfl, RV.out.below f.1, f.1, fun _ => rfl, fun e => absurd e (by simp [hq1, hq2]), fun _ => rfl, fun e => absurd e (by decide)⟩
    · rw [hq2]
      have OK := hid (show (okSpan a c && inB 1000 o) = true by simp [hq1, hq2])
      have hac := (okSpan_iff a c).1 hq1
      have hwh : 5 ≤ 5 := by decide
      have z3 : w.heap.size < w1.heap.size := S1.out.c4.lt
      have z4 : w.heap.size + 1 < w1.heap.size := S1.out.c5.lt
      have RD := hid (RV.out.below S1.out.below.drew)
      go_wp2
      go_region_held3 (fun wh => wh.cell? ⟨w.heap.size, 0, none⟩ = some (.slice (some ⟨bs, 0, none⟩) ns cs) ∧ wh.cell? ⟨w.heap.size + 1, 0, none⟩ = some (.int .i64 a) ∧ wh.cell? ⟨w.heap.size + 1, 1, none⟩ = some (.int .i64 c))
        (first | assumption | go_keep)
        (first
          | ((go_at_call 32); (refine (last_rcalls _ (.agg #[.slice (some ⟨bs, 0, none⟩) ns cs]) xs RD.out hn l HL.out).mono ?_); rintro e w3 ⟨u, rfl, hu3, hb3⟩; have hbd3 : Below w1.heap.size w1 w3 := undrew hb3; have s3f := (S1.out.after hbd3).facts)
          | ((go_at_call 107); (refine (owned_rcalls _ u l hu3 hln HR.out a c hac o).mono ?_); rintro e w5 ⟨r, rfl, hfr, hb5⟩; have s5 := (S1.out.after hbd3).after hb5; have s5f := s5.facts))
      have S5 := hid s5
      have FR := hid hfr
      obtain ⟨y3, y4, y5⟩ := s5.res
      clear s5 hfr hb5 s3f hbd3 hb3 hu3 z0 z1 z2 z3 z4 y0 y1 y2 S1 RD
      by_cases hr0 : r = 0
      · have hr1 : (r != 0) = false := by simpa using hr0
        have HR0 := hid hr0
        clear hr0
        have z3 : w.heap.size < w5.heap.size := S5.out.c4.lt
        have z4 : w.heap.size + 1 < w5.heap.size := S5.out.c5.lt
        have RD := hid (RV.out.below S5.out.below.drew)
        go_wp2
        go_region_held3 (fun wh => wh.cell? ⟨w.heap.size, 0, none⟩ = some (.slice (some ⟨bs, 0, none⟩) ns cs) ∧ wh.cell? ⟨w.heap.size + 1, 0, none⟩ = some (.int .i64 a) ∧ wh.cell? ⟨w.heap.size + 1, 1, none⟩ = some (.int .i64 c))
          (first | assumption | go_keep)
          (first
            | ((go_at_call 32); (refine (last_rcalls _ (.agg #[.slice (some ⟨bs, 0, none⟩) ns cs]) xs RD.out hn l HL.out).mono ?_); rintro e w6 ⟨u6, rfl, hu6, hb6⟩; have hbd6 : Below w5.heap.size w5 w6 := undrew hb6; have s6 := S5.out.after hbd6; have s6f := s6.facts)
            | ((go_at_call 106); (refine (change_rcalls _ u6 l hu6 hln HR.out.inR a c hac 5 hwh ⟨0, 0, 0, 0⟩).mono ?_); rintro e w7 ⟨u7, rfl, hu7, hb7⟩; have s7 := s6.after hb7; have s7f := s7.facts)
            | ((go_at_call 105); (refine (next_rcalls _ (.agg #[.slice (some ⟨bs, 0, none⟩) ns cs]) xs (RV.out.below s7.below) hn u7 _ (hu7.mono (Nat.zero_le _))).mono ?_); rintro e w8 ⟨v8, rfl, hv8, hb8⟩; have s8 := s7.after hb8; obtain ⟨bt, nt, ct, rfl⟩ := hv8.agg; have s8f := s8.facts; have s9f := s8.far (.slice (some ⟨bt, 0, none⟩) nt ct); obtain ⟨x0, x1, x2⟩ := s8.res))
        have S8 := hid s8
        have V8 := hid hv8
        clear s8 hv8 s9f s6f s7f s8f s5f s6 s7 hb6 hb7 hb8 hbd6 hu6 hu7
        go_wp2
        have f := S8.out.fin (.slice (some ⟨bt, 0, none⟩) nt ct)
        refine bodyPost_ret (v := .tuple #[.agg #[.slice (some ⟨bt, 0, none⟩) nt ct], .int .i64 0]) (by simp [results, Try.results75, go_sem, f.2.cell]) rfl ⟨0, .agg #[.slice (some ⟨bt, 0, none⟩) nt ct], _, rfl, V8.out.set S8.out.c8 (.slice (some ⟨bt, 0, none⟩) nt ct), f.1, fun _ => absurd OK.out (by simp_all), fun _ => by rw [← HR0.out]; exact FR.out, fun e => absurd rfl e, fun _ => rfl⟩
      · have hr1 : (r != 0) = true := by simpa using hr0
        have HR0 := hid hr0
        clear hr0
        obtain ⟨z0, z1, z2⟩ := s5f
        go_wp2
        have f := S5.out.fin (.slice (some ⟨bs, 0, none⟩) ns cs)
        refine bodyPost_ret (v := .tuple #[.agg #[.slice (some ⟨bs, 0, none⟩) ns cs], .int .i64 r]) (by simp [results, Try.results75, go_sem, f.2.cell]) rfl ⟨r, .agg #[.slice (some ⟨bs, 0, none⟩) ns cs], xs, rfl, RV.out.below f.1, f.1, fun e => absurd OK.out (by rw [e]; decide), fun _ => FR.out, fun _ => rfl, fun e => absurd e HR0.out⟩
end Go.Proofs.Ytnnbdjfeagcbdaa
namespace Go.Proofs.Ytnnbdjfeagcbdaa
set_option linter.unusedSimpArgs false
set_option linter.unusedVariables false
open Go.RowKit Go.Shelf
attribute [local go_sem] Oper.semAt_some

/-- Whether a pocket from a to b is not outside: error 5. -/
def AnyAt (e : Cl → Int) (val : Int → Cl) (a b r : Int) : Prop := (r = 0 ∧ ∀ n, a ≤ n → n ≤ b → e (val n) = 0) ∨ (r = 5 ∧ ∃ n, a ≤ n ∧ n ≤ b ∧ e (val n) = 5)
theorem enterE_two (c : Cl) : enterE c = 0 ∨ enterE c = 5 := by
  unfold enterE
  split
  · exact .inr rfl
  · exact .inl rfl
theorem any_first {val : Int → Cl} {a b r s : Int} (h1 : FirstAt enterE val a b r) (h2 : AnyAt enterE val a b s) : r = s := by
  rcases h1 with ⟨rfl, h1⟩ | ⟨hr, n, n1, n2, n3, n4⟩ <;> rcases h2 with ⟨rfl, h2⟩ | ⟨rfl, m, m1, m2, m3⟩
  · rfl
  · rw [h1 m m1 m2] at m3; omega
  · rw [h2 n n1 n2] at n3; exact absurd n3.symm hr
  · rcases enterE_two (val n) with h | h
    · rw [h] at n3; exact absurd n3.symm hr
    · rw [← n3, h]

set_option maxRecDepth 100000 in
set_option maxHeartbeats 4000000 in
theorem enter_rcalls (w : World) (v : Value) (xs : List (List Pc)) (hv : RefAt w v xs) (hn : xs.length ≤ 1000) (l : List Pc) (hl : xs.getLast? = some l) (hr : RunsP l) (hln : l.length ≤ 1000000) (a c lt o : Int) :
    Calls Try.prog 70 #[v, .agg #[.int .i64 a, .int .i64 c], .int .i64 lt, .int .i64 o] w (RefStep w xs (okSpan a c && (inB 1000000 lt && inB 1000 o)) (fun r => AnyAt enterE (valL l) a (a + c - 1) r) (changeR true a (a + c - 1) ⟨1, lt, o, 0⟩ (changedC 0 ⟨1, lt, o, 0⟩) l)) := by
  have RV := hid hv
  have HR := hid hr
  have HL := hid hl
  obtain ⟨bs, ns, cs, rfl⟩ := hv.agg
  have S0 := hid (RfSt.start w (.slice (some ⟨bs, 0, none⟩) ns cs) a c)
  clear hv hr hl
  go_enter Try.func70, Try.ntmps70
  go_wp2_with fail
  refine (valid_rcalls a c _).mono ?_
  rintro e w1 ⟨rfl, hb1⟩
  have S1 := hid (S0.out.after hb1)
  obtain ⟨z0, z1, z2⟩ := S1.out.facts
  obtain ⟨y0, y1, y2⟩ := S1.out.res
  clear hb1 S0
  rcases Bool.eq_false_or_eq_true (okSpan a c) with hq1 | hq1
  rotate_left
  · rw [hq1]
    go_wp2
    have f := S1.out.fin (.slice (some ⟨bs, 0, none⟩) ns cs)
    refine bodyPost_ret (v := .tuple #[.agg #[.slice (some ⟨bs, 0, none⟩) ns cs], .int .i64 1]) (by simp [results, Try.results70, go_sem, f.2.cell]) rfl ⟨1, .agg #[.slice (some ⟨bs, 0, none⟩) ns cs], xs, rfl, RV.out.below f.1, f.1, fun _ => rfl, fun e => absurd e (by simp [hq1]), fun _ => rfl, fun e => absurd e (by decide)⟩
  · rw [hq1]
    go_wp2_with fail
    refine (lot_r_calls lt _).mono ?_
    rintro e w2 ⟨rfl, hw2⟩
    rw [hw2]
    clear hw2
    rcases Bool.eq_false_or_eq_true (inB 1000000 lt) with hq2 | hq2
    rotate_left
    · rw [hq2]
      go_wp2
      have f := S1.out.fin (.slice (some ⟨bs, 0, none⟩) ns cs)
      refine bodyPost_ret (v := .tuple #[.agg #[.slice (some ⟨bs, 0, none⟩) ns cs], .int .i64 1]) (by simp [results, Try.results70, go_sem, f.2.cell]) rfl ⟨1, .agg #[.slice (some ⟨bs, 0, none⟩) ns cs], xs, rfl, RV.out.below f.1, f.1, fun _ => rfl, fun e => absurd e (by simp [hq1, hq2]), fun _ => rfl, fun e => absurd e (by decide)⟩
    · rw [hq2]
      go_wp2_with fail
      refine (member_r_calls o _).mono ?_
      rintro e w2 ⟨rfl, hw2⟩
      rw [hw2]
      clear hw2
      rcases Bool.eq_false_or_eq_true (inB 1000 o) with hq3 | hq3
      rotate_left
      · rw [hq3]
        go_wp2
        have f := S1.out.fin (.slice (some ⟨bs, 0, none⟩) ns cs)
        refine bodyPost_ret (v := .tuple #[.agg #[.slice (some ⟨bs, 0, none⟩) ns cs], .int .i64 1]) (by simp [results, Try.results70, go_sem, f.2.cell]) rfl ⟨1, .agg #[.slice (some ⟨bs, 0, none⟩) ns cs], xs, rfl, RV.out.below f.1, f.1, fun _ => rfl, fun e => absurd e (by simp [hq1, hq2, hq3]), fun _ => rfl, fun e => absurd e (by decide)⟩
      · rw [hq3]
        have OK := hid (show (okSpan a c && (inB 1000000 lt && inB 1000 o)) = true by simp [hq1, hq2, hq3])
        have hac := (okSpan_iff a c).1 hq1
        have w1' : IntKind.i64.wrap (a + c) = a + c := IntWalk.i64_in _ (by omega)
        go_wp2_with fail
        refine (last_rcalls _ (.agg #[.slice (some ⟨bs, 0, none⟩) ns cs]) xs (RV.out.below S1.out.below) hn l HL.out).mono ?_
        rintro e w3 ⟨u, rfl, hu3, hb3⟩
        have S3 := hid (S1.out.after hb3)
        have U3 := hid hu3
        obtain ⟨p, cap, b, rfl, hp, hc⟩ := hu3.cells
        obtain ⟨n, hnn⟩ : ∃ n, n = l.length := ⟨_, rfl⟩
        rw [← hnn] at hp hln U3 ⊢
        have HP := hid hp
        have HC := hid hc
        have HN := hid hnn
        have hz3 := S3.out.below.size
        clear hp hc hnn hb3 hu3 z0 z1 z2 y0 y1 y2 S1
        go_wp2_with fail
        go_loopg [11] n (fun k s11 wr => ∃ i : Nat, i + k = n ∧ s11 = .int .i64 i ∧ Below w3.heap.size w3 wr ∧ ∀ q ∈ l.take i, q.to < a ∨ a + c ≤ q.from_)
        case atStart => exact ⟨0, by omega, rfl, Below.refl _ _, by simp⟩
        case round =>
          obtain ⟨i, hik, rfl, hb4, hno⟩ := hrel
          have NO := hid hno
          have S4 := hid (S3.out.after hb4)
          have B4 := hid hb4
          obtain ⟨z0, z1, z2⟩ := S4.out.facts
          by_cases hi : i < n
          · have hil : i < l.length := by rw [← HN.out]; exact hi
            obtain ⟨rfl, _, hbl⟩ := HP.out (by omega)
            obtain ⟨c0, c1, _⟩ := HC.out i hil
            obtain ⟨r, hr⟩ : ∃ r, r = l[i] := ⟨_, rfl⟩
            rw [← hr] at c0 c1
            have d0 : wr.cell? ⟨b, i * 6, none⟩ = some (.int .i64 r.from_) := (hb4.cell (p := ⟨b, i * 6, none⟩) hbl).trans c0
            have d1 : wr.cell? ⟨b, i * 6 + 1, none⟩ = some (.int .i64 r.to) := (hb4.cell (p := ⟨b, i * 6 + 1, none⟩) hbl).trans c1
            have i64 : IntKind.i64.wrap ((i : Int) + 1) = (i : Int) + 1 := IntWalk.i64_in _ (by omega)
            have g2 : decide ((i : Int) < (n : Int)) = true := by simpa using hi
            have TK := hid (show l.take (i + 1) = l.take i ++ [r] by rw [List.take_succ_eq_append_getElem hil, ← hr])
            have RM := hid (show r ∈ l by rw [hr]; exact List.getElem_mem hil)
            obtain ⟨y0, y1, y2⟩ := S4.out.res
            clear c0 c1 hr hb4 hno
            by_cases h1 : r.from_ < a + c
            · have g3 : decide (r.from_ < a + c) = true := by simpa using h1
              by_cases h2 : a ≤ r.to
              · have g4 : decide (a ≤ r.to) = true := by simpa using h2
                have ANY := hid (show AnyAt enterE (valL l) a (a + c - 1) 5 from .inr ⟨rfl, max a r.from_, by omega, by have := (HR.out.good r RM.out).le; omega, by
                  have gr := (HR.out.good r RM.out).le
                  rw [HR.out.val r RM.out (max a r.from_) (by omega) (by omega), enterE, if_pos (HR.out.state r RM.out)]⟩)
                clear h1 h2
                go_wp2
                go_big_quiet (fail)
                have S5 := hid (show RfSt w (.slice (some ⟨bs, 0, none⟩) ns cs) a c (wr.drewN nq) from S4.out.after (drewN_below (Below.refl _ _) nq))
                obtain ⟨x0, x1, x2⟩ := S5.out.facts
                obtain ⟨x3, x4, x5⟩ := S5.out.res
                go_wp2
                have f := S5.out.fin (.slice (some ⟨bs, 0, none⟩) ns cs)
                refine bodyPost_ret (v := .tuple #[.agg #[.slice (some ⟨bs, 0, none⟩) ns cs], .int .i64 5]) (by simp [results, Try.results70, go_sem, f.2.cell]) rfl ⟨5, .agg #[.slice (some ⟨bs, 0, none⟩) ns cs], xs, rfl, RV.out.below f.1, f.1, fun e => absurd OK.out (by rw [e]; decide), fun _ => ANY.out, fun _ => rfl, fun e => absurd e (by decide)⟩
              · have g4 : decide (a ≤ r.to) = false := by simpa using h2
                have g5 : r.to < a := by omega
                clear h2
                go_wp2
                go_big_quiet (fail)
                go_wp2
                go_roundg (gk - 1)
                case measure => omega
                case rel => exact ⟨i + 1, by omega, rfl, drewN_below B4.out nq, by rw [TK.out]; intro q hq; rcases List.mem_append.1 hq with h | h; exact NO.out q h; (rw [List.mem_singleton.1 h]; exact .inl g5)⟩
            · have g3 : decide (r.from_ < a + c) = false := by simpa using h1
              have g5 : a + c ≤ r.from_ := by omega
              clear h1
              go_wp2
              go_big_quiet (fail)
              go_wp2
              go_roundg (gk - 1)
              case measure => omega
              case rel => exact ⟨i + 1, by omega, rfl, drewN_below B4.out nq, by rw [TK.out]; intro q hq; rcases List.mem_append.1 hq with h | h; exact NO.out q h; (rw [List.mem_singleton.1 h]; exact .inr g5)⟩
          · have g2 : decide ((i : Int) < (n : Int)) = false := by simpa using hi
            have hln2 : l.take i = l := List.take_of_length_le (by have := HN.out; omega)
            rw [hln2] at NO
            have ANY := hid (show AnyAt enterE (valL l) a (a + c - 1) 0 from .inl ⟨rfl, fun m m1 m2 => by
              rw [valL_out (fun q hq hh => by have := NO.out q hq; omega)]; rfl⟩)
            have hwh : 0 ≤ 5 := by decide
            have z3 : w.heap.size < wr.heap.size := S4.out.c4.lt
            have z4 : w.heap.size + 1 < wr.heap.size := S4.out.c5.lt
            have U4 := hid (U3.out.below B4.out)
            have UD := hid (show RunsV 0 wr.drew (.slice p n cap) l from U4.out.drew)
            have hlb : l.length ≤ 1000000 := by have := HN.out; omega
            have hnn0 : RunsV 0 wr.drew (.slice p n cap) l := UD.out
            clear hno hb4 hln2 hnn0
            go_wp2
            go_region_held3 (fun wh => wh.cell? ⟨w.heap.size, 0, none⟩ = some (.slice (some ⟨bs, 0, none⟩) ns cs) ∧ wh.cell? ⟨w.heap.size + 1, 0, none⟩ = some (.int .i64 a) ∧ wh.cell? ⟨w.heap.size + 1, 1, none⟩ = some (.int .i64 c))
              (first | assumption | go_keep)
              (first
                | ((go_at_call 106); (refine (change_rcalls _ (.slice p n cap) l UD.out hlb HR.out.inR a c hac 0 hwh ⟨1, lt, o, 0⟩).mono ?_); rintro e w7 ⟨u7, rfl, hu7, hb7⟩; have hbd7 : Below wr.heap.size wr w7 := undrew hb7; have s7 := S4.out.after hbd7; have s7f := s7.facts)
                | ((go_at_call 105); (refine (next_rcalls _ (.agg #[.slice (some ⟨bs, 0, none⟩) ns cs]) xs (RV.out.below s7.below) hn u7 _ (hu7.mono (Nat.zero_le _))).mono ?_); rintro e w8 ⟨v8, rfl, hv8, hb8⟩; have s8 := s7.after hb8; obtain ⟨bt, nt, ct, rfl⟩ := hv8.agg; have s8f := s8.facts; have s9f := s8.far (.slice (some ⟨bt, 0, none⟩) nt ct); obtain ⟨x0, x1, x2⟩ := s8.res))
            have S8 := hid s8
            have V8 := hid hv8
            clear s8 hv8 s9f s7f s8f s7 hb7 hb8 hbd7 hu7
            go_wp2
            have f := S8.out.fin (.slice (some ⟨bt, 0, none⟩) nt ct)
            refine bodyPost_ret (v := .tuple #[.agg #[.slice (some ⟨bt, 0, none⟩) nt ct], .int .i64 0]) (by simp [results, Try.results70, go_sem, f.2.cell]) rfl ⟨0, .agg #[.slice (some ⟨bt, 0, none⟩) nt ct], _, rfl, V8.out.set S8.out.c8 (.slice (some ⟨bt, 0, none⟩) nt ct), f.1, fun _ => absurd OK.out (by simp_all), fun _ => ANY.out, fun e => absurd rfl e, fun _ => rfl⟩
end Go.Proofs.Ytnnbdjfeagcbdaa
namespace Go.Proofs.Ytnnbdjfeagcbdaa
set_option linter.unusedSimpArgs false
set_option linter.unusedVariables false
open Go.RowKit Go.Shelf

/-- A version. -/
structure TrOk (t : T) : Prop where
  fine : Fine t
  tiles : Tiles t.toList 1 1000000
  canon : Canon t.toList
  zero : ∀ n, (valL t.toList n).state = 0 → valL t.toList n = cl0
theorem Reg.tr {B : Nat} {W w : World} {sB vB : Nat} {vs : List T} (h : Reg B W w sB vB vs) {t : T} (hm : t ∈ vs) : TrOk t := ⟨h.fine t hm, h.tiles t hm, h.canon t hm, h.zero t hm⟩
/-- A version as the reference has it. -/
def inT (t : T) : List Pc := inL t.toList
theorem TrOk.runs {t : T} (h : TrOk t) : RunsP (inT t) := inL_runs h.tiles h.canon
theorem TrOk.val {t : T} (h : TrOk t) (n : Int) : valL (inT t) n = valL t.toList n := inL_val h.tiles h.zero n
theorem TrOk.short {t : T} (h : TrOk t) : (inT t).length ≤ 1000000 := by
  have h1 := h.tiles.few
  have h2 : (inT t).length ≤ t.toList.length := List.length_filter_le _ _
  omega
theorem TrOk.link {t t' : T} (h : TrOk t) (h' : TrOk t') {a c : Int} (hac : 1 ≤ a ∧ 1 ≤ c ∧ a + c - 1 ≤ 1000000) (en : Bool) (tt : Cl) (what : Nat) (g : Cl → Cl) (hl : t'.toList = changedP t.toList a c g)
    (h1 : en = true → tt.state ≠ 0 ∧ ∀ n, a ≤ n → n ≤ a + c - 1 → (valL t.toList n).state = 0 ∧ g (valL t.toList n) = tt)
    (h2 : en = false → ∀ n, a ≤ n → n ≤ a + c - 1 → (valL t.toList n).state ≠ 0 ∧ g (valL t.toList n) = changedC what tt (valL t.toList n)) :
    changeR en a (a + c - 1) tt (changedC what tt) (inT t) = inT t' := by
  have hd : en = true → ∀ p ∈ inT t, p.to < a ∨ a + c - 1 < p.from_ := by
    intro he p hp
    rcases Int.lt_or_le p.to a with h3 | h3
    · exact .inl h3
    · rcases Int.lt_or_le (a + c - 1) p.from_ with h4 | h4
      · exact .inr h4
      · exfalso
        have gp := (h.runs.good p hp).le
        have hv := h.runs.val p hp (max a p.from_) (by omega) (by omega)
        rw [h.val] at hv
        have := ((h1 he).2 (max a p.from_) (by omega) (by omega)).1
        rw [hv] at this
        exact h.runs.state p hp this
  obtain ⟨r1, v1⟩ := changeR_runs en tt (changedC what tt) h.runs (a := a) (b := a + c - 1) (by omega) (fun d hd => changedC_state what tt d hd) (fun he => (h1 he).1) hd
  refine runsP_unique r1 h'.runs fun n => ?_
  rw [v1, h'.val, hl, changedP_val g h.tiles hac.1 hac.2.1 hac.2.2, h.val]
  by_cases hn : a ≤ n ∧ n ≤ a + c - 1
  · rw [if_pos hn]
    cases en
    · have := h2 rfl n hn.1 hn.2
      rw [if_neg (by simp), if_pos ⟨hn.1, hn.2, this.1⟩, this.2]
    · have := (h1 rfl).2 n hn.1 hn.2
      rw [if_pos ⟨rfl, hn⟩, this.2]
  · rw [if_neg hn, if_neg (fun e => hn e.2), if_neg (fun e => hn ⟨e.1, e.2.1⟩)]

theorem same_first {t : T} (h : TrOk t) {cond : Prop} [Decidable cond] {ok : Bool} {E : Cl → Int} {a c r' : Int} (hok : ok = true ↔ cond) (hsp : cond → 1 ≤ a ∧ 1 ≤ c ∧ a + c - 1 ≤ 1000000) (h0 : ok = false → r' = 1) (h1 : ok = true → FirstAt E (valL (inT t)) a (a + c - 1) r') :
    (if cond then firstE E (visL t a (a + c - 1)) else 1) = r' := by
  by_cases hc : cond
  · rw [if_pos hc, visL_eq _ _ t h.fine.sorted]
    have hs := hsp hc
    have e : valL (inT t) = valL t.toList := funext h.val
    have := h1 (hok.2 hc)
    rw [e] at this
    exact FirstAt.unique (firstE_at E h.tiles hs.1 (by omega) hs.2.2) this
  · rw [if_neg hc]
    exact (h0 (by rw [Bool.eq_false_iff]; exact fun e => hc (hok.1 e))).symm
theorem same_any {t : T} (h : TrOk t) {cond : Prop} [Decidable cond] {ok : Bool} {a c r' : Int} (hok : ok = true ↔ cond) (hsp : cond → 1 ≤ a ∧ 1 ≤ c ∧ a + c - 1 ≤ 1000000) (h0 : ok = false → r' = 1) (h1 : ok = true → AnyAt enterE (valL (inT t)) a (a + c - 1) r') :
    (if cond then firstE enterE (visL t a (a + c - 1)) else 1) = r' := by
  by_cases hc : cond
  · rw [if_pos hc, visL_eq _ _ t h.fine.sorted]
    have hs := hsp hc
    have e : valL (inT t) = valL t.toList := funext h.val
    have := h1 (hok.2 hc)
    rw [e] at this
    exact any_first (firstE_at enterE h.tiles hs.1 (by omega) hs.2.2) this
  · rw [if_neg hc]
    exact (h0 (by rw [Bool.eq_false_iff]; exact fun e => hc (hok.1 e))).symm

/-- Owners and holders are members or 0. -/
def BC (d : Cl) : Prop := 0 ≤ d.owner ∧ d.owner ≤ 1000 ∧ 0 ≤ d.holder ∧ d.holder ≤ 1000
def Bc (t : T) : Prop := ∀ n, BC (valL t.toList n)
theorem inB_range {m x : Int} (h : inB m x = true) : 1 ≤ x ∧ x ≤ m := by simpa only [inB, Bool.and_eq_true, decide_eq_true_eq] using h

theorem splitP_sum : ∀ (l : List Pc) (x : Int), (splitP l x).1.length + (splitP l x).2.length ≤ l.length + 1
  | [], x => by simp [splitP]
  | p :: l, x => by
    simp only [splitP]
    split
    · simp
    · split
      · have := splitP_sum l x
        simp only [List.length_cons]; omega
      · simp only [List.length_cons, List.length_nil]; omega
/-- A change makes at most two pieces more. -/
theorem changedP_length (l : List Pc) (a c : Int) (g : Cl → Cl) : (changedP l a c g).length ≤ l.length + 2 := by
  have h1 := splitP_sum l a
  have h2 := splitP_sum (splitP l a).2 (a + c)
  have own : ∀ m : List Pc, (ownP g m).length ≤ m.length := by
    intro m
    have key : ∀ (m acc : List Pc), (m.foldl (fun acc p => appP acc ⟨p.from_, p.to, g p.cell⟩) acc).length ≤ acc.length + m.length := by
      intro m
      induction m with
      | nil => intro acc; simp
      | cons p m ih =>
        intro acc
        rw [List.foldl_cons]
        have := ih (appP acc ⟨p.from_, p.to, g p.cell⟩)
        have := appP_length acc ⟨p.from_, p.to, g p.cell⟩
        simp only [List.length_cons]
        omega
    have := key m []
    simpa [ownP] using this
  have join : ∀ x y : List Pc, (joinP x y).length ≤ x.length + y.length := by
    intro x y
    cases y with
    | nil => simp [joinP]
    | cons p r =>
      rw [joinP, List.length_append]
      have := appP_length x p
      simp only [List.length_cons]
      omega
  have h3 := own (splitP (splitP l a).2 (a + c)).1
  have h4 := join (joinP (splitP l a).1 (ownP g (splitP (splitP l a).2 (a + c)).1)) (splitP (splitP l a).2 (a + c)).2
  have h5 := join (splitP l a).1 (ownP g (splitP (splitP l a).2 (a + c)).1)
  rw [changedP]
  omega
/-- What a call done to both comes to. -/
def Did (B : Nat) (W w : World) (sB vB : Nat) (vs : List T) (t : T) (xs : List (List Pc)) (l : List Pc) (e : Ending) (w' : World) : Prop :=
  ∃ (r r' : Int) (v' : Value) (us : List T) (uB : Nat) (ys : List (List Pc)), e = .returned (.tuple #[v', .bool (decide (r = r'))]) ∧ Reg B W w' sB uB us ∧ RefAt w' v' ys ∧ Turned sB vB w w' ∧ (uB = vB ∨ w.heap.size ≤ uB) ∧ (us = vs ∨ ∃ t', us = vs ++ [t'] ∧ (Bc t → Bc t') ∧ t'.toList.length ≤ t.toList.length + 2) ∧
    (l = inT t → r = r' ∧ ((us = vs ∧ ys = xs) ∨ ∃ t', us = vs ++ [t'] ∧ ys = xs ++ [inT t']))
/-- The two halves of it, tied. -/
structure Tied (t : T) (a c : Int) (g : Cl → Cl) (l new : List Pc) (r r' : Int) : Prop where
  bnd : r = 0 → (1 ≤ a ∧ 1 ≤ c ∧ a + c - 1 ≤ 1000000) ∧ ∀ d : Cl, BC d → BC (g d)
  same : l = inT t → r = r'
  link : l = inT t → r = 0 → ∀ t', TrOk t' → t'.toList = changedP t.toList a c g → new = inT t'
section
variable {t : T} (h : TrOk t) {a c o tt r' : Int} {l : List Pc}
include h
theorem move_tied (h0 : (okSpan a c && (inB 1000 o && (inB 1000 tt && !decide (o = tt)))) = false → r' = 1) (h1 : (okSpan a c && (inB 1000 o && (inB 1000 tt && !decide (o = tt)))) = true → FirstAt (ownedE o) (valL l) a (a + c - 1) r') :
    Tied t a c (moveG tt) l (changeR false a (a + c - 1) ⟨0, 0, tt, 0⟩ (changedC 1 ⟨0, 0, tt, 0⟩) l) (moveR t a c o tt) r' := by
  refine ⟨fun hr => ⟨(moveR_zero hr).1, fun d hd => ?_⟩, ?_, ?_⟩
  · unfold BC at hd
    unfold moveR at hr
    split at hr
    · rename_i hh
      have h3 := Bool.and_eq_true_iff.1 hh.2.1
      have h4 := inB_range h3.2
      unfold BC moveG; simp only; omega
    · omega
  · rintro rfl
    exact same_first h (by simp [and_assoc]) (fun hc => (okSpan_iff a c).1 hc.1) h0 h1
  · rintro rfl hr t' h' hl
    have hz := moveR_zero hr
    exact h.link h' hz.1 false _ 1 _ hl (by simp) (fun _ n n1 n2 => by
      have := ownedE_in (vis_in h.fine h.tiles hz.2 hz.1.1 hz.1.2.2 n n1 n2)
      exact ⟨by omega, rfl⟩)
theorem pledge_tied (h0 : (okSpan a c && (inB 1000 o && inB 1000 tt)) = false → r' = 1) (h1 : (okSpan a c && (inB 1000 o && inB 1000 tt)) = true → FirstAt (ownedE o) (valL l) a (a + c - 1) r') :
    Tied t a c (pledgeG tt) l (changeR false a (a + c - 1) ⟨0, 0, 0, tt⟩ (changedC 2 ⟨0, 0, 0, tt⟩) l) (pledgeR t a c o tt) r' := by
  refine ⟨fun hr => ⟨(pledgeR_zero hr).1, fun d hd => ?_⟩, ?_, ?_⟩
  · unfold BC at hd
    unfold pledgeR at hr
    split at hr
    · rename_i hh
      have h3 := Bool.and_eq_true_iff.1 hh.2
      have h4 := inB_range h3.2
      unfold BC pledgeG; simp only; omega
    · omega
  · rintro rfl
    exact same_first h (by simp) (fun hc => (okSpan_iff a c).1 hc.1) h0 h1
  · rintro rfl hr t' h' hl
    have hz := pledgeR_zero hr
    exact h.link h' hz.1 false _ 2 _ hl (by simp) (fun _ n n1 n2 => by
      have := ownedE_in (vis_in h.fine h.tiles hz.2 hz.1.1 hz.1.2.2 n n1 n2)
      exact ⟨by omega, rfl⟩)
theorem release_tied (h0 : (okSpan a c && inB 1000 o) = false → r' = 1) (h1 : (okSpan a c && inB 1000 o) = true → FirstAt (heldE o) (valL l) a (a + c - 1) r') :
    Tied t a c releaseG l (changeR false a (a + c - 1) ⟨0, 0, 0, 0⟩ (changedC 3 ⟨0, 0, 0, 0⟩) l) (heldR t a c o) r' := by
  refine ⟨fun hr => ⟨(heldR_zero hr).1, fun d hd => ?_⟩, ?_, ?_⟩
  · unfold BC at hd
    unfold BC releaseG; simp only; omega
  · rintro rfl
    exact same_first h (by simp) (fun hc => (okSpan_iff a c).1 hc.1) h0 h1
  · rintro rfl hr t' h' hl
    have hz := heldR_zero hr
    exact h.link h' hz.1 false _ 3 _ hl (by simp) (fun _ n n1 n2 => by
      have := heldE_in (vis_in h.fine h.tiles hz.2 hz.1.1 hz.1.2.2 n n1 n2)
      exact ⟨by omega, rfl⟩)
theorem seize_tied (h0 : (okSpan a c && inB 1000 o) = false → r' = 1) (h1 : (okSpan a c && inB 1000 o) = true → FirstAt (heldE o) (valL l) a (a + c - 1) r') :
    Tied t a c (seizeG o) l (changeR false a (a + c - 1) ⟨0, 0, 0, 0⟩ (changedC 4 ⟨0, 0, 0, 0⟩) l) (heldR t a c o) r' := by
  refine ⟨fun hr => ⟨(heldR_zero hr).1, fun d hd => ?_⟩, ?_, ?_⟩
  · unfold BC at hd
    unfold heldR at hr
    split at hr
    · rename_i hh
      have h4 := inB_range hh.2
      unfold BC seizeG; simp only; omega
    · omega
  · rintro rfl
    exact same_first h (by simp) (fun hc => (okSpan_iff a c).1 hc.1) h0 h1
  · rintro rfl hr t' h' hl
    have hz := heldR_zero hr
    exact h.link h' hz.1 false _ 4 _ hl (by simp) (fun _ n n1 n2 => by
      have := heldE_in (vis_in h.fine h.tiles hz.2 hz.1.1 hz.1.2.2 n n1 n2)
      exact ⟨by omega, by unfold seizeG; simp only [changedC]; rw [this.2]⟩)
theorem leave_tied (h0 : (okSpan a c && inB 1000 o) = false → r' = 1) (h1 : (okSpan a c && inB 1000 o) = true → FirstAt (ownedE o) (valL l) a (a + c - 1) r') :
    Tied t a c leaveG l (changeR false a (a + c - 1) ⟨0, 0, 0, 0⟩ (changedC 5 ⟨0, 0, 0, 0⟩) l) (leaveR t a c o) r' := by
  refine ⟨fun hr => ⟨(leaveR_zero hr).1, fun d hd => ?_⟩, ?_, ?_⟩
  · unfold BC at hd
    unfold BC leaveG; simp only; omega
  · rintro rfl
    exact same_first h (by simp) (fun hc => (okSpan_iff a c).1 hc.1) h0 h1
  · rintro rfl hr t' h' hl
    have hz := leaveR_zero hr
    exact h.link h' hz.1 false _ 5 _ hl (by simp) (fun _ n n1 n2 => by
      have := ownedE_in (vis_in h.fine h.tiles hz.2 hz.1.1 hz.1.2.2 n n1 n2)
      exact ⟨by omega, rfl⟩)
theorem enter_tied {lt : Int} (h0 : (okSpan a c && (inB 1000000 lt && inB 1000 o)) = false → r' = 1) (h1 : (okSpan a c && (inB 1000000 lt && inB 1000 o)) = true → AnyAt enterE (valL l) a (a + c - 1) r') :
    Tied t a c (enterG lt o) l (changeR true a (a + c - 1) ⟨1, lt, o, 0⟩ (changedC 0 ⟨1, lt, o, 0⟩) l) (enterR t a c lt o) r' := by
  refine ⟨fun hr => ⟨(enterR_zero hr).1, fun d hd => ?_⟩, ?_, ?_⟩
  · unfold BC at hd
    unfold enterR at hr
    split at hr
    · rename_i hh
      have h4 := inB_range hh.2.2
      unfold BC enterG; simp only; omega
    · omega
  · rintro rfl
    exact same_any h (by simp) (fun hc => (okSpan_iff a c).1 hc.1) h0 h1
  · rintro rfl hr t' h' hl
    have hz := enterR_zero hr
    exact h.link h' hz.1 true _ 0 _ hl (fun _ => ⟨by simp, fun n n1 n2 => ⟨enterE_in (vis_in h.fine h.tiles hz.2 hz.1.1 hz.1.2.2 n n1 n2), rfl⟩⟩) (by simp)
end
theorem Did.of {B : Nat} {W w w2 : World} {sB vB : Nat} {vs : List T} {t : T} {xs ys : List (List Pc)} {l new : List Pc} {r r' a c : Int} {g : Cl → Cl} {v' : Value} {us : List T} {uB : Nat} (ti : Tied t a c g l new r r') (ht : Tiles t.toList 1 1000000)
    (rg : Reg B W w2 sB uB us) (ra : RefAt w2 v' ys) (tu : Turned sB vB w w2) (hu : uB = vB ∨ w.heap.size ≤ uB) (h1 : r ≠ 0 → us = vs) (h2 : r = 0 → ∃ t' : T, us = vs ++ [t'] ∧ t'.toList = changedP t.toList a c g)
    (k1 : r' ≠ 0 → ys = xs) (k2 : r' = 0 → ys = xs ++ [new]) : Did B W w sB vB vs t xs l (.returned (.tuple #[v', .bool (decide (r = r'))])) w2 := by
  refine ⟨r, r', v', us, uB, ys, rfl, rg, ra, tu, hu, ?_, fun hl => ⟨ti.same hl, ?_⟩⟩
  · by_cases hr : r = 0
    · obtain ⟨t', h3, h4⟩ := h2 hr
      have hb := ti.bnd hr
      refine .inr ⟨t', h3, fun hbt n => ?_, by rw [h4]; exact changedP_length _ _ _ _⟩
      rw [h4, changedP_val g ht hb.1.1 hb.1.2.1 hb.1.2.2]
      split
      · exact hb.2 _ (hbt n)
      · exact hbt n
    · exact .inl (h1 hr)
  · have hs := ti.same hl
    by_cases hr : r = 0
    · obtain ⟨t', h3, h4⟩ := h2 hr
      refine .inr ⟨t', h3, ?_⟩
      rw [k2 (by omega), ti.link hl hr t' (rg.tr (by rw [h3]; simp)) h4]
    · exact .inl ⟨h1 hr, k1 (by omega)⟩
end Go.Proofs.Ytnnbdjfeagcbdaa
