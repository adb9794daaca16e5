/- Holds, Pledged, Count. -/
import Derived.Test.YtnnbdjfeagcbdaaHold
namespace Go.Proofs.Ytnnbdjfeagcbdaa
set_option linter.unusedSimpArgs false
set_option linter.unusedVariables false
open Go.RowKit Go.Shelf
attribute [local go_sem] Oper.semAt_some
attribute [local go_sem ↓] Go.wp_at_zero Go.wp_at_succ

def ownB (o : Int) (c : Cl) : Bool := decide (c.state = 1) && decide (c.owner = o)
def plgB (o : Int) (c : Cl) : Bool := decide (c.state = 1) && decide (c.holder = o)
/-- The holds that a question comes to. -/
def askL (is : Cl → Bool) (vs : List T) (v : Int) (r : Int) : List Pc := if r = 0 then allP is (vs[v.toNat]?.getD .nil).toList else []
def AskPost (w : World) (r : Int) (l : List Pc) (e : Ending) (w' : World) : Prop :=
  ∃ u, e = .returned (.tuple #[u, .int .i64 r]) ∧ OwnE encH 5 50 w.heap.size w' u l ∧ Below w.heap.size w w'
theorem visL_fine {t : T} (h : Fine t) : visL t 1 1000000 = t.toList := by rw [visL_eq 1 1000000 t h.sorted, visP_all _ h.sorted.good]
theorem appP_good (l : List Pc) (p : Pc) (h : ∀ q ∈ l, q.Good) (hp : p.Good) : ∀ q ∈ appP l p, q.Good := by
  induction l with
  | nil => intro q hq; simp [appP] at hq; subst hq; exact hp
  | cons a l ih =>
    cases l with
    | nil =>
      rw [appP_one]
      have ha := h a (by simp)
      intro q hq
      split at hq
      · rename_i hc
        simp at hq; subst hq
        simp only [Pc.Good] at *
        omega
      · simp at hq; rcases hq with rfl | rfl
        · exact ha
        · exact hp
    | cons b l =>
      rw [appP_cons _ _ _ (by simp)]
      intro q hq
      rcases List.mem_cons.1 hq with rfl | hq
      · exact h _ (by simp)
      · exact ih (fun x hx => h x (List.mem_cons_of_mem _ hx)) q hq
theorem allP_good (is : Cl → Bool) (l : List Pc) (h : ∀ p ∈ l, p.Good) : ∀ p ∈ allP is l, p.Good := by
  have key : ∀ (l acc : List Pc), (∀ p ∈ l, p.Good) → (∀ p ∈ acc, p.Good) → ∀ p ∈ l.foldl (fun acc p => if is p.cell then appP acc p else acc) acc, p.Good := by
    intro l
    induction l with
    | nil => intro acc _ h; exact h
    | cons p l ih =>
      intro acc hl hacc
      simp only [List.foldl_cons]
      refine ih _ (fun q hq => hl q (by simp [hq])) ?_
      split
      · exact appP_good acc p hacc (hl p (by simp))
      · exact hacc
  exact key l [] h (by intro q hq; simp at hq)

theorem atE_cases (n : Nat) (v : Int) (ok : Bool) : atE n v ok = 0 ∨ atE n v ok = 1 ∨ atE n v ok = 4 := by unfold atE; split <;> (try split) <;> simp
theorem atE_zero {n : Nat} {v : Int} {ok : Bool} (h : atE n v ok = 0) : 0 ≤ v ∧ v < n ∧ ok = true := by
  unfold atE at h
  split at h
  · omega
  · split at h
    · exact ⟨by omega, by omega, by assumption⟩
    · omega

set_option maxHeartbeats 2000000 in
theorem Holds1_calls (c : Cl) (o : Int) (B : Nat) (w : World) (h0 : w.cell? ⟨B, 0, none⟩ = some (.int .i64 o)) :
    Calls Try.prog 68 #[c.val, .pointer (some ⟨B, 0, none⟩)] w fun e w' => e = .returned (.bool (ownB o c)) ∧ Below w.heap.size w w' := by
  have hlt := World.block_lt_of_cell? _ _ h0
  by_cases h : c.state = 1
  · have hb : (c.state == 1) = true := by simp [h]
    by_cases h2 : c.owner = o
    · have hb2 : (c.owner == o) = true := by simp [h2]
      have e : ownB o c = true := by simp [ownB, h, h2]
      rw [e]
      clear h h2
      go_enter Try.func68, Try.ntmps68
      go_wp2
      go_ret
      exact ⟨rfl, Below.alloc (Below.refl _ _) (Nat.le_refl _) _⟩
    · have hb2 : (c.owner == o) = false := by simp [h2]
      have e : ownB o c = false := by simp [ownB, h2]
      rw [e]
      clear h h2
      go_enter Try.func68, Try.ntmps68
      go_wp2
      go_ret
      exact ⟨rfl, Below.alloc (Below.refl _ _) (Nat.le_refl _) _⟩
  · have hb : (c.state == 1) = false := by simp [h]
    have e : ownB o c = false := by simp [ownB, h]
    rw [e]
    clear h
    go_enter Try.func68, Try.ntmps68
    go_wp2
    go_ret
    exact ⟨rfl, Below.alloc (Below.refl _ _) (Nat.le_refl _) _⟩

set_option maxRecDepth 100000 in
set_option maxHeartbeats 4000000 in
theorem Holds_calls (w : World) (sB vB : Nat) (vs : List T) (hst : StAt w sB vB vs) (hn : vs.length ≤ 1000) (hf : ∀ t ∈ vs, Fine t) (o v : Int) :
    Calls Try.prog 26 #[.pointer (some ⟨sB, 0, none⟩), .int .i64 o, .int .i64 v] w
      (AskPost w (atE vs.length v (inB 1000 o)) (askL (ownB o) vs v (atE vs.length v (inB 1000 o)))) := by
  have hmf : ∀ (fn : Fn) (first cap : Array Value) (w : World), (Instr.makeFunc fn first cap).run Try.prog w = .ok (.func fn first cap) w := fun _ _ _ _ => rfl
  have ST := hid hst
  have FI := hid hf
  have I1 := hid (show IntsAt ((w.alloc (.cells #[.int .i64 o] 3)).alloc (.cells #[.int .i64 o] 3)) (.slice (some ⟨w.heap.size + 1, 0, none⟩) 1 1) [o] by
    have := ints_one (w.alloc (.cells #[.int .i64 o] 3)) o 3
    rwa [World.size_alloc] at this)
  have C0 := hid ((Cells.new w #[.int .i64 o] 3).alloc (.cells #[.int .i64 o] 3))
  have U0 := hid (show Below w.heap.size w ((w.alloc (.cells #[.int .i64 o] 3)).alloc (.cells #[.int .i64 o] 3)) from (((Below.refl _ _).alloc (Nat.le_refl _) _).alloc (by simp) _))
  clear hst hf
  go_enter Try.func26, Try.ntmps26
  go_wp2_with fail
  refine (are_calls 1000 _ _ [o] I1.out).mono ?_
  rintro e w1 ⟨rfl, hb1⟩
  rw [all_one]
  have B1 := hid (U0.out.trans (hb1.mono U0.out.size))
  have C1 := hid (C0.out.below hb1 C0.out.lt)
  clear hb1
  go_wp2_with fail
  refine (at_calls w1 sB vB vs (ST.out.below B1.out) (by omega) v (inB 1000 o)).mono ?_
  rintro e w2 ⟨rfl, p, rfl, htr⟩
  have HT := hid htr
  obtain ⟨r, hr⟩ : ∃ r, r = atE vs.length v (inB 1000 o) := ⟨_, rfl⟩
  have HR := hid hr
  rw [← hr]
  clear htr hr
  have l1 : w.heap.size < w2.heap.size := C1.out.lt
  by_cases hz : r = 0
  · subst hz
    have hv := atE_zero HR.out.symm
    obtain ⟨t, htt⟩ : ∃ t, t = vs[v.toNat]?.getD .nil := ⟨_, rfl⟩
    have fi : Fine t := FI.out t (by rw [htt, List.getElem?_eq_getElem (by omega)]; exact List.getElem_mem _)
    have tr : TreeAt w2 p t := by rw [htt]; exact HT.out HR.out.symm
    have al : ∀ (d : Cl) (W : World), Below w2.heap.size w2 W → W.cell? ⟨w.heap.size, 0, none⟩ = some (.int .i64 o) := fun d W hb => by rw [(C1.out.below hb C1.out.lt).cell]; rfl
    have FT := hid fi
    have TR := hid tr
    have AL := hid al
    have EQ := hid (show askL (ownB o) vs v 0 = allP (ownB o) t.toList by unfold askL; rw [if_pos rfl, htt])
    clear fi tr al htt hv
    go_wp2_with fail
    refine (all_calls w2 p t TR.out FT.out.good FT.out.sorted FT.out.few 68 #[.pointer (some ⟨w.heap.size, 0, none⟩)] (ownB o) (fun d W hb => Holds1_calls d o _ W (AL.out d W hb)) (enters_of Try.func68 (by kernel_rfl) rfl)).mono ?_
    rintro e w3 ⟨u, rfl, hu, hb3⟩
    rw [visL_fine FT.out] at hu
    have lu : (allP (ownB o) t.toList).length ≤ 10000000 := by have := allP_length (ownB o) t.toList; have := FT.out.few; omega
    have RU := hid (hu.own.reads encP_len (by omega))
    have B3 := hid (B1.out.trans (hb3.mono B1.out.size))
    clear hu hb3
    go_wp2_with fail
    refine (holds_calls w3 u _ RU.out lu (allP_good _ _ FT.out.sorted.good)).mono ?_
    rintro e w4 ⟨y, rfl, hy, hb4⟩
    have HY := hid hy
    have B4 := hid (B3.out.trans (hb4.mono B3.out.size))
    clear hy hb4
    go_wp2
    rw [← HR.out, EQ.out]
    refine bodyPost_ret (v := .tuple #[y, .int .i64 0]) (by simp [results, Try.results26, go_sem]) rfl ⟨y, rfl, HY.out.mono B3.out.size, B4.out⟩
  · have hz' : (r != 0) = true := by simp [hz]
    have EQ := hid (show askL (ownB o) vs v r = [] from if_neg hz)
    clear hz
    go_wp2
    rw [← HR.out, EQ.out]
    refine bodyPost_ret (v := .tuple #[.slice none 0 0, .int .i64 r]) (by simp [results, Try.results26, go_sem]) rfl ⟨_, rfl, OwnE.nil _ _, B1.out⟩

set_option maxHeartbeats 2000000 in
theorem Pledged1_calls (c : Cl) (o : Int) (B : Nat) (w : World) (h0 : w.cell? ⟨B, 0, none⟩ = some (.int .i64 o)) :
    Calls Try.prog 82 #[c.val, .pointer (some ⟨B, 0, none⟩)] w fun e w' => e = .returned (.bool (plgB o c)) ∧ Below w.heap.size w w' := by
  have hlt := World.block_lt_of_cell? _ _ h0
  by_cases h : c.state = 1
  · have hb : (c.state == 1) = true := by simp [h]
    by_cases h2 : c.holder = o
    · have hb2 : (c.holder == o) = true := by simp [h2]
      have e : plgB o c = true := by simp [plgB, h, h2]
      rw [e]
      clear h h2
      go_enter Try.func82, Try.ntmps82
      go_wp2
      go_ret
      exact ⟨rfl, Below.alloc (Below.refl _ _) (Nat.le_refl _) _⟩
    · have hb2 : (c.holder == o) = false := by simp [h2]
      have e : plgB o c = false := by simp [plgB, h2]
      rw [e]
      clear h h2
      go_enter Try.func82, Try.ntmps82
      go_wp2
      go_ret
      exact ⟨rfl, Below.alloc (Below.refl _ _) (Nat.le_refl _) _⟩
  · have hb : (c.state == 1) = false := by simp [h]
    have e : plgB o c = false := by simp [plgB, h]
    rw [e]
    clear h
    go_enter Try.func82, Try.ntmps82
    go_wp2
    go_ret
    exact ⟨rfl, Below.alloc (Below.refl _ _) (Nat.le_refl _) _⟩

set_option maxRecDepth 100000 in
set_option maxHeartbeats 4000000 in
theorem Pledged_calls (w : World) (sB vB : Nat) (vs : List T) (hst : StAt w sB vB vs) (hn : vs.length ≤ 1000) (hf : ∀ t ∈ vs, Fine t) (o v : Int) :
    Calls Try.prog 34 #[.pointer (some ⟨sB, 0, none⟩), .int .i64 o, .int .i64 v] w
      (AskPost w (atE vs.length v (inB 1000 o)) (askL (plgB o) vs v (atE vs.length v (inB 1000 o)))) := by
  have hmf : ∀ (fn : Fn) (first cap : Array Value) (w : World), (Instr.makeFunc fn first cap).run Try.prog w = .ok (.func fn first cap) w := fun _ _ _ _ => rfl
  have ST := hid hst
  have FI := hid hf
  have I1 := hid (show IntsAt ((w.alloc (.cells #[.int .i64 o] 3)).alloc (.cells #[.int .i64 o] 3)) (.slice (some ⟨w.heap.size + 1, 0, none⟩) 1 1) [o] by
    have := ints_one (w.alloc (.cells #[.int .i64 o] 3)) o 3
    rwa [World.size_alloc] at this)
  have C0 := hid ((Cells.new w #[.int .i64 o] 3).alloc (.cells #[.int .i64 o] 3))
  have U0 := hid (show Below w.heap.size w ((w.alloc (.cells #[.int .i64 o] 3)).alloc (.cells #[.int .i64 o] 3)) from (((Below.refl _ _).alloc (Nat.le_refl _) _).alloc (by simp) _))
  clear hst hf
  go_enter Try.func34, Try.ntmps34
  go_wp2_with fail
  refine (are_calls 1000 _ _ [o] I1.out).mono ?_
  rintro e w1 ⟨rfl, hb1⟩
  rw [all_one]
  have B1 := hid (U0.out.trans (hb1.mono U0.out.size))
  have C1 := hid (C0.out.below hb1 C0.out.lt)
  clear hb1
  go_wp2_with fail
  refine (at_calls w1 sB vB vs (ST.out.below B1.out) (by omega) v (inB 1000 o)).mono ?_
  rintro e w2 ⟨rfl, p, rfl, htr⟩
  have HT := hid htr
  obtain ⟨r, hr⟩ : ∃ r, r = atE vs.length v (inB 1000 o) := ⟨_, rfl⟩
  have HR := hid hr
  rw [← hr]
  clear htr hr
  have l1 : w.heap.size < w2.heap.size := C1.out.lt
  by_cases hz : r = 0
  · subst hz
    have hv := atE_zero HR.out.symm
    obtain ⟨t, htt⟩ : ∃ t, t = vs[v.toNat]?.getD .nil := ⟨_, rfl⟩
    have fi : Fine t := FI.out t (by rw [htt, List.getElem?_eq_getElem (by omega)]; exact List.getElem_mem _)
    have tr : TreeAt w2 p t := by rw [htt]; exact HT.out HR.out.symm
    have al : ∀ (d : Cl) (W : World), Below w2.heap.size w2 W → W.cell? ⟨w.heap.size, 0, none⟩ = some (.int .i64 o) := fun d W hb => by rw [(C1.out.below hb C1.out.lt).cell]; rfl
    have FT := hid fi
    have TR := hid tr
    have AL := hid al
    have EQ := hid (show askL (plgB o) vs v 0 = allP (plgB o) t.toList by unfold askL; rw [if_pos rfl, htt])
    clear fi tr al htt hv
    go_wp2_with fail
    refine (all_calls w2 p t TR.out FT.out.good FT.out.sorted FT.out.few 82 #[.pointer (some ⟨w.heap.size, 0, none⟩)] (plgB o) (fun d W hb => Pledged1_calls d o _ W (AL.out d W hb)) (enters_of Try.func82 (by kernel_rfl) rfl)).mono ?_
    rintro e w3 ⟨u, rfl, hu, hb3⟩
    rw [visL_fine FT.out] at hu
    have lu : (allP (plgB o) t.toList).length ≤ 10000000 := by have := allP_length (plgB o) t.toList; have := FT.out.few; omega
    have RU := hid (hu.own.reads encP_len (by omega))
    have B3 := hid (B1.out.trans (hb3.mono B1.out.size))
    clear hu hb3
    go_wp2_with fail
    refine (holds_calls w3 u _ RU.out lu (allP_good _ _ FT.out.sorted.good)).mono ?_
    rintro e w4 ⟨y, rfl, hy, hb4⟩
    have HY := hid hy
    have B4 := hid (B3.out.trans (hb4.mono B3.out.size))
    clear hy hb4
    go_wp2
    rw [← HR.out, EQ.out]
    refine bodyPost_ret (v := .tuple #[y, .int .i64 0]) (by simp [results, Try.results34, go_sem]) rfl ⟨y, rfl, HY.out.mono B3.out.size, B4.out⟩
  · have hz' : (r != 0) = true := by simp [hz]
    have EQ := hid (show askL (plgB o) vs v r = [] from if_neg hz)
    clear hz
    go_wp2
    rw [← HR.out, EQ.out]
    refine bodyPost_ret (v := .tuple #[.slice none 0 0, .int .i64 r]) (by simp [results, Try.results34, go_sem]) rfl ⟨_, rfl, OwnE.nil _ _, B1.out⟩

def cntL : List Pc → Int
  | [] => 0
  | p :: l => (p.to - p.from_ + 1) + cntL l
theorem cntL_snoc (l : List Pc) (p : Pc) : cntL (l ++ [p]) = cntL l + (p.to - p.from_ + 1) := by
  induction l with
  | nil => simp [cntL]
  | cons a l ih => simp only [List.cons_append, cntL, ih]; omega
theorem cntL_bound (l : List Pc) (h : ∀ p ∈ l, p.Good) : 0 ≤ cntL l ∧ cntL l ≤ 1000000 * l.length := by
  induction l with
  | nil => simp [cntL]
  | cons p l ih =>
    have := ih (fun q hq => h q (by simp [hq]))
    have hp := h p (by simp)
    simp only [Pc.Good] at hp
    simp only [cntL, List.length_cons]
    omega
theorem askL_good (is : Cl → Bool) (vs : List T) (hf : ∀ t ∈ vs, Fine t) (v r : Int) (h : r = 0 → 0 ≤ v ∧ v < vs.length) : (askL is vs v r).length ≤ 10000000 ∧ ∀ p ∈ askL is vs v r, p.Good := by
  unfold askL
  split
  · rename_i hr
    have hv := h hr
    have fi : Fine (vs[v.toNat]?.getD .nil) := hf _ (by rw [List.getElem?_eq_getElem (by omega)]; exact List.getElem_mem _)
    exact ⟨Nat.le_trans (allP_length _ _) fi.few, allP_good _ _ fi.sorted.good⟩
  · exact ⟨by simp, fun p hp => by simp at hp⟩

set_option maxRecDepth 100000 in
set_option maxHeartbeats 4000000 in
theorem Count_calls (w : World) (sB vB : Nat) (vs : List T) (hst : StAt w sB vB vs) (hn : vs.length ≤ 1000) (hf : ∀ t ∈ vs, Fine t) (o v : Int) :
    Calls Try.prog 27 #[.pointer (some ⟨sB, 0, none⟩), .int .i64 o, .int .i64 v] w fun e w' =>
      e = .returned (.tuple #[.int .i64 (cntL (askL (ownB o) vs v (atE vs.length v (inB 1000 o)))), .int .i64 (atE vs.length v (inB 1000 o))]) ∧ Below w.heap.size w w' := by
  have AG := askL_good (ownB o) vs hf v (atE vs.length v (inB 1000 o)) (fun h => ⟨(atE_zero h).1, (atE_zero h).2.1⟩)
  obtain ⟨l, hl⟩ : ∃ l, l = askL (ownB o) vs v (atE vs.length v (inB 1000 o)) := ⟨_, rfl⟩
  have HC := hid (Holds_calls w sB vB vs hst hn hf o v)
  rw [← hl] at AG HC ⊢
  obtain ⟨r, hr⟩ : ∃ r, r = atE vs.length v (inB 1000 o) := ⟨_, rfl⟩
  rw [← hr] at HC ⊢
  clear hl hr hst hf hn
  have HG := hid AG.2
  have hlen := AG.1
  clear AG
  obtain ⟨n, hn⟩ : ∃ n, n = l.length := ⟨_, rfl⟩
  rw [← hn] at hlen
  have HN := hid hn
  clear hn
  go_enter Try.func27, Try.ntmps27
  go_wp2_with fail
  refine HC.out.mono ?_
  rintro e w1 ⟨u, rfl, hu, hb1⟩
  obtain ⟨hm, p, cap, b, off, rfl, hp, hc⟩ := hu.reads encH_len (by rw [← HN.out]; omega)
  rw [← HN.out] at hp
  have HP := hid hp
  have HCC := hid hc
  have HB1 := hid hb1
  rw [← HN.out]
  clear hu hb1 hp hc hm
  go_wp2
  go_loopw [10, 22] (fun s i wr => ∃ k : Nat, k ≤ n ∧ i = .int .i64 k ∧ s = .int .i64 (cntL (l.take k)) ∧ Below w1.heap.size w1 wr) (fun _ i _ => n - (intOf i).toNat)
  case atStart => exact ⟨0, Nat.zero_le _, rfl, rfl, Below.refl _ _⟩
  case round =>
    obtain ⟨k, hk, rfl, rfl, hb⟩ := hrel
    have HB := hid hb
    by_cases hlk : k < n
    · obtain ⟨rfl, hbl⟩ := HP.out (by omega)
      have hkl : k < l.length := by rw [← HN.out]; exact hlk
      obtain ⟨q, hq⟩ : ∃ q, q = l[k] := ⟨_, rfl⟩
      have hqg : q.Good := HG.out q (by rw [hq]; exact List.getElem_mem hkl)
      have key : ∀ j, j < 5 → wr.cell? ⟨b, off + k * 5 + j, none⟩ = (encH q)[j]? := fun j hj => by rw [hq]; exact (hb.cell (p := ⟨b, off + k * 5 + j, none⟩) hbl).trans (HCC.out k hkl j hj)
      have c0 := key 0 (by omega)
      have c1 := key 1 (by omega)
      have c2 := key 2 (by omega)
      have c3 := key 3 (by omega)
      have c4 := key 4 (by omega)
      simp [encH] at c0 c1 c2 c3 c4
      have SN := hid (show cntL (l.take (k + 1)) = cntL (l.take k) + (q.to - q.from_ + 1) by rw [List.take_succ_eq_append_getElem hkl, cntL_snoc, hq])
      have bd := cntL_bound (l.take k) (fun p hp => HG.out p (List.mem_of_mem_take hp))
      have bl : (l.take k).length ≤ k := List.length_take_le _ _
      simp only [Pc.Good] at hqg
      obtain ⟨S, hS⟩ : ∃ S, S = cntL (l.take k) := ⟨_, rfl⟩
      rw [← hS] at bd SN ⊢
      have w1' : IntKind.i64.wrap (S + (q.to - q.from_ + 1)) = S + (q.to - q.from_ + 1) := IntWalk.i64_in _ (by omega)
      have h64 : IntKind.i64.wrap ((k : Int) + 1) = (k : Int) + 1 := IntWalk.i64_in _ (by omega)
      clear key hq hb bd bl hS hkl
      have l1 : wr.heap.size < wr.heap.size + 1 := by omega
      go_wp2
      go_roundw
      case rel => exact ⟨k + 1, by omega, by go_num, by rw [SN.out], (by have hbb := HB.out.size; have h0 := HB.out; repeat (first | exact h0 | refine Below.setCell ?_ (by first | omega | (simp; omega)) _ | refine Below.alloc ?_ (by first | omega | (simp; omega)) _))⟩
      case measure => simp [intOf]; omega
    · have hkn : k = n := by omega
      subst hkn
      have ht : l.take k = l := List.take_of_length_le (by rw [← HN.out]; exact Nat.le_refl _)
      rw [ht]
      clear hb ht
      go_wp2
      refine bodyPost_ret (v := .tuple #[.int .i64 (cntL l), .int .i64 r]) (by simp [results, Try.results27, go_sem]) rfl ⟨rfl, HB1.out.trans (HB.out.mono HB1.out.size)⟩
end Go.Proofs.Ytnnbdjfeagcbdaa
