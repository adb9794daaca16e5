/- board.New, board.Get. board.Get. half.take of any entry in plain words; slices.DeleteFunc; board.owned. -/
import Derived.Test.YtdjhpldiifdifaaJEnt2
namespace Go.Proofs.Ytdjhpldiifdifaa
set_option linter.unusedSimpArgs false
set_option linter.unusedVariables false
open Go.RowKit Go.Shelf
attribute [local go_sem] Oper.semAt_some
attribute [local go_sem ↓] Go.wp_at_zero Go.wp_at_succ

theorem newHalf_calls (s : Int) (hs : s = 1 ∨ s = 2) (w : World) : Calls Try.prog 38 #[.int .i64 s] w fun e w' => e = .returned (pt w.heap.size) ∧ w' = w.alloc (.cells #[betV s, .slice none 0 0] 136) := by
  rcases hs with rfl | rfl
  · have e : betV 1 = .func (.func 68) #[] #[] := rfl
    rw [e]
    go_enter Try.func38, Try.ntmps38
    go_wp2
    go_ret
    exact ⟨rfl, rfl⟩
  · have e : betV 2 = .func (.func 69) #[] #[] := rfl
    rw [e]
    go_enter Try.func38, Try.ntmps38
    go_wp2
    go_ret
    exact ⟨rfl, rfl⟩
/-- What New comes to. -/
def NewP (O : Nat → Nat) (q : Nat) (w : World) (e : Ending) (w' : World) : Prop :=
  ∃ O' b G, e = .returned (pt b) ∧ BdC O' q w' b G 0 0 [] ∧ G.bd 0 0 = ⟨[], [], [], 0, 0⟩ ∧ Below w.heap.size w w' ∧ ∀ k, k < w.heap.size → O' k = O k
theorem new_fin (O : Nat → Nat) (q : Nat) (w : World) : NewP O q w (.returned (pt (w.heap.size + 1 + 1 + 1))) ((((w.alloc (Obj.cells #[betV 1, Value.slice none 0 0] 136)).alloc (Obj.cells #[betV 2, Value.slice none 0 0] 136)).alloc (Obj.map #[] 0)).alloc
      (Obj.cells #[Value.pointer none, pt w.heap.size, pt (w.heap.size + 1), Value.map (some (w.heap.size + 1 + 1)), Value.slice none 0 0, Value.int IntKind.i64 0, Value.int IntKind.i64 0, Value.slice none 0 0] 91)) := by
  obtain ⟨n, hn⟩ : ∃ n, n = w.heap.size := ⟨_, rfl⟩
  rw [← hn]
  obtain ⟨w1, h1⟩ : ∃ w1, w1 = w.alloc (Obj.cells #[betV 1, Value.slice none 0 0] 136) := ⟨_, rfl⟩
  obtain ⟨w2, h2⟩ : ∃ w2, w2 = w1.alloc (Obj.cells #[betV 2, Value.slice none 0 0] 136) := ⟨_, rfl⟩
  obtain ⟨w3, h3⟩ : ∃ w3, w3 = w2.alloc (Obj.map #[] 0) := ⟨_, rfl⟩
  rw [← h1, ← h2, ← h3]
  obtain ⟨w4, h4⟩ : ∃ w4, w4 = w3.alloc (Obj.cells #[Value.pointer none, pt n, pt (n + 1), Value.map (some (n + 1 + 1)), Value.slice none 0 0, Value.int IntKind.i64 0, Value.int IntKind.i64 0, Value.slice none 0 0] 91) := ⟨_, rfl⟩
  rw [← h4]
  have z1 : w1.heap.size = n + 1 := by rw [h1, hn]; simp
  have z2 : w2.heap.size = n + 1 + 1 := by rw [h2]; simp [z1]
  have z3 : w3.heap.size = n + 1 + 1 + 1 := by rw [h3]; simp [z2]
  have c1 : Cells w4 n #[betV 1, .slice none 0 0] 136 := by
    have := Cells.new w #[betV 1, Value.slice none 0 0] 136
    rw [← hn, ← h1] at this
    rw [h4, h3, h2]
    exact ((this.alloc _).alloc _).alloc _
  have c2 : Cells w4 (n + 1) #[betV 2, .slice none 0 0] 136 := by
    have := Cells.new w1 #[betV 2, Value.slice none 0 0] 136
    rw [z1, ← h2] at this
    rw [h4, h3]
    exact (this.alloc _).alloc _
  have c3 : MapC w4 (n + 1 + 1) [] := by
    have := MapC.new w2
    rw [z2, ← h3] at this
    rw [h4]
    exact this.kept (X := fun _ => False) ((Kept.refl _ w3).alloc _) not_false
  have c4 : Cells w4 (n + 1 + 1 + 1) #[Value.pointer none, pt n, pt (n + 1), Value.map (some (n + 1 + 1)), Value.slice none 0 0, Value.int IntKind.i64 0, Value.int IntKind.i64 0, Value.slice none 0 0] 91 := by
    have := Cells.new w3 #[Value.pointer none, pt n, pt (n + 1), Value.map (some (n + 1 + 1)), Value.slice none 0 0, Value.int IntKind.i64 0, Value.int IntKind.i64 0, Value.slice none 0 0] 91
    rw [z3, ← h4] at this
    exact this
  have hb : Below w.heap.size w w4 := by
    rw [h4, h3, h2, h1]
    exact ((((Below.refl _ w).alloc (Nat.le_refl _) _).alloc (by simp) _).alloc (by simp; omega) _).alloc (by simp; omega) _
  have hcol : ∀ k, k < n → (fun k => if k = n then q + 1 else if k = n + 1 then q + 2 else if k = n + 1 + 1 then q + 6 else if k = n + 1 + 1 + 1 then q + 3 else O k) k = O k := fun k hk => by
    simp only
    rw [if_neg (by omega), if_neg (by omega), if_neg (by omega), if_neg (by omega)]
  have e1 : (fun k => if k = n then q + 1 else if k = n + 1 then q + 2 else if k = n + 1 + 1 then q + 6 else if k = n + 1 + 1 + 1 then q + 3 else O k) n = q + 1 := if_pos rfl
  have e2 : (fun k => if k = n then q + 1 else if k = n + 1 then q + 2 else if k = n + 1 + 1 then q + 6 else if k = n + 1 + 1 + 1 then q + 3 else O k) (n + 1) = q + 2 := by
    simp only
    rw [if_neg (by omega), if_pos trivial]
  have e3 : (fun k => if k = n then q + 1 else if k = n + 1 then q + 2 else if k = n + 1 + 1 then q + 6 else if k = n + 1 + 1 + 1 then q + 3 else O k) (n + 1 + 1) = q + 6 := by
    simp only
    rw [if_neg (by omega), if_neg (by omega), if_pos trivial]
  have e4 : (fun k => if k = n then q + 1 else if k = n + 1 then q + 2 else if k = n + 1 + 1 then q + 6 else if k = n + 1 + 1 + 1 then q + 3 else O k) (n + 1 + 1 + 1) = q + 3 := by
    simp only
    rw [if_neg (by omega), if_neg (by omega), if_neg (by omega), if_pos trivial]
  refine ⟨fun k => if k = n then q + 1 else if k = n + 1 then q + 2 else if k = n + 1 + 1 then q + 6 else if k = n + 1 + 1 + 1 then q + 3 else O k, n + 1 + 1 + 1, ⟨n, n + 1, n + 1 + 1, [], [], [], fun _ => ⟨0, ⟨0, 0, 0, 0, 0, 0, 0, 0⟩, 0, 0⟩⟩, rfl,
    ⟨⟨⟨_, _, c4, OwnE.nil _ _, OwnE.nil _ _, fun x (hx : none = some x) => (by cases hx), fun x (hx : none = some x) => (by cases hx)⟩, e4⟩, ⟨⟨_, c1, OwnE.nil _ _, fun x (hx : none = some x) => (by cases hx)⟩, e1, by simp, by simp, by simp [elsL], by simp [ensL]⟩, ⟨⟨_, c2, OwnE.nil _ _, fun x (hx : none = some x) => (by cases hx)⟩, e2, by simp, by simp, by simp [elsL], by simp [ensL]⟩, ⟨c3, e3⟩, ⟨by simp, List.nodup_nil⟩, ?_, by simp [Mm.live, ensL]⟩, rfl, hb, by rw [← hn]; exact hcol⟩
  exact ⟨⟨Int.le_refl 0, (by decide : (0 : Int) ≤ 1000000)⟩, ⟨Int.le_refl 0, (by decide : (0 : Int) ≤ 1000000)⟩, HOk.nil _ _, HOk.nil _ _, by simp [Mm.bd], List.Pairwise.nil, by simp [Mm.bd, Bd.live, plainH, Half.all, numsL]⟩
set_option maxHeartbeats 4000000 in
theorem new_calls (O : Nat → Nat) (q : Nat) (w : World) : Calls Try.prog 14 #[] w (NewP O q w) := by
  have h1 := newHalf_calls 1 (.inl rfl) w
  have h2 := newHalf_calls 2 (.inr rfl) (w.alloc (.cells #[betV 1, .slice none 0 0] 136))
  have H1 := hid h1
  have H2 := hid h2
  clear h1 h2
  have hmm := @run_makeMap Try.prog
  go_enter Try.func14, Try.ntmps14
  go_wp2_with fail
  refine H1.out.mono ?_
  rintro e w1 ⟨rfl, rfl⟩
  go_wp2_with fail
  refine H2.out.mono ?_
  rintro e w1 ⟨rfl, rfl⟩
  go_wp2
  exact bodyPost_ret (v := pt (w.heap.size + 1 + 1 + 1)) (by simp [results, Try.results14, go_sem]) rfl (new_fin O q w)

/-- A status' cells. -/
def statA (o : Od) (l h : Int) (b : Bool) : Value := .agg #[.int .i64 o.m, .int .i64 o.s, .int .i64 o.k, .int .i64 o.f, .int .i64 o.p, .int .i64 o.t, .int .i64 o.q, .int .i64 o.pk, .int .i64 l, .int .i64 h, .bool b]
def od0 : Od := ⟨0, 0, 0, 0, 0, 0, 0, 0⟩
/-- What Get comes to. -/
def GetP (w : World) (G : Mm) (n : Int) (e : Ending) (w' : World) : Prop :=
  Below w.heap.size w w' ∧ ((∃ E ∈ G.live, (G.en E).n = n ∧ ∃ wts, e = .returned (.tuple #[statA (G.en E).o (G.en E).l (G.en E).h wts, .int .i64 0])) ∨ (n ∉ G.live.map (fun E => (G.en E).n) ∧ e = .returned (.tuple #[statA od0 0 0 false, .int .i64 4])))
end Go.Proofs.Ytdjhpldiifdifaa
namespace Go.Proofs.Ytdjhpldiifdifaa
set_option linter.unusedSimpArgs false
set_option linter.unusedVariables false
open Go.RowKit Go.Shelf
attribute [local go_sem] Oper.semAt_some
attribute [local go_sem ↓] Go.wp_at_zero Go.wp_at_succ

theorem wpList_lookup_run {P : Program} {w : World} {ops : Array Oper} {rest : List Oper} {o : Oper} {a : Act} {Q : Exit → Act → World → Prop} (hgd : o.guard = none) (m x : Operand) (t : TypeId)
    (ho : o.op = .lookup t m x false) (mv xv v : Value) (hm : a.eval m = mv) (hx : a.eval x = xv) (hrun : (Instr.lookup t mv xv false).run P w = .ok v w) (h : wpList P ops Q rest (a.put o.dst v) w) :
    wpList P ops Q (o :: rest) a w := by
  refine wpList_plain hgd fun K hK => ?_
  unfold Oper.wp
  simp [execOp, ho, hm, hx, hrun, Result.andThen]
  exact hK _ _ h
/-- An entry on the board: its cells. -/
theorem BdC.entry {O : Nat → Nat} {q : Nat} {w : World} {b : Nat} {G : Mm} {nums last : Int} {evs : List Ev} (h : BdC O q w b G nums last evs) {E : Nat} (hE : E ∈ G.live) : ∃ wx px, EnC w E (G.en E) wx px := by
  have := (Mm.put_live (s := 1) (.inl rfl) G [] G.en).1.mem_iff.1 hE
  rcases List.mem_append.1 this with h2 | h2
  · obtain ⟨_, P, hP⟩ := h.buy.entry h2
    exact ⟨_, _, hP⟩
  · rcases List.mem_append.1 h2 with h2 | h2
    · obtain ⟨_, P, hP⟩ := h.sell.entry h2
      exact ⟨_, _, hP⟩
    · exact ⟨_, _, (h.wait.ent E h2).2⟩
/-- The map's look-up, in terms of the board. -/
theorem BdC.look {O : Nat → Nat} {q : Nat} {w : World} {b : Nat} {G : Mm} {nums last : Int} {evs : List Ev} (h : BdC O q w b G nums last evs) {n : Int} (hn : (Lit.int .i64 n).wf = true) :
    (∃ E ∈ G.live, (G.en E).n = n ∧ (Instr.lookup 88 (.map (some G.mb)) (.int .i64 n) false).run Try.prog w = .ok (pt E) w) ∨ (n ∉ G.live.map (fun E => (G.en E).n) ∧ (Instr.lookup 88 (.map (some G.mb)) (.int .i64 n) false).run Try.prog w = .ok (.pointer none) w) := by
  have lk := h.map.map.look hn
  cases hg : getM (prs G.en G.live) n with
  | none =>
    right
    rw [hg] at lk
    have := getM_none hg
    refine ⟨fun hm => this ?_, lk⟩
    obtain ⟨E, hE, e⟩ := List.mem_map.1 hm
    exact List.mem_map.2 ⟨(_, E), List.mem_map.2 ⟨E, hE, rfl⟩, e⟩
  | some E =>
    left
    rw [hg] at lk
    obtain ⟨E', hE', e⟩ := List.mem_map.1 (getM_mem hg)
    injection e with e1 e2
    subst e2
    exact ⟨E', hE', e1, lk⟩

set_option maxRecDepth 100000 in
set_option maxHeartbeats 4000000 in
theorem get_calls {O : Nat → Nat} {q : Nat} {w : World} {b : Nat} {G : Mm} {nums last : Int} {evs : List Ev} (h : BdC O q w b G nums last evs) (n : Int) (hn : (Lit.int .i64 n).wf = true) :
    Calls Try.prog 18 #[pt b, .int .i64 n] w (GetP w G n) := by
  have hb := h.step (Step.of_below (Below.alloc (Below.refl w.heap.size w) (Nat.le_refl _) (.cells #[.int .i64 0, .int .i64 0, .int .i64 0, .int .i64 0, .int .i64 0, .int .i64 0, .int .i64 0, .int .i64 0, .int .i64 0, .int .i64 0, .bool false] 42)) (fun _ => False)) (fun _ _ => not_false)
  obtain ⟨_, bm, _, _, hbl, _, _⟩ := h.parts.cells (s := 1) (.inl rfl)
  rcases hb.look hn with ⟨E, hE, hEn, lk⟩ | ⟨hno, lk⟩
  · obtain ⟨wx, px, eE⟩ := h.entry hE
    obtain ⟨x1, x2, x3, x4, x5, x6, x7, x8, x9⟩ := eE.order
    obtain ⟨_, _, _, _, _, _, x10, hEl, _, _⟩ := eE.cells
    obtain ⟨x11, _⟩ := eE.flag
    have LK := hid lk
    have HE := hid hE
    have HN := hid hEn
    clear h hb hE hEn lk eE
    go_enter Try.func18, Try.ntmps18
    go_wp2_with (refine wpList_lookup_run rfl (.tmp 13) (.tmp 14) 88 rfl _ _ _ rfl rfl LK.out ?_)
    go_region
    all_goals go_wp2
    all_goals exact bodyPost_ret (v := .tuple #[statA (G.en E).o (G.en E).l (G.en E).h wx, .int .i64 0]) (by simp [results, Try.results18, go_sem, statA]) rfl ⟨Below.drew (Below.alloc (Below.refl _ _) (Nat.le_refl _) _), .inl ⟨E, HE.out, HN.out, wx, rfl⟩⟩
  · have LK := hid lk
    have HN := hid hno
    clear h hb lk hno
    go_enter Try.func18, Try.ntmps18
    go_wp2_with (refine wpList_lookup_run rfl (.tmp 13) (.tmp 14) 88 rfl _ _ _ rfl rfl LK.out ?_)
    exact bodyPost_ret (v := .tuple #[statA od0 0 0 false, .int .i64 4]) (by simp [results, Try.results18, go_sem, statA, od0]) rfl ⟨Below.alloc (Below.refl _ _) (Nat.le_refl _) _, .inr ⟨HN.out, rfl⟩⟩
end Go.Proofs.Ytdjhpldiifdifaa
namespace Go.Proofs.Ytdjhpldiifdifaa
set_option linter.unusedSimpArgs false
set_option linter.unusedVariables false
open Go.RowKit Go.Shelf
attribute [local go_sem] Oper.semAt_some
attribute [local go_sem ↓] Go.wp_at_zero Go.wp_at_succ

theorem takeH_cut {side : Int} (en : Nat → En) {p : Int} {L P X : Nat} {q1 q2 : List (Nat × Nat)} {post : List Lv} (hp : (en X).o.p = p) (hn : (numsL ((q1 ++ (P, X) :: q2).map fun y => en y.2)).Nodup) : ∀ {pre : List Lv}, (∀ x ∈ pre, x.1 ≠ p) → plainH (cutL pre p L (q1 ++ q2) post) en = takeH (en X) (plainH (pre ++ (p, L, q1 ++ (P, X) :: q2) :: post) en)
  | x :: pre, h1 => by
    have ih := takeH_cut (side := side) en (L := L) hp hn (post := post) (pre := pre) (fun y hy => h1 y (List.mem_cons_of_mem _ hy))
    have hx := h1 x (by simp)
    have e : plainH (cutL (x :: pre) p L (q1 ++ q2) post) en = (x.1, x.2.2.map fun y => en y.2) :: plainH (cutL pre p L (q1 ++ q2) post) en := by unfold cutL; split <;> rfl
    rw [e, ih]
    show _ = takeH (en X) ((x.1, x.2.2.map fun y => en y.2) :: plainH (pre ++ (p, L, q1 ++ (P, X) :: q2) :: post) en)
    rw [takeH, hp, if_neg hx]
  | [], _ => by
    show _ = takeH (en X) ((p, (q1 ++ (P, X) :: q2).map fun y => en y.2) :: plainH post en)
    have hf : ((q1 ++ (P, X) :: q2).map fun y => en y.2).filter (fun y => decide (y.n ≠ (en X).n)) = (q1 ++ q2).map fun y => en y.2 := by
      have hn' : ((q1.map fun y => (en y.2).n) ++ (en X).n :: (q2.map fun y => (en y.2).n)).Nodup := by
        have := hn
        simp only [numsL, List.map_append, List.map_cons, List.map_map] at this
        exact this
      obtain ⟨n1, n2, n3⟩ := List.nodup_append.1 hn'
      obtain ⟨n4, n5⟩ := List.nodup_cons.1 n2
      rw [List.map_append, List.map_cons, List.filter_append, List.filter_cons, if_neg (by simp), List.map_append]
      congr 1
      · refine List.filter_eq_self.2 fun y hy => ?_
        obtain ⟨z, hz, rfl⟩ := List.mem_map.1 hy
        have := n3 _ (List.mem_map.2 ⟨z, hz, rfl⟩) (en X).n (by simp)
        simpa using this
      · refine List.filter_eq_self.2 fun y hy => ?_
        obtain ⟨z, hz, rfl⟩ := List.mem_map.1 hy
        have : (en z.2).n ≠ (en X).n := fun e => n4 (by rw [← e]; exact List.mem_map.2 ⟨z, hz, rfl⟩)
        simpa using this
    rw [takeH, hp, if_pos rfl, hf]
    unfold cutL
    by_cases hq : q1 ++ q2 = []
    · rw [if_pos hq, hq]; rfl
    · rw [if_neg hq, if_neg (by simpa using hq)]; rfl
/-- half.take of any entry in plain words. -/
def TookH (O : Nat → Nat) (c : Nat) (w : World) (H : Nat) (side : Int) (ls : List Lv) (X : Nat) (en : Nat → En) (e : Ending) (w' : World) : Prop :=
  e = .returned (.tuple #[]) ∧ (∃ ls', HlfC (grow O w c) c w' H side ls' en ∧ plainH ls' en = takeH (en X) (plainH ls en) ∧ (ensL ls).Perm (X :: ensL ls')) ∧ EnC w' X (en X) false none ∧ Kept (fun k => O k = c) w w'
theorem half_take {O : Nat → Nat} {c : Nat} {w : World} {H : Nat} {side : Int} {ls : List Lv} {X : Nat} {en : Nat → En} (h : HlfC O c w H side ls en) (ho : HSh side (plainH ls en)) (hlen : (ensL ls).length ≤ 5000) (hX : X ∈ ensL ls) (hn : (numsL ((ensL ls).map en)).Nodup) :
    Calls Try.prog 72 #[pt H, pt X] w (TookH O c w H side ls X en) := by
  have h1 := lv_len ho
  obtain ⟨x, hx, hm⟩ := List.mem_flatMap.1 hX
  obtain ⟨y, hy, rfl⟩ := List.mem_map.1 hm
  obtain ⟨pre, post, rfl⟩ := List.append_of_mem hx
  obtain ⟨p, L, q⟩ := x
  obtain ⟨q1, q2, hq⟩ := List.append_of_mem hy
  simp only at hq
  subst hq
  obtain ⟨P, X⟩ := y
  have hql := q_len (ls := pre ++ (p, L, q1 ++ (P, X) :: q2) :: post) (x := (p, L, q1 ++ (P, X) :: q2)) (by simp)
  simp only at hql
  have hp : (en X).o.p = p := ho.price (p, (q1 ++ (P, X) :: q2).map fun y => en y.2) (by simp [plainH]) (en X) (by simp)
  have hs := sorted_ls ho
  obtain ⟨s1, s2, s3⟩ := List.pairwise_append.1 hs
  obtain ⟨s4, s5⟩ := List.pairwise_cons.1 s2
  have hpre : ∀ z ∈ pre, better side z.1 p = true := fun z hz => s3 z hz (p, L, q1 ++ (P, X) :: q2) List.mem_cons_self
  have hpost : ∀ z ∈ (p, L, q1 ++ (P, X) :: q2) :: post, better side z.1 p = false := fun z hz => by
    rcases List.mem_cons.1 hz with rfl | hz
    · exact better_irr
    · exact better_asymm (s4 z hz)
  refine (take_calls h hp hpre hpost (by omega) (by omega)).mono ?_
  rintro e w' ⟨r1, r2, r3, r4⟩
  have pm := flat_mid (fun x : Lv => x.2.2.map Prod.snd) pre post (p, L, q1 ++ (P, X) :: q2)
  refine ⟨r1, ⟨_, r2, takeH_cut (side := side) en hp ?_ (fun z hz => better_ne (hpre z hz)), ?_⟩, r3, r4⟩
  · have hp2 : (numsL ((ensL (pre ++ (p, L, q1 ++ (P, X) :: q2) :: post)).map en)).Perm (numsL (((q1 ++ (P, X) :: q2).map Prod.snd ++ (pre ++ post).flatMap fun x => x.2.2.map Prod.snd).map en)) := (pm.map en).map _
    have := hp2.nodup_iff.1 hn
    rw [List.map_append, numsL_append] at this
    have := (List.nodup_append.1 this).1
    rw [List.map_map] at this
    exact this
  · refine pm.trans ?_
    have e2 : ((q1 ++ (P, X) :: q2).map Prod.snd).Perm (X :: (q1 ++ q2).map Prod.snd) := by
      rw [List.map_append, List.map_cons, List.map_append]
      exact List.perm_middle
    refine (e2.append_right _).trans ?_
    refine List.Perm.cons X ?_
    unfold cutL
    by_cases hq : q1 ++ q2 = []
    · rw [if_pos hq, hq]; exact List.Perm.refl _
    · rw [if_neg hq]
      exact (flat_mid (fun x : Lv => x.2.2.map Prod.snd) pre post (p, L, q1 ++ q2)).symm

/-- What owned comes to. -/
def OwnedP (w : World) (G : Mm) (n m : Int) (e : Ending) (w' : World) : Prop :=
  w' = w ∧ ((∃ E ∈ G.live, (G.en E).n = n ∧ (G.en E).o.m = m ∧ e = .returned (.tuple #[pt E, .int .i64 0])) ∨ (∃ E ∈ G.live, (G.en E).n = n ∧ (G.en E).o.m ≠ m ∧ e = .returned (.tuple #[.pointer none, .int .i64 8])) ∨ (n ∉ G.live.map (fun E => (G.en E).n) ∧ e = .returned (.tuple #[.pointer none, .int .i64 4])))
set_option maxRecDepth 100000 in
set_option maxHeartbeats 4000000 in
theorem owned_calls {O : Nat → Nat} {q : Nat} {w : World} {b : Nat} {G : Mm} {nums last : Int} {evs : List Ev} (h : BdC O q w b G nums last evs) (n m : Int) (hn : (Lit.int .i64 n).wf = true) :
    Calls Try.prog 39 #[pt b, .int .i64 n, .int .i64 m] w (OwnedP w G n m) := by
  obtain ⟨_, bm, _, _, hbl, _, _⟩ := h.parts.cells (s := 1) (.inl rfl)
  rcases h.look hn with ⟨E, hE, hEn, lk⟩ | ⟨hno, lk⟩
  · obtain ⟨wx, px, eE⟩ := h.entry hE
    obtain ⟨x1, _⟩ := eE.order
    have hEl := eE.lt
    have LK := hid lk
    have HE := hid hE
    have HN := hid hEn
    clear h hE hEn lk eE
    by_cases hm : (G.en E).o.m = m
    · have e1 : ((G.en E).o.m == m) = true := by simpa using hm
      have e2 : ((G.en E).o.m != m) = false := by simpa using hm
      have HM := hid hm
      clear hm
      go_enter Try.func39, Try.ntmps39
      go_wp2_with (refine wpList_lookup_run rfl (.tmp 14) (.tmp 15) 88 rfl _ _ _ rfl rfl LK.out ?_)
      exact bodyPost_ret (v := .tuple #[pt E, .int .i64 0]) (by simp [results, Try.results39, go_sem]) rfl ⟨rfl, .inl ⟨E, HE.out, HN.out, HM.out, rfl⟩⟩
    · have e1 : ((G.en E).o.m == m) = false := by simpa using hm
      have e2 : ((G.en E).o.m != m) = true := by simpa using hm
      have HM := hid hm
      clear hm
      go_enter Try.func39, Try.ntmps39
      go_wp2_with (refine wpList_lookup_run rfl (.tmp 14) (.tmp 15) 88 rfl _ _ _ rfl rfl LK.out ?_)
      exact bodyPost_ret (v := .tuple #[.pointer none, .int .i64 8]) (by simp [results, Try.results39, go_sem]) rfl ⟨rfl, .inr (.inl ⟨E, HE.out, HN.out, HM.out, rfl⟩)⟩
  · have LK := hid lk
    have HN := hid hno
    clear h lk hno
    go_enter Try.func39, Try.ntmps39
    go_wp2_with (refine wpList_lookup_run rfl (.tmp 14) (.tmp 15) 88 rfl _ _ _ rfl rfl LK.out ?_)
    exact bodyPost_ret (v := .tuple #[.pointer none, .int .i64 4]) (by simp [results, Try.results39, go_sem]) rfl ⟨rfl, .inr (.inr ⟨HN.out, rfl⟩)⟩
end Go.Proofs.Ytdjhpldiifdifaa
