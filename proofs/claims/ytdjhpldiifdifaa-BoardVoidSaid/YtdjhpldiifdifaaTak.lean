/- half.take of any entry in plain words; slices.DeleteFunc; board.owned. -/
import Derived.Test.YtdjhpldiifdifaaGet
namespace Go.Proofs.Ytdjhpldiifdifaa
set_option linter.unusedSimpArgs false
set_option linter.unusedVariables false
open Go.RowKit Go.Shelf
attribute [local go_sem] Oper.semAt_some
attribute [local go_sem ↓] Go.wp_at_zero Go.wp_at_succ

theorem takeH_cut {side : Int} (en : Nat → En) {p : Int} {L P X : Nat} {q1 q2 : List (Nat × Nat)} {post : List Lv} (hp : (en X).o.p = p) (hn : (numsL ((q1 ++ (P, X) :: q2).map fun y => en y.2)).Nodup) : ∀ {pre : List Lv}, (∀ x ∈ pre, x.1 ≠ p) → plainH (cutL pre p L (q1 ++ q2) post) en = takeH (en X) (plainH (pre ++ (p, L, q1 ++ (P, X) :: q2) :: post) en)
  | x :: pre, h1 => by
    have ih := takeH_cut (side := side) en (L := L) hp hn (post := post) (pre := pre) (fun y hy => h1 y (List.mem_cons_of_mem _ hy))
    have hx := h1 x (by simp)
    have e : plainH (cutL (x :: pre) p L (q1 ++ q2) post) en = (x.1, x.2.2.map fun y => en y.2) :: plainH (cutL pre p L (q1 ++ q2) post) en := by unfold cutL; split <;> rfl
    rw [e, ih]
    show _ = takeH (en X) ((x.1, x.2.2.map fun y => en y.2) :: plainH (pre ++ (p, L, q1 ++ (P, X) :: q2) :: post) en)
    rw [takeH, hp, if_neg hx]
  | [], _ => by
    show _ = takeH (en X) ((p, (q1 ++ (P, X) :: q2).map fun y => en y.2) :: plainH post en)
    have hf : ((q1 ++ (P, X) :: q2).map fun y => en y.2).filter (fun y => decide (y.n ≠ (en X).n)) = (q1 ++ q2).map fun y => en y.2 := by
      have hn' : ((q1.map fun y => (en y.2).n) ++ (en X).n :: (q2.map fun y => (en y.2).n)).Nodup := by
        have := hn
        simp only [numsL, List.map_append, List.map_cons, List.map_map] at this
        exact this
      obtain ⟨n1, n2, n3⟩ := List.nodup_append.1 hn'
      obtain ⟨n4, n5⟩ := List.nodup_cons.1 n2
      rw [List.map_append, List.map_cons, List.filter_append, List.filter_cons, if_neg (by simp), List.map_append]
      congr 1
      · refine List.filter_eq_self.2 fun y hy => ?_
        obtain ⟨z, hz, rfl⟩ := List.mem_map.1 hy
        have := n3 _ (List.mem_map.2 ⟨z, hz, rfl⟩) (en X).n (by simp)
        simpa using this
      · refine List.filter_eq_self.2 fun y hy => ?_
        obtain ⟨z, hz, rfl⟩ := List.mem_map.1 hy
        have : (en z.2).n ≠ (en X).n := fun e => n4 (by rw [← e]; exact List.mem_map.2 ⟨z, hz, rfl⟩)
        simpa using this
    rw [takeH, hp, if_pos rfl, hf]
    unfold cutL
    by_cases hq : q1 ++ q2 = []
    · rw [if_pos hq, hq]; rfl
    · rw [if_neg hq, if_neg (by simpa using hq)]; rfl
/-- half.take of any entry in plain words. -/
def TookH (O : Nat → Nat) (c : Nat) (w : World) (H : Nat) (side : Int) (ls : List Lv) (X : Nat) (en : Nat → En) (e : Ending) (w' : World) : Prop :=
  e = .returned (.tuple #[]) ∧ (∃ ls', HlfC (grow O w c) c w' H side ls' en ∧ plainH ls' en = takeH (en X) (plainH ls en) ∧ (ensL ls).Perm (X :: ensL ls')) ∧ EnC w' X (en X) false none ∧ Kept (fun k => O k = c) w w'
theorem half_take {O : Nat → Nat} {c : Nat} {w : World} {H : Nat} {side : Int} {ls : List Lv} {X : Nat} {en : Nat → En} (h : HlfC O c w H side ls en) (ho : HSh side (plainH ls en)) (hlen : (ensL ls).length ≤ 5000) (hX : X ∈ ensL ls) (hn : (numsL ((ensL ls).map en)).Nodup) :
    Calls Try.prog 72 #[pt H, pt X] w (TookH O c w H side ls X en) := by
  have h1 := lv_len ho
  obtain ⟨x, hx, hm⟩ := List.mem_flatMap.1 hX
  obtain ⟨y, hy, rfl⟩ := List.mem_map.1 hm
  obtain ⟨pre, post, rfl⟩ := List.append_of_mem hx
  obtain ⟨p, L, q⟩ := x
  obtain ⟨q1, q2, hq⟩ := List.append_of_mem hy
  simp only at hq
  subst hq
  obtain ⟨P, X⟩ := y
  have hql := q_len (ls := pre ++ (p, L, q1 ++ (P, X) :: q2) :: post) (x := (p, L, q1 ++ (P, X) :: q2)) (by simp)
  simp only at hql
  have hp : (en X).o.p = p := ho.price (p, (q1 ++ (P, X) :: q2).map fun y => en y.2) (by simp [plainH]) (en X) (by simp)
  have hs := sorted_ls ho
  obtain ⟨s1, s2, s3⟩ := List.pairwise_append.1 hs
  obtain ⟨s4, s5⟩ := List.pairwise_cons.1 s2
  have hpre : ∀ z ∈ pre, better side z.1 p = true := fun z hz => s3 z hz (p, L, q1 ++ (P, X) :: q2) List.mem_cons_self
  have hpost : ∀ z ∈ (p, L, q1 ++ (P, X) :: q2) :: post, better side z.1 p = false := fun z hz => by
    rcases List.mem_cons.1 hz with rfl | hz
    · exact better_irr
    · exact better_asymm (s4 z hz)
  refine (take_calls h hp hpre hpost (by omega) (by omega)).mono ?_
  rintro e w' ⟨r1, r2, r3, r4⟩
  have pm := flat_mid (fun x : Lv => x.2.2.map Prod.snd) pre post (p, L, q1 ++ (P, X) :: q2)
  refine ⟨r1, ⟨_, r2, takeH_cut (side := side) en hp ?_ (fun z hz => better_ne (hpre z hz)), ?_⟩, r3, r4⟩
  · have hp2 : (numsL ((ensL (pre ++ (p, L, q1 ++ (P, X) :: q2) :: post)).map en)).Perm (numsL (((q1 ++ (P, X) :: q2).map Prod.snd ++ (pre ++ post).flatMap fun x => x.2.2.map Prod.snd).map en)) := (pm.map en).map _
    have := hp2.nodup_iff.1 hn
    rw [List.map_append, numsL_append] at this
    have := (List.nodup_append.1 this).1
    rw [List.map_map] at this
    exact this
  · refine pm.trans ?_
    have e2 : ((q1 ++ (P, X) :: q2).map Prod.snd).Perm (X :: (q1 ++ q2).map Prod.snd) := by
      rw [List.map_append, List.map_cons, List.map_append]
      exact List.perm_middle
    refine (e2.append_right _).trans ?_
    refine List.Perm.cons X ?_
    unfold cutL
    by_cases hq : q1 ++ q2 = []
    · rw [if_pos hq, hq]; exact List.Perm.refl _
    · rw [if_neg hq]
      exact (flat_mid (fun x : Lv => x.2.2.map Prod.snd) pre post (p, L, q1 ++ q2)).symm

/-- What owned comes to. -/
def OwnedP (w : World) (G : Mm) (n m : Int) (e : Ending) (w' : World) : Prop :=
  w' = w ∧ ((∃ E ∈ G.live, (G.en E).n = n ∧ (G.en E).o.m = m ∧ e = .returned (.tuple #[pt E, .int .i64 0])) ∨ (∃ E ∈ G.live, (G.en E).n = n ∧ (G.en E).o.m ≠ m ∧ e = .returned (.tuple #[.pointer none, .int .i64 8])) ∨ (n ∉ G.live.map (fun E => (G.en E).n) ∧ e = .returned (.tuple #[.pointer none, .int .i64 4])))
set_option maxRecDepth 100000 in
set_option maxHeartbeats 4000000 in
theorem owned_calls {O : Nat → Nat} {q : Nat} {w : World} {b : Nat} {G : Mm} {nums last : Int} {evs : List Ev} (h : BdC O q w b G nums last evs) (n m : Int) (hn : (Lit.int .i64 n).wf = true) :
    Calls Try.prog 39 #[pt b, .int .i64 n, .int .i64 m] w (OwnedP w G n m) := by
  obtain ⟨_, bm, _, _, hbl, _, _⟩ := h.parts.cells (s := 1) (.inl rfl)
  rcases h.look hn with ⟨E, hE, hEn, lk⟩ | ⟨hno, lk⟩
  · obtain ⟨wx, px, eE⟩ := h.entry hE
    obtain ⟨x1, _⟩ := eE.order
    have hEl := eE.lt
    have LK := hid lk
    have HE := hid hE
    have HN := hid hEn
    clear h hE hEn lk eE
    by_cases hm : (G.en E).o.m = m
    · have e1 : ((G.en E).o.m == m) = true := by simpa using hm
      have e2 : ((G.en E).o.m != m) = false := by simpa using hm
      have HM := hid hm
      clear hm
      go_enter Try.func39, Try.ntmps39
      go_wp2_with (refine wpList_lookup_run rfl (.tmp 14) (.tmp 15) 88 rfl _ _ _ rfl rfl LK.out ?_)
      exact bodyPost_ret (v := .tuple #[pt E, .int .i64 0]) (by simp [results, Try.results39, go_sem]) rfl ⟨rfl, .inl ⟨E, HE.out, HN.out, HM.out, rfl⟩⟩
    · have e1 : ((G.en E).o.m == m) = false := by simpa using hm
      have e2 : ((G.en E).o.m != m) = true := by simpa using hm
      have HM := hid hm
      clear hm
      go_enter Try.func39, Try.ntmps39
      go_wp2_with (refine wpList_lookup_run rfl (.tmp 14) (.tmp 15) 88 rfl _ _ _ rfl rfl LK.out ?_)
      exact bodyPost_ret (v := .tuple #[.pointer none, .int .i64 8]) (by simp [results, Try.results39, go_sem]) rfl ⟨rfl, .inr (.inl ⟨E, HE.out, HN.out, HM.out, rfl⟩)⟩
  · have LK := hid lk
    have HN := hid hno
    clear h lk hno
    go_enter Try.func39, Try.ntmps39
    go_wp2_with (refine wpList_lookup_run rfl (.tmp 14) (.tmp 15) 88 rfl _ _ _ rfl rfl LK.out ?_)
    exact bodyPost_ret (v := .tuple #[.pointer none, .int .i64 4]) (by simp [results, Try.results39, go_sem]) rfl ⟨rfl, .inr (.inr ⟨HN.out, rfl⟩)⟩
end Go.Proofs.Ytdjhpldiifdifaa
