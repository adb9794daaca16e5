/- A law's state: the board in memory, the reference's board in memory, and that both say the same. The law's calls: the board's and the reference's give the same. No function of the program in sight but by contract. The law's calls: what is left behind both. The law's state: its start, and writes to blocks of the law's own. -/
import Derived.Test.YtdjhpldiifdifaaJRm1
import Derived.Test.YtdjhpldiifdifaaJKee0
import Derived.Test.YtdjhpldiifdifaaJKee1
import Derived.Test.YtdjhpldiifdifaaJRa1
import Derived.Test.YtdjhpldiifdifaaJRe1
import Derived.Test.YtdjhpldiifdifaaJRm6
import Derived.Test.YtdjhpldiifdifaaJNew
namespace Go.Proofs.Ytdjhpldiifdifaa
set_option linter.unusedSimpArgs false
set_option linter.unusedVariables false
open Go.RowKit Go.Shelf

/-- A block of the reference's entries. -/
def isEn (w : World) (k : Nat) : Bool := match w.heap[k]? with
  | some (.cells _ ty) => decide (ty = 53)
  | _ => false
theorem isEn_cells {w : World} {k : Nat} {cs : Array Value} {ty : TypeId} (h : Cells w k cs ty) : isEn w k = decide (ty = 53) := by
  unfold isEn
  have e : w.heap[k]? = some (.cells cs ty) := h
  rw [e]
  rfl
/-- Another colouring that differs at blocks of the reference's entries alone. -/
theorem TopC.recolE {O O' : Nat → Nat} {c : Nat} {w : World} {b hb hs mb : Nat} {wt : List Nat} {nums last : Int} {evs : List Ev} (h : TopC O c w b hb hs mb wt nums last evs) (hO : ∀ k, isEn w k = false → O' k = O k) : TopC O' c w b hb hs mb wt nums last evs := by
  obtain ⟨vw, ve, h1, h2, h3, h4, h5⟩ := h.cell
  refine ⟨⟨vw, ve, h1, h2, h3, fun x hx => ?_, fun x hx => ?_⟩, ?_⟩
  · obtain ⟨cs, hcs⟩ := own_lt h2 hx
    rw [hO x (by rw [isEn_cells hcs]; rfl), h4 x hx]
  · obtain ⟨cs, hcs⟩ := own_lt h3 hx
    rw [hO x (by rw [isEn_cells hcs]; rfl), h5 x hx]
  · rw [hO b (by rw [isEn_cells h1]; rfl), h.col]
theorem HlfC.recolE {O O' : Nat → Nat} {c : Nat} {w : World} {H : Nat} {side : Int} {ls : List Lv} {en : Nat → En} (h : HlfC O c w H side ls en) (hO : ∀ k, isEn w k = false → O' k = O k) : HlfC O' c w H side ls en := by
  obtain ⟨v, h1, h2, h3⟩ := h.cell
  refine ⟨⟨v, h1, h2, fun x hx => ?_⟩, ?_, fun x hx => ?_, h.nodL, h.nodE, h.nodN⟩
  · obtain ⟨cs, hcs⟩ := own_lt h2 hx
    rw [hO x (by rw [isEn_cells hcs]; rfl), h3 x hx]
  · rw [hO H (by rw [isEn_cells h1]; rfl), h.col]
  · obtain ⟨a1, a2, a3⟩ := h.lv x hx
    refine ⟨a1, by rw [hO _ (by rw [isEn_cells a1.c]; rfl), a2], fun y hy => ?_⟩
    obtain ⟨b1, b2, b3⟩ := a3 y hy
    obtain ⟨cs, hcs⟩ := a1.l.mem y hy
    exact ⟨by rw [hO _ (by rw [isEn_cells hcs]; rfl), b1], by rw [hO _ (by rw [isEn_cells b3]; rfl), b2], b3⟩
theorem MpC.recolE {O O' : Nat → Nat} {c : Nat} {w : World} {mb : Nat} {l : List (Int × Nat)} (h : MpC O c w mb l) (hO : ∀ k, isEn w k = false → O' k = O k) : MpC O' c w mb l := by
  refine ⟨h.map, ?_⟩
  obtain ⟨D, ⟨es, clock, hb, _⟩, _⟩ := h.map.own
  rw [hO mb (by unfold isEn; rw [hb]), h.col]
theorem WtC.recolE {O O' : Nat → Nat} {c : Nat} {w : World} {wt : List Nat} {en : Nat → En} (h : WtC O c w wt en) (hO : ∀ k, isEn w k = false → O' k = O k) : WtC O' c w wt en :=
  ⟨fun E hE => ⟨by rw [hO E (by rw [isEn_cells (h.ent E hE).2]; rfl), (h.ent E hE).1], (h.ent E hE).2⟩, h.nod⟩
theorem BdC.recolE {O O' : Nat → Nat} {q : Nat} {w : World} {b : Nat} {G : Mm} {nums last : Int} {evs : List Ev} (h : BdC O q w b G nums last evs) (hO : ∀ k, isEn w k = false → O' k = O k) : BdC O' q w b G nums last evs :=
  ⟨h.top.recolE hO, h.buy.recolE hO, h.sell.recolE hO, h.map.recolE hO, h.wait.recolE hO, h.ok, h.few⟩
/-- No block of the reference's entries is a board's. -/
def Clean (O : Nat → Nat) (w : World) : Prop := ∀ k, isEn w k = true → O k = 0
/-- Blocks of the reference's entries lose their colour. -/
noncomputable def noE (w : World) (q n : Nat) (O : Nat → Nat) (k : Nat) : Nat := if isEn w k = true ∧ ((q < O k ∧ O k ≤ q + 6) ∨ n ≤ k) then 0 else O k
theorem noE_not {w : World} {q n : Nat} {O : Nat → Nat} {k : Nat} (h : isEn w k = false) : noE w q n O k = O k := by
  unfold noE
  rw [if_neg (by rw [h]; simp)]
theorem isEn_lt {w : World} {k : Nat} (h : isEn w k = true) : k < w.heap.size := by
  refine Nat.not_le.1 fun hk => ?_
  unfold isEn at h
  rw [Array.getElem?_eq_none hk] at h
  cases h
theorem isEn_same {w w' : World} {k : Nat} (h : w'.heap[k]? = w.heap[k]?) : isEn w' k = isEn w k := by unfold isEn; rw [h]
/-- What is behind a board's call, the reference's call and writes to blocks of the law's own. -/
theorem noE_step {q : Nat} {O O1 : Nat → Nat} {w w1 w3 : World} (st : Step (colB q) O w O1 w1) {X : Nat → Prop} (hk : Kept X w1 w3) (hX : ∀ k, X k → w.heap.size ≤ k) (hc : Clean O w) : Step (colB q) O w (noE w3 q w.heap.size O1) w3 ∧ Clean (noE w3 q w.heap.size O1) w3 := by
  have blk : ∀ k, k < w.heap.size → w3.heap[k]? = w1.heap[k]? := fun k h => hk.block k (Nat.lt_of_lt_of_le h st.size) (fun hx => by have := hX k hx; omega)
  refine ⟨⟨hk.os.trans st.os, hk.tape.trans st.tape, hk.output.trans st.output, Nat.le_trans st.size hk.size, fun k h hn => ?_, fun k h hcol => ?_⟩, fun k h => ?_⟩
  · obtain ⟨s1, s2⟩ := st.old k h hn
    refine ⟨(blk k h).trans s1, ?_⟩
    unfold noE
    rw [if_neg, s2]
    rintro ⟨_, ⟨e1, e2⟩ | e⟩
    · rw [s2] at e1 e2; exact hn ⟨e1, e2⟩
    · omega
  · unfold noE
    split
    · exact .inr rfl
    · exact st.col k h hcol
  · unfold noE
    split
    · rfl
    · rename_i hne
      rw [h] at hne
      have h1 : ¬ ((q < O1 k ∧ O1 k ≤ q + 6) ∨ w.heap.size ≤ k) := fun e => hne ⟨rfl, e⟩
      have h2 : k < w.heap.size := by omega
      by_cases hcol : colB q (O k)
      · rcases st.col k h2 hcol with e | e
        · exact absurd (.inl ⟨e.1, e.2⟩) h1
        · exact e
      · obtain ⟨s1, s2⟩ := st.old k h2 hcol
        rw [s2]
        exact hc k (by rw [← isEn_same ((blk k h2).trans s1)]; exact h)

/-- The state: i calls have been made. -/
structure LkS (q : Nat) (w : World) (b : Nat) (O : Nat → Nat) (G : Mm) (N : Nat) (last : Int) (vx : Value) (x : Rb) (i : Nat) : Prop where
  bd : BdC O q w b G N last []
  rel : Rel (G.bd N last) x
  row : RowR 0 w vx x.L
  clean : Clean O w
  num : N ≤ i
  turn : x.turn ≤ i * 1000000000000
theorem LkS.len {q : Nat} {w : World} {b : Nat} {O : Nat → Nat} {G : Mm} {N : Nat} {last : Int} {vx : Value} {x : Rb} {i : Nat} (h : LkS q w b O G N last vx x i) : x.L.length ≤ 4096 := by
  rw [h.rel.len, Mm.bd_live, List.length_map]; exact h.bd.few
theorem LkS.size {q : Nat} {w : World} {b : Nat} {O : Nat → Nat} {G : Mm} {N : Nat} {last : Int} {vx : Value} {x : Rb} {i : Nat} (h : LkS q w b O G N last vx x i) (hi : i ≤ 90) : sizeL (G.bd N last).live ≤ 100000000000 := by
  have h1 := live_few h.bd.ok (N := N) (Int.le_refl _)
  have h2 := sizeL_le (l := (G.bd N last).live) (fun e he => (live_ok h.bd.ok he).2.2)
  have h3 : (G.bd N last).live.length * 1000000001 ≤ 90 * 1000000001 := Nat.mul_le_mul_right _ (by have := h.num; omega)
  omega
theorem LkS.step {q : Nat} {w w' : World} {b : Nat} {O O' : Nat → Nat} {G : Mm} {N : Nat} {last : Int} {vx : Value} {x : Rb} {i : Nat} (h : LkS q w b O G N last vx x i) (hb : Below w.heap.size w w') (hO : ∀ k, k < w.heap.size → O' k = O k) (hc : Clean O' w') : LkS q w' b O' G N last vx x i := by
  have st : Step (fun _ => False) O w O' w' := ⟨hb.os, hb.tape, hb.output, hb.size, fun k hk _ => ⟨hb.block k hk, hO k hk⟩, fun _ _ h => h.elim⟩
  exact ⟨h.bd.step st (fun _ _ => not_false), h.rel, OwnE.below h.row hb, hc, h.num, h.turn⟩
/-- Only what is new has been made, and no entries of the reference among what is coloured. -/
theorem clean_grow {O : Nat → Nat} {w w' : World} (hb : Below w.heap.size w w') (hc : Clean O w) : Clean (grow O w 0) w' := fun k hk => by
  by_cases h : k < w.heap.size
  · rw [grow_old h]; exact hc k (by rw [← isEn_same (hb.block k h)]; exact hk)
  · exact grow_new (by omega)
theorem LkS.grow {q : Nat} {w w' : World} {b : Nat} {O : Nat → Nat} {G : Mm} {N : Nat} {last : Int} {vx : Value} {x : Rb} {i : Nat} (h : LkS q w b O G N last vx x i) (hb : Below w.heap.size w w') : LkS q w' b (Go.Proofs.Ytdjhpldiifdifaa.grow O w 0) G N last vx x i :=
  h.step hb (fun _ hk => grow_old hk) (clean_grow hb h.clean)
/-- Another board's call. -/
theorem LkS.other {q q' : Nat} {w w' : World} {b : Nat} {O O' : Nat → Nat} {G : Mm} {N : Nat} {last : Int} {vx : Value} {x : Rb} {i : Nat} (h : LkS q w b O G N last vx x i) (st : Step (colB q') O w O' w') (hq : q + 6 ≤ q' ∨ q' + 6 ≤ q) (hc : Clean O' w') : LkS q w' b O' G N last vx x i := by
  refine ⟨h.bd.step st (fun c h1 h2 => ?_), h.rel, OwnE.kept h.row st.kept (fun k hk => ?_), hc, h.num, h.turn⟩
  · have := h1.1; have := h1.2; have := h2.1; have := h2.2; omega
  · obtain ⟨cs, hcs⟩ := own_lt h.row hk
    show ¬ colB q' (O k)
    rw [h.clean k (by rw [isEn_cells hcs]; rfl)]
    exact fun e => absurd e.1 (by omega)
end Go.Proofs.Ytdjhpldiifdifaa
namespace Go.Proofs.Ytdjhpldiifdifaa
set_option linter.unusedSimpArgs false
set_option linter.unusedVariables false
open Go.RowKit Go.Shelf

theorem nodup_map_inj {α β : Type} {f : α → β} : ∀ {l : List α}, (l.map f).Nodup → ∀ {a b : α}, a ∈ l → b ∈ l → f a = f b → a = b
  | [], _, _, _, ha, _, _ => by cases ha
  | x :: l, h, a, b, ha, hb, e => by
    rw [List.map_cons, List.nodup_cons] at h
    rcases List.mem_cons.1 ha with h1 | ha
    · rcases List.mem_cons.1 hb with h2 | hb
      · rw [h1, h2]
      · exact absurd (List.mem_map.2 ⟨b, hb, by rw [← e, h1]⟩) h.1
    · rcases List.mem_cons.1 hb with h2 | hb
      · exact absurd (List.mem_map.2 ⟨a, ha, by rw [e, h2]⟩) h.1
      · exact nodup_map_inj h.2 ha hb e
theorem find_link {q : Nat} {w : World} {b : Nat} {O : Nat → Nat} {G : Mm} {N : Nat} {last : Int} {vx : Value} {x : Rb} {i : Nat} (k : LkS q w b O G N last vx x i) (n : Int) :
    (n ∉ G.live.map (fun E => (G.en E).n) ∧ findR x.L n = none) ∨ ∃ E ∈ G.live, (G.en E).n = n ∧ ∃ (j : Nat) (hj : j < x.L.length), findR x.L n = some j ∧ x.L[j].n = n ∧ x.L[j].en = G.en E ∧ (x.L[j].w = true ↔ E ∈ G.wt) := by
  have hlive := k.rel.live
  rw [Mm.bd_live] at hlive
  have hnn : (G.live.map fun E => (G.en E).n).Nodup := by
    have := k.bd.ok.once
    rw [Mm.bd_live] at this
    simpa [numsL, Function.comp_def] using this
  rcases findR_spec (L := x.L) n with ⟨h1, h2⟩ | ⟨j, hj, h1, h2⟩
  · refine .inl ⟨fun hm => ?_, h1⟩
    obtain ⟨E, hE, e⟩ := List.mem_map.1 hm
    obtain ⟨y, hy, e2⟩ := List.mem_map.1 (hlive.mem_iff.2 (List.mem_map.2 ⟨E, hE, rfl⟩))
    refine h2 y hy ?_
    have e3 : y.en.n = (G.en E).n := by rw [e2]
    exact e3.trans e
  · right
    obtain ⟨E, hE, e⟩ := List.mem_map.1 (hlive.mem_iff.1 (List.mem_map.2 ⟨x.L[j], List.getElem_mem hj, rfl⟩))
    have en : (G.en E).n = n := by rw [e]; exact h2
    refine ⟨E, hE, en, j, hj, h1, h2, e.symm, ?_⟩
    have wl : ∀ E' ∈ G.wt, E' ∈ G.live := fun E' h => by unfold Mm.live; simp [h]
    obtain ⟨A, B, W, kk⟩ := k.rel
    have hm := kk.perm.mem_iff.1 (List.getElem_mem hj)
    constructor
    · intro hw
      have hW : x.L[j] ∈ W := by
        rcases List.mem_append.1 hm with h | h
        · rw [(kk.a.w _ h).1] at hw; cases hw
        · rcases List.mem_append.1 h with h | h
          · rw [(kk.b.w _ h).1] at hw; cases hw
          · exact h
      have h3 : x.L[j].en ∈ (G.bd N last).wait := by rw [← kk.w]; exact List.mem_map.2 ⟨_, hW, rfl⟩
      obtain ⟨E', hE', e'⟩ := List.mem_map.1 h3
      have : E' = E := nodup_map_inj hnn (wl E' hE') hE (by show (G.en E').n = (G.en E).n; rw [e', e])
      rw [← this]; exact hE'
    · intro hwt
      cases hw : x.L[j].w with
      | true => rfl
      | false =>
        exfalso
        have h3 : x.L[j].en ∈ ((G.bd N last).buy).all ∨ x.L[j].en ∈ ((G.bd N last).sell).all := by
          rcases List.mem_append.1 hm with h | h
          · left
            have : x.L[j].en ∈ A.map Rn.en := List.mem_map.2 ⟨_, h, rfl⟩
            rw [kk.a.en] at this
            exact this
          · rcases List.mem_append.1 h with h | h
            · right
              have : x.L[j].en ∈ B.map Rn.en := List.mem_map.2 ⟨_, h, rfl⟩
              rw [kk.b.en] at this
              exact this
            · rw [kk.ww _ h] at hw; cases hw
        have h4 : x.L[j].n ∈ numsL (G.bd N last).wait := by
          have : (G.en E).n ∈ numsL (G.bd N last).wait := List.mem_map.2 ⟨G.en E, List.mem_map.2 ⟨E, hwt, rfl⟩, rfl⟩
          rw [e] at this
          exact this
        have ho := k.bd.ok.once
        unfold Bd.live at ho
        rw [numsL_append, numsL_append] at ho
        obtain ⟨_, o2, o3⟩ := List.nodup_append.1 ho
        rcases h3 with h3 | h3
        · exact o3 _ (List.mem_map.2 ⟨_, h3, rfl⟩) _ (List.mem_append_right _ h4) rfl
        · exact (List.nodup_append.1 o2).2.2 _ (List.mem_map.2 ⟨_, h3, rfl⟩) _ h4 rfl

/-- Behind the board's call. -/
structure Mid (q : Nat) (w : World) (b : Nat) (O : Nat → Nat) (v : Value) (evs : List Ev) (O1 : Nat → Nat) (G1 : Mm) (N1 : Nat) (last1 : Int) (w1 : World) : Prop where
  bd : BdC O1 q w1 b G1 N1 last1 []
  st : Step (colB q) O w O1 w1
  ev : OwnE encEv 5 40 0 w1 v evs
  len : evs.length ≤ 1000000000000
/-- Behind the reference's call. -/
structure Fin2 (w1 w2 : World) (v' : Value) (x' : Rb) (ve : Value) (evs : List Ev) (S1 : Bd) (x : Rb) : Prop where
  row : RowR 0 w2 v' x'.L
  evr : RowE 0 w2 ve evs
  below : Below w1.heap.size w1 w2
  rel : Rel S1 x'
  turn : x'.turn ≤ x.turn + 1000000000000
theorem cancel_link {q : Nat} {w : World} {b : Nat} {O : Nat → Nat} {G : Mm} {N : Nat} {last : Int} {vx : Value} {x : Rb} {i : Nat} (k : LkS q w b O G N last vx x i) {n m : Int} {e : Ending} {w1 : World} (h : CancelP O q w b G N last n m e w1) :
    ∃ er evs v O1 G1, e = .returned (.tuple #[v, .int .i64 er]) ∧ Mid q w b O v evs O1 G1 N last w1 ∧ ∀ e2 w1' w2, CancelR w1' x n m e2 w2 → ∃ v' x' ve, e2 = .returned (.tuple #[rbV v' x'.nums x'.turn x'.paid, ve, .int .i64 er]) ∧ Fin2 w1' w2 v' x' ve evs (G1.bd N last) x := by
  have fl := find_link k n
  rcases h with ⟨hno, he, bd, st⟩ | ⟨E, hE, hEn, hm, he, bd, st⟩ | ⟨E, hE, hEn, hm, v, O', G', wts, he, hv, hcol, bd, hbd, hw, hp, hen, st⟩
  · refine ⟨4, [], _, O, G, he, ⟨bd, st, OwnE.nil _ _, by simp⟩, ?_⟩
    rintro e2 w1' w2 ⟨v', x', ve, evs, er, rfl, hr, hve, hb, ⟨_, rfl, rfl, rfl⟩ | ⟨j, hj, h1, _⟩⟩
    · exact ⟨v', x', ve, rfl, hr, hve, hb, k.rel, by omega⟩
    · rcases fl with ⟨_, h2⟩ | ⟨E, hE, hEn, _⟩
      · rw [h2] at h1; cases h1
      · exact absurd (List.mem_map.2 ⟨E, hE, hEn⟩) hno
  · refine ⟨8, [], _, O, G, he, ⟨bd, st, OwnE.nil _ _, by simp⟩, ?_⟩
    rcases fl with ⟨h2, _⟩ | ⟨E2, hE2, hEn2, j, hj, f1, f2, f3, f4⟩
    · exact absurd (List.mem_map.2 ⟨E, hE, hEn⟩) h2
    have hnn : (G.live.map fun E => (G.en E).n).Nodup := by
      have := k.bd.ok.once
      rw [Mm.bd_live] at this
      simpa [numsL, Function.comp_def] using this
    have hEE : E2 = E := nodup_map_inj hnn hE2 hE (hEn2.trans hEn.symm)
    subst hEE
    have ho : x.L[j].o = (G.en E2).o := by rw [← f3]; rfl
    rintro e2 w1' w2 ⟨v', x', ve, evs, er, rfl, hr, hve, hb, ⟨h1, _⟩ | ⟨j', hj', h1, h2, ⟨h3, rfl, rfl, rfl⟩ | ⟨h3, _⟩⟩⟩
    · rw [f1] at h1; cases h1
    · exact ⟨v', x', ve, rfl, hr, hve, hb, k.rel, by omega⟩
    · rw [f1] at h1
      injection h1 with h1
      subst h1
      rw [ho] at h3
      exact absurd h3 hm
  · rcases fl with ⟨h2, _⟩ | ⟨E2, hE2, hEn2, j, hj, f1, f2, f3, f4⟩
    · exact absurd (List.mem_map.2 ⟨E, hE, hEn⟩) h2
    have hnn : (G.live.map fun E => (G.en E).n).Nodup := by
      have := k.bd.ok.once
      rw [Mm.bd_live] at this
      simpa [numsL, Function.comp_def] using this
    have hEE : E2 = E := nodup_map_inj hnn hE2 hE (hEn2.trans hEn.symm)
    subst hEE
    have ho : x.L[j].o = (G.en E2).o := by rw [← f3]; rfl
    have hl : x.L[j].l = (G.en E2).l := by rw [← f3]; rfl
    have hww : wts = x.L[j].w := by
      cases h1 : wts <;> cases h2 : x.L[j].w <;> simp_all
    refine ⟨0, _, v, O', G', he, ⟨bd, st, hv, by simp⟩, ?_⟩
    rintro e2 w1' w2 ⟨v', x', ve, evs, er, rfl, hr, hve, hb, ⟨h1, _⟩ | ⟨j', hj', h1, h2, ⟨h3, _⟩ | ⟨h3, rfl, rfl, rfl⟩⟩⟩
    · rw [f1] at h1; cases h1
    · rw [f1] at h1
      injection h1 with h1
      subst h1
      rw [ho] at h3
      exact absurd hm h3
    · rw [f1] at h1
      injection h1 with h1
      subst h1
      refine ⟨v', _, ve, rfl, hr, by rw [← hl]; exact hve, hb, ?_, by show x.turn ≤ _; omega⟩
      rw [hbd, hww, ← f3]
      exact off_rel k.rel k.bd.ok hj
set_option maxHeartbeats 2000000 in
theorem amendF_len {S : Bd} {x : Rb} (hR : Rel S x) (hS : BdOk S) (hfew : S.live.length ≤ 4096) {j : Nat} (hj : j < x.L.length) (hw : x.L[j].w = false) {p qt : Int} (hp : 1 ≤ p ∧ p ≤ 1000000) (hq : 1 ≤ qt ∧ qt ≤ 1000000000) (hsz : sizeL S.live ≤ 100000000000) : (amendF S x.L[j].en p qt).2.length ≤ 1000000000000 := by
  obtain ⟨b1, b2, b3, b4, b5, b6, b7⟩ := off_bdok hR hS hj hw
  obtain ⟨e, he⟩ : ∃ e, e = x.L[j].en := ⟨_, rfl⟩
  have c2 : e.n ∉ numsL (S.off e false).live := by rw [he]; exact b2
  have c3 : e.o.ok = true := by rw [he]; exact b3
  have c4 : 1 ≤ e.n ∧ e.n ≤ (S.off e false).nums := by rw [he]; exact b4
  rw [← he] at b1 b5 b6 b7 ⊢
  clear b2 b3 b4 he
  unfold amendF
  split
  · simp
  · simp only
    have C := comeF_ok b1 (amO_ok c3 hp hq) c4 c2 (left := qt) (by show 1 ≤ qt ∧ qt ≤ qt; omega) (evs := []) (by simp)
    obtain ⟨r, hr⟩ : ∃ r, r = comeF (S.off e false) e.n (amO e.o p qt) qt [] := ⟨_, rfl⟩
    rw [← hr] at C ⊢
    have T := (stopsF_ok r.1.wait.length C.ok (evs := r.2) (by rw [C.nums]; exact C.evok)).2.2.2.2.2
    have h1 := C.size
    have h3 : r.1.wait.length ≤ 4096 := by
      rw [C.wait, b7]
      unfold Bd.live at hfew
      simp only [List.length_append] at hfew
      omega
    simp only [List.length_nil] at h1
    clear hr C
    omega
theorem amend_link {q : Nat} {w : World} {b : Nat} {O : Nat → Nat} {G : Mm} {N : Nat} {last : Int} {vx : Value} {x : Rb} {i : Nat} (k : LkS q w b O G N last vx x i) (hi : i ≤ 90) {n m p qt : Int} {e : Ending} {w1 : World} (h : AmendP O q w b G N last n m p qt e w1) :
    ∃ er evs v O1 G1 last1, e = .returned (.tuple #[v, .int .i64 er]) ∧ Mid q w b O v evs O1 G1 N last1 w1 ∧ ∀ e2 w1' w2, AmendR w1' (G.bd N last) x n m p qt e2 w2 → ∃ v' x' ve, e2 = .returned (.tuple #[rbV v' x'.nums x'.turn x'.paid, ve, .int .i64 er]) ∧ Fin2 w1' w2 v' x' ve evs (G1.bd N last1) x := by
  have fl := find_link k n
  rcases h with ⟨hno, he, bd, st⟩ | ⟨E, hE, hEn, wts, hw, h⟩
  · refine ⟨4, [], _, O, G, last, he, ⟨bd, st, OwnE.nil _ _, by simp⟩, ?_⟩
    rintro e2 w1' w2 ⟨v', x', ve, evs, er, rfl, hr, hve, hb, ⟨_, rfl, rfl, rfl⟩ | ⟨j, hj, h1, _⟩⟩
    · exact ⟨v', x', ve, rfl, hr, hve, hb, k.rel, by omega⟩
    · rcases fl with ⟨_, h2⟩ | ⟨E, hE, hEn, _⟩
      · rw [h2] at h1; cases h1
      · exact absurd (List.mem_map.2 ⟨E, hE, hEn⟩) hno
  · rcases fl with ⟨h2, _⟩ | ⟨E2, hE2, hEn2, j, hj, f1, f2, f3, f4⟩
    · exact absurd (List.mem_map.2 ⟨E, hE, hEn⟩) h2
    have hnn : (G.live.map fun E => (G.en E).n).Nodup := by
      have := k.bd.ok.once
      rw [Mm.bd_live] at this
      simpa [numsL, Function.comp_def] using this
    have hEE : E2 = E := nodup_map_inj hnn hE2 hE (hEn2.trans hEn.symm)
    subst hEE
    have hww : wts = x.L[j].w := by
      cases h1 : wts <;> cases h2 : x.L[j].w <;> simp_all
    rw [hww, ← f3] at h
    rcases h with ⟨hA, he, bd, st⟩ | ⟨hA, v, O', G', last', he, hv, hcol, bd, hbd, st⟩
    · refine ⟨_, [], _, O, G, last, he, ⟨bd, st, OwnE.nil _ _, by simp⟩, ?_⟩
      rintro e2 w1' w2 ⟨v', x', ve, evs, er, rfl, hr, hve, hb, ⟨h1, _⟩ | ⟨j', hj', h1, h2, ⟨h3, rfl, rfl, rfl⟩ | ⟨h3, _⟩⟩⟩
      · rw [f1] at h1; cases h1
      · rw [f1] at h1
        injection h1 with h1
        subst h1
        exact ⟨v', x', ve, rfl, hr, hve, hb, k.rel, by omega⟩
      · rw [f1] at h1
        injection h1 with h1
        subst h1
        exact absurd h3 hA
    · have hA2 : x.L[j].w = false ∧ (1 ≤ p ∧ p ≤ 1000000) ∧ (1 ≤ qt ∧ qt ≤ 1000000000) := by
        unfold amendE at hA
        split at hA
        · cases hA
        · split at hA
          · cases hA
          · split at hA
            · cases hA
            · rename_i _ hwf hr
              refine ⟨by simpa using hwf, ?_, ?_⟩
              · cases e1 : inB2 p 1 1000000 with
                | true => exact inB2_iff.1 e1
                | false => exact absurd (.inl e1) hr
              · cases e1 : inB2 qt 1 1000000000 with
                | true => exact inB2_iff.1 e1
                | false => exact absurd (.inr e1) hr
      have hlen := amendF_len k.rel k.bd.ok (by rw [Mm.bd_live, List.length_map]; exact k.bd.few) hj hA2.1 hA2.2.1 hA2.2.2 (k.size hi)
      refine ⟨0, _, v, O', G', last', he, ⟨bd, st, hv, hlen⟩, ?_⟩
      rintro e2 w1' w2 ⟨v', x', ve, evs, er, rfl, hr, hve, hb, ⟨h1, _⟩ | ⟨j', hj', h1, h2, ⟨h3, _⟩ | ⟨h3, rfl, rfl, h4, h5⟩⟩⟩
      · rw [f1] at h1; cases h1
      · rw [f1] at h1
        injection h1 with h1
        subst h1
        exact absurd hA h3
      · rw [f1] at h1
        injection h1 with h1
        subst h1
        exact ⟨v', x', ve, rfl, hr, hve, hb, by rw [hbd]; exact h4, by omega⟩
theorem enter_link {q : Nat} {w : World} {b : Nat} {O : Nat → Nat} {G : Mm} {N : Nat} {last : Int} {vx : Value} {x : Rb} {i : Nat} (k : LkS q w b O G N last vx x i) (hi : i ≤ 90) {o : Od} {e : Ending} {w1 : World} (h : EnterP O q w b G N last o e w1) :
    ∃ nn er evs v O1 G1 N1 last1, N1 ≤ N + 1 ∧ e = .returned (.tuple #[.int .i64 nn, v, .int .i64 er]) ∧ Mid q w b O v evs O1 G1 N1 last1 w1 ∧ ∀ e2 w1' w2, EnterR w1' (G.bd N last) x o e2 w2 → ∃ v' x' ve, e2 = .returned (.tuple #[rbV v' x'.nums x'.turn x'.paid, .int .i64 nn, ve, .int .i64 er]) ∧ Fin2 w1' w2 v' x' ve evs (G1.bd N1 last1) x := by
  rcases h with ⟨hE, he, bd, st⟩ | ⟨hE, v, O', G', last', he, hv, hcol, bd, hbd, st⟩
  · refine ⟨0, _, [], _, O, G, N, last, by omega, he, ⟨bd, st, OwnE.nil _ _, by simp⟩, ?_⟩
    rintro e2 w1' w2 ⟨v', x', ve, rfl, hr, hve, hrel, ht, hb⟩
    unfold enterB at hve hrel ht
    rw [if_neg hE] at hve hrel ht
    unfold enterN
    rw [if_neg hE]
    exact ⟨v', x', ve, rfl, hr, hve, hb, hrel, by simp only [List.length_nil] at ht; omega⟩
  · have hok : o.ok = true := by
      have h1 := hE
      unfold enterE at h1
      by_cases h8 : o.ok = false
      · rw [if_pos h8] at h1; cases h1
      · simpa using h8
    have hnn : ((N + 1 : Nat) : Int) = (N : Int) + 1 := by omega
    have hN : (G.bd N last).nums < 1000000 := by show (N : Int) < _; have := k.num; omega
    have hlen := (enterF_ok k.bd.ok hN hok).2.2.2.2
    have hsz := k.size hi
    refine ⟨(N : Int) + 1, 0, _, v, O', G', N + 1, last', Nat.le_refl _, he, ⟨by rw [hnn]; exact bd, st, hv, by omega⟩, ?_⟩
    rintro e2 w1' w2 ⟨v', x', ve, rfl, hr, hve, hrel, ht, hb⟩
    unfold enterB at hve hrel ht
    rw [if_pos hE] at hve hrel ht
    unfold enterN
    rw [if_pos hE, hE]
    exact ⟨v', x', ve, rfl, hr, hve, hb, by rw [hnn, hbd]; exact hrel, by omega⟩
end Go.Proofs.Ytdjhpldiifdifaa
namespace Go.Proofs.Ytdjhpldiifdifaa
set_option linter.unusedSimpArgs false
set_option linter.unusedVariables false
open Go.RowKit Go.Shelf

/-- What a call of the law comes to. -/
def DoP (q : Nat) (w : World) (b : Nat) (O : Nat → Nat) (i : Nat) (e : Ending) (w' : World) : Prop :=
  ∃ O' G' N' last' v' x', e = .returned (.tuple #[rbV v' x'.nums x'.turn x'.paid, .bool true]) ∧ LkS q w' b O' G' N' last' v' x' (i + 1) ∧ Step (colB q) O w O' w'
theorem do_fin {q : Nat} {w w3 w4 w6 : World} {b : Nat} {O O1 : Nat → Nat} {G G1 : Mm} {N N1 : Nat} {last last1 : Int} {vx v' ve : Value} {x x' : Rb} {evs : List Ev} {i r : Nat} {cs : Array Value} (k : LkS q w b O G N last vx x i) (st : Step (colB q) O w O1 w3) (bd : BdC O1 q w3 b G1 N1 last1 []) (hN : N1 ≤ N + 1) (fn : Fin2 w3 w4 v' x' ve evs (G1.bd N1 last1) x) (hr : w.heap.size ≤ r) (hr0 : O1 r = 0) (cr : Cells w4 r cs 49) (hk : Kept (fun k => k = r) w4 w6) :
    DoP q w b O i (.returned (.tuple #[rbV v' x'.nums x'.turn x'.paid, .bool true])) w6 := by
  have k36 : Kept (fun k => k = r) w3 w6 := ⟨hk.os.trans fn.below.os, hk.tape.trans fn.below.tape, hk.output.trans fn.below.output, Nat.le_trans fn.below.size hk.size, fun k h hx => (hk.block k (Nat.lt_of_lt_of_le h fn.below.size) hx).trans (fn.below.block k h)⟩
  obtain ⟨s1, s2⟩ := noE_step st k36 (fun k e => by omega) k.clean
  have bd6 : BdC O1 q w6 b G1 N1 last1 [] := bd.step (C := fun c => c = 0) ⟨k36.os, k36.tape, k36.output, k36.size, fun j h hn => ⟨k36.block j h (fun e => hn (by rw [e, hr0])), rfl⟩, fun _ _ h => .inl h⟩ (fun c h1 h2 => by have := h1.1; omega)
  refine ⟨noE w6 q w.heap.size O1, G1, N1, last1, v', x', rfl, ⟨bd6.recolE (fun j h => noE_not h), fn.rel, OwnE.far fn.row cr (by decide) hk, s2, by have := k.num; omega, ?_⟩, s1⟩
  have h1 := fn.turn
  have h2 := k.turn
  have e : ((i + 1 : Nat) : Int) * 1000000000000 = (i : Int) * 1000000000000 + 1000000000000 := by omega
  omega
/-- What is made ahead of the calls. -/
theorem LkS.pre {q : Nat} {w w' : World} {b : Nat} {O : Nat → Nat} {G : Mm} {N : Nat} {last : Int} {vx : Value} {x : Rb} {i : Nat} (k : LkS q w b O G N last vx x i) (hb : Below w.heap.size w w') : LkS q w' b (Go.Proofs.Ytdjhpldiifdifaa.grow O w 0) G N last vx x i ∧ Step (colB q) O w (Go.Proofs.Ytdjhpldiifdifaa.grow O w 0) w' :=
  ⟨k.grow hb, ⟨hb.os, hb.tape, hb.output, hb.size, fun j h _ => ⟨hb.block j h, grow_old h⟩, fun j h hc => .inl (by rw [grow_old h]; exact hc)⟩⟩
/-- What a board's call leaves alone. -/
theorem Mid.cells {q : Nat} {w : World} {b : Nat} {O : Nat → Nat} {v : Value} {evs : List Ev} {O1 : Nat → Nat} {G1 : Mm} {N1 : Nat} {last1 : Int} {w1 : World} (m : Mid q w b O v evs O1 G1 N1 last1 w1) {r : Nat} {cs : Array Value} {ty : TypeId} (h : Cells w r cs ty) (h0 : O r = 0) : Cells w1 r cs ty ∧ O1 r = 0 := by
  have hn : ¬ colB q (O r) := by rw [h0]; exact fun e => absurd e.1 (by omega)
  exact ⟨h.kept m.st.kept hn, by rw [(m.st.old r h.lt hn).2, h0]⟩
theorem Mid.row {q : Nat} {w : World} {b : Nat} {O : Nat → Nat} {v : Value} {evs : List Ev} {O1 : Nat → Nat} {G1 : Mm} {N1 : Nat} {last1 : Int} {w1 : World} (m : Mid q w b O v evs O1 G1 N1 last1 w1) {vx : Value} {L : List Rn} (h : RowR 0 w vx L) (hc : Clean O w) : RowR 0 w1 vx L :=
  OwnE.kept h m.st.kept (fun k hk => by
    obtain ⟨cs, hcs⟩ := own_lt h hk
    show ¬ colB q (O k)
    rw [hc k (by rw [isEn_cells hcs]; rfl)]
    exact fun e => absurd e.1 (by omega))
/-- The result is stored. -/
theorem put_res {w : World} {r : Nat} {a b c d : Value} (h : Cells w r #[a, b, c, d] 49) (v : Value) (n t p : Int) : Cells ((((w.setCell ⟨r, 0, none⟩ v).setCell ⟨r, 1, none⟩ (.int .i64 n)).setCell ⟨r, 2, none⟩ (.int .i64 t)).setCell ⟨r, 3, none⟩ (.int .i64 p)) r #[v, .int .i64 n, .int .i64 t, .int .i64 p] 49 :=
  (((h.set 0 v).set 1 (.int .i64 n)).set 2 (.int .i64 t)).set 3 (.int .i64 p)
theorem kept_res {w0 w : World} {r : Nat} (h : Kept (fun k => k = r) w0 w) (v : Value) (n t p : Int) : Kept (fun k => k = r) w0 ((((w.setCell ⟨r, 0, none⟩ v).setCell ⟨r, 1, none⟩ (.int .i64 n)).setCell ⟨r, 2, none⟩ (.int .i64 t)).setCell ⟨r, 3, none⟩ (.int .i64 p)) :=
  (((h.set (C := r) rfl 0 v).set (C := r) rfl 1 (.int .i64 n)).set (C := r) rfl 2 (.int .i64 t)).set (C := r) rfl 3 (.int .i64 p)
end Go.Proofs.Ytdjhpldiifdifaa
namespace Go.Proofs.Ytdjhpldiifdifaa
set_option linter.unusedSimpArgs false
set_option linter.unusedVariables false
open Go.RowKit Go.Shelf

theorem LkS.own {q : Nat} {w w' : World} {b : Nat} {O : Nat → Nat} {G : Mm} {N : Nat} {last : Int} {vx : Value} {x : Rb} {i r : Nat} {cs : Array Value} (h : LkS q w b O G N last vx x i) (cr : Cells w r cs 49) (h0 : O r = 0) (hk : Kept (fun k => k = r) w w') (hs : w'.heap.size = w.heap.size) : LkS q w' b O G N last vx x i := by
  refine ⟨h.bd.step (C := fun c => c = 0) ⟨hk.os, hk.tape, hk.output, hk.size, fun j hj hn => ⟨hk.block j hj (fun e => hn (by rw [e, h0])), rfl⟩, fun _ _ h => .inl h⟩ (fun c h1 h2 => by have := h1.1; omega), h.rel, OwnE.far h.row cr (by decide) hk, fun k hkE => ?_, h.num, h.turn⟩
  by_cases e : k = r
  · rw [e, h0]
  · by_cases hlt : k < w.heap.size
    · exact h.clean k (by rw [← isEn_same (hk.block k hlt e)]; exact hkE)
    · exact absurd (isEn_lt hkE) (by omega)
/-- A new board and an empty board of the reference. -/
theorem lk_start {w w1 : World} {b : Nat} {O1 : Nat → Nat} {G1 : Mm} (bd : BdC O1 0 w1 b G1 0 0 []) (hG : G1.bd 0 0 = ⟨[], [], [], 0, 0⟩) (hb : Below w.heap.size w w1) (hO : ∀ k, k < w.heap.size → O1 k = 0) :
    ∃ O, LkS 0 w1 b O G1 0 0 (.slice none 0 0) ⟨[], 0, 0, 0⟩ 0 ∧ ∀ k, k < w.heap.size → O k = 0 := by
  have st : Step (colB 0) (fun _ => 0) w O1 w1 := ⟨hb.os, hb.tape, hb.output, hb.size, fun k h _ => ⟨hb.block k h, hO k h⟩, fun k _ h => absurd h.1 (by omega)⟩
  obtain ⟨s1, s2⟩ := noE_step st (Kept.refl (fun _ => False) w1) (fun _ h => h.elim) (fun _ _ => rfl)
  refine ⟨noE w1 0 w.heap.size O1, ⟨bd.recolE fun k h => noE_not h, ?_, OwnE.nil _ _, s2, Nat.le_refl _, by simp⟩, fun k h => ?_⟩
  · have e : G1.bd ((0 : Nat) : Int) 0 = ⟨[], [], [], 0, 0⟩ := hG
    rw [e]
    exact rel_new
  · exact (s1.old k h (fun e => absurd e.1 (by omega))).2
end Go.Proofs.Ytdjhpldiifdifaa
