/- The reference's board in plain Lean: a list of entries with turns, and how it stands to the board. No program in sight. The reference's board in plain Lean: a meeting, a rest, the sum of a whole order. No program in sight. -/
import Derived.Test.YtdjhpldiifdifaaJBrd7
namespace Go.Proofs.Ytdjhpldiifdifaa
set_option linter.unusedSimpArgs false
set_option linter.unusedVariables false

/-- An entry of the reference: number, order, what is left, what is shown, whether it waits, its turn. -/
structure Rn where
  n : Int
  o : Od
  l : Int
  h : Int
  w : Bool
  t : Int
deriving DecidableEq
def Rn.en (x : Rn) : En := ⟨x.n, x.o, x.l, x.h⟩
/-- A board of the reference. -/
structure Rb where
  L : List Rn
  nums : Int
  turn : Int
  paid : Int
/-- The index of the best one of the first k that count. -/
def bestI (c : Rn → Bool) (p : Rn → Rn → Bool) (L : List Rn) : Nat → Option Nat
  | 0 => none
  | k + 1 => match L[k]? with
    | none => bestI c p L k
    | some x => if c x = true then (match (bestI c p L k).bind (fun i => L[i]?) with | none => some k | some y => if p x y = true then some k else bestI c p L k) else bestI c p L k
/-- An order without ties that cannot be told. -/
structure Wk (p : Rn → Rn → Bool) : Prop where
  tr : ∀ x y z, p x y = false → p y z = false → p x z = false
  ir : ∀ x, p x x = false
  asy : ∀ x y, p x y = true → p y x = false
theorem bestI_spec {c : Rn → Bool} {p : Rn → Rn → Bool} (hp : Wk p) {L : List Rn} : ∀ k, k ≤ L.length →
    (bestI c p L k = none ∧ ∀ (j : Nat) (h : j < L.length), j < k → c L[j] = false) ∨
    ∃ (i : Nat) (hi : i < L.length), bestI c p L k = some i ∧ i < k ∧ c L[i] = true ∧ ∀ (j : Nat) (h : j < L.length), j < k → c L[j] = true → p L[j] L[i] = false
  | 0, _ => .inl ⟨rfl, fun _ _ h => absurd h (by omega)⟩
  | k + 1, hk => by
    have hkl : k < L.length := by omega
    have ih := bestI_spec hp (L := L) (c := c) k (by omega)
    unfold bestI
    rw [List.getElem?_eq_getElem hkl]
    simp only
    by_cases hc : c L[k] = true
    · rw [if_pos hc]
      rcases ih with ⟨h1, h2⟩ | ⟨i, hi, h1, h2, h3, h4⟩
      · rw [h1]
        refine .inr ⟨k, hkl, rfl, by omega, hc, fun j h hj hcj => ?_⟩
        by_cases e : j = k
        · subst e; exact hp.ir _
        · rw [h2 j h (by omega)] at hcj; cases hcj
      · rw [h1]
        simp only [Option.bind_some]
        rw [List.getElem?_eq_getElem hi]
        simp only
        by_cases hx : p L[k] L[i] = true
        · rw [if_pos hx]
          refine .inr ⟨k, hkl, rfl, by omega, hc, fun j h hj hcj => ?_⟩
          by_cases e : j = k
          · subst e; exact hp.ir _
          · exact hp.tr _ _ _ (h4 j h (by omega) hcj) (hp.asy _ _ hx)
        · rw [if_neg hx]
          refine .inr ⟨i, hi, rfl, by omega, h3, fun j h hj hcj => ?_⟩
          by_cases e : j = k
          · subst e; simpa using hx
          · exact h4 j h (by omega) hcj
    · rw [if_neg hc]
      rcases ih with ⟨h1, h2⟩ | ⟨i, hi, h1, h2, h3, h4⟩
      · refine .inl ⟨h1, fun j h hj => ?_⟩
        by_cases e : j = k
        · subst e; simpa using hc
        · exact h2 j h (by omega)
      · refine .inr ⟨i, hi, h1, by omega, h3, fun j h hj hcj => ?_⟩
        by_cases e : j = k
        · subst e; exact absurd hcj hc
        · exact h4 j h (by omega) hcj
/-- What counts for a side, and which one is ahead. -/
def cR (side : Int) (x : Rn) : Bool := !x.w && decide (x.o.s = side)
def pR (side : Int) (x y : Rn) : Bool := better side x.o.p y.o.p || (decide (x.o.p = y.o.p) && decide (x.t < y.t))
theorem pR_iff {side : Int} {x y : Rn} : pR side x y = true ↔ ((if side = 1 then y.o.p < x.o.p else x.o.p < y.o.p) ∨ x.o.p = y.o.p ∧ x.t < y.t) := by
  unfold pR better
  by_cases hs : side = 1 <;> simp [hs]
theorem pR_wk (side : Int) : Wk (pR side) := by
  have f : ∀ x y, pR side x y = false ↔ ¬ ((if side = 1 then y.o.p < x.o.p else x.o.p < y.o.p) ∨ x.o.p = y.o.p ∧ x.t < y.t) := fun x y => by
    rw [← pR_iff]; simp
  refine ⟨fun x y z h1 h2 => ?_, fun x => ?_, fun x y h => ?_⟩
  · rw [f] at *
    split at h1 <;> simp_all <;> omega
  · rw [f]; split <;> omega
  · rw [f]; rw [pR_iff] at h
    split at h <;> simp_all <;> omega
def frontR (L : List Rn) (side : Int) : Option Nat := bestI (cR side) (pR side) L L.length

/-- A side's entries in their order, with their turns. -/
structure SideR (h : Half) (A : List Rn) (turn : Int) : Prop where
  en : A.map Rn.en = h.all
  w : ∀ e ∈ A, e.w = false ∧ 1 ≤ e.t ∧ e.t ≤ turn
  tn : A.Pairwise fun a b => a.o.p = b.o.p → a.t < b.t
theorem SideR.nil (turn : Int) : SideR [] [] turn := ⟨rfl, by simp, List.Pairwise.nil⟩
theorem SideR.mono {h : Half} {A : List Rn} {turn turn' : Int} (s : SideR h A turn) (ht : turn ≤ turn') : SideR h A turn' := ⟨s.en, fun e he => by obtain ⟨a, b, c⟩ := s.w e he; exact ⟨a, b, by omega⟩, s.tn⟩
theorem SideR.mem {side nums : Int} {h : Half} {A : List Rn} {turn : Int} (s : SideR h A turn) (hh : HOk side nums h) {e : Rn} (he : e ∈ A) : EnOk side nums e.en := hh.mem e.en (by rw [← s.en]; exact List.mem_map.2 ⟨e, he, rfl⟩)
theorem SideR.cR {side nums : Int} {h : Half} {A : List Rn} {turn : Int} (s : SideR h A turn) (hh : HOk side nums h) {e : Rn} (he : e ∈ A) : cR side e = true := by
  have h1 := (s.mem hh he).s
  unfold Go.Proofs.Ytdjhpldiifdifaa.cR
  rw [(s.w e he).1, decide_eq_true (show e.o.s = side from h1)]
  rfl
theorem HOk.order {side nums : Int} : ∀ {h : Half}, HOk side nums h → h.all.Pairwise fun a b => better side a.o.p b.o.p = true ∨ a.o.p = b.o.p
  | [], _ => List.Pairwise.nil
  | (p, q) :: r, hh => by
    rw [all_cons]
    refine List.pairwise_append.2 ⟨?_, HOk.order hh.tail, fun a ha b hb => ?_⟩
    · exact List.pairwise_of_forall_mem_list fun a ha b hb => .inr ((hh.head.2.1 a ha).2.trans (hh.head.2.1 b hb).2.symm)
    · obtain ⟨x, hx, hbx⟩ := List.mem_flatMap.1 hb
      left
      rw [(hh.head.2.1 a ha).2, hh.tail.price x hx b hbx]
      exact hh.head.2.2 x hx
theorem idx_perm {L : List Rn} {i : Nat} (hi : i < L.length) : (L[i] :: L.eraseIdx i).Perm L := by
  have e : L = L.take i ++ L[i] :: L.drop (i + 1) := by rw [← List.drop_eq_getElem_cons hi, List.take_append_drop]
  rw [List.eraseIdx_eq_take_drop_succ]
  conv => rhs; rw [e]
  exact List.perm_middle.symm
/-- The front is found. -/
theorem front_spec {side nums : Int} {h : Half} {A C L : List Rn} {turn : Int} (hh : HOk side nums h) (sr : SideR h A turn) (pm : L.Perm (A ++ C)) (hc : ∀ x ∈ C, cR side x = false) :
    (h = [] ∧ A = [] ∧ frontR L side = none) ∨ ∃ (r : Rn) (A' : List Rn) (i : Nat) (hi : i < L.length), A = r :: A' ∧ frontR L side = some i ∧ L[i] = r ∧ frontH h = some r.en ∧ EnOk side nums r.en ∧ SideR (popH h) A' turn ∧ HOk side nums (popH h) ∧ (L.eraseIdx i).Perm (A' ++ C) := by
  have sp := bestI_spec (c := cR side) (pR_wk side) (L := L) L.length (Nat.le_refl _)
  rcases hh.cases with ⟨rfl, _⟩ | ⟨p, y, q, r, rfl, hf, hyp, hy⟩
  · have hA : A = [] := by have := sr.en; simpa [all_nil] using this
    subst hA
    refine .inl ⟨rfl, rfl, ?_⟩
    rcases sp with ⟨h1, _⟩ | ⟨i, hi, _, _, h3, _⟩
    · exact h1
    · rw [hc L[i] (by have := pm.mem_iff.1 (List.getElem_mem hi); simpa using this)] at h3
      cases h3
  · right
    obtain ⟨hp, hall⟩ := popH_ok hh
    have hen := sr.en
    rw [hall] at hen
    obtain ⟨a, A', rfl, ha, hA'⟩ := List.map_eq_cons_iff.1 hen
    have hord := hh.order
    rw [hall, List.pairwise_cons] at hord
    have htn := List.pairwise_cons.1 sr.tn
    rcases sp with ⟨h1, h2⟩ | ⟨i, hi, h1, _, h3, h4⟩
    · have hm : a ∈ L := pm.mem_iff.2 (by simp)
      obtain ⟨j, hj, rfl⟩ := List.getElem_of_mem hm
      have := sr.cR hh (e := L[j]) (by simp)
      rw [h2 j hj hj] at this
      cases this
    · have hm : L[i] ∈ a :: A' := by
        rcases List.mem_append.1 (pm.mem_iff.1 (List.getElem_mem hi)) with h | h
        · exact h
        · rw [hc _ h] at h3; cases h3
      have hLi : L[i] = a := by
        rcases List.mem_cons.1 hm with h | h
        · exact h
        · exfalso
          have hm : a ∈ L := pm.mem_iff.2 (by simp)
          obtain ⟨j, hj, hja⟩ := List.getElem_of_mem hm
          have hk := h4 j hj hj (by rw [hja]; exact sr.cR hh (by simp))
          rw [hja] at hk
          have : pR side a L[i] = true := by
            unfold pR
            have o1 := hord.1 L[i].en (by rw [← hA']; exact List.mem_map.2 ⟨_, h, rfl⟩)
            rw [← ha] at o1
            rcases o1 with o1 | o1
            · rw [show better side a.o.p L[i].o.p = true from o1]; rfl
            · have ht := htn.1 L[i] h o1
              rw [decide_eq_true (show a.o.p = L[i].o.p from o1), decide_eq_true ht]; simp
          rw [hk] at this
          cases this
      have pm2 : (L.eraseIdx i).Perm (A' ++ C) := by
        have e1 : (L[i] :: L.eraseIdx i).Perm L := idx_perm hi
        rw [hLi] at e1
        exact (e1.trans pm).cons_inv
      refine ⟨a, A', i, hi, rfl, h1, hLi, by rw [ha]; exact hf, by rw [ha]; exact hy, ⟨hA', fun e he => sr.w e (List.mem_cons_of_mem _ he), htn.2⟩, hp, pm2⟩
theorem set_perm {L M : List Rn} {i : Nat} (hi : i < L.length) (z : Rn) (h : (L.eraseIdx i).Perm M) : (L.set i z).Perm (z :: M) := by
  rw [List.set_eq_take_append_cons_drop, if_pos hi]
  rw [List.eraseIdx_eq_take_drop_succ] at h
  exact List.perm_middle.trans (h.cons z)
/-- An entry comes to the end of its price. -/
theorem addH_split {side nums : Int} (e : En) : ∀ {h : Half}, HOk side nums h → ∃ A B, h.all = A ++ B ∧ (addH side e h).all = A ++ e :: B ∧ ∀ b ∈ B, e.o.p ≠ b.o.p
  | [], _ => ⟨[], [], rfl, rfl, by simp⟩
  | (p, q) :: r, hh => by
    unfold addH
    split
    · rename_i hp
      refine ⟨q, Half.all r, rfl, by rw [all_cons]; simp, fun b hb e2 => ?_⟩
      obtain ⟨x, hx, hbx⟩ := List.mem_flatMap.1 hb
      have h1 := hh.head.2.2 x hx
      have h2 := hh.tail.price x hx b hbx
      rw [← h2, ← e2, hp] at h1
      unfold better at h1
      by_cases hs : side = 1 <;> simp [hs] at h1
    · rename_i hp
      split
      · rename_i hb
        refine ⟨[], Half.all ((p, q) :: r), rfl, rfl, fun b hb2 e2 => ?_⟩
        obtain ⟨x, hx, hbx⟩ := List.mem_flatMap.1 hb2
        have h2 := hh.price x hx b hbx
        have h1 : better side e.o.p x.1 = true := by
          rcases List.mem_cons.1 hx with rfl | hx
          · exact hb
          · exact better_trans hb (hh.head.2.2 x hx)
        rw [← h2, ← e2] at h1
        unfold better at h1
        by_cases hs : side = 1 <;> simp [hs] at h1
      · obtain ⟨A, B, h1, h2, h3⟩ := addH_split e hh.tail
        refine ⟨q ++ A, B, by rw [all_cons, h1]; simp, by rw [all_cons, h2]; simp, h3⟩
theorem SideR.add {side nums : Int} {h : Half} {A : List Rn} {turn : Int} (s : SideR h A turn) (hh : HOk side nums h) (h0 : 0 ≤ turn) (z : Rn) (hw : z.w = false) (ht : z.t = turn + 1) : ∃ A', A'.Perm (z :: A) ∧ SideR (addH side z.en h) A' (turn + 1) := by
  obtain ⟨X, Y, h1, h2, h3⟩ := addH_split z.en hh
  have hen := s.en
  rw [h1] at hen
  obtain ⟨P, Q, rfl, hP, hQ⟩ := List.map_eq_append_iff.1 hen
  refine ⟨P ++ z :: Q, List.perm_middle, ⟨by rw [h2, List.map_append, List.map_cons, hP, hQ], fun e he => ?_, ?_⟩⟩
  · have : e = z ∨ e ∈ P ++ Q := by
      have := (List.perm_middle (a := z) (l₁ := P) (l₂ := Q)).mem_iff.1 he
      simpa using this
    rcases this with rfl | he
    · exact ⟨hw, by omega, by omega⟩
    · obtain ⟨a, b, c⟩ := s.w e he; exact ⟨a, b, by omega⟩
  · obtain ⟨g1, g2, g3⟩ := List.pairwise_append.1 s.tn
    refine List.pairwise_append.2 ⟨g1, List.pairwise_cons.2 ⟨fun b hb e => ?_, g2⟩, fun a ha b hb => ?_⟩
    · exact absurd e (h3 b.en (by rw [← hQ]; exact List.mem_map.2 ⟨b, hb, rfl⟩))
    · rcases List.mem_cons.1 hb with rfl | hb
      · intro _
        have := (s.w a (by simp [ha])).2.2
        omega
      · exact g3 a ha b hb
/-- The front is another one at its price and its turn. -/
theorem SideR.set {side nums : Int} {h : Half} {r : Rn} {A : List Rn} {turn : Int} (s : SideR h (r :: A) turn) (hh : HOk side nums h) (l q : Int) : SideR (setH { r.en with l := l, h := q } h) ({ r with l := l, h := q } :: A) turn := by
  obtain ⟨g1, g2⟩ := List.pairwise_cons.1 s.tn
  refine ⟨?_, fun e he => ?_, List.pairwise_cons.2 ⟨g1, g2⟩⟩
  · rcases hh.cases with ⟨rfl, _⟩ | ⟨p, y, k, t, rfl, _, _, _⟩
    · have := s.en; simp [all_nil] at this
    · have := s.en
      rw [all_cons] at this
      simp only [List.map_cons, List.cons_append, List.cons.injEq] at this
      show ({ r with l := l, h := q } : Rn).en :: A.map Rn.en = _
      rw [this.2]
      rfl
  · rcases List.mem_cons.1 he with rfl | he
    · exact s.w r (by simp)
    · exact s.w e (List.mem_cons_of_mem _ he)
end Go.Proofs.Ytdjhpldiifdifaa
namespace Go.Proofs.Ytdjhpldiifdifaa
set_option linter.unusedSimpArgs false
set_option linter.unusedVariables false

structure RelS (s : Int) (S : Bd) (x : Rb) (A B W : List Rn) : Prop where
  nums : x.nums = S.nums
  paid : x.paid = S.last
  turn : 0 ≤ x.turn
  perm : x.L.Perm (A ++ (B ++ W))
  a : SideR (S.half s) A x.turn
  b : SideR (S.half (3 - s)) B x.turn
  w : W.map Rn.en = S.wait
  ww : ∀ e ∈ W, e.w = true
/-- The reference's board says what the board says. -/
def Rel (S : Bd) (x : Rb) : Prop := ∃ A B W, RelS 1 S x A B W
theorem perm_swap3 {α : Type} (A B W : List α) : (A ++ (B ++ W)).Perm (B ++ (A ++ W)) := by
  rw [← List.append_assoc, ← List.append_assoc]
  exact List.perm_append_comm.append_right W
theorem RelS.flip {s : Int} {S : Bd} {x : Rb} {A B W : List Rn} (h : RelS s S x A B W) : RelS (3 - s) S x B A W :=
  ⟨h.nums, h.paid, h.turn, h.perm.trans (perm_swap3 A B W), h.b, by rw [show 3 - (3 - s) = s by omega]; exact h.a, h.w, h.ww⟩
theorem Rel.side {S : Bd} {x : Rb} (h : Rel S x) {s : Int} (hs : s = 1 ∨ s = 2) : ∃ A B W, RelS s S x A B W := by
  obtain ⟨A, B, W, k⟩ := h
  rcases hs with rfl | rfl
  · exact ⟨A, B, W, k⟩
  · exact ⟨B, A, W, k.flip⟩
theorem RelS.rel {s : Int} (hs : s = 1 ∨ s = 2) {S : Bd} {x : Rb} {A B W : List Rn} (h : RelS s S x A B W) : Rel S x := by
  rcases hs with rfl | rfl
  · exact ⟨A, B, W, h⟩
  · exact ⟨B, A, W, h.flip⟩
/-- What does not count for the side. -/
theorem RelS.rest {s : Int} (hs : s = 1 ∨ s = 2) {S : Bd} {x : Rb} {A B W : List Rn} (h : RelS s S x A B W) (hS : BdOk S) : ∀ e ∈ B ++ W, cR s e = false := by
  intro e he
  rcases List.mem_append.1 he with he | he
  · have h1 := (h.b.mem (hS.half (other_side hs)) he).s
    unfold cR
    rw [decide_eq_false (show ¬ e.o.s = s by intro h2; have : e.o.s = 3 - s := h1; omega)]
    simp
  · unfold cR
    rw [h.ww e he]
    rfl
theorem Rel.live {S : Bd} {x : Rb} (h : Rel S x) : (x.L.map Rn.en).Perm S.live := by
  obtain ⟨A, B, W, k⟩ := h
  have := k.perm.map Rn.en
  rw [List.map_append, List.map_append, k.a.en, k.b.en, k.w] at this
  exact this
theorem Rel.len {S : Bd} {x : Rb} (h : Rel S x) : x.L.length = S.live.length := by have := h.live.length_eq; simpa using this
theorem Rel.once {S : Bd} {x : Rb} (h : Rel S x) (hS : BdOk S) : (x.L.map Rn.n).Nodup := by
  have := (numsL_perm h.live).nodup_iff.2 hS.once
  simpa [numsL, Function.comp_def, Rn.en] using this

/-- The reference within a meeting. -/
structure MtR (side nums xn : Int) (s : Mt) (L : List Rn) (turn : Int) (C A : List Rn) : Prop where
  ok : MtOk side nums xn s
  sr : SideR s.h A turn
  pm : L.Perm (A ++ C)
  hc : ∀ x ∈ C, cR side x = false
  t0 : 0 ≤ turn
/-- What a trade of k makes of an entry, and of the turn. -/
def tradeR (r : Rn) (k turn : Int) : Rn := if r.h - k = 0 ∧ 0 < r.l - k then { r with l := r.l - k, h := min r.o.pk (r.l - k), t := turn + 1 } else { r with l := r.l - k, h := r.h - k }
def turnR (r : Rn) (k turn : Int) : Int := if r.h - k = 0 ∧ 0 < r.l - k then turn + 1 else turn
theorem MtR.front {side nums xn : Int} {s : Mt} {L C A : List Rn} {turn : Int} (h : MtR side nums xn s L turn C A) :
    (frontH s.h = none ∧ frontR L side = none) ∨ ∃ (r : Rn) (i : Nat) (hi : i < L.length), frontR L side = some i ∧ L[i] = r ∧ frontH s.h = some r.en ∧ EnOk side nums r.en ∧ r.w = false ∧ 1 ≤ r.t ∧ r.t ≤ turn := by
  rcases front_spec h.ok.ok h.sr h.pm h.hc with ⟨h1, h2, h3⟩ | ⟨r, A', i, hi, rfl, h2, h3, h4, h5, _⟩
  · exact .inl ⟨by rw [h1]; rfl, h3⟩
  · exact .inr ⟨r, i, hi, h2, h3, h4, h5, h.sr.w r (by simp)⟩
theorem MtR.step {side nums xn : Int} {s : Mt} {L C A : List Rn} {turn : Int} (h : MtR side nums xn s L turn C A) (hx : 1 ≤ xn ∧ xn ≤ nums) (hl : 0 < s.left) (o : Od) {i : Nat} (hi : i < L.length) (hf : frontR L side = some i) :
    (L[i].o.m = o.m → ∃ A', MtR side nums xn (meet1 o xn side L[i].en s) (L.eraseIdx i) turn C A') ∧
    (L[i].o.m ≠ o.m → L[i].l - min s.left L[i].h = 0 → ∃ A', MtR side nums xn (meet1 o xn side L[i].en s) (L.eraseIdx i) turn C A') ∧
    (L[i].o.m ≠ o.m → L[i].l - min s.left L[i].h ≠ 0 → ∃ A', MtR side nums xn (meet1 o xn side L[i].en s) (L.set i (tradeR L[i] (min s.left L[i].h) turn)) (turnR L[i] (min s.left L[i].h) turn) C A') := by
  rcases front_spec h.ok.ok h.sr h.pm h.hc with ⟨_, _, h3⟩ | ⟨r, A', j, hj, rfl, h2, h3, h4, h5, h6, h7, h8⟩
  · rw [h3] at hf; cases hf
  rw [h2] at hf
  injection hf with hf
  subst hf
  rw [h3]
  have mo := (meet1_ok (o := o) h.ok hx hl h4).1
  obtain ⟨rn, ro, rs, rl, rh, rk, rpk⟩ := h5
  have hl' : r.en.l = r.l := rfl
  have hh' : r.en.h = r.h := rfl
  rw [hl'] at rl rh
  rw [hh'] at rh
  refine ⟨fun hm => ⟨A', mo, ?_, h8, h.hc, h.t0⟩, fun hm h0 => ⟨A', mo, ?_, h8, h.hc, h.t0⟩, fun hm h0 => ?_⟩
  · unfold meet1
    rw [if_pos (show r.en.o.m = o.m from hm)]
    exact h6
  · unfold meet1
    rw [if_neg (show ¬ r.en.o.m = o.m from hm)]
    simp only
    unfold tradeH
    rw [if_neg (show ¬ 0 < r.en.h - min s.left r.en.h by rw [hh']; omega), if_pos (show r.en.l - min s.left r.en.h = 0 from h0)]
    exact h6
  · unfold meet1 at mo ⊢
    rw [if_neg (show ¬ r.en.o.m = o.m from hm)] at mo ⊢
    unfold tradeH at mo ⊢
    by_cases c1 : 0 < r.h - min s.left r.h
    · rw [if_pos (show 0 < r.en.h - min s.left r.en.h from c1)] at mo ⊢
      have e1 : tradeR r (min s.left r.h) turn = { r with l := r.l - min s.left r.h, h := r.h - min s.left r.h } := by unfold tradeR; rw [if_neg (by omega)]
      have e2 : turnR r (min s.left r.h) turn = turn := by unfold turnR; rw [if_neg (by omega)]
      rw [e1, e2]
      exact ⟨_, mo, h.sr.set h.ok.ok _ _, set_perm hj _ h8, h.hc, h.t0⟩
    · rw [if_neg (show ¬ 0 < r.en.h - min s.left r.en.h from c1), if_neg (show ¬ r.en.l - min s.left r.en.h = 0 from h0)] at mo ⊢
      have e1 : tradeR r (min s.left r.h) turn = { r with l := r.l - min s.left r.h, h := min r.o.pk (r.l - min s.left r.h), t := turn + 1 } := by unfold tradeR; rw [if_pos (by omega)]
      have e2 : turnR r (min s.left r.h) turn = turn + 1 := by unfold turnR; rw [if_pos (by omega)]
      rw [e1, e2]
      have ht := h.t0
      obtain ⟨A2, p1, p2⟩ := h6.add h7 ht { r with l := r.l - min s.left r.h, h := min r.o.pk (r.l - min s.left r.h), t := turn + 1 } (h.sr.w r (by simp)).1 rfl
      exact ⟨A2, mo, p2, (set_perm hj _ h8).trans (p1.append_right C).symm, h.hc, by omega⟩
/-- A meeting begins. -/
theorem RelS.meet {s : Int} (hs : s = 1 ∨ s = 2) {S : Bd} {x : Rb} {A B W : List Rn} (h : RelS s S x A B W) (hS : BdOk S) {left xn : Int} (hl : 0 ≤ left ∧ left ≤ 1000000000) {evs : List Ev} (he : ∀ e ∈ evs, EvOk S.nums e) :
    MtR s S.nums xn ⟨left, S.half s, S.last, evs⟩ x.L x.turn (B ++ W) A :=
  ⟨⟨hl, hS.half hs, hS.last, he⟩, h.a, h.perm, h.rest hs hS, h.turn⟩
theorem half_put {s : Int} (hs : s = 1 ∨ s = 2) (S : Bd) (g : Half) (l : Int) : Bd.half { S.put s g with last := l } s = g ∧ Bd.half { S.put s g with last := l } (3 - s) = S.half (3 - s) := by
  rcases hs with rfl | rfl <;> exact ⟨rfl, rfl⟩
/-- A meeting ends. -/
theorem MtR.back {s : Int} (hs : s = 1 ∨ s = 2) {S : Bd} {x : Rb} {A B W : List Rn} (h : RelS s S x A B W) {xn : Int} {m : Mt} {L A' : List Rn} {turn : Int} (g : MtR s S.nums xn m L turn (B ++ W) A') (ht : x.turn ≤ turn) :
    RelS s { S.put s m.h with last := m.last } ⟨L, x.nums, turn, m.last⟩ A' B W := by
  have hp := half_put hs S m.h m.last
  have hq := (put_half (S := S) hs m.h).2.2.2
  exact ⟨h.nums.trans hq.1.symm, rfl, g.t0, g.pm, by rw [hp.1]; exact g.sr, by rw [hp.2]; exact h.b.mono ht, h.w.trans hq.2.2.symm, h.ww⟩
/-- An entry rests. -/
theorem RelS.put {s : Int} (hs : s = 1 ∨ s = 2) {S : Bd} {x : Rb} {A B W : List Rn} (h : RelS s S x A B W) (hS : BdOk S) (z : Rn) (hw : z.w = false) (ht : z.t = x.turn + 1) :
    Rel (S.put s (addH s z.en (S.half s))) ⟨x.L ++ [z], x.nums, x.turn + 1, x.paid⟩ := by
  obtain ⟨A', p1, p2⟩ := h.a.add (hS.half hs) h.turn z hw ht
  have hp := put_half (S := S) hs (addH s z.en (S.half s))
  refine RelS.rel hs (A := A') (B := B) (W := W) ⟨h.nums.trans hp.2.2.2.1.symm, h.paid.trans hp.2.2.2.2.1.symm, by have := h.turn; simp only; omega, ?_, by rw [hp.1]; exact p2, by rw [hp.2.1]; exact h.b.mono (by simp only; omega), h.w.trans hp.2.2.2.2.2.symm, h.ww⟩
  exact ((h.perm.append_right [z]).trans List.perm_append_comm).trans (p1.append_right (B ++ W)).symm
/-- The sum of a whole order. -/
def eB (o : Od) (y : Rn) : Bool := !y.w && decide (y.o.s = 3 - o.s) && decide (y.o.m ≠ o.m) && o.good y.o.p
def sumE (o : Od) : List Rn → Int
  | [] => 0
  | y :: r => (if eB o y = true then y.l else 0) + sumE o r
theorem sumE_perm {o : Od} {l m : List Rn} (h : l.Perm m) : sumE o l = sumE o m := by
  induction h with
  | nil => rfl
  | cons x _ ih => simp only [sumE, ih]
  | swap x y l => simp only [sumE]; omega
  | trans _ _ ih1 ih2 => exact ih1.trans ih2
theorem sumE_append (o : Od) : ∀ l m : List Rn, sumE o (l ++ m) = sumE o l + sumE o m
  | [], m => by simp [sumE]
  | y :: l, m => by simp only [List.cons_append, sumE, sumE_append o l m]; omega
theorem sumE_zero {o : Od} : ∀ {l : List Rn}, (∀ x ∈ l, eB o x = false) → sumE o l = 0
  | [], _ => rfl
  | y :: l, h => by
    rw [sumE, h y (by simp), sumE_zero (l := l) (fun x hx => h x (List.mem_cons_of_mem _ hx))]
    rfl
theorem sumE_nonneg {o : Od} : ∀ {l : List Rn}, (∀ x ∈ l, 0 ≤ x.l) → 0 ≤ sumE o l
  | [], _ => by simp [sumE]
  | y :: l, h => by
    have := h y (by simp)
    have := sumE_nonneg (o := o) (l := l) (fun x hx => h x (List.mem_cons_of_mem _ hx))
    rw [sumE]
    split <;> omega
theorem sumE_le {o : Od} {M : Int} (hM : 0 ≤ M) : ∀ {l : List Rn}, (∀ x ∈ l, x.l ≤ M) → sumE o l ≤ M * l.length
  | [], _ => by simp [sumE]
  | y :: l, h => by
    have := h y (by simp)
    have := sumE_le (o := o) hM (l := l) (fun x hx => h x (List.mem_cons_of_mem _ hx))
    rw [sumE, List.length_cons]
    have e : M * ((l.length + 1 : Nat) : Int) = M * l.length + M := by rw [Int.natCast_add, Int.mul_add]; simp
    rw [e]
    split <;> omega
/-- A worse price is no better for an order. -/
theorem good_worse {o : Od} (ho : o.s = 1 ∨ o.s = 2) {a b : Int} (h : better (3 - o.s) a b = true ∨ a = b) (hb : o.good a = false) : o.good b = false := by
  unfold Od.good at *
  unfold better at h
  rcases ho with h1 | h1 <;> rw [h1] at h hb ⊢ <;> by_cases hk : o.k = 2 <;> simp [hk] at * <;> omega
theorem need_sum {o : Od} (ho : o.s = 1 ∨ o.s = 2) : ∀ {A : List Rn} {need : Int}, (∀ y ∈ A, y.w = false ∧ y.o.s = 3 - o.s ∧ 0 ≤ y.l) → (A.map Rn.en).Pairwise (fun a b => better (3 - o.s) a.o.p b.o.p = true ∨ a.o.p = b.o.p) → 0 < need → (needF o (A.map Rn.en) need ≠ 0 ↔ sumE o A < need)
  | [], need, _, _, hn => by simp [needF, sumE]; omega
  | y :: A, need, hA, hp, hn => by
    rw [List.map_cons] at hp
    obtain ⟨hp1, hp2⟩ := List.pairwise_cons.1 hp
    obtain ⟨y1, y2, y3⟩ := hA y (by simp)
    have hA' : ∀ z ∈ A, z.w = false ∧ z.o.s = 3 - o.s ∧ 0 ≤ z.l := fun z hz => hA z (List.mem_cons_of_mem _ hz)
    have nn := sumE_nonneg (o := o) (l := A) (fun z hz => (hA' z hz).2.2)
    rw [List.map_cons]
    unfold needF
    have ey : y.en.o = y.o := rfl
    have el : y.en.l = y.l := rfl
    rw [ey, el]
    by_cases hg : o.good y.o.p = false
    · rw [if_pos hg]
      have hz : sumE o (y :: A) = 0 := sumE_zero fun x hx => by
        have : o.good x.o.p = false := by
          rcases List.mem_cons.1 hx with rfl | hx
          · exact hg
          · exact good_worse ho (hp1 x.en (List.mem_map.2 ⟨x, hx, rfl⟩)) hg
        unfold eB
        rw [this]; simp
      rw [hz]
      omega
    · rw [if_neg hg]
      simp only [Bool.not_eq_false] at hg
      have he : eB o y = decide (y.o.m ≠ o.m) := by
        unfold eB
        rw [y1, decide_eq_true y2, hg]
        simp
      rw [sumE, he]
      by_cases hm : y.o.m ≠ o.m
      · simp only [if_pos hm]
        rw [if_pos (show decide (y.o.m ≠ o.m) = true by simpa using hm)]
        by_cases c : 0 < need - min need y.l
        · rw [if_pos c, need_sum ho hA' hp2 c]
          omega
        · rw [if_neg c]
          omega
      · simp only [if_neg hm]
        rw [if_neg (show ¬ decide (y.o.m ≠ o.m) = true by simpa using hm), if_pos hn, need_sum ho hA' hp2 hn]
        omega
theorem RelS.enough {s : Int} (hs : s = 1 ∨ s = 2) {S : Bd} {x : Rb} {A B W : List Rn} (h : RelS s S x A B W) (hS : BdOk S) {o : Od} (ho : o.s = 3 - s) {need : Int} (hn : 0 < need) : needF o (S.half s).all need ≠ 0 ↔ sumE o x.L < need := by
  have e3 : 3 - o.s = s := by omega
  have hz : sumE o (B ++ W) = 0 := sumE_zero fun y hy => by
    have := h.rest hs hS y hy
    unfold cR at this
    unfold eB
    rw [e3, this]
    simp
  have g1 : ∀ y ∈ A, y.w = false ∧ y.o.s = 3 - o.s ∧ 0 ≤ y.l := fun y hy => by
    have k := h.a.mem (hS.half hs) hy
    refine ⟨(h.a.w y hy).1, ?_, ?_⟩
    · rw [e3]; exact k.s
    · have : 1 ≤ y.en.l := k.l.1
      exact Int.le_trans (by omega) this
  have g2 : (A.map Rn.en).Pairwise (fun a b => better (3 - o.s) a.o.p b.o.p = true ∨ a.o.p = b.o.p) := by
    rw [h.a.en, e3]
    exact (hS.half hs).order
  rw [sumE_perm h.perm, sumE_append, hz, ← h.a.en, need_sum (by omega) g1 g2 hn]
  omega
end Go.Proofs.Ytdjhpldiifdifaa
