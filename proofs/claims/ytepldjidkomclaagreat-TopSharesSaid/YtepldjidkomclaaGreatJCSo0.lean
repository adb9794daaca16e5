/- A stable order of ints by a comparison: plain laws of merging. No program in sight. The board in plain Lean: orders, entries, halves by price and time, and what the calls do. No program in sight. The board in plain Lean: what holds at every board; a meeting and its measure. No program in sight. The board in plain Lean: an order comes in; waiting orders come in; what a number has and loses. No program in sight. The board in plain Lean: Enter and Cancel whole: what a number has and loses. No program in sight. -/
import Derived.Test.YtepldjidkomclaaGreatRows
namespace Go.Proofs.YtepldjidkomclaaGreat.Ca
set_option linter.unusedSimpArgs false
set_option linter.unusedVariables false
structure Swo (lt : Int → Int → Bool) : Prop where
  asym : ∀ a b, lt a b = true → lt b a = false
  neg : ∀ a b c, lt a b = true → lt a c = true ∨ lt c b = true
def Tt (lt : Int → Int → Bool) (a b : Int) : Prop := lt a b = true ∨ (lt b a = false ∧ a < b)
section
variable {lt : Int → Int → Bool}
theorem Tt.trans (h : Swo lt) {a b c : Int} (h1 : Tt lt a b) (h2 : Tt lt b c) : Tt lt a c := by
  unfold Tt at *
  rcases h1 with h1 | ⟨h1, i1⟩
  · rcases h2 with h2 | ⟨h2, i2⟩
    · rcases h.neg a b c h1 with h3 | h3
      · exact .inl h3
      · rw [h.asym _ _ h2] at h3; cases h3
    · rcases h.neg a b c h1 with h3 | h3
      · exact .inl h3
      · rw [h2] at h3; cases h3
  · rcases h2 with h2 | ⟨h2, i2⟩
    · rcases h.neg b c a h2 with h3 | h3
      · rw [h1] at h3; cases h3
      · exact .inl h3
    · by_cases h3 : lt c a = true
      · rcases h.neg c a b h3 with h4 | h4
        · rw [h2] at h4; cases h4
        · rw [h1] at h4; cases h4
      · exact .inr ⟨by simpa using h3, by omega⟩
theorem Tt.total (_h : Swo lt) {a b : Int} (hn : a ≠ b) : Tt lt a b ∨ Tt lt b a := by
  unfold Tt
  by_cases h1 : lt a b = true
  · exact .inl (.inl h1)
  · by_cases h2 : lt b a = true
    · exact .inr (.inl h2)
    · have h1' : lt a b = false := by simpa using h1
      have h2' : lt b a = false := by simpa using h2
      rcases Int.lt_or_gt_of_ne hn with h | h
      · exact .inl (.inr ⟨h2', h⟩)
      · exact .inr (.inr ⟨h1', h⟩)
theorem Tt.asym (h : Swo lt) {a b : Int} (h1 : Tt lt a b) : ¬ Tt lt b a := by
  unfold Tt at *
  rintro (h2 | ⟨h2, i2⟩)
  · rcases h1 with h1 | ⟨h1, _⟩
    · rw [h.asym _ _ h1] at h2; cases h2
    · rw [h1] at h2; cases h2
  · rcases h1 with h1 | ⟨_, i1⟩
    · rw [h1] at h2; cases h2
    · omega
theorem Tt.late {x y : Int} (hxy : x < y) : Tt lt y x ↔ lt y x = true := by
  unfold Tt
  constructor
  · rintro (h | ⟨_, h⟩)
    · exact h
    · omega
  · exact .inl
theorem Tt.early {x y : Int} (hxy : x < y) (h : lt y x = false) : Tt lt x y := .inr ⟨h, hxy⟩
theorem sorted_app {a b : List Int} : (a ++ b).Pairwise (Tt lt) ↔ a.Pairwise (Tt lt) ∧ b.Pairwise (Tt lt) ∧ ∀ x ∈ a, ∀ y ∈ b, Tt lt x y := List.pairwise_append
theorem put_early (h : Swo lt) {x : Int} {Y1 Y2 : List Int} (hs : (Y1 ++ Y2).Pairwise (Tt lt)) (he : ∀ y ∈ Y1 ++ Y2, x < y) (h1 : ∀ y ∈ Y1, lt y x = true) (h2 : ∀ y ∈ Y2, lt y x = false) : (Y1 ++ x :: Y2).Pairwise (Tt lt) := by
  have hs' := sorted_app.1 hs
  refine sorted_app.2 ⟨hs'.1, List.pairwise_cons.2 ⟨fun y hy => Tt.early (he y (List.mem_append_right _ hy)) (h2 y hy), hs'.2.1⟩, fun a ha b hb => ?_⟩
  rcases List.mem_cons.1 hb with rfl | hb
  · exact .inl (h1 a ha)
  · exact hs'.2.2 a ha b hb
theorem put_late (h : Swo lt) {y : Int} {X1 X2 : List Int} (hs : (X1 ++ X2).Pairwise (Tt lt)) (he : ∀ x ∈ X1 ++ X2, x < y) (h1 : ∀ x ∈ X1, lt y x = false) (h2 : ∀ x ∈ X2, lt y x = true) : (X1 ++ y :: X2).Pairwise (Tt lt) := by
  have hs' := sorted_app.1 hs
  refine sorted_app.2 ⟨hs'.1, List.pairwise_cons.2 ⟨fun x hx => .inl (h2 x hx), hs'.2.1⟩, fun a ha b hb => ?_⟩
  rcases List.mem_cons.1 hb with rfl | hb
  · exact Tt.early (he a (List.mem_append_left _ ha)) (h1 a ha)
  · exact hs'.2.2 a ha b hb
theorem merge_halves (h : Swo lt) {X1 X2 Y1 Y2 Z W : List Int} (hX : (X1 ++ X2).Pairwise (Tt lt)) (hY : (Y1 ++ Y2).Pairwise (Tt lt)) (h1 : ∀ x ∈ X1, ∀ y ∈ Y2, Tt lt x y) (h2 : ∀ y ∈ Y1, ∀ x ∈ X2, Tt lt y x)
    (hZ : Z.Pairwise (Tt lt)) (pZ : Z.Perm (X1 ++ Y1)) (hW : W.Pairwise (Tt lt)) (pW : W.Perm (X2 ++ Y2)) : (Z ++ W).Pairwise (Tt lt) ∧ (Z ++ W).Perm ((X1 ++ X2) ++ (Y1 ++ Y2)) := by
  refine ⟨sorted_app.2 ⟨hZ, hW, fun z hz w hw => ?_⟩, ?_⟩
  · rcases List.mem_append.1 (pZ.mem_iff.1 hz) with a | a <;> rcases List.mem_append.1 (pW.mem_iff.1 hw) with c | c
    · exact (sorted_app.1 hX).2.2 z a w c
    · exact h1 z a w c
    · exact h2 z a w c
    · exact (sorted_app.1 hY).2.2 z a w c
  · refine (pZ.append pW).trans ?_
    rw [List.append_assoc, List.append_assoc]
    refine List.Perm.append_left X1 ?_
    rw [← List.append_assoc, ← List.append_assoc]
    exact List.perm_append_comm.append_right Y2
theorem part_one (h : Swo lt) {X1 Y2 : List Int} (hX : X1.Pairwise (Tt lt)) (hY : Y2.Pairwise (Tt lt)) (hh : X1 = [] ∨ Y2 = [] ∨ ∃ x X' y Y', X1 = X' ++ [x] ∧ Y2 = y :: Y' ∧ Tt lt x y) : ∀ x ∈ X1, ∀ y ∈ Y2, Tt lt x y := by
  rcases hh with rfl | rfl | ⟨x, X', y, Y', rfl, rfl, hxy⟩
  · intro x hx; cases hx
  · intro x _ y hy; cases hy
  · intro a ha c hc
    have h1 : a = x ∨ Tt lt a x := by
      rcases List.mem_append.1 ha with e | e
      · exact .inr ((sorted_app.1 hX).2.2 a e x (by simp))
      · exact .inl (by simpa using e)
    have h2 : c = y ∨ Tt lt y c := by
      rcases List.mem_cons.1 hc with e | e
      · exact .inl e
      · exact .inr ((List.pairwise_cons.1 hY).1 c e)
    have h3 : Tt lt a y := by
      rcases h1 with rfl | h1
      · exact hxy
      · exact Tt.trans h h1 hxy
    rcases h2 with rfl | h2
    · exact h3
    · exact Tt.trans h h3 h2
end
end Go.Proofs.YtepldjidkomclaaGreat.Ca
namespace Go.Proofs.YtepldjidkomclaaGreat.Bo
set_option linter.unusedSimpArgs false
set_option linter.unusedVariables false
structure Od where
  m : Int
  s : Int
  k : Int
  f : Int
  p : Int
  t : Int
  q : Int
  pk : Int
deriving DecidableEq
structure En where
  n : Int
  o : Od
  l : Int
  h : Int
deriving DecidableEq
structure Ev where
  w : Int
  o : Int
  x : Int
  p : Int
  q : Int
deriving DecidableEq
abbrev Half := List (Int × List En)
structure Bd where
  buy : Half
  sell : Half
  wait : List En
  nums : Int
  last : Int
def inB2 (x lo hi : Int) : Bool := decide (lo ≤ x) && decide (x ≤ hi)
def sideB (s : Int) : Bool := decide (s = 1) || decide (s = 2)
def Od.ok (o : Od) : Bool :=
  inB2 o.m 1 1000 && sideB o.s && inB2 o.f 1 4 && inB2 o.q 1 1000000000 && inB2 o.t 0 1000000 &&
  (if o.k = 1 then inB2 o.p 1 1000000 else if o.k = 2 then decide (o.p = 0) && (decide (o.f = 2) || decide (o.f = 3)) else false) &&
  (decide (o.pk = 0) || inB2 o.pk 1 o.q && (decide (o.f = 1) || decide (o.f = 4)))
def Od.good (o : Od) (price : Int) : Bool := if o.k = 2 then true else if o.s = 1 then decide (price ≤ o.p) else decide (o.p ≤ price)
def better (side a b : Int) : Bool := if side = 1 then decide (b < a) else decide (a < b)
def Half.all (h : Half) : List En := h.flatMap Prod.snd
def frontH : Half → Option En
  | [] => none
  | (_, q) :: _ => q.head?
def meetsH (o : Od) (h : Half) : Bool :=
  match frontH h with
  | none => false
  | some e => o.good e.o.p
def popH : Half → Half
  | [] => []
  | (_, []) :: r => r
  | (p, _ :: q) :: r => if q.isEmpty then r else (p, q) :: r
def setH (y : En) : Half → Half
  | [] => []
  | (_, []) :: r => r
  | (p, _ :: q) :: r => (p, y :: q) :: r
def addH (side : Int) (e : En) : Half → Half
  | [] => [(e.o.p, [e])]
  | (p, q) :: r => if p = e.o.p then (p, q ++ [e]) :: r else if better side e.o.p p then (e.o.p, [e]) :: (p, q) :: r else (p, q) :: addH side e r
def takeH (e : En) : Half → Half
  | [] => []
  | (p, q) :: r => if p = e.o.p then (if (q.filter fun y => decide (y.n ≠ e.n)).isEmpty then r else (p, q.filter fun y => decide (y.n ≠ e.n)) :: r) else (p, q) :: takeH e r
def tradeH (side : Int) (y : En) (q : Int) (h : Half) : Half :=
  if 0 < y.h - q then setH { y with l := y.l - q, h := y.h - q } h
  else if y.l - q = 0 then popH h
  else addH side { y with l := y.l - q, h := min y.o.pk (y.l - q) } (popH h)
def needF (o : Od) : List En → Int → Int
  | [], need => need
  | y :: r, need =>
    if o.good y.o.p = false then need
    else if 0 < (if y.o.m ≠ o.m then need - min need y.l else need) then needF o r (if y.o.m ≠ o.m then need - min need y.l else need)
    else (if y.o.m ≠ o.m then need - min need y.l else need)
structure Mt where
  left : Int
  h : Half
  last : Int
  evs : List Ev
def meet1 (o : Od) (n : Int) (side : Int) (y : En) (s : Mt) : Mt :=
  if y.o.m = o.m then ⟨s.left, popH s.h, s.last, s.evs ++ [⟨5, y.n, 0, 0, y.l⟩]⟩
  else ⟨s.left - min s.left y.h, tradeH side y (min s.left y.h) s.h, y.o.p, s.evs ++ [⟨1, n, y.n, y.o.p, min s.left y.h⟩]⟩
def meetF (o : Od) (n : Int) (side : Int) : Nat → Mt → Mt
  | 0, s => s
  | k + 1, s => if 0 < s.left then (match frontH s.h with | none => s | some y => if o.good y.o.p = true then meetF o n side k (meet1 o n side y s) else s) else s
def sizeH (h : Half) : Nat := (h.all.map fun e => e.l.toNat + 1).sum
def Bd.half (S : Bd) (side : Int) : Half := if side = 1 then S.buy else S.sell
def Bd.put (S : Bd) (side : Int) (h : Half) : Bd := if side = 1 then { S with buy := h } else { S with sell := h }
def comeF (S : Bd) (n : Int) (o : Od) (left : Int) (evs : List Ev) : Bd × List Ev :=
  if o.f = 4 ∧ meetsH o (S.half (3 - o.s)) = true then (S, evs ++ [⟨6, n, 0, 0, left⟩])
  else if o.f = 3 ∧ needF o (S.half (3 - o.s)).all left ≠ 0 then (S, evs ++ [⟨4, n, 0, 0, left⟩])
  else
    let r := meetF o n (3 - o.s) (sizeH (S.half (3 - o.s))) ⟨left, S.half (3 - o.s), S.last, evs⟩
    let S1 : Bd := { S.put (3 - o.s) r.h with last := r.last }
    if r.left = 0 then (S1, r.evs)
    else if o.f = 1 ∨ o.f = 4 then (S1.put o.s (addH o.s ⟨n, o, r.left, if 0 < o.pk then min o.pk r.left else r.left⟩ (S1.half o.s)), r.evs ++ [⟨2, n, 0, o.p, r.left⟩])
    else (S1, r.evs ++ [⟨3, n, 0, 0, r.left⟩])
def dueB (last : Int) (e : En) : Bool := if last = 0 then false else if e.o.s = 1 then decide (e.o.t ≤ last) else decide (last ≤ e.o.t)
def stopsF : Nat → Bd → List Ev → Bd × List Ev
  | 0, S, evs => (S, evs)
  | k + 1, S, evs =>
    match S.wait.find? (dueB S.last) with
    | none => (S, evs)
    | some x => stopsF k (comeF { S with wait := S.wait.eraseIdx (S.wait.findIdx (dueB S.last)) } x.n x.o x.l (evs ++ [⟨7, x.n, 0, 0, x.l⟩])).1 (comeF { S with wait := S.wait.eraseIdx (S.wait.findIdx (dueB S.last)) } x.n x.o x.l (evs ++ [⟨7, x.n, 0, 0, x.l⟩])).2
def Bd.live (S : Bd) : List En := S.buy.all ++ (S.sell.all ++ S.wait)
def enterE (S : Bd) (o : Od) : Int := if o.ok = false then 1 else if 4096 ≤ S.live.length then 6 else if o.f = 4 ∧ o.t = 0 ∧ meetsH o (S.half (3 - o.s)) = true then 20 else 0
def enterF (S : Bd) (o : Od) : Bd × List Ev :=
  let r := if o.t = 0 then comeF { S with nums := S.nums + 1 } (S.nums + 1) o o.q [] else ({ S with nums := S.nums + 1, wait := S.wait ++ [⟨S.nums + 1, o, o.q, 0⟩] }, [⟨8, S.nums + 1, 0, 0, o.q⟩])
  stopsF r.1.wait.length r.1 r.2
def Bd.get (S : Bd) (n : Int) : Option En := S.live.find? fun e => decide (e.n = n)
def Bd.off (S : Bd) (e : En) (waits : Bool) : Bd := if waits = true then { S with wait := S.wait.filter fun y => decide (y.n ≠ e.n) } else S.put e.o.s (takeH e (S.half e.o.s))
end Go.Proofs.YtepldjidkomclaaGreat.Bo
namespace Go.Proofs.YtepldjidkomclaaGreat.Bo
set_option linter.unusedSimpArgs false
set_option linter.unusedVariables false
theorem inB2_iff {x lo hi : Int} : inB2 x lo hi = true ↔ lo ≤ x ∧ x ≤ hi := by unfold inB2; simp
structure EnOk (side nums : Int) (e : En) : Prop where
  n : 1 ≤ e.n ∧ e.n ≤ nums
  ok : e.o.ok = true
  s : e.o.s = side
  l : 1 ≤ e.l ∧ e.l ≤ e.o.q
  h : 1 ≤ e.h ∧ e.h ≤ e.l
  f : e.o.k = 1
  pk : e.h < e.l → 1 ≤ e.o.pk
theorem EnOk.mono {side nums nums' : Int} {e : En} (h : EnOk side nums e) (hn : nums ≤ nums') : EnOk side nums' e := ⟨by have := h.n; omega, h.ok, h.s, h.l, h.h, h.f, h.pk⟩
structure HOk (side nums : Int) (h : Half) : Prop where
  full : ∀ x ∈ h, x.2 ≠ []
  ent : ∀ x ∈ h, ∀ e ∈ x.2, EnOk side nums e
  price : ∀ x ∈ h, ∀ e ∈ x.2, e.o.p = x.1
  sorted : h.Pairwise fun a b => better side a.1 b.1 = true
theorem HOk.mono {side nums nums' : Int} {h : Half} (hh : HOk side nums h) (hn : nums ≤ nums') : HOk side nums' h := ⟨hh.full, fun x hx e he => (hh.ent x hx e he).mono hn, hh.price, hh.sorted⟩
theorem HOk.nil (side nums : Int) : HOk side nums [] := ⟨by simp, by simp, by simp, List.Pairwise.nil⟩
theorem HOk.tail {side nums : Int} {x : Int × List En} {h : Half} (hh : HOk side nums (x :: h)) : HOk side nums h :=
  ⟨fun y hy => hh.full y (List.mem_cons_of_mem _ hy), fun y hy => hh.ent y (List.mem_cons_of_mem _ hy), fun y hy => hh.price y (List.mem_cons_of_mem _ hy), (List.pairwise_cons.1 hh.sorted).2⟩
theorem HOk.cons {side nums : Int} {p : Int} {q : List En} {h : Half} (hh : HOk side nums h) (h1 : q ≠ []) (h2 : ∀ e ∈ q, EnOk side nums e ∧ e.o.p = p) (h3 : ∀ x ∈ h, better side p x.1 = true) : HOk side nums ((p, q) :: h) := by
  refine ⟨fun x hx => ?_, fun x hx e he => ?_, fun x hx e he => ?_, List.pairwise_cons.2 ⟨h3, hh.sorted⟩⟩
  · rcases List.mem_cons.1 hx with rfl | hx
    · exact h1
    · exact hh.full x hx
  · rcases List.mem_cons.1 hx with rfl | hx
    · exact (h2 e he).1
    · exact hh.ent x hx e he
  · rcases List.mem_cons.1 hx with rfl | hx
    · exact (h2 e he).2
    · exact hh.price x hx e he
theorem HOk.head {side nums : Int} {p : Int} {q : List En} {h : Half} (hh : HOk side nums ((p, q) :: h)) : q ≠ [] ∧ (∀ e ∈ q, EnOk side nums e ∧ e.o.p = p) ∧ ∀ x ∈ h, better side p x.1 = true :=
  ⟨hh.full (p, q) List.mem_cons_self, fun e he => ⟨hh.ent (p, q) List.mem_cons_self e he, hh.price (p, q) List.mem_cons_self e he⟩, (List.pairwise_cons.1 hh.sorted).1⟩
theorem all_cons (p : Int) (q : List En) (h : Half) : Half.all ((p, q) :: h) = q ++ h.all := rfl
theorem all_nil : Half.all [] = [] := rfl
theorem HOk.mem {side nums : Int} {h : Half} (hh : HOk side nums h) : ∀ e ∈ h.all, EnOk side nums e := by
  intro e he
  obtain ⟨x, hx, hex⟩ := List.mem_flatMap.1 he
  exact hh.ent x hx e hex
theorem HOk.cases {side nums : Int} {h : Half} (hh : HOk side nums h) : (h = [] ∧ frontH h = none) ∨ ∃ p y q r, h = (p, y :: q) :: r ∧ frontH h = some y ∧ y.o.p = p ∧ EnOk side nums y := by
  match h, hh with
  | [], _ => exact .inl ⟨rfl, rfl⟩
  | (p, []) :: r, hh => exact absurd rfl hh.head.1
  | (p, y :: q) :: r, hh => exact .inr ⟨p, y, q, r, rfl, rfl, (hh.head.2.1 y (by simp)).2, (hh.head.2.1 y (by simp)).1⟩
theorem popH_ok {side nums : Int} {p : Int} {y : En} {q : List En} {r : Half} (hh : HOk side nums ((p, y :: q) :: r)) : HOk side nums (popH ((p, y :: q) :: r)) ∧ Half.all ((p, y :: q) :: r) = y :: (popH ((p, y :: q) :: r)).all := by
  unfold popH
  cases q with
  | nil => exact ⟨hh.tail, by simp [all_cons]⟩
  | cons z q =>
    simp only [List.isEmpty_cons, Bool.false_eq_true, if_false]
    exact ⟨hh.tail.cons (by simp) (fun e he => hh.head.2.1 e (List.mem_cons_of_mem _ he)) hh.head.2.2, by simp [all_cons]⟩
theorem setH_ok {side nums : Int} {p : Int} {y z : En} {q : List En} {r : Half} (hh : HOk side nums ((p, y :: q) :: r)) (hz : EnOk side nums z) (hp : z.o.p = p) : HOk side nums (setH z ((p, y :: q) :: r)) ∧ (setH z ((p, y :: q) :: r)).all = z :: (popH ((p, y :: q) :: r)).all := by
  refine ⟨hh.tail.cons (by simp) (fun e he => ?_) hh.head.2.2, ?_⟩
  · rcases List.mem_cons.1 he with rfl | he
    · exact ⟨hz, hp⟩
    · exact hh.head.2.1 e (List.mem_cons_of_mem _ he)
  · have := (popH_ok hh).2
    rw [all_cons] at this
    simp only [List.cons_append, List.cons.injEq, true_and] at this
    rw [← this]
    rfl
theorem better_trans {side a b c : Int} (h : better side a b = true) (k : better side b c = true) : better side a c = true := by
  unfold better at *
  by_cases hs : side = 1 <;> simp only [hs, if_true, if_false, decide_eq_true_eq] at * <;> omega
theorem better_not {side a b : Int} (h : ¬ a = b) (k : better side a b = false) : better side b a = true := by
  unfold better at *
  by_cases hs : side = 1 <;> simp only [hs, if_true, if_false, decide_eq_true_eq, decide_eq_false_iff_not] at * <;> omega
theorem addH_all (side : Int) (e : En) : ∀ h : Half, (addH side e h).all.Perm (e :: h.all)
  | [] => by simp [addH, all_cons, all_nil]
  | (p, q) :: r => by
    unfold addH
    split
    · rw [all_cons, all_cons, List.append_assoc]
      exact List.perm_middle
    · split
      · exact List.Perm.refl _
      · rw [all_cons, all_cons]
        exact ((addH_all side e r).append_left q).trans List.perm_middle
theorem addH_first {side : Int} {e : En} : ∀ {h : Half}, ∀ x ∈ addH side e h, x.1 = e.o.p ∨ ∃ y ∈ h, y.1 = x.1
  | [], x, hx => by simp [addH] at hx; exact .inl (by rw [hx])
  | (p, q) :: r, x, hx => by
    unfold addH at hx
    split at hx
    · rename_i hp
      rcases List.mem_cons.1 hx with rfl | hx
      · exact .inl hp
      · exact .inr ⟨x, List.mem_cons_of_mem _ hx, rfl⟩
    · split at hx
      · rcases List.mem_cons.1 hx with rfl | hx
        · exact .inl rfl
        · exact .inr ⟨x, hx, rfl⟩
      · rcases List.mem_cons.1 hx with rfl | hx
        · exact .inr ⟨(p, q), by simp, rfl⟩
        · rcases addH_first x hx with h | ⟨y, h1, h2⟩
          · exact .inl h
          · exact .inr ⟨y, List.mem_cons_of_mem _ h1, h2⟩
theorem addH_ok {side nums : Int} {e : En} (he : EnOk side nums e) : ∀ {h : Half}, HOk side nums h → HOk side nums (addH side e h)
  | [], _ => (HOk.nil side nums).cons (by simp) (fun x hx => by simp at hx; subst hx; exact ⟨he, rfl⟩) (by simp)
  | (p, q) :: r, hh => by
    unfold addH
    split
    · rename_i hp
      refine hh.tail.cons (by simp) (fun x hx => ?_) hh.head.2.2
      rcases List.mem_append.1 hx with hx | hx
      · exact hh.head.2.1 x hx
      · simp at hx; subst hx; exact ⟨he, hp.symm⟩
    · rename_i hp
      split
      · rename_i hb
        refine hh.cons (by simp) (fun x hx => by simp at hx; subst hx; exact ⟨he, rfl⟩) (fun x hx => ?_)
        rcases List.mem_cons.1 hx with rfl | hx
        · exact hb
        · exact better_trans hb (hh.head.2.2 x hx)
      · rename_i hb
        refine (addH_ok he hh.tail).cons hh.head.1 hh.head.2.1 (fun x hx => ?_)
        rcases addH_first x hx with h | ⟨y, h1, h2⟩
        · rw [h]; exact better_not (fun h => hp h.symm) (by simpa using hb)
        · rw [← h2]; exact hh.head.2.2 y h1
def sizeL (l : List En) : Nat := (l.map fun e => e.l.toNat + 1).sum
theorem sizeL_cons (e : En) (l : List En) : sizeL (e :: l) = e.l.toNat + 1 + sizeL l := rfl
theorem sizeL_perm {l m : List En} (h : l.Perm m) : sizeL l = sizeL m := (h.map fun e : En => e.l.toNat + 1).sum_nat
theorem sizeH_eq (h : Half) : sizeH h = sizeL h.all := rfl
def sumL (n : Int) : List En → Int
  | [] => 0
  | e :: l => (if e.n = n then e.l else 0) + sumL n l
theorem sumL_perm {n : Int} {l m : List En} (h : l.Perm m) : sumL n l = sumL n m := by
  induction h with
  | nil => rfl
  | cons x _ ih => simp only [sumL, ih]
  | swap x y l => simp only [sumL]; omega
  | trans _ _ ih1 ih2 => exact ih1.trans ih2
theorem sumL_append (n : Int) : ∀ l m : List En, sumL n (l ++ m) = sumL n l + sumL n m
  | [], m => by simp [sumL]
  | e :: l, m => by simp only [List.cons_append, sumL, sumL_append n l m]; omega
def takesE (n : Int) (e : Ev) : Int :=
  if e.w = 1 then (if e.o = n then e.q else 0) + (if e.x = n then e.q else 0)
  else if e.w = 3 ∨ e.w = 4 ∨ e.w = 5 ∨ e.w = 6 then (if e.o = n then e.q else 0) else 0
def takes (n : Int) : List Ev → Int
  | [] => 0
  | e :: l => takesE n e + takes n l
theorem takes_append (n : Int) : ∀ l m : List Ev, takes n (l ++ m) = takes n l + takes n m
  | [], m => by simp [takes]
  | e :: l, m => by simp only [List.cons_append, takes, takes_append n l m]; omega
theorem takes_one (n : Int) (e : Ev) : takes n [e] = takesE n e := by simp [takes]
def EvOk (nums : Int) (e : Ev) : Prop := (1 ≤ e.o ∧ e.o ≤ nums) ∧ (0 ≤ e.x ∧ e.x ≤ nums) ∧ 1 ≤ e.q ∧ e.q ≤ 1000000000 ∧ (e.w = 1 → 1 ≤ e.x)
def SubN (l m : List Int) : Prop := ∃ d, (l ++ d).Perm m
theorem SubN.refl (l : List Int) : SubN l l := ⟨[], by simp⟩
theorem SubN.trans {l m k : List Int} (h : SubN l m) (g : SubN m k) : SubN l k := by
  obtain ⟨d, hd⟩ := h
  obtain ⟨e, he⟩ := g
  exact ⟨d ++ e, by rw [← List.append_assoc]; exact (hd.append_right e).trans he⟩
theorem SubN.of_perm {l m : List Int} (h : l.Perm m) : SubN l m := ⟨[], by simpa using h⟩
theorem SubN.app {l m l' m' : List Int} (h : SubN l m) (g : SubN l' m') : SubN (l ++ l') (m ++ m') := by
  obtain ⟨d, hd⟩ := h
  obtain ⟨e, he⟩ := g
  refine ⟨d ++ e, List.Perm.trans ?_ (hd.append he)⟩
  simp only [List.append_assoc]
  refine List.Perm.append_left l ?_
  rw [← List.append_assoc, ← List.append_assoc]
  exact (List.perm_append_comm (l₁ := l') (l₂ := d)).append_right e
theorem SubN.nodup {l m : List Int} (h : SubN l m) (hm : m.Nodup) : l.Nodup := by
  obtain ⟨d, hd⟩ := h
  exact (List.nodup_append.1 (hd.nodup_iff.2 hm)).1
theorem SubN.mem {l m : List Int} (h : SubN l m) {n : Int} (hn : n ∈ l) : n ∈ m := by
  obtain ⟨d, hd⟩ := h
  exact hd.mem_iff.1 (List.mem_append_left d hn)
theorem SubN.len {l m : List Int} (h : SubN l m) : l.length ≤ m.length := by
  obtain ⟨d, hd⟩ := h
  have := hd.length_eq
  rw [List.length_append] at this
  omega
def numsL (l : List En) : List Int := l.map En.n
theorem numsL_perm {l m : List En} (h : l.Perm m) : (numsL l).Perm (numsL m) := h.map _
theorem numsL_append (l m : List En) : numsL (l ++ m) = numsL l ++ numsL m := List.map_append
theorem sub_pop (y : En) (l : List En) : SubN (numsL l) (numsL (y :: l)) := ⟨[y.n], List.perm_append_comm⟩
theorem tradeH_ok {side nums : Int} {p : Int} {y : En} {q : List En} {r : Half} (hh : HOk side nums ((p, y :: q) :: r)) {k : Int} (h1 : 1 ≤ k) (h2 : k ≤ y.h) :
    HOk side nums (tradeH side y k ((p, y :: q) :: r)) ∧ (∀ n, sumL n (tradeH side y k ((p, y :: q) :: r)).all + (if y.n = n then k else 0) = sumL n (Half.all ((p, y :: q) :: r))) ∧
    sizeH (tradeH side y k ((p, y :: q) :: r)) + 1 ≤ sizeH ((p, y :: q) :: r) ∧ SubN (numsL (tradeH side y k ((p, y :: q) :: r)).all) (numsL (Half.all ((p, y :: q) :: r))) := by
  obtain ⟨yn, yo, yside, yl, yh, yf, ypk⟩ := (hh.head.2.1 y (by simp)).1
  have yp := (hh.head.2.1 y (by simp)).2
  obtain ⟨hp, hall⟩ := popH_ok hh
  rw [sizeH_eq, sizeH_eq, hall]
  unfold tradeH
  by_cases c1 : 0 < y.h - k
  · rw [if_pos c1]
    have key : EnOk side nums { y with l := y.l - k, h := y.h - k } := ⟨yn, yo, yside, by simp only; omega, by simp only; omega, yf, fun h => ypk (by simp only at h; omega)⟩
    obtain ⟨g1, g2⟩ := setH_ok hh key yp
    rw [g2]
    refine ⟨g1, fun n => ?_, ?_, SubN.refl _⟩
    · simp only [sumL]; split <;> omega
    · rw [sizeL_cons, sizeL_cons]; simp only; omega
  · rw [if_neg c1]
    by_cases c2 : y.l - k = 0
    · rw [if_pos c2]
      refine ⟨hp, fun n => ?_, ?_, sub_pop _ _⟩
      · simp only [sumL]; split <;> omega
      · rw [sizeL_cons]; omega
    · rw [if_neg c2]
      have hpk := ypk (by omega)
      have key : EnOk side nums { y with l := y.l - k, h := min y.o.pk (y.l - k) } := ⟨yn, yo, yside, by simp only; omega, by simp only; omega, yf, fun _ => hpk⟩
      have hperm := addH_all side { y with l := y.l - k, h := min y.o.pk (y.l - k) } (popH ((p, y :: q) :: r))
      refine ⟨addH_ok key hp, fun n => ?_, ?_, SubN.of_perm (by have := numsL_perm hperm; simpa [numsL] using this)⟩
      · rw [sumL_perm hperm]; simp only [sumL]; split <;> omega
      · rw [sizeL_perm hperm, sizeL_cons, sizeL_cons]; simp only; omega
structure MtOk (side nums xn : Int) (s : Mt) : Prop where
  left : 0 ≤ s.left ∧ s.left ≤ 1000000000
  ok : HOk side nums s.h
  last : 0 ≤ s.last ∧ s.last ≤ 1000000
  evs : ∀ e ∈ s.evs, EvOk nums e
def tot (n xn : Int) (s : Mt) : Int := takes n s.evs + sumL n s.h.all + (if xn = n then s.left else 0)
theorem okP {o : Od} (h : o.ok = true) (hk : o.k = 1) : 1 ≤ o.p ∧ o.p ≤ 1000000 := by
  unfold Od.ok at h
  rw [if_pos hk] at h
  simp only [Bool.and_eq_true] at h
  exact inB2_iff.1 h.1.2
theorem okQ {o : Od} (h : o.ok = true) : 1 ≤ o.q ∧ o.q ≤ 1000000000 := by
  unfold Od.ok at h
  simp only [Bool.and_eq_true] at h
  exact inB2_iff.1 h.1.1.1.2
theorem meet1_ok {side nums xn : Int} {o : Od} {y : En} {s : Mt} (hs : MtOk side nums xn s) (hx : 1 ≤ xn ∧ xn ≤ nums) (hl : 0 < s.left) (hy : frontH s.h = some y) :
    MtOk side nums xn (meet1 o xn side y s) ∧ (∀ n, tot n xn (meet1 o xn side y s) = tot n xn s) ∧ sizeH (meet1 o xn side y s).h + 1 ≤ sizeH s.h ∧ SubN (numsL (meet1 o xn side y s).h.all) (numsL s.h.all) ∧ (meet1 o xn side y s).evs.length = s.evs.length + 1 := by
  obtain ⟨left, h, last, evs⟩ := s
  obtain ⟨hs1, hs2, hs3, hs4⟩ := hs
  simp only at hs1 hs2 hs3 hs4 hl hy
  rcases hs2.cases with ⟨_, h2⟩ | ⟨p, y', q, r, rfl, h2, hp, he⟩
  · rw [h2] at hy; cases hy
  · rw [h2] at hy
    cases hy
    obtain ⟨yn, yo, yside, yl, yh, yf, ypk⟩ := he
    have hq := okQ yo
    have hpp := okP yo yf
    unfold meet1
    by_cases hm : y.o.m = o.m
    · rw [if_pos hm]
      obtain ⟨g1, g2⟩ := popH_ok hs2
      refine ⟨⟨hs1, g1, hs3, fun e he => ?_⟩, fun n => ?_, ?_, ?_, by simp⟩
      · rcases List.mem_append.1 he with he | he
        · exact hs4 e he
        · simp only [List.mem_cons, List.not_mem_nil, or_false] at he
          subst he
          exact ⟨yn, ⟨by simp only; omega, by simp only; omega⟩, by simp only; omega, by simp only; omega, fun h => by simp at h⟩
      · unfold tot
        simp only
        rw [takes_append, takes_one, g2]
        simp only [sumL, takesE]
        simp
        split <;> (try split) <;> omega
      · rw [sizeH_eq, sizeH_eq]; simp only; rw [g2, sizeL_cons]; omega
      · simp only; rw [g2]; exact sub_pop _ _
    · rw [if_neg hm]
      obtain ⟨g1, g2, g3, g4⟩ := tradeH_ok hs2 (k := min left y.h) (by omega) (by omega)
      refine ⟨⟨by simp only; omega, g1, by simp only; omega, fun e he => ?_⟩, fun n => ?_, g3, g4, by simp⟩
      · rcases List.mem_append.1 he with he | he
        · exact hs4 e he
        · simp only [List.mem_cons, List.not_mem_nil, or_false] at he
          subst he
          exact ⟨hx, ⟨by simp only; omega, by simp only; omega⟩, by simp only; omega, by simp only; omega, fun _ => by simp only; omega⟩
      · unfold tot
        simp only
        rw [takes_append, takes_one]
        have := g2 n
        simp only [takesE]
        simp
        split at this <;> split <;> (try split) <;> omega
theorem meetF_ok {side nums xn : Int} {o : Od} (hx : 1 ≤ xn ∧ xn ≤ nums) : ∀ (k : Nat) (s : Mt), MtOk side nums xn s →
    MtOk side nums xn (meetF o xn side k s) ∧ (∀ n, tot n xn (meetF o xn side k s) = tot n xn s) ∧ SubN (numsL (meetF o xn side k s).h.all) (numsL s.h.all) ∧ (meetF o xn side k s).evs.length + sizeH (meetF o xn side k s).h ≤ s.evs.length + sizeH s.h ∧ (meetF o xn side k s).left ≤ s.left
  | 0, s, hs => ⟨hs, fun _ => rfl, SubN.refl _, Nat.le_refl _, Int.le_refl _⟩
  | k + 1, s, hs => by
    have nop : MtOk side nums xn s ∧ (∀ n, tot n xn s = tot n xn s) ∧ SubN (numsL s.h.all) (numsL s.h.all) ∧ s.evs.length + sizeH s.h ≤ s.evs.length + sizeH s.h ∧ s.left ≤ s.left := ⟨hs, fun _ => rfl, SubN.refl _, Nat.le_refl _, Int.le_refl _⟩
    unfold meetF
    by_cases hl : 0 < s.left
    · rw [if_pos hl]
      cases hf : frontH s.h with
      | none => exact nop
      | some y =>
        simp only
        by_cases hg : o.good y.o.p = true
        · rw [if_pos hg]
          obtain ⟨g1, g2, g3, g4, g5⟩ := meet1_ok (o := o) hs hx hl hf
          obtain ⟨k1, k2, k3, k4, k5⟩ := meetF_ok hx k (meet1 o xn side y s) g1
          refine ⟨k1, fun n => (k2 n).trans (g2 n), k3.trans g4, by omega, Int.le_trans k5 ?_⟩
          unfold meet1
          split
          · exact Int.le_refl _
          · have hh := hs.ok
            rcases hh.cases with ⟨_, h2⟩ | ⟨p, y', q, r, hr, h2, hp, he⟩
            · rw [h2] at hf; cases hf
            · rw [h2] at hf; cases hf
              have := he.h
              simp only; omega
        · rw [if_neg hg]; exact nop
    · rw [if_neg hl]; exact nop
end Go.Proofs.YtepldjidkomclaaGreat.Bo
namespace Go.Proofs.YtepldjidkomclaaGreat.Bo
set_option linter.unusedSimpArgs false
set_option linter.unusedVariables false
structure WOk (nums : Int) (e : En) : Prop where
  n : 1 ≤ e.n ∧ e.n ≤ nums
  ok : e.o.ok = true
  l : e.l = e.o.q
  h : e.h = 0
  t : e.o.t ≠ 0
theorem WOk.mono {nums nums' : Int} {e : En} (h : WOk nums e) (hn : nums ≤ nums') : WOk nums' e := ⟨by have := h.n; omega, h.ok, h.l, h.h, h.t⟩
structure BdOk (S : Bd) : Prop where
  nums : 0 ≤ S.nums ∧ S.nums ≤ 1000000
  last : 0 ≤ S.last ∧ S.last ≤ 1000000
  buy : HOk 1 S.nums S.buy
  sell : HOk 2 S.nums S.sell
  wait : ∀ e ∈ S.wait, WOk S.nums e
  rise : S.wait.Pairwise fun a b => a.n < b.n
  once : (numsL S.live).Nodup
theorem sideB_iff {s : Int} : sideB s = true ↔ s = 1 ∨ s = 2 := by unfold sideB; simp
theorem okS {o : Od} (h : o.ok = true) : o.s = 1 ∨ o.s = 2 := by
  unfold Od.ok at h
  simp only [Bool.and_eq_true] at h
  exact sideB_iff.1 h.1.1.1.1.1.2
theorem okK {o : Od} (h : o.ok = true) (hf : o.f = 1 ∨ o.f = 4) : o.k = 1 := by
  unfold Od.ok at h
  simp only [Bool.and_eq_true] at h
  have h2 := h.1.2
  by_cases h1 : o.k = 1
  · exact h1
  · rw [if_neg h1] at h2
    by_cases h3 : o.k = 2
    · rw [if_pos h3] at h2
      simp at h2
      omega
    · rw [if_neg h3] at h2; cases h2
theorem okPk {o : Od} (h : o.ok = true) : o.pk = 0 ∨ 1 ≤ o.pk ∧ o.pk ≤ o.q := by
  unfold Od.ok at h
  simp only [Bool.and_eq_true] at h
  have h2 := h.2
  simp only [Bool.or_eq_true, Bool.and_eq_true, decide_eq_true_eq] at h2
  rcases h2 with h2 | h2
  · exact .inl h2
  · exact .inr (inB2_iff.1 h2.1)
theorem BdOk.half {S : Bd} (h : BdOk S) {s : Int} (hs : s = 1 ∨ s = 2) : HOk s S.nums (S.half s) := by
  rcases hs with rfl | rfl
  · exact h.buy
  · exact h.sell
theorem put_live {S : Bd} {s : Int} (hs : s = 1 ∨ s = 2) (h : Half) : (∀ n, sumL n (S.put s h).live + sumL n (S.half s).all = sumL n S.live + sumL n h.all) ∧ sizeL (S.put s h).live + sizeL (S.half s).all = sizeL S.live + sizeL h.all := by
  have ap : ∀ l m : List En, sizeL (l ++ m) = sizeL l + sizeL m := fun l m => by unfold sizeL; simp
  rcases hs with rfl | rfl
  · refine ⟨fun n => ?_, ?_⟩
    · simp only [Bd.put, Bd.half, Bd.live, if_true, sumL_append]; omega
    · simp only [Bd.put, Bd.half, Bd.live, if_true, ap]; omega
  · have h2 : ¬ (2 : Int) = 1 := by decide
    refine ⟨fun n => ?_, ?_⟩
    · simp only [Bd.put, Bd.half, Bd.live, if_neg h2, sumL_append]; omega
    · simp only [Bd.put, Bd.half, Bd.live, if_neg h2, ap]; omega
theorem put_sub {S : Bd} {s : Int} (hs : s = 1 ∨ s = 2) {h : Half} (hh : SubN (numsL h.all) (numsL (S.half s).all)) : SubN (numsL (S.put s h).live) (numsL S.live) := by
  rcases hs with rfl | rfl
  · simp only [Bd.put, Bd.half, Bd.live, if_true, numsL_append] at *
    exact hh.app (SubN.refl _)
  · have h2 : ¬ (2 : Int) = 1 := by decide
    simp only [Bd.put, Bd.half, Bd.live, if_neg h2, numsL_append] at *
    exact (SubN.refl _).app (hh.app (SubN.refl _))
theorem put_new {S : Bd} {s : Int} (hs : s = 1 ∨ s = 2) {h : Half} {n : Int} (hh : (numsL h.all).Perm (n :: numsL (S.half s).all)) : (numsL (S.put s h).live).Perm (n :: numsL S.live) := by
  rcases hs with rfl | rfl
  · simp only [Bd.put, Bd.half, Bd.live, if_true, numsL_append] at *
    exact hh.append_right _
  · have h2 : ¬ (2 : Int) = 1 := by decide
    simp only [Bd.put, Bd.half, Bd.live, if_neg h2, numsL_append] at *
    exact ((hh.append_right _).append_left _).trans List.perm_middle
theorem put_ok {S : Bd} (h : BdOk S) {s : Int} (hs : s = 1 ∨ s = 2) {g : Half} (hg : HOk s S.nums g) (hn : (numsL (S.put s g).live).Nodup) : BdOk (S.put s g) := by
  rcases hs with rfl | rfl
  · exact ⟨h.nums, h.last, hg, h.sell, h.wait, h.rise, hn⟩
  · exact ⟨h.nums, h.last, h.buy, hg, h.wait, h.rise, hn⟩
theorem put_half {S : Bd} {s : Int} (hs : s = 1 ∨ s = 2) (g : Half) : (S.put s g).half s = g ∧ (S.put s g).half (3 - s) = S.half (3 - s) ∧ (S.put (3 - s) g).half s = S.half s ∧ (S.put s g).nums = S.nums ∧ (S.put s g).last = S.last ∧ (S.put s g).wait = S.wait := by
  rcases hs with rfl | rfl <;> exact ⟨rfl, rfl, rfl, rfl, rfl, rfl⟩
theorem other_side {s : Int} (h : s = 1 ∨ s = 2) : 3 - s = 1 ∨ 3 - s = 2 := by omega
structure ComeOk (S : Bd) (n : Int) (left : Int) (evs : List Ev) (R : Bd × List Ev) : Prop where
  ok : BdOk R.1
  nums : R.1.nums = S.nums
  wait : R.1.wait = S.wait
  evok : ∀ e ∈ R.2, EvOk S.nums e
  tot : ∀ m, takes m R.2 + sumL m R.1.live = takes m evs + sumL m S.live + (if n = m then left else 0)
  sub : SubN (numsL R.1.live) (n :: numsL S.live)
  size : R.2.length + sizeL R.1.live ≤ evs.length + sizeL S.live + left.toNat + 2
theorem cons_sub (n : Int) (l : List Int) : SubN l (n :: l) := ⟨[n], List.perm_append_comm⟩
theorem come_end {S : Bd} (hS : BdOk S) {n left : Int} (hn : 1 ≤ n ∧ n ≤ S.nums) (hl : 1 ≤ left ∧ left ≤ 1000000000) {evs : List Ev} (he : ∀ e ∈ evs, EvOk S.nums e) {w : Int} (hw : w = 3 ∨ w = 4 ∨ w = 6) : ComeOk S n left evs (S, evs ++ [⟨w, n, 0, 0, left⟩]) := by
  refine ⟨hS, rfl, rfl, fun e hm => ?_, fun m => ?_, cons_sub _ _, ?_⟩
  · rcases List.mem_append.1 hm with hm | hm
    · exact he e hm
    · simp only [List.mem_cons, List.not_mem_nil, or_false] at hm
      subst hm
      exact ⟨hn, ⟨by simp only; omega, by have := hS.nums; simp only; omega⟩, by simp only; omega, by simp only; omega, fun h => by simp only at h; omega⟩
  · simp only
    rw [takes_append, takes_one]
    simp only [takesE]
    rcases hw with rfl | rfl | rfl <;> simp <;> omega
  · simp; omega
theorem comeF_ok {S : Bd} (hS : BdOk S) {n left : Int} {o : Od} (ho : o.ok = true) (hn : 1 ≤ n ∧ n ≤ S.nums) (hnew : n ∉ numsL S.live) (hl : 1 ≤ left ∧ left ≤ o.q) {evs : List Ev} (he : ∀ e ∈ evs, EvOk S.nums e) : ComeOk S n left evs (comeF S n o left evs) := by
  have hs := okS ho
  have hso := other_side hs
  have hq := okQ ho
  unfold comeF
  by_cases c1 : o.f = 4 ∧ meetsH o (S.half (3 - o.s)) = true
  · rw [if_pos c1]; exact come_end hS hn (by omega) he (.inr (.inr rfl))
  · rw [if_neg c1]
    by_cases c2 : o.f = 3 ∧ needF o (S.half (3 - o.s)).all left ≠ 0
    · rw [if_pos c2]; exact come_end hS hn (by omega) he (.inr (.inl rfl))
    · rw [if_neg c2]
      have hm0 : MtOk (3 - o.s) S.nums n ⟨left, S.half (3 - o.s), S.last, evs⟩ := ⟨by simp only; omega, hS.half hso, hS.last, he⟩
      obtain ⟨g1, g2, g3, g4, g5⟩ := meetF_ok (o := o) hn (sizeH (S.half (3 - o.s))) _ hm0
      obtain ⟨r, hr⟩ : ∃ r, r = meetF o n (3 - o.s) (sizeH (S.half (3 - o.s))) ⟨left, S.half (3 - o.s), S.last, evs⟩ := ⟨_, rfl⟩
      rw [← hr] at g1 g2 g3 g4 g5 ⊢
      simp only at g3 g4 g5
      have hsub := put_sub (S := S) hso g3
      have hB1 : BdOk (S.put (3 - o.s) r.h) := put_ok hS hso g1.ok (hsub.nodup hS.once)
      have pl := put_live (S := S) hso r.h
      have ph := put_half (S := S) hso r.h
      have h33 : 3 - (3 - o.s) = o.s := by omega
      rw [h33] at ph
      obtain ⟨S1, hS1⟩ : ∃ S1 : Bd, S1 = { S.put (3 - o.s) r.h with last := r.last } := ⟨_, rfl⟩
      have hlive : S1.live = (S.put (3 - o.s) r.h).live := by rw [hS1]; rfl
      have hB : BdOk S1 := by rw [hS1]; exact ⟨hB1.nums, g1.last, hB1.buy, hB1.sell, hB1.wait, hB1.rise, hB1.once⟩
      have hN : S1.nums = S.nums := by rw [hS1]; exact ph.2.2.2.1
      have hW : S1.wait = S.wait := by rw [hS1]; exact ph.2.2.2.2.2
      have hH : S1.half o.s = S.half o.s := by rw [hS1]; exact ph.2.1
      simp only
      rw [← hS1]
      have tot1 : ∀ m, takes m r.evs + sumL m S1.live + (if n = m then r.left else 0) = takes m evs + sumL m S.live + (if n = m then left else 0) := fun m => by
        have a := g2 m
        have b := pl.1 m
        unfold tot at a
        simp only at a
        rw [hlive]
        omega
      have sub1 : SubN (numsL S1.live) (numsL S.live) := by rw [hlive]; exact hsub
      have size1 : r.evs.length + sizeL S1.live ≤ evs.length + sizeL S.live := by
        have b := pl.2
        rw [sizeH_eq, sizeH_eq] at g4
        rw [hlive]
        omega
      have hr0 := g1.left
      by_cases c3 : r.left = 0
      · rw [if_pos c3]
        exact ⟨hB, hN, hW, g1.evs, fun m => by have := tot1 m; simp only; split at this <;> split <;> omega, sub1.trans (cons_sub _ _), by simp only; omega⟩
      · rw [if_neg c3]
        by_cases c4 : o.f = 1 ∨ o.f = 4
        · rw [if_pos c4]
          have hpk := okPk ho
          obtain ⟨sh, hsh⟩ : ∃ sh, sh = (if 0 < o.pk then min o.pk r.left else r.left) := ⟨_, rfl⟩
          rw [← hsh]
          have hsh2 : 1 ≤ sh ∧ sh ≤ r.left ∧ (sh < r.left → 1 ≤ o.pk) := by
            rw [hsh]; split <;> omega
          have key : EnOk o.s S.nums ⟨n, o, r.left, sh⟩ := ⟨hn, ho, rfl, by simp only; omega, by simp only; omega, okK ho c4, hsh2.2.2⟩
          have hold : HOk o.s S.nums (S1.half o.s) := by rw [hH]; exact hS.half hs
          have hperm := addH_all o.s ⟨n, o, r.left, sh⟩ (S1.half o.s)
          have hnp := put_new (S := S1) hs (h := addH o.s ⟨n, o, r.left, sh⟩ (S1.half o.s)) (n := n) (by have := numsL_perm hperm; simpa [numsL] using this)
          have hpl := put_live (S := S1) hs (addH o.s ⟨n, o, r.left, sh⟩ (S1.half o.s))
          have hph := put_half (S := S1) hs (addH o.s ⟨n, o, r.left, sh⟩ (S1.half o.s))
          have hnew1 : n ∉ numsL S1.live := fun h => hnew (sub1.mem h)
          refine ⟨put_ok hB hs (by rw [hN]; exact addH_ok key hold) (hnp.nodup_iff.2 (List.nodup_cons.2 ⟨hnew1, hB.once⟩)), hph.2.2.2.1.trans hN, hph.2.2.2.2.2.trans hW, fun e hm => ?_, fun m => ?_, ?_, ?_⟩
          · rcases List.mem_append.1 hm with hm | hm
            · exact g1.evs e hm
            · simp only [List.mem_cons, List.not_mem_nil, or_false] at hm
              subst hm
              exact ⟨hn, ⟨by simp only; omega, by have := hS.nums; simp only; omega⟩, by simp only; omega, by simp only; omega, fun h => by simp at h⟩
          · have a := tot1 m
            have b := hpl.1 m
            have c := sumL_perm (n := m) hperm
            simp only [sumL] at c
            simp only
            rw [takes_append, takes_one]
            simp only [takesE]
            simp
            split at a <;> split at c <;> split <;> omega
          · exact (SubN.of_perm hnp).trans ((SubN.refl [n]).app sub1)
          · have b := hpl.2
            have c := sizeL_perm hperm
            rw [sizeL_cons] at c
            simp only [List.length_append, List.length_cons, List.length_nil]
            simp only at c
            omega
        · rw [if_neg c4]
          refine ⟨hB, hN, hW, fun e hm => ?_, fun m => ?_, sub1.trans (cons_sub _ _), ?_⟩
          · rcases List.mem_append.1 hm with hm | hm
            · exact g1.evs e hm
            · simp only [List.mem_cons, List.not_mem_nil, or_false] at hm
              subst hm
              exact ⟨hn, ⟨by simp only; omega, by have := hS.nums; simp only; omega⟩, by simp only; omega, by simp only; omega, fun h => by simp at h⟩
          · have a := tot1 m
            simp only
            rw [takes_append, takes_one]
            simp only [takesE]
            simp
            split at a <;> split <;> omega
          · simp only [List.length_append, List.length_cons, List.length_nil]
            omega
end Go.Proofs.YtepldjidkomclaaGreat.Bo
namespace Go.Proofs.YtepldjidkomclaaGreat.Bo
set_option linter.unusedSimpArgs false
set_option linter.unusedVariables false
theorem find_split {α : Type} {p : α → Bool} : ∀ {l : List α} {x : α}, l.find? p = some x → ∃ pre post, l = pre ++ x :: post ∧ l.findIdx p = pre.length ∧ l.eraseIdx (l.findIdx p) = pre ++ post ∧ p x = true
  | [], x, h => by simp at h
  | a :: l, x, h => by
    by_cases ha : p a = true
    · rw [List.find?_cons_of_pos ha] at h
      cases h
      refine ⟨[], l, rfl, ?_, ?_, ha⟩
      · simp [List.findIdx_cons, ha]
      · simp [List.findIdx_cons, ha]
    · rw [List.find?_cons_of_neg ha] at h
      obtain ⟨pre, post, h1, h2, h3, h4⟩ := find_split h
      have e : (a :: l).findIdx p = l.findIdx p + 1 := by
        simp only [Bool.not_eq_true] at ha
        simp [List.findIdx_cons, ha]
      refine ⟨a :: pre, post, by rw [h1]; rfl, by rw [e, h2]; rfl, ?_, h4⟩
      rw [e, List.eraseIdx_cons_succ, h3]
      rfl
theorem wait_off {S : Bd} (hS : BdOk S) {pre post : List En} {x : En} (hw : S.wait = pre ++ x :: post) : BdOk { S with wait := pre ++ post } ∧ (S.live).Perm (x :: Bd.live { S with wait := pre ++ post }) := by
  have hp : (S.live).Perm (x :: Bd.live { S with wait := pre ++ post }) := by
    unfold Bd.live
    rw [hw]
    simp only
    have h1 : (pre ++ x :: post).Perm (x :: (pre ++ post)) := List.perm_middle
    exact (((h1.append_left S.sell.all).trans List.perm_middle).append_left S.buy.all).trans List.perm_middle
  refine ⟨⟨hS.nums, hS.last, hS.buy, hS.sell, fun e he => hS.wait e ?_, ?_, ?_⟩, hp⟩
  · rw [hw]
    rcases List.mem_append.1 he with h | h
    · exact List.mem_append_left _ h
    · exact List.mem_append_right _ (List.mem_cons_of_mem _ h)
  · have := hS.rise
    rw [hw, List.pairwise_append] at this
    obtain ⟨a, b, c⟩ := this
    exact List.pairwise_append.2 ⟨a, (List.pairwise_cons.1 b).2, fun u hu v hv => c u hu v (List.mem_cons_of_mem _ hv)⟩
  · have := (numsL_perm hp).nodup_iff.1 hS.once
    exact (List.nodup_cons.1 this).2
end Go.Proofs.YtepldjidkomclaaGreat.Bo
