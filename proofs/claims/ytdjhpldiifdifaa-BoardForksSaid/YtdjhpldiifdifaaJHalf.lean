/- Sides: what add, take and a changed front come to in plain words. -/
import Derived.Test.YtdjhpldiifdifaaJBrd0
namespace Go.Proofs.Ytdjhpldiifdifaa
set_option linter.unusedSimpArgs false
set_option linter.unusedVariables false
open Go.RowKit

/-- The shape of a side: full queues, prices, sorted. -/
structure HSh (side : Int) (h : Half) : Prop where
  full : ∀ x ∈ h, x.2 ≠ []
  price : ∀ x ∈ h, ∀ e ∈ x.2, e.o.p = x.1
  sorted : h.Pairwise fun a b => better side a.1 b.1 = true
theorem HOk.sh {side nums : Int} {h : Half} (hh : HOk side nums h) : HSh side h := ⟨hh.full, hh.price, hh.sorted⟩
theorem HSh.tail {side : Int} {x : Int × List En} {h : Half} (hh : HSh side (x :: h)) : HSh side h :=
  ⟨fun y hy => hh.full y (List.mem_cons_of_mem _ hy), fun y hy => hh.price y (List.mem_cons_of_mem _ hy), (List.pairwise_cons.1 hh.sorted).2⟩
theorem HSh.set {side : Int} {h : Half} (hh : HSh side h) {y z : En} (hy : frontH h = some y) (hz : z.o.p = y.o.p) : HSh side (setH z h) := by
  match h, hh with
  | [], hh => exact hh
  | (p, []) :: r, hh => cases hy
  | (p, y' :: q) :: r, hh =>
    have hy : y' = y := by injection hy
    subst hy
    refine ⟨fun x hx => ?_, fun x hx e he => ?_, ?_⟩
    · rcases List.mem_cons.1 hx with rfl | hx
      · simp
      · exact hh.full x (List.mem_cons_of_mem _ hx)
    · rcases List.mem_cons.1 hx with rfl | hx
      · rcases List.mem_cons.1 he with rfl | he
        · rw [hz]; exact hh.price (p, y' :: q) List.mem_cons_self y' (by simp)
        · exact hh.price (p, y' :: q) List.mem_cons_self e (List.mem_cons_of_mem _ he)
      · exact hh.price x (List.mem_cons_of_mem _ hx) e he
    · have := List.pairwise_cons.1 hh.sorted
      exact List.pairwise_cons.2 ⟨this.1, this.2⟩
theorem HSh.pop {side : Int} {h : Half} (hh : HSh side h) : HSh side (popH h) := by
  match h, hh with
  | [], hh => exact hh
  | (p, []) :: r, hh => exact hh.tail
  | (p, y :: q) :: r, hh =>
    unfold popH
    cases q with
    | nil => exact hh.tail
    | cons z q =>
      simp only [List.isEmpty_cons, Bool.false_eq_true, if_false]
      refine ⟨fun x hx => ?_, fun x hx e he => ?_, ?_⟩
      · rcases List.mem_cons.1 hx with rfl | hx
        · simp
        · exact hh.full x (List.mem_cons_of_mem _ hx)
      · rcases List.mem_cons.1 hx with rfl | hx
        · exact hh.price (p, y :: z :: q) List.mem_cons_self e (List.mem_cons_of_mem _ he)
        · exact hh.price x (List.mem_cons_of_mem _ hx) e he
      · have := List.pairwise_cons.1 hh.sorted
        exact List.pairwise_cons.2 ⟨this.1, this.2⟩
theorem lv_len {side : Int} {en : Nat → En} : ∀ {ls : List Lv}, HSh side (plainH ls en) → ls.length ≤ (ensL ls).length
  | [], _ => by simp
  | x :: r, h => by
    have h1 : x.2.2 ≠ [] := by
      have := h.full (x.1, x.2.2.map fun y => en y.2) (by simp [plainH])
      intro e; apply this; simp [e]
    have ih := lv_len (ls := r) h.tail
    have : 0 < x.2.2.length := List.length_pos_iff.2 h1
    show r.length + 1 ≤ ((x.2.2.map Prod.snd) ++ ensL r).length
    rw [List.length_append, List.length_map]
    omega
theorem q_len {ls : List Lv} {x : Lv} (h : x ∈ ls) : x.2.2.length ≤ (ensL ls).length := by
  obtain ⟨pre, post, rfl⟩ := List.append_of_mem h
  have := (flat_mid (fun x : Lv => x.2.2.map Prod.snd) pre post x).length_eq
  rw [List.length_append, List.length_map] at this
  unfold ensL
  omega
theorem split_price (side p : Int) : ∀ ls : List Lv, (ls.Pairwise fun a b => better side a.1 b.1 = true) → ∃ pre post, ls = pre ++ post ∧ (∀ x ∈ pre, better side x.1 p = true) ∧ ∀ x ∈ post, better side x.1 p = false
  | [], _ => ⟨[], [], rfl, by simp, by simp⟩
  | x :: r, h => by
    obtain ⟨h1, h2⟩ := List.pairwise_cons.1 h
    cases hb : better side x.1 p with
    | true =>
      obtain ⟨pre, post, rfl, g1, g2⟩ := split_price side p r h2
      refine ⟨x :: pre, post, rfl, fun y hy => ?_, g2⟩
      rcases List.mem_cons.1 hy with rfl | hy
      · exact hb
      · exact g1 y hy
    | false =>
      refine ⟨[], x :: r, rfl, by simp, fun y hy => ?_⟩
      rcases List.mem_cons.1 hy with rfl | hy
      · exact hb
      · cases hc : better side y.1 p with
        | false => rfl
        | true =>
          have := better_trans (h1 y hy) hc
          rw [hb] at this
          cases this
theorem sorted_ls {side : Int} {en : Nat → En} {ls : List Lv} (h : HSh side (plainH ls en)) : ls.Pairwise fun a b => better side a.1 b.1 = true := by
  have := h.sorted
  unfold plainH at this
  rw [List.pairwise_map] at this
  exact this
theorem better_irr {side a : Int} : better side a a = false := by unfold better; split <;> simp
theorem better_ne {side a b : Int} (h : better side a b = true) : a ≠ b := fun e => by subst e; rw [better_irr] at h; cases h
theorem better_asymm {side a b : Int} (h : better side a b = true) : better side b a = false := by
  cases hc : better side b a with
  | false => rfl
  | true => have := better_trans h hc; rw [better_irr] at this; cases this
theorem addH_put (side : Int) (en : Nat → En) (X L E : Nat) {p : Int} (hp : (en X).o.p = p) {post : List Lv} (h2 : ∀ x ∈ post, better side x.1 p = false) : ∀ {pre : List Lv}, (∀ x ∈ pre, better side x.1 p = true) → addH side (en X) (plainH (pre ++ post) en) = plainH (putL pre post p L E X) en
  | x :: pre, h1 => by
    have hx := h1 x (by simp)
    have ih := addH_put side en X L E hp h2 (pre := pre) (fun y hy => h1 y (List.mem_cons_of_mem _ hy))
    have e : putL (x :: pre) post p L E X = x :: putL pre post p L E X := by
      unfold putL
      cases post with
      | nil => rfl
      | cons y r => simp only; split <;> rfl
    rw [e]
    show addH side (en X) ((x.1, x.2.2.map fun y => en y.2) :: plainH (pre ++ post) en) = (x.1, x.2.2.map fun y => en y.2) :: plainH (putL pre post p L E X) en
    rw [addH, hp, if_neg (better_ne hx), better_asymm hx, if_neg (by simp), ih]
  | [], _ => by
    cases post with
    | nil => simp [putL, plainH, addH, hp]
    | cons x r =>
      have hx := h2 x (by simp)
      show addH side (en X) ((x.1, x.2.2.map fun y => en y.2) :: plainH r en) = _
      rw [addH, hp]
      unfold putL
      simp only [List.nil_append]
      by_cases he : x.1 = p
      · rw [if_pos he, if_pos he]
        simp [plainH, he]
      · rw [if_neg he, if_neg he, better_not he hx, if_pos rfl]
        simp [plainH]
theorem ensL_put (pre post : List Lv) (p : Int) (L E X : Nat) : (ensL (putL pre post p L E X)).Perm (X :: ensL (pre ++ post)) := by
  unfold putL
  cases post with
  | nil => simp [ensL]
  | cons x r =>
    simp only
    split
    · refine (flat_mid (fun x : Lv => x.2.2.map Prod.snd) pre r _).trans ?_
      refine List.Perm.trans ?_ ((flat_mid (fun x : Lv => x.2.2.map Prod.snd) pre r x).symm.cons X)
      simp only [List.map_append, List.map_cons, List.map_nil, List.append_assoc, List.singleton_append]
      exact List.perm_middle
    · refine (flat_mid (fun x : Lv => x.2.2.map Prod.snd) pre (x :: r) _).trans ?_
      exact List.Perm.refl _
/-- half.add in plain words. -/
def AddedH (O : Nat → Nat) (c : Nat) (w : World) (H : Nat) (side : Int) (ls : List Lv) (X : Nat) (en : Nat → En) (e : Ending) (w' : World) : Prop :=
  e = .returned (.tuple #[]) ∧ (∃ ls', HlfC (grow O w c) c w' H side ls' en ∧ plainH ls' en = addH side (en X) (plainH ls en) ∧ (ensL ls').Perm (X :: ensL ls)) ∧ Kept (fun k => O k = c) w w'
theorem half_add {O : Nat → Nat} {c : Nat} {w : World} {H : Nat} {side : Int} {ls : List Lv} {X : Nat} {en : Nat → En} {pl : Option Nat} (h : HlfC O c w H side ls en) (ho : HSh side (plainH ls en)) (hlen : (ensL ls).length ≤ 5000)
    (hX : X ∉ ensL ls) (hOX : O X = c) (eX : EnC w X (en X) false pl) : Calls Try.prog 67 #[pt H, pt X] w (AddedH O c w H side ls X en) := by
  have h1 := lv_len ho
  obtain ⟨pre, post, rfl, g1, g2⟩ := split_price side (en X).o.p ls (sorted_ls ho)
  have key : Calls Try.prog 67 #[pt H, pt X] w (Added O c w H side pre post (en X).o.p X en) := by
    cases post with
    | nil => exact add_new h rfl hX hOX eX g1 g2 (fun x r e => by cases e) (by omega)
    | cons x r =>
      obtain ⟨p, L, q⟩ := x
      by_cases he : p = (en X).o.p
      · subst he
        have := q_len (ls := pre ++ ((en X).o.p, L, q) :: r) (x := ((en X).o.p, L, q)) (by simp)
        simp only at this
        exact add_old h rfl hX hOX eX g1 g2 (by omega) (by omega)
      · exact add_new h rfl hX hOX eX g1 g2 (fun x r e => by have := (List.cons.inj e).1; rw [← this]; exact he) (by omega)
  refine key.mono ?_
  rintro e w' ⟨r1, ⟨L, E, r2⟩, r3⟩
  exact ⟨r1, ⟨_, r2, (addH_put side en X L E rfl g2 g1).symm, ensL_put _ _ _ _ _ _⟩, r3⟩
/-- half.take of the front in plain words. -/
def Popped (O : Nat → Nat) (c : Nat) (w : World) (H : Nat) (side : Int) (ls : List Lv) (X : Nat) (en : Nat → En) (e : Ending) (w' : World) : Prop :=
  e = .returned (.tuple #[]) ∧ (∃ ls', HlfC (grow O w c) c w' H side ls' en ∧ plainH ls' en = popH (plainH ls en) ∧ ensL ls = X :: ensL ls') ∧ EnC w' X (en X) false none ∧ Kept (fun k => O k = c) w w'
theorem half_pop {O : Nat → Nat} {c : Nat} {w : World} {H : Nat} {side : Int} {ls : List Lv} {X : Nat} {en : Nat → En} (h : HlfC O c w H side ls en) (ho : HSh side (plainH ls en)) (hlen : (ensL ls).length ≤ 5000)
    (hX : frontL ls = some X) : Calls Try.prog 72 #[pt H, pt X] w (Popped O c w H side ls X en) := by
  have h1 := lv_len ho
  cases ls with
  | nil => cases hX
  | cons x r =>
    obtain ⟨p, L, q⟩ := x
    cases q with
    | nil => cases hX
    | cons y q =>
      obtain ⟨E, Y⟩ := y
      have hX : Y = X := by injection hX
      subst hX
      have hq := q_len (ls := (p, L, (E, Y) :: q) :: r) (x := (p, L, (E, Y) :: q)) (by simp)
      simp only at hq
      have hp : (en Y).o.p = p := ho.price (p, en Y :: q.map fun y => en y.2) (by simp [plainH]) (en Y) (by simp)
      have hs := sorted_ls ho
      obtain ⟨s1, s2⟩ := List.pairwise_cons.1 hs
      have := take_calls (pre := []) (post := r) (q1 := []) (q2 := q) (E := E) (X := Y) (p := p) (L := L) h hp (by simp) (fun x hx => by
        rcases List.mem_cons.1 hx with rfl | hx
        · exact better_irr
        · exact better_asymm (s1 x hx)) (by show (_ :: r).length ≤ _; simp only [List.length_cons] at h1 ⊢; omega) (by show ((E, Y) :: q).length ≤ _; omega)
      refine this.mono ?_
      rintro e w' ⟨r1, r2, r3, r4⟩
      refine ⟨r1, ⟨_, r2, ?_, ?_⟩, r3, r4⟩
      · unfold cutL
        cases q with
        | nil => simp [plainH, popH]
        | cons z q => simp [plainH, popH]
      · unfold cutL
        cases q with
        | nil => simp [ensL]
        | cons z q => simp [ensL]
/-- Another entry in an entry's block. -/
def setEn (en : Nat → En) (X : Nat) (e : En) : Nat → En := fun k => if k = X then e else en k
theorem setEn_self (en : Nat → En) (X : Nat) (e : En) : setEn en X e X = e := if_pos rfl
theorem setEn_far (en : Nat → En) {X k : Nat} (e : En) (h : k ≠ X) : setEn en X e k = en k := if_neg h
theorem HlfC.front {O : Nat → Nat} {c : Nat} {w : World} {H : Nat} {side : Int} {ls : List Lv} {en : Nat → En} (h : HlfC O c w H side ls en) {X : Nat} (hX : frontL ls = some X) : O X = c ∧ ∃ E, EnC w X (en X) false (some E) := by
  cases ls with
  | nil => cases hX
  | cons x r =>
    obtain ⟨p, L, q⟩ := x
    cases q with
    | nil => cases hX
    | cons y q =>
      have hX : y.2 = X := by injection hX
      subst hX
      obtain ⟨_, _, h3⟩ := h.lv _ (List.mem_cons_self)
      obtain ⟨_, b2, b3⟩ := h3 y (by simp)
      exact ⟨b2, _, b3⟩
/-- The front is changed. -/
theorem HlfC.setFront {O : Nat → Nat} {c : Nat} {w w' : World} {H : Nat} {side : Int} {ls : List Lv} {en : Nat → En} (h : HlfC O c w H side ls en) {X : Nat} (hX : frontL ls = some X) {e : En} (hk : Kept (fun k => k = X) w w') (he : ∀ E, EnC w X (en X) false (some E) → EnC w' X e false (some E)) :
    HlfC O c w' H side ls (setEn en X e) ∧ plainH ls (setEn en X e) = setH e (plainH ls en) := by
  cases ls with
  | nil => cases hX
  | cons x r =>
    obtain ⟨p, L, q⟩ := x
    cases q with
    | nil => cases hX
    | cons y q =>
      obtain ⟨E, Y⟩ := y
      have hX : Y = X := by injection hX
      subst hX
      have nN := h.nodN
      have hn : Y ∉ q.map Prod.snd ++ ensL r := by
        have : (Y :: (q.map Prod.snd ++ ensL r)).Nodup := nN
        exact (List.nodup_cons.1 this).1
      obtain ⟨a1, a2, a3⟩ := h.lv _ (List.mem_cons_self)
      simp only at a1 a2 a3
      obtain ⟨b1, b2, b3⟩ := a3 (E, Y) (by simp)
      simp only at b1 b2 b3
      obtain ⟨v, c1, c2, c3⟩ := h.cell
      refine ⟨⟨⟨v, c1.kept hk (c1.ne b3 (by decide)), OwnE.kept c2 hk (fun b hb => by obtain ⟨cs, hcs⟩ := own_lt c2 hb; exact hcs.ne b3 (by decide)), c3⟩, h.col, fun x hx => ?_, h.nodL, h.nodE, h.nodN⟩, ?_⟩
      · have hx' := h.lv x hx
        have hL : ¬ x.2.1 = Y := hx'.1.c.ne b3 (by decide)
        have hE : ∀ y ∈ x.2.2, ¬ y.1 = Y := fun y hy => by obtain ⟨cs, hc⟩ := hx'.el hy; exact hc.ne b3 (by decide)
        refine ⟨hx'.1.keptC hk hL hE, hx'.2.1, fun y hy => ?_⟩
        obtain ⟨d1, d2, d3⟩ := hx'.2.2 y hy
        refine ⟨d1, d2, ?_⟩
        by_cases hyY : y.2 = Y
        · rw [hyY, setEn_self]
          refine he _ ?_
          have := d3
          rw [hyY] at this
          exact this
        · rw [setEn_far _ _ hyY]
          exact d3.kept hk hyY
      · show (p, (setEn en Y e) Y :: q.map fun y => (setEn en Y e) y.2) :: plainH r (setEn en Y e) = setH e ((p, en Y :: q.map fun y => en y.2) :: plainH r en)
        rw [setEn_self, setH, plainH_congr (en := en) (fun E hE => setEn_far _ _ (fun e => hn (by rw [← e]; exact List.mem_append_right _ hE)))]
        congr 3
        exact List.map_congr_left (fun y hy => setEn_far _ _ (fun e => hn (by rw [← e]; exact List.mem_append_left _ (List.mem_map.2 ⟨y, hy, rfl⟩))))
/-- The front, in plain words. -/
theorem front_plain {ls : List Lv} {en : Nat → En} {side : Int} (ho : HSh side (plainH ls en)) : frontH (plainH ls en) = (frontL ls).map en := by
  cases ls with
  | nil => rfl
  | cons x r =>
    obtain ⟨p, L, q⟩ := x
    cases q with
    | nil => exact absurd rfl (ho.full (p, []) (by simp [plainH]))
    | cons y q => rfl
theorem full_ls {ls : List Lv} {en : Nat → En} {side : Int} (ho : HSh side (plainH ls en)) : ∀ x ∈ ls, x.2.2 ≠ [] := by
  intro x hx e
  exact ho.full (x.1, x.2.2.map fun y => en y.2) (List.mem_map.2 ⟨x, hx, rfl⟩) (by simp [e])
theorem front_mem {ls : List Lv} {X : Nat} (h : frontL ls = some X) : X ∈ ensL ls := by
  cases ls with
  | nil => cases h
  | cons x r =>
    obtain ⟨p, L, q⟩ := x
    cases q with
    | nil => cases h
    | cons y q =>
      have h : y.2 = X := by injection h
      rw [← h]
      exact mem_ens (x := (p, L, y :: q)) (by simp) (by simp)
end Go.Proofs.Ytdjhpldiifdifaa
