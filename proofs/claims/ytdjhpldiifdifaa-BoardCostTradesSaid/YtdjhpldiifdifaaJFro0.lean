/- BoardFronts in plain Lean: whom an order meets first, and at what prices it trades. No program in sight. -/
import Derived.Test.YtdjhpldiifdifaaJKee0
namespace Go.Proofs.Ytdjhpldiifdifaa
set_option linter.unusedSimpArgs false
set_option linter.unusedVariables false

/-- What the law asks of the events that are left. -/
inductive FrOk (n q0 p0 : Int) (o : Od) : Bool → Int → List Ev → Prop
  | nil {first : Bool} {paid : Int} : FrOk n q0 p0 o first paid []
  | stop {first : Bool} {paid : Int} {e : Ev} {r : List Ev} (h : e.w = 7) : FrOk n q0 p0 o first paid (e :: r)
  | skip {first : Bool} {paid : Int} {e : Ev} {r : List Ev} (h1 : e.w ≠ 1) (h7 : e.w ≠ 7) (h : FrOk n q0 p0 o (if e.w = 5 then false else first) paid r) : FrOk n q0 p0 o first paid (e :: r)
  | trade {first : Bool} {paid : Int} {e : Ev} {r : List Ev} (h1 : e.w = 1) (hn : e.o = n) (hf : first = true → e.x = q0 ∧ e.p = p0) (hp : first = false → paid ≠ 0 → (o.s = 1 → paid ≤ e.p) ∧ (o.s = 2 → e.p ≤ paid)) (hl : o.k = 1 → (o.s = 1 → e.p ≤ o.p) ∧ (o.s = 2 → o.p ≤ e.p)) (h : FrOk n q0 p0 o false e.p r) : FrOk n q0 p0 o first paid (e :: r)
/-- The front is the best. -/
theorem front_all {side nums : Int} {h : Half} {y : En} (hh : HOk side nums h) (hy : frontH h = some y) : ∀ e ∈ h.all, e.o.p = y.o.p ∨ better side y.o.p e.o.p = true := by
  rcases hh.cases with ⟨h1, h2⟩ | ⟨p, y', q, r, hr, h2, hp, he⟩
  · rw [h2] at hy; cases hy
  · rw [h2] at hy
    cases hy
    subst hr
    intro e hmem
    rw [all_cons] at hmem
    rcases List.mem_append.1 hmem with hm | hm
    · exact .inl (by rw [hp]; exact (hh.head.2.1 e hm).2)
    · obtain ⟨x, hx, hex⟩ := List.mem_flatMap.1 hm
      have h3 := hh.head.2.2 x hx
      rw [hp, hh.tail.price x hx e hex]
      exact .inr h3
/-- What holds before each meeting. -/
def FrIn (q0 p0 : Int) (o : Od) (first : Bool) (paid : Int) (h : Half) : Prop :=
  (first = true → paid = 0 ∧ ∀ y, frontH h = some y → y.n = q0 ∧ y.o.p = p0) ∧ (first = false → paid ≠ 0 → ∀ e ∈ h.all, (o.s = 1 → paid ≤ e.o.p) ∧ (o.s = 2 → e.o.p ≤ paid))
theorem meetF_fr {side nums xn q0 p0 : Int} {o : Od} (hx : 1 ≤ xn ∧ xn ≤ nums) (hside : side = 3 - o.s) (hs12 : o.s = 1 ∨ o.s = 2) : ∀ (k : Nat) (s : Mt), MtOk side nums xn s →
    ∃ t, (meetF o xn side k s).evs = s.evs ++ t ∧ ∀ rest, (∀ f p, FrOk xn q0 p0 o f p rest) → ∀ f p, FrIn q0 p0 o f p s.h → FrOk xn q0 p0 o f p (t ++ rest)
  | 0, s, hs => ⟨[], by simp [meetF], fun rest hr f p _ => hr f p⟩
  | k + 1, s, hs => by
    unfold meetF
    by_cases hl : 0 < s.left
    · rw [if_pos hl]
      cases hf : frontH s.h with
      | none => exact ⟨[], by simp, fun rest hr f p _ => hr f p⟩
      | some y =>
        simp only
        by_cases hg : o.good y.o.p = true
        · rw [if_pos hg]
          obtain ⟨g1, g2, g3, g4, g5⟩ := meet1_ok (o := o) hs hx hl hf
          obtain ⟨t, ht, hfr⟩ := meetF_fr hx hside hs12 k (meet1 o xn side y s) g1
          have hfew := meet1_fewer (o := o) hs hf
          have hall := front_all hs.ok hf
          rw [ht]
          by_cases hm : y.o.m = o.m
          · refine ⟨⟨5, y.n, 0, 0, y.l⟩ :: t, by unfold meet1; rw [if_pos hm]; simp, fun rest hr f p hin => ?_⟩
            refine .skip (by simp) (by simp) ?_
            rw [if_pos rfl]
            refine hfr rest hr false p ⟨fun h => absurd h (by decide), fun _ hp e he => ?_⟩
            obtain ⟨d, hd, hde⟩ := hfew e he
            rw [← hde]
            cases f with
            | false => exact hin.2 rfl hp d hd
            | true => exact absurd (hin.1 rfl).1 hp
          · refine ⟨⟨1, xn, y.n, y.o.p, min s.left y.h⟩ :: t, by unfold meet1; rw [if_neg hm]; simp, fun rest hr f p hin => ?_⟩
            have hy : y ∈ s.h.all := by
              rcases hs.ok.cases with ⟨h1, h2⟩ | ⟨p, y', q, r, hr, h2, hp, he⟩
              · rw [h2] at hf; cases hf
              · rw [h2] at hf; cases hf
                rw [hr, all_cons]; simp
            refine .trade rfl rfl (fun h => (hin.1 h).2 y hf) (fun h hp => hin.2 h hp y hy) (fun hk => ?_) ?_
            · unfold Od.good at hg
              rw [if_neg (by omega)] at hg
              rcases hs12 with h | h
              · rw [if_pos h] at hg; simp at hg; exact ⟨fun _ => hg, fun h2 => by omega⟩
              · rw [if_neg (by omega)] at hg; simp at hg; exact ⟨fun h2 => by omega, fun _ => hg⟩
            · refine hfr rest hr false _ ⟨fun h => absurd h (by decide), fun _ _ e he => ?_⟩
              obtain ⟨d, hd, hde⟩ := hfew e he
              rw [← hde]
              rcases hall d hd with h | h
              · simp only; omega
              · unfold better at h
                subst hside
                rcases hs12 with h1 | h1
                · rw [if_neg (by omega)] at h; simp at h; exact ⟨fun _ => by simp only; omega, fun h2 => by omega⟩
                · rw [if_pos (by omega)] at h; simp at h; exact ⟨fun h2 => by omega, fun _ => by simp only; omega⟩
        · rw [if_neg hg]
          exact ⟨[], by simp, fun rest hr f p _ => hr f p⟩
    · rw [if_neg hl]
      exact ⟨[], by simp, fun rest hr f p _ => hr f p⟩
/-- Events are only added. -/
theorem meetF_app {o : Od} {xn side : Int} : ∀ (k : Nat) (s : Mt), ∃ t, (meetF o xn side k s).evs = s.evs ++ t
  | 0, s => ⟨[], by simp [meetF]⟩
  | k + 1, s => by
    unfold meetF
    split
    · split
      · exact ⟨[], by simp⟩
      · rename_i y _
        split
        · obtain ⟨t, ht⟩ := meetF_app (o := o) (xn := xn) (side := side) k (meet1 o xn side y s)
          rw [ht]
          unfold meet1
          split
          · exact ⟨⟨5, y.n, 0, 0, y.l⟩ :: t, by simp⟩
          · exact ⟨⟨1, xn, y.n, y.o.p, min s.left y.h⟩ :: t, by simp⟩
        · exact ⟨[], by simp⟩
    · exact ⟨[], by simp⟩
theorem comeF_app (S : Bd) (n : Int) (o : Od) (left : Int) (evs : List Ev) : ∃ t, (comeF S n o left evs).2 = evs ++ t := by
  unfold comeF
  split
  · exact ⟨_, rfl⟩
  · split
    · exact ⟨_, rfl⟩
    · obtain ⟨t, ht⟩ := meetF_app (o := o) (xn := n) (side := 3 - o.s) (sizeH (S.half (3 - o.s))) ⟨left, S.half (3 - o.s), S.last, evs⟩
      simp only
      rw [ht]
      split
      · exact ⟨t, rfl⟩
      · split
        · exact ⟨_, List.append_assoc ..⟩
        · exact ⟨_, List.append_assoc ..⟩
theorem stopsF_app : ∀ (k : Nat) (S : Bd) (evs : List Ev), ∃ t, (stopsF k S evs).2 = evs ++ t ∧ ∀ n q0 p0 o f p, FrOk n q0 p0 o f p t
  | 0, S, evs => ⟨[], by simp [stopsF], fun _ _ _ _ _ _ => .nil⟩
  | k + 1, S, evs => by
    unfold stopsF
    split
    · exact ⟨[], by simp, fun _ _ _ _ _ _ => .nil⟩
    · rename_i x _
      obtain ⟨t, ht, _⟩ := stopsF_app k (comeF { S with wait := S.wait.eraseIdx (S.wait.findIdx (dueB S.last)) } x.n x.o x.l (evs ++ [⟨7, x.n, 0, 0, x.l⟩])).1 (comeF { S with wait := S.wait.eraseIdx (S.wait.findIdx (dueB S.last)) } x.n x.o x.l (evs ++ [⟨7, x.n, 0, 0, x.l⟩])).2
      obtain ⟨t2, ht2⟩ := comeF_app { S with wait := S.wait.eraseIdx (S.wait.findIdx (dueB S.last)) } x.n x.o x.l (evs ++ [⟨7, x.n, 0, 0, x.l⟩])
      rw [ht, ht2]
      exact ⟨⟨7, x.n, 0, 0, x.l⟩ :: (t2 ++ t), by simp, fun _ _ _ _ _ _ => .stop rfl⟩
theorem comeF_fr {S : Bd} (hS : BdOk S) {n left q0 p0 : Int} {o : Od} (ho : o.ok = true) (hn : 1 ≤ n ∧ n ≤ S.nums) (hl : 1 ≤ left ∧ left ≤ 1000000000)
    (hq : ∀ y, frontH (S.half (3 - o.s)) = some y → y.n = q0 ∧ y.o.p = p0) :
    ∀ rest, (∀ f p, FrOk n q0 p0 o f p rest) → FrOk n q0 p0 o true 0 ((comeF S n o left []).2 ++ rest) := by
  intro rest hr
  unfold comeF
  split
  · exact .skip (by simp) (by simp) (hr _ _)
  · split
    · exact .skip (by simp) (by simp) (hr _ _)
    · have hm : MtOk (3 - o.s) S.nums n ⟨left, S.half (3 - o.s), S.last, []⟩ := ⟨⟨by simp only; omega, hl.2⟩, hS.half (other_side (okS ho)), hS.last, by simp⟩
      obtain ⟨t, ht, hfr⟩ := meetF_fr (q0 := q0) (p0 := p0) hn rfl (okS ho) (sizeH (S.half (3 - o.s))) _ hm
      have hin : FrIn q0 p0 o true 0 (S.half (3 - o.s)) := ⟨fun _ => ⟨rfl, hq⟩, fun h => absurd h (by decide)⟩
      simp only
      rw [ht]
      simp only [List.nil_append]
      split
      · exact hfr rest hr _ _ hin
      · split
        · rw [List.append_assoc]
          exact hfr _ (fun f p => .skip (by simp) (by simp) (hr _ _)) _ _ hin
        · rw [List.append_assoc]
          exact hfr _ (fun f p => .skip (by simp) (by simp) (hr _ _)) _ _ hin
/-- What Enter tells is what the law asks. -/
theorem enterF_fr {S : Bd} (hS : BdOk S) (hn : S.nums < 1000000) {q0 p0 : Int} {o : Od} (ho : o.ok = true) (ht : o.t = 0)
    (hq : ∀ y, frontH (S.half (3 - o.s)) = some y → y.n = q0 ∧ y.o.p = p0) : FrOk (S.nums + 1) q0 p0 o true 0 (enterF S o).2 := by
  unfold enterF
  rw [if_pos ht]
  simp only
  have hS1 : BdOk { S with nums := S.nums + 1 } := ⟨by have := hS.nums; simp only; omega, hS.last, hS.buy.mono (by simp only; omega), hS.sell.mono (by simp only; omega), fun e he => (hS.wait e he).mono (by simp only; omega), hS.rise, hS.once⟩
  obtain ⟨t, ht2, hfr⟩ := stopsF_app (comeF { S with nums := S.nums + 1 } (S.nums + 1) o o.q []).1.wait.length (comeF { S with nums := S.nums + 1 } (S.nums + 1) o o.q []).1 (comeF { S with nums := S.nums + 1 } (S.nums + 1) o o.q []).2
  rw [ht2]
  have hnn := hS.nums
  exact comeF_fr hS1 ho ⟨by omega, by simp only; omega⟩ (okQ ho) hq t (hfr _ _ _ _)
/-- The front in Best and Queue. -/
theorem best_front {side nums : Int} {h : Half} (hh : HOk side nums h) : (h = [] ∧ frontH h = none) ∨ ∃ y r, frontH h = some y ∧ (h.flatMap fun x => if x.1 = y.o.p then x.2.map En.n else []) = y.n :: r ∧ ∃ q r', h = (y.o.p, q) :: r' := by
  rcases hh.cases with ⟨h1, h2⟩ | ⟨p, y, q, r, hr, h2, hp, he⟩
  · exact .inl ⟨h1, h2⟩
  · subst hp
    refine .inr ⟨y, q.map En.n ++ r.flatMap fun x => if x.1 = y.o.p then x.2.map En.n else [], h2, ?_, y :: q, r, hr⟩
    rw [hr, List.flatMap_cons, if_pos rfl]
    rfl
end Go.Proofs.Ytdjhpldiifdifaa
