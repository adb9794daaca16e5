/- Reading arguments: structs, arrays and slices whose leaves are integers; the end of a law's proof. No function of the program in sight. Slices of slices: read, and an argument of this form opened. No function of the program in sight. -/
import Derived.ProofKit
import Derived.OpenShut
import Derived.Deep.Slices
import Derived.ChangeSame
import Derived.WideKeyArgs
import Derived.DataShut
import Derived.Test.YtojednnciknhpaaDoorJMem
namespace Go.Proofs.YtojednnciknhpaaDoor
set_option linter.unusedSimpArgs false
set_option linter.unusedVariables false
open Go.RowKit Go.ChangeShapes Go.WideShapes Go.Deep

/-- The cells are integers of these kinds, within their ranges. -/
def IntsK : List IntKind → List Value → Prop
  | [], [] => True
  | k :: ks, v :: vs => (∃ z, v = .int k z ∧ k.min ≤ z ∧ z ≤ k.max) ∧ IntsK ks vs
  | _, _ => False
theorem IntsK.append : ∀ {ks ks' : List IntKind} {vs vs' : List Value}, IntsK ks vs → IntsK ks' vs' → IntsK (ks ++ ks') (vs ++ vs')
  | [], _, [], _, _, h' => h'
  | _ :: _, _, _ :: _, _, ⟨h1, h2⟩, h' => ⟨h1, h2.append h'⟩
  | [], _, _ :: _, _, h, _ => h.elim
  | _ :: _, _, [], _, h, _ => h.elim
theorem IntsK.length : ∀ {ks : List IntKind} {vs : List Value}, IntsK ks vs → vs.length = ks.length
  | [], [], _ => rfl
  | _ :: _, _ :: _, ⟨_, h2⟩ => by simp [h2.length]
  | [], _ :: _, h => h.elim
  | _ :: _, [], h => h.elim

theorem IntsK.cons {k : IntKind} {ks : List IntKind} {vs : List Value} (h : IntsK (k :: ks) vs) : ∃ z vs', vs = .int k z :: vs' ∧ k.min ≤ z ∧ z ≤ k.max ∧ IntsK ks vs' := by
  cases vs with
  | nil => exact h.elim
  | cons v vs => obtain ⟨⟨z, rfl, h1, h2⟩, h3⟩ := h; exact ⟨z, vs, rfl, h1, h2, h3⟩
theorem IntsK.nil {vs : List Value} (h : IntsK [] vs) : vs = [] := by
  cases vs with
  | nil => rfl
  | cons v vs => exact h.elim
theorem i64_lo : IntKind.i64.min = -9223372036854775808 := rfl
theorem i64_hi : IntKind.i64.max = 9223372036854775807 := rfl
/-- The integer leaves of the fields from one on. -/
def leavesF (P : Program) (rec : TypeId → Option (List IntKind)) : List Field → Nat → Option (List IntKind)
  | [], _ => some []
  | f :: fs, off =>
    match rec f.type, leavesF P rec fs (off + P.cellsOf f.type) with
    | some ks, some ks' => if f.offset = off ∧ P.cellsOf f.type = ks.length then some (ks ++ ks') else none
    | _, _ => none
def leavesA (ks : List IntKind) : Nat → List IntKind
  | 0 => []
  | n + 1 => ks ++ leavesA ks n
/-- The integer leaves of a type: none if it holds anything else. -/
def leaves (P : Program) : Nat → TypeId → Option (List IntKind)
  | 0, _ => none
  | n + 1, t =>
    match P.underlying t with
    | some (.int k) => some [k]
    | some (.struct fs) => (leavesF P (leaves P n) fs.toList 0).bind fun ks => if P.cellsOf t = ks.length then some ks else none
    | some (.array m e) => (leaves P n e).bind fun ks => if P.cellsOf e = ks.length ∧ P.cellsOf t = (leavesA ks m).length then some (leavesA ks m) else none
    | _ => none

section
variable {H : Type} {enc : TypeId × Value → H} {P : Program} {w : World} {base : Nat} {spare : Nat → Bool} {held : Bool}
theorem leavesF_trod {n : Nat} (rec : TypeId → Option (List IntKind)) (ih : ∀ t ks cs x, rec t = some ks → DataW.trod enc P w base spare held n t cs = some x → IntsK ks cs) (cs : List Value) :
    ∀ (fs : List Field) (off : Nat) (ks : List IntKind), leavesF P rec fs off = some ks → cs.length = off + ks.length → (∀ f ∈ fs, ∃ x, DataW.trod enc P w base spare held n f.type ((cs.drop f.offset).take (P.cellsOf f.type)) = some x) → IntsK ks (cs.drop off)
  | [], off, ks, h, hl, _ => by
    simp only [leavesF, Option.some.injEq] at h
    subst h
    have : cs.drop off = [] := List.drop_eq_nil_of_le (by simpa using Nat.le_of_eq hl)
    rw [this]; trivial
  | f :: fs, off, ks, h, hl, hx => by
    simp only [leavesF] at h
    split at h
    · rename_i k1 k2 h1 h2
      split at h
      · rename_i hc
        simp only [Option.some.injEq] at h
        subst h
        obtain ⟨x, hx1⟩ := hx f (by simp)
        have i1 := ih _ _ _ _ h1 hx1
        have i2 := leavesF_trod rec ih cs fs _ k2 h2 (by rw [hl, hc.2, List.length_append]; omega) (fun g hg => hx g (by simp [hg]))
        rw [hc.1] at i1
        have e : cs.drop off = (cs.drop off).take (P.cellsOf f.type) ++ cs.drop (off + P.cellsOf f.type) := by
          rw [← List.drop_drop, List.take_append_drop]
        rw [e]
        exact i1.append i2
      · cases h
    · cases h
theorem leavesA_trod {n : Nat} {e : TypeId} {ks : List IntKind} (cs : List Value) (ih : ∀ cs x, DataW.trod enc P w base spare held n e cs = some x → IntsK ks cs) (hk : P.cellsOf e = ks.length) :
    ∀ (m i : Nat), cs.length = (i + m) * ks.length → (∀ j, j < m → ∃ x, DataW.trod enc P w base spare held n e ((cs.drop ((i + j) * P.cellsOf e)).take (P.cellsOf e)) = some x) → IntsK (leavesA ks m) (cs.drop (i * ks.length))
  | 0, i, hl, _ => by
    rw [List.drop_eq_nil_of_le (by rw [hl]; simp)]; trivial
  | m + 1, i, hl, hx => by
    obtain ⟨x, hx0⟩ := hx 0 (by omega)
    have i1 := ih _ _ hx0
    rw [hk] at i1
    have i2 := leavesA_trod cs ih hk m (i + 1) (by rw [hl]; congr 1; omega) (fun j hj => by have := hx (j + 1) (by omega); rwa [show i + (j + 1) = i + 1 + j by omega] at this)
    have e : cs.drop (i * ks.length) = (cs.drop (i * ks.length)).take ks.length ++ cs.drop ((i + 1) * ks.length) := by
      rw [Nat.succ_mul, ← List.drop_drop, List.take_append_drop]
    rw [e]
    exact i1.append i2
theorem leavesA_length (ks : List IntKind) : ∀ m, (leavesA ks m).length = m * ks.length
  | 0 => by simp [leavesA]
  | m + 1 => by simp [leavesA, leavesA_length ks m, Nat.succ_mul]; omega
/-- What reads as a type of integers is integers. -/
theorem leaves_trod : ∀ (d : Nat) (t : TypeId) (ks : List IntKind), leaves P d t = some ks → ∀ (n : Nat) (cs : List Value) (x : DataW H × List MemPlace), DataW.trod enc P w base spare held n t cs = some x → IntsK ks cs
  | 0, _, _, h => by simp [leaves] at h
  | d + 1, t, ks, h => by
    intro n cs x hx
    simp only [leaves] at h
    split at h
    · rename_i k hu
      simp only [Option.some.injEq] at h
      subst h
      obtain ⟨z, rfl, _, hw⟩ := DataW.trod_int hu hx
      exact ⟨⟨z, rfl, (Lit.wf_int_iff k z).1 hw⟩, trivial⟩
    · rename_i fs hu
      obtain ⟨ks', h1, h2⟩ := Option.bind_eq_some_iff.1 h
      split at h2
      · rename_i hc
        simp only [Option.some.injEq] at h2
        subst h2
        obtain ⟨xs, m, _, _, hlen, hxl, hf⟩ := DataW.trod_struct hu hx
        have := leavesF_trod (n := m) (leaves P d) (fun t ks cs x hr hx => leaves_trod d t ks hr m cs x hx) cs fs.toList 0 ks' h1 (by rw [hlen, hc]; simp) (fun f hf' => by
          obtain ⟨i, hi, rfl⟩ := List.getElem_of_mem hf'
          have hi' : i < fs.size := by simpa using hi
          have := hf i fs[i] (by simp [hi'])
          rw [List.getElem?_eq_getElem (by omega)] at this
          exact ⟨_, by simpa using this⟩)
        simpa using this
      · cases h2
    · rename_i m e hu
      obtain ⟨ks', h1, h2⟩ := Option.bind_eq_some_iff.1 h
      split at h2
      · rename_i hc
        simp only [Option.some.injEq] at h2
        subst h2
        obtain ⟨xs, m', _, _, hlen, hxl, hf⟩ := DataW.trod_array hu hx
        have := leavesA_trod (n := m') (e := e) (ks := ks') cs (fun cs x hx => leaves_trod d e ks' h1 m' cs x hx) hc.1 m 0 (by rw [hlen, hc.2, leavesA_length]; simp) (fun j hj => by
          have := hf j hj
          rw [List.getElem?_eq_getElem (by omega)] at this
          exact ⟨_, by simpa using this⟩)
        simpa using this
      · cases h2
    · cases h
/-- A struct or an array of integers, by value. -/
theorem open_flat {r : Reach} {b0 : Nat} {t : TypeId} {v : Value} {d : DataW H} {p : List MemPlace} {n : Nat} {ks : List IntKind} (hL : leaves P n t = some ks) (hs : ∀ k, P.underlying t ≠ some (.int k)) (hv : Value.okWide P w r b0 t v) (h : DataW.Trod enc P w base spare held t v d p) :
    ∃ cs : Array Value, v = .agg cs ∧ IntsK ks cs.toList := by
  have hagg : ∃ cs : Array Value, v = .agg cs := by
    cases n with
    | zero => simp [leaves] at hL
    | succ n =>
      simp only [leaves] at hL
      unfold Value.okWide at hv
      split at hL
      · rename_i k hu; exact absurd hu (hs k)
      · rename_i fs hu; rw [hu] at hv; obtain ⟨cs, h, _⟩ := hv; exact ⟨cs, h⟩
      · rename_i fs hu; rw [hu] at hv; obtain ⟨cs, h, _⟩ := hv; exact ⟨cs, h⟩
      · cases hL
  obtain ⟨cs, rfl⟩ := hagg
  obtain ⟨fuel, hf⟩ := h
  refine ⟨cs, rfl, ?_⟩
  have := leaves_trod n t ks hL fuel _ _ hf
  exact this
/-- A slice of such. -/
theorem open_rows {r : Reach} {b0 : Nat} {t e : TypeId} {v : Value} {d : DataW H} {p : List MemPlace} {n : Nat} {ks : List IntKind} (ht : P.underlying t = some (.slice e)) (hL : leaves P n e = some ks) (hc : P.cellsOf e = ks.length) (hpos : 0 < ks.length)
    (hv : Value.okWide P w r b0 t v) (h : DataW.Trod enc P w base spare held t v d p) :
    ∃ rows : List (List Value), (∀ row ∈ rows, IntsK ks row) ∧ ReadsE (fun row => row) ks.length w v rows ∧ (v = .slice none 0 0 ∨ ∃ a n c, v = .slice (some a) n c ∧ n ≤ c ∧ c ≤ maxLen) := by
  obtain ⟨a0, len, cap, rfl⟩ := okWide_slice ht hv
  obtain ⟨fuel, hf⟩ := h
  rcases open_slice ht hf with ⟨hcs, _⟩ | ⟨a, len', cap', m, n', D, Pl, hcs, _, hl, hm, hmm, _, hi⟩
  · simp [Value.cells] at hcs
    obtain ⟨rfl, rfl, rfl⟩ := hcs
    exact ⟨[], by simp, ReadsE.nil _ _ _, .inl rfl⟩
  · simp [Value.cells] at hcs
    obtain ⟨rfl, rfl, rfl⟩ := hcs
    have hml : len ≤ m := by rw [hmm]; split <;> omega
    have hrow : ∀ i, i < len → ∃ cs' : List Value, IntsK ks cs' ∧ cs'.length = ks.length ∧ ∀ j, j < ks.length → w.cell? (a.add (i * ks.length + j)) = cs'[j]? := by
      intro i hil
      obtain ⟨cs', h1, h2⟩ := hi i (by omega)
      obtain ⟨_, h3, h4⟩ := World.cells?_some h1
      rw [hc] at h3 h4
      refine ⟨cs', leaves_trod n e ks hL n' _ _ h2, h3, fun j hj => ?_⟩
      rw [← Go.Deep.add_add]; exact h4 j hj
    have hspot : 0 < len → a.spot = none := fun h0 => by
      obtain ⟨cs', _, h3, h4⟩ := hrow 0 h0
      have := h4 0 hpos
      rw [List.getElem?_eq_getElem (by omega)] at this
      have hs := World.cell?_spot this
      unfold Addr.add at hs
      cases ha : a.spot <;> simp_all
    let rows : List (List Value) := (List.range len).map fun i => if h : i < len then (hrow i h).choose else []
    have hrl : rows.length = len := by simp [rows]
    have hget : ∀ i (h : i < len) (h' : i < rows.length), rows[i] = (hrow i h).choose := fun i h h' => by simp [rows, h]
    refine ⟨rows, fun row hr => ?_, ?_, .inr ⟨a, len, cap, rfl, by omega, by omega⟩⟩
    · obtain ⟨i, h1, rfl⟩ := List.getElem_of_mem hr
      have h2 : i < len := by rwa [hrl] at h1
      rw [hget i h2 h1]
      exact (hrow i h2).choose_spec.1
    · unfold ReadsE
      refine ⟨by rw [hrl]; unfold maxLen at hm; omega, some a, cap, a.block, a.off, by rw [hrl], fun h0 => ?_, fun k hk j hj => ?_⟩
      · have h0 : 0 < len := by rwa [hrl] at h0
        have hsp := hspot h0
        obtain ⟨cs', _, h3, h4⟩ := hrow 0 h0
        have h5 := h4 0 hpos
        rw [List.getElem?_eq_getElem (by omega)] at h5
        refine ⟨by cases a; simp_all, ?_⟩
        have := World.block_lt_of_cell? _ _ h5
        have e : (a.add (0 * ks.length + 0)).block = a.block := by unfold Addr.add; split <;> rfl
        rwa [e] at this
      · have hk' : k < len := by rwa [hrl] at hk
        have hsp := hspot (by omega)
        have := (hrow k hk').choose_spec.2.2 j hj
        rw [hget k hk' hk, ← this]
        have e : a.add (k * ks.length + j) = ⟨a.block, a.off + k * ks.length + j, none⟩ := by
          obtain ⟨ab, ao, asp⟩ := a
          simp only at hsp
          subst hsp
          unfold Addr.add
          split
          · rename_i h; simp only [Nat.add_assoc, h, Nat.add_zero]
          · simp only [Nat.add_assoc]
        rw [e]

/-- A slice that was handed in: read, and what it looks like. -/
structure ArgE {α : Type} (en : α → List Value) (sz : Nat) (w : World) (v : Value) (l : List α) : Prop where
  reads : ReadsE en sz w v l
  form : v = .slice none 0 0 ∨ ∃ a n c, v = .slice (some a) n c ∧ n ≤ c ∧ c ≤ maxLen
theorem map_of_rows {α : Type} {en : α → List Value} {Q : α → Prop} (rows : List (List Value)) (h : ∀ r ∈ rows, ∃ a, Q a ∧ r = en a) : ∃ xs : List α, rows = xs.map en ∧ ∀ a ∈ xs, Q a := by
  induction rows with
  | nil => exact ⟨[], rfl, by simp⟩
  | cons r rows ih =>
    obtain ⟨a, ha, e⟩ := h r (by simp)
    obtain ⟨xs, e2, h2⟩ := ih (fun r hr => h r (by simp [hr]))
    refine ⟨a :: xs, by simp [e, e2], fun b hb => ?_⟩
    rcases List.mem_cons.1 hb with rfl | hb
    · exact ha
    · exact h2 b hb
theorem reads_map {α : Type} {en : α → List Value} {sz : Nat} {w : World} {v : Value} (xs : List α) (h : ReadsE (fun row => row) sz w v (xs.map en)) : ReadsE en sz w v xs := by
  unfold ReadsE at h ⊢
  simp only [List.length_map, List.getElem_map] at h
  exact h

/-! ### The end of a law's proof -/
theorem post_of_below {f : Func} {s : ChangeSpec} {apart fresh handsOn again : Bool} {W W' : World} {args : Array Value} {v : Value} {ds gs : List (DataW H)} {before pa pv : List MemPlace}
    (hW : DataW.Whole enc P f.params.toList s.vars apart W args.toList ds gs before)
    (hres : ∀ (b : Nat) (sp : Nat → Bool) (hd : Bool), DataW.TrodAll enc P W' b sp hd f.resultTypes.toList (v.resultList f.resultTypes.size) (s.fn H (ds ++ gs)).results [])
    (hargs : ∀ sp : Nat → Bool, (∀ p ∈ before, sp p.block = true) → DataW.TrodAll enc P W' 0 sp true f.params.toList args.toList (s.fn H (ds ++ gs)).args pa)
    (hvars : ∀ sp : Nat → Bool, (∀ p ∈ before, sp p.block = true) → DataW.TrodVars enc P W' sp s.vars (s.fn H (ds ++ gs)).vars pv)
    (hps : before = pa ++ pv) (hb : Below W.heap.size W W')
    (hok : ∀ (j : Nat) (t : TypeId) (r : Value), f.resultTypes[j]? = some t → (v.resultList f.resultTypes.size)[j]? = some r → Value.okWide P W' .any 0 t r) :
    s.post enc P f apart fresh handsOn again W args v W' := by
  have hlt : ∀ p ∈ before, p.block < W.heap.size := fun p hp => hW.lt p hp
  have hold : ∀ p ∈ before, (fun b => decide (b < W.heap.size)) p.block = true := fun p hp => by simpa using hlt p hp
  refine ⟨ds, gs, before, [], pa, pv, hW, hres _ _ _, hargs _ hold, hvars _ hold, World.keptBut_mono (fun p hp => ⟨hp, ?_⟩) (hb.frame (· ∈ before)), fun _ => ?_⟩
  · rw [hps, List.mem_append] at hp
    exact Or.inr hp
  · obtain ⟨_, _, _, _, _, hz, hn⟩ := hW
    refine ⟨hok, _, _, ([] ++ pa) ++ pv, ⟨[] ++ pa, pv, trodAll_append (hargs _ (fun _ _ => rfl)) (hres _ _ _), hvars _ (fun _ _ => rfl), rfl, ?_, ?_⟩, ?_⟩
    · intro b off hp
      have hin : MemPlace.cell b off ∈ before := by rw [hps]; simpa using hp
      rw [hb.frozen (hlt _ hin)]
      exact hz b off hin
    · intro ha
      have := hn ha
      rw [hps] at this
      simpa using this
    · intro p hp _
      rw [hps]
      simpa using hp
theorem trodAll_stays (hl : laidOutB P = true) {W W' : World} (hb : Below W.heap.size W W') : ∀ (ts : List TypeId) (vs : List Value) (ds : List (DataW H)) (ps : List MemPlace), (∀ t ∈ ts, P.readableRec t = true ∧ t < P.types.size) →
    DataW.TrodAll enc P W 0 (fun _ => true) true ts vs ds ps → (∀ x ∈ ps, x.block < W.heap.size) → ∀ sp : Nat → Bool, (∀ x ∈ ps, sp x.block = true) → DataW.TrodAll enc P W' 0 sp true ts vs ds ps
  | [], vs, ds, ps, _, h, _, _, _ => by obtain ⟨rfl, rfl, rfl⟩ := trodAll_nil h; exact trodAll_mk0
  | t :: ts, vs, ds, ps, hr, h, hlt, sp, hs => by
    obtain ⟨v, vs', d, ds', p, q, rfl, rfl, rfl, h1, h2⟩ := trodAll_cons h
    exact trodAll_cons_mk (WideElems.Trod_stays hl (hr t (by simp)).1 (hr t (by simp)).2 h1 (fun x hx => hb.same (hlt x (by simp [hx]))) (fun x hx => hs x (by simp [hx])))
      (trodAll_stays hl hb ts vs' ds' q (fun t ht => hr t (by simp [ht])) h2 (fun x hx => hlt x (by simp [hx])) sp (fun x hx => hs x (by simp [hx])))
end
end Go.Proofs.YtojednnciknhpaaDoor
namespace Go.Proofs.YtojednnciknhpaaDoor
set_option linter.unusedSimpArgs false
set_option linter.unusedVariables false
open Go.RowKit Go.ChangeShapes Go.WideShapes Go.Deep
abbrev encV : Value → List Value := fun u => [u]
/-- A slice of slices of encoded elements. -/
def NestE {α : Type} (enc : α → List Value) (sz : Nat) (w : World) (v : Value) (L : List (List α)) : Prop :=
  ∃ vs : List Value, ReadsE encV 1 w v vs ∧ vs.length = L.length ∧ ∀ (k : Nat) (h1 : k < vs.length) (h2 : k < L.length), ReadsE enc sz w vs[k] L[k]
theorem NestE.below {α : Type} {enc : α → List Value} {sz : Nat} {w w' : World} {v : Value} {L : List (List α)} (h : NestE enc sz w v L) (hb : Below w.heap.size w w') : NestE enc sz w' v L := by
  obtain ⟨vs, h1, h2, h3⟩ := h
  exact ⟨vs, h1.below hb, h2, fun k a b => (h3 k a b).below hb⟩
section
variable {H : Type} {enc : TypeId × Value → H} {P : Program} {w : World} {base : Nat} {spare : Nat → Bool} {held : Bool}
/-- What reads as a slice of integer rows. -/
theorem rows_trod {t e : TypeId} {n fuel : Nat} {ks : List IntKind} {u : Value} {x : DataW H × List MemPlace} (ht : P.underlying t = some (.slice e)) (hL : leaves P n e = some ks) (hc : P.cellsOf e = ks.length) (hpos : 0 < ks.length)
    (h : DataW.trod enc P w base spare held fuel t [u] = some x) : ∃ rows : List (List Value), (∀ row ∈ rows, IntsK ks row) ∧ ReadsE (fun row => row) ks.length w u rows := by
  rcases open_slice ht h with ⟨hcs, _⟩ | ⟨a, len, cap, m, n', D, Pl, hcs, _, hl, hm, hmm, _, hi⟩
  · simp at hcs
    subst hcs
    exact ⟨[], by simp, ReadsE.nil _ _ _⟩
  · simp at hcs
    subst hcs
    have hml : len ≤ m := by rw [hmm]; split <;> omega
    have hrow : ∀ i, i < len → ∃ cs' : List Value, IntsK ks cs' ∧ cs'.length = ks.length ∧ ∀ j, j < ks.length → w.cell? (a.add (i * ks.length + j)) = cs'[j]? := by
      intro i hil
      obtain ⟨cs', h1, h2⟩ := hi i (by omega)
      obtain ⟨_, h3, h4⟩ := World.cells?_some h1
      rw [hc] at h3 h4
      refine ⟨cs', leaves_trod n e ks hL n' _ _ h2, h3, fun j hj => ?_⟩
      rw [← Go.Deep.add_add]; exact h4 j hj
    have hspot : 0 < len → a.spot = none := fun h0 => by
      obtain ⟨cs', _, h3, h4⟩ := hrow 0 h0
      have := h4 0 hpos
      rw [List.getElem?_eq_getElem (by omega)] at this
      have hs := World.cell?_spot this
      unfold Addr.add at hs
      cases ha : a.spot <;> simp_all
    let rows : List (List Value) := (List.range len).map fun i => if h : i < len then (hrow i h).choose else []
    have hrl : rows.length = len := by simp [rows]
    have hget : ∀ i (h : i < len) (h' : i < rows.length), rows[i] = (hrow i h).choose := fun i h h' => by simp [rows, h]
    refine ⟨rows, fun row hr => ?_, ?_⟩
    · obtain ⟨i, h1, rfl⟩ := List.getElem_of_mem hr
      have h2 : i < len := by rwa [hrl] at h1
      rw [hget i h2 h1]
      exact (hrow i h2).choose_spec.1
    · unfold ReadsE
      refine ⟨by rw [hrl]; unfold maxLen at hm; omega, some a, cap, a.block, a.off, by rw [hrl], fun h0 => ?_, fun k hk j hj => ?_⟩
      · have h0 : 0 < len := by rwa [hrl] at h0
        have hsp := hspot h0
        obtain ⟨cs', _, h3, h4⟩ := hrow 0 h0
        have h5 := h4 0 hpos
        rw [List.getElem?_eq_getElem (by omega)] at h5
        refine ⟨by cases a; simp_all, ?_⟩
        have := World.block_lt_of_cell? _ _ h5
        have e : (a.add (0 * ks.length + 0)).block = a.block := by unfold Addr.add; split <;> rfl
        rwa [e] at this
      · have hk' : k < len := by rwa [hrl] at hk
        have hsp := hspot (by omega)
        have := (hrow k hk').choose_spec.2.2 j hj
        rw [hget k hk' hk, ← this]
        have e : a.add (k * ks.length + j) = ⟨a.block, a.off + k * ks.length + j, none⟩ := by
          obtain ⟨ab, ao, asp⟩ := a
          simp only at hsp
          subst hsp
          unfold Addr.add
          simp [Nat.add_assoc]
        rw [e]
/-- What reads as a slice of slices of integer rows. -/
theorem nest_trod {t t1 e : TypeId} {n fuel : Nat} {ks : List IntKind} {u : Value} {x : DataW H × List MemPlace} (ht : P.underlying t = some (.slice t1)) (ht1 : P.underlying t1 = some (.slice e)) (hc1 : P.cellsOf t1 = 1) (hL : leaves P n e = some ks) (hc : P.cellsOf e = ks.length) (hpos : 0 < ks.length)
    (h : DataW.trod enc P w base spare held fuel t [u] = some x) : ∃ L : List (List (List Value)), (∀ rows ∈ L, ∀ row ∈ rows, IntsK ks row) ∧ NestE (fun row => row) ks.length w u L := by
  rcases open_slice1 ht hc1 h with ⟨hcs, _⟩ | ⟨a, len, cap, m, n', V, D, Pl, hcs, _, hl, hm, hmm, _, hi⟩
  · simp at hcs
    subst hcs
    exact ⟨[], by simp, [], ReadsE.nil _ _ _, rfl, fun k h1 => absurd h1 (by simp)⟩
  · simp at hcs
    subst hcs
    have hml : len ≤ m := by rw [hmm]; split <;> omega
    have hrow : ∀ i, i < len → ∃ rows : List (List Value), (∀ row ∈ rows, IntsK ks row) ∧ ReadsE (fun row => row) ks.length w (V i) rows := fun i hil => by
      obtain ⟨_, h2⟩ := hi i (by omega)
      exact rows_trod ht1 hL hc hpos h2
    have hspot : 0 < len → a.spot = none := fun h0 => by
      have hs := World.cell?_spot (hi 0 (by omega)).1
      unfold Addr.add at hs
      cases ha : a.spot <;> simp_all
    let L : List (List (List Value)) := (List.range len).map fun i => if h : i < len then (hrow i h).choose else []
    have hrl : L.length = len := by simp [L]
    have hget : ∀ i (h : i < len) (h' : i < L.length), L[i] = (hrow i h).choose := fun i h h' => by simp [L, h]
    have hvl : ((List.range len).map V).length = len := by simp
    refine ⟨L, fun rows hr => ?_, (List.range len).map V, ?_, by rw [hvl, hrl], fun k h1 h2 => ?_⟩
    · obtain ⟨i, h1, rfl⟩ := List.getElem_of_mem hr
      have h2 : i < len := by rwa [hrl] at h1
      rw [hget i h2 h1]
      exact (hrow i h2).choose_spec.1
    · unfold ReadsE
      refine ⟨by rw [hvl]; unfold maxLen at hm; omega, some a, cap, a.block, a.off, by rw [hvl], fun h0 => ?_, fun k hk j hj => ?_⟩
      · have h0 : 0 < len := by rwa [hvl] at h0
        have hsp := hspot h0
        have h5 := (hi 0 (by omega)).1
        refine ⟨by cases a; simp_all, ?_⟩
        have := World.block_lt_of_cell? _ _ h5
        have e : (a.add 0).block = a.block := by unfold Addr.add; split <;> rfl
        rwa [e] at this
      · have hk' : k < len := by rwa [hvl] at hk
        have hsp := hspot (by omega)
        have h5 := (hi k (by omega)).1
        have hj0 : j = 0 := by omega
        subst hj0
        have e : a.add k = ⟨a.block, a.off + k * 1 + 0, none⟩ := by
          obtain ⟨ab, ao, asp⟩ := a
          simp only at hsp
          subst hsp
          unfold Addr.add
          simp
        rw [← e, h5]
        simp
    · have hk' : k < len := by rwa [hvl] at h1
      rw [hget k hk' h2]
      simp only [List.getElem_map, List.getElem_range]
      exact (hrow k hk').choose_spec.2
end
end Go.Proofs.YtojednnciknhpaaDoor
