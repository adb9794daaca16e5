/- The board's map of entries; ownership by colours. No function of the program in sight. -/
import Derived.Test.YtdjhpldiifdifaaLst0
import Derived.Maps.OwnSet
namespace Go.Proofs.Ytdjhpldiifdifaa
set_option linter.unusedSimpArgs false
set_option linter.unusedVariables false
open Go.RowKit Go.Maps

/-- How a pointer in the map reads. -/
def rdE : Value → Option (DataW Nat × List MemPlace)
  | .pointer none => some (.lit (.int .i64 (-1)), [])
  | .pointer (some ⟨b, 0, none⟩) => some (.lit (.int .i64 b), [])
  | _ => none
theorem rdE_nil : rdE (.pointer none) = some (.lit (.int .i64 (-1)), []) := rfl
theorem rdE_pt (b : Nat) : rdE (pt b) = some (.lit (.int .i64 b), []) := rfl
theorem rdE_inv {v : Value} {z : Int} {ps : List MemPlace} (h : rdE v = some (.lit (.int .i64 z), ps)) : (z = -1 ∧ v = .pointer none) ∨ ∃ b : Nat, z = b ∧ v = pt b := by
  unfold rdE at h
  split at h
  · simp only [Option.some.injEq, Prod.mk.injEq, DataW.lit.injEq, Lit.int.injEq, true_and] at h
    exact .inl ⟨h.1.symm, rfl⟩
  · rename_i b
    simp only [Option.some.injEq, Prod.mk.injEq, DataW.lit.injEq, Lit.int.injEq, true_and] at h
    exact .inr ⟨b, h.1.symm, rfl⟩
  · cases h
theorem kInt : Keyed Try.prog 3 := int_keyed (q := .i64) (by kernel_rfl)
theorem mapUnder : Try.prog.underlying 88 = some (.map 3 92) := by kernel_rfl
theorem zeroEnt (w : World) : (zeroValue 92).run Try.prog w = .ok (.pointer none) w := by kernel_rfl
theorem keyInt {k : Int} (h : (Lit.int .i64 k).wf = true) : keyOf Try.prog 3 (.int .i64 k) = some (.int .i64 k) := keyOf_int_mk (by kernel_rfl) h

/-- What a list of pairs has at a key. -/
def getM (l : List (Int × Nat)) (k : Int) : Option Nat := (l.find? fun x => decide (x.1 = k)).map Prod.snd
theorem getM_mem {l : List (Int × Nat)} {k : Int} {b : Nat} (h : getM l k = some b) : (k, b) ∈ l := by
  unfold getM at h
  simp only [Option.map_eq_some_iff] at h
  obtain ⟨x, hx, rfl⟩ := h
  have h1 := List.mem_of_find?_eq_some hx
  have h2 := List.find?_some hx
  simp only [decide_eq_true_eq] at h2
  subst h2
  exact h1
theorem getM_none {l : List (Int × Nat)} {k : Int} (h : getM l k = none) : k ∉ l.map Prod.fst := by
  unfold getM at h
  simp only [Option.map_eq_none_iff, List.find?_eq_none, decide_eq_true_eq] at h
  intro hm
  obtain ⟨x, hx, hk⟩ := List.mem_map.1 hm
  exact h x hx hk
/-- The map in block b reads as a list of pairs. -/
structure MapC (w : World) (b : Nat) (l : List (Int × Nat)) : Prop where
  nodup : (l.map Prod.fst).Nodup
  wf : ∀ x ∈ l, (Lit.int .i64 x.1).wf = true
  own : ∃ D : DataW Nat, w.ownsMap Try.prog 3 rdE b l.length D ∧ Maps.size D = l.length ∧ (∀ x ∈ l, ∀ z, D.atKey (.int .i64 x.1) z = .lit (.int .i64 x.2)) ∧ ∀ k, k ∉ l.map Prod.fst → Maps.has D (.int .i64 k) = false
theorem own_tight {P : Program} {k : TypeId} {R : Value → Option (DataW Nat × List MemPlace)} {w : World} {b n : Nat} {D : DataW Nat} (h : w.ownsMap P k R b n D) : w.ownsMap P k R b (Maps.size D) D := by
  obtain ⟨es, clock, hb, F, hs, rfl⟩ := h
  exact ⟨es, clock, hb, F, by simp [Maps.size, length_sorted], rfl⟩
theorem MapC.perm {w : World} {b : Nat} {l m : List (Int × Nat)} (h : MapC w b l) (hp : l.Perm m) : MapC w b m := by
  obtain ⟨D, h1, h2, h3, h4⟩ := h.own
  refine ⟨(hp.map _).nodup_iff.1 h.nodup, fun x hx => h.wf x (hp.mem_iff.2 hx), D, hp.length_eq ▸ h1, hp.length_eq ▸ h2, fun x hx => h3 x (hp.mem_iff.2 hx), fun k hk => h4 k (fun hm => hk ((hp.map _).mem_iff.1 hm))⟩
theorem MapC.kept {X : Nat → Prop} {w w' : World} {b : Nat} {l : List (Int × Nat)} (h : MapC w b l) (hk : Kept X w w') (hx : ¬ X b) : MapC w' b l := by
  obtain ⟨D, ⟨es, clock, hb, hr⟩, hs⟩ := h.own
  exact ⟨h.nodup, h.wf, D, ⟨es, clock, (hk.block b (Array.getElem?_eq_some_iff.1 hb).1 hx).trans hb, hr⟩, hs⟩
theorem MapC.lt {w : World} {b : Nat} {l : List (Int × Nat)} (h : MapC w b l) : b < w.heap.size := by
  obtain ⟨D, h1, _⟩ := h.own
  exact h1.lt
theorem MapC.new (w : World) : MapC (w.alloc (.map #[] 0)) w.heap.size [] :=
  ⟨by simp, by simp, .map [], World.ownsMap_made w _ _ _, rfl, by simp, fun k _ => rfl⟩
theorem MapC.ne {w : World} {b c : Nat} {l : List (Int × Nat)} (h : MapC w b l) {cs : Array Value} {ty : TypeId} (hc : Cells w c cs ty) : c ≠ b := by
  obtain ⟨D, ⟨es, clock, hb, hr⟩, hs⟩ := h.own
  rintro rfl
  have := (show w.heap[c]? = _ from hc).symm.trans hb
  simp at this
theorem Kept.of_turned {w w' : World} {b : Nat} (h : w.mapTurned w' b) : Kept (fun k => k = b) w w' := by
  have hg := h.grown
  exact ⟨hg.os, hg.tape, hg.output, hg.size, fun k hk hx => hg.block k hk (fun e => hx (by injection e))⟩
/-- m[k]. -/
theorem MapC.look {w : World} {b : Nat} {l : List (Int × Nat)} (h : MapC w b l) {k : Int} (hk : (Lit.int .i64 k).wf = true) :
    (Instr.lookup 88 (.map (some b)) (.int .i64 k) false).run Try.prog w = .ok (op (getM l k)) w := by
  obtain ⟨D, h1, h2, h3, h4⟩ := h.own
  obtain ⟨v, ps, hr, hv⟩ := h1.lookup kInt mapUnder (zeroEnt w) rdE_nil (keyInt hk)
  rw [hr]
  cases hg : getM l k with
  | none =>
    have hn := h4 k (getM_none hg)
    rw [Maps.atKey_of_not_has hn] at hv
    rcases rdE_inv hv with ⟨_, rfl⟩ | ⟨b', hb, _⟩
    · rfl
    · omega
  | some e =>
    have hm := getM_mem hg
    rw [h3 _ hm] at hv
    rcases rdE_inv hv with ⟨hb, _⟩ | ⟨b', hb, rfl⟩
    · simp only at hb; omega
    · simp only at hb
      obtain rfl : e = b' := by omega
      rfl
/-- len(m). -/
theorem MapC.len {w : World} {b : Nat} {l : List (Int × Nat)} (h : MapC w b l) (ty : TypeId) : (Builtin.len_ #[88] ty #[.map (some b)]).run Try.prog w = .ok (.int .i64 l.length) w := by
  obtain ⟨D, h1, h2, _⟩ := h.own
  rw [h1.len mapUnder ty, h2]
/-- delete(m, k). -/
theorem MapC.drop {w : World} {b : Nat} {l : List (Int × Nat)} {k : Int} {e : Nat} (h : MapC w b ((k, e) :: l)) (ty : TypeId) :
    ∃ w', (Builtin.delete_ #[88, 3] ty #[.map (some b), .int .i64 k]).run Try.prog w = .ok (.tuple #[]) w' ∧ MapC w' b l ∧ Kept (fun k => k = b) w w' := by
  obtain ⟨D, h1, h2, h3, h4⟩ := h.own
  have hn := h.nodup
  rw [List.map_cons, List.nodup_cons] at hn
  have hkey := keyInt (h.wf (k, e) (by simp))
  obtain ⟨w', hr, h5, h6⟩ := h1.drop kInt mapUnder hkey ty
  have hh : Maps.has D (.int .i64 k) = true := Maps.has_true_of_atKey (h3 (k, e) (by simp))
  have hsz := Maps.size_del (h1.tidy kInt) (k := .int .i64 k)
  rw [hh, h2] at hsz
  simp only [if_true, List.length_cons, Nat.add_right_cancel_iff] at hsz
  refine ⟨w', hr, ⟨hn.2, fun x hx => h.wf x (List.mem_cons_of_mem _ hx), _, hsz ▸ own_tight h5, hsz, fun x hx z => ?_, fun j hj => ?_⟩, Kept.of_turned h6⟩
  · have hne : x.1 ≠ k := fun he => hn.1 (List.mem_map.2 ⟨x, hx, he⟩)
    rw [Maps.atKey_del_other (by simpa using hne)]
    exact h3 x (List.mem_cons_of_mem _ hx) z
  · by_cases hjk : j = k
    · subst hjk
      exact Maps.has_del_same
    · rw [Maps.has_del_other (by simpa using hjk)]
      exact h4 j (by simp only [List.map_cons, List.mem_cons, not_or]; exact ⟨hjk, hj⟩)
/-- m[k] = e, k not in m. -/
theorem MapC.put {w : World} {b : Nat} {l : List (Int × Nat)} {k : Int} {e : Nat} (h : MapC w b l) (hlen : l.length ≤ 1000000) (hk : (Lit.int .i64 k).wf = true) (hnew : k ∉ l.map Prod.fst) :
    ∃ w', (Instr.mapUpdate 88 (.map (some b)) (.int .i64 k) (pt e)).run Try.prog w = .ok () w' ∧ MapC w' b ((k, e) :: l) ∧ Kept (fun k => k = b) w w' := by
  obtain ⟨D, h1, h2, h3, h4⟩ := h.own
  obtain ⟨w', hr, h5, h6⟩ := h1.store kInt mapUnder (by unfold maxLen; omega) (keyInt hk) (rdE_pt e)
  have hsz := Maps.size_put (h1.tidy kInt) (k := .int .i64 k) (d := .lit (.int .i64 e))
  rw [h4 k hnew, h2] at hsz
  simp only [Bool.false_eq_true, if_false] at hsz
  have hkl : WideAt.IsKeyLit (.int .i64 k) := by simp [WideAt.IsKeyLit]
  refine ⟨w', hr, ⟨?_, fun x hx => ?_, _, h5, by rw [hsz]; rfl, fun x hx z => ?_, fun j hj => ?_⟩, Kept.of_turned h6⟩
  · rw [List.map_cons, List.nodup_cons]
    exact ⟨hnew, h.nodup⟩
  · rcases List.mem_cons.1 hx with rfl | hx
    · exact hk
    · exact h.wf x hx
  · rcases List.mem_cons.1 hx with rfl | hx
    · exact Maps.atKey_put_same h1.isMap hkl _ _
    · have hne : x.1 ≠ k := fun he => hnew (List.mem_map.2 ⟨x, hx, he⟩)
      rw [Maps.atKey_put_other (by simpa using hne)]
      exact h3 x hx z
  · simp only [List.map_cons, List.mem_cons, not_or] at hj
    rw [Maps.has_put_other (by simpa using hj.1)]
    exact h4 j hj.2

/-! ### colours -/
/-- From one state of ownership to another one: what is not of the colours C stays. -/
structure Step (C : Nat → Prop) (O : Nat → Nat) (w : World) (O' : Nat → Nat) (w' : World) : Prop where
  os : w'.os = w.os
  tape : w'.tape = w.tape
  output : w'.output = w.output
  size : w.heap.size ≤ w'.heap.size
  old : ∀ k, k < w.heap.size → ¬ C (O k) → w'.heap[k]? = w.heap[k]? ∧ O' k = O k
  col : ∀ k, k < w.heap.size → C (O k) → C (O' k) ∨ O' k = 0
theorem Step.refl (C : Nat → Prop) (O : Nat → Nat) (w : World) : Step C O w O w := ⟨rfl, rfl, rfl, Nat.le_refl _, fun _ _ _ => ⟨rfl, rfl⟩, fun _ _ h => .inl h⟩
theorem Step.trans {C : Nat → Prop} {O O' O'' : Nat → Nat} {w w' w'' : World} (h : Step C O w O' w') (g : Step C O' w' O'' w'') : Step C O w O'' w'' :=
  ⟨g.os.trans h.os, g.tape.trans h.tape, g.output.trans h.output, Nat.le_trans h.size g.size,
    fun k hk hc => by
      obtain ⟨h1, h2⟩ := h.old k hk hc
      obtain ⟨g1, g2⟩ := g.old k (Nat.lt_of_lt_of_le hk h.size) (by rw [h2]; exact hc)
      exact ⟨g1.trans h1, g2.trans h2⟩,
    fun k hk hc => by
      rcases h.col k hk hc with h1 | h1
      · exact g.col k (Nat.lt_of_lt_of_le hk h.size) h1
      · by_cases hz : C 0
        · exact g.col k (Nat.lt_of_lt_of_le hk h.size) (by rw [h1]; exact hz)
        · right
          rw [(g.old k (Nat.lt_of_lt_of_le hk h.size) (by rw [h1]; exact hz)).2, h1]⟩
theorem Step.wider {C C' : Nat → Prop} {O O' : Nat → Nat} {w w' : World} (h : Step C O w O' w') (hc : ∀ c, C c → C' c) : Step C' O w O' w' := by
  refine ⟨h.os, h.tape, h.output, h.size, fun k hk hn => h.old k hk (fun hC => hn (hc _ hC)), fun k hk hC' => ?_⟩
  by_cases hC : C (O k)
  · rcases h.col k hk hC with h1 | h1
    · exact .inl (hc _ h1)
    · exact .inr h1
  · left; rw [(h.old k hk hC).2]; exact hC'
/-- Only blocks of a colour are changed; new ones get a colour. -/
theorem Step.of_kept {O : Nat → Nat} {c d : Nat} {X : Nat → Prop} {w w' : World} (h : Kept X w w') (hX : ∀ k, k < w.heap.size → X k → O k = c) : Step (fun x => x = c) O w (fun k => if k < w.heap.size then O k else d) w' :=
  ⟨h.os, h.tape, h.output, h.size, fun k hk hc => ⟨h.block k hk (fun hx => hc (hX k hk hx)), if_pos hk⟩, fun k hk hc => .inl (by show (if k < w.heap.size then O k else d) = c; rw [if_pos hk]; exact hc)⟩
/-- A block gets another colour. -/
def paint (O : Nat → Nat) (b c : Nat) : Nat → Nat := fun k => if k = b then c else O k
theorem paint_self (O : Nat → Nat) (b c : Nat) : paint O b c b = c := if_pos rfl
theorem paint_far (O : Nat → Nat) {b c k : Nat} (h : k ≠ b) : paint O b c k = O k := if_neg h
theorem Step.paint {C : Nat → Prop} (O : Nat → Nat) (w : World) {b c : Nat} (h1 : C (O b)) (h2 : C c ∨ c = 0) : Step C O w (paint O b c) w := by
  refine ⟨rfl, rfl, rfl, Nat.le_refl _, fun k hk hn => ⟨rfl, paint_far O (fun e => hn (by rw [e]; exact h1))⟩, fun k hk hC => ?_⟩
  by_cases e : k = b
  · rw [e, paint_self]; exact h2
  · rw [paint_far O e]; exact .inl hC
theorem Step.kept {C : Nat → Prop} {O O' : Nat → Nat} {w w' : World} (h : Step C O w O' w') : Kept (fun k => C (O k)) w w' := ⟨h.os, h.tape, h.output, h.size, fun k hk hx => (h.old k hk hx).1⟩
/-- A colour that is left alone. -/
theorem Step.keptD {C : Nat → Prop} {O O' : Nat → Nat} {w w' : World} (h : Step C O w O' w') {d : Nat} (hd : ¬ C d) : Kept (fun k => O k ≠ d) w w' := ⟨h.os, h.tape, h.output, h.size, fun k hk hx => (h.old k hk (by have := Decidable.not_not.1 hx; rw [this]; exact hd)).1⟩
end Go.Proofs.Ytdjhpldiifdifaa
