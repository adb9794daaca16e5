/- The law's do: a call done to the register and to the reference. The reference's questions; the law's members, holds. The law's holds: holds and runs compared. Questions about any version of a register, by the reference's runs. The law's shows: a version of the register shows what the runs say. A register and the reference, in step. Changed: the pockets that differ between two versions. Find: its plain law. The first pockets of a lot that an owner has: as the program adds them up and as the reference takes them. No program in sight. The reference: Find. Find: the first pockets of a lot that an owner has. -/
import Derived.Deep.CutBlock
import Derived.Test.YtepldjidkomclaaGreatJARf2
import Derived.Test.YtepldjidkomclaaGreatJAActs
import Derived.Test.YtepldjidkomclaaGreatJAAll
import Derived.Test.YtepldjidkomclaaGreatJARf0
namespace Go.Proofs.YtepldjidkomclaaGreat.St
set_option linter.unusedSimpArgs false
set_option linter.unusedVariables false
open Go.RowKit Go.Shelf
attribute [local go_sem] Oper.semAt_some
theorem Reg.set {B : Nat} {W w : World} {sB vB : Nat} {vs : List T} (h : Reg B W w sB vB vs) {C : Nat} {cs : Array Value} {ty : TypeId} (hc : Cells w C cs ty) (h1 : C ≠ sB) (h2 : C ≠ vB) (h3 : ty ≠ 156) (hB : B ≤ C) (j : Nat) (v : Value) : Reg B W (w.setCell ⟨C, j, none⟩ v) sB vB vs := by
  refine ⟨h.st.keep (Below.heap_setCell w ⟨C, j, none⟩ v sB (fun e => h1 e.symm)) (Below.heap_setCell w ⟨C, j, none⟩ v vB (fun e => h2 e.symm)) (fun b cs' hb => Below.heap_setCell w ⟨C, j, none⟩ v b (fun e => ?_)), h.fine, h.tiles, h.canon, h.zero, h.below.setCell (p := ⟨C, j, none⟩) hB v, h.ls, h.lv⟩
  have e' : b = C := e
  subst e'
  exact h3 (cells_type hc hb)
end Go.Proofs.YtepldjidkomclaaGreat.St
namespace Go.Proofs.YtepldjidkomclaaGreat.St
set_option linter.unusedSimpArgs false
set_option linter.unusedVariables false
open Go.RowKit Go.Shelf
attribute [local go_sem] Oper.semAt_some
def encZ (x : Int) : List Value := [.int .i64 x]
theorem encZ_len (x : Int) : (encZ x).length = 1 := rfl
end Go.Proofs.YtepldjidkomclaaGreat.St
namespace Go.Proofs.YtepldjidkomclaaGreat.St
set_option linter.unusedSimpArgs false
set_option linter.unusedVariables false
open Go.RowKit Go.Shelf
attribute [local go_sem] Oper.semAt_some
theorem HoldsV.cells {B : Nat} {w : World} {v : Value} {l : List Pc} (h : OwnE encH 5 118 B w v l) : ∃ p cap b, v = .slice p l.length cap ∧ (0 < l.length → p = some ⟨b, 0, none⟩ ∧ B ≤ b ∧ b < w.heap.size) ∧
    ∀ (k : Nat) (hk : k < l.length), w.cell? ⟨b, k * 5, none⟩ = some (.int .i64 l[k].from_) ∧ w.cell? ⟨b, k * 5 + 1, none⟩ = some (.int .i64 (l[k].to - l[k].from_ + 1)) ∧ w.cell? ⟨b, k * 5 + 2, none⟩ = some (.int .i64 l[k].cell.lot) ∧ w.cell? ⟨b, k * 5 + 3, none⟩ = some (.int .i64 l[k].cell.owner) ∧ w.cell? ⟨b, k * 5 + 4, none⟩ = some (.int .i64 l[k].cell.holder) := by
  rcases h.2 with ⟨h1, h2⟩ | ⟨g, cap, cur, hv, hb, hg, h3⟩
  · exact ⟨none, 0, 0, by rw [h1, h2], fun h0 => by omega, fun k hk => by omega⟩
  · subst hv
    have key : ∀ (k : Nat) (hk : k < l.length) (j : Nat), j < 5 → w.cell? ⟨g, k * 5 + j, none⟩ = (encH l[k])[j]? := fun k hk j hj => by
      rw [World.ownsRow.cellAt h _ (by have : k * 5 + 5 ≤ l.length * 5 := by { rw [← Nat.succ_mul]; exact Nat.mul_le_mul_right _ hk }; omega), flatE_get encH_len l k hk j hj]
    refine ⟨_, cap, g, rfl, fun _ => ⟨rfl, hb, (Array.getElem?_eq_some_iff.1 hg).1⟩, fun k hk => ?_⟩
    have k0 := key k hk 0 (by omega)
    have k1 := key k hk 1 (by omega)
    have k2 := key k hk 2 (by omega)
    have k3 := key k hk 3 (by omega)
    have k4 := key k hk 4 (by omega)
    simp [encH] at k0 k1 k2 k3 k4
    exact ⟨k0, k1, k2, k3, k4⟩
end Go.Proofs.YtepldjidkomclaaGreat.St
namespace Go.Proofs.YtepldjidkomclaaGreat.St
set_option linter.unusedSimpArgs false
set_option linter.unusedVariables false
open Go.RowKit Go.Shelf
section
variable {B : Nat} {W w : World} {sB vB : Nat} {vs : List T} (h : Reg B W w sB vB vs) (hn : vs.length ≤ 1000) {ver : Nat} {t : T} (ht : vs[ver]? = some t)
include h hn ht
end
end Go.Proofs.YtepldjidkomclaaGreat.St
namespace Go.Proofs.YtepldjidkomclaaGreat.St
set_option linter.unusedSimpArgs false
set_option linter.unusedVariables false
open Go.RowKit Go.Shelf
attribute [local go_sem] Oper.semAt_some
theorem IntsV.cells {B : Nat} {w : World} {v : Value} {l : List Int} (h : OwnE encZ 1 3 B w v l) : ∃ p cap b, v = .slice p l.length cap ∧ (0 < l.length → p = some ⟨b, 0, none⟩ ∧ B ≤ b ∧ b < w.heap.size) ∧ ∀ (k : Nat) (hk : k < l.length), w.cell? ⟨b, k, none⟩ = some (.int .i64 l[k]) := by
  rcases h.2 with ⟨h1, h2⟩ | ⟨g, cap, cur, hv, hb, hg, h3⟩
  · exact ⟨none, 0, 0, by rw [h1, h2], fun h0 => by omega, fun k hk => by omega⟩
  · subst hv
    refine ⟨_, cap, g, rfl, fun _ => ⟨rfl, hb, (Array.getElem?_eq_some_iff.1 hg).1⟩, fun k hk => ?_⟩
    have h4 := World.ownsRow.cellAt h k (by omega)
    have h5 := flatE_get encZ_len l k hk 0 (by omega)
    rw [h4]
    simpa [encZ] using h5
end Go.Proofs.YtepldjidkomclaaGreat.St
namespace Go.Proofs.YtepldjidkomclaaGreat.St
set_option linter.unusedSimpArgs false
set_option linter.unusedVariables false
open Go.RowKit Go.Shelf
attribute [local go_sem] Oper.semAt_some
end Go.Proofs.YtepldjidkomclaaGreat.St
namespace Go.Proofs.YtepldjidkomclaaGreat.St
set_option linter.unusedSimpArgs false
set_option linter.unusedVariables false
open Go.RowKit Go.Shelf
attribute [local go_sem] Oper.semAt_some
theorem PcsV.cells {B : Nat} {w : World} {v : Value} {l : List Pc} (h : PcsAt B w v l) : ∃ p cap b, v = .slice p l.length cap ∧ l.length ≤ cap ∧ (0 < l.length → p = some ⟨b, 0, none⟩ ∧ B ≤ b ∧ b < w.heap.size) ∧
    ∀ (k : Nat) (hk : k < l.length), w.cell? ⟨b, k * 6, none⟩ = some (Value.int .i64 l[k].from_) ∧ w.cell? ⟨b, k * 6 + 1, none⟩ = some (Value.int .i64 l[k].to) ∧ w.cell? ⟨b, k * 6 + 2, none⟩ = some (Value.int .i64 l[k].cell.state) ∧ w.cell? ⟨b, k * 6 + 3, none⟩ = some (Value.int .i64 l[k].cell.lot) ∧ w.cell? ⟨b, k * 6 + 4, none⟩ = some (Value.int .i64 l[k].cell.owner) ∧ w.cell? ⟨b, k * 6 + 5, none⟩ = some (Value.int .i64 l[k].cell.holder) := by
  rcases h.2 with ⟨h1, h2⟩ | ⟨g, cap, cur, hv, hb, hg, hnc, h3⟩
  · exact ⟨none, 0, 0, by rw [h1, h2], by omega, fun h0 => by omega, fun k hk => by omega⟩
  · subst hv
    have key : ∀ (k : Nat) (hk : k < l.length) (j : Nat), j < 6 → w.cell? ⟨g, k * 6 + j, none⟩ = (encP l[k])[j]? := fun k hk j hj => by
      rw [World.ownsRow.cellAt h _ (by have : k * 6 + 6 ≤ l.length * 6 := by { rw [← Nat.succ_mul]; exact Nat.mul_le_mul_right _ hk }; omega), flatP_eq, flatE_get encP_len l k hk j hj]
    refine ⟨_, cap, g, rfl, hnc, fun _ => ⟨rfl, hb, (Array.getElem?_eq_some_iff.1 hg).1⟩, fun k hk => ?_⟩
    have k0 := key k hk 0 (by omega)
    have k1 := key k hk 1 (by omega)
    have k2 := key k hk 2 (by omega)
    have k3 := key k hk 3 (by omega)
    have k4 := key k hk 4 (by omega)
    have k5 := key k hk 5 (by omega)
    simp [encP] at k0 k1 k2 k3 k4 k5
    exact ⟨k0, k1, k2, k3, k4, k5⟩
end Go.Proofs.YtepldjidkomclaaGreat.St
namespace Go.Proofs.YtepldjidkomclaaGreat.St
set_option linter.unusedSimpArgs false
set_option linter.unusedVariables false
open Go.RowKit Go.Shelf
def takeN : List Pc → Int → List (Int × Int) × Int
  | [], n => ([], n)
  | p :: l, n => if n ≤ 0 then ([], n) else ((p.from_, min (p.to - p.from_ + 1) n) :: (takeN l (n - min (p.to - p.from_ + 1) n)).1, (takeN l (n - min (p.to - p.from_ + 1) n)).2)
theorem takeN_done (l : List Pc) {n : Int} (h : n ≤ 0) : takeN l n = ([], n) := by
  cases l with
  | nil => rfl
  | cons p l => rw [takeN, if_pos h]
theorem takeN_snoc (p : Pc) : ∀ (l : List Pc) (n : Int), takeN (l ++ [p]) n = if (takeN l n).2 ≤ 0 then takeN l n else ((takeN l n).1 ++ [(p.from_, min (p.to - p.from_ + 1) (takeN l n).2)], (takeN l n).2 - min (p.to - p.from_ + 1) (takeN l n).2)
  | [], n => by
    rw [List.nil_append, takeN, takeN]
    by_cases h : n ≤ 0
    · rw [if_pos h, if_pos h]
    · rw [if_neg h, if_neg h, takeN]; rfl
  | q :: l, n => by
    rw [List.cons_append, takeN, takeN]
    by_cases h : n ≤ 0
    · rw [if_pos h, if_pos h, if_pos h]
    · rw [if_neg h, if_neg h, takeN_snoc p l]
      simp only
      by_cases h2 : (takeN l (n - min (q.to - q.from_ + 1) n)).2 ≤ 0
      · rw [if_pos h2, if_pos h2]
      · rw [if_neg h2, if_neg h2]; rfl
theorem takeN_append : ∀ (l m : List Pc) (n : Int), (takeN l n).2 ≤ 0 → takeN (l ++ m) n = takeN l n
  | [], m, n, h => by rw [List.nil_append, takeN_done m (by rw [takeN] at h; exact h)]; rfl
  | q :: l, m, n, h => by
    rw [List.cons_append, takeN, takeN]
    by_cases h1 : n ≤ 0
    · rw [if_pos h1, if_pos h1]
    · rw [takeN, if_neg h1] at h
      rw [if_neg h1, if_neg h1, takeN_append l m _ h]
theorem takeN_mem : ∀ (l : List Pc) (n : Int), (∀ p ∈ l, p.Good) → 0 < (takeN l n).2 → ∀ s ∈ (takeN l n).1, ∃ q ∈ l, s.1 = q.from_ ∧ s.1 + s.2 = q.to + 1
  | [], n, _, _, s, hs => by rw [takeN] at hs; simp at hs
  | q :: l, n, hg, h, s, hs => by
    have gq := hg q (by simp)
    simp only [Pc.Good] at gq
    rw [takeN] at h hs
    by_cases h1 : n ≤ 0
    · rw [if_pos h1] at h; simp only at h; omega
    · rw [if_neg h1] at h hs
      simp only at h hs
      by_cases h2 : q.to - q.from_ + 1 < n
      · rcases List.mem_cons.1 hs with rfl | hs
        · exact ⟨q, by simp, rfl, by simp only; omega⟩
        · obtain ⟨q', h3, h4⟩ := takeN_mem l _ (fun p hp => hg p (List.mem_cons_of_mem _ hp)) h s hs
          exact ⟨q', List.mem_cons_of_mem _ h3, h4⟩
      · rw [takeN_done l (by omega)] at h
        simp only at h; omega
theorem extL_app {l : List (Int × Int)} {s : Int × Int} (h : ∀ q ∈ l, q.1 + q.2 ≠ s.1) : extL l s = l ++ [s] := by
  rcases List.eq_nil_or_concat l with rfl | ⟨L, q, rfl⟩
  · rfl
  · rw [List.concat_eq_append] at h ⊢
    rw [extL_last, if_neg (h q (by simp)), List.append_assoc]; rfl
theorem snoc_ind {α : Type} {P : List α → Prop} (h0 : P []) (h1 : ∀ l a, P l → P (l ++ [a])) : ∀ l, P l := by
  have key : ∀ (n : Nat) (l : List α), l.length = n → P l := by
    intro n
    induction n with
    | zero => intro l hl; rw [List.length_eq_zero_iff.1 hl]; exact h0
    | succ n ih =>
      intro l hl
      rcases List.eq_nil_or_concat l with rfl | ⟨L, a, rfl⟩
      · simp at hl
      · rw [List.concat_eq_append] at hl ⊢
        exact h1 L a (ih L (by simpa using hl))
  exact fun l => key l.length l rfl
def fStep (want : Cl) (st : List (Int × Int) × Int) (p : Pc) : List (Int × Int) × Int :=
  if p.cell = want then (extL st.1 (p.from_, min (p.to - p.from_ + 1) st.2), st.2 - min (p.to - p.from_ + 1) st.2) else st
def fFold (want : Cl) (n : Int) (l : List Pc) : List (Int × Int) × Int := l.foldl (fStep want) ([], n)
theorem fFold_snoc (want : Cl) (n : Int) (l : List Pc) (p : Pc) : fFold want n (l ++ [p]) = fStep want (fFold want n l) p := by simp [fFold]
theorem fFold_len (want : Cl) (n : Int) (l : List Pc) : (fFold want n l).1.length ≤ l.length := by
  refine snoc_ind (P := fun l => (fFold want n l).1.length ≤ l.length) (by simp [fFold]) (fun l p ih => ?_) l
  rw [fFold_snoc, fStep, List.length_append]
  split
  · have := extL_length (fFold want n l).1 (p.from_, min (p.to - p.from_ + 1) (fFold want n l).2)
    simp only [List.length_cons, List.length_nil]; omega
  · simp only [List.length_cons, List.length_nil]; omega
def Okn (l : List (Int × Int)) : Prop := ∀ q ∈ l, 0 ≤ q.1 ∧ 0 ≤ q.2 ∧ q.1 + q.2 ≤ 1000001
theorem Okn.ext {l : List (Int × Int)} (h : Okn l) {s : Int × Int} (hs : 0 ≤ s.1 ∧ 0 ≤ s.2 ∧ s.1 + s.2 ≤ 1000001) : Okn (extL l s) := by
  rcases List.eq_nil_or_concat l with rfl | ⟨L, q, rfl⟩
  · intro r hr; simp [extL] at hr; subst hr; exact hs
  · rw [List.concat_eq_append] at h ⊢
    have hq := h q (by simp)
    have hL : ∀ r ∈ L, 0 ≤ r.1 ∧ 0 ≤ r.2 ∧ r.1 + r.2 ≤ 1000001 := fun r hr => h r (by simp [hr])
    rw [extL_last]
    split
    · intro r hr
      rcases List.mem_append.1 hr with hr | hr
      · exact hL r hr
      · simp only [List.mem_cons, List.not_mem_nil, or_false] at hr; subst hr; simp only; omega
    · intro r hr
      rcases List.mem_append.1 hr with hr | hr
      · exact hL r hr
      · simp only [List.mem_cons, List.not_mem_nil, or_false] at hr
        rcases hr with rfl | rfl
        · exact hq
        · exact hs
def Apart (l : List Pc) : Prop := ∀ p ∈ l, ∀ q ∈ l, p.to + 1 = q.from_ → p.cell ≠ q.cell
theorem Apart.sub {l m : List Pc} (h : Apart m) (hs : ∀ p ∈ l, p ∈ m) : Apart l := fun p hp q hq => h p (hs p hp) q (hs q hq)
def wantF (want : Cl) (l : List Pc) : List Pc := l.filter fun p => decide (p.cell = want)
theorem wantF_snoc (want : Cl) (l : List Pc) (p : Pc) : wantF want (l ++ [p]) = wantF want l ++ (if p.cell = want then [p] else []) := by
  unfold wantF
  rw [List.filter_append]
  by_cases h : p.cell = want <;> simp [h]
theorem fStep_take {want : Cl} {n : Int} {l : List Pc} {p : Pc} (hg : ∀ q ∈ l, q.Good) (ha : Apart (l ++ [p])) (h : fFold want n l = takeN (wantF want l) n) (hr : 0 < (fFold want n l).2) : fFold want n (l ++ [p]) = takeN (wantF want (l ++ [p])) n := by
  rw [fFold_snoc, wantF_snoc, fStep]
  split
  · rename_i hc
    rw [takeN_snoc, if_neg (by rw [← h]; omega), ← h]
    congr 1
    refine extL_app fun s hs => ?_
    rw [h] at hs hr
    obtain ⟨q, hq, _, h2⟩ := takeN_mem (wantF want l) n (fun q hq => hg q (List.mem_filter.1 hq).1) hr s hs
    obtain ⟨h3, h4⟩ := List.mem_filter.1 hq
    have h4 : q.cell = want := by simpa using h4
    intro he
    have he : s.1 + s.2 = p.from_ := he
    exact ha q (by simp [h3]) p (by simp) (by omega) (by rw [h4, hc])
  · rw [List.append_nil, h]
theorem fFold_take {want : Cl} {n : Int} : ∀ {l : List Pc}, (∀ q ∈ l, q.Good) → Apart l → 0 < (fFold want n l).2 → fFold want n l = takeN (wantF want l) n := by
  intro l
  refine snoc_ind (P := fun l => (∀ q ∈ l, q.Good) → Apart l → 0 < (fFold want n l).2 → fFold want n l = takeN (wantF want l) n) (fun _ _ _ => rfl) (fun l p ih => ?_) l
  · intro hg ha hr
    have hl : 0 < (fFold want n l).2 := by
      rw [fFold_snoc, fStep] at hr
      split at hr
      · simp only at hr
        have hp := hg p (by simp)
        simp only [Pc.Good] at hp
        omega
      · exact hr
    have hg' : ∀ q ∈ l, q.Good := fun q hq => hg q (by simp [hq])
    exact fStep_take hg' ha (ih hg' (ha.sub fun q hq => by simp [hq]) hl) hl
def findS (l : List Pc) (want : Cl) (n : Int) : List (Int × Int) := if (takeN (wantF want l) n).2 ≤ 0 then (takeN (wantF want l) n).1 else []
def findE (l : List Pc) (want : Cl) (n : Int) : Int := if (takeN (wantF want l) n).2 ≤ 0 then 0 else 4
theorem find_none {want : Cl} {n : Int} {l : List Pc} (hg : ∀ q ∈ l, q.Good) (ha : Apart l) (hr : 0 < (fFold want n l).2) : findS l want n = [] ∧ findE l want n = 4 := by
  rw [fFold_take hg ha hr] at hr
  unfold findS findE
  rw [if_neg (by omega), if_neg (by omega)]
  exact ⟨rfl, rfl⟩
theorem find_done {want : Cl} {n : Int} {l pre : List Pc} {p : Pc} (hg : ∀ q ∈ l, q.Good) (ha : Apart l) (hp : pre ++ [p] <+: l) (hr : 0 < (fFold want n pre).2) (hz : (fFold want n (pre ++ [p])).2 = 0) : findS l want n = (fFold want n (pre ++ [p])).1 ∧ findE l want n = 0 := by
  obtain ⟨m, rfl⟩ := hp
  have hg' : ∀ q ∈ pre, q.Good := fun q hq => hg q (by simp [hq])
  have ha' : Apart (pre ++ [p]) := ha.sub fun q hq => by
    rcases List.mem_append.1 hq with h | h
    · simp [h]
    · simp at h; simp [h]
  have h1 := fFold_take hg' (ha'.sub fun q hq => by simp [hq]) hr
  have h2 := fStep_take hg' ha' h1 hr
  have h3 : takeN (wantF want (pre ++ [p] ++ m)) n = takeN (wantF want (pre ++ [p])) n := by
    unfold wantF
    rw [List.filter_append]
    exact takeN_append _ _ _ (by rw [h2] at hz; unfold wantF at hz; omega)
  unfold findS findE
  rw [h3, ← h2, hz]
  simp
theorem wantF_inL {want : Cl} (hw : want.state ≠ 0) (l : List Pc) : wantF want (inL l) = wantF want l := by
  unfold wantF inL
  rw [List.filter_filter]
  congr 1
  funext p
  by_cases h : p.cell = want
  · simp [h, hw]
  · simp [h]
theorem find_inT {want : Cl} (hw : want.state ≠ 0) (t : T) (n : Int) : findS (inT t) want n = findS t.toList want n ∧ findE (inT t) want n = findE t.toList want n := by
  unfold findS findE inT
  rw [wantF_inL hw]
  exact ⟨rfl, rfl⟩
theorem TrOk.apart {t : T} (h : TrOk t) : Apart t.toList := fun p hp q hq => canon_ne h.tiles h.canon p hp q hq
end Go.Proofs.YtepldjidkomclaaGreat.St
namespace Go.Proofs.YtepldjidkomclaaGreat.St
set_option linter.unusedSimpArgs false
set_option linter.unusedVariables false
open Go.RowKit Go.Shelf
attribute [local go_sem] Oper.semAt_some
def findR (l : List Pc) (o lt n : Int) : Int := if (inB 1000 o && (inB 1000000 lt && inB 1000000 n)) = true then findE l ⟨1, lt, o, 0⟩ n else 1
def findL (l : List Pc) (o lt n : Int) : List (Int × Int) := if (inB 1000 o && (inB 1000000 lt && inB 1000000 n)) = true then findS l ⟨1, lt, o, 0⟩ n else []
theorem find_bad {l : List Pc} {o lt n : Int} (h : (inB 1000 o && (inB 1000000 lt && inB 1000000 n)) = false) : findR l o lt n = 1 ∧ findL l o lt n = [] := by
  unfold findR findL
  rw [h]
  exact ⟨rfl, rfl⟩
theorem find_good {l : List Pc} {o lt n : Int} (h : (inB 1000 o && (inB 1000000 lt && inB 1000000 n)) = true) : findR l o lt n = findE l ⟨1, lt, o, 0⟩ n ∧ findL l o lt n = findS l ⟨1, lt, o, 0⟩ n := by
  unfold findR findL
  rw [h]
  exact ⟨rfl, rfl⟩
end Go.Proofs.YtepldjidkomclaaGreat.St
namespace Go.Proofs.YtepldjidkomclaaGreat.St
set_option linter.unusedSimpArgs false
set_option linter.unusedVariables false
open Go.RowKit Go.Shelf
attribute [local go_sem] Oper.semAt_some
attribute [local go_sem ↓] Go.wp_at_zero Go.wp_at_succ
structure FCells (w : World) (n : Int) (W : World) : Prop where
  c0 : Cells W w.heap.size #[.int .i64 n] 3
  c1 : Cells W (w.heap.size + 1) #[.slice none 0 0] 57
  c2 : Cells W (w.heap.size + 1 + 1) #[.int .i64 0] 28
theorem FCells.below {w : World} {n : Int} {W W' : World} (h : FCells w n W) (hb : Below W.heap.size W W') : FCells w n W' := ⟨h.c0.below hb h.c0.lt, h.c1.below hb h.c1.lt, h.c2.below hb h.c2.lt⟩
theorem FCells.facts {w : World} {n : Int} {W : World} (h : FCells w n W) : W.cell? ⟨w.heap.size, 0, none⟩ = some (.int .i64 n) ∧ W.cell? ⟨w.heap.size + 1, 0, none⟩ = some (.slice none 0 0) ∧ W.cell? ⟨w.heap.size + 1 + 1, 0, none⟩ = some (.int .i64 0) ∧ w.heap.size + 1 + 1 < W.heap.size ∧ (∀ j, W.frozen? ⟨w.heap.size, j, none⟩ = false) ∧ (∀ j, W.frozen? ⟨w.heap.size + 1, j, none⟩ = false) ∧ (∀ j, W.frozen? ⟨w.heap.size + 1 + 1, j, none⟩ = false) := by
  have h0 := h.c0.cell 0
  have h1 := h.c1.cell 0
  have h2 := h.c2.cell 0
  simp at h0 h1 h2
  exact ⟨h0, h1, h2, h.c2.lt, h.c0.frozen, h.c1.frozen, h.c2.frozen⟩
theorem FCells.new (w : World) (n : Int) : FCells w n (((w.alloc (.cells #[.int .i64 n] 3)).alloc (.cells #[.slice none 0 0] 57)).alloc (.cells #[.int .i64 0] 28)) := by
  have h1 := (Cells.new (w.alloc (.cells #[.int .i64 n] 3)) #[.slice none 0 0] 57).alloc (.cells #[.int .i64 0] 28)
  have h2 := Cells.new ((w.alloc (.cells #[.int .i64 n] 3)).alloc (.cells #[.slice none 0 0] 57)) #[.int .i64 0] 28
  rw [World.size_alloc] at h1
  rw [World.size_alloc, World.size_alloc] at h2
  exact ⟨((Cells.new w _ _).alloc _).alloc _, h1, h2⟩
theorem ints_at {W : World} {x : Int} {k : Nat} (h : W.heap.size = k) : IntsAt (W.alloc (.cells #[.int .i64 x] 3)) (.slice (some ⟨k, 0, none⟩) 1 1) [x] := by
  have := ints_one W x 3
  rwa [h] at this
theorem FCells.kept {w : World} {n : Int} {W W' : World} {row : Option Nat} (h : FCells w n W) (hg : W.grownBy W' row) (hr : ∀ r, row = some r → ∃ o : Obj, W.heap[r]? = some o ∧ o.isCells = false) : FCells w n W' := ⟨h.c0.kept hg hr, h.c1.kept hg hr, h.c2.kept hg hr⟩
theorem FCells.grew {w : World} {n : Int} {W W' : World} {row : Option Nat} (h : FCells w n W) (hg : Grew W W' row) (hr : ∀ r, row = some r → w.heap.size + 1 + 1 < r) : FCells w n W' :=
  ⟨hg.cells h.c0 (fun e => by have := hr _ e.symm; omega), hg.cells h.c1 (fun e => by have := hr _ e.symm; omega), hg.cells h.c2 (fun e => by have := hr _ e.symm; omega)⟩
theorem OwnS.kept {B : Nat} {W W' : World} {v : Value} {l : List (Int × Int)} {row : Option Nat} (h : OwnE encS 2 56 B W v l) (hg : W.grownBy W' row) (hr : ∀ r, row = some r → ∃ o : Obj, W.heap[r]? = some o ∧ o.isCells = false) : OwnE encS 2 56 B W' v l :=
  h.moved fun b cs _ hb => hg.block b (Array.getElem?_eq_some_iff.1 hb).1 (fun e => by obtain ⟨o, ho, hc⟩ := hr b e.symm; rw [hb] at ho; cases ho; cases hc)
theorem OwnS.set {B : Nat} {W : World} {v : Value} {l : List (Int × Int)} (h : OwnE encS 2 56 B W v l) {C j : Nat} (hC : C < B) (u : Value) : OwnE encS 2 56 B (W.setCell ⟨C, j, none⟩ u) v l :=
  h.moved fun b cs hb _ => Below.heap_setCell W _ u b (by simp; omega)
structure FSt (w : World) (C lo : Nat) (want : Cl) (m : Int) (out : List (Int × Int)) (W : World) : Prop where
  pos : 0 < m ∧ m ≤ 1000000
  ok : Okn out
  c : FCells w m W
  k : Cells W C want.vals 95
  u : ∃ u, Cells W (C + 1) #[u] 57 ∧ OwnE encS 2 56 lo W u out
  below : Below w.heap.size w W
  size : lo ≤ W.heap.size
theorem FSt.kept {w : World} {C lo : Nat} {want : Cl} {m : Int} {out : List (Int × Int)} {W W' : World} {row : Option Nat} (h : FSt w C lo want m out W) (hg : W.grownBy W' row) (hr : ∀ r, row = some r → ∃ o : Obj, W.heap[r]? = some o ∧ o.isCells = false) (hb : Below w.heap.size w W') : FSt w C lo want m out W' := by
  obtain ⟨u, h1, h2⟩ := h.u
  exact ⟨h.pos, h.ok, h.c.kept hg hr, h.k.kept hg hr, ⟨u, h1.kept hg hr, OwnS.kept h2 hg hr⟩, hb, Nat.le_trans h.size hg.size⟩
theorem FSt.after {w : World} {C lo : Nat} {want : Cl} {m : Int} {out : List (Int × Int)} {W W' : World} (h : FSt w C lo want m out W) (hb : Below W.heap.size W W') : FSt w C lo want m out W' := by
  obtain ⟨u, h1, h2⟩ := h.u
  exact ⟨h.pos, h.ok, h.c.below hb, h.k.below hb h.k.lt, ⟨u, h1.below hb h1.lt, h2.below hb⟩, h.below.trans (hb.mono h.below.size), Nat.le_trans h.size hb.size⟩
theorem FCells.put {w : World} {n : Int} {W : World} (h : FCells w n W) (m : Int) : FCells w m (W.setCell ⟨w.heap.size, 0, none⟩ (.int .i64 m)) := ⟨h.c0.set 0 _, h.c1.set_far 0 _ (by omega), h.c2.set_far 0 _ (by omega)⟩
theorem FCells.far {w : World} {n : Int} {W : World} (h : FCells w n W) {C : Nat} (hC : w.heap.size + 1 + 1 < C) (u : Value) : FCells w n (W.setCell ⟨C, 0, none⟩ u) := ⟨h.c0.set_far 0 _ (by omega), h.c1.set_far 0 _ (by omega), h.c2.set_far 0 _ (by omega)⟩
structure FMid (w : World) (C lo : Nat) (want : Cl) (m kk : Int) (out2 : List (Int × Int)) (W1 : World) (u u2 : Value) (W2 : World) : Prop where
  c : FCells w m W2
  k : Cells W2 C want.vals 95
  u1 : Cells W2 (C + 1) #[u] 57
  o : OwnE encS 2 56 lo W2 u2 out2
  x : ∃ a, Cells W2 W1.heap.size #[.int .i64 a, .int .i64 kk] 56
  below : Below w.heap.size w W2
  below1 : Below w.heap.size W1 W2
  keeps : KeepsFrom lo W1 W2
  lo1 : lo ≤ W1.heap.size
theorem FSt.mid {w : World} {C lo : Nat} {want : Cl} {m : Int} {out : List (Int × Int)} {W1 : World} (h : FSt w C lo want m out W1) {u : Value} (h1 : Cells W1 (C + 1) #[u] 57) (h2 : OwnE encS 2 56 lo W1 u out) (hC : w.heap.size + 1 + 1 < C ∧ C + 1 < lo) {a kk : Int} {W2 : World} {u2 : Value} {out2 : List (Int × Int)}
    (ho : OwnE encS 2 56 lo W2 u2 out2) (hb : Below lo (W1.alloc (.cells #[.int .i64 a, .int .i64 kk] 56)) W2) (hg : Grew (W1.alloc (.cells #[.int .i64 a, .int .i64 kk] 56)) W2 u.ownBlock) : FMid w C lo want m kk out2 W1 u u2 W2 := by
  have hr : ∀ r, u.ownBlock = some r → lo ≤ r ∧ r < W1.heap.size := fun r e => World.ownsRow.lt h2 r e
  have ha : Below W1.heap.size W1 (W1.alloc (.cells #[.int .i64 a, .int .i64 kk] 56)) := (Below.refl _ _).alloc (Nat.le_refl _) _
  have h2' := h2.alloc (.cells #[.int .i64 a, .int .i64 kk] 56)
  have hb1 : Below w.heap.size W1 W2 := (ha.mono h.below.size).trans (hb.mono (by omega))
  exact ⟨(h.c.below ha).grew hg (fun r e => by have := hr r e; omega), hg.cells (h.k.alloc _) (fun e => by have := hr _ e.symm; omega), hg.cells (h1.alloc _) (fun e => by have := hr _ e.symm; omega), ho,
    ⟨a, hg.cells (Cells.new W1 _ _) (fun e => by have := hr _ e.symm; omega)⟩, h.below.trans hb1, hb1, (keepsFrom_below ha).trans (hg.keeps (ownsRow_isCells h2')), h.size⟩
theorem FMid.facts {w : World} {C lo : Nat} {want : Cl} {m kk : Int} {out2 : List (Int × Int)} {W1 : World} {u u2 : Value} {W2 : World} (h : FMid w C lo want m kk out2 W1 u u2 W2) :
    W2.cell? ⟨w.heap.size, 0, none⟩ = some (.int .i64 m) ∧ W2.frozen? ⟨w.heap.size, 0, none⟩ = false ∧ W2.cell? ⟨C + 1, 0, none⟩ = some u ∧ W2.frozen? ⟨C + 1, 0, none⟩ = false ∧ W2.cell? ⟨W1.heap.size, 1, none⟩ = some (.int .i64 kk) ∧ w.heap.size < W2.heap.size ∧ C + 1 < W2.heap.size ∧ W1.heap.size < W2.heap.size ∧ W2.cell? ⟨w.heap.size + 1, 0, none⟩ = some (.slice none 0 0) ∧ W2.frozen? ⟨w.heap.size + 1, 0, none⟩ = false ∧ W2.cell? ⟨w.heap.size + 1 + 1, 0, none⟩ = some (.int .i64 0) ∧ W2.frozen? ⟨w.heap.size + 1 + 1, 0, none⟩ = false := by
  obtain ⟨k0, k1, k2, k3, f0, f1, f2⟩ := h.c.facts
  have u0 := h.u1.cell 0
  obtain ⟨a, hx⟩ := h.x
  have x1 := hx.cell 1
  simp at u0 x1
  exact ⟨k0, f0 0, u0, h.u1.frozen 0, x1, by omega, h.u1.lt, hx.lt, k1, f1 0, k2, f2 0⟩
theorem FMid.on {w : World} {C lo : Nat} {want : Cl} {m kk : Int} {out2 : List (Int × Int)} {W1 : World} {u u2 : Value} {W2 : World} (h : FMid w C lo want m kk out2 W1 u u2 W2) (hC : w.heap.size + 1 + 1 < C ∧ C + 1 < lo) (hp : 0 < m - kk ∧ m - kk ≤ 1000000) (hok : Okn out2) :
    FSt w C lo want (m - kk) out2 ((W2.setCell ⟨C + 1, 0, none⟩ u2).setCell ⟨w.heap.size, 0, none⟩ (.int .i64 (m - kk))) ∧ KeepsFrom lo W1 ((W2.setCell ⟨C + 1, 0, none⟩ u2).setCell ⟨w.heap.size, 0, none⟩ (.int .i64 (m - kk))) ∧ Below w.heap.size W1 ((W2.setCell ⟨C + 1, 0, none⟩ u2).setCell ⟨w.heap.size, 0, none⟩ (.int .i64 (m - kk))) :=
  ⟨⟨hp, hok, (h.c.far (by omega) u2).put _, (h.k.set_far 0 _ (by omega)).set_far 0 _ (by omega), ⟨u2, (h.u1.set 0 u2).set_far 0 _ (by omega), OwnS.set (OwnS.set h.o (by omega) _) (by omega) _⟩, (h.below.setCell (p := ⟨C + 1, 0, none⟩) (by simp; omega) _).setCell (p := ⟨w.heap.size, 0, none⟩) (by simp) _, by have h1 := h.lo1; have h2 := h.keeps.size; simp only [World.setCell]; simp; omega⟩,
    (h.keeps.trans keepsFrom_set).trans keepsFrom_set, (h.below1.setCell (p := ⟨C + 1, 0, none⟩) (by simp; omega) _).setCell (p := ⟨w.heap.size, 0, none⟩) (by simp) _⟩
theorem FMid.off {w : World} {C lo : Nat} {want : Cl} {m kk : Int} {out2 : List (Int × Int)} {W1 : World} {u u2 : Value} {W2 : World} (h : FMid w C lo want m kk out2 W1 u u2 W2) (hC : w.heap.size + 1 + 1 < C ∧ C + 1 < lo) (z : Value) {W9 : World}
    (h9 : W9 = (((W2.setCell ⟨C + 1, 0, none⟩ u2).setCell ⟨w.heap.size, 0, none⟩ z).setCell ⟨w.heap.size + 1, 0, none⟩ u2).setCell ⟨w.heap.size + 1 + 1, 0, none⟩ (.int .i64 0)) :
    Cells W9 (w.heap.size + 1) #[u2] 57 ∧ Cells W9 (w.heap.size + 1 + 1) #[.int .i64 0] 28 ∧ OwnE encS 2 56 w.heap.size W9 u2 out2 ∧ Below w.heap.size w W9 ∧ KeepsFrom lo W1 W9 := by
  subst h9
  refine ⟨?_, ?_, ?_, ?_, ?_⟩
  · exact ((((h.c.c1.set_far 0 _ (by omega)).set_far 0 _ (by omega)).set 0 u2).set_far 0 _ (by omega))
  · exact ((((h.c.c2.set_far 0 _ (by omega)).set_far 0 _ (by omega)).set_far 0 _ (by omega)).set 0 _)
  · exact OwnE.mono (OwnS.set (OwnS.set (OwnS.set (OwnS.set h.o (by omega) _) (by omega) _) (by omega) _) (by omega) _) (by omega)
  · exact ((((h.below.setCell (p := ⟨C + 1, 0, none⟩) (by simp; omega) _).setCell (p := ⟨w.heap.size, 0, none⟩) (by simp) _).setCell (p := ⟨w.heap.size + 1, 0, none⟩) (by simp) _).setCell (p := ⟨w.heap.size + 1 + 1, 0, none⟩) (by simp; omega) _)
  · exact (((h.keeps.trans keepsFrom_set).trans keepsFrom_set).trans keepsFrom_set).trans keepsFrom_set
def FEnd (w : World) (want : Cl) (n : Int) (pre : List Pc) (W : World) : Prop :=
  ∃ out pre' p', pre = pre' ++ [p'] ∧ 0 < (fFold want n pre').2 ∧ fFold want n pre = (out, 0) ∧ ∃ u, Cells W (w.heap.size + 1) #[u] 57 ∧ Cells W (w.heap.size + 1 + 1) #[.int .i64 0] 28 ∧ OwnE encS 2 56 w.heap.size W u out ∧ Below w.heap.size w W
def NowP (w : World) (sB : Nat) (p : Option Addr) : Prop :=
  ∃ (vB k cap : Nat), Cells w sB #[.slice (some ⟨vB, 0, none⟩) (k + 1) cap] 100 ∧ k ≤ 1000000 ∧ w.cell? ⟨vB, k, none⟩ = some (.pointer p)
theorem NowAt.split {w : World} {sB : Nat} {t : T} (h : NowAt w sB t) : ∃ p, NowP w sB p ∧ TreeAt w p t := by
  obtain ⟨vB, k, cap, p, hc, hk, hv, ht⟩ := h
  exact ⟨p, ⟨vB, k, cap, hc, hk, hv⟩, ht⟩
theorem NowP.below {w w' : World} {sB : Nat} {p : Option Addr} (h : NowP w sB p) (hb : Below w.heap.size w w') : NowP w' sB p := by
  obtain ⟨vB, k, cap, hc, hk, hv⟩ := h
  exact ⟨vB, k, cap, hc.below hb hc.lt, hk, (hb.cell (p := ⟨vB, k, none⟩) (World.block_lt_of_cell? _ _ hv)).trans hv⟩
set_option maxRecDepth 100000 in
set_option maxHeartbeats 2000000 in
theorem nowp_calls (w : World) (sB : Nat) (p : Option Addr) (h : NowP w sB p) :
    Calls Tryz.prog 41 #[.pointer (some ⟨sB, 0, none⟩)] w fun e w' => e = .returned (.pointer p) ∧ Below w.heap.size w w' := by
  obtain ⟨vB, k, cap, hc, hk, hv⟩ := h
  have h0 : w.cell? ⟨sB, 0, none⟩ = some (.slice (some ⟨vB, 0, none⟩) (k + 1) cap) := by simp [hc.cell]
  have hw1 : IntKind.i64.wrap ((k : Int) + 1 - 1) = (k : Int) := by rw [IntWalk.i64_in _ (by omega)]; omega
  clear hc
  have i1 : (0 : Int) ≤ (k : Int) := by omega
  have i2 : (k : Int) < (k : Int) + 1 := by omega
  go_enter Tryz.func41, Tryz.ntmps41
  go_wp2
  go_quiet (fail)
  go_wp2
  go_ret
  exact ⟨rfl, below_drewN (Below.refl _ _) _⟩
set_option maxRecDepth 100000 in
set_option maxHeartbeats 8000000 in
theorem find_good_calls (w : World) (sB vB : Nat) (vs : List T) (hst : StAt w sB vB vs) (hn : vs.length ≤ 1000) {t : T} (ht : vs.getLast? = some t) (tr : TrOk t) (o lt n : Int) (h1 : inB 1000 o = true) (h2 : inB 1000000 lt = true) (h3 : 1 ≤ n ∧ n ≤ 1000000) :
    Calls Tryz.prog 16 #[.pointer (some ⟨sB, 0, none⟩), .int .i64 o, .int .i64 lt, .int .i64 n] w fun e w' => ∃ u, e = .returned (.tuple #[u, .int .i64 (findE t.toList ⟨1, lt, o, 0⟩ n)]) ∧ OwnE encS 2 56 w.heap.size w' u (findS t.toList ⟨1, lt, o, 0⟩ n) ∧ Below w.heap.size w w' := by
  obtain ⟨want, hwant⟩ : ∃ want : Cl, want = ⟨1, lt, o, 0⟩ := ⟨_, rfl⟩
  have HWANT := hid hwant
  have HWV := hid (show want.vals = #[.int .i64 1, .int .i64 lt, .int .i64 o, .int .i64 0] by rw [hwant])
  rw [← hwant]
  clear hwant
  have ST := hid hst
  have TR := hid tr
  have HT := hid ht
  obtain ⟨p, np, tt⟩ := (now_at hst hn ht).split
  have NP := hid np
  have TT := hid tt
  have H1 := hid h1
  have H2 := hid h2
  have H3 := hid h3
  have hB3 := hid (show inB 1000000 n = true by simp [inB, h3.1, h3.2])
  obtain ⟨W0, hW0⟩ : ∃ W0, W0 = ((w.alloc (.cells #[.int .i64 n] 3)).alloc (.cells #[.slice none 0 0] 57)).alloc (.cells #[.int .i64 0] 28) := ⟨_, rfl⟩
  have F0 := hid (show FCells w n W0 by rw [hW0]; exact FCells.new w n)
  have hz0 : W0.heap.size = w.heap.size + 1 + 1 + 1 := by rw [hW0]; simp
  have B0 := hid (show Below w.heap.size w W0 by rw [hW0]; exact ((((Below.refl _ _).alloc (Nat.le_refl _) _).alloc (by simp) _).alloc (by simp; omega) _))
  have HZ0 := hid hz0
  have HW0 := hid hW0
  clear hst tr ht h1 h2 h3 hW0 hz0 np tt
  obtain ⟨F, hFe⟩ : ∃ F, F = Fence.wide := ⟨_, rfl⟩
  have hF : Free F Tryz.prog := hFe ▸ free_wide _
  have hro : F.round = none := by rw [hFe]; rfl
  have FE := hid hFe
  clear hFe
  refine (callsIn_wide (n := 6)).1 ?_
  rw [← FE.out]
  refine callsIn_of_wp_marks Tryz.func16 rfl (hF.fn _) ?_ hro
  rw [FE.out]
  refine wpIn_wide.2 ?_
  simp only [Tryz.ntmps16, List.size_toArray, List.length_cons, List.length_nil, Nat.reduceAdd, Nat.reduceSub, Array.replicate_succ, Array.replicate_zero, List.push_toArray, List.append_toArray, List.nil_append, List.cons_append]
  go_wp2_with fail
  rw [← HW0.out]
  refine (are_calls 1000 _ _ [o] (ints_at HZ0.out)).mono ?_
  rintro e w1 ⟨rfl, hb1⟩
  rw [all_one, H1.out]
  have B1 := hid (((Below.refl W0.heap.size W0).alloc (Nat.le_refl _) (.cells #[.int .i64 o] 3)).trans (hb1.mono (by simp)))
  have F1 := hid (F0.out.below B1.out)
  clear hb1
  go_wp2_with fail
  refine (are_calls 1000000 _ _ [lt] (ints_one w1 lt _)).mono ?_
  rintro e w2 ⟨rfl, hb2⟩
  rw [all_one, H2.out]
  have B2 := hid (((Below.refl w1.heap.size w1).alloc (Nat.le_refl _) (.cells #[.int .i64 lt] 3)).trans (hb2.mono (by simp)))
  have F2 := hid (F1.out.below B2.out)
  obtain ⟨k0, _, _, l0, _⟩ := F2.out.facts
  clear hb2
  go_wp2_with fail
  refine (are_calls 1000000 _ _ [n] (ints_one w2 n _)).mono ?_
  rintro e w3 ⟨rfl, hb3⟩
  rw [all_one, hB3.out]
  have B3 := hid (((Below.refl w2.heap.size w2).alloc (Nat.le_refl _) (.cells #[.int .i64 n] 3)).trans (hb3.mono (by simp)))
  have F3 := hid (F2.out.below B3.out)
  have BW := hid (B0.out.trans ((B1.out.trans ((B2.out.trans (B3.out.mono B2.out.size)).mono B1.out.size)).mono B0.out.size))
  clear hb3 k0 l0
  obtain ⟨W4, hW4⟩ : ∃ W4, W4 = (w3.alloc (.cells #[.int .i64 1, .int .i64 lt, .int .i64 o, .int .i64 0] 95)).alloc (.cells #[.slice none 0 0] 57) := ⟨_, rfl⟩
  have B4 := hid (show Below w3.heap.size w3 W4 by rw [hW4]; exact ((Below.refl _ _).alloc (Nat.le_refl _) _).alloc (by simp) _)
  have F4 := hid (F3.out.below B4.out)
  have K4 := hid (show Cells W4 w3.heap.size #[.int .i64 1, .int .i64 lt, .int .i64 o, .int .i64 0] 95 by rw [hW4]; exact (Cells.new _ _ _).alloc _)
  have U4 := hid (show Cells W4 (w3.heap.size + 1) #[.slice none 0 0] 57 by
    rw [hW4]
    have := Cells.new (w3.alloc (.cells #[.int .i64 1, .int .i64 lt, .int .i64 o, .int .i64 0] 95)) #[.slice none 0 0] 57
    rwa [World.size_alloc] at this)
  have BW4 := hid (BW.out.trans (B4.out.mono BW.out.size))
  have HW4 := hid hW4
  clear hW4
  go_wp2_with fail
  rw [← HW4.out]
  refine (nowp_calls _ sB p (NP.out.below BW4.out)).mono ?_
  rintro e w5 ⟨rfl, hb5⟩
  have B5 := hid hb5
  clear hb5
  go_wp2_with fail
  refine (within_made p 1 1000000 _).mono ?_
  rintro e w6 ⟨v, rfl, hi6, hb6⟩
  obtain ⟨C0, C1, C2, rfl, hC0, hC1, hC2⟩ := hi6
  have B6 := hid (B5.out.trans (hb6.mono B5.out.size))
  have BW6 := hid (BW4.out.trans (B6.out.mono BW4.out.size))
  have hz6 : w3.heap.size + 1 < w6.heap.size := (U4.out.below B6.out U4.out.lt).lt
  have hw3z : w.heap.size + 1 + 1 < w3.heap.size := F3.out.c2.lt
  have S6 := hid (show FSt w w3.heap.size w6.heap.size want n [] w6 from
    ⟨by have := H3.out; omega, (fun q hq => by cases hq), F4.out.below B6.out, (by rw [HWV.out]; exact K4.out.below B6.out K4.out.lt), ⟨.slice none 0 0, U4.out.below B6.out U4.out.lt, OwnE.nil _ _⟩, BW6.out, Nat.le_refl _⟩)
  have HL := hid (show (visL t 1 1000000).length ≤ 1000000 by rw [visL_fine TR.out.fine]; have := TR.out.tiles.few; omega)
  have VT := hid (visL_fine TR.out.fine)
  clear hb6
  go_wp2
  refine (wpIn_wide (n := 6)).1 ?_
  rw [← FE.out]
  refine wpIn_rangeFunc_ownH hro (by omega) (gf := 82) (lb := #[.pointer (some ⟨C0, 0, none⟩), .pointer (some ⟨C1, 0, none⟩), .pointer (some ⟨C2, 0, none⟩)]) rfl (hF.fn _) (enters_of Tryz.func82 (by kernel_rfl) rfl)
    (within_stops F hF hro _ C0 C1 C2 w.heap.size p t TR.out.fine.good 1 1000000 ⟨by omega, by omega, by omega⟩ w6 hC0.lt hC1.lt hC2.lt BW6.out.size (by simp [hC0.cell]) (by simp [hC1.cell]) (by simp [hC2.cell]) (Tn.of_tree (Nat.le_refl _) BW6.out TT.out))
    belowK_t (belowK_b BW6.out.size) (Below.refl _ _) (fun _ => rfl)
    (fun pre W => (∃ m out, fFold want n (vals pre) = (out, m) ∧ FSt w w3.heap.size w6.heap.size want m out W) ∧ Below w.heap.size w W)
    (fun k pre W => k = Code.ret ∧ FEnd w want n (vals pre) W)
    (fun s X Y row h hg hr => by
      have hb := ownFrom_below (n₀ := w.heap.size) (w₀ := w) (Nat.le_refl _) BW6.out.size s X Y row h.2 hg hr
      obtain ⟨⟨m, out, h1, h2⟩, _⟩ := h
      exact ⟨⟨m, out, h1, h2.kept hg (fun r e => (hr r e).2) hb⟩, hb⟩)
    (fun k s X Y row h hg hr => by
      obtain ⟨h0, out, pre', p', h1, h2, h3, u, h4, h5, h6, h7⟩ := h
      have hb := ownFrom_below (n₀ := w.heap.size) (w₀ := w) (Nat.le_refl _) BW6.out.size s X Y row h7 hg hr
      exact ⟨h0, out, pre', p', h1, h2, h3, u, h4.kept hg (fun r e => (hr r e).2), h5.kept hg (fun r e => (hr r e).2), OwnS.kept h6 hg (fun r e => (hr r e).2), hb⟩)
    ⟨⟨n, [], rfl, S6.out⟩, BW6.out⟩
    (fun x a' W => ∃ Bx, w6.heap.size ≤ Bx ∧ Cells W Bx x.1.vals 97 ∧ a' = { tmps := #[.pointer (some ⟨sB, 0, none⟩), .int .i64 o, .int .i64 lt, .int .i64 n, undef, undef, undef, .pointer (some ⟨w.heap.size, 0, none⟩), .pointer (some ⟨w.heap.size + 1, 0, none⟩), .pointer (some ⟨w.heap.size + 1 + 1, 0, none⟩), .pointer (some ⟨w3.heap.size, 0, none⟩), .pointer (some ⟨w3.heap.size + 1, 0, none⟩), .pointer (some ⟨Bx, 0, none⟩), undef, .pointer (some ⟨sB, 0, none⟩), .bool false,
      .int .i64 o, .slice (some ⟨w.heap.size + 1 + 1 + 1, 0, none⟩) 1 1, .bool true, .bool false, .bool false, .int .i64 lt, .slice (some ⟨w1.heap.size, 0, none⟩) 1 1, .bool true, .bool false, .bool false, .bool false, .int .i64 n, .slice (some ⟨w2.heap.size, 0, none⟩) 1 1, .bool true, .bool false, .bool false, .int .i64 lt, .int .i64 o, .agg #[.int .i64 1, .int .i64 lt, .int .i64 o, .int .i64 0], .pointer (some ⟨sB, 0, none⟩), .pointer p,
      .func (.func 82) #[] #[.pointer (some ⟨C0, 0, none⟩), .pointer (some ⟨C1, 0, none⟩), .pointer (some ⟨C2, 0, none⟩)], x.1.val, undef, undef, undef, undef, undef, undef, undef, undef, undef, undef, undef, undef, undef, undef, undef, undef, undef, undef, undef, undef, undef], defers := [] })
    (fun x a' s X Y row h hg hr => by obtain ⟨Bx, h1, h2, h3⟩ := h; exact ⟨Bx, h1, h2.kept hg (fun r e => (hr r e).2), h3⟩) ?assign ?body ?done ?stop
  case assign =>
    rintro l pre x W K ⟨⟨m, out, i1, i2⟩, i3⟩ hK
    gi_wp2
    exact hK _ _ ((KeepsOthers.alloc _ _).from _) ((Below.refl _ W).alloc i3.size _) ⟨⟨m, out, i1, i2.after ((Below.refl _ W).alloc (Nat.le_refl _) _)⟩, i3.alloc i3.size _⟩ ⟨W.heap.size, i2.size, Cells.new _ _ _, rfl⟩
  case body =>
    rintro l pre x a' W hl _ ⟨⟨m, out, hf, st⟩, _⟩ ⟨Bx, hBx, hcx, rfl⟩ hlt
    have gx := x.2
    simp only [Pc.Good] at gx
    have pos := st.pos
    obtain ⟨e0, e1, e2, e3, e4, e5⟩ := pc_facts hcx
    obtain ⟨k0, _, _, k3, f0, _, _⟩ := st.c.facts
    have f0' := f0 0
    have kk := st.k
    rw [HWV.out] at kk
    have c0 := kk.cell 0
    have c1 := kk.cell 1
    have c2 := kk.cell 2
    have c3 := kk.cell 3
    simp at c0 c1 c2 c3
    obtain ⟨u, hu, ou⟩ := st.u
    have u0 := hu.cell 0
    simp at u0
    have uf := hu.frozen 0
    have ul := hu.lt
    have hol : out.length ≤ 10000000 := by
      have h1 := fFold_len want n (vals pre)
      rw [hf] at h1
      rw [vals_length] at h1
      have h2 := HL.out
      simp only at h1
      omega
    have SX := hid st
    have CX := hid hcx
    have HFF := hid hf
    have OU := hid ou
    have UU := hid hu
    have HBX := hid hBx
    have lx := hcx.lt
    have hf1 : (F.inRound l).fn 43 := hF.fn _
    have hf2 : (F.inRound l).fn 44 := hF.fn _
    have hdd : ∀ k : Nat, (F.depth.isSome = true → 1 ≤ k) := fun k h => by rw [hF.depth] at h; cases h
    clear st hcx hf ou hu kk hlt f0 hBx
    by_cases hc : x.1.cell = want
    · have he : ∀ w, (Op.equalIn 10000 95 (.agg #[.int .i64 x.1.cell.state, .int .i64 x.1.cell.lot, .int .i64 x.1.cell.owner, .int .i64 x.1.cell.holder]) (.agg #[.int .i64 1, .int .i64 lt, .int .i64 o, .int .i64 0])).run Tryz.prog w = .ok true w := fun w => by
        have := run_eqCell x.1.cell want w
        rw [HWANT.out] at this
        rw [HWANT.out] at hc
        exact this.trans (by simp [hc])
      obtain ⟨kk, hkk⟩ : ∃ kk, kk = min (x.1.to - x.1.from_ + 1) m := ⟨_, rfl⟩
      have FS := hid (show fFold want n (vals (pre ++ [x])) = (extL out (x.1.from_, kk), m - kk) by rw [vals_append, fFold_snoc, HFF.out, fStep, if_pos hc, ← hkk])
      have KK := hid hkk
      have hkb : 1 ≤ kk ∧ kk ≤ 1000000 ∧ kk ≤ m ∧ x.1.from_ + kk ≤ x.1.to + 1 := by omega
      clear hc hkk
      gi_wp2_with fail
      refine ⟨hF.fn _, ?_⟩
      refine (CallsIn.inRound l (hF.calls _ _ _ _ _ (span_calls x.1 x.2 _))).mono ?_
      rintro e W1 ⟨rfl, hb1⟩
      have S1 := hid (SX.out.after hb1)
      have U1 := hid (UU.out.below hb1 UU.out.lt)
      have O1 := hid (OU.out.below hb1)
      have KB1 := hid (keepsFrom_below (B := w6.heap.size) hb1)
      have BB1 := hid (hb1.mono SX.out.below.size)
      have u0 := U1.out.cell 0
      simp at u0
      have ul := U1.out.lt
      have hz1 := hb1.size
      obtain ⟨k0, _, _, k3, _, _, _⟩ := S1.out.c.facts
      have k4 : w.heap.size < W1.heap.size := by omega
      have i2 : IntKind.i64.wrap (m - kk) = m - kk := IntWalk.i64_in _ (by omega)
      have HC := hid (show w.heap.size + 1 + 1 < w3.heap.size ∧ w3.heap.size + 1 < w6.heap.size from ⟨hw3z, hz6⟩)
      have HLO := hid (show w6.heap.size ≤ (W1.alloc (.cells #[.int .i64 x.1.from_, .int .i64 kk] 56)).heap.size by have := S1.out.size; simp; omega)
      have OK1 := hid (show ∀ q ∈ out, 0 ≤ q.1 ∧ q.1 ≤ 1000000000 ∧ 0 ≤ q.2 ∧ q.2 ≤ 1000000000 from fun q hq => by have := S1.out.ok q hq; omega)
      have OK2 := hid (show 0 ≤ x.1.from_ ∧ x.1.from_ ≤ 1000000000 ∧ 0 ≤ kk ∧ kk ≤ 1000000000 by omega)
      have OK3 := hid (show 0 ≤ ((x.1.from_, kk) : Int × Int).1 ∧ 0 ≤ ((x.1.from_, kk) : Int × Int).2 ∧ ((x.1.from_, kk) : Int × Int).1 + ((x.1.from_, kk) : Int × Int).2 ≤ 1000001 by simp only; omega)
      clear hb1 e0 e1 e2 e3 e4 e5 c0 c1 c2 c3
      by_cases hmin : m < x.1.to - x.1.from_ + 1
      · have E : m = kk := by rw [KK.out]; omega
        have iz : IntKind.i64.wrap 0 = 0 := by decide
        clear i2
        subst E
        gi_wp2_with fail
        refine ⟨hF.fn _, ?_⟩
        refine (CallsIn.inRound l (hF.calls _ _ _ _ _ (extendedG_calls w6.heap.size _ HLO.out u out (O1.out.alloc _) hol OK1.out x.1.from_ _ OK2.out))).mono ?_
        rintro e W2 ⟨u2, rfl, ho2, hb2, hg2⟩
        obtain ⟨p2, cp2, rfl, _⟩ := ho2.form
        have MID := hid (S1.out.mid U1.out O1.out HC.out ho2 hb2 hg2)
        obtain ⟨y0, y1, y2, y3, y4, y5, y6, y7, y8, y9, y10, y11⟩ := MID.out.facts
        clear ho2 hb2 hg2 k0 k3 k4 u0 ul
        gi_wp2
        have OFF := MID.out.off HC.out (.int .i64 0) rfl
        refine ⟨KB1.out.trans OFF.2.2.2.2, rfl, ?_⟩
        refine ⟨_, vals pre, x.1, vals_append _ _, by rw [HFF.out]; exact S1.out.pos.1, ?_, _, OFF.1, OFF.2.1, OFF.2.2.1, OFF.2.2.2.1⟩
        rw [FS.out]; congr 1; omega
      · have E : x.1.to - x.1.from_ + 1 = kk := by rw [KK.out]; omega
        have hx2 : (m < x.1.to - x.1.from_ + 1) = False := by simp only [eq_iff_iff, iff_false]; exact hmin
        clear hmin
        subst E
        gi_wp2_with fail
        refine ⟨hF.fn _, ?_⟩
        refine (CallsIn.inRound l (hF.calls _ _ _ _ _ (extendedG_calls w6.heap.size _ HLO.out u out (O1.out.alloc _) hol OK1.out x.1.from_ _ OK2.out))).mono ?_
        rintro e W2 ⟨u2, rfl, ho2, hb2, hg2⟩
        obtain ⟨p2, cp2, rfl, _⟩ := ho2.form
        have MID := hid (S1.out.mid U1.out O1.out HC.out ho2 hb2 hg2)
        obtain ⟨y0, y1, y2, y3, y4, y5, y6, y7, y8, y9, y10, y11⟩ := MID.out.facts
        clear ho2 hb2 hg2 k0 k3 k4 u0 ul
        by_cases hz : m - (x.1.to - x.1.from_ + 1) = 0
        · have gz : (m - (x.1.to - x.1.from_ + 1) == 0) = true := by simp [hz]
          have HZ := hid hz
          clear hz
          gi_wp2
          have OFF := MID.out.off HC.out (.int .i64 (m - (x.1.to - x.1.from_ + 1))) rfl
          refine ⟨KB1.out.trans OFF.2.2.2.2, rfl, ?_⟩
          refine ⟨_, vals pre, x.1, vals_append _ _, by rw [HFF.out]; exact S1.out.pos.1, ?_, _, OFF.1, OFF.2.1, OFF.2.2.1, OFF.2.2.2.1⟩
          rw [FS.out, HZ.out]
        · have gz : (m - (x.1.to - x.1.from_ + 1) == 0) = false := by simp [hz]
          have ON := hid (MID.out.on HC.out (show 0 < m - (x.1.to - x.1.from_ + 1) ∧ m - (x.1.to - x.1.from_ + 1) ≤ 1000000 by omega) (S1.out.ok.ext OK3.out))
          clear hz
          gi_wp2
          refine ⟨(KB1.out.trans ON.out.2.1), (BB1.out.trans ON.out.2.2), ⟨_, _, FS.out, ON.out.1⟩, ON.out.1.below⟩
    · have he : ∀ w, (Op.equalIn 10000 95 (.agg #[.int .i64 x.1.cell.state, .int .i64 x.1.cell.lot, .int .i64 x.1.cell.owner, .int .i64 x.1.cell.holder]) (.agg #[.int .i64 1, .int .i64 lt, .int .i64 o, .int .i64 0])).run Tryz.prog w = .ok false w := fun w => by
        have := run_eqCell x.1.cell want w
        rw [HWANT.out] at this
        rw [HWANT.out] at hc
        exact this.trans (by simp [hc])
      have FS := hid (show fFold want n (vals (pre ++ [x])) = (out, m) by rw [vals_append, fFold_snoc, HFF.out, fStep, if_neg hc])
      clear hc
      gi_wp2
      exact ⟨(KeepsOthers.refl _).from _, Below.refl _ _, ⟨m, out, FS.out, SX.out⟩, SX.out.below⟩
  case done =>
    rintro D ys W hD hS ⟨⟨m, out, i1, i2⟩, i3⟩ hK
    obtain ⟨k0, k1, k2, k3, f0, f1, f2⟩ := i2.c.facts
    have I1 := hid i1
    have I2 := hid i2
    have I3 := hid i3
    have HK := hid hK
    have HS := hid hS
    have FN := hid (find_none (want := want) (n := n) (l := t.toList) TR.out.fine.sorted.good TR.out.apart (by rw [← VT.out, ← hS, i1]; exact i2.pos.1))
    have f1' := f1 0
    have f2' := f2 0
    clear i1 i2 i3 hK hS f0 f1 f2
    go_wp2
    have k1' := (KeepsOthers.setCell W ⟨w.heap.size + 1, 0, none⟩ (.slice none 0 0)).same D _ HK.out rfl
    have k2' := (KeepsOthers.setCell (W.setCell ⟨w.heap.size + 1, 0, none⟩ (.slice none 0 0)) ⟨w.heap.size + 1 + 1, 0, none⟩ (.int .i64 4)).same D _ k1' rfl
    refine ⟨by simp, .inl ⟨_, _, rfl, run_takeDeferred (b := D) (ds := []) k2', ?_⟩⟩
    have hc1 := (((I2.out.c.c1.set 0 (.slice none 0 0)).set_far (C := w.heap.size + 1 + 1) 0 (.int .i64 4) (by omega)).put (l := D) (o := .deferred (some [])) k2' rfl (.deferred none)).cell 0
    have hc2 := (((I2.out.c.c2.set_far (C := w.heap.size + 1) 0 (.slice none 0 0) (by omega)).set 0 (.int .i64 4)).put (l := D) (o := .deferred (some [])) k2' rfl (.deferred none)).cell 0
    simp at hc1 hc2
    refine ⟨.tuple #[.slice none 0 0, .int .i64 4], by simp [results, Tryz.results16, go_sem, hc1, hc2], ?_⟩
    refine ⟨_, by rw [FN.out.2], by rw [FN.out.1]; exact OwnE.nil _ _, ?_⟩
    have b1 := (I3.out.setCell (p := ⟨w.heap.size + 1, 0, none⟩) (by simp) (.slice none 0 0)).setCell (p := ⟨w.heap.size + 1 + 1, 0, none⟩) (by simp; omega) (.int .i64 4)
    exact b1.trans (belowK_b (w := w) (Nat.le_refl _) _ D _ _ (by have := BW6.out.size; omega) k2' rfl rfl)
  case stop =>
    rintro D k pre W hD hp ⟨rfl, out, pre', p', h1, h2, h3, u, h4, h5, h6, h7⟩ hK
    have HD := hid hK
    have HP := hid hp
    have HQ := hid (And.intro h1 (And.intro h2 h3))
    have H4 := hid h4
    have H5 := hid h5
    have H6 := hid h6
    have H7 := hid h7
    clear hp hK h1 h2 h3 h4 h5 h6 h7
    gi_wp2
    refine ⟨by simp, .inl ⟨_, _, rfl, run_takeDeferred (b := D) (ds := []) HD.out, ?_⟩⟩
    have hc1 := (H4.out.put (l := D) (o := .deferred (some [])) HD.out rfl (.deferred none)).cell 0
    have hc2 := (H5.out.put (l := D) (o := .deferred (some [])) HD.out rfl (.deferred none)).cell 0
    simp at hc1 hc2
    have h6 := OwnS.kept H6.out (grownBy_putObj' W D (.deferred none)) (fun r e => by cases e; exact ⟨_, HD.out, rfl⟩)
    have hpre : pre' ++ [p'] <+: t.toList := by rw [← HQ.out.1, ← VT.out]; exact HP.out
    have fd := find_done (want := want) (n := n) TR.out.fine.sorted.good TR.out.apart hpre HQ.out.2.1 (by rw [← HQ.out.1, HQ.out.2.2])
    rw [← HQ.out.1, HQ.out.2.2] at fd
    refine ⟨.tuple #[u, .int .i64 0], by simp [results, Tryz.results16, go_sem, hc1, hc2], ?_⟩
    refine ⟨u, by rw [fd.2], by rw [fd.1]; exact h6, ?_⟩
    exact H7.out.trans (belowK_b (w := w) (Nat.le_refl _) _ D _ _ (by have := BW6.out.size; omega) HD.out rfl rfl)
set_option maxRecDepth 100000 in
set_option maxHeartbeats 8000000 in
theorem find_bad_calls (w : World) (sB : Nat) (o lt n : Int) (h : (inB 1000 o && (inB 1000000 lt && inB 1000000 n)) = false) :
    Calls Tryz.prog 16 #[.pointer (some ⟨sB, 0, none⟩), .int .i64 o, .int .i64 lt, .int .i64 n] w fun e w' => e = .returned (.tuple #[.slice none 0 0, .int .i64 1]) ∧ Below w.heap.size w w' := by
  obtain ⟨W0, hW0⟩ : ∃ W0, W0 = ((w.alloc (.cells #[.int .i64 n] 3)).alloc (.cells #[.slice none 0 0] 57)).alloc (.cells #[.int .i64 0] 28) := ⟨_, rfl⟩
  have F0 := hid (show FCells w n W0 by rw [hW0]; exact FCells.new w n)
  have hz0 : W0.heap.size = w.heap.size + 1 + 1 + 1 := by rw [hW0]; simp
  have B0 := hid (show Below w.heap.size w W0 by rw [hW0]; exact ((((Below.refl _ _).alloc (Nat.le_refl _) _).alloc (by simp) _).alloc (by simp; omega) _))
  have HZ0 := hid hz0
  have HW0 := hid hW0
  clear hW0 hz0
  obtain ⟨F, hFe⟩ : ∃ F, F = Fence.wide := ⟨_, rfl⟩
  have hF : Free F Tryz.prog := hFe ▸ free_wide _
  have hro : F.round = none := by rw [hFe]; rfl
  have FE := hid hFe
  clear hFe
  refine (callsIn_wide (n := 6)).1 ?_
  rw [← FE.out]
  refine callsIn_of_wp_marks Tryz.func16 rfl (hF.fn _) ?_ hro
  rw [FE.out]
  refine wpIn_wide.2 ?_
  simp only [Tryz.ntmps16, List.size_toArray, List.length_cons, List.length_nil, Nat.reduceAdd, Nat.reduceSub, Array.replicate_succ, Array.replicate_zero, List.push_toArray, List.append_toArray, List.nil_append, List.cons_append]
  cases h1 : inB 1000 o
  · have H1 := hid h1
    clear h h1
    go_wp2_with fail
    rw [← HW0.out]
    refine (are_calls 1000 _ _ [o] (ints_at HZ0.out)).mono ?_
    rintro e w1 ⟨rfl, hb1⟩
    rw [all_one, H1.out]
    have B1 := hid (((Below.refl W0.heap.size W0).alloc (Nat.le_refl _) (.cells #[.int .i64 o] 3)).trans (hb1.mono (by simp)))
    have F1 := hid (F0.out.below B1.out)
    clear hb1
    have FF := F1
    have BW := hid (B0.out.trans (B1.out.mono B0.out.size))
    obtain ⟨k0, k1, k2, k3, f0, f1, f2⟩ := FF.out.facts
    have f1' := f1 0
    have f2' := f2 0
    clear f0 f1 f2
    go_wp2
    have hc1 := ((FF.out.c1.set 0 (.slice none 0 0)).set_far (C := w.heap.size + 1 + 1) 0 (.int .i64 1) (by omega)).cell 0
    have hc2 := ((FF.out.c2.set_far (C := w.heap.size + 1) 0 (.slice none 0 0) (by omega)).set 0 (.int .i64 1)).cell 0
    simp at hc1 hc2
    refine ⟨.tuple #[.slice none 0 0, .int .i64 1], by simp [results, Tryz.results16, go_sem, hc1, hc2], rfl, ?_⟩
    exact (BW.out.setCell (p := ⟨w.heap.size + 1, 0, none⟩) (by simp) _).setCell (p := ⟨w.heap.size + 1 + 1, 0, none⟩) (by simp; omega) _
  · cases h2 : inB 1000000 lt
    · have H1 := hid h1
      have H2 := hid h2
      clear h h1 h2
      go_wp2_with fail
      rw [← HW0.out]
      refine (are_calls 1000 _ _ [o] (ints_at HZ0.out)).mono ?_
      rintro e w1 ⟨rfl, hb1⟩
      rw [all_one, H1.out]
      have B1 := hid (((Below.refl W0.heap.size W0).alloc (Nat.le_refl _) (.cells #[.int .i64 o] 3)).trans (hb1.mono (by simp)))
      have F1 := hid (F0.out.below B1.out)
      clear hb1
      go_wp2_with fail
      refine (are_calls 1000000 _ _ [lt] (ints_one w1 lt _)).mono ?_
      rintro e w2 ⟨rfl, hb2⟩
      rw [all_one, H2.out]
      have B2 := hid (((Below.refl w1.heap.size w1).alloc (Nat.le_refl _) (.cells #[.int .i64 lt] 3)).trans (hb2.mono (by simp)))
      have F2 := hid (F1.out.below B2.out)
      obtain ⟨k0, _, _, l0, _⟩ := F2.out.facts
      clear hb2
      clear k0 l0
      have FF := F2
      have BW := hid (B0.out.trans ((B1.out.trans (B2.out.mono B1.out.size)).mono B0.out.size))
      obtain ⟨k0, k1, k2, k3, f0, f1, f2⟩ := FF.out.facts
      have f1' := f1 0
      have f2' := f2 0
      clear f0 f1 f2
      go_wp2
      have hc1 := ((FF.out.c1.set 0 (.slice none 0 0)).set_far (C := w.heap.size + 1 + 1) 0 (.int .i64 1) (by omega)).cell 0
      have hc2 := ((FF.out.c2.set_far (C := w.heap.size + 1) 0 (.slice none 0 0) (by omega)).set 0 (.int .i64 1)).cell 0
      simp at hc1 hc2
      refine ⟨.tuple #[.slice none 0 0, .int .i64 1], by simp [results, Tryz.results16, go_sem, hc1, hc2], rfl, ?_⟩
      exact (BW.out.setCell (p := ⟨w.heap.size + 1, 0, none⟩) (by simp) _).setCell (p := ⟨w.heap.size + 1 + 1, 0, none⟩) (by simp; omega) _
    · have h3 : inB 1000000 n = false := by rw [h1, h2] at h; simpa using h
      have H1 := hid h1
      have H2 := hid h2
      have H3 := hid h3
      clear h h1 h2 h3
      go_wp2_with fail
      rw [← HW0.out]
      refine (are_calls 1000 _ _ [o] (ints_at HZ0.out)).mono ?_
      rintro e w1 ⟨rfl, hb1⟩
      rw [all_one, H1.out]
      have B1 := hid (((Below.refl W0.heap.size W0).alloc (Nat.le_refl _) (.cells #[.int .i64 o] 3)).trans (hb1.mono (by simp)))
      have F1 := hid (F0.out.below B1.out)
      clear hb1
      go_wp2_with fail
      refine (are_calls 1000000 _ _ [lt] (ints_one w1 lt _)).mono ?_
      rintro e w2 ⟨rfl, hb2⟩
      rw [all_one, H2.out]
      have B2 := hid (((Below.refl w1.heap.size w1).alloc (Nat.le_refl _) (.cells #[.int .i64 lt] 3)).trans (hb2.mono (by simp)))
      have F2 := hid (F1.out.below B2.out)
      obtain ⟨k0, _, _, l0, _⟩ := F2.out.facts
      clear hb2
      go_wp2_with fail
      refine (are_calls 1000000 _ _ [n] (ints_one w2 n _)).mono ?_
      rintro e w3 ⟨rfl, hb3⟩
      rw [all_one, H3.out]
      have B3 := hid (((Below.refl w2.heap.size w2).alloc (Nat.le_refl _) (.cells #[.int .i64 n] 3)).trans (hb3.mono (by simp)))
      have F3 := hid (F2.out.below B3.out)
      clear hb3 k0 l0
      have FF := F3
      have BW := hid (B0.out.trans ((B1.out.trans ((B2.out.trans (B3.out.mono B2.out.size)).mono B1.out.size)).mono B0.out.size))
      obtain ⟨k0, k1, k2, k3, f0, f1, f2⟩ := FF.out.facts
      have f1' := f1 0
      have f2' := f2 0
      clear f0 f1 f2
      go_wp2
      have hc1 := ((FF.out.c1.set 0 (.slice none 0 0)).set_far (C := w.heap.size + 1 + 1) 0 (.int .i64 1) (by omega)).cell 0
      have hc2 := ((FF.out.c2.set_far (C := w.heap.size + 1) 0 (.slice none 0 0) (by omega)).set 0 (.int .i64 1)).cell 0
      simp at hc1 hc2
      refine ⟨.tuple #[.slice none 0 0, .int .i64 1], by simp [results, Tryz.results16, go_sem, hc1, hc2], rfl, ?_⟩
      exact (BW.out.setCell (p := ⟨w.heap.size + 1, 0, none⟩) (by simp) _).setCell (p := ⟨w.heap.size + 1 + 1, 0, none⟩) (by simp; omega) _
theorem Find_calls (w : World) (sB vB : Nat) (vs : List T) (hst : StAt w sB vB vs) (hn : vs.length ≤ 1000) {t : T} (ht : vs.getLast? = some t) (tr : TrOk t) (o lt n : Int) :
    Calls Tryz.prog 16 #[.pointer (some ⟨sB, 0, none⟩), .int .i64 o, .int .i64 lt, .int .i64 n] w fun e w' => ∃ u, e = .returned (.tuple #[u, .int .i64 (findR (inT t) o lt n)]) ∧ OwnE encS 2 56 w.heap.size w' u (findL (inT t) o lt n) ∧ Below w.heap.size w w' := by
  cases h : (inB 1000 o && (inB 1000000 lt && inB 1000000 n))
  · rw [(find_bad h).1, (find_bad h).2]
    refine (find_bad_calls w sB o lt n h).mono ?_
    rintro e w' ⟨he, hb⟩
    exact ⟨_, he, OwnE.nil _ _, hb⟩
  · rw [(find_good h).1, (find_good h).2, (find_inT (want := ⟨1, lt, o, 0⟩) (show (1 : Int) ≠ 0 by decide) t n).1, (find_inT (want := ⟨1, lt, o, 0⟩) (show (1 : Int) ≠ 0 by decide) t n).2]
    simp only [Bool.and_eq_true] at h
    refine find_good_calls w sB vB vs hst hn ht tr o lt n h.1 h.2.1 ?_
    have := h.2.2
    simp only [inB, Bool.and_eq_true, decide_eq_true_eq] at this
    exact this
end Go.Proofs.YtepldjidkomclaaGreat.St
