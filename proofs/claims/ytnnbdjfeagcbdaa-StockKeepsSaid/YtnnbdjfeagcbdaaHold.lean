/- span, holds: pieces as holds. -/
import Derived.Test.YtnnbdjfeagcbdaaAll
namespace Go.Proofs.Ytnnbdjfeagcbdaa
set_option linter.unusedSimpArgs false
set_option linter.unusedVariables false
open Go.RowKit Go.Shelf
attribute [local go_sem] Oper.semAt_some
attribute [local go_sem ↓] Go.wp_at_zero Go.wp_at_succ

def encP (p : Pc) : List Value := p.vals.toList
theorem encP_len (p : Pc) : (encP p).length = 6 := rfl
theorem flatP_eq (l : List Pc) : flatP l = flatE encP l := rfl
theorem PcsAt.own {B : Nat} {w : World} {v : Value} {l : List Pc} (h : PcsAt B w v l) : OwnE encP 6 118 B w v l := h
/-- A piece as a hold. -/
def encH (p : Pc) : List Value := [.int .i64 p.from_, .int .i64 (p.to - p.from_ + 1), .int .i64 p.cell.lot, .int .i64 p.cell.owner, .int .i64 p.cell.holder]
theorem encH_len (p : Pc) : (encH p).length = 5 := rfl
theorem info_hold : (Try.prog.info? 50).map (fun i => (i.zero, i.size, i.bytes)) = some (some (.agg #[.int .i64 0, .int .i64 0, .int .i64 0, .int .i64 0, .int .i64 0]), 5, 40) := by kernel_rfl
theorem under_holds : Try.prog.underlying 44 = some (.slice 50) := by kernel_rfl

set_option maxRecDepth 100000 in
set_option maxHeartbeats 1000000 in
theorem span_calls (p : Pc) (hp : p.Good) (w : World) : Calls Try.prog 86 #[p.val] w fun e w' => e = .returned (.agg #[.int .i64 p.from_, .int .i64 (p.to - p.from_ + 1)]) ∧ Below w.heap.size w w' := by
  simp only [Pc.Good] at hp
  have hw1 : IntKind.i64.wrap (p.to - p.from_) = p.to - p.from_ := IntWalk.i64_in _ (by omega)
  have hw2 : IntKind.i64.wrap (p.to - p.from_ + 1) = p.to - p.from_ + 1 := IntWalk.i64_in _ (by omega)
  have l1 : w.heap.size < w.heap.size + 1 + 1 := by omega
  go_enter Try.func86, Try.ntmps86
  go_wp2
  refine bodyPost_ret (v := .agg #[.int .i64 p.from_, .int .i64 (p.to - p.from_ + 1)]) (by simp [results, Try.results86, go_sem]) rfl ⟨rfl, ?_⟩
  repeat (first | exact Below.refl _ _ | refine Below.setCell ?_ (by simp; try omega) _ | refine Below.alloc ?_ (by simp; try omega) _)

set_option maxRecDepth 100000 in
set_option maxHeartbeats 2000000 in
theorem holds_calls (w : World) (v : Value) (l : List Pc) (hv : ReadsE encP 6 w v l) (hl : l.length ≤ 10000000) (hg : ∀ p ∈ l, p.Good) :
    Calls Try.prog 66 #[v] w fun e w' => ∃ u, e = .returned u ∧ OwnE encH 5 50 w.heap.size w' u l ∧ Below w.heap.size w w' := by
  obtain ⟨i0, hi, hz0, hz1, hz2⟩ := info_parts info_hold
  obtain ⟨hm, p, cap, b, off, rfl, hp, hc⟩ := hv
  obtain ⟨n, hn⟩ : ∃ n, n = l.length := ⟨_, rfl⟩
  rw [← hn] at hp hl hm ⊢
  have HP := hid hp
  have HC := hid hc
  have HG := hid hg
  have HN := hid hn
  clear hp hc hg hn
  go_enter Try.func66, Try.ntmps66
  go_wp2
  go_loopw [3, 8] (fun u i wr => ∃ k : Nat, k ≤ n ∧ i = .int .i64 k ∧ OwnE encH 5 50 w.heap.size wr u (l.take k) ∧ Below w.heap.size w wr) (fun _ i _ => n - (intOf i).toNat)
  case atStart => exact ⟨0, Nat.zero_le _, rfl, OwnE.nil _ _, Below.refl _ _⟩
  case round =>
    obtain ⟨k, hk, rfl, ho, hb⟩ := hrel
    have HB := hid hb
    by_cases hlk : k < n
    · obtain ⟨rfl, hbl⟩ := HP.out (by omega)
      have hkl : k < l.length := by rw [← HN.out]; exact hlk
      obtain ⟨q, hq⟩ : ∃ q, q = l[k] := ⟨_, rfl⟩
      have hqg : q.Good := HG.out q (by rw [hq]; exact List.getElem_mem hkl)
      have key : ∀ j, j < 6 → wr.cell? ⟨b, off + k * 6 + j, none⟩ = (encP q)[j]? := fun j hj => by rw [hq]; exact (hb.cell (p := ⟨b, off + k * 6 + j, none⟩) hbl).trans (HC.out k hkl j hj)
      have c0 := key 0 (by omega)
      have c1 := key 1 (by omega)
      have c2 := key 2 (by omega)
      have c3 := key 3 (by omega)
      have c4 := key 4 (by omega)
      have c5 := key 5 (by omega)
      simp [encP] at c0 c1 c2 c3 c4 c5
      have HQ := hid hq
      have HO := hid ho
      have hlt : (l.take k).length = k := by rw [List.length_take]; omega
      have h64 : IntKind.i64.wrap ((k : Int) + 1) = (k : Int) + 1 := IntWalk.i64_in _ (by omega)
      have HO := hid (show wr.ownsRow w.heap.size 50 5 u3 k (flatE encH (l.take k)) by have := ho; unfold OwnE at this; rwa [hlt] at this)
      have HE := hid (show flatE encH (l.take (k + 1)) = flatE encH (l.take k) ++ encH q by rw [List.take_succ_eq_append_getElem hkl, flatE_snoc, hq])
      have l1 : wr.heap.size < wr.heap.size + 1 := by omega
      clear key hq ho hb hlt
      have HOW := hid (fun (w1 : World) (hb1 : Below (wr.alloc (.cells q.vals 118)).drew.heap.size (wr.alloc (.cells q.vals 118)).drew w1) => World.ownsRow.alloc (ownsRow_moved HO.out fun b cs _ hb' => (hb1.block b (by have := (Array.getElem?_eq_some_iff.1 hb').1; simp; omega)).trans (Below.heap_alloc wr _ b (Array.getElem?_eq_some_iff.1 hb').1)) (.cells #[.int .i64 q.from_, .int .i64 (q.to - q.from_ + 1), .int .i64 q.cell.lot, .int .i64 q.cell.owner, .int .i64 q.cell.holder] 50))
      have hb63 : k + 1 ≤ maxLen := by unfold maxLen; omega
      have hb47 : (k + 1) * 40 ≤ 140737488355328 := by omega
      have hwl : w.heap.size ≤ wr.heap.size := HB.out.size
      have hne : u3.ownBlock ≠ some wr.heap.size := fun e => by have := (World.ownsRow.lt HO.out _ e).2; omega
      go_wp2
      go_region_held3 (fun w' => w'.cell? ⟨wr.heap.size, 0, none⟩ = some (.int .i64 q.from_) ∧ w'.cell? ⟨wr.heap.size, 1, none⟩ = some (.int .i64 q.to) ∧ w'.cell? ⟨wr.heap.size, 2, none⟩ = some (.int .i64 q.cell.state) ∧ w'.cell? ⟨wr.heap.size, 3, none⟩ = some (.int .i64 q.cell.lot) ∧ w'.cell? ⟨wr.heap.size, 4, none⟩ = some (.int .i64 q.cell.owner) ∧ w'.cell? ⟨wr.heap.size, 5, none⟩ = some (.int .i64 q.cell.holder))
        (first
          | go_keep
          | (go_split_ands
             refine ⟨?_, ?_, ?_, ?_, ?_, ?_⟩
             all_goals (rw [hgr.cell_far _ (by simp; omega) (Ne.symm hne)]; assumption)))
        (first
          | ((with_reducible refine (span_calls q hqg _).mono ?_); rintro e w1 ⟨rfl, hb1⟩; obtain ⟨hc1, hf1⟩ := bcell hb1; have lo1 : wr.heap.size < w1.heap.size := (by have := hb1.size; (try simp at this); omega))
          | (refine step_append_lies _ (by rfl) _ _ _ (by rfl) w.heap.size 50 i0 _ 5 40 under_holds hi hz0 hz1 hz2 rfl (by omega) u3 k (flatE encH (l.take k)) (by rfl) (HOW.out w1 hb1) ⟨w1.heap.size, 0, none⟩ 1 1 (encH q) (by rfl) (by rfl) (news_of (Cells.new w1 _ _)) (by simp [Value.oneCell', encH]) (by omega) hb63 hb47 (by simp; omega) (w1.heap.size + 1) (by simp) ?_; intro g' cap' w3 hown hgr hat hlt3))
      have hb3 : Below w.heap.size w w3 := Below.grown (Below.alloc (((HB.out.alloc hwl _).drew).trans (hb1.mono (by simp; omega))) (by have := hb1.size; simp at this; omega) _) hgr (by simp; omega) (fun r h => (World.ownsRow.lt HO.out r h).1)
      have HB3 := hid hb3
      have HW := hid hown
      clear hb3 hown hgr hat hb1 hc1 hf1 lo1
      go_wp2
      go_roundw
      case rel => exact ⟨k + 1, by omega, by go_num, by unfold OwnE; rw [HE.out, List.length_take, ← HN.out, Nat.min_eq_left (by omega)]; exact HW.out, HB3.out⟩
      case measure => simp [intOf]; omega
    · have hkn : k = n := by omega
      subst hkn
      have HO := hid ho
      clear ho hb
      go_wp2
      go_ret
      exact ⟨_, rfl, by have := HO.out; rwa [List.take_of_length_le (by rw [← HN.out]; exact Nat.le_refl _)] at this, HB.out⟩
end Go.Proofs.Ytnnbdjfeagcbdaa
