/- New; at. -/
import Derived.Test.YtnnbdjfeagcbdaaChg1
namespace Go.Proofs.Ytnnbdjfeagcbdaa
set_option linter.unusedSimpArgs false
set_option linter.unusedVariables false
open Go.RowKit Go.Shelf
attribute [local go_sem] Oper.semAt_some

def pc0 : Pc := ⟨1, 1000000, ⟨0, 0, 0, 0⟩⟩
set_option maxHeartbeats 1000000 in
theorem New_calls (w : World) : Calls Try.prog 17 #[] w fun e w' => ∃ sB vB t, e = .returned (.pointer (some ⟨sB, 0, none⟩)) ∧ StAt w' sB vB [t] ∧ t.toList = [pc0] ∧ Fine t ∧ w.heap.size ≤ sB ∧ w.heap.size ≤ vB ∧ Below w.heap.size w w' := by
  go_enter Try.func17, Try.ntmps17
  go_wp2_with fail
  refine (node_calls .nil .nil none none pc0 w rfl rfl (by decide) (by decide) (by decide) (by decide)).mono ?_
  rintro e w1 ⟨b, rfl, ht, hb, hlt⟩
  have HT := hid ht
  have HB := hid hb
  clear ht hb
  go_wp2
  go_ret
  have c1 : Cells ((w1.alloc (.cells #[.pointer (some ⟨b, 0, none⟩)] 111)).alloc (.cells #[.slice (some ⟨w1.heap.size, 0, none⟩) 1 1] 121)) (w1.heap.size + 1) #[.slice (some ⟨w1.heap.size, 0, none⟩) 1 1] 121 := by
    have := Cells.new (w1.alloc (.cells #[.pointer (some ⟨b, 0, none⟩)] 111)) #[.slice (some ⟨w1.heap.size, 0, none⟩) 1 1] 121
    rwa [World.size_alloc] at this
  have c2 := (Cells.new w1 #[.pointer (some ⟨b, 0, none⟩)] 111).alloc (.cells #[.slice (some ⟨w1.heap.size, 0, none⟩) 1 1] 121)
  have hs := HB.out.size
  refine ⟨w1.heap.size + 1, w1.heap.size, .node .nil .nil pc0 (max T.nil.tall T.nil.tall + 1), rfl, ⟨by simp, 1, [some ⟨b, 0, none⟩], c1, ⟨rfl, .inr ⟨w1.heap.size, 1, _, rfl, Nat.zero_le _, c2, Nat.le_refl _, by decide, rfl, rfl⟩⟩, ?_⟩, rfl, ⟨⟨trivial, trivial, rfl⟩, ⟨by simp [T.toList], by simp [T.toList, pc0, Pc.Good]⟩, by simp [T.toList]⟩, by omega, hs, ?_⟩
  · intro k hk
    have : k = 0 := by simpa using hk
    subst this
    exact (HT.out.below ((Below.refl _ _).alloc (Nat.le_refl _) _)).below ((Below.refl _ _).alloc (Nat.le_refl _) _)
  · exact HB.out.trans (((Below.refl w1.heap.size w1).alloc (Nat.le_refl _) _).alloc (by simp) _ |>.mono hs)

/-- What a version's lookup comes to. -/
def atE (n : Nat) (v : Int) (ok : Bool) : Int := if v < 0 ∨ (n : Int) ≤ v then 4 else if ok then 0 else 1
set_option maxHeartbeats 1000000 in
theorem at_nil (v : Int) (ok : Bool) (w : World) : Calls Try.prog 65 #[.pointer none, .int .i64 v, .bool ok] w fun e w' => e = .returned (.tuple #[.pointer none, .int .i64 3]) ∧ w' = w := by
  go_enter Try.func65, Try.ntmps65
  go_wp2
  refine bodyPost_ret (v := .tuple #[.pointer none, .int .i64 3]) (by simp [results, Try.results65, go_sem]) rfl ⟨rfl, rfl⟩
set_option maxHeartbeats 2000000 in
theorem at_calls (w : World) (sB vB : Nat) (vs : List T) (hst : StAt w sB vB vs) (hn : vs.length ≤ 1000000) (v : Int) (ok : Bool) :
    Calls Try.prog 65 #[.pointer (some ⟨sB, 0, none⟩), .int .i64 v, .bool ok] w fun e w' => w' = w ∧
      ∃ p, e = .returned (.tuple #[.pointer p, .int .i64 (atE vs.length v ok)]) ∧ (atE vs.length v ok = 0 → TreeAt w p (vs[v.toNat]?.getD .nil)) := by
  obtain ⟨cap, ps, hc, ho, ht⟩ := hst.at_
  have h0 := hc.cell 0
  have hlt := hc.lt
  simp at h0
  obtain ⟨n, hnn⟩ : ∃ n, n = vs.length := ⟨_, rfl⟩
  have HT := hid ht
  have HO := hid ho
  have HN := hid hnn
  rw [← hnn] at h0 hn ⊢
  clear ht ho hc hst hnn
  by_cases h1 : v < 0
  · have e : atE n v ok = 4 := by simp [atE, h1]
    rw [e]
    go_enter Try.func65, Try.ntmps65
    go_wp2
    refine bodyPost_ret (v := .tuple #[.pointer none, .int .i64 4]) (by simp [results, Try.results65, go_sem]) rfl (by first | exact ⟨rfl, none, rfl, fun h => absurd h (by decide)⟩ | exact ⟨rfl, none, rfl⟩)
  · by_cases h2 : (n : Int) ≤ v
    · have e : atE n v ok = 4 := by simp [atE, h2]
      rw [e]
      go_enter Try.func65, Try.ntmps65
      go_wp2
      refine bodyPost_ret (v := .tuple #[.pointer none, .int .i64 4]) (by simp [results, Try.results65, go_sem]) rfl (by first | exact ⟨rfl, none, rfl, fun h => absurd h (by decide)⟩ | exact ⟨rfl, none, rfl⟩)
    · cases ok
      · have e : atE n v false = 1 := by simp [atE, h1, h2]
        rw [e]
        go_enter Try.func65, Try.ntmps65
        go_wp2
        refine bodyPost_ret (v := .tuple #[.pointer none, .int .i64 1]) (by simp [results, Try.results65, go_sem]) rfl (by first | exact ⟨rfl, none, rfl, fun h => absurd h (by decide)⟩ | exact ⟨rfl, none, rfl⟩)
      · have e : atE n v true = 0 := by simp [atE, h1, h2]
        rw [e]
        obtain ⟨k, rfl⟩ : ∃ k : Nat, v = k := ⟨v.toNat, by omega⟩
        have hk : k < n := by omega
        have hl : ps.length = n := by have := HO.out.1; rw [HN.out]; simpa using this
        have hx := HO.out.cells (g := vB) rfl k (.pointer (ps[k]?.getD none)) (by rw [List.getElem?_map, List.getElem?_eq_getElem (by omega)]; rfl)
        have ha : (⟨vB, 0, none⟩ : Addr).add k = ⟨vB, k, none⟩ := by unfold Addr.add; split <;> simp_all
        rw [ha] at hx
        have i1 : (0 : Int) ≤ (k : Int) := by omega
        have i2 : (k : Int) < (n : Int) := by omega
        clear ha hl h1 h2 hk
        go_enter Try.func65, Try.ntmps65
        go_wp2
        refine bodyPost_ret (v := .tuple #[.pointer (ps[k]?.getD none), .int .i64 0]) (by simp [results, Try.results65, go_sem]) rfl ⟨rfl, ps[k]?.getD none, rfl, fun _ => by simpa using HT.out k (by rw [← HN.out]; omega)⟩
end Go.Proofs.Ytnnbdjfeagcbdaa
