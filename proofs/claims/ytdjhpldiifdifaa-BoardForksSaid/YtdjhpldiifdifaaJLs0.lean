/- The law's shows: what both answer. The law's shows: an entry that both have. -/
import Derived.Test.YtdjhpldiifdifaaJQsl
import Derived.Test.YtdjhpldiifdifaaJOrd
import Derived.Test.YtdjhpldiifdifaaJGet2
namespace Go.Proofs.Ytdjhpldiifdifaa
set_option linter.unusedSimpArgs false
set_option linter.unusedVariables false
open Go.RowKit Go.Shelf

theorem stops_nums {S : Bd} {x : Rb} (hS : BdOk S) (hR : Rel S x) : NumsR true x.L (S.wait.map En.n) := by
  obtain ⟨A, B, W, k⟩ := hR
  refine ⟨?_, fun n => ?_⟩
  · exact List.pairwise_map.2 hS.rise
  · rw [← k.w, List.map_map]
    constructor
    · intro h
      obtain ⟨y, hy, rfl⟩ := List.mem_map.1 h
      exact ⟨y, k.perm.mem_iff.2 (by simp [hy]), by rw [k.ww y hy]; rfl, rfl⟩
    · rintro ⟨y, hy, hw, rfl⟩
      rcases List.mem_append.1 (k.perm.mem_iff.1 hy) with h | h
      · rw [(k.a.w y h).1] at hw; cases hw
      · rcases List.mem_append.1 h with h | h
        · rw [(k.b.w y h).1] at hw; cases hw
        · exact List.mem_map.2 ⟨y, h, rfl⟩
theorem orders_nums {S : Bd} {x : Rb} (hR : Rel S x) {T : List Int} (hT : Risen (S.live.map En.n) T) : NumsR false x.L T := by
  refine ⟨hT.rise, fun n => ?_⟩
  rw [hT.perm.mem_iff]
  constructor
  · intro h
    obtain ⟨e, he, rfl⟩ := List.mem_map.1 h
    obtain ⟨y, hy, rfl⟩ := List.mem_map.1 (hR.live.mem_iff.2 he)
    exact ⟨y, hy, by simp, rfl⟩
  · rintro ⟨y, hy, _, rfl⟩
    exact List.mem_map.2 ⟨y.en, hR.live.mem_iff.1 (List.mem_map.2 ⟨y, hy, rfl⟩), rfl⟩
theorem rel_pos {S : Bd} {x : Rb} (hS : BdOk S) (hR : Rel S x) : ∀ y ∈ x.L, 1 ≤ y.n := by
  intro y hy
  have h := hR.live.mem_iff.1 (List.mem_map.2 ⟨y, hy, rfl⟩)
  exact (live_ok hS h).1.1
/-- Stops and Numbers of the waiting. -/
theorem stops_both {q : Nat} {w : World} {b : Nat} {O : Nat → Nat} {G : Mm} {N : Nat} {last : Int} {vx : Value} {x : Rb} {i : Nat} (k : LkS q w b O G N last vx x i) :
    ∃ T : List Int, T.length ≤ 4096 ∧ (∀ (w' : World) (_ : Below w.heap.size w w'), Calls Try.prog 34 #[pt b] w' (fun e w'' => ∃ u, e = .returned u ∧ RowI 0 w'' u T ∧ Below w'.heap.size w' w'')) ∧
      ∀ (w' : World) (_ : Below w.heap.size w w'), Calls Try.prog 64 #[rbV vx x.nums x.turn x.paid, .bool true] w' (fun e w'' => ∃ u, e = .returned u ∧ RowI 0 w'' u T ∧ Below w'.heap.size w' w'') := by
  have hlen := k.len
  have hT : (G.wt.map fun E => (G.en E).n).length ≤ 4096 := by
    have h2 := k.bd.few
    rw [List.length_map]
    unfold Mm.live at h2
    simp only [List.length_append] at h2
    omega
  refine ⟨G.wt.map fun E => (G.en E).n, hT, fun w' hb => ?_, fun w' hb => ?_⟩
  · refine (stopsList_calls (k.grow hb).bd).mono ?_
    rintro e w'' ⟨u, rfl, h1, h2⟩
    exact ⟨u, rfl, h1.mono (Nat.zero_le _), h2⟩
  · have hN := stops_nums k.bd.ok k.rel
    have e : (G.bd N last).wait.map En.n = G.wt.map fun E => (G.en E).n := by
      show (G.wt.map G.en).map En.n = _
      rw [List.map_map]; rfl
    rw [e] at hN
    refine (numbers_rcalls w' (OwnE.below k.row hb) (by omega) x.nums x.turn x.paid true hN (rel_pos k.bd.ok k.rel) (by omega)).mono ?_
    rintro e w'' ⟨u, rfl, h1, h2⟩
    exact ⟨u, rfl, h1.mono (Nat.zero_le _), h2⟩
/-- Numbers, rising, are one list alone. -/
theorem rise_unique : ∀ {a c : List Int}, a.Pairwise (· < ·) → c.Pairwise (· < ·) → a.Perm c → a = c := by
  intro a c h1 h2 hp
  exact hp.eq_of_pairwise (le := (· < ·)) (fun x y _ _ h3 h4 => by omega) h1 h2
/-- Orders and Numbers of all. -/
theorem orders_both {q : Nat} {w : World} {b : Nat} {O : Nat → Nat} {G : Mm} {N : Nat} {last : Int} {vx : Value} {x : Rb} {i : Nat} (k : LkS q w b O G N last vx x i) :
    ∃ T : List Int, T.length ≤ 4096 ∧ (∀ (w' : World) (_ : Below w.heap.size w w'), Calls Try.prog 31 #[pt b] w' (fun e w'' => ∃ u, e = .returned u ∧ RowI 0 w'' u T ∧ Below w'.heap.size w' w'')) ∧
      ∀ (w' : World) (_ : Below w.heap.size w w'), Calls Try.prog 64 #[rbV vx x.nums x.turn x.paid, .bool false] w' (fun e w'' => ∃ u, e = .returned u ∧ RowI 0 w'' u T ∧ Below w'.heap.size w' w'') := by
  have hlen := k.len
  have hnn : (G.live.map fun E => (G.en E).n).Nodup := by
    have := k.bd.ok.once
    rw [Mm.bd_live] at this
    simpa [numsL, Function.comp_def] using this
  obtain ⟨T, hT⟩ : ∃ T, Risen (G.live.map fun E => (G.en E).n) T := ⟨_, risen_sort (List.Perm.refl _) hnn⟩
  have hTl : T.length ≤ 4096 := by
    have := k.bd.few
    rw [hT.perm.length_eq, List.length_map]
    exact this
  refine ⟨T, hTl, fun w' hb => ?_, fun w' hb => ?_⟩
  · refine (orders_calls (k.grow hb).bd).mono ?_
    rintro e w'' ⟨u, T', rfl, h1, h3, h2⟩
    have e : T' = T := rise_unique h3.rise hT.rise (h3.perm.trans hT.perm.symm)
    rw [e] at h1
    exact ⟨u, rfl, h1.mono (Nat.zero_le _), h2⟩
  · have hT2 : Risen ((G.bd N last).live.map En.n) T := by
      rw [Mm.bd_live, List.map_map]
      exact hT
    refine (numbers_rcalls w' (OwnE.below k.row hb) (by omega) x.nums x.turn x.paid false (orders_nums k.rel hT2) (rel_pos k.bd.ok k.rel) (by omega)).mono ?_
    rintro e w'' ⟨u, rfl, h1, h2⟩
    exact ⟨u, rfl, h1.mono (Nat.zero_le _), h2⟩
/-- Last and what was paid. -/
theorem last_both {q : Nat} {w : World} {b : Nat} {O : Nat → Nat} {G : Mm} {N : Nat} {last : Int} {vx : Value} {x : Rb} {i : Nat} (k : LkS q w b O G N last vx x i) : x.paid = last ∧ ∀ (w' : World) (_ : Below w.heap.size w w'), Calls Try.prog 37 #[pt b] w' (fun e w'' => e = .returned (.int .i64 last) ∧ w'' = w') := by
  refine ⟨?_, fun w' hb => last_calls (k.grow hb).bd.top⟩
  obtain ⟨_, _, _, kk⟩ := k.rel
  exact kk.paid
end Go.Proofs.Ytdjhpldiifdifaa
namespace Go.Proofs.Ytdjhpldiifdifaa
set_option linter.unusedSimpArgs false
set_option linter.unusedVariables false
open Go.RowKit Go.Shelf

theorem get_entry {q : Nat} {w : World} {b : Nat} {O : Nat → Nat} {G : Mm} {N : Nat} {last : Int} {vx : Value} {x : Rb} {i : Nat} (k : LkS q w b O G N last vx x i) {j : Nat} (hj : j < x.L.length) :
    Calls Try.prog 18 #[pt b, .int .i64 x.L[j].n] w fun e w' => e = .returned (.tuple #[statA x.L[j].o x.L[j].l x.L[j].h x.L[j].w, .int .i64 0]) ∧ Below w.heap.size w w' := by
  have hlive := k.rel.live
  rw [Mm.bd_live] at hlive
  obtain ⟨E0, hE0, e0⟩ := List.mem_map.1 (hlive.mem_iff.1 (List.mem_map.2 ⟨x.L[j], List.getElem_mem hj, rfl⟩))
  rcases find_link k x.L[j].n with ⟨h1, _⟩ | ⟨E, hE, hEn, j', hj', f1, f2, f3, f4⟩
  · exact absurd (List.mem_map.2 ⟨E0, hE0, by show (G.en E0).n = _; rw [e0]; rfl⟩) h1
  · have hjj : j' = j := by
      have ho := k.rel.once k.bd.ok
      have e1 : (x.L.map Rn.n)[j']'(by simpa using hj') = (x.L.map Rn.n)[j]'(by simpa using hj) := by simp [f2]
      rcases Nat.lt_trichotomy j' j with h | h | h
      · exact absurd e1 (List.pairwise_iff_getElem.1 ho j' j (by simpa using hj') (by simpa using hj) h)
      · exact h
      · exact absurd e1.symm (List.pairwise_iff_getElem.1 ho j j' (by simpa using hj) (by simpa using hj') h)
    subst hjj
    have hg := get_found k.bd hE
    rw [hEn] at hg
    refine hg.mono ?_
    rintro e w' ⟨hb, wts, hw, rfl⟩
    have hww : wts = x.L[j'].w := by
      cases h1 : wts <;> cases h2 : x.L[j'].w <;> simp_all
    rw [hww, ← f3]
    exact ⟨rfl, hb⟩
end Go.Proofs.Ytdjhpldiifdifaa
