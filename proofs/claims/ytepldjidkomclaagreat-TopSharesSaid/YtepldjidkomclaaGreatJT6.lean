/- TopShares: the register's contracts by owners; the shares. -/
import Derived.Test.YtepldjidkomclaaGreatJT5
import Derived.Test.YtepldjidkomclaaGreatJADo1
import Derived.Test.YtepldjidkomclaaGreatJAAll
import Derived.Test.YtepldjidkomclaaGreatJAMake2
import Derived.Test.YtepldjidkomclaaGreatJAStk2
import Derived.Test.YtepldjidkomclaaGreatJCLh0
import Derived.Test.YtepldjidkomclaaGreatJCSp5
namespace Go.Proofs.YtepldjidkomclaaGreat
set_option linter.unusedSimpArgs false
set_option linter.unusedVariables false
open Go.RowKit
theorem split_facts {W : List Int} (hw : ∀ x ∈ W, 0 ≤ x ∧ x ≤ 30) (hl : W.length ≤ 10) {n : Int} (hn : 0 ≤ n ∧ n ≤ Ca.sumI W) :
    Ca.splF n W = (Ca.splitL n W, 0) ∧ (∀ k : Nat, 0 ≤ (Ca.splitL n W).getD k 0 ∧ (Ca.splitL n W).getD k 0 ≤ 30) ∧ Ca.sumI (Ca.splitL n W) = n := by
  have hb : 0 ≤ Ca.sumI W := by
    have : ∀ l : List Int, (∀ x ∈ l, 0 ≤ x ∧ x ≤ 30) → 0 ≤ Ca.sumI l := fun l => by
      induction l with
      | nil => intro _; simp [Ca.sumI]
      | cons x l ih =>
        intro h
        have h1 := (h x List.mem_cons_self).1
        have h2 := ih fun y hy => h y (List.mem_cons_of_mem _ hy)
        simp only [Ca.sumI]; omega
    exact this W hw
  refine ⟨?_, ?_, ?_⟩
  · unfold Ca.splF
    rw [if_neg (by omega), if_pos (show Ca.wOk W from fun x hx => ⟨(hw x hx).1, by have := (hw x hx).2; omega⟩), if_pos hn]
  · intro k
    by_cases hk : k < W.length
    · have e : (Ca.splitL n W).getD k 0 = Ca.shareF n W k := by
        rw [List.getD_eq_getElem?_getD, List.getElem?_eq_getElem (by rw [Ca.splitL_len]; exact hk)]
        exact Ca.splitL_get n W k _
      rw [e]
      by_cases hS : Ca.sumI W = 0
      · unfold Ca.shareF; rw [if_pos hS]; omega
      · have h := Ca.share_le (t := n) (l := W) hn (fun x hx => (hw x hx).1) (by omega) hk
        have hm := (hw _ (List.getElem_mem hk)).2
        rw [List.getD_eq_getElem?_getD, List.getElem?_eq_getElem hk] at h
        simp only [Option.getD_some] at h
        omega
    · have : (Ca.splitL n W)[k]? = none := List.getElem?_eq_none (by rw [Ca.splitL_len]; omega)
      rw [List.getD_eq_getElem?_getD, this]; simp
  · by_cases hS : Ca.sumI W = 0
    · rw [Ca.splitL_zero hS]
      have z : ∀ m : Nat, Ca.sumI (List.replicate m 0) = 0 := fun m => by
        induction m with
        | zero => rfl
        | succ m ih => rw [List.replicate_succ]; simp only [Ca.sumI, ih]; omega
      rw [z]; omega
    · exact Ca.splitL_sum (by omega)
def cumT (sh : List Int) (i : Nat) : Int := Ca.sumI (sh.take i)
theorem cumT_succ {sh : List Int} {i : Nat} (hi : i < sh.length) : cumT sh (i + 1) = cumT sh i + sh.getD i 0 := by
  unfold cumT
  have : sh.take (i + 1) = sh.take i ++ [sh.getD i 0] := by rw [List.take_add_one, List.getElem?_eq_getElem hi, List.getD_eq_getElem?_getD, List.getElem?_eq_getElem hi]; rfl
  rw [this, Ca.sumI_snoc]
theorem cumT_mono {sh : List Int} (hs : ∀ k : Nat, 0 ≤ sh.getD k 0) {i j : Nat} (h : i ≤ j) (hj : j ≤ sh.length) : cumT sh i ≤ cumT sh j := by
  induction j with
  | zero => have : i = 0 := by omega
            subst this; omega
  | succ j ih =>
    by_cases e : i = j + 1
    · subst e; omega
    · have h1 := ih (by omega) (by omega)
      rw [cumT_succ (by omega)]
      have := hs j
      omega
structure OwS (sh : List Int) (i : Nat) (own : Int → Int) : Prop where
  ow : OwT (cumT sh i) own
  top : ∀ j, own j ≤ (i : Int) + 1
  who : ∀ k : Nat, k < i → ∀ j, 1 ≤ j → (own j = (k : Int) + 2 ↔ cumT sh k < j ∧ j ≤ cumT sh (k + 1))
theorem OwS.start (sh : List Int) : OwS sh 0 (fun _ => 1) := by
  have e : cumT sh 0 = 0 := by unfold cumT; rw [List.take_zero]; rfl
  exact ⟨⟨by omega, fun _ _ => rfl, fun j h1 h2 => by omega⟩, fun _ => by omega, fun k hk => absurd hk (Nat.not_lt_zero k)⟩
theorem OwS.skip {sh : List Int} {i : Nat} {own : Int → Int} (o : OwS sh i own) (hi : i < sh.length) (hz : sh.getD i 0 = 0) : OwS sh (i + 1) own := by
  have e : cumT sh (i + 1) = cumT sh i := by rw [cumT_succ hi, hz]; omega
  refine ⟨by rw [e]; exact o.ow, fun j => by have := o.top j; push_cast; omega, fun k hk j hj => ?_⟩
  by_cases h : k = i
  · subst h
    have := o.top j
    rw [e]; omega
  · exact o.who k (by omega) j hj
theorem OwS.next {sh : List Int} {i : Nat} {own : Int → Int} (o : OwS sh i own) (hs : ∀ k : Nat, 0 ≤ sh.getD k 0) (hi : i < sh.length) (hm : 1 ≤ sh.getD i 0) (hcm : cumT sh (i + 1) ≤ 350) : OwS sh (i + 1) (ownM own (cumT sh i) (cumT sh i + sh.getD i 0) ((i : Int) + 2)) := by
  have e : cumT sh (i + 1) = cumT sh i + sh.getD i 0 := cumT_succ hi
  refine ⟨by rw [e]; exact o.ow.next hm (by omega) (by omega), fun j => ?_, fun k hk j hj => ?_⟩
  · have := o.top j
    unfold ownM; split <;> push_cast <;> omega
  · by_cases h : k = i
    · subst h
      have := o.top j
      unfold ownM
      split
      · rename_i c; rw [e]; omega
      · rename_i c; rw [e]; omega
    · have hw := o.who k (by omega) j hj
      have hc := cumT_mono hs (i := k + 1) (j := i) (by omega) (by omega)
      unfold ownM
      split
      · rename_i c
        constructor
        · intro q; omega
        · intro q; omega
      · exact hw
def ShT (w0 : World) (gap : Int) (own : Int → Int) (sB N : Nat) (av : Nat → Prop) (wx : World) : Prop :=
  ∃ vB vs t, St.StAt wx sB vB vs ∧ vs.getLast? = some t ∧ vs.length = N ∧ (∀ t ∈ vs, St.Fine t) ∧ t.Ok ∧ RgT gap own t.toList ∧ w0.heap.size ≤ sB ∧ w0.heap.size ≤ vB ∧ Below w0.heap.size w0 wx ∧ ∀ k, av k → k ≠ sB ∧ k ≠ vB ∧ k < wx.heap.size
theorem ShT.on {w0 : World} {gap : Int} {own : Int → Int} {sB N : Nat} {av : Nat → Prop} {wx wy : World} (h : ShT w0 gap own sB N av wx) (hb : Below wx.heap.size wx wy) : ShT w0 gap own sB N av wy := by
  obtain ⟨vB, vs, t, h1, h2, h3, h4, h5, h6, h7, h8, h9, h10⟩ := h
  exact ⟨vB, vs, t, h1.below hb, h2, h3, h4, h5, h6, h7, h8, h9.trans (hb.mono h9.size), fun k hk => ⟨(h10 k hk).1, (h10 k hk).2.1, by have := (h10 k hk).2.2; have := hb.size; omega⟩⟩
theorem ShT.weak {w0 : World} {gap : Int} {own : Int → Int} {sB N : Nat} {av : Nat → Prop} {wx : World} (h : ShT w0 gap own sB N av wx) : ShT w0 gap own sB N (fun _ => False) wx := by
  obtain ⟨vB, vs, t, h1, h2, h3, h4, h5, h6, h7, h8, h9, _⟩ := h
  exact ⟨vB, vs, t, h1, h2, h3, h4, h5, h6, h7, h8, h9, fun k hk => hk.elim⟩
theorem Turned_below' {sB vB n : Nat} {w w' : World} (h : St.Turned sB vB w w') (h1 : n ≤ sB) (h2 : n ≤ vB) (h3 : n ≤ w.heap.size) : Below n w w' := ⟨h.os, h.tape, h.output, h.size, fun k hk => h.block k (by omega) (by omega) (by omega)⟩
theorem ShT.stepped {w0 : World} {gap : Int} {own' : Int → Int} {sB vB N : Nat} {av : Nat → Prop} {wx : World} {vs : List St.T} {t : St.T} (h1 : St.StAt wx sB vB vs) (h2 : vs.getLast? = some t) (h3 : vs.length = N) (h4 : ∀ t ∈ vs, St.Fine t) (h7 : w0.heap.size ≤ sB) (h8 : w0.heap.size ≤ vB) (h9 : Below w0.heap.size w0 wx) (h10 : ∀ k, av k → k ≠ sB ∧ k ≠ vB ∧ k < wx.heap.size)
    {a c : Int} {g : St.Cl → St.Cl} {e : Ending} {w' : World} (hr : RgT gap own' (St.changedP t.toList a c g)) (h : St.Stepped wx sB vB vs t 0 a c g e w') : e = .returned (.int .i64 0) ∧ ShT w0 gap own' sB (N + 1) av w' ∧ ∀ j, av j → w'.heap[j]? = wx.heap[j]? := by
  obtain ⟨he, _, hs⟩ := h
  obtain ⟨t', uB, s1, s2, s3, s4, s5⟩ := hs rfl
  have hsz := h9.size
  refine ⟨he, ⟨uB, vs ++ [t'], t', s1, by simp, by simp [h3], fun x hx => ?_, s2, by rw [s3]; exact hr, h7, by omega, h9.trans (Turned_below' s5 h7 h8 h9.size), fun k hk => ?_⟩, fun j hj => s5.block j (h10 j hj).2.2 (h10 j hj).1 (h10 j hj).2.1⟩
  · rcases List.mem_append.1 hx with q | q
    · exact h4 x q
    · rw [List.mem_singleton.1 q]; exact St.Fine.of s2 (by rw [s3]; exact hr.tiles)
  · obtain ⟨k1, k2, k3⟩ := h10 k hk
    exact ⟨k1, by rcases s4 with q | q <;> omega, by have := s5.size; omega⟩
theorem ShT.move_calls {w0 : World} {gap : Int} {own own' : Int → Int} {sB N : Nat} {av : Nat → Prop} {wx : World} (h : ShT w0 gap own sB N av wx) (hN : N ≤ 900) {a m k : Int} (hm : ∀ t : St.T, St.Fine t → RgT gap own t.toList → St.moveR t a m 1 k = 0 ∧ RgT gap own' (St.changedP t.toList a m (St.moveG k))) :
    Calls Tryz.prog 17 #[.pointer (some ⟨sB, 0, none⟩), .agg #[.int .i64 a, .int .i64 m], .int .i64 1, .int .i64 k] wx fun e w' => e = .returned (.int .i64 0) ∧ ShT w0 gap own' sB (N + 1) av w' ∧ ∀ j, av j → w'.heap[j]? = wx.heap[j]? := by
  obtain ⟨vB, vs, t, h1, h2, h3, h4, h5, h6, h7, h8, h9, h10⟩ := h
  have hf : St.Fine t := h4 t (List.mem_of_getLast? h2)
  obtain ⟨m1, m2⟩ := hm t hf h6
  have q := St.move_calls wx sB vB vs t h1 (by omega) h2 hf a m 1 k
  rw [m1] at q
  exact q.mono fun e w' hq => ShT.stepped h1 h2 h3 h4 h7 h8 h9 h10 m2 hq
theorem ShT.find_calls {w0 : World} {gap c : Int} {own : Int → Int} {sB N : Nat} {av : Nat → Prop} {wx : World} (h : ShT w0 gap own sB N av wx) (hN : N ≤ 900) (hg : 1 ≤ gap ∧ gap ≤ 100) (o : OwT c own) {m : Int} (hm : 1 ≤ m) (hcm : c + m ≤ 350) :
    Calls Tryz.prog 16 #[.pointer (some ⟨sB, 0, none⟩), .int .i64 1, .int .i64 1, .int .i64 m] wx fun e w' => ∃ gs cap, e = .returned (.tuple #[.slice (some ⟨gs, 0, none⟩) (foundT gap c m).length cap, .int .i64 0]) ∧ ShT w0 gap own sB N (fun k => k = gs) w' ∧ ∀ (r : Nat) (hr : r < (foundT gap c m).length), w'.cell? ⟨gs, r * 2, none⟩ = some (.int .i64 (foundT gap c m)[r].1) ∧ w'.cell? ⟨gs, r * 2 + 1, none⟩ = some (.int .i64 (foundT gap c m)[r].2) := by
  have hh := h
  obtain ⟨vB, vs, t, h1, h2, h3, h4, h5, h6, h7, h8, h9, h10⟩ := h
  have tr := h6.tr h5
  obtain ⟨f1, f2⟩ := find_left hg o h6 hm hcm
  have hl := o.lo
  have hin : (St.inB 1000 1 && (St.inB 1000000 1 && St.inB 1000000 m)) = true := by simp [St.inB]; omega
  have g1 : St.findR (St.inT t) 1 1 m = 0 := by rw [(St.find_good hin).1, (St.find_inT (want := ⟨1, 1, 1, 0⟩) (show (1 : Int) ≠ 0 by decide) t m).2]; exact f2
  have g2 : St.findL (St.inT t) 1 1 m = foundT gap c m := by rw [(St.find_good hin).2, (St.find_inT (want := ⟨1, 1, 1, 0⟩) (show (1 : Int) ≠ 0 by decide) t m).1]; exact f1
  have q := St.Find_calls wx sB vB vs h1 (by omega) h2 tr 1 1 m
  rw [g1, g2] at q
  refine q.mono fun e w' ⟨u, e1, e2, e3⟩ => ?_
  have hlen : 0 < (foundT gap c m).length := by
    unfold foundT
    split
    · split <;> simp
    · simp
  rcases e2.2 with ⟨_, h0⟩ | ⟨gs, cap, cur, rfl, hb, hgs, _⟩
  · omega
  · refine ⟨gs, cap, e1, ?_, fun r hr => ?_⟩
    · obtain ⟨vB', vs', t', k1, k2, k3, k4, k5, k6, k7, k8, k9, _⟩ := hh.on e3
      have hlt := k1.lt
      refine ⟨vB, vs, t, h1.below e3, h2, h3, h4, h5, h6, h7, h8, h9.trans (e3.mono h9.size), fun k hk => ?_⟩
      have l1 := h1.lt
      have l2 := (Array.getElem?_eq_some_iff.1 hgs).1
      exact ⟨by omega, by omega, by omega⟩
    · have flen : (St.flatE St.encS (foundT gap c m)).length = (foundT gap c m).length * 2 := St.flatE_length (enc := St.encS) (sz := 2) (fun _ => rfl) _
      have c0 := World.ownsRow.cellAt e2 (r * 2) (by omega)
      have c1 := World.ownsRow.cellAt e2 (r * 2 + 1) (by omega)
      have g0 := St.flatE_get (enc := St.encS) (sz := 2) (fun _ => rfl) (foundT gap c m) r hr 0 (by omega)
      have g1 := St.flatE_get (enc := St.encS) (sz := 2) (fun _ => rfl) (foundT gap c m) r hr 1 (by omega)
      rw [Nat.add_zero] at g0
      rw [c0, c1, g0, g1]
      exact ⟨rfl, rfl⟩
theorem ShT.ver_calls {w0 : World} {gap : Int} {own : Int → Int} {sB N : Nat} {av : Nat → Prop} {wx : World} (h : ShT w0 gap own sB N av wx) (hN : N ≤ 900) :
    Calls Tryz.prog 19 #[.pointer (some ⟨sB, 0, none⟩)] wx fun e w' => e = .returned (.int .i64 ((N : Int) - 1)) ∧ w' = wx := by
  obtain ⟨vB, vs, t, h1, h2, h3, h4, h5, h6, h7, h8, h9, h10⟩ := h
  obtain ⟨cap, ps, c3, _, _⟩ := h1.at_
  have y : wx.cell? ⟨sB, 0, none⟩ = some (.slice (some ⟨vB, 0, none⟩) N cap) := by rw [St.Cells.cell c3, h3]; rfl
  exact St.version_calls wx sB (.bool true) N cap _ (by omega) y
theorem ShT.count_calls {w0 : World} {gap : Int} {own : Int → Int} {sB N : Nat} {av : Nat → Prop} {wx : World} (h : ShT w0 gap own sB N av wx) (hN : N ≤ 900) (hN0 : 1 ≤ N) (hg : 1 ≤ gap ∧ gap ≤ 100) {k lo hi : Int} (hk : 1 ≤ k ∧ k ≤ 1000) (hlh : 0 ≤ lo ∧ lo ≤ hi ∧ hi ≤ 350) (hw : ∀ j, 1 ≤ j → j ≤ 350 → (own j = k ↔ lo < j ∧ j ≤ hi)) :
    Calls Tryz.prog 18 #[.pointer (some ⟨sB, 0, none⟩), .int .i64 k, .int .i64 ((N : Int) - 1)] wx fun e w' => e = .returned (.tuple #[.int .i64 (hi - lo), .int .i64 0]) ∧ Below wx.heap.size wx w' := by
  obtain ⟨vB, vs, t, h1, h2, h3, h4, h5, h6, h7, h8, h9, h10⟩ := h
  have q := St.Count_calls wx sB vB vs h1 (by omega) h4 k ((N : Int) - 1)
  have e0 : St.atE vs.length ((N : Int) - 1) (St.inB 1000 k) = 0 := by
    unfold St.atE
    rw [if_neg (by omega), if_pos (by simp [St.inB]; omega)]
  have e1 : vs[((N : Int) - 1).toNat]? = some t := by
    rw [List.getLast?_eq_getElem?] at h2
    rw [show ((N : Int) - 1).toNat = vs.length - 1 by omega]
    exact h2
  rw [e0] at q
  unfold St.askL at q
  rw [if_pos rfl, e1, Option.getD_some, St.sumP_all, h6.count hg hlh hw] at q
  exact q
theorem lots_one {t : St.T} (h : t.toList = [St.pc0]) (hf : St.Fine t) : St.enterR t 1 150 1 1 = 0 := by
  unfold St.enterR; rw [St.visL_eq _ _ _ hf.sorted, h]; decide
theorem pc0_tiles : St.Tiles [St.pc0] 1 1000000 := ⟨rfl, by decide, rfl⟩
theorem lots_one_val (n : Int) (h1 : 1 ≤ n) (h2 : n ≤ 1000000) : St.valL (St.changedP [St.pc0] 1 150 (St.enterG 1 1)) n = if n ≤ 150 then ⟨1, 1, 1, 0⟩ else St.cl0 := by
  rw [St.changedP_val _ pc0_tiles (by omega) (by omega) (by omega)]
  have e : St.valL [St.pc0] n = St.cl0 := by
    show (if St.pc0.from_ ≤ n ∧ n ≤ St.pc0.to then St.pc0.cell else _) = St.cl0
    rw [if_pos (show St.pc0.from_ ≤ n ∧ n ≤ St.pc0.to from ⟨h1, h2⟩)]; rfl
  rw [e]
  by_cases c : n ≤ 150
  · rw [if_pos ⟨h1, by omega⟩, if_pos c]; rfl
  · rw [if_neg (by omega), if_neg c]
theorem lots_two {gap : Int} (hg : 1 ≤ gap ∧ gap ≤ 100) {t : St.T} (h : t.toList = St.changedP [St.pc0] 1 150 (St.enterG 1 1)) (hf : St.Fine t) : St.enterR t (151 + gap) 200 1 1 = 0 ∧ RgT gap (fun _ => 1) (St.changedP t.toList (151 + gap) 200 (St.enterG 1 1)) := by
  have ht : St.Tiles t.toList 1 1000000 := by rw [h]; exact St.changedP_tiles _ pc0_tiles (by omega) (by omega) (by omega)
  have hc : St.Canon t.toList := by rw [h]; exact St.changedP_canon _ _ _ trivial
  constructor
  · unfold St.enterR
    rw [if_pos ⟨(St.okSpan_iff _ _).2 (by omega), by simp [St.inB], by simp [St.inB]⟩, St.visL_eq _ _ _ hf.sorted]
    have h1 := St.firstE_at St.enterE ht (a := 151 + gap) (b := 151 + gap + 200 - 1) (by omega) (by omega) (by omega)
    refine first_zero h1 fun n n1 n2 => ?_
    rw [h, lots_one_val n (by omega) (by omega), if_neg (by omega)]
    rfl
  · refine ⟨St.changedP_tiles _ ht (by omega) (by omega) (by omega), St.changedP_canon _ _ _ hc, fun n n1 n2 => ?_⟩
    rw [St.changedP_val _ ht (by omega) (by omega) (by omega), h, lots_one_val n n1 n2]
    unfold valT
    rcases idx_cases gap n with ⟨a1, a2, a3⟩ | ⟨a1, a2, a3, a4⟩ | ⟨a1, a2, a3⟩
    · rw [if_neg (by omega), if_pos a2, a3, if_neg (by omega)]
    · rw [if_pos (by omega), if_neg (show ¬ n ≤ 150 by omega), a4, if_neg (by omega)]
      rfl
    · rw [if_neg (by omega), if_neg (show ¬ n ≤ 150 by omega), a3, if_pos rfl]
end Go.Proofs.YtepldjidkomclaaGreat
