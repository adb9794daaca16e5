/- The closure of serve. serve: its state. serve: the walk. What clearing gives, plain. call.cleared. -/
import Derived.Test.YtepldjidkomclaaGreatJCZnw
import Derived.Test.YtepldjidkomclaaGreatJCSp5
import Derived.Test.YtepldjidkomclaaGreatJCCl0
namespace Go.Proofs.YtepldjidkomclaaGreat.Ca
set_option linter.unusedSimpArgs false
set_option linter.unusedVariables false
open Go.RowKit
attribute [local go_sem] Oper.semAt_some
attribute [local go_sem ↓] Go.wp_at_zero Go.wp_at_succ
theorem bAt_get {l : List Bd} {i : Nat} (hi : i < l.length) : bAt l (i : Int) = l[i] := by unfold bAt; simp [hi]
set_option maxRecDepth 100000 in
set_option maxHeartbeats 4000000 in
theorem servec_calls {w : World} {v : Value} {l : List Bd} (hv : ReadsE encBd 3 w v l) (hok : ∀ b ∈ l, b.ok) {lb sb : Nat} {sd : Int} (hb : Cells w lb #[v] 22) (hs : Cells w sb #[.int .i64 sd] 3) {i j : Nat} (hi : i < l.length) (hj : j < l.length) :
    Calls Tryz.prog 100 #[.int .i64 i, .int .i64 j, .pointer (some ⟨sb, 0, none⟩), .pointer (some ⟨lb, 0, none⟩)] w fun e w' => e = .returned (.int .i64 (cfS l sd i j)) ∧ Below w.heap.size w w' := by
  obtain ⟨hm, p, cap, bb, off, rfl, hp, hc⟩ := hv
  obtain ⟨n, hn⟩ : ∃ n, n = l.length := ⟨_, rfl⟩
  obtain ⟨rfl, hbb⟩ := hp (by omega)
  have c0 : w.cell? ⟨lb, 0, none⟩ = some (.slice (some ⟨bb, off, none⟩) n cap) := by rw [hb.cell, hn]; rfl
  have c1 : w.cell? ⟨sb, 0, none⟩ = some (.int .i64 sd) := by rw [hs.cell]; rfl
  have m1 := hc i hi 1 (by omega)
  have m2 := hc j hj 1 (by omega)
  have o1 := hok _ (List.getElem_mem hi)
  have o2 := hok _ (List.getElem_mem hj)
  simp [encBd] at m1 m2
  have q1 := bAt_get hi
  have q2 := bAt_get hj
  unfold cfS pI
  rw [q1, q2]
  obtain ⟨x, hx⟩ : ∃ x, x = l[i].p := ⟨_, rfl⟩
  obtain ⟨y, hy⟩ : ∃ y, y = l[j].p := ⟨_, rfl⟩
  have ox : 1 ≤ x ∧ x ≤ 1000000 := by rw [hx]; exact ⟨o1.2.1, o1.2.2.1⟩
  have oy : 1 ≤ y ∧ y ≤ 1000000 := by rw [hy]; exact ⟨o2.2.1, o2.2.2.1⟩
  rw [← hx] at m1 ⊢
  rw [← hy] at m2 ⊢
  rw [← hn] at hi hj
  have l0 := hb.lt
  have l1 := hs.lt
  have p1 : (i : Int) < (n : Int) := by omega
  have p2 : (j : Int) < (n : Int) := by omega
  have p3 : (0 : Int) ≤ (i : Int) := by omega
  have p4 : (0 : Int) ≤ (j : Int) := by omega
  have e1 : IntKind.i64.wrap (x - y) = x - y := IntWalk.i64_in _ (by omega)
  have e2 : IntKind.i64.wrap (y - x) = y - x := IntWalk.i64_in _ (by omega)
  clear hx hy hb hs hc hp hok q1 q2 o1 o2 hn hm
  by_cases h1 : sd = 1
  · have g1 : (sd == 1) = true := by simpa using h1
    rw [if_pos h1]
    obtain ⟨R, hR⟩ : ∃ R : Ending → World → Prop, R = fun e w' => e = .returned (.int .i64 (y - x)) ∧ Below w.heap.size w w' := ⟨_, rfl⟩
    rw [← hR]
    have FN := hid (show ∀ k, R (.returned (.int .i64 (y - x))) (w.drewN k) from fun k => by rw [hR]; exact ⟨rfl, Below.of_drewN w k⟩)
    clear hR h1
    go_enter Tryz.func100, Tryz.ntmps100
    go_upto_region 3 with fail
    go_region
    all_goals go_wp2
    all_goals first | exact FN.out 1 | (go_ret; exact FN.out 1)
  · have g1 : (sd == 1) = false := by simpa using h1
    rw [if_neg h1]
    obtain ⟨R, hR⟩ : ∃ R : Ending → World → Prop, R = fun e w' => e = .returned (.int .i64 (x - y)) ∧ Below w.heap.size w w' := ⟨_, rfl⟩
    rw [← hR]
    have FN := hid (show ∀ k, R (.returned (.int .i64 (x - y))) (w.drewN k) from fun k => by rw [hR]; exact ⟨rfl, Below.of_drewN w k⟩)
    clear hR h1
    go_enter Tryz.func100, Tryz.ntmps100
    go_upto_region 3 with fail
    go_region
    all_goals go_wp2
    all_goals first | exact FN.out 1 | (go_ret; exact FN.out 1)
theorem cmp_serve {w : World} {v : Value} {l : List Bd} (hv : ReadsE encBd 3 w v l) (hok : ∀ b ∈ l, b.ok) {lb sb g : Nat} {sd : Int} (hb : Cells w lb #[v] 22) (hs : Cells w sb #[.int .i64 sd] 3) {B : Nat} (hB : B ≤ w.heap.size) (hvB : ∀ w', Below B w w' → ReadsE encBd 3 w' v l) (hg : B ≤ g) (h1 : lb ≠ g) (h2 : sb ≠ g) :
    CmpF 100 #[.pointer (some ⟨sb, 0, none⟩), .pointer (some ⟨lb, 0, none⟩)] (cfS l sd) (fun x => 0 ≤ x ∧ x < (l.length : Int)) g w := by
  refine ⟨enters_of Tryz.func100 (by kernel_rfl) rfl, fun w' hk x y hx hy => ?_⟩
  obtain ⟨i, rfl⟩ : ∃ i : Nat, x = i := ⟨x.toNat, by omega⟩
  obtain ⟨j, rfl⟩ : ∃ j : Nat, y = j := ⟨y.toNat, by omega⟩
  exact servec_calls (hvB w' (hk.below hB (fun k hk => by omega))) hok (hb.kept hk h1) (hs.kept hk h2) (by omega) (by omega)
end Go.Proofs.YtepldjidkomclaaGreat.Ca
namespace Go.Proofs.YtepldjidkomclaaGreat.Ca
set_option linter.unusedSimpArgs false
set_option linter.unusedVariables false
open Go.RowKit
abbrev RowN (B : Nat) (w : World) (v : Value) (l : List Int) : Prop := OwnE encI 1 3 B w v l
theorem int_append {B : Nat} {w : World} {v : Value} {l : List Int} (h : RowN B w v l) (hB : B ≤ w.heap.size) {u : Value} {m : List Int} (hu : SrcE encI 1 w u m) (hn : l.length + m.length ≤ 1000000) (ty : TypeId) :
    ∃ v' w', (Builtin.append_ #[47, 47] ty #[v, u]).run Tryz.prog w = .ok v' w' ∧ RowN B w' v' (l ++ m) ∧ Kept (fun k => some k = v.ownBlock) w w' ∧ (v'.ownBlock = v.ownBlock ∨ v'.ownBlock = some w.heap.size) :=
  own_append undIn infoIn rfl (by decide) encI_len encI_one h hB hu (by unfold maxLen; omega) (by omega)
theorem Row.of {B : Nat} {w : World} {g n cap : Nat} {l : List Int} (h : RowN B w (.slice (some ⟨g, 0, none⟩) n cap) l) : Row w g l.length (fun k => l.getD k 0) ∧ n = l.length ∧ n ≤ cap ∧ B ≤ g := by
  obtain ⟨hn, hg, hB, hcell⟩ := OwnE.cellsAt encI_len h
  rcases h.2 with ⟨h1, h2⟩ | ⟨g', cap', cur, hv, hb, hgc, h3, h4, h5, h6⟩
  · cases h1
  · cases hv
    refine ⟨⟨cur, hgc, fun k hk => ?_⟩, hn, by omega, hB⟩
    have := hcell k hk 0 (by omega)
    rw [(show Cells w g cur 3 from hgc).cell] at this
    rw [show k = k * 1 + 0 by omega, this]
    simp [encI, hk]
structure SvS (w : World) (v : Value) (sd : Int) (gf n : Nat) (h : Nat → Int) (wr : World) : Prop where
  lb : Cells wr w.heap.size #[v] 22
  sb : Cells wr (w.heap.size + 1) #[.int .i64 sd] 3
  fills : RowL wr gf n h
  kept : Kept (fun k => k = gf) w wr
  size : w.heap.size + 2 ≤ wr.heap.size
  low : gf < w.heap.size
namespace SvS
variable {w : World} {v : Value} {sd : Int} {gf n : Nat} {h : Nat → Int} {wr : World}
theorem far {X : Nat → Prop} (s : SvS w v sd gf n h wr) {w' : World} (hk : Kept X wr w') (hx : ∀ k, X k → w.heap.size + 2 ≤ k) : SvS w v sd gf n h w' :=
  ⟨s.lb.kept hk (fun q => by have := hx _ q; omega), s.sb.kept hk (fun q => by have := hx _ q; omega), s.fills.kept hk (fun q => by have := hx _ q; have := s.low; omega), s.kept.trans hk (fun k hk q => by have := hx _ q; omega), Nat.le_trans s.size hk.size, s.low⟩
theorem after (s : SvS w v sd gf n h wr) {w' : World} (hb : Below wr.heap.size wr w') : SvS w v sd gf n h w' := s.far (Kept.of_below (X := fun _ => False) hb) (fun _ q => q.elim)
theorem fill (s : SvS w v sd gf n h wr) (i : Nat) (u : Int) : SvS w v sd gf n (fun k => if k = i then u else h k) (wr.setCell ⟨gf, i, none⟩ (.int .i64 u)) := by
  have hl := s.low
  exact ⟨s.lb.kept (set_kept _ _ _ _) (by omega), s.sb.kept (set_kept _ _ _ _) (by omega), s.fills.set i u, s.kept.trans (set_kept _ _ _ _) (fun _ _ e => e), by rw [size_setCell]; exact s.size, hl⟩
theorem reads (s : SvS w v sd gf n h wr) {w0 : World} {l : List Bd} (hv : ReadsE encBd 3 w0 v l) (hb0 : Below w0.heap.size w0 w) (hgf : w0.heap.size ≤ gf) : ReadsE encBd 3 wr v l :=
  hv.below (hb0.trans (s.kept.below hb0.size (fun k hk => by omega)))
end SvS
theorem qs_seg_snoc (l : List Bd) (f : Nat → Int) {a b : Nat} (h : a ≤ b) : qs l (seg f a (b + 1)) = qs l (seg f a b) ++ [qI l (f b)] := by rw [seg_snoc f h, qs_app]; rfl
theorem sum_seg_bound {l : List Bd} (hok : ∀ b ∈ l, b.ok) (f : Nat → Int) (a b : Nat) : 0 ≤ sumI (qs l (seg f a b)) ∧ sumI (qs l (seg f a b)) ≤ 1000000000 * ((b - a : Nat) : Int) := by
  have := sumI_bound (qs_nonneg hok (seg f a b))
  rw [qs_len, seg_len] at this
  exact this
theorem vol_step {l : List Bd} (hok : ∀ b ∈ l, b.ok) {sd x : Int} {f : Nat → Int} {a n : Nat} {v : Int} (p1 : seg f a (a + n) = grp l sd x (pI l (f a))) (p2 : (fore l sd x (pI l (f a))).Perm (seg f 0 a)) :
    gotG l sd x v (pI l (f a)) = min (sumI (qs l (seg f a (a + n)))) (volF l f v a) ∧ volF l f v (a + n) = volF l f v a - min (sumI (qs l (seg f a (a + n)))) (volF l f v a) := by
  have e2 : sumI (qs l (fore l sd x (pI l (f a)))) = sumI (qs l (seg f 0 a)) := sumI_perm (p2.map _)
  have e3 : sumI (qs l (seg f 0 (a + n))) = sumI (qs l (seg f 0 a)) + sumI (qs l (seg f a (a + n))) := by
    rw [seg_split f (Nat.zero_le a) (show a ≤ a + n by omega), qs_app, sumI_app]
  have h1 := (sum_seg_bound hok f a (a + n)).1
  unfold gotG volF
  rw [e2, e3, p1]
  rw [p1] at h1
  constructor
  · rfl
  · omega
theorem RowL.congr {w : World} {g n : Nat} {f f' : Nat → Int} (h : RowL w g n f) (e : ∀ i, i < n → f' i = f i) : RowL w g n f' := by
  obtain ⟨cs, hc, hs, hz⟩ := h
  exact ⟨cs, hc, hs, fun i hi => by rw [e i hi]; exact hz i hi⟩
theorem Ord.bid {l : List Bd} {sd x : Int} {f : Nat → Int} {L k : Nat} (o : Ord l sd x f L) (hk : k < L) : ∃ j : Nat, f k = (j : Int) ∧ j < l.length := by
  have h := o.at_ hk
  exact ⟨(f k).toNat, by omega, by omega⟩
theorem cell_kept {X : Nat → Prop} {w w' : World} (hk : Kept X w w') {b : Nat} (hb : b < w.heap.size) (hx : ¬ X b) (j : Nat) : w'.cell? ⟨b, j, none⟩ = w.cell? ⟨b, j, none⟩ := by
  simp [World.cell?, World.cells?, hk.block b hb hx]
end Go.Proofs.YtepldjidkomclaaGreat.Ca
namespace Go.Proofs.YtepldjidkomclaaGreat.Ca
set_option linter.unusedSimpArgs false
set_option linter.unusedVariables false
open Go.RowKit
attribute [local go_sem] Oper.semAt_some
attribute [local go_sem ↓] Go.wp_at_zero Go.wp_at_succ
set_option maxRecDepth 100000 in
set_option maxHeartbeats 8000000 in
theorem serve_calls {w0 w : World} {v : Value} {l : List Bd} (hv : ReadsE encBd 3 w0 v l) (hb0 : Below w0.heap.size w0 w) (hl : l.length ≤ 4096) (hok : ∀ b ∈ l, b.ok) {sd x vol rule : Int} (hvol : 0 ≤ vol ∧ vol ≤ 5000000000000) {gf : Nat} {h0 : Nat → Int} (hf : RowL w gf l.length h0) (hgf : w0.heap.size ≤ gf) (hne : ids l sd x ≠ []) (hz : ∀ i : Nat, i < l.length → part sd x (bAt l i) = true → h0 i = 0) :
    Calls Tryz.prog 73 #[v, .int .i64 sd, .int .i64 x, .int .i64 vol, .int .i64 rule, .slice (some ⟨gf, 0, none⟩) l.length l.length] w fun e w' => e = .returned (.tuple #[]) ∧ RowL w' gf l.length (servedF l sd x vol rule h0) ∧ Kept (fun k => k = gf) w w' := by
  obtain ⟨R, hR⟩ : ∃ R : Ending → World → Prop, R = fun e w' => e = .returned (.tuple #[]) ∧ RowL w' gf l.length (servedF l sd x vol rule h0) ∧ Kept (fun k => k = gf) w w' := ⟨_, rfl⟩
  rw [← hR]
  have HR := hid hR
  have HVV := hid hv
  have HB0 := hid hb0
  obtain ⟨hm, p, cap, bb, off, rfl, hp, hc⟩ := hv
  obtain ⟨n, hn⟩ : ∃ n, n = l.length := ⟨_, rfl⟩
  rw [← hn] at hp hm hl hf HVV ⊢
  have HN := hid hn
  have HP := hid hp
  have HC := hid hc
  have HOK := hid hok
  have HNE := hid hne
  have HZ := hid hz
  have HVOL := hid hvol
  have hlow := hf.lt
  have S0 := hid (show ∀ wx, wx = ((w.alloc (.cells #[.slice p n cap] 22)).alloc (.cells #[.int .i64 sd] 3)) → SvS w (.slice p n cap) sd gf n h0 wx by
    rintro wx rfl
    have a1 := Cells.new w #[.slice p n cap] 22
    have a2 := Cells.new (w.alloc (.cells #[.slice p n cap] 22)) #[.int .i64 sd] 3
    rw [World.size_alloc] at a2
    have ka : ∀ (w : World) (o : Obj), Kept (fun _ => False) w (w.alloc o) := fun w o => (Kept.refl _ _).alloc _
    exact ⟨a1.alloc _, a2, (hf.kept (ka _ _) id).kept (ka _ _) id, ((Kept.refl _ _).alloc _).alloc _, by simp, hlow⟩)
  have TK := hid (fun b wx => takes_calls b x wx)
  clear hR hn hp hc hok hne hz hf hb0 hvol
  go_enter Tryz.func73, Tryz.ntmps73
  go_upto_region 3 with fail
  have S00 := hid (S0.out _ rfl)
  clear S0
  go_loopg [26, 12] n (fun k s26 s12 wr => ∃ i : Nat, i + k = n ∧ s26 = .int .i64 i ∧ SvS w (.slice p n cap) sd gf n h0 wr ∧ RowN (w.heap.size + 2) wr s12 (idsTo l sd x i))
  case atStart => exact ⟨0, by omega, rfl, S00.out, OwnE.nil _ _⟩
  case round =>
    obtain ⟨i, hik, rfl, ss, rr⟩ := hrel
    have HIK := hid hik
    have SS := hid ss
    have RR := hid rr
    clear hik ss rr S00
    by_cases hin : i < n
    · have hil : i < l.length := by rw [← HN.out]; exact hin
      have hr := SS.out.reads HVV.out HB0.out hgf
      obtain ⟨rfl, hbb⟩ := HP.out (by omega)
      have hbr := (HB0.out.trans (SS.out.kept.below HB0.out.size (fun k hk => by omega)))
      have c0 := (hbr.cell (p := ⟨bb, off + i * 3 + 0, none⟩) hbb).trans (HC.out i hil 0 (by omega))
      have c1 := (hbr.cell (p := ⟨bb, off + i * 3 + 1, none⟩) hbb).trans (HC.out i hil 1 (by omega))
      have c2 := (hbr.cell (p := ⟨bb, off + i * 3 + 2, none⟩) hbb).trans (HC.out i hil 2 (by omega))
      simp [encBd] at c0 c1 c2
      have gi : (i : Int) < (n : Int) := by omega
      have gi0 : (0 : Int) ≤ (i : Int) := by omega
      have hba := bAt_get hil
      have hid1 := idsTo_succ l sd x i
      have hlen := idsTo_len l sd x i
      rw [hba] at hid1
      obtain ⟨b, hx⟩ : ∃ b, b = l[i] := ⟨_, rfl⟩
      rw [← hx] at c0 c1 c2 hid1
      obtain ⟨po, co, hvo, _⟩ := RR.out.form
      obtain ⟨m, hmm⟩ : ∃ m, m = (idsTo l sd x i).length := ⟨_, rfl⟩
      rw [← hmm] at hvo
      subst hvo
      have m1 : wr.cell? ⟨w.heap.size + 1, 0, none⟩ = some (.int .i64 sd) := by rw [SS.out.sb.cell]; rfl
      have m0 : wr.cell? ⟨w.heap.size, 0, none⟩ = some (.slice (some ⟨bb, off, none⟩) n cap) := by rw [SS.out.lb.cell]; rfl
      have ls := SS.out.size
      obtain ⟨wb, hwb⟩ : ∃ wb, wb = wr.alloc (.cells #[.int .i64 b.s, .int .i64 b.p, .int .i64 b.q] 32) := ⟨_, rfl⟩
      have SB := hid (show SvS w (.slice (some ⟨bb, off, none⟩) n cap) sd gf n h0 wb by rw [hwb]; exact SS.out.after ((Below.refl _ _).alloc (Nat.le_refl _) _))
      have RB := hid (show RowN (w.heap.size + 2) wb (.slice po m co) (idsTo l sd x i) by rw [hwb]; exact RR.out.alloc _)
      have cb : Cells wb wr.heap.size #[.int .i64 b.s, .int .i64 b.p, .int .i64 b.q] 32 := by rw [hwb]; exact Cells.new wr _ _
      have hlb := cb.lt
      have k0 : wb.cell? ⟨wr.heap.size, 0, none⟩ = some (.int .i64 b.s) := by rw [cb.cell]; rfl
      have k1 : wb.cell? ⟨wr.heap.size, 1, none⟩ = some (.int .i64 b.p) := by rw [cb.cell]; rfl
      have k2 : wb.cell? ⟨wr.heap.size, 2, none⟩ = some (.int .i64 b.q) := by rw [cb.cell]; rfl
      have n1 : wb.cell? ⟨w.heap.size + 1, 0, none⟩ = some (.int .i64 sd) := by rw [SB.out.sb.cell]; rfl
      have HWB := hid hwb
      have ID := hid hid1
      have hml : m ≤ 4096 := by omega
      have HMM := hid hmm
      clear hx hwb hid1 cb hr hbr hba hmm
      by_cases hs : b.s = sd
      · have e1 : (b.s == sd) = true := by simpa using hs
        obtain ⟨t, ht⟩ : ∃ t, t = b.takes x := ⟨_, rfl⟩
        have TKB := hid (fun wx => TK.out b wx)
        rw [← ht] at TKB
        have HT := hid ht
        clear ht hs
        go_upto_region 5 with fail
        rw [← HWB.out]
        go_wp2_with fail
        refine (TKB.out _).mono ?_
        rintro e w5 ⟨rfl, hb5⟩
        have S5 := hid (SB.out.after hb5)
        have R5 := hid (OwnE.below RB.out hb5)
        have s5 := S5.out.size
        clear hb5
        cases t with
        | true =>
          have ID2 := hid (show idsTo l sd x (i + 1) = idsTo l sd x i ++ [(i : Int)] by rw [ID.out, if_pos (by unfold part; rw [← HT.out]; simpa using e1)])
          have so : SrcE encI 1 (w5.alloc (.cells #[.int .i64 i] 3)) (.slice (some ⟨w5.heap.size, 0, none⟩) 1 1) [(i : Int)] := SrcE.one (Cells.new w5 _ _)
          obtain ⟨v6, w6, r2, r3, k3, _⟩ := int_append (R5.out.alloc (.cells #[.int .i64 i] 3)) (by simp; omega) so (by simp; have := HMM.out; omega) 47
          have R2 := hid r2
          have S6 := hid (show SvS w (.slice (some ⟨bb, off, none⟩) n cap) sd gf n h0 w6 from (S5.out.after ((Below.refl _ _).alloc (Nat.le_refl _) _)).far k3 (fun k hk => by
            rcases R5.out.2 with ⟨q, _⟩ | ⟨g', c', cur, q, hb', _⟩
            · rw [q] at hk; cases hk
            · rw [q] at hk; cases hk; exact hb'))
          have R6 := hid (show RowN (w.heap.size + 2) w6 v6 (idsTo l sd x (i + 1)) by rw [ID2.out]; exact r3)
          clear so r2 k3 r3
          go_wp2_with (at_builtin; refine wpList_append_run rfl (.tmp 40) (.tmp 42) 47 rfl _ _ v6 w6 rfl rfl R2.out ?_)
          go_roundg (n - (i + 1))
          · exact ⟨i + 1, by omega, by go_num, S6.out, R6.out⟩
          · have := HIK.out; omega
        | false =>
          have ID2 := hid (show idsTo l sd x (i + 1) = idsTo l sd x i by rw [ID.out, if_neg (by unfold part; rw [← HT.out]; simp), List.append_nil])
          go_wp2
          go_roundg (n - (i + 1))
          · exact ⟨i + 1, by omega, by go_num, S5.out, by rw [ID2.out]; exact R5.out⟩
          · have := HIK.out; omega
      · have e1 : (b.s == sd) = false := by simpa using hs
        have ID2 := hid (show idsTo l sd x (i + 1) = idsTo l sd x i by rw [ID.out, if_neg (by unfold part; simp [hs]), List.append_nil])
        clear hs
        go_upto_region 5 with fail
        rw [← HWB.out]
        go_wp2
        go_roundg (n - (i + 1))
        · exact ⟨i + 1, by omega, by go_num, SB.out, by rw [ID2.out]; exact RB.out⟩
        · have := HIK.out; omega
    · have hin' : i = n := by have := HIK.out; omega
      subst hin'
      have g1 : decide ((i : Int) < (i : Int)) = false := by simp
      have rr := RR.out
      have hids : idsTo l sd x i = ids l sd x := by unfold ids; rw [← HN.out]
      rw [hids] at rr
      have hidl := idsTo_len l sd x i
      rw [hids] at hidl
      obtain ⟨po, co, hvo, hh⟩ := rr.form
      obtain ⟨L, hL⟩ : ∃ L, L = (ids l sd x).length := ⟨_, rfl⟩
      rw [← hL] at hvo hidl
      rcases hh with ⟨_, h0'⟩ | ⟨g, rfl, hgB, hgl⟩
      · exact absurd h0' HNE.out
      subst hvo
      obtain ⟨row0, hLe, hLc, hgB2⟩ := Row.of rr
      clear hLe
      rw [← hL] at row0
      have hL0 : 0 < L := by rw [hL]; exact List.length_pos_iff.2 HNE.out
      have CM := cmp_serve (sd := sd) (g := g) (SS.out.reads HVV.out HB0.out hgf) HOK.out SS.out.lb SS.out.sb (Nat.le_trans (Nat.le_trans HB0.out.size (Nat.le_add_right _ 2)) SS.out.size) (fun w' hb => HVV.out.below ((HB0.out.trans (SS.out.kept.below HB0.out.size (fun k hk => by omega))).trans hb)) (by have := HB0.out.size; omega) (by omega) (by omega)
      have IB := hid (show ∀ k, k < L → 0 ≤ (ids l sd x).getD k 0 ∧ (ids l sd x).getD k 0 < (l.length : Int) from fun k hk => by
        have hk' : k < (ids l sd x).length := by rw [← hL]; exact hk
        have : (ids l sd x).getD k 0 = (ids l sd x)[k] := by simp [hk']
        rw [this]
        have := mem_idsTo.1 (List.getElem_mem hk')
        exact ⟨this.1, this.2.1⟩)
      have II := hid (show ∀ a b, a < b → b < L → (ids l sd x).getD a 0 < (ids l sd x).getD b 0 from fun a b hab hb => by
        have hb' : b < (ids l sd x).length := by rw [← hL]; exact hb
        have ha' : a < (ids l sd x).length := by omega
        have e1 : (ids l sd x).getD a 0 = (ids l sd x)[a] := by simp [ha']
        have e2 : (ids l sd x).getD b 0 = (ids l sd x)[b] := by simp [hb']
        rw [e1, e2]
        exact List.pairwise_iff_getElem.1 (ids_inc l sd x _) a b ha' hb' hab)
      have ST := hid (sortStable_calls row0 (by omega) co CM (swoS l sd) (fun k hk => IB.out k hk) II.out)
      have HL := hid hL
      have HID := hid hidl
      have hgl0 := hgl
      clear CM row0 rr hids hL
      go_wp2_with fail
      refine ST.out.mono ?_
      rintro e w7 ⟨rfl, f, hr7, hg7, hk7⟩
      have S7 := hid (SS.out.far hk7 (fun k hk => by omega))
      have OO := hid (show Ord l sd x f L from ⟨HL.out, hg7⟩)
      have R7 := hid hr7
      clear hr7 hg7 hk7 ST SS RR IB II
      go_wp2_with fail
      go_loopg [12, 3] L (fun k s12 s3 wx => ∃ (r a : Nat) (pa : Option Addr) (ca : Nat) (h : Nat → Int), r = k ∧ a + r = L ∧ s12 = .slice pa r ca ∧ (0 < r → pa = some ⟨g, a, none⟩ ∧ r ≤ ca) ∧ s3 = .int .i64 (volF l f vol a) ∧ Ord.Edge l f L a ∧ Row wx g L f ∧ SvS w (.slice p i cap) sd gf i h wx ∧ Served l sd x vol rule f a h0 h)
      case atStart => exact ⟨L, 0, _, _, h0, rfl, by omega, rfl, fun _ => ⟨rfl, hLc⟩, by unfold volF; rw [seg_empty f (Nat.le_refl 0)]; simp [qs, sumI]; have := HVOL.out; omega, .inl rfl, R7.out, S7.out, Served.start h0⟩
      case round =>
        obtain ⟨r, a, pa, ca, h, hrk, har, rfl, hpa, rfl, he, hro, ss, sv⟩ := hrel
        have HRK := hid hrk
        have HE := hid he
        have RO := hid hro
        have SS := hid ss
        have SV := hid sv
        have HPA := hid hpa
        clear hrk he hro ss sv hpa
        obtain ⟨vv, hvv⟩ : ∃ vv, vv = volF l f vol a := ⟨_, rfl⟩
        rw [← hvv]
        have hvb : 0 ≤ vv ∧ vv ≤ 5000000000000 := by
          have := HVOL.out
          have := (sum_seg_bound HOK.out f 0 a).1
          rw [hvv]; unfold volF; omega
        have FIN := hid (show (a = L ∨ vv ≤ 0) → R (.returned (.tuple #[])) wr from fun hend => by
          rw [HR.out, ← HN.out]
          refine ⟨rfl, SS.out.fills.congr fun k hk => (served_end HOK.out OO.out HE.out (by omega) SV.out HZ.out ?_ k (by rw [← HN.out]; exact hk)).symm, SS.out.kept⟩
          rcases hend with q | q
          · exact .inl q
          · right; rw [hvv] at q; unfold volF at q; omega)
        have HVF := hid hvv
        clear hvv
        by_cases hr0 : r = 0
        · subst hr0
          have FN := hid (FIN.out (.inl (by omega)))
          clear FIN
          go_wp2
          first | exact FN.out | (go_ret; exact FN.out) | (go_end0; exact FN.out)
        · have g2 : (0 : Int) < (r : Int) := by omega
          by_cases hv0 : vv ≤ 0
          · have g3 : ¬ (0 : Int) < vv := by omega
            have FN := hid (FIN.out (.inr hv0))
            clear FIN hv0
            go_wp2
            first | exact FN.out | (go_ret; exact FN.out) | (go_end0; exact FN.out)
          · have g3 : (0 : Int) < vv := by omega
            obtain ⟨rfl, hca⟩ := HPA.out (by omega)
            clear FIN hv0 S7 R7
            go_upto_block 4 with fail
            obtain ⟨w8, rfl⟩ : ∃ w8 : World, w8 = wr := ⟨_, rfl⟩
            obtain ⟨j0, hj0, hj0l⟩ := OO.out.bid (k := a) (by omega)
            have GEO := hid (fun w9 (hb : Below w8.heap.size w8 w9) (k : Nat) (hk : k < L) (j : Nat) (hj : f k = (j : Int)) => show w9.cell? ⟨g, k, none⟩ = some (.int .i64 j) ∧ w9.cell? ⟨w.heap.size, 0, none⟩ = some (.slice p i cap) ∧ p = some ⟨bb, off, none⟩ ∧ w9.cell? ⟨bb, off + j * 3 + 1, none⟩ = some (.int .i64 (pI l (f k))) ∧ w9.cell? ⟨bb, off + j * 3 + 2, none⟩ = some (.int .i64 (qI l (f k))) ∧ (j : Int) < (i : Int) ∧ g < w9.heap.size ∧ w.heap.size < w9.heap.size from by
              have s9 := SS.out.after hb
              have hb9 := HB0.out.trans (s9.kept.below HB0.out.size (fun k hk => by omega))
              have hat := OO.out.at_ hk
              have hjl : j < l.length := by omega
              obtain ⟨rfl, hbb⟩ := HP.out (by omega)
              refine ⟨by have := (RO.out.below hb).cell hk; rwa [hj] at this, by rw [s9.lb.cell]; rfl, rfl, ?_, ?_, by have := HN.out; omega, (RO.out.below hb).lt, by have := s9.size; omega⟩
              · have := (hb9.cell (p := ⟨bb, off + j * 3 + 1, none⟩) hbb).trans (HC.out j hjl 1 (by omega))
                rw [this, hj]; unfold pI; rw [bAt_get hjl]; rfl
              · have := (hb9.cell (p := ⟨bb, off + j * 3 + 2, none⟩) hbb).trans (HC.out j hjl 2 (by omega))
                rw [this, hj]; unfold qI; rw [bAt_get hjl]; rfl)
            go_cut [15] (fun s15 wx => ∃ m : Nat, s15 = .int .i64 m ∧ 0 < m ∧ a + m ≤ L ∧ (∀ k, k < m → pI l (f (a + k)) = pI l (f a)) ∧ Ord.Edge l f L (a + m) ∧ Below w8.heap.size w8 wx)
            case first =>
              go_wp2_with fail
              go_loopg [15] (r - 1) (fun k s15 wx => ∃ m : Nat, m + k = r ∧ s15 = .int .i64 m ∧ 0 < m ∧ (∀ k, k < m → pI l (f (a + k)) = pI l (f a)) ∧ Below w8.heap.size w8 wx)
              case atStart => exact ⟨1, by omega, rfl, by omega, fun k hk => by rw [show k = 0 by omega]; rfl, Below.refl _ _⟩
              case round =>
                obtain ⟨m, hmk, rfl, hm0, hsame, hb9⟩ := hrel
                have HMK := hid hmk
                have HSAME := hid hsame
                have B9 := hid hb9
                clear hmk hsame hb9
                by_cases hmr : m = r
                · subst hmr
                  have g4 : decide ((m : Int) < (m : Int)) = false := by simp
                  have HR2 := hid har
                  clear har
                  go_upto_region 11 with fail
                  go_region
                  all_goals go_wp2
                  all_goals (
                    go_meet
                    exact ⟨m, rfl, hm0, by have := HR2.out; omega, HSAME.out, .inr (.inl HR2.out), B9.out.drew⟩)
                · have hmr2 : m < r := by have := HMK.out; omega
                  have g4 : (m : Int) < (r : Int) := by omega
                  have g5 : (0 : Int) ≤ (m : Int) := by omega
                  obtain ⟨j1, hj1, hj1l⟩ := OO.out.bid (k := a + m) (by omega)
                  have hr4 : r ≤ 4096 := by omega
                  obtain ⟨x1, x2, x3, x4, _, x6, x7, x8⟩ := GEO.out wr B9.out a (by omega) j0 hj0
                  obtain ⟨y1, _, _, y4, _, y6, _, _⟩ := GEO.out wr B9.out (a + m) (by omega) j1 hj1
                  obtain ⟨P0, hP0⟩ : ∃ P0, P0 = pI l (f a) := ⟨_, rfl⟩
                  obtain ⟨P1, hP1⟩ : ∃ P1, P1 = pI l (f (a + m)) := ⟨_, rfl⟩
                  rw [← hP0] at x4
                  rw [← hP1] at y4
                  have HP0 := hid hP0
                  have HP1 := hid hP1
                  have z0 : (0 : Int) ≤ (j0 : Int) := by omega
                  have z1 : (0 : Int) ≤ (j1 : Int) := by omega
                  have HJ0 := hid hj0
                  have HJ1 := hid hj1
                  have HR2 := hid har
                  subst x3
                  clear hP0 hP1 hj0 hj1 har hmr
                  by_cases hpp : P1 = P0
                  · subst hpp
                    have SAME2 := hid (show ∀ k, k < m + 1 → pI l (f (a + k)) = pI l (f a) from fun k hk => by
                      rcases Nat.lt_or_ge k m with q | q
                      · exact HSAME.out k q
                      · rw [show k = m by omega, ← HP1.out, ← HP0.out])
                    go_upto_region 11 with fail
                    go_region
                    all_goals go_wp2
                    all_goals (
                      go_roundg (r - (m + 1))
                      · exact ⟨m + 1, by omega, by go_num, by omega, SAME2.out, B9.out.drew⟩
                      · have := HMK.out; omega)
                  · have g6 : (P1 == P0) = false := by simpa using hpp
                    have EDG := hid (show pI l (f (a + m - 1)) ≠ pI l (f (a + m)) by
                      rw [show a + m - 1 = a + (m - 1) by omega, HSAME.out (m - 1) (by omega), ← HP0.out, ← HP1.out]
                      exact fun e => hpp e.symm)
                    go_upto_region 11 with fail
                    go_region
                    all_goals go_wp2
                    all_goals (
                      go_meet
                      exact ⟨m, rfl, hm0, by have := HR2.out; omega, HSAME.out, .inr (.inr EDG.out), B9.out.drew⟩)
            case rest =>
              obtain ⟨m, rfl, hm0, hmL, hsame, hedge, hb9⟩ := hcut
              obtain ⟨pa1, pa2⟩ := OO.out.parts hm0 hmL HE.out hedge hsame
              obtain ⟨vs1, vs2⟩ := vol_step HOK.out (v := vol) pa1 pa2
              rw [← HVF.out] at vs1 vs2
              have FA := hid (fun (k : Nat) (hk : k < m) => fill_at (v := vol) (rule := rule) OO.out hm0 hmL pa1 hsame hk)
              have HED := hid hedge
              have hsb := sum_seg_bound HOK.out f a (a + m)
              have W := hid (show qs l (seg f a (a + m)) = qs l (seg f a (a + m)) from rfl)
              have VS1 := hid vs1
              have VS2 := hid vs2
              have S9 := hid (SS.out.after hb9)
              have R9 := hid (RO.out.below hb9)
              have B9 := hid hb9
              have hml : m ≤ 4096 := by omega
              have hmk := mk_i64 wc m (by omega)
              have hmr : m ≤ r := by omega
              have hmr0 : (m : Int) ≤ (r : Int) := by omega
              have hm00 : (0 : Int) ≤ (m : Int) := by omega
              clear hsame hedge pa1 pa2 vs1 vs2 hb9
              go_upto_region 16 with fail
              have c9 : Below w8.heap.size w8 (wc.alloc (.cells (madeCells #[.int .i64 0] m) 2)) := B9.out.alloc B9.out.size _
              have W0 := hid (RowL.made wc m)
              have C9 := hid c9
              have hgw : w8.heap.size ≤ wc.heap.size := B9.out.size
              obtain ⟨gw, hgwe⟩ : ∃ gw, gw = wc.heap.size := ⟨_, rfl⟩
              rw [← hgwe] at W0 hgw ⊢
              have hw8 := SS.out.size
              clear c9 hgwe hmk
              go_loopg [85, 17] m (fun k s85 s17 wx => ∃ (c : Nat) (hW : Nat → Int), c + k = m ∧ s85 = .int .i64 c ∧ s17 = .int .i64 (sumI (qs l (seg f a (a + c)))) ∧ RowL wx gw m hW ∧ (∀ k, k < c → hW k = qI l (f (a + k))) ∧ Below w8.heap.size w8 wx)
              case atStart => exact ⟨0, _, by omega, rfl, by rw [seg_empty f (by omega)]; rfl, W0.out, fun k hk => absurd hk (Nat.not_lt_zero k), C9.out⟩
              case round =>
                obtain ⟨c, hW, hck, rfl, rfl, hrw, hlo, hbx⟩ := hrel
                have HCK := hid hck
                have RW := hid hrw
                have HLO := hid hlo
                have BX := hid hbx
                clear hck hrw hlo hbx W0 C9
                by_cases hcm : c < m
                · obtain ⟨j1, hj1, hj1l⟩ := OO.out.bid (k := a + c) (by omega)
                  obtain ⟨qv, hqv⟩ : ∃ qv, qv = qI l (f (a + c)) := ⟨_, rfl⟩
                  have hqb := q_nonneg HOK.out (f (a + c))
                  have hsb2 := sum_seg_bound HOK.out f a (a + c)
                  have hss := qs_seg_snoc l f (a := a) (b := a + c) (by omega)
                  obtain ⟨sm, hsm⟩ : ∃ sm, sm = sumI (qs l (seg f a (a + c))) := ⟨_, rfl⟩
                  have SN := hid (show sumI (qs l (seg f a (a + (c + 1)))) = sm + qv by rw [← Nat.add_assoc, hss, sumI_snoc, ← hsm, ← hqv])
                  rw [← hsm] at hsb2 ⊢
                  rw [← hqv] at hqb
                  have b2 : Below w8.heap.size w8 (wr.setCell ⟨gw, c, none⟩ (.int .i64 qv)) := BX.out.trans ((set_kept _ _ _ _).below BX.out.size (fun k hk => by omega))
                  obtain ⟨x1, x2, x3, _, x4, x6, x7, x8⟩ := GEO.out wr BX.out (a + c) (by omega) j1 hj1
                  obtain ⟨y1, y2, _, _, y4, _, _, _⟩ := GEO.out _ b2 (a + c) (by omega) j1 hj1
                  rw [← hqv] at x4 y4
                  have r1 := RW.out.cell hcm
                  have r2 := RW.out.froz c
                  have r3 := RW.out.lt
                  obtain ⟨u, hu⟩ : ∃ u, u = hW c := ⟨_, rfl⟩
                  rw [← hu] at r1
                  have HQ := hid hqv
                  have B2 := hid b2
                  have RW2 := hid (RW.out.set c qv)
                  have LO2 := hid (show ∀ k, k < c + 1 → (if k = c then qv else hW k) = qI l (f (a + k)) from fun k hk => by
                    by_cases e : k = c
                    · rw [if_pos e, e, HQ.out]
                    · rw [if_neg e]; exact HLO.out k (by omega))
                  have ew : IntKind.i64.wrap (sm + qv) = sm + qv := IntWalk.i64_in _ (by omega)
                  have g4 : (c : Int) < (m : Int) := by omega
                  have g5 : (0 : Int) ≤ (c : Int) := by omega
                  have z1 : (0 : Int) ≤ (j1 : Int) := by omega
                  have HJ1 := hid hj1
                  subst x3
                  clear hqv hsm hss hu b2 hj1
                  go_wp2
                  go_roundg (m - (c + 1))
                  · exact ⟨c + 1, _, by omega, by go_num, by rw [SN.out], RW2.out, LO2.out, B2.out⟩
                  · have := HCK.out; omega
                · have hcm2 : c = m := by have := HCK.out; omega
                  subst hcm2
                  have g4 : decide ((c : Int) < (c : Int)) = false := by simp
                  obtain ⟨W, hW0⟩ : ∃ W, W = qs l (seg f a (a + c)) := ⟨_, rfl⟩
                  have hWl : W.length = c := by rw [hW0, qs_len, seg_len]; omega
                  have hWb : ∀ y ∈ W, 0 ≤ y ∧ y ≤ 1000000000 := by rw [hW0]; exact qs_nonneg HOK.out _
                  have hWe : ∀ (k : Nat) (hk : k < W.length), hW k = W[k] := fun k hk => by
                    rw [HLO.out k (by omega)]; simp [hW0, qs, seg]
                  rw [← hW0] at hsb ⊢
                  have FA2 := hid (show ∀ k, k < c → fillF l sd x vol rule (f (a + k)) = (dealt rule (min (sumI W) vv) W).getD k 0 from fun k hk => by
                    rw [FA.out k hk, VS1.out, ← hW0])
                  have VN := hid (show volF l f vol (a + c) = vv - min (sumI W) vv by rw [VS2.out, ← hW0])
                  have hgwl := RW.out.lt
                  have WR := hid (fun (w9 : World) (hb : Below wr.heap.size wr w9) => show ReadsE encI 1 w9 (.slice (some ⟨gw, 0, none⟩) c c) W from
                    (OwnE.reads encI_len (RowL.own (RW.out.kept (Kept.of_below (X := fun _ => False) hb) id) hWl hWe (Nat.le_refl _) (by unfold maxLen; omega)) (by omega)))
                  have SUM := hid (show min (sumI W) vv ≤ sumI W from by omega)
                  obtain ⟨sm, hsm⟩ : ∃ sm, sm = sumI W := ⟨_, rfl⟩
                  rw [← hsm] at FA2 VN hsb SUM ⊢
                  obtain ⟨gt, hgt⟩ : ∃ gt, gt = min sm vv := ⟨_, rfl⟩
                  have hgb : 0 ≤ gt ∧ gt ≤ 4096000000000 ∧ gt ≤ vv := by omega
                  rw [← hgt] at FA2 VN SUM
                  have HGT := hid hgt
                  have BT := hid (byTime_calls (WR.out wr (Below.refl _ _)) (by rw [hWl]; exact hml) (fun y hy => (hWb y hy).1) (t := gt) (by omega))
                  have SP := hid (fun (w9 : World) (hb : Below wr.heap.size wr w9) => split_calls (WR.out w9 hb) (by rw [hWl]; exact hml) hWb (t := gt) ⟨hgb.1, by have := SUM.out; rw [← hsm]; exact this⟩)
                  have HWL := hid hWl
                  clear hW0 hWl hWb hWe hsm hgt
                  have ev : IntKind.i64.wrap (vv - gt) = vv - gt := IntWalk.i64_in _ (by omega)
                  obtain ⟨w9, rfl⟩ : ∃ w9 : World, w9 = wr := ⟨_, rfl⟩
                  go_upto_region 22 with fail
                  rw [← HGT.out]
                  go_wp2_with fail
                  refine BT.out.mono ?_
                  rintro e w5 ⟨v5, rfl, hr5, hb5⟩
                  have R5 := hid hr5
                  have B5 := hid hb5
                  clear hr5 hb5 BT
                  go_upto_if 113 with fail
                  go_cut [21] (fun s21 wx => RowI w8.heap.size wx s21 (dealt rule gt W) ∧ Below w8.heap.size w8 wx)
                  case first =>
                    by_cases hr2 : rule = 2
                    · have e1 : (rule == 2) = true := by simpa using hr2
                      have S2 := hid (SP.out w5 B5.out)
                      have DL := hid (show dealt rule gt W = splitL gt W by unfold dealt; rw [if_pos hr2])
                      clear hr2 SP
                      go_wp2_with fail
                      refine S2.out.mono ?_
                      rintro e w6 ⟨v6, rfl, hr6, hb6⟩
                      have FN := hid (show RowI w8.heap.size w6 v6 (dealt rule gt W) ∧ Below w8.heap.size w8 w6 from by
                        rw [DL.out]
                        exact ⟨hr6.mono (Nat.le_trans BX.out.size B5.out.size), (BX.out.trans (B5.out.mono BX.out.size)).trans (hb6.mono (Nat.le_trans BX.out.size B5.out.size))⟩)
                      clear hr6 hb6
                      go_wp2
                      go_meet
                      exact FN.out
                    · have e1 : (rule == 2) = false := by simpa using hr2
                      have FN := hid (show RowI w8.heap.size w5 v5 (dealt rule gt W) ∧ Below w8.heap.size w8 w5 from by
                        unfold dealt; rw [if_neg hr2]
                        exact ⟨R5.out.mono BX.out.size, BX.out.trans (B5.out.mono BX.out.size)⟩)
                      clear hr2
                      go_wp2
                      go_meet
                      exact FN.out
                  case rest =>
                    obtain ⟨hr6, hb6⟩ := hcut
                    have R6 := hid hr6
                    have B6 := hid hb6
                    clear hr6 hb6 R5 B5 SP WR
                    obtain ⟨D, hD⟩ : ∃ D, D = dealt rule gt W := ⟨_, rfl⟩
                    rw [← hD] at R6 FA2
                    have hDl : D.length = c := by rw [hD, dealt_len]; exact HWL.out
                    obtain ⟨p5, cap5, gs, hv5, hp5, hcell5⟩ := OwnE.cells encI_len R6.out
                    rw [hDl] at hv5
                    obtain ⟨rfl, hgs1, hgs2⟩ := hp5 (by omega)
                    have HC5 := hid hcell5
                    have HDL := hid hDl
                    subst hv5
                    clear hD hcell5 hDl hp5
                    have S6 := hid (SS.out.after B6.out)
                    have RO6 := hid (RO.out.below B6.out)
                    have hgl8 := RO.out.lt
                    go_upto_region 26 with fail
                    go_loopg [121] c (fun k s121 wx => ∃ (d : Nat) (h' : Nat → Int), d + k = c ∧ s121 = .int .i64 d ∧ SvS w (.slice p i cap) sd gf i h' wx ∧ Served l sd x vol rule f (a + d) h0 h' ∧ Row wx g L f ∧ Kept (fun k => k = gf) wc wx)
                    case atStart => exact ⟨0, h, by omega, rfl, S6.out, SV.out, RO6.out, Kept.refl _ _⟩
                    case round =>
                      obtain ⟨d, h', hdk, rfl, ss, sv, ro, hkk⟩ := hrel
                      have HDK := hid hdk
                      have SX := hid ss
                      have SY := hid sv
                      have RX := hid ro
                      have KX := hid hkk
                      clear hdk ss sv ro hkk S6 RO6
                      by_cases hdc : d < c
                      · obtain ⟨j1, hj1, hj1l⟩ := OO.out.bid (k := a + d) (by omega)
                        have hj1n : j1 < i := by rw [HN.out]; exact hj1l
                        have x1 := RX.out.cell (i := a + d) (by omega)
                        rw [hj1] at x1
                        have hdD : d < D.length := by rw [HDL.out]; exact hdc
                        have x2 := (cell_kept KX.out hgs2 (by omega) (d * 1 + 0)).trans (HC5.out d hdD 0 (by omega))
                        simp [encI] at x2
                        obtain ⟨u, hu⟩ : ∃ u, u = D[d] := ⟨_, rfl⟩
                        rw [← hu] at x2
                        have hue : u = fillF l sd x vol rule (f (a + d)) := by rw [FA2.out d hdc, hu]; simp [hdD]
                        have x3 := SX.out.fills.cell hj1n
                        have x4 := SX.out.fills.froz j1
                        have x5 := SX.out.fills.lt
                        have x6 := RX.out.lt
                        have x7 := KX.out.size
                        obtain ⟨u0, hu0⟩ : ∃ u0, u0 = h' j1 := ⟨_, rfl⟩
                        rw [← hu0] at x3
                        have SX2 := hid (SX.out.fill j1 u)
                        have SY2 := hid (SY.out.next OO.out (by omega) hj1 hue)
                        have RX2 := hid (RX.out.kept (set_kept wr gf j1 (.int .i64 u)) (by have := SS.out.low; omega))
                        have KX2 := hid (KX.out.trans (set_kept wr gf j1 (.int .i64 u)) (fun _ _ e => e))
                        have g4 : (d : Int) < (c : Int) := by omega
                        have g5 : (0 : Int) ≤ (d : Int) := by omega
                        have g6 : (j1 : Int) < (i : Int) := by omega
                        have z1 : (0 : Int) ≤ (j1 : Int) := by omega
                        clear hu hue hu0 hj1
                        go_wp2
                        go_roundg (c - (d + 1))
                        · exact ⟨d + 1, _, by omega, by go_num, SX2.out, by rw [← Nat.add_assoc]; exact SY2.out, RX2.out, KX2.out⟩
                        · have := HDK.out; omega
                      · have hdc2 : d = c := by have := HDK.out; omega
                        subst hdc2
                        have g4 : decide ((d : Int) < (d : Int)) = false := by simp
                        go_wp2
                        all_goals (
                          go_roundg (r - d)
                          · exact ⟨r - d, a + d, _, _, h', rfl, by omega, rfl, fun hh => by first | exact ⟨rfl, by omega⟩ | omega, by rw [VN.out], HED.out, RX.out, SX.out, SY.out⟩
                          · have := HRK.out; omega)
end Go.Proofs.YtepldjidkomclaaGreat.Ca
namespace Go.Proofs.YtepldjidkomclaaGreat.Ca
set_option linter.unusedSimpArgs false
set_option linter.unusedVariables false
open Go.RowKit
structure ResT where
  p : Int
  v : Int
  s : Int
  f : List Int
  e : Int
def stageF (l : List Bd) (x v rule : Int) : Nat → Nat → Int
  | 0 => fun _ => 0
  | 1 => servedF l 1 x v rule (fun _ => 0)
  | _ => servedF l 2 x v rule (servedF l 1 x v rule (fun _ => 0))
def fillOf (l : List Bd) (x v rule : Int) (i : Nat) : Int := if part 2 x (bAt l i) = true then fillF l 2 x v rule i else if part 1 x (bAt l i) = true then fillF l 1 x v rule i else 0
def fillsL (l : List Bd) (x v rule : Int) : List Int := (List.range l.length).map (fillOf l x v rule)
theorem fillsL_len (l : List Bd) (x v rule : Int) : (fillsL l x v rule).length = l.length := by simp [fillsL]
theorem fillsL_get (l : List Bd) (x v rule : Int) (i : Nat) (hi : i < (fillsL l x v rule).length) : (fillsL l x v rule)[i] = fillOf l x v rule i := by simp [fillsL]
def clrF (l : List Bd) (x rule : Int) : ResT := if min (dem l x) (sup l x) = 0 then ⟨0, 0, 0, [], 30⟩ else ⟨x, min (dem l x) (sup l x), dem l x - sup l x, fillsL l x (min (dem l x) (sup l x)) rule, 0⟩
def ResP (B : Nat) (r : ResT) (e : Ending) (w' : World) : Prop := ∃ vf, e = .returned (.tuple #[.agg #[.int .i64 r.p, .int .i64 r.v, .int .i64 r.s, vf], .int .i64 r.e]) ∧ RowI B w' vf r.f
theorem part_two {x : Int} {b : Bd} (h : part 2 x b = true) : part 1 x b = false := by unfold part at *; simp at h ⊢; omega
theorem stage_zero {l : List Bd} {x v rule : Int} {i : Nat} (hp : part 2 x (bAt l i) = true) : stageF l x v rule 1 i = 0 := by
  show servedF l 1 x v rule (fun _ => 0) i = 0
  unfold servedF
  rw [if_neg (by rw [part_two hp]; decide)]
def set4 (w : World) (B : Nat) (v0 v1 v2 v3 : Value) : World := (((w.setCell ⟨B, 0, none⟩ v0).setCell ⟨B, 1, none⟩ v1).setCell ⟨B, 2, none⟩ v2).setCell ⟨B, 3, none⟩ v3
theorem set4_spec {w : World} {B : Nat} {a0 a1 a2 a3 : Value} {ty : TypeId} (h : Cells w B #[a0, a1, a2, a3] ty) (v0 v1 v2 v3 : Value) : Cells (set4 w B v0 v1 v2 v3) B #[v0, v1, v2, v3] ty ∧ Kept (fun k => k = B) w (set4 w B v0 v1 v2 v3) := by
  refine ⟨?_, (((set_kept w B 0 v0).trans (set_kept _ _ 1 v1) (fun _ _ e => e)).trans (set_kept _ _ 2 v2) (fun _ _ e => e)).trans (set_kept _ _ 3 v3) (fun _ _ e => e)⟩
  have := (((h.set 0 v0).set 1 v1).set 2 v2).set 3 v3
  exact this
theorem idsTo_sum {l : List Bd} {sd x : Int} {f : Bd → Bool} (hf : ∀ b ∈ l, part sd x b = f b) : ∀ n, n ≤ l.length → sumI (qs l (idsTo l sd x n)) = sumQ f (l.take n)
  | 0, _ => by simp [idsTo, qs, sumI, sumQ]
  | n + 1, h => by
    have hn : n < l.length := by omega
    rw [idsTo_succ, qs_app, sumI_app, idsTo_sum hf n (by omega), take_snoc hn, sumQ_snoc, bAt_get hn, hf _ (List.getElem_mem hn)]
    congr 1
    by_cases hp : f l[n] = true
    · rw [if_pos hp, if_pos hp]
      simp [qs, sumI, qI, bAt_get hn]
    · rw [if_neg hp, if_neg hp]; rfl
theorem part_buy {l : List Bd} {x : Int} : ∀ b ∈ l, part 1 x b = buyT x b := fun b _ => by
  unfold part buyT Bd.takes
  by_cases h : b.s = 1
  · simp [h]
  · simp [h]
theorem part_sell {l : List Bd} (hok : ∀ b ∈ l, b.ok) {x : Int} : ∀ b ∈ l, part 2 x b = selT x b := fun b hb => by
  have := (hok b hb).1
  unfold part selT Bd.takes
  by_cases h : b.s = 1
  · simp [h]
  · have : b.s = 2 := by omega
    simp [this]
theorem ids_buy (l : List Bd) (x : Int) : sumI (qs l (ids l 1 x)) = dem l x := by
  unfold ids dem
  rw [idsTo_sum part_buy l.length (Nat.le_refl _), List.take_length]
theorem ids_sell {l : List Bd} (hok : ∀ b ∈ l, b.ok) (x : Int) : sumI (qs l (ids l 2 x)) = sup l x := by
  unfold ids sup
  rw [idsTo_sum (part_sell hok) l.length (Nat.le_refl _), List.take_length]
theorem ids_some {l : List Bd} (hok : ∀ b ∈ l, b.ok) {x : Int} (h : min (dem l x) (sup l x) ≠ 0) : ids l 1 x ≠ [] ∧ ids l 2 x ≠ [] := by
  have h1 := sumQ_bound (buyT x) hok
  have h2 := sumQ_bound (selT x) hok
  have e1 := ids_buy l x
  have e2 := ids_sell hok x
  unfold dem at *
  unfold sup at *
  constructor
  · intro h0
    rw [h0] at e1
    simp [qs, sumI] at e1
    omega
  · intro h0
    rw [h0] at e2
    simp [qs, sumI] at e2
    omega
end Go.Proofs.YtepldjidkomclaaGreat.Ca
namespace Go.Proofs.YtepldjidkomclaaGreat.Ca
set_option linter.unusedSimpArgs false
set_option linter.unusedVariables false
open Go.RowKit
attribute [local go_sem] Oper.semAt_some
attribute [local go_sem ↓] Go.wp_at_zero Go.wp_at_succ
structure ClS (w : World) (x vol sur : Int) (n r gf : Nat) (h : Nat → Int) (wr : World) : Prop where
  out : Cells wr w.heap.size #[.int .i64 0, .int .i64 0, .int .i64 0, .slice none 0 0] 40
  res : Cells wr r #[.int .i64 x, .int .i64 vol, .int .i64 sur, .slice (some ⟨gf, 0, none⟩) n n] 40
  arr : Cells wr (r + 1) #[.int .i64 1, .int .i64 2] 3
  fills : RowL wr gf n h
  below : Below w.heap.size w wr
  low : w.heap.size < gf
  low2 : gf < r
set_option maxRecDepth 100000 in
set_option maxHeartbeats 8000000 in
theorem cleared_calls {w : World} {v : Value} {l : List Bd} (hv : ReadsE encBd 3 w v l) (hl : l.length ≤ 4096) (hok : ∀ b ∈ l, b.ok) (x rule : Int) :
    Calls Tryz.prog 30 #[v, .int .i64 x, .int .i64 rule] w fun e w' => ResP w.heap.size (clrF l x rule) e w' ∧ Below w.heap.size w w' := by
  obtain ⟨R, hR⟩ : ∃ R : Ending → World → Prop, R = fun e w' => ResP w.heap.size (clrF l x rule) e w' ∧ Below w.heap.size w w' := ⟨_, rfl⟩
  rw [← hR]
  have HR := hid hR
  have HV := hid hv
  obtain ⟨hm, p, cap, bb, off, rfl, hp, hc⟩ := hv
  obtain ⟨n, hn⟩ : ∃ n, n = l.length := ⟨_, rfl⟩
  rw [← hn] at hl HV ⊢
  have HN := hid hn
  have HOK := hid hok
  have hd := sumQ_bound (buyT x) hok
  have hs := sumQ_bound (selT x) hok
  rw [← hn] at hd hs
  have SM := hid (fun wx (hb : Below w.heap.size w wx) => sums_calls (HV.out.below hb) (by rw [← HN.out]; exact hl) HOK.out x)
  have SOME := hid (fun (h : min (dem l x) (sup l x) ≠ 0) => ids_some hok h)
  have CF := hid (show clrF l x rule = if min (dem l x) (sup l x) = 0 then ⟨0, 0, 0, [], 30⟩ else ⟨x, min (dem l x) (sup l x), dem l x - sup l x, fillsL l x (min (dem l x) (sup l x)) rule, 0⟩ from rfl)
  obtain ⟨D, hD⟩ : ∃ D, D = dem l x := ⟨_, rfl⟩
  obtain ⟨S, hS⟩ : ∃ S, S = sup l x := ⟨_, rfl⟩
  rw [show sumQ (buyT x) l = D by rw [hD]; rfl] at hd
  rw [show sumQ (selT x) l = S by rw [hS]; rfl] at hs
  rw [← hD, ← hS] at SM SOME CF
  have hdb : 0 ≤ D ∧ D ≤ 4096000000000 := by omega
  have hsb : 0 ≤ S ∧ S ≤ 4096000000000 := by omega
  have ew : IntKind.i64.wrap (D - S) = D - S := IntWalk.i64_in _ (by omega)
  have b1 := hid ((Below.refl w.heap.size w).alloc (Nat.le_refl _) (.cells #[.int .i64 0, .int .i64 0, .int .i64 0, .slice none 0 0] 40))
  clear hR hok hn hc hp hd hs hD hS hm
  go_enter Tryz.func30, Tryz.ntmps30
  go_upto_region 1 with fail
  go_wp2_with fail
  refine (SM.out _ b1.out).mono ?_
  rintro e w2 ⟨rfl, hb2⟩
  have B2 := hid (b1.out.trans (hb2.mono b1.out.size))
  have c2 : Cells w2 w.heap.size #[.int .i64 0, .int .i64 0, .int .i64 0, .slice none 0 0] 40 := (Cells.new w _ _).below hb2 (by rw [World.size_alloc]; omega)
  have C2 := hid c2
  have l2 := c2.lt
  have hmk := mk_i64 w2 n (by omega)
  clear hb2 SM c2
  obtain ⟨vol, hvol⟩ : ∃ vol, vol = min D S := ⟨_, rfl⟩
  rw [← hvol] at SOME CF
  have hvb : 0 ≤ vol ∧ vol ≤ 5000000000000 := by omega
  have HVO := hid hvol
  clear hvol
  have NB := hid (fun (h : vol ≠ 0) => SOME.out h)
  go_upto_region 3 with fail
  rw [← HVO.out]
  obtain ⟨w3, hw3⟩ : ∃ w3, w3 = ((w2.alloc (.cells (madeCells #[.int .i64 0] n) 2)).alloc (.cells #[.int .i64 x, .int .i64 vol, .int .i64 (D - S), .slice (some ⟨w2.heap.size, 0, none⟩) n n] 40)) := ⟨_, rfl⟩
  rw [← hw3]
  have z1 : Cells w3 w.heap.size #[.int .i64 0, .int .i64 0, .int .i64 0, .slice none 0 0] 40 := by rw [hw3]; exact (C2.out.alloc _).alloc _
  have z2 : Cells w3 (w2.heap.size + 1) #[.int .i64 x, .int .i64 vol, .int .i64 (D - S), .slice (some ⟨w2.heap.size, 0, none⟩) n n] 40 := by
    rw [hw3]
    have := Cells.new (w2.alloc (.cells (madeCells #[.int .i64 0] n) 2)) #[.int .i64 x, .int .i64 vol, .int .i64 (D - S), .slice (some ⟨w2.heap.size, 0, none⟩) n n] 40
    rwa [World.size_alloc] at this
  have z3 : RowL w3 w2.heap.size n (fun _ => 0) := by
    rw [hw3]; exact (RowL.made w2 n).kept ((Kept.refl (fun _ => False) _).alloc _) id
  have z4 : Below w.heap.size w w3 := by rw [hw3]; exact (B2.out.alloc B2.out.size _).alloc (by have := B2.out.size; simp; omega) _
  have z5 : w3.heap.size = w2.heap.size + 2 := by rw [hw3]; simp
  obtain ⟨gf, hgf⟩ : ∃ gf, gf = w2.heap.size := ⟨_, rfl⟩
  rw [← hgf] at z2 z3 z5 l2 ⊢
  clear hw3 hgf hmk
  have e0 : w3.cell? ⟨gf + 1, 0, none⟩ = some (.int .i64 x) := by rw [z2.cell]; rfl
  have e1 : w3.cell? ⟨gf + 1, 1, none⟩ = some (.int .i64 vol) := by rw [z2.cell]; rfl
  have e2 : w3.cell? ⟨gf + 1, 2, none⟩ = some (.int .i64 (D - S)) := by rw [z2.cell]; rfl
  have e3 : w3.cell? ⟨gf + 1, 3, none⟩ = some (.slice (some ⟨gf, 0, none⟩) n n) := by rw [z2.cell]; rfl
  have d0 : w3.cell? ⟨w.heap.size, 0, none⟩ = some (.int .i64 0) := by rw [z1.cell]; rfl
  have d1 : w3.cell? ⟨w.heap.size, 1, none⟩ = some (.int .i64 0) := by rw [z1.cell]; rfl
  have d2 : w3.cell? ⟨w.heap.size, 2, none⟩ = some (.int .i64 0) := by rw [z1.cell]; rfl
  have d3 : w3.cell? ⟨w.heap.size, 3, none⟩ = some (.slice none 0 0) := by rw [z1.cell]; rfl
  have f0 := z1.frozen 0
  have f1 := z1.frozen 1
  have f2 := z1.frozen 2
  have f3 := z1.frozen 3
  have y1 := z1.lt
  have y2 := z2.lt
  by_cases hv0 : vol = 0
  · have g1 : (vol == 0) = true := by simpa using hv0
    have CF0 := hid (show clrF l x rule = ⟨0, 0, 0, [], 30⟩ by rw [CF.out, if_pos hv0])
    clear hv0
    go_wp2
    obtain ⟨q1, q3⟩ := set4_spec z1 (.int .i64 0) (.int .i64 0) (.int .i64 0) (.slice none 0 0)
    have q2 := z4.trans (q3.below z4.size (fun k hk => by omega))
    show bodyPost _ _ _ _ _ (set4 w3 w.heap.size (.int .i64 0) (.int .i64 0) (.int .i64 0) (.slice none 0 0))
    obtain ⟨w4, hw4⟩ : ∃ w4, w4 = set4 w3 w.heap.size (.int .i64 0) (.int .i64 0) (.int .i64 0) (.slice none 0 0) := ⟨_, rfl⟩
    rw [← hw4] at q1 q2 ⊢
    clear hw4 q3
    have m0 : w4.cell? ⟨w.heap.size, 0, none⟩ = some (.int .i64 0) := by rw [q1.cell]; rfl
    have m1 : w4.cell? ⟨w.heap.size, 1, none⟩ = some (.int .i64 0) := by rw [q1.cell]; rfl
    have m2 : w4.cell? ⟨w.heap.size, 2, none⟩ = some (.int .i64 0) := by rw [q1.cell]; rfl
    have m3 : w4.cell? ⟨w.heap.size, 3, none⟩ = some (.slice none 0 0) := by rw [q1.cell]; rfl
    refine bodyPost_ret (v := .tuple #[.agg #[.int .i64 0, .int .i64 0, .int .i64 0, .slice none 0 0], .int .i64 30]) (by simp [results, Tryz.results30, go_sem, m0, m1, m2, m3]) rfl ?_
    rw [HR.out, CF0.out]
    exact ⟨⟨_, rfl, OwnE.nil _ _⟩, q2⟩
  · have g1 : (vol == 0) = false := by simpa using hv0
    obtain ⟨nb1, nb2⟩ := NB.out hv0
    have S0 := hid (show ClS w x vol (D - S) n (gf + 1) gf (stageF l x vol rule 0) (w3.alloc (.cells #[.int .i64 1, .int .i64 2] 3)) by
      have z6 := Cells.new w3 #[.int .i64 1, .int .i64 2] 3
      rw [z5] at z6
      exact ⟨z1.alloc _, z2.alloc _, z6, z3.kept ((Kept.refl (fun _ => False) _).alloc _) id, z4.alloc z4.size _, l2, by omega⟩)
    have CFN := hid (show clrF l x rule = ⟨x, vol, D - S, fillsL l x vol rule, 0⟩ by rw [CF.out, if_neg hv0])
    have HV2 := hid hv0
    clear hv0 CF SOME
    go_upto_region 6 with fail
    clear e0 e1 e2 e3 d0 d1 d2 d3 f0 f1 f2 f3 z1 z2 z3 z4
    go_loopg [36] 2 (fun k s36 wx => ∃ i : Nat, i + k = 2 ∧ s36 = .int .i64 i ∧ ClS w x vol (D - S) n (gf + 1) gf (stageF l x vol rule i) wx)
    case atStart => exact ⟨0, rfl, rfl, S0.out⟩
    case round =>
      obtain ⟨i, hik, rfl, ss⟩ := hrel
      have HIK := hid hik
      have SS := hid ss
      clear hik ss S0
      have e1 : wr.cell? ⟨gf + 1, 1, none⟩ = some (.int .i64 vol) := by rw [SS.out.res.cell]; rfl
      have e3 : wr.cell? ⟨gf + 1, 3, none⟩ = some (.slice (some ⟨gf, 0, none⟩) n n) := by rw [SS.out.res.cell]; rfl
      have a0 : wr.cell? ⟨gf + 1 + 1, 0, none⟩ = some (.int .i64 1) := by rw [SS.out.arr.cell]; rfl
      have a1 : wr.cell? ⟨gf + 1 + 1, 1, none⟩ = some (.int .i64 2) := by rw [SS.out.arr.cell]; rfl
      have lr := SS.out.res.lt
      have la := SS.out.arr.lt
      have NX := hid (show ∀ j w', Kept (fun k => k = gf) wr w' → RowL w' gf n (stageF l x vol rule j) → ClS w x vol (D - S) n (gf + 1) gf (stageF l x vol rule j) w' from fun j w' hk hr => by
        have q1 := SS.out.low
        have q2 := SS.out.low2
        exact ⟨SS.out.out.kept hk (by omega), SS.out.res.kept hk (by omega), SS.out.arr.kept hk (by omega), hr, SS.out.below.trans (hk.below SS.out.below.size (fun k hk => by omega)), q1, q2⟩)
      rcases (show i = 0 ∨ i = 1 ∨ i = 2 by have := HIK.out; omega) with rfl | rfl | rfl
      · have SV := hid (serve_calls (w0 := w) (w := wr) (x := x) (vol := vol) (rule := rule) (sd := 1) (h0 := stageF l x vol rule 0) HV.out SS.out.below (by rw [← HN.out]; exact hl) HOK.out hvb (by rw [← HN.out]; exact SS.out.fills) (Nat.le_of_lt SS.out.low) nb1 (fun _ _ _ => rfl))
        rw [← HN.out] at SV
        go_wp2_with fail
        refine SV.out.mono ?_
        rintro e w5 ⟨rfl, hr5, hk5⟩
        have N5 := hid (NX.out 1 w5 hk5 hr5)
        clear hr5 hk5 SV
        go_wp2
        go_roundg 1
        · exact ⟨1, rfl, by go_num, N5.out⟩
        · have := HIK.out; omega
      · have SV := hid (serve_calls (w0 := w) (w := wr) (x := x) (vol := vol) (rule := rule) (sd := 2) (h0 := stageF l x vol rule 1) HV.out SS.out.below (by rw [← HN.out]; exact hl) HOK.out hvb (by rw [← HN.out]; exact SS.out.fills) (Nat.le_of_lt SS.out.low) nb2 (fun _ _ hp => stage_zero hp))
        rw [← HN.out] at SV
        go_wp2_with fail
        refine SV.out.mono ?_
        rintro e w5 ⟨rfl, hr5, hk5⟩
        have N5 := hid (NX.out 2 w5 hk5 hr5)
        clear hr5 hk5 SV
        go_wp2
        go_roundg 0
        · exact ⟨2, rfl, by go_num, N5.out⟩
        · have := HIK.out; omega
      · have e0 : wr.cell? ⟨gf + 1, 0, none⟩ = some (.int .i64 x) := by rw [SS.out.res.cell]; rfl
        have e2 : wr.cell? ⟨gf + 1, 2, none⟩ = some (.int .i64 (D - S)) := by rw [SS.out.res.cell]; rfl
        have d0 : wr.cell? ⟨w.heap.size, 0, none⟩ = some (.int .i64 0) := by rw [SS.out.out.cell]; rfl
        have d1 : wr.cell? ⟨w.heap.size, 1, none⟩ = some (.int .i64 0) := by rw [SS.out.out.cell]; rfl
        have d2 : wr.cell? ⟨w.heap.size, 2, none⟩ = some (.int .i64 0) := by rw [SS.out.out.cell]; rfl
        have d3 : wr.cell? ⟨w.heap.size, 3, none⟩ = some (.slice none 0 0) := by rw [SS.out.out.cell]; rfl
        have f0 := SS.out.out.frozen 0
        have f1 := SS.out.out.frozen 1
        have f2 := SS.out.out.frozen 2
        have f3 := SS.out.out.frozen 3
        have y1 := SS.out.out.lt
        have CFX := hid (show ∀ w4, RowL w4 gf n (stageF l x vol rule 2) → Below w.heap.size w w4 → R (.returned (.tuple #[.agg #[.int .i64 x, .int .i64 vol, .int .i64 (D - S), .slice (some ⟨gf, 0, none⟩) n n], .int .i64 0])) w4 from fun w4 hr hb => by
          rw [HR.out, CFN.out]
          refine ⟨⟨_, rfl, hr.own (by rw [fillsL_len]; exact HN.out.symm) (fun k hk => by rw [fillsL_get]; rfl) (Nat.le_of_lt SS.out.low) (by unfold maxLen; omega)⟩, hb⟩)
        obtain ⟨q1, q3⟩ := set4_spec SS.out.out (.int .i64 x) (.int .i64 vol) (.int .i64 (D - S)) (.slice (some ⟨gf, 0, none⟩) n n)
        have q2 := hid (SS.out.below.trans (q3.below SS.out.below.size (fun k hk => by omega)))
        have q4 := hid (SS.out.fills.kept q3 (by have := SS.out.low; omega))
        have q5 := hid q1
        clear q1 q3
        go_wp2
        show bodyPost _ _ _ _ _ (set4 wr w.heap.size (.int .i64 x) (.int .i64 vol) (.int .i64 (D - S)) (.slice (some ⟨gf, 0, none⟩) n n))
        obtain ⟨w4, hw4⟩ : ∃ w4, w4 = set4 wr w.heap.size (.int .i64 x) (.int .i64 vol) (.int .i64 (D - S)) (.slice (some ⟨gf, 0, none⟩) n n) := ⟨_, rfl⟩
        rw [← hw4] at q2 q4 q5 ⊢
        clear hw4
        have m0 : w4.cell? ⟨w.heap.size, 0, none⟩ = some (.int .i64 x) := by rw [q5.out.cell]; rfl
        have m1 : w4.cell? ⟨w.heap.size, 1, none⟩ = some (.int .i64 vol) := by rw [q5.out.cell]; rfl
        have m2 : w4.cell? ⟨w.heap.size, 2, none⟩ = some (.int .i64 (D - S)) := by rw [q5.out.cell]; rfl
        have m3 : w4.cell? ⟨w.heap.size, 3, none⟩ = some (.slice (some ⟨gf, 0, none⟩) n n) := by rw [q5.out.cell]; rfl
        exact bodyPost_ret (v := .tuple #[.agg #[.int .i64 x, .int .i64 vol, .int .i64 (D - S), .slice (some ⟨gf, 0, none⟩) n n], .int .i64 0]) (by simp [results, Tryz.results30, go_sem, m0, m1, m2, m3]) rfl (CFX.out w4 q4.out q2.out)
end Go.Proofs.YtepldjidkomclaaGreat.Ca
