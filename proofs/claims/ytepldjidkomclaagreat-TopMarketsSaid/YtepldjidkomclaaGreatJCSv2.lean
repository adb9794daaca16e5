/- serve: the walk. What clearing gives, plain. call.Split. call.zone.volume, surplus, pick; sized; lean. A row of zones as a function; clear. No function of the program in sight. slices.IndexFunc at zones, with a predicate by contract. -/
import Derived.Lib.SliceRun
import Derived.Test.YtepldjidkomclaaGreatJCSv0
import Derived.Test.YtepldjidkomclaaGreatJCSo5
import Derived.Test.YtepldjidkomclaaGreatJCZmap
namespace Go.Proofs.YtepldjidkomclaaGreat.Ca
set_option linter.unusedSimpArgs false
set_option linter.unusedVariables false
open Go.RowKit
attribute [local go_sem] Oper.semAt_some
attribute [local go_sem ↓] Go.wp_at_zero Go.wp_at_succ

set_option maxRecDepth 100000 in
set_option maxHeartbeats 8000000 in
theorem serve_calls {w0 w : World} {v : Value} {l : List Bd} (hv : ReadsE encBd 3 w0 v l) (hb0 : Below w0.heap.size w0 w) (hl : l.length ≤ 4096) (hok : ∀ b ∈ l, b.ok) {sd x vol rule : Int} (hvol : 0 ≤ vol ∧ vol ≤ 5000000000000) {gf : Nat} {h0 : Nat → Int} (hf : RowL w gf l.length h0) (hgf : w0.heap.size ≤ gf) (hne : ids l sd x ≠ []) (hz : ∀ i : Nat, i < l.length → part sd x (bAt l i) = true → h0 i = 0) :
    Calls Tryz.prog 73 #[v, .int .i64 sd, .int .i64 x, .int .i64 vol, .int .i64 rule, .slice (some ⟨gf, 0, none⟩) l.length l.length] w fun e w' => e = .returned (.tuple #[]) ∧ RowL w' gf l.length (servedF l sd x vol rule h0) ∧ Kept (fun k => k = gf) w w' := by
  obtain ⟨R, hR⟩ : ∃ R : Ending → World → Prop, R = fun e w' => e = .returned (.tuple #[]) ∧ RowL w' gf l.length (servedF l sd x vol rule h0) ∧ Kept (fun k => k = gf) w w' := ⟨_, rfl⟩
  rw [← hR]
  have HR := hid hR
  have HVV := hid hv
  have HB0 := hid hb0
  obtain ⟨hm, p, cap, bb, off, rfl, hp, hc⟩ := hv
  obtain ⟨n, hn⟩ : ∃ n, n = l.length := ⟨_, rfl⟩
  rw [← hn] at hp hm hl hf HVV ⊢
  have HN := hid hn
  have HP := hid hp
  have HC := hid hc
  have HOK := hid hok
  have HNE := hid hne
  have HZ := hid hz
  have HVOL := hid hvol
  have hlow := hf.lt
  have S0 := hid (show ∀ wx, wx = ((w.alloc (.cells #[.slice p n cap] 22)).alloc (.cells #[.int .i64 sd] 3)) → SvS w (.slice p n cap) sd gf n h0 wx by
    rintro wx rfl
    have a1 := Cells.new w #[.slice p n cap] 22
    have a2 := Cells.new (w.alloc (.cells #[.slice p n cap] 22)) #[.int .i64 sd] 3
    rw [World.size_alloc] at a2
    have ka : ∀ (w : World) (o : Obj), Kept (fun _ => False) w (w.alloc o) := fun w o => (Kept.refl _ _).alloc _
    exact ⟨a1.alloc _, a2, (hf.kept (ka _ _) id).kept (ka _ _) id, ((Kept.refl _ _).alloc _).alloc _, by simp, hlow⟩)
  have TK := hid (fun b wx => takes_calls b x wx)
  clear hR hn hp hc hok hne hz hf hb0 hvol
  go_enter Tryz.func73, Tryz.ntmps73
  go_upto_region 3 with fail
  have S00 := hid (S0.out _ rfl)
  clear S0
  go_loopg [26, 12] n (fun k s26 s12 wr => ∃ i : Nat, i + k = n ∧ s26 = .int .i64 i ∧ SvS w (.slice p n cap) sd gf n h0 wr ∧ RowN (w.heap.size + 2) wr s12 (idsTo l sd x i))
  case atStart => exact ⟨0, by omega, rfl, S00.out, OwnE.nil _ _⟩
  case round =>
    obtain ⟨i, hik, rfl, ss, rr⟩ := hrel
    have HIK := hid hik
    have SS := hid ss
    have RR := hid rr
    clear hik ss rr S00
    by_cases hin : i < n
    · have hil : i < l.length := by rw [← HN.out]; exact hin
      have hr := SS.out.reads HVV.out HB0.out hgf
      obtain ⟨rfl, hbb⟩ := HP.out (by omega)
      have hbr := (HB0.out.trans (SS.out.kept.below HB0.out.size (fun k hk => by omega)))
      have c0 := (hbr.cell (p := ⟨bb, off + i * 3 + 0, none⟩) hbb).trans (HC.out i hil 0 (by omega))
      have c1 := (hbr.cell (p := ⟨bb, off + i * 3 + 1, none⟩) hbb).trans (HC.out i hil 1 (by omega))
      have c2 := (hbr.cell (p := ⟨bb, off + i * 3 + 2, none⟩) hbb).trans (HC.out i hil 2 (by omega))
      simp [encBd] at c0 c1 c2
      have gi : (i : Int) < (n : Int) := by omega
      have gi0 : (0 : Int) ≤ (i : Int) := by omega
      have hba := bAt_get hil
      have hid1 := idsTo_succ l sd x i
      have hlen := idsTo_len l sd x i
      rw [hba] at hid1
      obtain ⟨b, hx⟩ : ∃ b, b = l[i] := ⟨_, rfl⟩
      rw [← hx] at c0 c1 c2 hid1
      obtain ⟨po, co, hvo, _⟩ := RR.out.form
      obtain ⟨m, hmm⟩ : ∃ m, m = (idsTo l sd x i).length := ⟨_, rfl⟩
      rw [← hmm] at hvo
      subst hvo
      have m1 : wr.cell? ⟨w.heap.size + 1, 0, none⟩ = some (.int .i64 sd) := by rw [SS.out.sb.cell]; rfl
      have m0 : wr.cell? ⟨w.heap.size, 0, none⟩ = some (.slice (some ⟨bb, off, none⟩) n cap) := by rw [SS.out.lb.cell]; rfl
      have ls := SS.out.size
      obtain ⟨wb, hwb⟩ : ∃ wb, wb = wr.alloc (.cells #[.int .i64 b.s, .int .i64 b.p, .int .i64 b.q] 32) := ⟨_, rfl⟩
      have SB := hid (show SvS w (.slice (some ⟨bb, off, none⟩) n cap) sd gf n h0 wb by rw [hwb]; exact SS.out.after ((Below.refl _ _).alloc (Nat.le_refl _) _))
      have RB := hid (show RowN (w.heap.size + 2) wb (.slice po m co) (idsTo l sd x i) by rw [hwb]; exact RR.out.alloc _)
      have cb : Cells wb wr.heap.size #[.int .i64 b.s, .int .i64 b.p, .int .i64 b.q] 32 := by rw [hwb]; exact Cells.new wr _ _
      have hlb := cb.lt
      have k0 : wb.cell? ⟨wr.heap.size, 0, none⟩ = some (.int .i64 b.s) := by rw [cb.cell]; rfl
      have k1 : wb.cell? ⟨wr.heap.size, 1, none⟩ = some (.int .i64 b.p) := by rw [cb.cell]; rfl
      have k2 : wb.cell? ⟨wr.heap.size, 2, none⟩ = some (.int .i64 b.q) := by rw [cb.cell]; rfl
      have n1 : wb.cell? ⟨w.heap.size + 1, 0, none⟩ = some (.int .i64 sd) := by rw [SB.out.sb.cell]; rfl
      have HWB := hid hwb
      have ID := hid hid1
      have hml : m ≤ 4096 := by omega
      have HMM := hid hmm
      clear hx hwb hid1 cb hr hbr hba hmm
      by_cases hs : b.s = sd
      · have e1 : (b.s == sd) = true := by simpa using hs
        obtain ⟨t, ht⟩ : ∃ t, t = b.takes x := ⟨_, rfl⟩
        have TKB := hid (fun wx => TK.out b wx)
        rw [← ht] at TKB
        have HT := hid ht
        clear ht hs
        go_upto_region 5 with fail
        rw [← HWB.out]
        go_wp2_with fail
        refine (TKB.out _).mono ?_
        rintro e w5 ⟨rfl, hb5⟩
        have S5 := hid (SB.out.after hb5)
        have R5 := hid (OwnE.below RB.out hb5)
        have s5 := S5.out.size
        clear hb5
        cases t with
        | true =>
          have ID2 := hid (show idsTo l sd x (i + 1) = idsTo l sd x i ++ [(i : Int)] by rw [ID.out, if_pos (by unfold part; rw [← HT.out]; simpa using e1)])
          have so : SrcE encI 1 (w5.alloc (.cells #[.int .i64 i] 3)) (.slice (some ⟨w5.heap.size, 0, none⟩) 1 1) [(i : Int)] := SrcE.one (Cells.new w5 _ _)
          obtain ⟨v6, w6, r2, r3, k3, _⟩ := int_append (R5.out.alloc (.cells #[.int .i64 i] 3)) (by simp; omega) so (by simp; have := HMM.out; omega) 47
          have R2 := hid r2
          have S6 := hid (show SvS w (.slice (some ⟨bb, off, none⟩) n cap) sd gf n h0 w6 from (S5.out.after ((Below.refl _ _).alloc (Nat.le_refl _) _)).far k3 (fun k hk => by
            rcases R5.out.2 with ⟨q, _⟩ | ⟨g', c', cur, q, hb', _⟩
            · rw [q] at hk; cases hk
            · rw [q] at hk; cases hk; exact hb'))
          have R6 := hid (show RowN (w.heap.size + 2) w6 v6 (idsTo l sd x (i + 1)) by rw [ID2.out]; exact r3)
          clear so r2 k3 r3
          go_wp2_with (at_builtin; refine wpList_append_run rfl (.tmp 40) (.tmp 42) 47 rfl _ _ v6 w6 rfl rfl R2.out ?_)
          go_roundg (n - (i + 1))
          · exact ⟨i + 1, by omega, by go_num, S6.out, R6.out⟩
          · have := HIK.out; omega
        | false =>
          have ID2 := hid (show idsTo l sd x (i + 1) = idsTo l sd x i by rw [ID.out, if_neg (by unfold part; rw [← HT.out]; simp), List.append_nil])
          go_wp2
          go_roundg (n - (i + 1))
          · exact ⟨i + 1, by omega, by go_num, S5.out, by rw [ID2.out]; exact R5.out⟩
          · have := HIK.out; omega
      · have e1 : (b.s == sd) = false := by simpa using hs
        have ID2 := hid (show idsTo l sd x (i + 1) = idsTo l sd x i by rw [ID.out, if_neg (by unfold part; simp [hs]), List.append_nil])
        clear hs
        go_upto_region 5 with fail
        rw [← HWB.out]
        go_wp2
        go_roundg (n - (i + 1))
        · exact ⟨i + 1, by omega, by go_num, SB.out, by rw [ID2.out]; exact RB.out⟩
        · have := HIK.out; omega
    · have hin' : i = n := by have := HIK.out; omega
      subst hin'
      have g1 : decide ((i : Int) < (i : Int)) = false := by simp
      have rr := RR.out
      have hids : idsTo l sd x i = ids l sd x := by unfold ids; rw [← HN.out]
      rw [hids] at rr
      have hidl := idsTo_len l sd x i
      rw [hids] at hidl
      obtain ⟨po, co, hvo, hh⟩ := rr.form
      obtain ⟨L, hL⟩ : ∃ L, L = (ids l sd x).length := ⟨_, rfl⟩
      rw [← hL] at hvo hidl
      rcases hh with ⟨_, h0'⟩ | ⟨g, rfl, hgB, hgl⟩
      · exact absurd h0' HNE.out
      subst hvo
      obtain ⟨row0, hLe, hLc, hgB2⟩ := Row.of rr
      clear hLe
      rw [← hL] at row0
      have hL0 : 0 < L := by rw [hL]; exact List.length_pos_iff.2 HNE.out
      have CM := cmp_serve (sd := sd) (g := g) (SS.out.reads HVV.out HB0.out hgf) HOK.out SS.out.lb SS.out.sb (Nat.le_trans (Nat.le_trans HB0.out.size (Nat.le_add_right _ 2)) SS.out.size) (fun w' hb => HVV.out.below ((HB0.out.trans (SS.out.kept.below HB0.out.size (fun k hk => by omega))).trans hb)) (by have := HB0.out.size; omega) (by omega) (by omega)
      have IB := hid (show ∀ k, k < L → 0 ≤ (ids l sd x).getD k 0 ∧ (ids l sd x).getD k 0 < (l.length : Int) from fun k hk => by
        have hk' : k < (ids l sd x).length := by rw [← hL]; exact hk
        have : (ids l sd x).getD k 0 = (ids l sd x)[k] := by simp [hk']
        rw [this]
        have := mem_idsTo.1 (List.getElem_mem hk')
        exact ⟨this.1, this.2.1⟩)
      have II := hid (show ∀ a b, a < b → b < L → (ids l sd x).getD a 0 < (ids l sd x).getD b 0 from fun a b hab hb => by
        have hb' : b < (ids l sd x).length := by rw [← hL]; exact hb
        have ha' : a < (ids l sd x).length := by omega
        have e1 : (ids l sd x).getD a 0 = (ids l sd x)[a] := by simp [ha']
        have e2 : (ids l sd x).getD b 0 = (ids l sd x)[b] := by simp [hb']
        rw [e1, e2]
        exact List.pairwise_iff_getElem.1 (ids_inc l sd x _) a b ha' hb' hab)
      have ST := hid (sortStable_calls row0 (by omega) co CM (swoS l sd) (fun k hk => IB.out k hk) II.out)
      have HL := hid hL
      have HID := hid hidl
      have hgl0 := hgl
      clear CM row0 rr hids hL
      go_wp2_with fail
      refine ST.out.mono ?_
      rintro e w7 ⟨rfl, f, hr7, hg7, hk7⟩
      have S7 := hid (SS.out.far hk7 (fun k hk => by omega))
      have OO := hid (show Ord l sd x f L from ⟨HL.out, hg7⟩)
      have R7 := hid hr7
      clear hr7 hg7 hk7 ST SS RR IB II
      go_wp2_with fail
      go_loopg [12, 3] L (fun k s12 s3 wx => ∃ (r a : Nat) (pa : Option Addr) (ca : Nat) (h : Nat → Int), r = k ∧ a + r = L ∧ s12 = .slice pa r ca ∧ (0 < r → pa = some ⟨g, a, none⟩ ∧ r ≤ ca) ∧ s3 = .int .i64 (volF l f vol a) ∧ Ord.Edge l f L a ∧ Row wx g L f ∧ SvS w (.slice p i cap) sd gf i h wx ∧ Served l sd x vol rule f a h0 h)
      case atStart => exact ⟨L, 0, _, _, h0, rfl, by omega, rfl, fun _ => ⟨rfl, hLc⟩, by unfold volF; rw [seg_empty f (Nat.le_refl 0)]; simp [qs, sumI]; have := HVOL.out; omega, .inl rfl, R7.out, S7.out, Served.start h0⟩
      case round =>
        obtain ⟨r, a, pa, ca, h, hrk, har, rfl, hpa, rfl, he, hro, ss, sv⟩ := hrel
        have HRK := hid hrk
        have HE := hid he
        have RO := hid hro
        have SS := hid ss
        have SV := hid sv
        have HPA := hid hpa
        clear hrk he hro ss sv hpa
        obtain ⟨vv, hvv⟩ : ∃ vv, vv = volF l f vol a := ⟨_, rfl⟩
        rw [← hvv]
        have hvb : 0 ≤ vv ∧ vv ≤ 5000000000000 := by
          have := HVOL.out
          have := (sum_seg_bound HOK.out f 0 a).1
          rw [hvv]; unfold volF; omega
        have FIN := hid (show (a = L ∨ vv ≤ 0) → R (.returned (.tuple #[])) wr from fun hend => by
          rw [HR.out, ← HN.out]
          refine ⟨rfl, SS.out.fills.congr fun k hk => (served_end HOK.out OO.out HE.out (by omega) SV.out HZ.out ?_ k (by rw [← HN.out]; exact hk)).symm, SS.out.kept⟩
          rcases hend with q | q
          · exact .inl q
          · right; rw [hvv] at q; unfold volF at q; omega)
        have HVF := hid hvv
        clear hvv
        by_cases hr0 : r = 0
        · subst hr0
          have FN := hid (FIN.out (.inl (by omega)))
          clear FIN
          go_wp2
          first | exact FN.out | (go_ret; exact FN.out) | (go_end0; exact FN.out)
        · have g2 : (0 : Int) < (r : Int) := by omega
          by_cases hv0 : vv ≤ 0
          · have g3 : ¬ (0 : Int) < vv := by omega
            have FN := hid (FIN.out (.inr hv0))
            clear FIN hv0
            go_wp2
            first | exact FN.out | (go_ret; exact FN.out) | (go_end0; exact FN.out)
          · have g3 : (0 : Int) < vv := by omega
            obtain ⟨rfl, hca⟩ := HPA.out (by omega)
            clear FIN hv0 S7 R7
            go_upto_block 4 with fail
            obtain ⟨w8, rfl⟩ : ∃ w8 : World, w8 = wr := ⟨_, rfl⟩
            obtain ⟨j0, hj0, hj0l⟩ := OO.out.bid (k := a) (by omega)
            have GEO := hid (fun w9 (hb : Below w8.heap.size w8 w9) (k : Nat) (hk : k < L) (j : Nat) (hj : f k = (j : Int)) => show w9.cell? ⟨g, k, none⟩ = some (.int .i64 j) ∧ w9.cell? ⟨w.heap.size, 0, none⟩ = some (.slice p i cap) ∧ p = some ⟨bb, off, none⟩ ∧ w9.cell? ⟨bb, off + j * 3 + 1, none⟩ = some (.int .i64 (pI l (f k))) ∧ w9.cell? ⟨bb, off + j * 3 + 2, none⟩ = some (.int .i64 (qI l (f k))) ∧ (j : Int) < (i : Int) ∧ g < w9.heap.size ∧ w.heap.size < w9.heap.size from by
              have s9 := SS.out.after hb
              have hb9 := HB0.out.trans (s9.kept.below HB0.out.size (fun k hk => by omega))
              have hat := OO.out.at_ hk
              have hjl : j < l.length := by omega
              obtain ⟨rfl, hbb⟩ := HP.out (by omega)
              refine ⟨by have := (RO.out.below hb).cell hk; rwa [hj] at this, by rw [s9.lb.cell]; rfl, rfl, ?_, ?_, by have := HN.out; omega, (RO.out.below hb).lt, by have := s9.size; omega⟩
              · have := (hb9.cell (p := ⟨bb, off + j * 3 + 1, none⟩) hbb).trans (HC.out j hjl 1 (by omega))
                rw [this, hj]; unfold pI; rw [bAt_get hjl]; rfl
              · have := (hb9.cell (p := ⟨bb, off + j * 3 + 2, none⟩) hbb).trans (HC.out j hjl 2 (by omega))
                rw [this, hj]; unfold qI; rw [bAt_get hjl]; rfl)
            go_cut [15] (fun s15 wx => ∃ m : Nat, s15 = .int .i64 m ∧ 0 < m ∧ a + m ≤ L ∧ (∀ k, k < m → pI l (f (a + k)) = pI l (f a)) ∧ Ord.Edge l f L (a + m) ∧ Below w8.heap.size w8 wx)
            case first =>
              go_wp2_with fail
              go_loopg [15] (r - 1) (fun k s15 wx => ∃ m : Nat, m + k = r ∧ s15 = .int .i64 m ∧ 0 < m ∧ (∀ k, k < m → pI l (f (a + k)) = pI l (f a)) ∧ Below w8.heap.size w8 wx)
              case atStart => exact ⟨1, by omega, rfl, by omega, fun k hk => by rw [show k = 0 by omega]; rfl, Below.refl _ _⟩
              case round =>
                obtain ⟨m, hmk, rfl, hm0, hsame, hb9⟩ := hrel
                have HMK := hid hmk
                have HSAME := hid hsame
                have B9 := hid hb9
                clear hmk hsame hb9
                by_cases hmr : m = r
                · subst hmr
                  have g4 : decide ((m : Int) < (m : Int)) = false := by simp
                  have HR2 := hid har
                  clear har
                  go_upto_region 11 with fail
                  go_region
                  all_goals go_wp2
                  all_goals (
                    go_meet
                    exact ⟨m, rfl, hm0, by have := HR2.out; omega, HSAME.out, .inr (.inl HR2.out), B9.out.drew⟩)
                · have hmr2 : m < r := by have := HMK.out; omega
                  have g4 : (m : Int) < (r : Int) := by omega
                  have g5 : (0 : Int) ≤ (m : Int) := by omega
                  obtain ⟨j1, hj1, hj1l⟩ := OO.out.bid (k := a + m) (by omega)
                  have hr4 : r ≤ 4096 := by omega
                  obtain ⟨x1, x2, x3, x4, _, x6, x7, x8⟩ := GEO.out wr B9.out a (by omega) j0 hj0
                  obtain ⟨y1, _, _, y4, _, y6, _, _⟩ := GEO.out wr B9.out (a + m) (by omega) j1 hj1
                  obtain ⟨P0, hP0⟩ : ∃ P0, P0 = pI l (f a) := ⟨_, rfl⟩
                  obtain ⟨P1, hP1⟩ : ∃ P1, P1 = pI l (f (a + m)) := ⟨_, rfl⟩
                  rw [← hP0] at x4
                  rw [← hP1] at y4
                  have HP0 := hid hP0
                  have HP1 := hid hP1
                  have z0 : (0 : Int) ≤ (j0 : Int) := by omega
                  have z1 : (0 : Int) ≤ (j1 : Int) := by omega
                  have HJ0 := hid hj0
                  have HJ1 := hid hj1
                  have HR2 := hid har
                  subst x3
                  clear hP0 hP1 hj0 hj1 har hmr
                  by_cases hpp : P1 = P0
                  · subst hpp
                    have SAME2 := hid (show ∀ k, k < m + 1 → pI l (f (a + k)) = pI l (f a) from fun k hk => by
                      rcases Nat.lt_or_ge k m with q | q
                      · exact HSAME.out k q
                      · rw [show k = m by omega, ← HP1.out, ← HP0.out])
                    go_upto_region 11 with fail
                    go_region
                    all_goals go_wp2
                    all_goals (
                      go_roundg (r - (m + 1))
                      · exact ⟨m + 1, by omega, by go_num, by omega, SAME2.out, B9.out.drew⟩
                      · have := HMK.out; omega)
                  · have g6 : (P1 == P0) = false := by simpa using hpp
                    have EDG := hid (show pI l (f (a + m - 1)) ≠ pI l (f (a + m)) by
                      rw [show a + m - 1 = a + (m - 1) by omega, HSAME.out (m - 1) (by omega), ← HP0.out, ← HP1.out]
                      exact fun e => hpp e.symm)
                    go_upto_region 11 with fail
                    go_region
                    all_goals go_wp2
                    all_goals (
                      go_meet
                      exact ⟨m, rfl, hm0, by have := HR2.out; omega, HSAME.out, .inr (.inr EDG.out), B9.out.drew⟩)
            case rest =>
              obtain ⟨m, rfl, hm0, hmL, hsame, hedge, hb9⟩ := hcut
              obtain ⟨pa1, pa2⟩ := OO.out.parts hm0 hmL HE.out hedge hsame
              obtain ⟨vs1, vs2⟩ := vol_step HOK.out (v := vol) pa1 pa2
              rw [← HVF.out] at vs1 vs2
              have FA := hid (fun (k : Nat) (hk : k < m) => fill_at (v := vol) (rule := rule) OO.out hm0 hmL pa1 hsame hk)
              have HED := hid hedge
              have hsb := sum_seg_bound HOK.out f a (a + m)
              have W := hid (show qs l (seg f a (a + m)) = qs l (seg f a (a + m)) from rfl)
              have VS1 := hid vs1
              have VS2 := hid vs2
              have S9 := hid (SS.out.after hb9)
              have R9 := hid (RO.out.below hb9)
              have B9 := hid hb9
              have hml : m ≤ 4096 := by omega
              have hmk := mk_i64 wc m (by omega)
              have hmr : m ≤ r := by omega
              have hmr0 : (m : Int) ≤ (r : Int) := by omega
              have hm00 : (0 : Int) ≤ (m : Int) := by omega
              clear hsame hedge pa1 pa2 vs1 vs2 hb9
              go_upto_region 16 with fail
              have c9 : Below w8.heap.size w8 (wc.alloc (.cells (madeCells #[.int .i64 0] m) 2)) := B9.out.alloc B9.out.size _
              have W0 := hid (RowL.made wc m)
              have C9 := hid c9
              have hgw : w8.heap.size ≤ wc.heap.size := B9.out.size
              obtain ⟨gw, hgwe⟩ : ∃ gw, gw = wc.heap.size := ⟨_, rfl⟩
              rw [← hgwe] at W0 hgw ⊢
              have hw8 := SS.out.size
              clear c9 hgwe hmk
              go_loopg [85, 17] m (fun k s85 s17 wx => ∃ (c : Nat) (hW : Nat → Int), c + k = m ∧ s85 = .int .i64 c ∧ s17 = .int .i64 (sumI (qs l (seg f a (a + c)))) ∧ RowL wx gw m hW ∧ (∀ k, k < c → hW k = qI l (f (a + k))) ∧ Below w8.heap.size w8 wx)
              case atStart => exact ⟨0, _, by omega, rfl, by rw [seg_empty f (by omega)]; rfl, W0.out, fun k hk => absurd hk (Nat.not_lt_zero k), C9.out⟩
              case round =>
                obtain ⟨c, hW, hck, rfl, rfl, hrw, hlo, hbx⟩ := hrel
                have HCK := hid hck
                have RW := hid hrw
                have HLO := hid hlo
                have BX := hid hbx
                clear hck hrw hlo hbx W0 C9
                by_cases hcm : c < m
                · obtain ⟨j1, hj1, hj1l⟩ := OO.out.bid (k := a + c) (by omega)
                  obtain ⟨qv, hqv⟩ : ∃ qv, qv = qI l (f (a + c)) := ⟨_, rfl⟩
                  have hqb := q_nonneg HOK.out (f (a + c))
                  have hsb2 := sum_seg_bound HOK.out f a (a + c)
                  have hss := qs_seg_snoc l f (a := a) (b := a + c) (by omega)
                  obtain ⟨sm, hsm⟩ : ∃ sm, sm = sumI (qs l (seg f a (a + c))) := ⟨_, rfl⟩
                  have SN := hid (show sumI (qs l (seg f a (a + (c + 1)))) = sm + qv by rw [← Nat.add_assoc, hss, sumI_snoc, ← hsm, ← hqv])
                  rw [← hsm] at hsb2 ⊢
                  rw [← hqv] at hqb
                  have b2 : Below w8.heap.size w8 (wr.setCell ⟨gw, c, none⟩ (.int .i64 qv)) := BX.out.trans ((set_kept _ _ _ _).below BX.out.size (fun k hk => by omega))
                  obtain ⟨x1, x2, x3, _, x4, x6, x7, x8⟩ := GEO.out wr BX.out (a + c) (by omega) j1 hj1
                  obtain ⟨y1, y2, _, _, y4, _, _, _⟩ := GEO.out _ b2 (a + c) (by omega) j1 hj1
                  rw [← hqv] at x4 y4
                  have r1 := RW.out.cell hcm
                  have r2 := RW.out.froz c
                  have r3 := RW.out.lt
                  obtain ⟨u, hu⟩ : ∃ u, u = hW c := ⟨_, rfl⟩
                  rw [← hu] at r1
                  have HQ := hid hqv
                  have B2 := hid b2
                  have RW2 := hid (RW.out.set c qv)
                  have LO2 := hid (show ∀ k, k < c + 1 → (if k = c then qv else hW k) = qI l (f (a + k)) from fun k hk => by
                    by_cases e : k = c
                    · rw [if_pos e, e, HQ.out]
                    · rw [if_neg e]; exact HLO.out k (by omega))
                  have ew : IntKind.i64.wrap (sm + qv) = sm + qv := IntWalk.i64_in _ (by omega)
                  have g4 : (c : Int) < (m : Int) := by omega
                  have g5 : (0 : Int) ≤ (c : Int) := by omega
                  have z1 : (0 : Int) ≤ (j1 : Int) := by omega
                  have HJ1 := hid hj1
                  subst x3
                  clear hqv hsm hss hu b2 hj1
                  go_wp2
                  go_roundg (m - (c + 1))
                  · exact ⟨c + 1, _, by omega, by go_num, by rw [SN.out], RW2.out, LO2.out, B2.out⟩
                  · have := HCK.out; omega
                · have hcm2 : c = m := by have := HCK.out; omega
                  subst hcm2
                  have g4 : decide ((c : Int) < (c : Int)) = false := by simp
                  obtain ⟨W, hW0⟩ : ∃ W, W = qs l (seg f a (a + c)) := ⟨_, rfl⟩
                  have hWl : W.length = c := by rw [hW0, qs_len, seg_len]; omega
                  have hWb : ∀ y ∈ W, 0 ≤ y ∧ y ≤ 1000000000 := by rw [hW0]; exact qs_nonneg HOK.out _
                  have hWe : ∀ (k : Nat) (hk : k < W.length), hW k = W[k] := fun k hk => by
                    rw [HLO.out k (by omega)]; simp [hW0, qs, seg]
                  rw [← hW0] at hsb ⊢
                  have FA2 := hid (show ∀ k, k < c → fillF l sd x vol rule (f (a + k)) = (dealt rule (min (sumI W) vv) W).getD k 0 from fun k hk => by
                    rw [FA.out k hk, VS1.out, ← hW0])
                  have VN := hid (show volF l f vol (a + c) = vv - min (sumI W) vv by rw [VS2.out, ← hW0])
                  have hgwl := RW.out.lt
                  have WR := hid (fun (w9 : World) (hb : Below wr.heap.size wr w9) => show ReadsE encI 1 w9 (.slice (some ⟨gw, 0, none⟩) c c) W from
                    (OwnE.reads encI_len (RowL.own (RW.out.kept (Kept.of_below (X := fun _ => False) hb) id) hWl hWe (Nat.le_refl _) (by unfold maxLen; omega)) (by omega)))
                  have SUM := hid (show min (sumI W) vv ≤ sumI W from by omega)
                  obtain ⟨sm, hsm⟩ : ∃ sm, sm = sumI W := ⟨_, rfl⟩
                  rw [← hsm] at FA2 VN hsb SUM ⊢
                  obtain ⟨gt, hgt⟩ : ∃ gt, gt = min sm vv := ⟨_, rfl⟩
                  have hgb : 0 ≤ gt ∧ gt ≤ 4096000000000 ∧ gt ≤ vv := by omega
                  rw [← hgt] at FA2 VN SUM
                  have HGT := hid hgt
                  have BT := hid (byTime_calls (WR.out wr (Below.refl _ _)) (by rw [hWl]; exact hml) (fun y hy => (hWb y hy).1) (t := gt) (by omega))
                  have SP := hid (fun (w9 : World) (hb : Below wr.heap.size wr w9) => split_calls (WR.out w9 hb) (by rw [hWl]; exact hml) hWb (t := gt) ⟨hgb.1, by have := SUM.out; rw [← hsm]; exact this⟩)
                  have HWL := hid hWl
                  clear hW0 hWl hWb hWe hsm hgt
                  have ev : IntKind.i64.wrap (vv - gt) = vv - gt := IntWalk.i64_in _ (by omega)
                  obtain ⟨w9, rfl⟩ : ∃ w9 : World, w9 = wr := ⟨_, rfl⟩
                  go_upto_region 22 with fail
                  rw [← HGT.out]
                  go_wp2_with fail
                  refine BT.out.mono ?_
                  rintro e w5 ⟨v5, rfl, hr5, hb5⟩
                  have R5 := hid hr5
                  have B5 := hid hb5
                  clear hr5 hb5 BT
                  go_upto_if 113 with fail
                  go_cut [21] (fun s21 wx => RowI w8.heap.size wx s21 (dealt rule gt W) ∧ Below w8.heap.size w8 wx)
                  case first =>
                    by_cases hr2 : rule = 2
                    · have e1 : (rule == 2) = true := by simpa using hr2
                      have S2 := hid (SP.out w5 B5.out)
                      have DL := hid (show dealt rule gt W = splitL gt W by unfold dealt; rw [if_pos hr2])
                      clear hr2 SP
                      go_wp2_with fail
                      refine S2.out.mono ?_
                      rintro e w6 ⟨v6, rfl, hr6, hb6⟩
                      have FN := hid (show RowI w8.heap.size w6 v6 (dealt rule gt W) ∧ Below w8.heap.size w8 w6 from by
                        rw [DL.out]
                        exact ⟨hr6.mono (Nat.le_trans BX.out.size B5.out.size), (BX.out.trans (B5.out.mono BX.out.size)).trans (hb6.mono (Nat.le_trans BX.out.size B5.out.size))⟩)
                      clear hr6 hb6
                      go_wp2
                      go_meet
                      exact FN.out
                    · have e1 : (rule == 2) = false := by simpa using hr2
                      have FN := hid (show RowI w8.heap.size w5 v5 (dealt rule gt W) ∧ Below w8.heap.size w8 w5 from by
                        unfold dealt; rw [if_neg hr2]
                        exact ⟨R5.out.mono BX.out.size, BX.out.trans (B5.out.mono BX.out.size)⟩)
                      clear hr2
                      go_wp2
                      go_meet
                      exact FN.out
                  case rest =>
                    obtain ⟨hr6, hb6⟩ := hcut
                    have R6 := hid hr6
                    have B6 := hid hb6
                    clear hr6 hb6 R5 B5 SP WR
                    obtain ⟨D, hD⟩ : ∃ D, D = dealt rule gt W := ⟨_, rfl⟩
                    rw [← hD] at R6 FA2
                    have hDl : D.length = c := by rw [hD, dealt_len]; exact HWL.out
                    obtain ⟨p5, cap5, gs, hv5, hp5, hcell5⟩ := OwnE.cells encI_len R6.out
                    rw [hDl] at hv5
                    obtain ⟨rfl, hgs1, hgs2⟩ := hp5 (by omega)
                    have HC5 := hid hcell5
                    have HDL := hid hDl
                    subst hv5
                    clear hD hcell5 hDl hp5
                    have S6 := hid (SS.out.after B6.out)
                    have RO6 := hid (RO.out.below B6.out)
                    have hgl8 := RO.out.lt
                    go_upto_region 26 with fail
                    go_loopg [121] c (fun k s121 wx => ∃ (d : Nat) (h' : Nat → Int), d + k = c ∧ s121 = .int .i64 d ∧ SvS w (.slice p i cap) sd gf i h' wx ∧ Served l sd x vol rule f (a + d) h0 h' ∧ Row wx g L f ∧ Kept (fun k => k = gf) wc wx)
                    case atStart => exact ⟨0, h, by omega, rfl, S6.out, SV.out, RO6.out, Kept.refl _ _⟩
                    case round =>
                      obtain ⟨d, h', hdk, rfl, ss, sv, ro, hkk⟩ := hrel
                      have HDK := hid hdk
                      have SX := hid ss
                      have SY := hid sv
                      have RX := hid ro
                      have KX := hid hkk
                      clear hdk ss sv ro hkk S6 RO6
                      by_cases hdc : d < c
                      · obtain ⟨j1, hj1, hj1l⟩ := OO.out.bid (k := a + d) (by omega)
                        have hj1n : j1 < i := by rw [HN.out]; exact hj1l
                        have x1 := RX.out.cell (i := a + d) (by omega)
                        rw [hj1] at x1
                        have hdD : d < D.length := by rw [HDL.out]; exact hdc
                        have x2 := (cell_kept KX.out hgs2 (by omega) (d * 1 + 0)).trans (HC5.out d hdD 0 (by omega))
                        simp [encI] at x2
                        obtain ⟨u, hu⟩ : ∃ u, u = D[d] := ⟨_, rfl⟩
                        rw [← hu] at x2
                        have hue : u = fillF l sd x vol rule (f (a + d)) := by rw [FA2.out d hdc, hu]; simp [hdD]
                        have x3 := SX.out.fills.cell hj1n
                        have x4 := SX.out.fills.froz j1
                        have x5 := SX.out.fills.lt
                        have x6 := RX.out.lt
                        have x7 := KX.out.size
                        obtain ⟨u0, hu0⟩ : ∃ u0, u0 = h' j1 := ⟨_, rfl⟩
                        rw [← hu0] at x3
                        have SX2 := hid (SX.out.fill j1 u)
                        have SY2 := hid (SY.out.next OO.out (by omega) hj1 hue)
                        have RX2 := hid (RX.out.kept (set_kept wr gf j1 (.int .i64 u)) (by have := SS.out.low; omega))
                        have KX2 := hid (KX.out.trans (set_kept wr gf j1 (.int .i64 u)) (fun _ _ e => e))
                        have g4 : (d : Int) < (c : Int) := by omega
                        have g5 : (0 : Int) ≤ (d : Int) := by omega
                        have g6 : (j1 : Int) < (i : Int) := by omega
                        have z1 : (0 : Int) ≤ (j1 : Int) := by omega
                        clear hu hue hu0 hj1
                        go_wp2
                        go_roundg (c - (d + 1))
                        · exact ⟨d + 1, _, by omega, by go_num, SX2.out, by rw [← Nat.add_assoc]; exact SY2.out, RX2.out, KX2.out⟩
                        · have := HDK.out; omega
                      · have hdc2 : d = c := by have := HDK.out; omega
                        subst hdc2
                        have g4 : decide ((d : Int) < (d : Int)) = false := by simp
                        go_wp2
                        all_goals (
                          go_roundg (r - d)
                          · exact ⟨r - d, a + d, _, _, h', rfl, by omega, rfl, fun hh => by first | exact ⟨rfl, by omega⟩ | omega, by rw [VN.out], HED.out, RX.out, SX.out, SY.out⟩
                          · have := HRK.out; omega)
end Go.Proofs.YtepldjidkomclaaGreat.Ca
namespace Go.Proofs.YtepldjidkomclaaGreat.Ca
set_option linter.unusedSimpArgs false
set_option linter.unusedVariables false
open Go.RowKit
/-- A result and an error. -/
structure ResT where
  p : Int
  v : Int
  s : Int
  f : List Int
  e : Int
def stageF (l : List Bd) (x v rule : Int) : Nat → Nat → Int
  | 0 => fun _ => 0
  | 1 => servedF l 1 x v rule (fun _ => 0)
  | _ => servedF l 2 x v rule (servedF l 1 x v rule (fun _ => 0))
/-- The fill of a bid. -/
def fillOf (l : List Bd) (x v rule : Int) (i : Nat) : Int := if part 2 x (bAt l i) = true then fillF l 2 x v rule i else if part 1 x (bAt l i) = true then fillF l 1 x v rule i else 0
def fillsL (l : List Bd) (x v rule : Int) : List Int := (List.range l.length).map (fillOf l x v rule)
theorem stage_two (l : List Bd) (x v rule : Int) (i : Nat) : stageF l x v rule 2 i = fillOf l x v rule i := rfl
theorem fillsL_len (l : List Bd) (x v rule : Int) : (fillsL l x v rule).length = l.length := by simp [fillsL]
theorem fillsL_get (l : List Bd) (x v rule : Int) (i : Nat) (hi : i < (fillsL l x v rule).length) : (fillsL l x v rule)[i] = fillOf l x v rule i := by simp [fillsL]
/-- What clearing at a price gives. -/
def clrF (l : List Bd) (x rule : Int) : ResT := if min (dem l x) (sup l x) = 0 then ⟨0, 0, 0, [], 30⟩ else ⟨x, min (dem l x) (sup l x), dem l x - sup l x, fillsL l x (min (dem l x) (sup l x)) rule, 0⟩
/-- A result that is returned. -/
def ResP (B : Nat) (r : ResT) (e : Ending) (w' : World) : Prop := ∃ vf, e = .returned (.tuple #[.agg #[.int .i64 r.p, .int .i64 r.v, .int .i64 r.s, vf], .int .i64 r.e]) ∧ RowI B w' vf r.f
theorem part_two {x : Int} {b : Bd} (h : part 2 x b = true) : part 1 x b = false := by unfold part at *; simp at h ⊢; omega
theorem stage_zero {l : List Bd} {x v rule : Int} {i : Nat} (hp : part 2 x (bAt l i) = true) : stageF l x v rule 1 i = 0 := by
  show servedF l 1 x v rule (fun _ => 0) i = 0
  unfold servedF
  rw [if_neg (by rw [part_two hp]; decide)]
/-- Four cells written anew. -/
def set4 (w : World) (B : Nat) (v0 v1 v2 v3 : Value) : World := (((w.setCell ⟨B, 0, none⟩ v0).setCell ⟨B, 1, none⟩ v1).setCell ⟨B, 2, none⟩ v2).setCell ⟨B, 3, none⟩ v3
theorem set4_spec {w : World} {B : Nat} {a0 a1 a2 a3 : Value} {ty : TypeId} (h : Cells w B #[a0, a1, a2, a3] ty) (v0 v1 v2 v3 : Value) : Cells (set4 w B v0 v1 v2 v3) B #[v0, v1, v2, v3] ty ∧ Kept (fun k => k = B) w (set4 w B v0 v1 v2 v3) := by
  refine ⟨?_, (((set_kept w B 0 v0).trans (set_kept _ _ 1 v1) (fun _ _ e => e)).trans (set_kept _ _ 2 v2) (fun _ _ e => e)).trans (set_kept _ _ 3 v3) (fun _ _ e => e)⟩
  have := (((h.set 0 v0).set 1 v1).set 2 v2).set 3 v3
  exact this
/-- The sum of a side's quantities, by places. -/
theorem idsTo_sum {l : List Bd} {sd x : Int} {f : Bd → Bool} (hf : ∀ b ∈ l, part sd x b = f b) : ∀ n, n ≤ l.length → sumI (qs l (idsTo l sd x n)) = sumQ f (l.take n)
  | 0, _ => by simp [idsTo, qs, sumI, sumQ]
  | n + 1, h => by
    have hn : n < l.length := by omega
    rw [idsTo_succ, qs_app, sumI_app, idsTo_sum hf n (by omega), take_snoc hn, sumQ_snoc, bAt_get hn, hf _ (List.getElem_mem hn)]
    congr 1
    by_cases hp : f l[n] = true
    · rw [if_pos hp, if_pos hp]
      simp [qs, sumI, qI, bAt_get hn]
    · rw [if_neg hp, if_neg hp]; rfl
theorem part_buy {l : List Bd} {x : Int} : ∀ b ∈ l, part 1 x b = buyT x b := fun b _ => by
  unfold part buyT Bd.takes
  by_cases h : b.s = 1
  · simp [h]
  · simp [h]
theorem part_sell {l : List Bd} (hok : ∀ b ∈ l, b.ok) {x : Int} : ∀ b ∈ l, part 2 x b = selT x b := fun b hb => by
  have := (hok b hb).1
  unfold part selT Bd.takes
  by_cases h : b.s = 1
  · simp [h]
  · have : b.s = 2 := by omega
    simp [this]
theorem ids_buy (l : List Bd) (x : Int) : sumI (qs l (ids l 1 x)) = dem l x := by
  unfold ids dem
  rw [idsTo_sum part_buy l.length (Nat.le_refl _), List.take_length]
theorem ids_sell {l : List Bd} (hok : ∀ b ∈ l, b.ok) (x : Int) : sumI (qs l (ids l 2 x)) = sup l x := by
  unfold ids sup
  rw [idsTo_sum (part_sell hok) l.length (Nat.le_refl _), List.take_length]
theorem ids_some {l : List Bd} (hok : ∀ b ∈ l, b.ok) {x : Int} (h : min (dem l x) (sup l x) ≠ 0) : ids l 1 x ≠ [] ∧ ids l 2 x ≠ [] := by
  have h1 := sumQ_bound (buyT x) hok
  have h2 := sumQ_bound (selT x) hok
  have e1 := ids_buy l x
  have e2 := ids_sell hok x
  unfold dem at *
  unfold sup at *
  constructor
  · intro h0
    rw [h0] at e1
    simp [qs, sumI] at e1
    omega
  · intro h0
    rw [h0] at e2
    simp [qs, sumI] at e2
    omega
end Go.Proofs.YtepldjidkomclaaGreat.Ca
namespace Go.Proofs.YtepldjidkomclaaGreat.Ca
set_option linter.unusedSimpArgs false
set_option linter.unusedVariables false
open Go.RowKit
attribute [local go_sem] Oper.semAt_some
attribute [local go_sem ↓] Go.wp_at_zero Go.wp_at_succ
def wOk (l : List Int) : Prop := ∀ x ∈ l, 0 ≤ x ∧ x ≤ 1000000000
instance (l : List Int) : Decidable (wOk l) := by unfold wOk; infer_instance
/-- What Split answers. -/
def splF (t : Int) (l : List Int) : List Int × Int := if 4096 < l.length then ([], 2) else if wOk l then (if 0 ≤ t ∧ t ≤ sumI l then (splitL t l, 0) else ([], 1)) else ([], 1)
def SplP (B : Nat) (r : List Int × Int) (e : Ending) (w' : World) : Prop := ∃ vf, e = .returned (.tuple #[vf, .int .i64 r.2]) ∧ RowI B w' vf r.1
theorem inC_of {x lo hi : Int} : inC x lo hi = decide (lo ≤ x ∧ x ≤ hi) := by unfold inC; by_cases h1 : lo ≤ x <;> by_cases h2 : x ≤ hi <;> simp [h1, h2]

set_option maxRecDepth 100000 in
set_option maxHeartbeats 4000000 in
theorem splitf_calls {w : World} {v : Value} {l : List Int} (hv : ReadsE encI 1 w v l) (t : Int) :
    Calls Tryz.prog 13 #[.int .i64 t, v] w fun e w' => SplP w.heap.size (splF t l) e w' ∧ Below w.heap.size w w' := by
  obtain ⟨R, hR⟩ : ∃ R : Ending → World → Prop, R = fun e w' => SplP w.heap.size (splF t l) e w' ∧ Below w.heap.size w w' := ⟨_, rfl⟩
  rw [← hR]
  have FM := hid (show ∀ (r : List Int × Int) (vf : Value) w', splF t l = r → RowI w.heap.size w' vf r.1 → Below w.heap.size w w' → R (.returned (.tuple #[vf, .int .i64 r.2])) w' from fun r vf w' h1 h2 h3 => by rw [hR, h1]; exact ⟨⟨vf, rfl, h2⟩, h3⟩)
  clear hR
  have HV := hid hv
  have IN := hid (fun x lo hi wx => in_calls x lo hi wx)
  obtain ⟨hm, p, cap, bb, off, rfl, hp, hc⟩ := hv
  unfold splF at FM
  obtain ⟨n, hn⟩ : ∃ n, n = l.length := ⟨_, rfl⟩
  rw [← hn] at hp hm FM HV ⊢
  have HN := hid hn
  have HP := hid hp
  have HC := hid hc
  have hn0 : (0 : Int) ≤ (n : Int) := by omega
  by_cases hbig : 4096 < n
  · rw [if_pos hbig] at FM
    have g1 : (4096 : Int) < (n : Int) := by omega
    have FN := hid (FM.out _ (.slice none 0 0) w rfl (OwnE.nil _ _) (Below.refl _ _))
    clear hn hp hc hbig FM
    go_enter Tryz.func13, Tryz.ntmps13
    go_wp2
    first | exact FN.out | exact bodyPost_ret (by simp [results, Tryz.results13, go_sem]) rfl FN.out
  · rw [if_neg hbig] at FM
    have g1 : ¬ (4096 : Int) < (n : Int) := by omega
    have BAD := hid (show ∀ i (hi : i < l.length), inC l[i] 0 1000000000 = false → R (.returned (.tuple #[.slice none 0 0, .int .i64 1])) w from fun i hi h => by
      refine FM.out _ _ w (if_neg fun q => ?_) (OwnE.nil _ _) (Below.refl _ _)
      have := q _ (List.getElem_mem hi)
      rw [inC_of] at h
      exact of_decide_eq_false h this)
    have GOOD := hid (show wOk l → ∀ (r : List Int × Int) (vf : Value) w', (if 0 ≤ t ∧ t ≤ sumI l then (splitL t l, 0) else ([], 1)) = r → RowI w.heap.size w' vf r.1 → Below w.heap.size w w' → R (.returned (.tuple #[vf, .int .i64 r.2])) w' from fun q r vf w' h1 h2 h3 => FM.out r vf w' (by rw [if_pos q]; exact h1) h2 h3)
    clear hn hp hc hbig FM
    go_enter Tryz.func13, Tryz.ntmps13
    go_upto_region 5 with fail
    go_loopg [14, 6] n (fun k s14 s6 wr => ∃ i : Nat, i + k = n ∧ s14 = .int .i64 i ∧ s6 = .int .i64 (sumI (l.take i)) ∧ wOk (l.take i) ∧ wr = w)
    case atStart => exact ⟨0, by omega, rfl, rfl, by intro x hx; simp at hx, rfl⟩
    case round =>
      obtain ⟨i, hik, rfl, rfl, hok, rfl⟩ := hrel
      have HIK := hid hik
      have HOK := hid hok
      have hsb := sumI_bound hok
      rw [List.length_take] at hsb
      clear hik hok
      by_cases hin : i < n
      · have hil : i < l.length := by rw [← HN.out]; exact hin
        obtain ⟨rfl, hbb⟩ := HP.out (by omega)
        have c0 := HC.out i hil 0 (by omega)
        simp [encI] at c0
        obtain ⟨x, hx⟩ : ∃ x, x = l[i] := ⟨_, rfl⟩
        rw [← hx] at c0
        have gi : (i : Int) < (n : Int) := by omega
        have gi0 : (0 : Int) ≤ (i : Int) := by omega
        have BX := hid (BAD.out i hil)
        rw [← hx] at BX
        have SN := hid (show sumI (l.take (i + 1)) = sumI (l.take i) + x by rw [take_snoc hil, sumI_snoc, ← hx])
        have ON := hid (show inC x 0 1000000000 = true → wOk (l.take (i + 1)) from fun h y hy => by
          rw [take_snoc hil, ← hx] at hy
          rcases List.mem_append.1 hy with q | q
          · exact HOK.out y q
          · rw [List.mem_singleton.1 q]
            rw [inC_of] at h
            exact of_decide_eq_true h)
        have IX := hid (fun wx => IN.out x 0 1000000000 wx)
        obtain ⟨a, ha⟩ : ∃ a, a = sumI (l.take i) := ⟨_, rfl⟩
        rw [← ha] at SN hsb ⊢
        obtain ⟨b, hb⟩ : ∃ b, b = inC x 0 1000000000 := ⟨_, rfl⟩
        rw [← hb] at IX BX ON
        have HB := hid hb
        clear hx ha hb
        cases b with
        | true =>
          have hxb : 0 ≤ x ∧ x ≤ 1000000000 := by have := HB.out; rw [inC_of] at this; exact of_decide_eq_true this.symm
          have ew : IntKind.i64.wrap (a + x) = a + x := IntWalk.i64_in _ (by omega)
          have O2 := hid (ON.out rfl)
          go_wp2_with (go_at_call 28; refine (IX.out _).mono ?_; rintro e w3 ⟨rfl, hw3⟩; subst hw3)
          go_roundg (n - (i + 1))
          · exact ⟨i + 1, by omega, by go_num, by rw [SN.out], O2.out, rfl⟩
          · have := HIK.out; omega
        | false =>
          have FN := hid (BX.out rfl)
          go_wp2_with (go_at_call 28; refine (IX.out _).mono ?_; rintro e w3 ⟨rfl, hw3⟩; subst hw3)
          first | exact FN.out | exact bodyPost_ret (by simp [results, Tryz.results13, go_sem]) rfl FN.out
      · have hin' : i = n := by have := HIK.out; omega
        subst hin'
        have g2 : decide ((i : Int) < (i : Int)) = false := by simp
        have hlt : l.take i = l := by rw [HN.out, List.take_length]
        have hok := HOK.out
        rw [hlt] at hok hsb ⊢
        have GD := hid (GOOD.out hok)
        have IX := hid (fun wx => IN.out t 0 (sumI l) wx)
        rw [inC_of] at IX
        have SP := hid (fun h => split_calls HV.out (by rw [← HN.out]; omega) hok (t := t) h)
        obtain ⟨S, hS⟩ : ∃ S, S = sumI l := ⟨_, rfl⟩
        rw [← hS] at GD IX SP hsb ⊢
        clear hlt hS hok
        by_cases ht : 0 ≤ t ∧ t ≤ S
        · rw [decide_eq_true ht] at IX
          rw [if_pos ht] at GD
          have S2 := hid (SP.out ht)
          clear ht SP
          go_wp2_with (go_at_call 28; refine (IX.out _).mono ?_; rintro e w3 ⟨rfl, hw3⟩; subst hw3)
          refine S2.out.mono ?_
          rintro e w5 ⟨v5, rfl, hr5, hb5⟩
          have FN := hid (GD.out _ v5 w5 rfl hr5 hb5)
          clear hr5 hb5
          go_wp2
          first | exact FN.out | exact bodyPost_ret (by simp [results, Tryz.results13, go_sem]) rfl FN.out
        · rw [decide_eq_false ht] at IX
          rw [if_neg ht] at GD
          have FN := hid (GD.out _ (.slice none 0 0) wr rfl (OwnE.nil _ _) (Below.refl _ _))
          clear ht SP
          go_wp2_with (go_at_call 28; refine (IX.out _).mono ?_; rintro e w3 ⟨rfl, hw3⟩; subst hw3)
          first | exact FN.out | exact bodyPost_ret (by simp [results, Tryz.results13, go_sem]) rfl FN.out
end Go.Proofs.YtepldjidkomclaaGreat.Ca
namespace Go.Proofs.YtepldjidkomclaaGreat.Ca
set_option linter.unusedSimpArgs false
set_option linter.unusedVariables false
open Go.RowKit
attribute [local go_sem] Oper.semAt_some
attribute [local go_sem ↓] Go.wp_at_zero Go.wp_at_succ
def Zn.val (z : Zn) : Value := .agg #[.int .i64 z.f, .int .i64 z.t, .int .i64 z.d, .int .i64 z.s]
/-- Within the reach of a walk. -/
def Zn.ok (z : Zn) : Prop := 1 ≤ z.f ∧ z.f ≤ z.t ∧ z.t ≤ 1000000 ∧ 0 ≤ z.d ∧ z.d ≤ 5000000000000 ∧ 0 ≤ z.s ∧ z.s ≤ 5000000000000
def Zn.vol (z : Zn) : Int := min z.d z.s
def Zn.sur (z : Zn) : Int := z.d - z.s
def siz (x : Int) : Int := max x (-x)
/-- The price of a zone, if all zones lean that way. -/
def Zn.pk (z : Zn) (way ref : Int) : Int := if way = 1 then z.t else if way = -1 then z.f else min (max ref z.f) z.t
theorem volume_calls (z : Zn) (w : World) : Calls Tryz.prog 64 #[z.val] w fun e w' => e = .returned (.int .i64 z.vol) ∧ Below w.heap.size w w' := by
  unfold Zn.val Zn.vol
  go_enter Tryz.func64, Tryz.ntmps64
  go_wp2
  go_ret
  exact ⟨by simp, Below.alloc (Below.refl _ _) (Nat.le_refl _) _⟩
theorem surplus_calls (z : Zn) (hz : z.ok) (w : World) : Calls Tryz.prog 67 #[z.val] w fun e w' => e = .returned (.int .i64 z.sur) ∧ Below w.heap.size w w' := by
  unfold Zn.val Zn.sur
  obtain ⟨h1, h2, h3, h4, h5, h6, h7⟩ := hz
  have e1 : IntKind.i64.wrap (z.d - z.s) = z.d - z.s := IntWalk.i64_in _ (by omega)
  go_enter Tryz.func67, Tryz.ntmps67
  go_wp2
  go_ret
  exact ⟨by simp, Below.alloc (Below.refl _ _) (Nat.le_refl _) _⟩
theorem sized_calls (x : Int) (hx : -9000000000000000000 ≤ x ∧ x ≤ 9000000000000000000) (w : World) : Calls Tryz.prog 66 #[.int .i64 x] w fun e w' => e = .returned (.int .i64 (siz x)) ∧ w' = w := by
  unfold siz
  have e1 : IntKind.i64.wrap (-x) = -x := IntWalk.i64_in _ (by omega)
  go_enter Tryz.func66, Tryz.ntmps66
  go_wp2
  go_ret
  exact ⟨by simp, rfl⟩
theorem pick_calls (z : Zn) (way ref : Int) (w : World) : Calls Tryz.prog 70 #[z.val, .int .i64 way, .int .i64 ref] w fun e w' => e = .returned (.int .i64 (z.pk way ref)) ∧ Below w.heap.size w w' := by
  unfold Zn.val Zn.pk
  by_cases h1 : way = 1
  · subst h1
    go_enter Tryz.func70, Tryz.ntmps70
    go_wp2
    go_ret
    exact ⟨by simp, Below.alloc (Below.refl _ _) (Nat.le_refl _) _⟩
  · have e1 : (way == 1) = false := by simpa using h1
    rw [if_neg h1]
    by_cases h2 : way = -1
    · subst h2
      go_enter Tryz.func70, Tryz.ntmps70
      go_wp2
      go_ret
      exact ⟨by simp, Below.alloc (Below.refl _ _) (Nat.le_refl _) _⟩
    · have e2 : (way == -1) = false := by simpa using h2
      rw [if_neg h2]
      clear h1 h2
      go_enter Tryz.func70, Tryz.ntmps70
      go_wp2
      go_ret
      exact ⟨by simp, Below.alloc (Below.refl _ _) (Nat.le_refl _) _⟩
end Go.Proofs.YtepldjidkomclaaGreat.Ca
namespace Go.Proofs.YtepldjidkomclaaGreat.Ca
set_option linter.unusedSimpArgs false
set_option linter.unusedVariables false
open Go.RowKit
/-- A block whose first n elements are the zones of a function. -/
def RowS (w : World) (g cap n : Nat) (f : Nat → Zn) : Prop := ∃ cs, Cells w g cs 132 ∧ cs.size = cap * 4 ∧ n ≤ cap ∧ cap ≤ maxLen ∧ ∀ k, k < n → ∀ c, c < 4 → cs[k * 4 + c]? = (encZn (f k))[c]?
theorem RowS.cell {w : World} {g cap n : Nat} {f : Nat → Zn} (h : RowS w g cap n f) {i : Nat} (hi : i < n) : w.cell? ⟨g, i * 4, none⟩ = some (.int .i64 (f i).f) ∧ w.cell? ⟨g, i * 4 + 1, none⟩ = some (.int .i64 (f i).t) ∧ w.cell? ⟨g, i * 4 + 2, none⟩ = some (.int .i64 (f i).d) ∧ w.cell? ⟨g, i * 4 + 3, none⟩ = some (.int .i64 (f i).s) := by
  obtain ⟨cs, hc, _, _, _, hz⟩ := h
  refine ⟨?_, ?_, ?_, ?_⟩
  · rw [hc.cell]; exact hz i hi 0 (by omega)
  · rw [hc.cell]; exact hz i hi 1 (by omega)
  · rw [hc.cell]; exact hz i hi 2 (by omega)
  · rw [hc.cell]; exact hz i hi 3 (by omega)
theorem RowS.froz {w : World} {g cap n : Nat} {f : Nat → Zn} (h : RowS w g cap n f) (i : Nat) : w.frozen? ⟨g, i, none⟩ = false := by
  obtain ⟨cs, hc, _⟩ := h
  exact hc.frozen i
theorem RowS.lt {w : World} {g cap n : Nat} {f : Nat → Zn} (h : RowS w g cap n f) : g < w.heap.size := by
  obtain ⟨cs, hc, _⟩ := h
  exact hc.lt
theorem RowS.kept {X : Nat → Prop} {w w' : World} {g cap n : Nat} {f : Nat → Zn} (h : RowS w g cap n f) (hk : Kept X w w') (hx : ¬ X g) : RowS w' g cap n f := by
  obtain ⟨cs, hc, hz⟩ := h
  exact ⟨cs, hc.kept hk hx, hz⟩
theorem RowS.congr {w : World} {g cap n : Nat} {f f' : Nat → Zn} (h : RowS w g cap n f) (e : ∀ i, i < n → f' i = f i) : RowS w g cap n f' := by
  obtain ⟨cs, hc, h1, h2, h3, hz⟩ := h
  exact ⟨cs, hc, h1, h2, h3, fun i hi => by rw [e i hi]; exact hz i hi⟩
theorem RowS.set {w : World} {g cap n : Nat} {f : Nat → Zn} (h : RowS w g cap n f) {i : Nat} (hi : i < n) (z : Zn) :
    RowS ((((w.setCell ⟨g, i * 4, none⟩ (.int .i64 z.f)).setCell ⟨g, i * 4 + 1, none⟩ (.int .i64 z.t)).setCell ⟨g, i * 4 + 2, none⟩ (.int .i64 z.d)).setCell ⟨g, i * 4 + 3, none⟩ (.int .i64 z.s)) g cap n (fun k => if k = i then z else f k) := by
  obtain ⟨cs, hc, h1, h2, h3, hz⟩ := h
  refine ⟨_, (((hc.set _ _).set _ _).set _ _).set _ _, by simp [h1], h2, h3, fun k hk c hc4 => ?_⟩
  have hsz : i * 4 + 3 < cs.size := by omega
  have hsk : k * 4 + 3 < cs.size := by omega
  have hz' := hz k hk c hc4
  by_cases e : k = i
  · subst e
    simp only [if_true]
    rcases (show c = 0 ∨ c = 1 ∨ c = 2 ∨ c = 3 by omega) with rfl | rfl | rfl | rfl <;> simp [encZn, Array.getElem?_setIfInBounds, hsz, show k * 4 < cs.size by omega, show k * 4 + 1 < cs.size by omega, show k * 4 + 2 < cs.size by omega]
  · simp only [if_neg e]
    rw [Array.getElem?_setIfInBounds_ne (by omega), Array.getElem?_setIfInBounds_ne (by omega), Array.getElem?_setIfInBounds_ne (by omega), Array.getElem?_setIfInBounds_ne (by omega)]
    exact hz'
theorem RowS.of {B : Nat} {w : World} {g n cap : Nat} {l : List Zn} (h : OwnE encZn 4 132 B w (.slice (some ⟨g, 0, none⟩) n cap) l) : RowS w g cap l.length (fun k => l.getD k ⟨0, 0, 0, 0⟩) := by
  obtain ⟨hn, hg, hB, hcell⟩ := OwnE.cellsAt encZn_len h
  subst hn
  rcases h.2 with ⟨h1, h2⟩ | ⟨g', cap', cur, hv, hb, hgc, h3, h4, h5, h6⟩
  · cases h1
  · cases hv
    refine ⟨cur, hgc, h5, h3, h4, fun k hk c hc => ?_⟩
    have := hcell k hk c hc
    rw [(show Cells w g cur 132 from hgc).cell] at this
    rw [this]
    simp [hk]
theorem RowS.own {w : World} {g cap n : Nat} {f : Nat → Zn} (h : RowS w g cap n f) {l : List Zn} (hl : l.length ≤ n) (he : ∀ (k : Nat) (hk : k < l.length), f k = l[k]) {B : Nat} (hB : B ≤ g) : OwnE encZn 4 132 B w (.slice (some ⟨g, 0, none⟩) l.length cap) l := by
  obtain ⟨cs, hc, h1, h2, h3, hz⟩ := h
  have hfl := flatE_length encZn_len l
  refine ⟨hfl, .inr ⟨g, cap, cs, rfl, hB, hc, by omega, h3, h1, ?_⟩⟩
  apply List.ext_getElem?
  intro j
  rw [List.getElem?_take, Array.getElem?_toList]
  by_cases hj : j < l.length * 4
  · rw [if_pos hj]
    have h4 := hz (j / 4) (by omega) (j % 4) (by omega)
    rw [show j / 4 * 4 + j % 4 = j by omega, he (j / 4) (by omega)] at h4
    have h5 := flatE_get encZn_len l (j / 4) (by omega) (j % 4) (by omega)
    rw [show j / 4 * 4 + j % 4 = j by omega] at h5
    rw [h4, h5]
  · rw [if_neg hj, List.getElem?_eq_none (by rw [hfl]; omega)]
theorem cells_setCells {w : World} {g : Nat} {ty : TypeId} (vs : List Value) : ∀ (o : Nat) (w : World) (cs : Array Value), Cells w g cs ty → ∃ cs', Cells (w.setCells g o vs) g cs' ty ∧ cs'.size = cs.size ∧ (∀ j, j < o → cs'[j]? = cs[j]?) ∧ Kept (fun k => k = g) w (w.setCells g o vs) := by
  induction vs with
  | nil => exact fun o w cs h => ⟨cs, h, rfl, fun _ _ => rfl, Kept.refl _ _⟩
  | cons v vs ih =>
    intro o w cs h
    obtain ⟨cs', h1, h2, h3, h4⟩ := ih (o + 1) (w.setCell ⟨g, o, none⟩ v) _ (h.set o v)
    refine ⟨cs', h1, by rw [h2]; simp, fun j hj => ?_, ((Kept.refl (fun k => k = g) w).set (C := g) rfl o v).trans h4 (fun _ _ e => e)⟩
    rw [h3 j (by omega), Array.getElem?_setIfInBounds_ne (by omega)]
theorem undZs : Tryz.prog.underlying 129 = some (.slice 132) := by kernel_rfl
theorem zeroZs (w : World) : (zeroValue 132).run Tryz.prog w = .ok (.agg #[.int .i64 0, .int .i64 0, .int .i64 0, .int .i64 0]) w := by kernel_rfl
/-- clear of a slice of zones. -/
theorem clear_zones (w : World) (b o n c : Nat) (hn : 0 < n) (hc : ∀ j, j < n * 4 → (w.cell? ⟨b, o + j, none⟩).isSome = true) (hf : ∀ j, j < n * 4 → w.frozen? ⟨b, o + j, none⟩ = false) (ty : TypeId) :
    (Builtin.clear_ #[129] ty #[.slice (some ⟨b, o, none⟩) n c]).run Tryz.prog w = .ok (.tuple #[]) (w.setCells b o (List.replicate (n * 4) (.int .i64 0))) := by
  have hzc : (Builtin.zeroCells (Value.agg #[.int .i64 0, .int .i64 0, .int .i64 0, .int .i64 0]).cells n).toList = List.replicate (n * 4) (Value.int .i64 0) := by
    simp only [Builtin.zeroCells]
    apply List.ext_getElem
    · simp [Value.cells]
    · intro i h1 h2
      have : i % 4 < 4 := Nat.mod_lt _ (by omega)
      simp [Value.cells]
      rcases (show i % 4 = 0 ∨ i % 4 = 1 ∨ i % 4 = 2 ∨ i % 4 = 3 by omega) with h | h | h | h <;> simp [h]
  have hst := run_storeCells_cells (P := Tryz.prog) b o (List.replicate (n * 4) (Value.int .i64 0)) 0 w (by simpa using hc) (by simpa using hf) (by intro v hv'; rw [List.eq_of_mem_replicate hv']; rfl)
  simp only [Nat.add_zero] at hst
  obtain ⟨m, rfl⟩ : ∃ m, n = m + 1 := ⟨n - 1, by omega⟩
  simp [Builtin.clear_, run_underlying undZs, zeroZs, hzc, hst]
end Go.Proofs.YtepldjidkomclaaGreat.Ca
namespace Go.Proofs.YtepldjidkomclaaGreat.Ca
set_option linter.unusedSimpArgs false
set_option linter.unusedVariables false
open Go.RowKit
attribute [local go_sem] Oper.semAt_some
attribute [local go_sem ↓] Go.wp_at_zero Go.wp_at_succ
/-- The contract of a function value over zones: it may change blocks of X and allocate; it stands on I, which changes of blocks of Y leave alone. -/
structure FnC {ρ : Type} (en : ρ → Value) (fid : Nat) (cb : Array Value) (F : Zn → ρ) (X Y : Nat → Prop) (I : World → Prop) (dom : Zn → Prop) : Prop where
  eg : ∀ args w, (callFunc fid args).run Tryz.prog w = .ok (.enter fid args) w
  call : ∀ w z, I w → dom z → Calls Tryz.prog fid (#[.agg #[.int .i64 z.f, .int .i64 z.t, .int .i64 z.d, .int .i64 z.s]] ++ cb) w fun e w' => e = .returned (en (F z)) ∧ I w' ∧ Kept X w w'
  stay : ∀ w w', I w → Kept Y w w' → I w'
  apart : ∀ k, X k → ¬ Y k
def IdxP (n : Nat) (f : Nat → Zn) (P : Zn → Bool) (X : Nat → Prop) (I : World → Prop) (w : World) (e : Ending) (w' : World) : Prop :=
  I w' ∧ Kept X w w' ∧ ((∃ i : Nat, i < n ∧ P (f i) = true ∧ (∀ k, k < i → P (f k) = false) ∧ e = .returned (.int .i64 i)) ∨ ((∀ k, k < n → P (f k) = false) ∧ e = .returned (.int .i64 (-1))))
theorem wpList_clear_run {P : Program} {w : World} {ops : Array Oper} {rest : List Oper} {o : Oper} {a : Act} {Q : Exit → Act → World → Prop} (hgd : o.guard = none) (s : Operand) (t : TypeId)
    (ho : o.op = .call { callee := .builtin .clear, args := #[s], argTypes := #[t] }) (sv : Value) (w' : World) (hs : a.eval s = sv) (hrun : (Builtin.clear_ #[t] o.type #[sv]).run P w = .ok (.tuple #[]) w') (h : wpList P ops Q rest (a.put o.dst (.tuple #[])) w') :
    wpList P ops Q (o :: rest) a w := by
  refine wpList_plain hgd fun K hK => ?_
  unfold Oper.wp
  simp [execOp, ho, resolve, invoke, builtin, hs, hrun, Result.andThen]
  exact hK _ _ h

set_option maxRecDepth 100000 in
set_option maxHeartbeats 4000000 in
theorem idx_calls {w : World} {g cap n : Nat} {f : Nat → Zn} (h : RowS w g cap n f) (hn : n ≤ 5000) {fid : Nat} {cb : Array Value} {P : Zn → Bool} {X Y : Nat → Prop} {I : World → Prop} {dom : Zn → Prop} (hf : FnC Value.bool fid cb P X Y I dom) (hI : I w) (hd : ∀ k, k < n → dom (f k)) (hg : Y g) :
    Calls Tryz.prog 111 #[.slice (some ⟨g, 0, none⟩) n cap, .func (.func fid) #[] cb] w (IdxP n f P X I w) := by
  obtain ⟨R, hR⟩ : ∃ R, R = IdxP n f P X I w := ⟨_, rfl⟩
  rw [← hR]
  have HR := hid hR
  have H := hid h
  have HF := hid hf
  have HI := hid hI
  have HD := hid hd
  have eg := hf.eg
  have hxg : ¬ X g := fun hx => hf.apart g hx hg
  clear hR h hf hI hd
  go_enter Tryz.func111, Tryz.ntmps111
  go_upto_region 2 with fail
  go_loopg [8] n (fun k s8 wr => ∃ i : Nat, i + k = n ∧ s8 = .int .i64 i ∧ (∀ k, k < i → P (f k) = false) ∧ I wr ∧ Kept X w wr)
  case atStart => exact ⟨0, by omega, rfl, fun k hk => by omega, HI.out, Kept.refl _ _⟩
  case round =>
    obtain ⟨i, hik, rfl, hno, hi, hk⟩ := hrel
    have HIK := hid hik
    have HNO := hid hno
    have HI2 := hid hi
    have HK := hid hk
    clear hik hno hi hk
    by_cases hin : i < n
    · have rw2 := H.out.kept HK.out hxg
      obtain ⟨c0, c1, c2, c3⟩ := rw2.cell hin
      have hl := rw2.lt
      have gi : (i : Int) < (n : Int) := by omega
      have gi4 : (0 : Int) ≤ (i : Int) := by omega
      obtain ⟨z, hz⟩ : ∃ z, z = f i := ⟨_, rfl⟩
      rw [← hz] at c0 c1 c2 c3
      have CL := hid (HF.out.call wr z HI2.out (by rw [hz]; exact HD.out i hin))
      have HZ := hid hz
      obtain ⟨b, hb⟩ : ∃ b, b = P z := ⟨_, rfl⟩
      rw [← hb] at CL
      have HB := hid hb
      clear hz hb rw2
      go_wp2_with fail
      refine CL.out.mono ?_
      rintro e w2 ⟨rfl, hi2, hk2⟩
      have I3 := hid hi2
      have K3 := hid (HK.out.trans hk2 (fun _ _ e => e))
      clear hi2 hk2
      cases b with
      | true =>
        have FIN := hid (show R (.returned (.int .i64 i)) w2 by rw [HR.out]; exact ⟨I3.out, K3.out, .inl ⟨i, hin, by rw [← HZ.out]; exact HB.out.symm, HNO.out, rfl⟩⟩)
        go_wp2
        first | exact FIN.out | (go_ret; exact FIN.out)
      | false =>
        have NN := hid (show ∀ k, k < i + 1 → P (f k) = false from fun k hk => by
          rcases Nat.lt_or_ge k i with q | q
          · exact HNO.out k q
          · obtain rfl : k = i := by omega
            rw [← HZ.out]; exact HB.out.symm)
        go_wp2
        go_roundg (n - (i + 1))
        · exact ⟨i + 1, by omega, by go_num, NN.out, I3.out, K3.out⟩
        · have := HIK.out; omega
    · have hin' : i = n := by have := HIK.out; omega
      subst hin'
      have g1 : decide ((i : Int) < (i : Int)) = false := by simp
      have FIN := hid (show R (.returned (.int .i64 (-1))) wr by rw [HR.out]; exact ⟨HI2.out, HK.out, .inr ⟨HNO.out, rfl⟩⟩)
      go_wp2
      first | exact FIN.out | (go_ret; exact FIN.out)
end Go.Proofs.YtepldjidkomclaaGreat.Ca
