/- The reference: change. -/
import Derived.Deep.CutBlock
import Derived.Test.YtnnbdjfeagcbdaaJRf1
namespace Go.Proofs.Ytnnbdjfeagcbdaa
set_option linter.unusedSimpArgs false
set_option linter.unusedVariables false
open Go.RowKit Go.Shelf
attribute [local go_sem] Oper.semAt_some

def InR (l : List Pc) : Prop := ∀ q ∈ l, 0 ≤ q.from_ ∧ q.from_ ≤ 1000001 ∧ -1 ≤ q.to ∧ q.to ≤ 1000000
theorem InR.add {l : List Pc} {p : Pc} (h : InR l) (hp : 0 ≤ p.from_ ∧ p.from_ ≤ 1000001 ∧ -1 ≤ p.to ∧ p.to ≤ 1000000) : InR (addR l p) := by
  unfold addR
  split
  · exact h
  · rcases List.eq_nil_or_concat l with rfl | ⟨L, q, rfl⟩
    · intro x hx; simp [appP] at hx; subst hx; exact hp
    · rw [List.concat_eq_append] at h ⊢
      rw [appP_last]
      have hq := h q (by simp)
      split
      · intro x hx
        rcases List.mem_append.1 hx with h1 | h1
        · exact h x (by simp [h1])
        · rw [List.mem_singleton.1 h1]; simp only; omega
      · intro x hx
        rcases List.mem_append.1 hx with h1 | h1
        · exact h x (by simp [h1])
        · simp only [List.mem_cons, List.not_mem_nil, or_false] at h1
          rcases h1 with h1 | h1
          · rw [h1]; exact hq
          · rw [h1]; exact hp
theorem InR.to {l : List Pc} (h : InR l) : ∀ q ∈ l, q.to ≤ 1000000000 ∧ -1000000000 ≤ q.to := fun q hq => by have := h q hq; omega
theorem RunsV.cells {B : Nat} {w : World} {v : Value} {l : List Pc} (h : RunsV B w v l) : ∃ p cap b, v = .slice p l.length cap ∧ (0 < l.length → p = some ⟨b, 0, none⟩ ∧ B ≤ b ∧ b < w.heap.size) ∧
    ∀ (k : Nat) (hk : k < l.length), w.cell? ⟨b, k * 6, none⟩ = some (Value.int .i64 l[k].from_) ∧ w.cell? ⟨b, k * 6 + 1, none⟩ = some (Value.int .i64 l[k].to) ∧ w.cell? ⟨b, k * 6 + 2, none⟩ = some (Value.int .i64 l[k].cell.state) ∧ w.cell? ⟨b, k * 6 + 3, none⟩ = some (Value.int .i64 l[k].cell.lot) ∧ w.cell? ⟨b, k * 6 + 4, none⟩ = some (Value.int .i64 l[k].cell.owner) ∧ w.cell? ⟨b, k * 6 + 5, none⟩ = some (Value.int .i64 l[k].cell.holder) := by
  rcases h.2 with ⟨h1, h2⟩ | ⟨g, cap, cur, hv, hb, hg, h3⟩
  · exact ⟨none, 0, 0, by rw [h1, h2], fun h0 => by omega, fun k hk => by omega⟩
  · subst hv
    have key : ∀ (k : Nat) (hk : k < l.length) (j : Nat), j < 6 → w.cell? ⟨g, k * 6 + j, none⟩ = (encP l[k])[j]? := fun k hk j hj => by
      rw [World.ownsRow.cellAt h _ (by have : k * 6 + 6 ≤ l.length * 6 := by { rw [← Nat.succ_mul]; exact Nat.mul_le_mul_right _ hk }; omega), flatE_get encP_len l k hk j hj]
    refine ⟨_, cap, g, rfl, fun _ => ⟨rfl, hb, (Array.getElem?_eq_some_iff.1 hg).1⟩, fun k hk => ?_⟩
    have k0 := key k hk 0 (by omega)
    have k1 := key k hk 1 (by omega)
    have k2 := key k hk 2 (by omega)
    have k3 := key k hk 3 (by omega)
    have k4 := key k hk 4 (by omega)
    have k5 := key k hk 5 (by omega)
    simp [encP] at k0 k1 k2 k3 k4 k5
    exact ⟨k0, k1, k2, k3, k4, k5⟩

/-- Within a round of change: what has been added so far, the run at hand, the new state. -/
structure ChSt (n0 : Nat) (w : World) (rb : Nat) (tt : Cl) (r : Pc) (k : Nat) (wx : World) (v : Value) (out : List Pc) : Prop where
  runs : RunsV (n0 + 1 + 1) wx v out
  below : Below n0 w wx
  big : n0 + 1 + 1 ≤ wx.heap.size ∧ rb < wx.heap.size
  ct : Cells wx (n0 + 1) tt.vals 88
  cr : Cells wx rb r.vals 90
  own : v.ownBlock ≠ some rb
  inr : InR out
  len : out.length ≤ k
theorem ChSt.after {n0 : Nat} {w : World} {rb : Nat} {tt : Cl} {r : Pc} {k : Nat} {wx wy : World} {v : Value} {out : List Pc} (h : ChSt n0 w rb tt r k wx v out) (hb : Below wx.heap.size wx wy) : ChSt n0 w rb tt r k wy v out :=
  ⟨h.runs.below hb, h.below.trans (hb.mono (by have := h.big.1; omega)), by have := hb.size; have := h.big; omega, h.ct.below hb h.ct.lt, h.cr.below hb h.cr.lt, h.own, h.inr, h.len⟩
theorem ChSt.added {n0 : Nat} {w : World} {rb : Nat} {tt : Cl} {r : Pc} {k : Nat} {wx : World} {v : Value} {out : List Pc} (h : ChSt n0 w rb tt r k wx v out) (hk : k ≤ 10000000) (hw : n0 + 1 + 1 ≤ rb) (p : Pc) (hp : 0 ≤ p.from_ ∧ p.from_ ≤ 1000001 ∧ -1 ≤ p.to ∧ p.to ≤ 1000000) :
    Calls Try.prog 114 #[v, p.val] wx fun e w' => ∃ u, e = .returned u ∧ ChSt n0 w rb tt r (k + 1) w' u (addR out p) := by
  refine (add_calls (n0 + 1 + 1) wx h.big.1 v out h.runs (Nat.le_trans h.len hk) h.inr.to p).mono ?_
  rintro e w3 ⟨u1, rfl, ro1, b1, fr1⟩
  have fr := fr1 rb h.big.2 h.own
  exact ⟨u1, rfl, ro1, h.below.trans (b1.mono (by omega)), by have := b1.size; have := h.big; omega, h.ct.below b1 (by omega), fr.2.trans h.cr, fr.1, h.inr.add hp, by have := addR_length out p; have := h.len; omega⟩

theorem ChSt.facts {n0 : Nat} {w : World} {rb : Nat} {t1 t2 t3 t4 : Int} {r : Pc} {k : Nat} {wx : World} {v : Value} {out : List Pc} (h : ChSt n0 w rb ⟨t1, t2, t3, t4⟩ r k wx v out) :
    wx.cell? ⟨rb, 0, none⟩ = some (.int .i64 r.from_) ∧ wx.cell? ⟨rb, 1, none⟩ = some (.int .i64 r.to) ∧ wx.cell? ⟨rb, 2, none⟩ = some (.int .i64 r.cell.state) ∧ wx.cell? ⟨rb, 3, none⟩ = some (.int .i64 r.cell.lot) ∧ wx.cell? ⟨rb, 4, none⟩ = some (.int .i64 r.cell.owner) ∧ wx.cell? ⟨rb, 5, none⟩ = some (.int .i64 r.cell.holder) ∧
    wx.cell? ⟨n0 + 1, 0, none⟩ = some (.int .i64 t1) ∧ wx.cell? ⟨n0 + 1, 1, none⟩ = some (.int .i64 t2) ∧ wx.cell? ⟨n0 + 1, 2, none⟩ = some (.int .i64 t3) ∧ wx.cell? ⟨n0 + 1, 3, none⟩ = some (.int .i64 t4) := by
  refine ⟨?_, ?_, ?_, ?_, ?_, ?_, ?_, ?_, ?_, ?_⟩ <;> simp [h.cr.cell, h.ct.cell]

set_option maxRecDepth 100000 in
set_option maxHeartbeats 4000000 in
theorem change_rcalls (w : World) (v : Value) (l : List Pc) (hv : RunsV 0 w v l) (hl : l.length ≤ 1000000) (hin : InR l) (a c : Int) (hac : 1 ≤ a ∧ 1 ≤ c ∧ a + c - 1 ≤ 1000000) (what : Nat) (hwh : what ≤ 5) (tt : Cl) :
    Calls Try.prog 106 #[v, .agg #[.int .i64 a, .int .i64 c], tt.val, .int .i64 what] w fun e w' => ∃ u, e = .returned u ∧ RunsV w.heap.size w' u (changeR (decide (what = 0)) a (a + c - 1) tt (changedC what tt) l) ∧ Below w.heap.size w w' := by
  obtain ⟨p, cap, b, rfl, hp, hc⟩ := hv.cells
  obtain ⟨n, hn⟩ : ∃ n, n = l.length := ⟨_, rfl⟩
  rw [← hn] at hp hl ⊢
  have HP := hid hp
  have HC := hid hc
  have HN := hid hn
  have HI := hid hin
  obtain ⟨en, hen⟩ : ∃ en, en = decide (what = 0) := ⟨_, rfl⟩
  rw [← hen]
  have g0 : ((what : Int) == 0) = en := by rw [hen]; by_cases h : what = 0 <;> simp [h]
  have w1 : IntKind.i64.wrap (a + c) = a + c := IntWalk.i64_in _ (by omega)
  have w2 : IntKind.i64.wrap (a + c - 1) = a + c - 1 := IntWalk.i64_in _ (by omega)
  obtain ⟨bb, hbb⟩ : ∃ bb, bb = a + c - 1 := ⟨_, rfl⟩
  obtain ⟨t1, t2, t3, t4⟩ := tt
  have CT := hid (show Cells ((w.alloc (.cells #[.int .i64 a, .int .i64 c] 37)).alloc (.cells #[.int .i64 t1, .int .i64 t2, .int .i64 t3, .int .i64 t4] 88)) (w.heap.size + 1) #[.int .i64 t1, .int .i64 t2, .int .i64 t3, .int .i64 t4] 88 by
    have := Cells.new (w.alloc (.cells #[.int .i64 a, .int .i64 c] 37)) #[.int .i64 t1, .int .i64 t2, .int .i64 t3, .int .i64 t4] 88
    rwa [World.size_alloc] at this)
  have B0 := hid (show Below w.heap.size w ((w.alloc (.cells #[.int .i64 a, .int .i64 c] 37)).alloc (.cells #[.int .i64 t1, .int .i64 t2, .int .i64 t3, .int .i64 t4] 88)) from ((Below.refl _ _).alloc (Nat.le_refl _) _).alloc (by simp) _)
  clear hp hc hn hin hen
  go_enter Try.func106, Try.ntmps106
  go_wp2
  go_big_quiet (fail)
  go_wp2
  have C1 := hid (CT.out.drewN nq)
  have B1 := hid (drewN_below B0.out nq)
  clear CT B0
  rw [← hbb]
  have HBB := hid hbb
  have hbd : a ≤ bb ∧ bb ≤ 1000000 := by omega
  clear w1 w2 hbb
  go_loopg [11, 12, 13] n (fun k s11 s12 s13 wr => ∃ (i : Nat) (out : List Pc) (f : Bool), i + k = n ∧ s13 = .int .i64 i ∧ s12 = .bool f ∧ foldR en a bb ⟨t1, t2, t3, t4⟩ (changedC what ⟨t1, t2, t3, t4⟩) (l.take i) = (out, f) ∧ RunsV (w.heap.size + 1 + 1) wr s11 out ∧ InR out ∧ out.length ≤ 4 * i ∧ Below w.heap.size w wr ∧ w.heap.size + 1 + 1 ≤ wr.heap.size ∧ Cells wr (w.heap.size + 1) #[.int .i64 t1, .int .i64 t2, .int .i64 t3, .int .i64 t4] 88)
  case atStart => exact ⟨0, [], false, by omega, rfl, rfl, rfl, OwnE.nil _ _, by intro q hq; simp at hq, by simp, B1.out, by simp, C1.out⟩
  case round =>
    obtain ⟨i, out, f, hik, rfl, rfl, hfo, hro, hio, hlo, hbo, hso, hco⟩ := hrel
    have FO := hid hfo
    have RO := hid hro
    have IO := hid hio
    have BO := hid hbo
    have CO := hid hco
    clear hfo hro hio hbo hco
    by_cases hi : i < n
    · have hil : i < l.length := by rw [← HN.out]; exact hi
      obtain ⟨rfl, _, hbl⟩ := HP.out (by omega)
      obtain ⟨c0, c1, c2, c3, c4, c5⟩ := HC.out i hil
      obtain ⟨r, hr⟩ : ∃ r, r = l[i] := ⟨_, rfl⟩
      rw [← hr] at c0 c1 c2 c3 c4 c5
      have d0 : wr.cell? ⟨b, i * 6, none⟩ = some (.int .i64 r.from_) := (BO.out.cell (p := ⟨b, i * 6, none⟩) hbl).trans c0
      have d1 : wr.cell? ⟨b, i * 6 + 1, none⟩ = some (.int .i64 r.to) := (BO.out.cell (p := ⟨b, i * 6 + 1, none⟩) hbl).trans c1
      have d2 : wr.cell? ⟨b, i * 6 + 2, none⟩ = some (.int .i64 r.cell.state) := (BO.out.cell (p := ⟨b, i * 6 + 2, none⟩) hbl).trans c2
      have d3 : wr.cell? ⟨b, i * 6 + 3, none⟩ = some (.int .i64 r.cell.lot) := (BO.out.cell (p := ⟨b, i * 6 + 3, none⟩) hbl).trans c3
      have d4 : wr.cell? ⟨b, i * 6 + 4, none⟩ = some (.int .i64 r.cell.owner) := (BO.out.cell (p := ⟨b, i * 6 + 4, none⟩) hbl).trans c4
      have d5 : wr.cell? ⟨b, i * 6 + 5, none⟩ = some (.int .i64 r.cell.holder) := (BO.out.cell (p := ⟨b, i * 6 + 5, none⟩) hbl).trans c5
      have g1 : decide ((i : Int) < (n : Int)) = true := by simpa using hi
      have hri := HI.out r (by rw [hr]; exact List.getElem_mem hil)
      have HR := hid hr
      have RA := hid (Cells.new wr r.vals 90)
      clear c0 c1 c2 c3 c4 c5 hr
      go_upto_region 8 with fail
      go_cut [44] (fun s44 wx => s44 = .bool (en && (!f && decide (bb < r.from_))) ∧ wx = wr.alloc (.cells r.vals 90))
      case first =>
        cases en
        · go_wp2
          go_meet
          case rel => exact ⟨rfl, rfl⟩
        · cases f
          · by_cases hd : bb < r.from_
            · have gd : decide (bb < r.from_) = true := by simpa using hd
              go_wp2
              go_meet
              case rel => exact ⟨by simp [hd], rfl⟩
            · have gd : decide (bb < r.from_) = false := by simpa using hd
              go_wp2
              go_meet
              case rel => exact ⟨by simp [hd], rfl⟩
          · go_wp2
            go_meet
            case rel => exact ⟨rfl, rfl⟩
      case rest =>
        obtain ⟨rfl, rfl⟩ := hcut
        have hne : u11.ownBlock ≠ some wr.heap.size := fun e => by have := (World.ownsRow.lt RO.out _ e).2; omega
        obtain ⟨q, hq⟩ : ∃ q, q = (en && (!f && decide (bb < r.from_))) := ⟨_, rfl⟩
        have HQ := hid hq
        rw [← hq]
        clear hq d0 d1 d2 d3 d4 d5
        have S0 := hid (show ChSt w.heap.size w wr.heap.size ⟨t1, t2, t3, t4⟩ r (4 * i) (wr.alloc (.cells r.vals 90)) u11 out from
          ⟨RO.out.alloc _, BO.out.alloc BO.out.size _, by simp; omega, CO.out.alloc _, RA.out, hne, IO.out, hlo⟩)
        go_upto_if 44 with fail
        go_cut [11, 12] (fun s11 s12 wx => ∃ (out1 : List Pc) (f1 : Bool), s12 = .bool f1 ∧ (out1, f1) = (if q = true then (addR out ⟨a, bb, ⟨t1, t2, t3, t4⟩⟩, true) else (out, f)) ∧ ChSt w.heap.size w wr.heap.size ⟨t1, t2, t3, t4⟩ r (4 * i + 1) wx s11 out1)
        case first =>
          cases q
          · go_wp2
            go_meet
            case rel => exact ⟨out, f, rfl, rfl, { S0.out with len := by omega }⟩
          · have ct := CO.out.alloc (.cells r.vals 90)
            have k0 : (wr.alloc (.cells r.vals 90)).cell? ⟨w.heap.size + 1, 0, none⟩ = some (.int .i64 t1) := by simp [ct.cell]
            have k1 : (wr.alloc (.cells r.vals 90)).cell? ⟨w.heap.size + 1, 1, none⟩ = some (.int .i64 t2) := by simp [ct.cell]
            have k2 : (wr.alloc (.cells r.vals 90)).cell? ⟨w.heap.size + 1, 2, none⟩ = some (.int .i64 t3) := by simp [ct.cell]
            have k3 : (wr.alloc (.cells r.vals 90)).cell? ⟨w.heap.size + 1, 3, none⟩ = some (.int .i64 t4) := by simp [ct.cell]
            clear ct
            go_wp2_with fail
            refine (S0.out.added (by omega) hso ⟨a, bb, ⟨t1, t2, t3, t4⟩⟩ ⟨by simp only; omega, by simp only; omega, by simp only; omega, by simp only; omega⟩).mono ?_
            rintro e w3 ⟨u1, rfl, s1⟩
            have S1 := hid s1
            clear s1
            go_wp2
            go_meet
            case rel => exact ⟨_, true, rfl, rfl, S1.out⟩
        case rest =>
          obtain ⟨out1, f1, rfl, hof, s1⟩ := hcut
          have OF := hid hof
          have S1 := hid s1
          have ra1 := s1.cr
          have c0 : wc.cell? ⟨wr.heap.size, 0, none⟩ = some (.int .i64 r.from_) := by simp [ra1.cell]
          have c1 : wc.cell? ⟨wr.heap.size, 1, none⟩ = some (.int .i64 r.to) := by simp [ra1.cell]
          have c2 : wc.cell? ⟨wr.heap.size, 2, none⟩ = some (.int .i64 r.cell.state) := by simp [ra1.cell]
          have c3 : wc.cell? ⟨wr.heap.size, 3, none⟩ = some (.int .i64 r.cell.lot) := by simp [ra1.cell]
          have c4 : wc.cell? ⟨wr.heap.size, 4, none⟩ = some (.int .i64 r.cell.owner) := by simp [ra1.cell]
          have c5 : wc.cell? ⟨wr.heap.size, 5, none⟩ = some (.int .i64 r.cell.holder) := by simp [ra1.cell]
          have w3 : IntKind.i64.wrap (a - 1) = a - 1 := IntWalk.i64_in _ (by omega)
          clear ra1 s1 hof S0
          go_upto_region 11 with fail
          go_cut [11] (fun s11 wx => ChSt w.heap.size w wr.heap.size ⟨t1, t2, t3, t4⟩ r (4 * i + 2) wx s11 (addR out1 ⟨r.from_, min r.to (a - 1), r.cell⟩))
          case first =>
            by_cases hm : r.to ≤ a - 1
            · have hmin : min r.to (a - 1) = r.to := Int.min_eq_left hm
              have HM := hid hmin
              clear hmin
              go_wp2_with fail
              refine (S1.out.added (by omega) hso ⟨r.from_, r.to, r.cell⟩ ⟨by simp only; omega, by simp only; omega, by simp only; omega, by simp only; omega⟩).mono ?_
              rintro e w3 ⟨u1, rfl, s1⟩
              rw [← HM.out] at s1
              have S2 := hid s1
              clear s1
              go_wp2
              go_meet
              case rel => exact (by rw [HM.out] at S2 ⊢; exact S2.out)
            · have hm : a - 1 < r.to := by omega
              have hmin : min r.to (a - 1) = a - 1 := Int.min_eq_right (by omega)
              have HM := hid hmin
              clear hmin
              go_wp2_with fail
              refine (S1.out.added (by omega) hso ⟨r.from_, a - 1, r.cell⟩ ⟨by simp only; omega, by simp only; omega, by simp only; omega, by simp only; omega⟩).mono ?_
              rintro e w3 ⟨u1, rfl, s1⟩
              have S2 := hid s1
              clear s1
              go_wp2
              go_meet
              case rel => exact (by rw [HM.out]; exact S2.out)
          case rest =>
            have s2 := hcut
            have S2 := hid s2
            have ra1 := s2.cr
            have ct1 := s2.ct
            have c0 : wc.cell? ⟨wr.heap.size, 0, none⟩ = some (.int .i64 r.from_) := by simp [ra1.cell]
            have c1 : wc.cell? ⟨wr.heap.size, 1, none⟩ = some (.int .i64 r.to) := by simp [ra1.cell]
            have c2 : wc.cell? ⟨wr.heap.size, 2, none⟩ = some (.int .i64 r.cell.state) := by simp [ra1.cell]
            have c3 : wc.cell? ⟨wr.heap.size, 3, none⟩ = some (.int .i64 r.cell.lot) := by simp [ra1.cell]
            have c4 : wc.cell? ⟨wr.heap.size, 4, none⟩ = some (.int .i64 r.cell.owner) := by simp [ra1.cell]
            have c5 : wc.cell? ⟨wr.heap.size, 5, none⟩ = some (.int .i64 r.cell.holder) := by simp [ra1.cell]
            have k0 : wc.cell? ⟨w.heap.size + 1, 0, none⟩ = some (.int .i64 t1) := by simp [ct1.cell]
            have k1 : wc.cell? ⟨w.heap.size + 1, 1, none⟩ = some (.int .i64 t2) := by simp [ct1.cell]
            have k2 : wc.cell? ⟨w.heap.size + 1, 2, none⟩ = some (.int .i64 t3) := by simp [ct1.cell]
            have k3 : wc.cell? ⟨w.heap.size + 1, 3, none⟩ = some (.int .i64 t4) := by simp [ct1.cell]
            have lr := ra1.lt
            have lt := ct1.lt
            clear ra1 ct1 s2 hcut S1
            go_upto_region 12 with fail
            go_cut [11] (fun s11 wx => ChSt w.heap.size w wr.heap.size ⟨t1, t2, t3, t4⟩ r (4 * i + 3) wx s11 (addR (addR out1 ⟨r.from_, min r.to (a - 1), r.cell⟩) ⟨max r.from_ a, min r.to bb, changedC what ⟨t1, t2, t3, t4⟩ r.cell⟩))
            case first =>
              by_cases hm1 : r.from_ < a
              · by_cases hm2 : r.to ≤ bb
                · have hx2 : (bb < r.to) = False := by simp; omega
                  have hb4 : 0 ≤ (⟨a, r.to, changedC what ⟨t1, t2, t3, t4⟩ r.cell⟩ : Pc).from_ ∧ (⟨a, r.to, changedC what ⟨t1, t2, t3, t4⟩ r.cell⟩ : Pc).from_ ≤ 1000001 ∧ -1 ≤ (⟨a, r.to, changedC what ⟨t1, t2, t3, t4⟩ r.cell⟩ : Pc).to ∧ (⟨a, r.to, changedC what ⟨t1, t2, t3, t4⟩ r.cell⟩ : Pc).to ≤ 1000000 := by simp only; omega
                  have hk2 : 4 * i + 2 ≤ 10000000 := by omega
                  have E1 := hid (show max r.from_ a = a from Int.max_eq_right (by omega))
                  have E2 := hid (show min r.to bb = r.to from Int.min_eq_left (by omega))
                  have S3 := hid (show ∀ wy, Below wc.heap.size wc wy → ChSt w.heap.size w wr.heap.size ⟨t1, t2, t3, t4⟩ r (4 * i + 2) wy u11 (addR out1 ⟨r.from_, min r.to (a - 1), r.cell⟩) from fun wy hb => S2.out.after hb)
                  go_wp2
                  go_region_held3 (fun wh => wh.cell? ⟨wr.heap.size, 0, none⟩ = some (.int .i64 r.from_) ∧ wh.cell? ⟨wr.heap.size, 1, none⟩ = some (.int .i64 r.to) ∧ wh.cell? ⟨wr.heap.size, 2, none⟩ = some (.int .i64 r.cell.state) ∧ wh.cell? ⟨wr.heap.size, 3, none⟩ = some (.int .i64 r.cell.lot) ∧ wh.cell? ⟨wr.heap.size, 4, none⟩ = some (.int .i64 r.cell.owner) ∧ wh.cell? ⟨wr.heap.size, 5, none⟩ = some (.int .i64 r.cell.holder) ∧ wh.cell? ⟨w.heap.size + 1, 0, none⟩ = some (.int .i64 t1) ∧ wh.cell? ⟨w.heap.size + 1, 1, none⟩ = some (.int .i64 t2) ∧ wh.cell? ⟨w.heap.size + 1, 2, none⟩ = some (.int .i64 t3) ∧ wh.cell? ⟨w.heap.size + 1, 3, none⟩ = some (.int .i64 t4))
                    (first | assumption | go_keep)
                    (first
                      | ((with_reducible refine (changed_rcalls _ what hwh ⟨t1, t2, t3, t4⟩ r.cell).mono ?_); rintro e w1 ⟨rfl, hb1⟩; have hbd1 : Below wc.heap.size wc w1 := undrew hb1; have s1f := (S3.out w1 hbd1).facts; obtain ⟨hc1, hf1⟩ := bcell hb1)
                      | ((with_reducible refine ((S3.out w1 hbd1).added hk2 hso ⟨a, r.to, changedC what ⟨t1, t2, t3, t4⟩ r.cell⟩ hb4).mono ?_); rintro e w4 ⟨u4, rfl, s3⟩; have s3f := s3.facts))
                  all_goals (
                    have S4 := hid s3
                    clear s3 s3f s1f hc1 hf1 hbd1 hb1
                    go_wp2
                    go_meet
                    exact (by rw [E1.out, E2.out]; exact S4.out))
                · have hm2 : bb < r.to := by omega
                  have hb4 : 0 ≤ (⟨a, bb, changedC what ⟨t1, t2, t3, t4⟩ r.cell⟩ : Pc).from_ ∧ (⟨a, bb, changedC what ⟨t1, t2, t3, t4⟩ r.cell⟩ : Pc).from_ ≤ 1000001 ∧ -1 ≤ (⟨a, bb, changedC what ⟨t1, t2, t3, t4⟩ r.cell⟩ : Pc).to ∧ (⟨a, bb, changedC what ⟨t1, t2, t3, t4⟩ r.cell⟩ : Pc).to ≤ 1000000 := by simp only; omega
                  have hk2 : 4 * i + 2 ≤ 10000000 := by omega
                  have E1 := hid (show max r.from_ a = a from Int.max_eq_right (by omega))
                  have E2 := hid (show min r.to bb = bb from Int.min_eq_right (by omega))
                  have S3 := hid (show ∀ wy, Below wc.heap.size wc wy → ChSt w.heap.size w wr.heap.size ⟨t1, t2, t3, t4⟩ r (4 * i + 2) wy u11 (addR out1 ⟨r.from_, min r.to (a - 1), r.cell⟩) from fun wy hb => S2.out.after hb)
                  go_wp2
                  go_region_held3 (fun wh => wh.cell? ⟨wr.heap.size, 0, none⟩ = some (.int .i64 r.from_) ∧ wh.cell? ⟨wr.heap.size, 1, none⟩ = some (.int .i64 r.to) ∧ wh.cell? ⟨wr.heap.size, 2, none⟩ = some (.int .i64 r.cell.state) ∧ wh.cell? ⟨wr.heap.size, 3, none⟩ = some (.int .i64 r.cell.lot) ∧ wh.cell? ⟨wr.heap.size, 4, none⟩ = some (.int .i64 r.cell.owner) ∧ wh.cell? ⟨wr.heap.size, 5, none⟩ = some (.int .i64 r.cell.holder) ∧ wh.cell? ⟨w.heap.size + 1, 0, none⟩ = some (.int .i64 t1) ∧ wh.cell? ⟨w.heap.size + 1, 1, none⟩ = some (.int .i64 t2) ∧ wh.cell? ⟨w.heap.size + 1, 2, none⟩ = some (.int .i64 t3) ∧ wh.cell? ⟨w.heap.size + 1, 3, none⟩ = some (.int .i64 t4))
                    (first | assumption | go_keep)
                    (first
                      | ((with_reducible refine (changed_rcalls _ what hwh ⟨t1, t2, t3, t4⟩ r.cell).mono ?_); rintro e w1 ⟨rfl, hb1⟩; have hbd1 : Below wc.heap.size wc w1 := undrew hb1; have s1f := (S3.out w1 hbd1).facts; obtain ⟨hc1, hf1⟩ := bcell hb1)
                      | ((with_reducible refine ((S3.out w1 hbd1).added hk2 hso ⟨a, bb, changedC what ⟨t1, t2, t3, t4⟩ r.cell⟩ hb4).mono ?_); rintro e w4 ⟨u4, rfl, s3⟩; have s3f := s3.facts))
                  all_goals (
                    have S4 := hid s3
                    clear s3 s3f s1f hc1 hf1 hbd1 hb1
                    go_wp2
                    go_meet
                    exact (by rw [E1.out, E2.out]; exact S4.out))
              · have hx1 : (r.from_ < a) = False := by simp; omega
                by_cases hm2 : r.to ≤ bb
                · have hx2 : (bb < r.to) = False := by simp; omega
                  have hb4 : 0 ≤ (⟨r.from_, r.to, changedC what ⟨t1, t2, t3, t4⟩ r.cell⟩ : Pc).from_ ∧ (⟨r.from_, r.to, changedC what ⟨t1, t2, t3, t4⟩ r.cell⟩ : Pc).from_ ≤ 1000001 ∧ -1 ≤ (⟨r.from_, r.to, changedC what ⟨t1, t2, t3, t4⟩ r.cell⟩ : Pc).to ∧ (⟨r.from_, r.to, changedC what ⟨t1, t2, t3, t4⟩ r.cell⟩ : Pc).to ≤ 1000000 := by simp only; omega
                  have hk2 : 4 * i + 2 ≤ 10000000 := by omega
                  have E1 := hid (show max r.from_ a = r.from_ from Int.max_eq_left (by omega))
                  have E2 := hid (show min r.to bb = r.to from Int.min_eq_left (by omega))
                  have S3 := hid (show ∀ wy, Below wc.heap.size wc wy → ChSt w.heap.size w wr.heap.size ⟨t1, t2, t3, t4⟩ r (4 * i + 2) wy u11 (addR out1 ⟨r.from_, min r.to (a - 1), r.cell⟩) from fun wy hb => S2.out.after hb)
                  go_wp2
                  go_region_held3 (fun wh => wh.cell? ⟨wr.heap.size, 0, none⟩ = some (.int .i64 r.from_) ∧ wh.cell? ⟨wr.heap.size, 1, none⟩ = some (.int .i64 r.to) ∧ wh.cell? ⟨wr.heap.size, 2, none⟩ = some (.int .i64 r.cell.state) ∧ wh.cell? ⟨wr.heap.size, 3, none⟩ = some (.int .i64 r.cell.lot) ∧ wh.cell? ⟨wr.heap.size, 4, none⟩ = some (.int .i64 r.cell.owner) ∧ wh.cell? ⟨wr.heap.size, 5, none⟩ = some (.int .i64 r.cell.holder) ∧ wh.cell? ⟨w.heap.size + 1, 0, none⟩ = some (.int .i64 t1) ∧ wh.cell? ⟨w.heap.size + 1, 1, none⟩ = some (.int .i64 t2) ∧ wh.cell? ⟨w.heap.size + 1, 2, none⟩ = some (.int .i64 t3) ∧ wh.cell? ⟨w.heap.size + 1, 3, none⟩ = some (.int .i64 t4))
                    (first | assumption | go_keep)
                    (first
                      | ((with_reducible refine (changed_rcalls _ what hwh ⟨t1, t2, t3, t4⟩ r.cell).mono ?_); rintro e w1 ⟨rfl, hb1⟩; have hbd1 : Below wc.heap.size wc w1 := undrew hb1; have s1f := (S3.out w1 hbd1).facts; obtain ⟨hc1, hf1⟩ := bcell hb1)
                      | ((with_reducible refine ((S3.out w1 hbd1).added hk2 hso ⟨r.from_, r.to, changedC what ⟨t1, t2, t3, t4⟩ r.cell⟩ hb4).mono ?_); rintro e w4 ⟨u4, rfl, s3⟩; have s3f := s3.facts))
                  all_goals (
                    have S4 := hid s3
                    clear s3 s3f s1f hc1 hf1 hbd1 hb1
                    go_wp2
                    go_meet
                    exact (by rw [E1.out, E2.out]; exact S4.out))
                · have hm2 : bb < r.to := by omega
                  have hb4 : 0 ≤ (⟨r.from_, bb, changedC what ⟨t1, t2, t3, t4⟩ r.cell⟩ : Pc).from_ ∧ (⟨r.from_, bb, changedC what ⟨t1, t2, t3, t4⟩ r.cell⟩ : Pc).from_ ≤ 1000001 ∧ -1 ≤ (⟨r.from_, bb, changedC what ⟨t1, t2, t3, t4⟩ r.cell⟩ : Pc).to ∧ (⟨r.from_, bb, changedC what ⟨t1, t2, t3, t4⟩ r.cell⟩ : Pc).to ≤ 1000000 := by simp only; omega
                  have hk2 : 4 * i + 2 ≤ 10000000 := by omega
                  have E1 := hid (show max r.from_ a = r.from_ from Int.max_eq_left (by omega))
                  have E2 := hid (show min r.to bb = bb from Int.min_eq_right (by omega))
                  have S3 := hid (show ∀ wy, Below wc.heap.size wc wy → ChSt w.heap.size w wr.heap.size ⟨t1, t2, t3, t4⟩ r (4 * i + 2) wy u11 (addR out1 ⟨r.from_, min r.to (a - 1), r.cell⟩) from fun wy hb => S2.out.after hb)
                  go_wp2
                  go_region_held3 (fun wh => wh.cell? ⟨wr.heap.size, 0, none⟩ = some (.int .i64 r.from_) ∧ wh.cell? ⟨wr.heap.size, 1, none⟩ = some (.int .i64 r.to) ∧ wh.cell? ⟨wr.heap.size, 2, none⟩ = some (.int .i64 r.cell.state) ∧ wh.cell? ⟨wr.heap.size, 3, none⟩ = some (.int .i64 r.cell.lot) ∧ wh.cell? ⟨wr.heap.size, 4, none⟩ = some (.int .i64 r.cell.owner) ∧ wh.cell? ⟨wr.heap.size, 5, none⟩ = some (.int .i64 r.cell.holder) ∧ wh.cell? ⟨w.heap.size + 1, 0, none⟩ = some (.int .i64 t1) ∧ wh.cell? ⟨w.heap.size + 1, 1, none⟩ = some (.int .i64 t2) ∧ wh.cell? ⟨w.heap.size + 1, 2, none⟩ = some (.int .i64 t3) ∧ wh.cell? ⟨w.heap.size + 1, 3, none⟩ = some (.int .i64 t4))
                    (first | assumption | go_keep)
                    (first
                      | ((with_reducible refine (changed_rcalls _ what hwh ⟨t1, t2, t3, t4⟩ r.cell).mono ?_); rintro e w1 ⟨rfl, hb1⟩; have hbd1 : Below wc.heap.size wc w1 := undrew hb1; have s1f := (S3.out w1 hbd1).facts; obtain ⟨hc1, hf1⟩ := bcell hb1)
                      | ((with_reducible refine ((S3.out w1 hbd1).added hk2 hso ⟨r.from_, bb, changedC what ⟨t1, t2, t3, t4⟩ r.cell⟩ hb4).mono ?_); rintro e w4 ⟨u4, rfl, s3⟩; have s3f := s3.facts))
                  all_goals (
                    have S4 := hid s3
                    clear s3 s3f s1f hc1 hf1 hbd1 hb1
                    go_wp2
                    go_meet
                    exact (by rw [E1.out, E2.out]; exact S4.out))
            case rest =>
              have s3 := hcut
              have S3 := hid s3
              obtain ⟨c0, c1, c2, c3, c4, c5, _⟩ := s3.facts
              have w4 : IntKind.i64.wrap (bb + 1) = bb + 1 := IntWalk.i64_in _ (by omega)
              have w5 : IntKind.i64.wrap ((i : Int) + 1) = (i : Int) + 1 := IntWalk.i64_in _ (by omega)
              have ST := hid (show ∀ o3, o3 = addR (addR (addR out1 ⟨r.from_, min r.to (a - 1), r.cell⟩) ⟨max r.from_ a, min r.to bb, changedC what ⟨t1, t2, t3, t4⟩ r.cell⟩) ⟨max r.from_ (bb + 1), r.to, r.cell⟩ →
                  foldR en a bb ⟨t1, t2, t3, t4⟩ (changedC what ⟨t1, t2, t3, t4⟩) (l.take (i + 1)) = (o3, f1) by
                intro o3 ho3
                rw [List.take_succ_eq_append_getElem hil, foldR_snoc, FO.out, ← HR.out, stepR]
                have hof := OF.out
                rw [HQ.out] at hof
                by_cases hcc : en = true ∧ f = false ∧ bb < r.from_
                · rw [if_pos hcc]
                  rw [if_pos (by simp [hcc])] at hof
                  simp only [Prod.mk.injEq] at hof
                  rw [ho3, hof.1, hof.2]; rfl
                · rw [if_neg hcc]
                  rw [if_neg (by simpa using hcc)] at hof
                  simp only [Prod.mk.injEq] at hof
                  rw [ho3, hof.1, hof.2]; rfl)
              clear s3 hcut k0 k1 k2 k3 lr lt S2 w3
              by_cases hm3 : r.from_ ≤ bb
              · have hmx : max r.from_ (bb + 1) = bb + 1 := Int.max_eq_right (by omega)
                have HM := hid hmx
                have hx4 : r.from_ < bb + 1 := by omega
                clear hmx
                go_wp2_with fail
                refine (S3.out.added (by omega) hso ⟨bb + 1, r.to, r.cell⟩ ⟨by simp only; omega, by simp only; omega, by simp only; omega, by simp only; omega⟩).mono ?_
                rintro e w3 ⟨u1, rfl, s4⟩
                rw [← HM.out] at s4
                have S4 := hid s4
                clear s4
                go_wp2
                go_roundg (gk - 1)
                case measure => omega
                case rel => exact ⟨i + 1, _, f1, by omega, rfl, rfl, ST.out _ rfl, S4.out.runs, S4.out.inr, by have := S4.out.len; omega, S4.out.below, S4.out.big.1, S4.out.ct⟩
              · have hmx : max r.from_ (bb + 1) = r.from_ := Int.max_eq_left (by omega)
                have HM := hid hmx
                have hx4 : (r.from_ < bb + 1) = False := by simp; omega
                have hx5 : (r.from_ ≤ bb) = False := by simp; omega
                clear hmx hm3
                go_wp2_with fail
                refine (S3.out.added (by omega) hso ⟨r.from_, r.to, r.cell⟩ ⟨by simp only; omega, by simp only; omega, by simp only; omega, by simp only; omega⟩).mono ?_
                rintro e w3 ⟨u1, rfl, s4⟩
                have S4 := hid (show ChSt w.heap.size w wr.heap.size ⟨t1, t2, t3, t4⟩ r (4 * i + 3 + 1) w3 u1 (addR (addR (addR out1 ⟨r.from_, min r.to (a - 1), r.cell⟩) ⟨max r.from_ a, min r.to bb, changedC what ⟨t1, t2, t3, t4⟩ r.cell⟩) ⟨max r.from_ (bb + 1), r.to, r.cell⟩) by rw [HM.out]; exact s4)
                clear s4
                go_wp2
                go_roundg (gk - 1)
                case measure => omega
                case rel => exact ⟨i + 1, _, f1, by omega, rfl, rfl, ST.out _ rfl, S4.out.runs, S4.out.inr, by have := S4.out.len; omega, S4.out.below, S4.out.big.1, S4.out.ct⟩
    · have g1 : decide ((i : Int) < (n : Int)) = false := by simpa using hi
      have hln : l.take i = l := List.take_of_length_le (by have := HN.out; omega)
      rw [hln] at FO
      have CH := hid (show changeR en a bb ⟨t1, t2, t3, t4⟩ (changedC what ⟨t1, t2, t3, t4⟩) l = if en = true ∧ f = false then addR out ⟨a, bb, ⟨t1, t2, t3, t4⟩⟩ else out by rw [changeR, FO.out])
      clear hln
      cases en
      · go_wp2
        refine bodyPost_ret (v := u11) (by simp [results, Try.results106, go_sem]) rfl ⟨_, rfl, ?_, BO.out⟩
        rw [← HBB.out, CH.out, if_neg (by simp)]
        exact RO.out.mono (by omega)
      · cases f
        · have ct := CO.out
          have k0 : wr.cell? ⟨w.heap.size + 1, 0, none⟩ = some (.int .i64 t1) := by simp [ct.cell]
          have k1 : wr.cell? ⟨w.heap.size + 1, 1, none⟩ = some (.int .i64 t2) := by simp [ct.cell]
          have k2 : wr.cell? ⟨w.heap.size + 1, 2, none⟩ = some (.int .i64 t3) := by simp [ct.cell]
          have k3 : wr.cell? ⟨w.heap.size + 1, 3, none⟩ = some (.int .i64 t4) := by simp [ct.cell]
          clear ct
          go_wp2_with fail
          refine (add_calls (w.heap.size + 1 + 1) wr hso u11 out RO.out (by omega) IO.out.to ⟨a, bb, ⟨t1, t2, t3, t4⟩⟩).mono ?_
          rintro e w3 ⟨u1, rfl, ro1, b1, _⟩
          have R1 := hid (And.intro ro1 b1)
          clear ro1 b1
          go_wp2
          refine bodyPost_ret (v := u1) (by simp [results, Try.results106, go_sem]) rfl ⟨_, rfl, ?_, BO.out.trans (R1.out.2.mono (by omega))⟩
          rw [← HBB.out, CH.out, if_pos (by simp)]
          exact R1.out.1.mono (by omega)
        · go_wp2
          refine bodyPost_ret (v := u11) (by simp [results, Try.results106, go_sem]) rfl ⟨_, rfl, ?_, BO.out⟩
          rw [← HBB.out, CH.out, if_neg (by simp)]
          exact RO.out.mono (by omega)
end Go.Proofs.Ytnnbdjfeagcbdaa
