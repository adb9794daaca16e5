/- The questions to a nil register. -/
import Derived.Test.YtnnbdjfeagcbdaaNil
namespace Go.Proofs.Ytnnbdjfeagcbdaa
set_option linter.unusedSimpArgs false
set_option linter.unusedVariables false
open Go.RowKit Go.Shelf

set_option maxRecDepth 100000 in
set_option maxHeartbeats 1000000 in
theorem holds_nil (o v : Int) (w : World) : Calls Try.prog 26 #[.pointer none, .int .i64 o, .int .i64 v] w fun e w' => e = .returned (.tuple #[.slice none 0 0, .int .i64 3]) ∧ Below w.heap.size w w' := by
  have I1 := hid (show IntsAt ((w.alloc (.cells #[.int .i64 o] 3)).alloc (.cells #[.int .i64 o] 3)) (.slice (some ⟨w.heap.size + 1, 0, none⟩) 1 1) [o] by
    have := ints_one (w.alloc (.cells #[.int .i64 o] 3)) o 3
    rwa [World.size_alloc] at this)
  go_enter Try.func26, Try.ntmps26
  go_wp2_with fail
  refine (are_calls 1000 _ _ [o] I1.out).mono ?_
  rintro e w1 ⟨rfl, hb1⟩
  have B1 := hid (Below.trans (by repeat (first | exact Below.refl _ _ | refine Below.alloc ?_ (by first | omega | (simp; try omega)) _)) (hb1.mono (by simp; try omega)) : Below w.heap.size w w1)
  clear hb1
  go_wp2_with fail
  refine (at_nil v _ w1).mono ?_
  rintro e w2 ⟨rfl, rfl⟩
  go_wp2
  refine bodyPost_ret (v := .tuple #[.slice none 0 0, .int .i64 3]) (by simp [results, Try.results26, go_sem]) rfl ⟨rfl, B1.out⟩

set_option maxRecDepth 100000 in
set_option maxHeartbeats 1000000 in
theorem pledged_nil (o v : Int) (w : World) : Calls Try.prog 34 #[.pointer none, .int .i64 o, .int .i64 v] w fun e w' => e = .returned (.tuple #[.slice none 0 0, .int .i64 3]) ∧ Below w.heap.size w w' := by
  have I1 := hid (show IntsAt ((w.alloc (.cells #[.int .i64 o] 3)).alloc (.cells #[.int .i64 o] 3)) (.slice (some ⟨w.heap.size + 1, 0, none⟩) 1 1) [o] by
    have := ints_one (w.alloc (.cells #[.int .i64 o] 3)) o 3
    rwa [World.size_alloc] at this)
  go_enter Try.func34, Try.ntmps34
  go_wp2_with fail
  refine (are_calls 1000 _ _ [o] I1.out).mono ?_
  rintro e w1 ⟨rfl, hb1⟩
  have B1 := hid (Below.trans (by repeat (first | exact Below.refl _ _ | refine Below.alloc ?_ (by first | omega | (simp; try omega)) _)) (hb1.mono (by simp; try omega)) : Below w.heap.size w w1)
  clear hb1
  go_wp2_with fail
  refine (at_nil v _ w1).mono ?_
  rintro e w2 ⟨rfl, rfl⟩
  go_wp2
  refine bodyPost_ret (v := .tuple #[.slice none 0 0, .int .i64 3]) (by simp [results, Try.results34, go_sem]) rfl ⟨rfl, B1.out⟩

end Go.Proofs.Ytnnbdjfeagcbdaa
