/-
  The law FrameTells, walked: it returns true.
-/
import Derived.Test.YtgkfmcmnlpapcaaFrWorks
namespace Go.Proofs.Ytgkfmcmnlpapcaa
open Go.RowKit Frm

set_option maxHeartbeats 1000000 in
set_option maxRecDepth 100000 in
theorem FrameTells_calls (s : ByteArray) (hs : s.size ≤ maxLen) (w : World) :
    Calls Try.prog 4 #[.string s] w fun e w' => e = .returned (.bool true) ∧ Below w.heap.size w w' := by
  have k1 := Lib.hid fun w => parse_calls s w hs
  have k2 := Lib.hid fun w => parse_ref s w hs
  have k3 := Lib.hid fun w => split_calls s w hs
  have k4 := Lib.hid fun w => split_ref s w hs
  have k5 := Lib.hid fun w => count_calls s w hs
  have k6 := Lib.hid fun w => count_ref s w hs
  clear hs
  go_enter Try.func4, Try.ntmps4
  go_wp2_with fail
  refine (k1.out _).mono ?_
  rintro e w1 ⟨rfl, hb1⟩
  go_wp2_with fail
  refine (k2.out _).mono ?_
  rintro e w2 ⟨rfl, hb2⟩
  go_wp2_with fail
  refine (k3.out _).mono ?_
  rintro e w3 ⟨rfl, hb3⟩
  go_wp2_with fail
  refine (k4.out _).mono ?_
  rintro e w4 ⟨rfl, hb4⟩
  go_wp2_with fail
  refine (k5.out _).mono ?_
  rintro e w5 ⟨rfl, hb5⟩
  go_wp2_with fail
  refine (k6.out _).mono ?_
  rintro e w6 ⟨rfl, hb6⟩
  go_wp2_with fail
  refine (works_calls _).mono ?_
  rintro e w7 ⟨rfl, hb7⟩
  go_wp2
  go_ret
  have t := fun {a b c : World} (h : Below a.heap.size a b) (k : Below b.heap.size b c) => h.trans (k.mono h.size)
  exact ⟨rfl, t (t (t (t (t (t hb1 hb2) hb3) hb4) hb5) hb6) hb7⟩
end Go.Proofs.Ytgkfmcmnlpapcaa
