/-
  The law FrameLays, walked: it returns true.
-/
import Derived.Test.YtgkfmcmnlpapcaaFrWorks
namespace Go.Proofs.Ytgkfmcmnlpapcaa
open Go.RowKit Frm

set_option maxHeartbeats 400000 in
theorem FrameLays_calls (k : Int) (_wk : (Lit.int .i64 k).wf = true) (s : ByteArray) (hs : s.size ≤ maxLen) (w : World) :
    Calls Try.prog 3 #[.int .i64 k, .string s] w fun e w' => e = .returned (.bool true) ∧ Below w.heap.size w w' := by
  have k1 := Lib.hid fun w => lay_calls k s w hs
  have k2 := Lib.hid fun w => layE_ref k s w hs
  clear hs
  go_enter Try.func3, Try.ntmps3
  go_wp2_with fail
  refine (k1.out _).mono ?_
  rintro e w1 ⟨rfl, hb1⟩
  go_wp2_with fail
  refine (k2.out _).mono ?_
  rintro e w2 ⟨rfl, hb2⟩
  go_wp2_with fail
  refine (works_calls _).mono ?_
  rintro e w3 ⟨rfl, hb3⟩
  go_wp2
  go_ret
  have t := fun {a b c : World} (h : Below a.heap.size a b) (k : Below b.heap.size b c) => h.trans (k.mono h.size)
  exact ⟨rfl, t (t hb1 hb2) hb3⟩
end Go.Proofs.Ytgkfmcmnlpapcaa
