/-
  'MsgNumbers': it returns true.
-/
import Derived.Test.YtcipdimnbleljaaWorks
namespace Go.Proofs.Ytcipdimnbleljaa
open Go.RowKit

theorem MsgNumbers_calls (w : World) : Calls Try.prog 9 #[] w fun e w' => e = .returned (.bool true) ∧ Below w.heap.size w w' := by
  go_enter Try.func9, Try.ntmps9
  go_wp2_with fail
  refine (works_calls _).mono ?_
  rintro e w1 ⟨rfl, hb1⟩
  go_wp2_with fail
  go_ret
  exact ⟨rfl, hb1⟩
end Go.Proofs.Ytcipdimnbleljaa
