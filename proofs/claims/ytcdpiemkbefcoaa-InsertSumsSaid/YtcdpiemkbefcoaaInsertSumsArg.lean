/-
  'InsertSums' at its arguments as the row hands them over.
-/
import Derived.Test.YtcdpiemkbefcoaaIs
namespace Go.Proofs.Ytcdpiemkbefcoaa
open Go.ChangeShapes Go.WideShapes Go.ChangeAt Go.RowKit

set_option maxRecDepth 100000 in
theorem InsertSums_calls {H : Type} {enc : TypeId × Value → H} {W : World} {base : Nat} {v0 v1 : Value} {d0 d1 : DataW H} {p0 p1 : List MemPlace}
    (hv0 : Value.okWide Try.prog W .any base 24 v0) (h0 : DataW.Trod enc Try.prog W 0 (fun _ => true) true 24 v0 d0 p0)
    (hv1 : Value.okWide Try.prog W .any base 71 v1) (h1 : DataW.Trod enc Try.prog W 0 (fun _ => true) true 71 v1 d1 p1) :
    Calls Try.prog 9 #[v0, v1] W fun e w' => e = .returned (.bool true) ∧ Below W.heap.size W w' := by
  obtain ⟨p, c, B, n, wd, k, hA, rfl⟩ := arg_draft hv0 h0
  obtain ⟨N, hN, rfl⟩ := arg_arr8 (n := 6) Try.underlying71 (by kernel_rfl) hv1 h1
  exact InsertSums_walk p c B n wd k N W hA hN
end Go.Proofs.Ytcdpiemkbefcoaa
