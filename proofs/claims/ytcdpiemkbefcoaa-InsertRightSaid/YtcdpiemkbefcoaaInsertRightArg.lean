/-
  'InsertRight' at its arguments as the row hands them over.
-/
import Derived.Test.YtcdpiemkbefcoaaIr
import Derived.Test.YtcdpiemkbefcoaaAr8
namespace Go.Proofs.Ytcdpiemkbefcoaa
open Go.ChangeShapes Go.WideShapes Go.ChangeAt Go.RowKit

set_option maxRecDepth 100000 in
theorem InsertRight_calls {H : Type} {enc : TypeId × Value → H} {W : World} {base : Nat} {v0 v2 : Value} {d0 d2 : DataW H} {p0 p2 : List MemPlace}
    (hv0 : Value.okWide Try.prog W .any base 24 v0) (h0 : DataW.Trod enc Try.prog W 0 (fun _ => true) true 24 v0 d0 p0)
    (a : Int) (ha : (Lit.int .u8 a).wf = true)
    (hv2 : Value.okWide Try.prog W .any base 43 v2) (h2 : DataW.Trod enc Try.prog W 0 (fun _ => true) true 43 v2 d2 p2) :
    Calls Try.prog 8 #[v0, .int .u8 a, v2] W fun e w' => e = .returned (.bool true) ∧ Below W.heap.size W w' := by
  obtain ⟨p, c, B, n, wd, k, hA, rfl⟩ := arg_draft hv0 h0
  obtain ⟨N, hN, rfl⟩ := arg_arr8 (n := 2) Try.underlying43 (by kernel_rfl) hv2 h2
  exact InsertRight_walk p c B n wd k a (N 0) (N 1) W hA (u8_of ha) (hN 0 (by omega)) (hN 1 (by omega))
end Go.Proofs.Ytcdpiemkbefcoaa
