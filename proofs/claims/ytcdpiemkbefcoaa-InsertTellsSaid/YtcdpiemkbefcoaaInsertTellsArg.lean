/-
  'InsertTells' at its arguments as the row hands them over.
-/
import Derived.Test.YtcdpiemkbefcoaaTls
namespace Go.Proofs.Ytcdpiemkbefcoaa
open Go.ChangeShapes Go.WideShapes Go.ChangeAt Go.RowKit

set_option maxRecDepth 100000 in
theorem InsertTells_calls {H : Type} {enc : TypeId × Value → H} {W : World} {base : Nat} {v0 : Value} {d0 : DataW H} {p0 : List MemPlace}
    (hv0 : Value.okWide Try.prog W .any base 24 v0) (h0 : DataW.Trod enc Try.prog W 0 (fun _ => true) true 24 v0 d0 p0)
    (a : Int) (ha : (Lit.int .u8 a).wf = true) (b : Int) (hb : (Lit.int .u8 b).wf = true) :
    Calls Try.prog 3 #[v0, .int .u8 a, .int .u8 b] W fun e w' => e = .returned (.bool true) ∧ Below W.heap.size W w' := by
  obtain ⟨p, c, B, n, wd, k, hA, rfl⟩ := arg_draft hv0 h0
  exact InsertTells_walk p c B n wd k a b W hA (u8_of ha) (u8_of hb)
end Go.Proofs.Ytcdpiemkbefcoaa
