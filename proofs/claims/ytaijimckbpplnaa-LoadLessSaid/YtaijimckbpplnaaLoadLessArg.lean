/-
  'LoadLess' at its arguments as the row hands them over.
-/
import Derived.Test.YtaijimckbpplnaaLs
import Derived.Test.YtaijimckbpplnaaLoadFlowsArg
namespace Go.Proofs.Ytaijimckbpplnaa
open Go.ChangeShapes Go.WideShapes Go.ChangeAt Go.RowKit

set_option maxRecDepth 100000 in
theorem LoadLess_calls {H : Type} {enc : TypeId × Value → H} {W : World} {base : Nat} {v0 v1 v2 : Value} {d0 d1 d2 : DataW H} {p0 p1 p2 : List MemPlace}
    (hv0 : Value.okWide Try.prog W .any base 22 v0) (h0 : DataW.Trod enc Try.prog W 0 (fun _ => true) true 22 v0 d0 p0)
    (hv1 : Value.okWide Try.prog W .any base 23 v1) (h1 : DataW.Trod enc Try.prog W 0 (fun _ => true) true 23 v1 d1 p1)
    (hv2 : Value.okWide Try.prog W .any base 5 v2) (h2 : DataW.Trod enc Try.prog W 0 (fun _ => true) true 5 v2 d2 p2) :
    Calls Try.prog 6 #[v0, v1, v2] W fun e w' => e = .returned (.bool true) ∧ Below W.heap.size W w' := by
  obtain ⟨p, L, c, rfl, hE, hb, hr⟩ := arg_u16s hv0 h0
  obtain ⟨p', L', c', rfl, hE', hb', hr'⟩ := arg_u8s hv1 h1
  obtain ⟨a2, rfl, _, _, w2⟩ := open_int Try.underlying5 hv2 h2
  exact less_calls p p' c c' L L' W hE hb hr hE' hb' hr' a2 (u8_of w2)
end Go.Proofs.Ytaijimckbpplnaa
