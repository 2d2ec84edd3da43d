/-
  'InsertOdd' at its arguments as the row hands them over.
-/
import Derived.Test.YtcdpiemkbefcoaaOdd
import Derived.Test.YtcdpiemkbefcoaaOpn
namespace Go.Proofs.Ytcdpiemkbefcoaa
open Go.ChangeShapes Go.WideShapes Go.ChangeAt Go.RowKit

theorem take_min {α : Type} (L : List α) (k : Nat) : (L.take k).length = Nat.min L.length k := by
  rw [List.length_take, Nat.min_comm]
set_option maxRecDepth 100000 in
theorem InsertOdd_calls {H : Type} {enc : TypeId × Value → H} {W : World} {base : Nat} {v0 v1 v2 v3 : Value} {d0 d1 d2 d3 : DataW H} {p0 p1 p2 p3 : List MemPlace}
    (hv0 : Value.okWide Try.prog W .any base 28 v0) (h0 : DataW.Trod enc Try.prog W 0 (fun _ => true) true 28 v0 d0 p0)
    (hv1 : Value.okWide Try.prog W .any base 29 v1) (h1 : DataW.Trod enc Try.prog W 0 (fun _ => true) true 29 v1 d1 p1)
    (hv2 : Value.okWide Try.prog W .any base 30 v2) (h2 : DataW.Trod enc Try.prog W 0 (fun _ => true) true 30 v2 d2 p2)
    (hv3 : Value.okWide Try.prog W .any base 36 v3) (h3 : DataW.Trod enc Try.prog W 0 (fun _ => true) true 36 v3 d3 p3) :
    Calls Try.prog 4 #[v0, v1, v2, v3] W fun e w' => e = .returned (.bool true) ∧ Below W.heap.size W w' := by
  obtain ⟨v, _, rfl⟩ := arg_ve hv0 h0
  obtain ⟨p, L, c, rfl, hL, hc, hcm⟩ := arg_stops hv1 h1
  obtain ⟨p', T, c', rfl, hT, hc', hcm'⟩ := arg_rqs hv2 h2
  obtain ⟨a, b, d, _, rfl⟩ := arg_three Try.underlying36 (by kernel_rfl) hv3 h3
  have hL' := hL.take 30 (by omega)
  have hT' := hT.take 30 (by omega)
  rw [← List.map_take] at hL' hT'
  exact InsertOdd_walk (v 0) (v 1) (v 2) (v 3) (v 4) a b d p p' L.length T.length c c' _ _ (L.take 30) (T.take 30) W rfl rfl (take_min L 30) (take_min T 30) hL' hT' ⟨hc, hcm⟩ ⟨hc', hcm'⟩
end Go.Proofs.Ytcdpiemkbefcoaa
