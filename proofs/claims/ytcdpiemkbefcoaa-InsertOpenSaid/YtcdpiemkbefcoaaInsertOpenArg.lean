/-
  'InsertOpen' at its arguments as the row hands them over.
-/
import Derived.Test.YtcdpiemkbefcoaaOpa
namespace Go.Proofs.Ytcdpiemkbefcoaa
open Go.ChangeShapes Go.WideShapes Go.ChangeAt Go.RowKit

set_option maxRecDepth 100000 in
theorem arg_two8 {H : Type} {enc : TypeId × Value → H} {W : World} {base : Nat} {v : Value} {d : DataW H} {p : List MemPlace} (hv : Value.okWide Try.prog W .any base 43 v) (h : DataW.Trod enc Try.prog W 0 (fun _ => true) true 43 v d p) :
    ∃ a b : Int, ((0 ≤ a ∧ a < 256) ∧ (0 ≤ b ∧ b < 256)) ∧ v = .agg #[.int .u8 a, .int .u8 b] := by
  obtain ⟨C, rfl, hsz0⟩ := okWide_array Try.underlying43 hv
  have hc : Try.prog.cellsOf 43 = 2 := by kernel_rfl
  obtain ⟨fuel, hf⟩ := h
  obtain ⟨N, hN⟩ := open_ints Try.underlying43 Try.underlying5 (by kernel_rfl) hf
  have h0 := hN 0 (by omega)
  have h1 := hN 1 (by omega)
  refine ⟨N 0, N 1, ⟨u8_of h0.2, u8_of h1.2⟩, ?_⟩
  have e : C = [Value.int .u8 (N 0), .int .u8 (N 1)].toArray := agg_eq (by rw [hsz0, hc]; rfl) (fun j v hj => by
    match j with
    | 0 => cases hj; exact h0.1
    | 1 => cases hj; exact h1.1
    | j + 2 => simp at hj)
  rw [e]
set_option maxRecDepth 100000 in
theorem InsertOpen_calls {H : Type} {enc : TypeId × Value → H} {W : World} {base : Nat} {v0 v1 : Value} {d0 d1 : DataW H} {p0 p1 : List MemPlace}
    (hv0 : Value.okWide Try.prog W .any base 24 v0) (h0 : DataW.Trod enc Try.prog W 0 (fun _ => true) true 24 v0 d0 p0)
    (hv1 : Value.okWide Try.prog W .any base 43 v1) (h1 : DataW.Trod enc Try.prog W 0 (fun _ => true) true 43 v1 d1 p1) :
    Calls Try.prog 6 #[v0, v1] W fun e w' => e = .returned (.bool true) ∧ Below W.heap.size W w' := by
  obtain ⟨p, c, B, n, wd, k, hA, rfl⟩ := arg_draft hv0 h0
  obtain ⟨a, b, ⟨ha, hb⟩, rfl⟩ := arg_two8 hv1 h1
  exact InsertOpen_walk p c B n wd k a b W hA ha hb
end Go.Proofs.Ytcdpiemkbefcoaa
