/-
  Arrays of bytes as arguments, opened.
-/
import Derived.Test.YtcdpiemkbefcoaaOpn
namespace Go.Proofs.Ytcdpiemkbefcoaa
open Go.ChangeShapes Go.WideShapes Go.ChangeAt Go.RowKit

def arr8 (N : Nat → Int) (n : Nat) : List Value := (List.range n).map fun i => .int .u8 (N i)
set_option maxRecDepth 100000 in
theorem arg_arr8 {H : Type} {enc : TypeId × Value → H} {W : World} {base n : Nat} {t : TypeId} {v : Value} {d : DataW H} {p : List MemPlace} (ht : Try.prog.underlying t = some (.array n 5)) (hc : Try.prog.cellsOf t = n)
    (hv : Value.okWide Try.prog W .any base t v) (h : DataW.Trod enc Try.prog W 0 (fun _ => true) true t v d p) :
    ∃ N : Nat → Int, (∀ i, i < n → 0 ≤ N i ∧ N i < 256) ∧ v = .agg (arr8 N n).toArray := by
  obtain ⟨C, rfl, hsz0⟩ := okWide_array ht hv
  obtain ⟨fuel, hf⟩ := h
  obtain ⟨N, hN⟩ := open_ints ht Try.underlying5 (by kernel_rfl) hf
  refine ⟨N, fun i hi => u8_of (hN i hi).2, ?_⟩
  have e : C = (arr8 N n).toArray := agg_eq (by rw [hsz0, hc]; simp [arr8]) (fun j v hj => by
    unfold arr8 at hj
    rw [List.getElem?_map] at hj
    obtain ⟨i, hi, rfl⟩ := Option.map_eq_some_iff.1 hj
    have hlt := (List.getElem?_eq_some_iff.1 hi).1
    rw [List.length_range] at hlt
    rw [List.getElem?_range hlt] at hi
    cases hi
    exact (hN _ hlt).1)
  rw [e]
end Go.Proofs.Ytcdpiemkbefcoaa
