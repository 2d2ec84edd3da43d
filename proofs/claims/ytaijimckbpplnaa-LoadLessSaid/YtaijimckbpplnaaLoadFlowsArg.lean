/-
  'LoadFlows' at its arguments as the row hands them over.
-/
import Derived.Test.YtaijimckbpplnaaLf
import Derived.Test.YtaijimckbpplnaaOpn
namespace Go.Proofs.Ytaijimckbpplnaa
open Go.ChangeShapes Go.WideShapes Go.ChangeAt Go.RowKit

section
variable {H : Type} {enc : TypeId × Value → H} {W : World} {base : Nat} {v : Value} {d : DataW H} {p : List MemPlace}
set_option maxRecDepth 100000 in
theorem arg_u16s (hv : Value.okWide Try.prog W .any base 22 v) (h : DataW.Trod enc Try.prog W 0 (fun _ => true) true 22 v d p) :
    ∃ (q : Option Addr) (L : List Int) (cap : Nat), v = .slice q L.length cap ∧ Els W q 1 ((L.take 12).map u16V) ∧ L.length ≤ 9223372036854775807 ∧ ∀ n ∈ L, 0 ≤ n ∧ n < 65536 := by
  obtain ⟨a, len, cap0, rfl⟩ := okWide_slice Try.underlying22 hv
  obtain ⟨fuel, hf⟩ := h
  obtain ⟨q, L, cap, e, h1, h2, h3, h4⟩ := open_rows (n := 1) (0 : Int) u16V (fun n => 0 ≤ n ∧ n < 65536) (fun _ => rfl) Try.underlying22 (by kernel_rfl) (fun fuel cs x h => (by
    obtain ⟨z, e, _, wz⟩ := DataW.trod_int Try.underlying24 h
    exact ⟨z, u16_of wz, fun j v hj => by
      match j with
      | 0 => cases hj; rw [e]; rfl
      | j + 1 => simp [u16V] at hj⟩)) hf
  exact ⟨q, L, cap, by simpa [Value.cells] using e, by rw [List.map_take]; exact h1.take 12 (by omega), by omega, h4⟩
set_option maxRecDepth 100000 in
theorem arg_u8s (hv : Value.okWide Try.prog W .any base 23 v) (h : DataW.Trod enc Try.prog W 0 (fun _ => true) true 23 v d p) :
    ∃ (q : Option Addr) (L : List Int) (cap : Nat), v = .slice q L.length cap ∧ Els W q 1 ((L.take 12).map u8C) ∧ L.length ≤ 9223372036854775807 ∧ ∀ n ∈ L, 0 ≤ n ∧ n < 256 := by
  obtain ⟨a, len, cap0, rfl⟩ := okWide_slice Try.underlying23 hv
  obtain ⟨fuel, hf⟩ := h
  obtain ⟨q, L, cap, e, h1, h2, h3, h4⟩ := open_rows (n := 1) (0 : Int) u8C (fun n => 0 ≤ n ∧ n < 256) (fun _ => rfl) Try.underlying23 (by kernel_rfl) (fun fuel cs x h => (by
    obtain ⟨z, e, _, wz⟩ := DataW.trod_int Try.underlying5 h
    exact ⟨z, u8_of wz, fun j v hj => by
      match j with
      | 0 => cases hj; rw [e]; rfl
      | j + 1 => simp [u8C] at hj⟩)) hf
  exact ⟨q, L, cap, by simpa [Value.cells] using e, by rw [List.map_take]; exact h1.take 12 (by omega), by omega, h4⟩
end
set_option maxRecDepth 100000 in
theorem LoadFlows_calls {H : Type} {enc : TypeId × Value → H} {W : World} {base : Nat} {v0 v1 : Value} {d0 d1 : DataW H} {p0 p1 : List MemPlace}
    (hv0 : Value.okWide Try.prog W .any base 22 v0) (h0 : DataW.Trod enc Try.prog W 0 (fun _ => true) true 22 v0 d0 p0)
    (hv1 : Value.okWide Try.prog W .any base 23 v1) (h1 : DataW.Trod enc Try.prog W 0 (fun _ => true) true 23 v1 d1 p1) :
    Calls Try.prog 4 #[v0, v1] W fun e w' => e = .returned (.bool true) ∧ Below W.heap.size W w' := by
  obtain ⟨p, L, c, rfl, hE, hb, hr⟩ := arg_u16s hv0 h0
  obtain ⟨p', L', c', rfl, hE', hb', hr'⟩ := arg_u8s hv1 h1
  exact flows_calls p p' c c' L L' W hE hb hr hE' hb' hr'
end Go.Proofs.Ytaijimckbpplnaa
