/-
  The document's side of layer 18: May.
-/
import Derived.Test.YtcipdimnbleljaaRfC
namespace Go.Proofs.Ytcipdimnbleljaa
open Go.RowKit
open Extern.Stop (cell)

theorem msg_same {C D : Array Value} {m : MV} (h : MsgOf C m) (g : MsgOf D m) : C = D := by
  apply Array.ext_getElem?
  intro i
  by_cases hi : i < 53
  · by_cases h15 : 15 ≤ i ∧ i < 47
    · have := (h.h15 (i - 15) (by omega)).trans (g.h15 (i - 15) (by omega)).symm
      rwa [show 15 + (i - 15) = i by omega] at this
    · by_cases h5 : 5 ≤ i ∧ i < 15
      · have := (h.h5 (i - 5) (by omega)).trans (g.h5 (i - 5) (by omega)).symm
        rwa [show 5 + (i - 5) = i by omega] at this
      · have : i = 0 ∨ i = 1 ∨ i = 2 ∨ i = 3 ∨ i = 4 ∨ i = 47 ∨ i = 48 ∨ i = 49 ∨ i = 50 ∨ i = 51 ∨ i = 52 := by omega
        rcases this with rfl | rfl | rfl | rfl | rfl | rfl | rfl | rfl | rfl | rfl | rfl
        · exact h.h0.trans g.h0.symm
        · exact h.h1.trans g.h1.symm
        · exact h.h2.trans g.h2.symm
        · exact h.h3.trans g.h3.symm
        · exact h.h4.trans g.h4.symm
        · exact h.h47.trans g.h47.symm
        · exact h.h48.trans g.h48.symm
        · exact h.h49.trans g.h49.symm
        · exact h.h50.trans g.h50.symm
        · exact h.h51.trans g.h51.symm
        · exact h.h52.trans g.h52.symm
  · rw [Array.getElem?_eq_none (by rw [h.size]; omega), Array.getElem?_eq_none (by rw [g.size]; omega)]
def mixA (C : Array Value) (K : Nat → Bool) : Array Value := ((List.range 53).map fun i => if K i = true then C.getD i undef else zero53.getD i undef).toArray
theorem mixA_mix {C : Array Value} (hC : C.size = 53) (K : Nat → Bool) : Mix C (mixA C K) K := by
  refine ⟨by simp [mixA], fun i hi => ?_⟩
  have hz : zero53.size = 53 := rfl
  have e : (mixA C K)[i]? = some (if K i = true then C.getD i undef else zero53.getD i undef) := by simp [mixA, hi]
  rw [e]
  by_cases hk : K i = true
  · rw [if_pos hk, if_pos hk, Array.getElem?_eq_getElem (by omega)]
    simp [Array.getD, hC, hi]
  · rw [if_neg hk, if_neg hk, Array.getElem?_eq_getElem (by omega)]
    simp [Array.getD, hz, hi]
theorem bare_row {C : Array Value} {m : MV} (hM : MsgOf C m) : ∃ D, MsgOf D (bareM m) := by
  have hC := hM.size
  by_cases h : 1 ≤ m.kind ∧ m.kind ≤ 5
  · have h5 : m.kind = 1 ∨ m.kind = 2 ∨ m.kind = 3 ∨ m.kind = 4 ∨ m.kind = 5 := by omega
    rcases h5 with h | h | h | h | h
    · exact ⟨_, mix_of1 (mixA_mix hC fun i => decide (i = 0 ∨ i = 1 ∨ i = 3 ∨ i = 4 ∨ 5 ≤ i ∧ i < 15)) hM h (by decide) (by decide) (by decide) (by decide) (by decide) (by decide) (by decide) (by decide) (by decide) (by decide) (by decide) (by decide) (by decide)⟩
    · exact ⟨_, mix_of2 (mixA_mix hC fun i => decide (i = 0 ∨ i = 1 ∨ i = 2 ∨ 15 ≤ i ∧ i < 47)) hM h (by decide) (by decide) (by decide) (by decide) (by decide) (by decide) (by decide) (by decide) (by decide) (by decide) (by decide) (by decide) (by decide)⟩
    · exact ⟨_, mix_of3 (mixA_mix hC fun i => decide (i = 0 ∨ i = 1 ∨ i = 47)) hM h (by decide) (by decide) (by decide) (by decide) (by decide) (by decide) (by decide) (by decide) (by decide) (by decide) (by decide) (by decide) (by decide)⟩
    · exact ⟨_, mix_of4 (mixA_mix hC fun i => decide (i = 0 ∨ i = 1 ∨ i = 2 ∨ i = 48 ∨ i = 49)) hM h (by decide) (by decide) (by decide) (by decide) (by decide) (by decide) (by decide) (by decide) (by decide) (by decide) (by decide) (by decide) (by decide)⟩
    · exact ⟨_, mix_of5 (mixA_mix hC fun i => decide (i = 0 ∨ i = 1 ∨ i = 50 ∨ i = 51 ∨ i = 52)) hM h (by decide) (by decide) (by decide) (by decide) (by decide) (by decide) (by decide) (by decide) (by decide) (by decide) (by decide) (by decide) (by decide)⟩
  · exact ⟨_, mix_of0 (mixA_mix hC fun i => decide (i = 0 ∨ i = 1)) hM h (by decide) (by decide) (by decide) (by decide) (by decide) (by decide) (by decide) (by decide) (by decide) (by decide) (by decide) (by decide) (by decide)⟩
theorem bare_marks {w : World} {m : MV} (h : MksAt w m.p m.ms) : MksAt w (bareM m).p (bareM m).ms := by
  unfold bareM
  have hn : MksAt w zeroM.p zeroM.ms := ⟨fun _ => rfl, (fun x hx => by cases hx), by show 0 ≤ _; omega, (fun a ha => by cases ha)⟩
  split
  · exact hn
  · split
    · exact hn
    · split
      · exact h
      · split
        · exact hn
        · split
          · exact hn
          · exact hn
section
variable {ρ : Operand → Value} {o : Oper} {w : World} {x : Operand} {n k : Int}
theorem run_lssF (h : ¬ n < k) (ho : o.op = .binOp .lss 3 x (.const (.int .i64 k)) 3) (hx : ρ x = .int .i64 n) (hc : ∀ v, ρ (.const v) = v) : (execOp ρ o).run Try.prog w = .ok (.value (.bool false)) w := by
  unfold execOp
  simp only [ho, hx, hc]
  go_simp
theorem run_gtrF (h : ¬ n > k) (ho : o.op = .binOp .gtr 3 x (.const (.int .i64 k)) 3) (hx : ρ x = .int .i64 n) (hc : ∀ v, ρ (.const v) = v) : (execOp ρ o).run Try.prog w = .ok (.value (.bool false)) w := by
  have h' : ¬ k < n := h
  unfold execOp
  simp only [ho, hx, hc]
  go_simp
theorem run_geqF (h : ¬ n ≥ k) (ho : o.op = .binOp .geq 3 x (.const (.int .i64 k)) 3) (hx : ρ x = .int .i64 n) (hc : ∀ v, ρ (.const v) = v) : (execOp ρ o).run Try.prog w = .ok (.value (.bool false)) w := by
  have h' : ¬ k ≤ n := h
  unfold execOp
  simp only [ho, hx, hc]
  go_simp
theorem run_callbare {C : Array Value} (ho : o.op = .call { callee := .value (.func 47), args := #[x], argTypes := #[42] }) (hx : ρ x = .agg C)
    (hf : ρ (.func 47) = .func (.func 47) #[] #[]) : (execOp ρ o).run Try.prog w = .ok (.enter 47 #[.agg C]) w := by
  unfold execOp
  simp only [ho]
  go_simp
end
end Go.Proofs.Ytcipdimnbleljaa
