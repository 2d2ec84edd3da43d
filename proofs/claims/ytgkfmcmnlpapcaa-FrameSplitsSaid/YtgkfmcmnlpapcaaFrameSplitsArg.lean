/-
  The law FrameSplits at its argument as the row hands it over: a slice of parts, opened to its cells.
-/
import Derived.Test.YtgkfmcmnlpapcaaFrameSplits
import Derived.Test.YtgkfmcmnlpapcaaOpen
namespace Go.Proofs.Ytgkfmcmnlpapcaa
open Go.ChangeShapes Go.WideShapes Go.ChangeAt Go.RowKit Go.Deep

theorem FrameSplits_calls {H : Type} {enc : TypeId × Value → H} {W : World} {base : Nat} {v : Value} {d : DataW H} {p : List MemPlace}
    (hv : Value.okWide Try.prog W .any base 37 v) (h : DataW.Trod enc Try.prog W 0 (fun _ => true) true 37 v d p) :
    Calls Try.prog 7 #[v] W fun e w' => e = .returned (.bool true) ∧ Below W.heap.size W w' := by
  obtain ⟨a, len, cap, rfl⟩ := okWide_slice Try.underlying37 hv
  obtain ⟨fuel, hf⟩ := h
  rcases open_slice_fields Try.underlying37 Try.underlying39 (by kernel_rfl) (by kernel_rfl) hf with ⟨hcs, _⟩ | ⟨x, len', cap', m, D, Pl, hcs, _, hl, hm, hmm, hx, hi⟩
  · simp [Value.cells] at hcs
    obtain ⟨rfl, rfl, rfl⟩ := hcs
    exact FrameSplits_row none 0 0 (fun _ => 0) (fun _ => ByteArray.empty) W (Nat.le_refl _) (by decide) (fun _ => by omega) (fun _ => by decide) (fun h => by omega)
  · simp [Value.cells] at hcs
    obtain ⟨rfl, rfl, rfl⟩ := hcs
    simp only [if_true] at hmm
    subst hmm
    have key : ∀ i, ∃ (k : Int) (b : ByteArray), (i < m → W.cell? (x.add (i * 2 + 0)) = some (.int .u8 k) ∧ W.cell? (x.add (i * 2 + 1)) = some (.string b)) ∧ (0 ≤ k ∧ k ≤ 255) ∧ b.size ≤ maxLen := by
      intro i
      by_cases him : i < m
      · obtain ⟨ys, n, _, _, _, hfl⟩ := hi i him
        obtain ⟨v0, y0, c0, _, t0⟩ := hfl 0 _ rfl
        obtain ⟨v1, y1, c1, _, t1⟩ := hfl 1 _ rfl
        obtain ⟨k, e0, _, wk⟩ := DataW.trod_int Try.underlying5 t0
        obtain ⟨b, e1, _, wb⟩ := DataW.trod_string Try.underlying9 t1
        simp only [List.cons.injEq, and_true] at e0 e1
        subst e0 e1
        exact ⟨k, b, fun _ => ⟨c0, c1⟩, by simpa [Lit.wf, IntKind.min, IntKind.max, IntKind.signed, IntKind.bits] using wk, wb⟩
      · exact ⟨0, ByteArray.empty, fun h => absurd h him, ⟨by omega, by omega⟩, by decide⟩
    obtain ⟨K, hK⟩ := Classical.axiomOfChoice key
    obtain ⟨S, hS⟩ := Classical.axiomOfChoice hK
    refine FrameSplits_row (some x) len m K S W hl hm (fun i => (hS i).2.1) (fun i => (hS i).2.2) ?_
    intro h0
    obtain ⟨b, off, spot⟩ := x
    have hc := ((hS 0).1 (by omega)).1
    have hspot : spot = none := by simpa [Addr.add] using World.cell?_spot hc
    subst hspot
    have hadd : ∀ n, (⟨b, off, none⟩ : Addr).add n = ⟨b, off + n, none⟩ := fun n => by unfold Addr.add; split <;> simp_all
    refine ⟨b, off, rfl, World.block_lt_of_cell? _ _ hc, fun i hi => ?_, fun i hi => ?_⟩
    · have := ((hS i).1 (by omega)).1
      rwa [hadd] at this
    · have := ((hS i).1 (by omega)).2
      rwa [hadd] at this
end Go.Proofs.Ytgkfmcmnlpapcaa
