/-
  Layer 18 (msg): may, whatever the kind.
-/
import Derived.Test.YtcipdimnbleljaaMay1
import Derived.Test.YtcipdimnbleljaaMay2
import Derived.Test.YtcipdimnbleljaaMay3
import Derived.Test.YtcipdimnbleljaaMay4
import Derived.Test.YtcipdimnbleljaaMay5
namespace Go.Proofs.Ytcipdimnbleljaa
open Go.RowKit
open Extern.Stop (cell)

set_option maxHeartbeats 2000000 in
set_option maxRecDepth 100000 in
theorem may0_calls (C : Array Value) (m : MV) (w : World) (hM : MsgOf C m) (h1 : m.kind ≠ 1) (h2 : m.kind ≠ 2) (h3 : m.kind ≠ 3) (h4 : m.kind ≠ 4) (h5 : m.kind ≠ 5) :
    Calls Try.prog 27 #[.agg C] w fun e w' => e = .returned (.bool (mayB m)) ∧ Below w.heap.size w w' := by
  have hX : mayB m = false := by unfold mayB; rw [if_neg h1, if_neg h2, if_neg h3, if_neg h4, if_neg h5, Bool.and_false]
  rw [hX]
  have g0 := hM.h0
  have g1 := hM.h1
  have hw1 := fun w => Lib.hid (within_calls m.round 16 w)
  generalize inB m.round 16 = p1 at hw1
  have i1 : (m.kind == 1) = false := by simpa using h1
  have i2 : (m.kind == 2) = false := by simpa using h2
  have i3 : (m.kind == 3) = false := by simpa using h3
  have i4 : (m.kind == 4) = false := by simpa using h4
  have i5 : (m.kind == 5) = false := by simpa using h5
  clear hX hM h1 h2 h3 h4 h5
  go_enter Try.func27, Try.ntmps27
  go_upto_region 0 with fail
  go_cut [1, 2] (fun s1 s2 wx => s1 = .pointer (some ⟨w.heap.size, 0, none⟩) ∧ Blk wx w.heap.size C 42 ∧ Below w.heap.size w wx)
  case first => as_aux_lemma =>
    go_wp2_with fail
    go_meet
    exact ⟨rfl, Blk.new _ _ _, (Below.refl _ _).alloc (Nat.le_refl _) _⟩
  case rest =>
  obtain ⟨rfl, hB, hb⟩ := hcut
  have k0 := hB.cell g0
  have k1 := hB.cell g1
  go_wp2_with fail
  refine (hw1 _).out.mono ?_
  rintro e w1 ⟨rfl, rfl⟩
  clear hw1 k1
  go_wp2_with fail
  go_ret
  exact ⟨rfl, hb⟩

theorem may_calls (C : Array Value) (m : MV) (w : World) (hM : MsgOf C m) (hA : MarksAt w m) (hR : MsgRg m) :
    Calls Try.prog 27 #[.agg C] w fun e w' => e = .returned (.bool (mayB m)) ∧ Below w.heap.size w w' := by
  by_cases h1 : m.kind = 1
  · exact may1_calls C m w hM hR h1
  · by_cases h2 : m.kind = 2
    · exact may2_calls C m w hM hR h2
    · by_cases h3 : m.kind = 3
      · exact may3_calls C m w hM hA hR h3
      · by_cases h4 : m.kind = 4
        · exact may4_calls C m w hM hR h4
        · by_cases h5 : m.kind = 5
          · exact may5_calls C m w hM hR h5
          · exact may0_calls C m w hM h1 h2 h3 h4 h5
end Go.Proofs.Ytcipdimnbleljaa
