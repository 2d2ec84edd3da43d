/-
  The document's side of layer 18: a draft's message, of any kind.
-/
import Derived.Test.YtcipdimnbleljaaDm1
import Derived.Test.YtcipdimnbleljaaDm2
import Derived.Test.YtcipdimnbleljaaDm3
import Derived.Test.YtcipdimnbleljaaDm4
import Derived.Test.YtcipdimnbleljaaBkP
namespace Go.Proofs.Ytcipdimnbleljaa
open Go.RowKit
open Extern.Stop (cell)

theorem draft_calls (C : Array Value) (d : DV) (w : World) (hC : DraftOf C d) (hR : DraftRg d) (hA : BysAt w d.p d.bs) : Calls Try.prog 10 #[.agg C] w (DrPost d w) := by
  have hk := hR.kind
  have h : kindD d = 1 ∨ kindD d = 2 ∨ kindD d = 3 ∨ kindD d = 4 ∨ kindD d = 5 := by unfold kindD; omega
  rcases h with h | h | h | h | h
  · exact draft1_calls C d w hC hR h
  · exact draft2_calls C d w hC hR hA h
  · exact draft3_calls C d w hC hR hA h
  · exact draft4_calls C d w hC hR h
  · exact draft5_calls C d w hC hR h
end Go.Proofs.Ytcipdimnbleljaa
