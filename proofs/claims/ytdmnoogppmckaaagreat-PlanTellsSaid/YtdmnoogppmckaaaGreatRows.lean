/-
  No cell of these rows narrows 'for every input' (looked for: loops, veiled, ifaces, maps, wideKeys, modest, calm, conditions, laid).
  DERIVED. THE GIVEN ROWS OF THIS SEAT. 6 by the template 'for every input the law returns true; each argument reads behind the call as it read before'; 0 by the template 'total and deterministic' (their statements: YtdmnoogppmckaaaGreatTotals.lean).
  GIVEN WITH THE SEED: the statements are not yours to turn. If you find one false, say at which input.
  Laid BY PROGRAM, IN A SANDBOX (cutbox-rows.mjs): the forced cells as the released guide's own fill.sh prints them over the translation a62d5f51efbcf150… (all of the seat's roots in one cut). By AI agents, Wed Nov 11 2026. No macro, syntax, notation, axiom, sorry.
-/
import Derived.Test.YtdmnoogppmckaaaGreatChecked
import GoSem.Claim
import GoSem.ClaimJoined
import GoSem.ClaimMapViews
import Derived.JoinedTies
import Derived.KernelRfl
namespace Go.Proofs.YtdmnoogppmckaaaGreat
/- THE CELL 'sum', in the pinned program and in every row, IS THE sha256 OF THE DUMP (.gsa) THAT YtdmnoogppmckaaaGreatProg.lean LOADS. Nothing in Lean hashes anything: it is a label: what it is worth is what the hold of that sum in a sandbox is worth. -/
noncomputable def Tryz.pinned : Pinned := { name := "ytdmnoogppmckaaagreat", sum := "a62d5f51efbcf1501819a3ee2057ff7c333fefc3b9023b12cbb37ce1bdb98938", checked := Tryz.checked }
namespace Rows
def none {H : Type} : Left H := { results := [], args := [] }

/-- 'consignlaw13.PlanNew': WHATEVER THE INPUT: true; the input reads as it did. -/
def planNewSpec : ChangeSpec := { name := "planNew", fn := fun _ => fun
  | [d1, d2] => { results := [.lit (.bool true)], args := [d1, d2] }
  | _ => none }
def planNewRow : OpenClaim := { program := "ytdmnoogppmckaaagreat", sum := "a62d5f51efbcf1501819a3ee2057ff7c333fefc3b9023b12cbb37ce1bdb98938", func := "consign/consignlaw13.PlanNew", spec := "planNew", unfollowed := true, recurses := true, apart := false }
def PlanNewSaid : Prop := planNewRow.holds Tryz.pinned (OpenSpec.ofChange planNewSpec)

/-- ITS FALSE NEIGHBOUR: 'it returns false'. Refute it at one input. -/
def planNewWrong : ChangeSpec := { name := "planNew", fn := fun _ => fun
  | [d1, d2] => { results := [.lit (.bool false)], args := [d1, d2] }
  | _ => none }
def PlanNewWrongFalsely : Prop := planNewRow.holds Tryz.pinned (OpenSpec.ofChange planNewWrong)

/-- 'consignlaw13.PlanLeast': WHATEVER THE INPUT: true; the input reads as it did. -/
def planLeastSpec : ChangeSpec := { name := "planLeast", fn := fun _ => fun
  | [d1, d2, d3] => { results := [.lit (.bool true)], args := [d1, d2, d3] }
  | _ => none }
def planLeastRow : OpenClaim := { program := "ytdmnoogppmckaaagreat", sum := "a62d5f51efbcf1501819a3ee2057ff7c333fefc3b9023b12cbb37ce1bdb98938", func := "consign/consignlaw13.PlanLeast", spec := "planLeast", unfollowed := true, recurses := true, apart := false }
def PlanLeastSaid : Prop := planLeastRow.holds Tryz.pinned (OpenSpec.ofChange planLeastSpec)

/-- ITS FALSE NEIGHBOUR: 'it returns false'. Refute it at one input. -/
def planLeastWrong : ChangeSpec := { name := "planLeast", fn := fun _ => fun
  | [d1, d2, d3] => { results := [.lit (.bool false)], args := [d1, d2, d3] }
  | _ => none }
def PlanLeastWrongFalsely : Prop := planLeastRow.holds Tryz.pinned (OpenSpec.ofChange planLeastWrong)

/-- 'consignlaw13.PlanUndo': WHATEVER THE INPUT: true; the input reads as it did. -/
def planUndoSpec : ChangeSpec := { name := "planUndo", fn := fun _ => fun
  | [d1, d2, d3] => { results := [.lit (.bool true)], args := [d1, d2, d3] }
  | _ => none }
def planUndoRow : OpenClaim := { program := "ytdmnoogppmckaaagreat", sum := "a62d5f51efbcf1501819a3ee2057ff7c333fefc3b9023b12cbb37ce1bdb98938", func := "consign/consignlaw13.PlanUndo", spec := "planUndo", unfollowed := true, recurses := true, apart := false }
def PlanUndoSaid : Prop := planUndoRow.holds Tryz.pinned (OpenSpec.ofChange planUndoSpec)

/-- ITS FALSE NEIGHBOUR: 'it returns false'. Refute it at one input. -/
def planUndoWrong : ChangeSpec := { name := "planUndo", fn := fun _ => fun
  | [d1, d2, d3] => { results := [.lit (.bool false)], args := [d1, d2, d3] }
  | _ => none }
def PlanUndoWrongFalsely : Prop := planUndoRow.holds Tryz.pinned (OpenSpec.ofChange planUndoWrong)

/-- 'consignlaw13.PlanTells': WHATEVER THE INPUT: true; the input reads as it did. -/
def planTellsSpec : ChangeSpec := { name := "planTells", fn := fun _ => fun
  | [d1, d2] => { results := [.lit (.bool true)], args := [d1, d2] }
  | _ => none }
def planTellsRow : OpenClaim := { program := "ytdmnoogppmckaaagreat", sum := "a62d5f51efbcf1501819a3ee2057ff7c333fefc3b9023b12cbb37ce1bdb98938", func := "consign/consignlaw13.PlanTells", spec := "planTells", inPlace := ["maps.clone"], unfollowed := true, recurses := true, apart := false }
def PlanTellsSaid : Prop := planTellsRow.holds Tryz.pinned (OpenSpec.ofChange planTellsSpec)

/-- ITS FALSE NEIGHBOUR: 'it returns false'. Refute it at one input. -/
def planTellsWrong : ChangeSpec := { name := "planTells", fn := fun _ => fun
  | [d1, d2] => { results := [.lit (.bool false)], args := [d1, d2] }
  | _ => none }
def PlanTellsWrongFalsely : Prop := planTellsRow.holds Tryz.pinned (OpenSpec.ofChange planTellsWrong)

/-- 'consignlaw13.PlanRight': WHATEVER THE INPUT: true; the input reads as it did. -/
def planRightSpec : ChangeSpec := { name := "planRight", fn := fun _ => fun
  | [d1, d2] => { results := [.lit (.bool true)], args := [d1, d2] }
  | _ => none }
def planRightRow : OpenClaim := { program := "ytdmnoogppmckaaagreat", sum := "a62d5f51efbcf1501819a3ee2057ff7c333fefc3b9023b12cbb37ce1bdb98938", func := "consign/consignlaw13.PlanRight", spec := "planRight", unfollowed := true, recurses := true, apart := false }
def PlanRightSaid : Prop := planRightRow.holds Tryz.pinned (OpenSpec.ofChange planRightSpec)

/-- ITS FALSE NEIGHBOUR: 'it returns false'. Refute it at one input. -/
def planRightWrong : ChangeSpec := { name := "planRight", fn := fun _ => fun
  | [d1, d2] => { results := [.lit (.bool false)], args := [d1, d2] }
  | _ => none }
def PlanRightWrongFalsely : Prop := planRightRow.holds Tryz.pinned (OpenSpec.ofChange planRightWrong)

/-- 'consignlaw13.PlanOwn': WHATEVER THE INPUT: true; the input reads as it did. -/
def planOwnSpec : ChangeSpec := { name := "planOwn", fn := fun _ => fun
  | [d1, d2] => { results := [.lit (.bool true)], args := [d1, d2] }
  | _ => none }
def planOwnRow : OpenClaim := { program := "ytdmnoogppmckaaagreat", sum := "a62d5f51efbcf1501819a3ee2057ff7c333fefc3b9023b12cbb37ce1bdb98938", func := "consign/consignlaw13.PlanOwn", spec := "planOwn", inPlace := ["maps.clone"], unfollowed := true, recurses := true, apart := false }
def PlanOwnSaid : Prop := planOwnRow.holds Tryz.pinned (OpenSpec.ofChange planOwnSpec)

/-- ITS FALSE NEIGHBOUR: 'it returns false'. Refute it at one input. -/
def planOwnWrong : ChangeSpec := { name := "planOwn", fn := fun _ => fun
  | [d1, d2] => { results := [.lit (.bool false)], args := [d1, d2] }
  | _ => none }
def PlanOwnWrongFalsely : Prop := planOwnRow.holds Tryz.pinned (OpenSpec.ofChange planOwnWrong)

/- THE SECOND FORM. 'bulk': how many values and letters a reading holds, each counted each time it is reached (what is shared counts as often as it is met; a slice's spare places count too). A statement '..UptoSaid' is the law's where the arguments, and the package variables that the reading takes, are together of bulk at most 1048576: NARROWER than '..Said'. Prove '..Said' where nothing that the law and all that it calls make is longer than what came in: it says more and counts as full. Else prove '..UptoSaid'. A law counts once. -/
mutual
def uptoBulk {H : Type} : DataW H → Nat
  | .lit (.string bytes) => bytes.length + 1
  | .lit _ => 1
  | .nil => 1
  | .ptr d => uptoBulk d + 1
  | .slice elems spare => uptoBulkAll elems + uptoBulkAll spare + 1
  | .agg parts => uptoBulkAll parts + 1
  | .iface _ d => uptoBulk d + 1
  | .map entries => uptoBulkEntries entries + 1
  | .held _ => 1
def uptoBulkAll {H : Type} : List (DataW H) → Nat
  | [] => 0
  | d :: r => uptoBulk d + uptoBulkAll r
def uptoBulkEntries {H : Type} : List (Lit × DataW H) → Nat
  | [] => 0
  | x :: r => uptoBulkEntry x + uptoBulkEntries r
def uptoBulkEntry {H : Type} : Lit × DataW H → Nat
  | (.string bytes, d) => bytes.length + uptoBulk d + 1
  | (_, d) => uptoBulk d + 1
 end
def uptoSmall : (H : Type) → List (DataW H) → Bool := fun _ ds => decide (uptoBulkAll ds ≤ 1048576)
def OpenSpec.upto (s : _root_.Go.ChangeSpec) : _root_.Go.OpenSpec := { _root_.Go.OpenSpec.ofChange s with cond := some uptoSmall }

/-- 'consignlaw13.PlanNew', WHERE WHAT IT READS IS OF BULK AT MOST 1048576: true; the input reads as it did. -/
def planNewUptoRow : OpenClaim := { program := "ytdmnoogppmckaaagreat", sum := "a62d5f51efbcf1501819a3ee2057ff7c333fefc3b9023b12cbb37ce1bdb98938", func := "consign/consignlaw13.PlanNew", spec := "planNew", unfollowed := true, recurses := true, apart := false, narrowed := true }
def PlanNewUptoSaid : Prop := planNewUptoRow.holds Tryz.pinned (OpenSpec.upto planNewSpec)

/-- 'consignlaw13.PlanLeast', WHERE WHAT IT READS IS OF BULK AT MOST 1048576: true; the input reads as it did. -/
def planLeastUptoRow : OpenClaim := { program := "ytdmnoogppmckaaagreat", sum := "a62d5f51efbcf1501819a3ee2057ff7c333fefc3b9023b12cbb37ce1bdb98938", func := "consign/consignlaw13.PlanLeast", spec := "planLeast", unfollowed := true, recurses := true, apart := false, narrowed := true }
def PlanLeastUptoSaid : Prop := planLeastUptoRow.holds Tryz.pinned (OpenSpec.upto planLeastSpec)

/-- 'consignlaw13.PlanUndo', WHERE WHAT IT READS IS OF BULK AT MOST 1048576: true; the input reads as it did. -/
def planUndoUptoRow : OpenClaim := { program := "ytdmnoogppmckaaagreat", sum := "a62d5f51efbcf1501819a3ee2057ff7c333fefc3b9023b12cbb37ce1bdb98938", func := "consign/consignlaw13.PlanUndo", spec := "planUndo", unfollowed := true, recurses := true, apart := false, narrowed := true }
def PlanUndoUptoSaid : Prop := planUndoUptoRow.holds Tryz.pinned (OpenSpec.upto planUndoSpec)

/-- 'consignlaw13.PlanTells', WHERE WHAT IT READS IS OF BULK AT MOST 1048576: true; the input reads as it did. -/
def planTellsUptoRow : OpenClaim := { program := "ytdmnoogppmckaaagreat", sum := "a62d5f51efbcf1501819a3ee2057ff7c333fefc3b9023b12cbb37ce1bdb98938", func := "consign/consignlaw13.PlanTells", spec := "planTells", inPlace := ["maps.clone"], unfollowed := true, recurses := true, apart := false, narrowed := true }
def PlanTellsUptoSaid : Prop := planTellsUptoRow.holds Tryz.pinned (OpenSpec.upto planTellsSpec)

/-- 'consignlaw13.PlanRight', WHERE WHAT IT READS IS OF BULK AT MOST 1048576: true; the input reads as it did. -/
def planRightUptoRow : OpenClaim := { program := "ytdmnoogppmckaaagreat", sum := "a62d5f51efbcf1501819a3ee2057ff7c333fefc3b9023b12cbb37ce1bdb98938", func := "consign/consignlaw13.PlanRight", spec := "planRight", unfollowed := true, recurses := true, apart := false, narrowed := true }
def PlanRightUptoSaid : Prop := planRightUptoRow.holds Tryz.pinned (OpenSpec.upto planRightSpec)

/-- 'consignlaw13.PlanOwn', WHERE WHAT IT READS IS OF BULK AT MOST 1048576: true; the input reads as it did. -/
def planOwnUptoRow : OpenClaim := { program := "ytdmnoogppmckaaagreat", sum := "a62d5f51efbcf1501819a3ee2057ff7c333fefc3b9023b12cbb37ce1bdb98938", func := "consign/consignlaw13.PlanOwn", spec := "planOwn", inPlace := ["maps.clone"], unfollowed := true, recurses := true, apart := false, narrowed := true }
def PlanOwnUptoSaid : Prop := planOwnUptoRow.holds Tryz.pinned (OpenSpec.upto planOwnSpec)

end Rows
end Go.Proofs.YtdmnoogppmckaaaGreat
